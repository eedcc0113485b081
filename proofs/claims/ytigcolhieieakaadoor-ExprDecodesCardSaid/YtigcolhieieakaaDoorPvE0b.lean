/- The document's Float, at all 256 numbers. -/
import Derived.Test.YtigcolhieieakaaDoorPvZ8
namespace Go.Pv
open Go Go.Proofs Go.RowKit
set_option maxRecDepth 100000
noncomputable def rfloatAt (k : Nat) : Bool := match gFloat k with | some r => isAns (evalCall TS 100000 42 [.i .u8 (.ofNat k)] St.start) r | none => true
theorem rfloat0 : (List.range' 0 16).all rfloatAt = true := by kernel_rfl
theorem rfloat1 : (List.range' 16 16).all rfloatAt = true := by kernel_rfl
theorem rfloat2 : (List.range' 32 16).all rfloatAt = true := by kernel_rfl
theorem rfloat3 : (List.range' 48 16).all rfloatAt = true := by kernel_rfl
theorem rfloat4 : (List.range' 64 16).all rfloatAt = true := by kernel_rfl
theorem rfloat5 : (List.range' 80 16).all rfloatAt = true := by kernel_rfl
theorem rfloat6 : (List.range' 96 16).all rfloatAt = true := by kernel_rfl
theorem rfloat7 : (List.range' 112 16).all rfloatAt = true := by kernel_rfl
theorem rfloat8 : (List.range' 128 16).all rfloatAt = true := by kernel_rfl
theorem rfloat9 : (List.range' 144 16).all rfloatAt = true := by kernel_rfl
theorem rfloat10 : (List.range' 160 16).all rfloatAt = true := by kernel_rfl
theorem rfloat11 : (List.range' 176 16).all rfloatAt = true := by kernel_rfl
theorem rfloat12 : (List.range' 192 16).all rfloatAt = true := by kernel_rfl
theorem rfloat13 : (List.range' 208 16).all rfloatAt = true := by kernel_rfl
theorem rfloat14 : (List.range' 224 16).all rfloatAt = true := by kernel_rfl
theorem rfloat15 : (List.range' 240 16).all rfloatAt = true := by kernel_rfl
theorem w_rfloat (k : Nat) (hk : k < 256) : PureW TS 42 [.i .u8 (k : Int)] (.b (match floatL[k]? with | some b => b | none => false)) := by
  have hl : k < floatL.length := hk
  have h : rfloatAt k = true := by
    have hc : (0 ≤ k ∧ k < 16) ∨ (16 ≤ k ∧ k < 32) ∨ (32 ≤ k ∧ k < 48) ∨ (48 ≤ k ∧ k < 64) ∨ (64 ≤ k ∧ k < 80) ∨ (80 ≤ k ∧ k < 96) ∨ (96 ≤ k ∧ k < 112) ∨ (112 ≤ k ∧ k < 128) ∨ (128 ≤ k ∧ k < 144) ∨ (144 ≤ k ∧ k < 160) ∨ (160 ≤ k ∧ k < 176) ∨ (176 ≤ k ∧ k < 192) ∨ (192 ≤ k ∧ k < 208) ∨ (208 ≤ k ∧ k < 224) ∨ (224 ≤ k ∧ k < 240) ∨ (240 ≤ k ∧ k < 256) := by omega
    rcases hc with h | h | h | h | h | h | h | h | h | h | h | h | h | h | h | h
    · exact List.all_eq_true.1 rfloat0 k (List.mem_range'_1.2 (by omega))
    · exact List.all_eq_true.1 rfloat1 k (List.mem_range'_1.2 (by omega))
    · exact List.all_eq_true.1 rfloat2 k (List.mem_range'_1.2 (by omega))
    · exact List.all_eq_true.1 rfloat3 k (List.mem_range'_1.2 (by omega))
    · exact List.all_eq_true.1 rfloat4 k (List.mem_range'_1.2 (by omega))
    · exact List.all_eq_true.1 rfloat5 k (List.mem_range'_1.2 (by omega))
    · exact List.all_eq_true.1 rfloat6 k (List.mem_range'_1.2 (by omega))
    · exact List.all_eq_true.1 rfloat7 k (List.mem_range'_1.2 (by omega))
    · exact List.all_eq_true.1 rfloat8 k (List.mem_range'_1.2 (by omega))
    · exact List.all_eq_true.1 rfloat9 k (List.mem_range'_1.2 (by omega))
    · exact List.all_eq_true.1 rfloat10 k (List.mem_range'_1.2 (by omega))
    · exact List.all_eq_true.1 rfloat11 k (List.mem_range'_1.2 (by omega))
    · exact List.all_eq_true.1 rfloat12 k (List.mem_range'_1.2 (by omega))
    · exact List.all_eq_true.1 rfloat13 k (List.mem_range'_1.2 (by omega))
    · exact List.all_eq_true.1 rfloat14 k (List.mem_range'_1.2 (by omega))
    · exact List.all_eq_true.1 rfloat15 k (List.mem_range'_1.2 (by omega))
  unfold rfloatAt gFloat at h
  rw [List.getElem?_eq_getElem hl] at h ⊢
  simp only at h ⊢
  unfold isAns at h
  split at h
  · rename_i x σ he
    simp only [Bool.and_eq_true] at h
    exact ⟨100000, x, σ, he, AV.eqb_eq h.1, h.2⟩
  · simp at h
end Go.Pv
