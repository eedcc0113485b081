/- The document's forms, at all 256 numbers. -/
import Derived.Test.YtigcolhieieakaaDoorPvZ8
namespace Go.Pv
open Go Go.Proofs Go.RowKit
set_option maxRecDepth 100000
noncomputable def rformAt (k : Nat) : Bool := match gFormR k with | some r => isAns (evalCall TS 100000 34 [.i .u8 (.ofNat k)] St.start) r | none => true
theorem rform0 : (List.range' 0 16).all rformAt = true := by kernel_rfl
theorem rform1 : (List.range' 16 16).all rformAt = true := by kernel_rfl
theorem rform2 : (List.range' 32 16).all rformAt = true := by kernel_rfl
theorem rform3 : (List.range' 48 16).all rformAt = true := by kernel_rfl
theorem rform4 : (List.range' 64 16).all rformAt = true := by kernel_rfl
theorem rform5 : (List.range' 80 16).all rformAt = true := by kernel_rfl
theorem rform6 : (List.range' 96 16).all rformAt = true := by kernel_rfl
theorem rform7 : (List.range' 112 16).all rformAt = true := by kernel_rfl
theorem rform8 : (List.range' 128 16).all rformAt = true := by kernel_rfl
theorem rform9 : (List.range' 144 16).all rformAt = true := by kernel_rfl
theorem rform10 : (List.range' 160 16).all rformAt = true := by kernel_rfl
theorem rform11 : (List.range' 176 16).all rformAt = true := by kernel_rfl
theorem rform12 : (List.range' 192 16).all rformAt = true := by kernel_rfl
theorem rform13 : (List.range' 208 16).all rformAt = true := by kernel_rfl
theorem rform14 : (List.range' 224 16).all rformAt = true := by kernel_rfl
theorem rform15 : (List.range' 240 16).all rformAt = true := by kernel_rfl
theorem rform_all : (List.range 256).all (fun k => match gFormR k with | some r => isAns (evalCall TS 100000 34 [.i .u8 (.ofNat k)] St.start) r | none => true) = true := by
  rw [List.all_eq_true]
  intro k hk
  have hk := List.mem_range.1 hk
  show rformAt k = true
  have hc : (0 ≤ k ∧ k < 16) ∨ (16 ≤ k ∧ k < 32) ∨ (32 ≤ k ∧ k < 48) ∨ (48 ≤ k ∧ k < 64) ∨ (64 ≤ k ∧ k < 80) ∨ (80 ≤ k ∧ k < 96) ∨ (96 ≤ k ∧ k < 112) ∨ (112 ≤ k ∧ k < 128) ∨ (128 ≤ k ∧ k < 144) ∨ (144 ≤ k ∧ k < 160) ∨ (160 ≤ k ∧ k < 176) ∨ (176 ≤ k ∧ k < 192) ∨ (192 ≤ k ∧ k < 208) ∨ (208 ≤ k ∧ k < 224) ∨ (224 ≤ k ∧ k < 240) ∨ (240 ≤ k ∧ k < 256) := by omega
  rcases hc with h | h | h | h | h | h | h | h | h | h | h | h | h | h | h | h
  · exact List.all_eq_true.1 rform0 k (List.mem_range'_1.2 (by omega))
  · exact List.all_eq_true.1 rform1 k (List.mem_range'_1.2 (by omega))
  · exact List.all_eq_true.1 rform2 k (List.mem_range'_1.2 (by omega))
  · exact List.all_eq_true.1 rform3 k (List.mem_range'_1.2 (by omega))
  · exact List.all_eq_true.1 rform4 k (List.mem_range'_1.2 (by omega))
  · exact List.all_eq_true.1 rform5 k (List.mem_range'_1.2 (by omega))
  · exact List.all_eq_true.1 rform6 k (List.mem_range'_1.2 (by omega))
  · exact List.all_eq_true.1 rform7 k (List.mem_range'_1.2 (by omega))
  · exact List.all_eq_true.1 rform8 k (List.mem_range'_1.2 (by omega))
  · exact List.all_eq_true.1 rform9 k (List.mem_range'_1.2 (by omega))
  · exact List.all_eq_true.1 rform10 k (List.mem_range'_1.2 (by omega))
  · exact List.all_eq_true.1 rform11 k (List.mem_range'_1.2 (by omega))
  · exact List.all_eq_true.1 rform12 k (List.mem_range'_1.2 (by omega))
  · exact List.all_eq_true.1 rform13 k (List.mem_range'_1.2 (by omega))
  · exact List.all_eq_true.1 rform14 k (List.mem_range'_1.2 (by omega))
  · exact List.all_eq_true.1 rform15 k (List.mem_range'_1.2 (by omega))
def rformV (op : Nat) : AV := match formN op with
  | some f => .t [.i .i64 f, .b true]
  | none => .t [.i .i64 0, .b false]
theorem rform_of (op : Nat) (h : op < 256) : gFormR op = some (rformV op) := by
  unfold gFormR rformV formN
  have hl : op < formL.length := h
  rw [List.getElem?_eq_getElem hl]
  generalize formL[op] = f
  match f with
  | 0 => rfl
  | 1 => rfl
  | 2 => rfl
  | 3 => rfl
  | 4 => rfl
  | 5 => rfl
  | 6 => rfl
  | 7 => rfl
  | 8 => rfl
  | 9 => rfl
  | 10 => rfl
  | _ + 11 => rfl
theorem w_rform (op : Nat) (h : op < 256) : PureW TS 34 [.i .u8 op] (rformV op) := by
  have := List.all_eq_true.1 rform_all op (List.mem_range.2 h)
  rw [rform_of op h] at this
  simp only at this
  unfold isAns at this
  split at this
  · rename_i x σ he
    simp only [Bool.and_eq_true] at this
    exact ⟨100000, x, σ, he, AV.eqb_eq this.1, this.2⟩
  · simp at this

end Go.Pv
