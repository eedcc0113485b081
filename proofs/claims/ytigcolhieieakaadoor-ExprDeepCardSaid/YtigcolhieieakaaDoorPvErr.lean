/- Too many blocks in one another: what Decode answers. (PvZ6) -/
import Derived.Test.YtigcolhieieakaaDoorPvM8
namespace Go.Pv
open Go Go.Proofs Go.RowKit
set_option linter.unusedVariables false
set_option linter.unusedSimpArgs false
set_option maxRecDepth 100000

/-- Blocks that are begun, and ended. -/
def dB (k : Nat) : List Int := (List.replicate k [2, 64]).flatten ++ List.replicate (k + 1) 11
theorem pureW_of_isAns {f : FuncId} {vs : List AV} {r : AV} {n : Nat} (h : isAns (evalCall TS n f vs St.start) r = true) : PureW TS f vs r := by
  unfold isAns at h
  split at h
  · rename_i x σ he
    simp only [Bool.and_eq_true] at h
    exact ⟨n, x, σ, he, AV.eqb_eq h.1, h.2⟩
  · simp at h
theorem w_deep65 : PureW TS 10 [.sl (u8s (dB 65)) 0] (.t [.sl [] 0, .i .i64 128, errV 9]) := pureW_of_isAns (n := 100000) (by kernel_rfl)
theorem w_deep66 : PureW TS 10 [.sl (u8s (dB 66)) 0] (.t [.sl [] 0, .i .i64 128, errV 9]) := pureW_of_isAns (n := 100000) (by kernel_rfl)
theorem w_deep67 : PureW TS 10 [.sl (u8s (dB 67)) 0] (.t [.sl [] 0, .i .i64 128, errV 9]) := pureW_of_isAns (n := 100000) (by kernel_rfl)
theorem w_deepN (k : Nat) (h : 65 ≤ k) (h' : k ≤ 67) : PureW TS 10 [.sl (u8s (dB k)) 0] (.t [.sl [] 0, .i .i64 128, errV 9]) := by
  have : k = 65 ∨ k = 66 ∨ k = 67 := by omega
  rcases this with rfl | rfl | rfl
  · exact w_deep65
  · exact w_deep66
  · exact w_deep67
end Go.Pv
