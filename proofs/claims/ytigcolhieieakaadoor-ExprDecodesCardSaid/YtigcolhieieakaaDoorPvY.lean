/- slices.Equal of numbers. -/
import Derived.Test.YtigcolhieieakaaDoorPvX
namespace Go.Pv
open Go Go.Proofs Go.RowKit
set_option linter.unusedVariables false
set_option linter.unusedSimpArgs false
set_option maxRecDepth 100000
def u32s (l : List Int) : List AV := l.map (.i .u32)
theorem u32s_get {l : List Int} {i : Nat} (h : i < l.length) : (u32s l)[i]? = some (.i .u32 l[i]) := by simp [u32s, h]
theorem u32s_len (l : List Int) : (u32s l).length = l.length := by simp [u32s]
noncomputable def K29 : Code := cl (cr (cl (cr (cr (fb Tryd.f29)))))

theorem take_succ_eq {α : Type} {xs ys : List α} {i : Nat} (hx : i < xs.length) (hy : i < ys.length) (h : xs.take i = ys.take i) (e : xs[i] = ys[i]) : xs.take (i + 1) = ys.take (i + 1) := by
  rw [List.take_add_one, List.take_add_one, h, List.getElem?_eq_getElem hx, List.getElem?_eq_getElem hy, e]

theorem loop29 (xs ys : List Int) (a b : Nat) (Q : Ex → Fr → St → Prop) (hl : xs.length = ys.length) (hb : xs.length < 4611686018427387904)
    (h1 : xs = ys → ∀ fr σ, Q (.exit 0) fr σ) (h2 : xs ≠ ys → ∀ fr σ, fr.rd 4 = .b false → Q .ret fr σ) :
    ∀ k i fr σ, i + k = xs.length → xs.take i = ys.take i → fr.rd 0 = .sl (u32s xs) a → fr.rd 1 = .sl (u32s ys) b → fr.rd 12 = .i .i64 xs.length → fr.rd 13 = .i .i64 i → CodeW TS K29 fr σ Q := by
  intro k
  induction k with
  | zero =>
    intro i fr σ hk ht r0 r1 r12 r13
    have e : xs = ys := by rw [List.take_of_length_le (by omega), List.take_of_length_le (by omega)] at ht; exact ht
    have hd : decide ((i : Int) < xs.length) = false := decide_eq_false (by omega)
    simp only [K29, fb, Tryd.f29, cl, cr, Option.getD]
    rw [cw_loop]
    simp only [↓cw_exit, ↓cw_seq, ↓cw_cond, ↓cw_region, ↓then_normal, ↓then_exit, ↓draw_false, ↓ow_nil, ↓ow_cons, ↓contO_eq, ↓op_binOp, ↓force_DC, vW_some, bW_false, ifW_some, setD_some, on2_some, biV_eq, opd, rd_set, binV, intV, isConst, reduceIte, Bool.or_false, List.length_cons, List.length_nil, Nat.zero_add, St.bump, List.size_toArray, r12, r13, hd]
    exact h1 e _ _
  | succ k ih =>
    intro i fr σ hk ht r0 r1 r12 r13
    have hd : decide ((i : Int) < xs.length) = true := decide_eq_true (by omega)
    have h0i : (0 : Int) ≤ i := by omega
    have hx := u32s_get (l := xs) (i := i) (by omega)
    have hy := u32s_get (l := ys) (i := i) (by omega)
    have hw := fw_add1 (n := i) (by omega)
    simp only [K29, fb, Tryd.f29, cl, cr, Option.getD]
    rw [cw_loop]
    simp only [↓cw_skip, ↓cw_seq, ↓cw_block, ↓cw_cond, ↓cw_region, ↓then_normal, ↓draw_false, ↓draw_true, ↓ow_nil, ↓ow_cons, ↓contO_eq, ↓op_move, ↓op_assign, ↓op_load, ↓op_binOp, ↓op_indexAddr, ↓force_DC, ↓force_DQ, vW_some, bW_true, bW_false, ifW_some, setD_some, on1_some, on2_some, ldV_eq, biV_eq, opd, rd_set, binV, intV, isConst, idxAddrV, loadV, take?, AV.cells, hasStore, isStore, undF, aggF, infF, Nat.reduceEqDiff, Nat.reduceAdd, Nat.reduceLeDiff, reduceIte, reduceCtorEq, Bool.or_false, List.any, List.length_cons, List.length_nil, List.getElem?_cons_zero, List.drop_zero, List.take_succ_cons, List.take_zero, Nat.zero_add, St.bump, Nat.add_assoc, Int.toNat_natCast, List.size_toArray, r0, r1, r12, r13, hd, h0i, hx, hy, Int.toNat_natCast]
    refine bW_intro (fun h => ?_) fun h => ?_
    · simp only [↓cw_ret, ↓cw_seq, ↓cw_region, ↓then_normal, ↓then_ret, ↓block_ret, ↓draw_false, ↓ow_nil, ↓ow_cons, ↓contO_eq, ↓op_assign, ↓force_DC, vW_some, setD_some, opd, ofConst, leaf, Nat.reduceAdd, List.length_cons, List.length_nil, Nat.zero_add, St.bump, Nat.add_assoc, List.size_toArray]
      refine h2 (fun e => ?_) _ _ ?_
      · subst e; simp at h
      · simp only [rd_set, Nat.reduceEqDiff, reduceIte]
    · simp only [↓cw_skip, ↓cw_region, ↓then_normal, ↓block_normal, ↓draw_false, ↓ow_nil, ↓ow_cons, ↓contO_eq, ↓op_move, ↓op_binOp, ↓force_DC, vW_some, setD_some, on2_some, biV_eq, opd, ofConst, leaf, rd_set, binV, intV, isConst, Nat.reduceEqDiff, Nat.reduceAdd, reduceIte, Bool.or_true, List.length_cons, List.length_nil, Nat.zero_add, St.bump, Nat.add_assoc, List.size_toArray, r13, hw]
      refine ih (i + 1) _ _ (by omega) (take_succ_eq (by omega) (by omega) ht (by simpa using h)) ?_ ?_ ?_ ?_ <;> simp only [rd_set, Nat.reduceEqDiff, reduceIte, reduceCtorEq, r0, r1, r12, r13]
end Go.Pv
