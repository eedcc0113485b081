/- Same, for all instructions. -/
import Derived.Test.YtigcolhieieakaaDoorPvZ
namespace Go.Pv
open Go Go.Proofs Go.RowKit
set_option linter.unusedVariables false
set_option linter.unusedSimpArgs false
set_option maxRecDepth 100000

theorem gs_u32s (l : List Int) : good (.sl (u32s l) 0) = true := by simp [good, goods_u32s]
theorem gs_av (l : L) : good (.sl l.av 0) = true := by simp [good, L.goods]
theorem untok_sl (l : List AV) (k : Nat) : untok (.sl l k) = .sl l 0 := rfl
theorem good_b (b : Bool) : good (.b b) = true := rfl
theorem good_i (k : IntKind) (n : Int) : good (.i k n) = true := rfl

theorem w_equal (xs ys : List Int) (hb : xs.length < 4611686018427387904) : PureW TS 29 [.sl (u32s xs) 0, .sl (u32s ys) 0] (.b (decide (xs = ys))) := by
  unfold PureW
  refine callW_of ft29 rfl (Nat.le_of_ble_eq_true rfl) ?_
  generalize St.start = σ
  by_cases hl : xs.length = ys.length
  · simp only [↓cw_skip, ↓cw_seq, ↓cw_block, ↓cw_cond, ↓cw_region, ↓then_normal, ↓draw_false, ↓ow_nil, ↓ow_cons, ↓contO_eq, ↓op_move, ↓op_assign, ↓op_binOp, ↓op_call, ↓force_DC, vW_some, pW_some, bW_false, ifW_some, setD_some, on2_some, biV_eq, arg_blt, opd, opds, ofConst, leaf, pureV, rd_set, rd_nil, Fr.ofList, binV, intV, isConst, bltV, lenV, undF, Nat.reduceEqDiff, Nat.reduceAdd, reduceIte, reduceCtorEq, Bool.or_false, List.length_cons, List.length_nil, Nat.zero_add, St.bump, Nat.add_assoc, List.size_toArray, u32s_len, hl, bne_self_eq_false]
    refine loop29 xs ys 0 0 _ hl hb (fun e fr σ => ?_) (fun e fr σ r4 => ?_) xs.length 0 _ _ (by omega) rfl ?_ ?_ ?_ ?_
    · simp only [↓cw_ret, ↓cw_seq, ↓cw_region, ↓then_normal, ↓draw_false, ↓ow_nil, ↓ow_cons, ↓contO_eq, ↓op_assign, ↓ret_ret, ↓force_DQ, block_exit, vW_some, bW_true, setD_some, resW, nbeq, opd, ofConst, leaf, rd_set, resV, reduceIte, List.length_cons, List.length_nil, beq_self_eq_true, Nat.zero_add, List.size_toArray, Tryd.f29]
      exact ⟨by simp [untok, AV.strip, e], rfl⟩
    · simp only [↓then_ret, ↓block_ret, ↓ret_ret, resW, resV, Tryd.f29, r4]
      exact ⟨by simp [untok, AV.strip, e], rfl⟩
    all_goals simp only [rd_set, rd_nil, Nat.reduceEqDiff, reduceIte, reduceCtorEq, hl]
    all_goals rfl
  · have h1 : ((xs.length : Int) != ys.length) = true := by simp; omega
    simp only [↓cw_ret, ↓cw_seq, ↓cw_cond, ↓cw_region, ↓then_normal, ↓then_ret, ↓draw_false, ↓ow_nil, ↓ow_cons, ↓contO_eq, ↓op_move, ↓op_assign, ↓op_binOp, ↓op_call, ↓ret_ret, ↓force_DC, vW_some, pW_some, bW_true, ifW_some, setD_some, on2_some, biV_eq, arg_blt, resW, opd, opds, ofConst, leaf, pureV, rd_set, rd_nil, Fr.ofList, binV, intV, isConst, bltV, lenV, undF, resV, Nat.reduceEqDiff, Nat.reduceAdd, reduceIte, reduceCtorEq, Bool.or_false, List.length_cons, List.length_nil, Nat.zero_add, St.bump, Nat.add_assoc, List.size_toArray, u32s_len, h1, Tryd.f29]
    exact ⟨by simp [untok, AV.strip]; intro e; exact hl (by rw [e]), rfl⟩

/-- Two instructions. -/
theorem w_same1 (op op' : Nat) (n n' al al' off off' res res' : Int) (b b' e e' : L) (ls ls' : List Int) (hb : ls.length < 4611686018427387904)
    (Hb : PureW TS 16 [.sl b.av 0, .sl b'.av 0] (.b (decide (b = b')))) (He : PureW TS 16 [.sl e.av 0, .sl e'.av 0] (.b (decide (e = e')))) :
    PureW TS 28 [iav op n al off res b.av e.av (u32s ls), iav op' n' al' off' res' b'.av e'.av (u32s ls')] (.b (decide (op = op' ∧ n = n' ∧ al = al' ∧ off = off' ∧ res = res' ∧ ls = ls' ∧ b = b' ∧ e = e'))) := by
  unfold PureW
  refine callW_of ft28 rfl (Nat.le_of_ble_eq_true rfl) ?_
  have hf : Fresh St.start := Fresh.start
  generalize St.start = σ at hf
  simp only [iav]
  by_cases h1 : op = op'
  rotate_left
  · have : ((op : Int) == op') = false := by simp; omega
    simp only [↓cw_ret, ↓cw_seq, ↓cw_region, ↓then_normal, ↓draw_false, ↓ow_nil, ↓ow_cons, ↓ow_consG, ↓contO_eq, ↓op_move, ↓op_assign, ↓op_box, ↓op_load, ↓op_binOp, ↓op_fieldAddr, ↓op_pick, ↓ret_ret, ↓force_DOs, vW_some, pW_some, bW_false, setD_some, boxV, on1_some, on2_some, ldV_eq, biV_eq, faV_eq, pkV, resW, opd, ofConst, leaf, rd_set, rd_nil, Fr.ofList, binV, intV, isConst, loadV, fieldAddrV, take?, flat, AV.cells, undF, aggF, infF, resV, Nat.reduceEqDiff, Nat.reduceAdd, Nat.reduceLeDiff, reduceIte, reduceCtorEq, Bool.or_false, List.length_cons, List.length_nil, List.getElem?_cons_zero, List.getElem?_cons_succ, List.drop_zero, List.take_succ_cons, List.take_zero, Nat.add_zero, Nat.zero_add, and_self, newBox, St.bump, Tr.get_set, wantG, Option.bind, Nat.left_eq_add, Nat.add_eq_left, boxFree, beqT, List.size_toArray, hf.hb, hf.h0, this, Tryd.f28]
    exact ⟨by simp [untok, AV.strip, h1], rfl⟩
  subst h1
  by_cases h2 : n = n'
  rotate_left
  · have : (n == n') = false := by simp [h2]
    simp only [↓cw_ret, ↓cw_seq, ↓cw_region, ↓then_normal, ↓draw_false, ↓ow_nil, ↓ow_cons, ↓ow_consG, ↓contO_eq, ↓op_move, ↓op_assign, ↓op_box, ↓op_load, ↓op_binOp, ↓op_fieldAddr, ↓op_pick, ↓ret_ret, ↓force_DO, ↓force_DOs, vW_some, pW_some, bW_true, bW_false, setD_some, boxV, on1_some, on2_some, ldV_eq, biV_eq, faV_eq, pkV, resW, opd, ofConst, leaf, rd_set, rd_nil, Fr.ofList, binV, intV, isConst, loadV, fieldAddrV, take?, flat, AV.cells, undF, aggF, infF, resV, Nat.reduceEqDiff, Nat.reduceAdd, Nat.reduceLeDiff, reduceIte, reduceCtorEq, Bool.or_false, List.length_cons, List.length_nil, List.getElem?_cons_zero, List.getElem?_cons_succ, List.drop_succ_cons, List.drop_zero, List.take_succ_cons, List.take_zero, beq_self_eq_true, Nat.add_zero, Nat.zero_add, true_and, and_self, newBox, St.bump, Tr.get_set, wantG, Option.bind, Nat.left_eq_add, Nat.add_eq_left, boxFree, beqT, List.size_toArray, hf.hb, hf.h0, this, Tryd.f28]
    exact ⟨by simp [untok, AV.strip, h2], rfl⟩
  subst h2
  by_cases h3 : al = al'
  rotate_left
  · have : (al == al') = false := by simp [h3]
    simp only [↓cw_ret, ↓cw_seq, ↓cw_region, ↓then_normal, ↓draw_false, ↓ow_nil, ↓ow_cons, ↓ow_consG, ↓contO_eq, ↓op_move, ↓op_assign, ↓op_box, ↓op_load, ↓op_binOp, ↓op_fieldAddr, ↓op_pick, ↓ret_ret, ↓force_DO, ↓force_DOs, vW_some, pW_some, bW_true, bW_false, setD_some, boxV, on1_some, on2_some, ldV_eq, biV_eq, faV_eq, pkV, resW, opd, ofConst, leaf, rd_set, rd_nil, Fr.ofList, binV, intV, isConst, loadV, fieldAddrV, take?, flat, AV.cells, undF, aggF, infF, resV, Nat.reduceEqDiff, Nat.reduceAdd, Nat.reduceLeDiff, reduceIte, reduceCtorEq, Bool.or_false, List.length_cons, List.length_nil, List.getElem?_cons_zero, List.getElem?_cons_succ, List.drop_succ_cons, List.drop_zero, List.take_succ_cons, List.take_zero, beq_self_eq_true, Nat.add_zero, Nat.zero_add, true_and, and_self, newBox, St.bump, Tr.get_set, wantG, Option.bind, Nat.left_eq_add, Nat.add_eq_left, boxFree, beqT, List.size_toArray, hf.hb, hf.h0, this, Tryd.f28]
    exact ⟨by simp [untok, AV.strip, h3], rfl⟩
  subst h3
  by_cases h4 : off = off'
  rotate_left
  · have : (off == off') = false := by simp [h4]
    simp only [↓cw_ret, ↓cw_seq, ↓cw_region, ↓then_normal, ↓draw_false, ↓ow_nil, ↓ow_cons, ↓ow_consG, ↓contO_eq, ↓op_move, ↓op_assign, ↓op_box, ↓op_load, ↓op_binOp, ↓op_fieldAddr, ↓op_pick, ↓ret_ret, ↓force_DO, ↓force_DOs, vW_some, pW_some, bW_true, bW_false, setD_some, boxV, on1_some, on2_some, ldV_eq, biV_eq, faV_eq, pkV, resW, opd, ofConst, leaf, rd_set, rd_nil, Fr.ofList, binV, intV, isConst, loadV, fieldAddrV, take?, flat, AV.cells, undF, aggF, infF, resV, Nat.reduceEqDiff, Nat.reduceAdd, Nat.reduceLeDiff, reduceIte, reduceCtorEq, Bool.or_false, List.length_cons, List.length_nil, List.getElem?_cons_zero, List.getElem?_cons_succ, List.drop_succ_cons, List.drop_zero, List.take_succ_cons, List.take_zero, beq_self_eq_true, Nat.add_zero, Nat.zero_add, true_and, and_self, newBox, St.bump, Tr.get_set, wantG, Option.bind, Nat.left_eq_add, Nat.add_eq_left, boxFree, beqT, List.size_toArray, hf.hb, hf.h0, this, Tryd.f28]
    exact ⟨by simp [untok, AV.strip, h4], rfl⟩
  subst h4
  by_cases h5 : res = res'
  rotate_left
  · have : (res == res') = false := by simp [h5]
    simp only [↓cw_ret, ↓cw_seq, ↓cw_region, ↓then_normal, ↓draw_false, ↓ow_nil, ↓ow_cons, ↓ow_consG, ↓contO_eq, ↓op_move, ↓op_assign, ↓op_box, ↓op_load, ↓op_binOp, ↓op_fieldAddr, ↓op_pick, ↓ret_ret, ↓force_DO, ↓force_DOs, vW_some, pW_some, bW_true, bW_false, setD_some, boxV, on1_some, on2_some, ldV_eq, biV_eq, faV_eq, pkV, resW, opd, ofConst, leaf, rd_set, rd_nil, Fr.ofList, binV, intV, isConst, loadV, fieldAddrV, take?, flat, AV.cells, undF, aggF, infF, resV, Nat.reduceEqDiff, Nat.reduceAdd, Nat.reduceLeDiff, reduceIte, reduceCtorEq, Bool.or_false, List.length_cons, List.length_nil, List.getElem?_cons_zero, List.getElem?_cons_succ, List.drop_succ_cons, List.drop_zero, List.take_succ_cons, List.take_zero, beq_self_eq_true, Nat.add_zero, Nat.zero_add, true_and, and_self, newBox, St.bump, Tr.get_set, wantG, Option.bind, Nat.left_eq_add, Nat.add_eq_left, boxFree, beqT, List.size_toArray, hf.hb, hf.h0, this, Tryd.f28]
    exact ⟨by simp [untok, AV.strip, h5], rfl⟩
  subst h5
  simp only [↓cw_seq, ↓cw_region, ↓then_normal, ↓draw_false, ↓ow_nil, ↓ow_cons, ↓ow_consG, ↓contO_eq, ↓op_move, ↓op_assign, ↓op_box, ↓op_load, ↓op_binOp, ↓op_fieldAddr, ↓op_pick, ↓op_call, ↓force_DO, vW_some, pW_some, bW_true, setD_some, boxV, on1_some, on2_some, ldV_eq, biV_eq, faV_eq, pkV, callV_some, arg_val, opd, opds, ofConst, leaf, rd_set, rd_nil, Fr.ofList, binV, intV, isConst, loadV, fieldAddrV, take?, flat, AV.cells, undF, aggF, infF, Nat.reduceEqDiff, Nat.reduceAdd, Nat.reduceLeDiff, reduceIte, reduceCtorEq, Bool.or_false, List.length_cons, List.length_nil, List.getElem?_cons_zero, List.getElem?_cons_succ, List.append_nil, List.drop_succ_cons, List.drop_zero, List.take_succ_cons, List.take_zero, beq_self_eq_true, Nat.add_zero, Nat.zero_add, true_and, and_self, newBox, St.bump, Tr.get_set, wantG, Option.bind, Nat.left_eq_add, Nat.add_eq_left, boxFree, List.size_toArray, hf.hb, hf.h0, Tryd.f28]
  refine pc29.call (by simp [untok, AV.strip, goods, gs_u32s]) (w_equal ls ls' hb) ?_
  by_cases h6 : ls = ls'
  rotate_left
  · have : decide (ls = ls') = false := by simp [h6]
    simp only [↓cw_ret, ↓then_normal, ↓draw_false, ↓ow_nil, ↓ow_cons, ↓ow_consG, ↓contO_eq, ↓op_move, ↓op_assign, ↓op_pick, ↓ret_ret, ↓force_DOs, vW_some, bW_false, setD_some, pkV, resW, opd, ofConst, leaf, rd_set, rd_nil, resV, Nat.reduceEqDiff, Nat.reduceAdd, reduceIte, reduceCtorEq, List.getElem?_cons_zero, List.getElem?_cons_succ, wantG, Option.bind, beqT, this]
    exact ⟨by simp [untok, AV.strip, h6], rfl⟩
  have : decide (ls = ls') = true := by simp [h6]
  simp only [↓ow_cons, ↓ow_consG, ↓contO_eq, ↓op_move, ↓op_load, ↓op_fieldAddr, ↓op_pick, ↓op_call, ↓force_DO, vW_some, bW_true, setD_some, on1_some, ldV_eq, faV_eq, pkV, callV_some, arg_val, opd, opds, ofConst, leaf, rd_set, rd_nil, loadV, fieldAddrV, take?, undF, aggF, infF, Nat.reduceEqDiff, Nat.reduceAdd, Nat.reduceLeDiff, reduceIte, reduceCtorEq, List.length_cons, List.length_nil, List.getElem?_cons_zero, List.getElem?_cons_succ, List.append_nil, List.drop_succ_cons, List.drop_zero, List.take_succ_cons, List.take_zero, beq_self_eq_true, Nat.zero_add, Tr.get_set, wantG, Option.bind, Nat.left_eq_add, Nat.add_eq_left, hf.hb, hf.h0, this]
  refine pc16.call (by simp [untok, AV.strip, goods, gs_av]) Hb ?_
  by_cases h7 : b = b'
  rotate_left
  · have : decide (b = b') = false := by simp [h7]
    simp only [↓cw_ret, ↓then_normal, ↓draw_false, ↓ow_nil, ↓ow_cons, ↓ow_consG, ↓contO_eq, ↓op_move, ↓op_assign, ↓op_pick, ↓ret_ret, ↓force_DOs, vW_some, bW_false, setD_some, pkV, resW, opd, ofConst, leaf, rd_set, rd_nil, resV, Nat.reduceEqDiff, Nat.reduceAdd, reduceIte, reduceCtorEq, List.getElem?_cons_zero, List.getElem?_cons_succ, wantG, Option.bind, beqT, this]
    exact ⟨by simp [untok, AV.strip, h7], rfl⟩
  have : decide (b = b') = true := by simp [h7]
  simp only [↓ow_cons, ↓ow_consG, ↓contO_eq, ↓op_move, ↓op_load, ↓op_fieldAddr, ↓op_pick, ↓op_call, ↓force_DO, vW_some, bW_true, setD_some, on1_some, ldV_eq, faV_eq, pkV, callV_some, arg_val, opd, opds, ofConst, leaf, rd_set, rd_nil, loadV, fieldAddrV, take?, undF, aggF, infF, Nat.reduceEqDiff, Nat.reduceAdd, Nat.reduceLeDiff, reduceIte, reduceCtorEq, List.length_cons, List.length_nil, List.getElem?_cons_zero, List.getElem?_cons_succ, List.append_nil, List.drop_succ_cons, List.drop_zero, List.take_succ_cons, List.take_zero, beq_self_eq_true, Nat.zero_add, Tr.get_set, wantG, Option.bind, Nat.left_eq_add, Nat.add_eq_left, hf.hb, hf.h0, this]
  refine pc16.call (by simp [untok, AV.strip, goods, gs_av]) He ?_
  simp only [↓cw_ret, ↓then_normal, ↓draw_false, ↓ow_nil, ↓ow_cons, ↓contO_eq, ↓op_assign, ↓op_pick, ↓ret_ret, vW_some, setD_some, pkV, resW, opd, ofConst, leaf, rd_set, rd_nil, resV, Nat.reduceEqDiff, Nat.reduceAdd, reduceIte, reduceCtorEq]
  exact ⟨by simp [untok, AV.strip, h6, h7], rfl⟩
end Go.Pv
