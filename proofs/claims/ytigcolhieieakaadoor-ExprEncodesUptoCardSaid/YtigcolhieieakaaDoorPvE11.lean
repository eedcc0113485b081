/- ExprEncodes' walk. (PvZ6) -/
import Derived.Test.YtigcolhieieakaaDoorPvE10
import Derived.Test.YtigcolhieieakaaDoorPvE5
import Derived.Test.YtigcolhieieakaaDoorPvE6
namespace Go.Pv
open Go Go.Proofs Go.RowKit
set_option linter.unusedVariables false
set_option linter.unusedSimpArgs false
set_option maxRecDepth 100000

theorem bytesOf_app (a : List Int) (x : Int) : bytesOf (u8s a ++ [.i .u8 x]) = some ((a ++ [x]).map fun n => UInt8.ofNat n.toNat) := by
  rw [u8s_snoc, bytesOf_u8s]

theorem w_encodes (l : L) (hw : l.wf) (hs : l.sz ≤ 1048576) : PureW TS 5 [.sl l.av 0] (.b true) := by
  have hlen := L.enc_le l hw
  have hcs := L.cnt_sz l
  unfold PureW
  refine callW_of ft5 rfl (Nat.le_of_ble_eq_true rfl) ?_
  have hf : Fresh St.start := Fresh.start
  generalize St.start = σ at hf
  obtain ⟨c, hc⟩ := w_large l (by omega)
  simp only [↓cw_seq, ↓cw_region, ↓then_normal, ↓draw_false, ↓ow_nil, ↓ow_cons, ↓contO_eq, ↓op_move, ↓op_assign, ↓op_call, vW_some, setD_some, callV_some, arg_val, opd, opds, ofConst, leaf, rd_set, rd_nil, Fr.ofList, Nat.reduceEqDiff, Nat.reduceAdd, reduceIte, reduceCtorEq, List.length_cons, List.length_nil, List.append_nil, Nat.zero_add, St.bump, List.size_toArray]
  refine pc14.call (by simp [untok, AV.strip, Go.Pv.goods, Go.Pv.good, L.goods]) hc ?_
  cases c with
  | true =>
    simp only [↓cw_seq, ↓cw_cond, ↓cw_region, ↓then_normal, ↓draw_false, ↓ow_nil, ↓ow_cons, ↓contO_eq, ↓op_call, ↓force_DC, bW_true, ifW_some, setD_some, callV_some, arg_val, opd, opds, rd_set, rd_nil, Nat.reduceEqDiff, Nat.reduceAdd, reduceIte, reduceCtorEq, List.length_cons, List.length_nil, List.append_nil, Nat.zero_add, St.bump, Nat.add_assoc, List.size_toArray]
    refine pc9.call rfl w_sure ?_
    simp only [↓cw_ret, ↓then_normal, ↓then_ret, ↓draw_false, ↓ow_nil, ↓ow_cons, ↓contO_eq, ↓op_assign, ↓ret_ret, vW_some, setD_some, resW, opd, rd_set, rd_nil, resV, Nat.reduceEqDiff, reduceIte, reduceCtorEq, Nat.zero_add, Tryd.f5]
    exact ⟨rfl, rfl⟩
  | false =>
    simp only [↓cw_skip, ↓cw_seq, ↓cw_cond, ↓cw_region, ↓then_normal, ↓draw_false, ↓ow_nil, ↓ow_cons, ↓contO_eq, ↓op_move, ↓op_call, ↓force_DC, vW_some, bW_false, ifW_some, setD_some, callV_some, arg_val, opd, opds, rd_set, rd_nil, Nat.reduceEqDiff, Nat.reduceAdd, reduceIte, reduceCtorEq, List.length_cons, List.length_nil, List.append_nil, Nat.zero_add, St.bump, Nat.add_assoc, List.size_toArray]
    refine pc15.call (by simp [untok, AV.strip, Go.Pv.goods, Go.Pv.good, L.goods]) (w_give 1000000000 l (by omega) (Nat.le_refl _)) ?_
    simp only [↓cw_seq, ↓cw_region, ↓then_normal, ↓draw_false, ↓ow_nil, ↓ow_cons, ↓contO_eq, ↓op_move, ↓op_assign, ↓op_call, vW_some, setD_some, callV_some, arg_val, opd, opds, rd_set, rd_nil, Nat.reduceEqDiff, Nat.reduceAdd, reduceIte, reduceCtorEq, List.length_cons, List.length_nil, List.append_nil, Nat.zero_add, St.bump, Nat.add_assoc, List.size_toArray]
    refine pc17.call (by simp [untok, AV.strip, Go.Pv.goods, Go.Pv.good, L.goods]) (w_encode l (by omega) hw (by omega)) ?_
    have hm := may_eq l hw
    cases hmay : l.may with
    | false =>
      simp only [Bool.false_eq_true, if_false]
      simp only [↓cw_seq, ↓cw_region, ↓then_normal, ↓draw_false, ↓ow_nil, ↓ow_cons, ↓contO_eq, ↓op_move, ↓op_assign, ↓op_extract, ↓op_call, vW_some, setD_some, on1_some, exV, callV_some, arg_val, opd, opds, rd_set, rd_nil, Nat.reduceEqDiff, Nat.reduceAdd, reduceIte, reduceCtorEq, List.length_cons, List.length_nil, List.getElem?_cons_zero, List.getElem?_cons_succ, List.append_nil, Nat.zero_add, St.bump, Nat.add_assoc, List.size_toArray]
      refine pc18.call (by simp [untok, AV.strip, Go.Pv.goods, Go.Pv.good, L.goods]) (w_count 4611686018427387904 l (by omega) (Nat.le_refl _)) ?_
      simp only [↓ow_cons, ↓contO_eq, ↓op_move, ↓op_call, vW_some, setD_some, callV_some, arg_val, opd, opds, rd_set, rd_nil, Nat.reduceEqDiff, Nat.reduceAdd, reduceIte, reduceCtorEq, List.append_nil]
      refine pc19.call (by simp [untok, AV.strip, Go.Pv.goods, Go.Pv.good, L.goods]) (w_rcount 4611686018427387904 l (by omega) (Nat.le_refl _)) ?_
      simp only [↓ow_cons, ↓ow_consG, ↓contO_eq, ↓op_move, ↓op_binOp, ↓op_call, ↓force_DO, vW_some, bW_true, setD_some, on2_some, biV_eq, callV_some, arg_val, opd, opds, rd_set, rd_nil, binV, intV, isConst, Nat.reduceEqDiff, Nat.reduceAdd, reduceIte, reduceCtorEq, Bool.or_false, List.getElem?_cons_zero, List.getElem?_cons_succ, List.append_nil, beq_self_eq_true, wantG, Option.bind, bne_self_eq_false]
      refine pc12.call (by simp [untok, AV.strip, Go.Pv.goods, Go.Pv.good, L.goods]) (w_sameCode 1000000000 l (by omega) (Nat.le_refl _)) ?_
      simp only [↓ow_cons, ↓ow_consG, ↓contO_eq, ↓op_move, ↓op_unOp, ↓op_pick, ↓op_call, ↓force_DO, vW_some, bW_true, setD_some, on1_some, pkV, callV_some, arg_val, opd, opds, ofConst, leaf, rd_set, rd_nil, unV, Nat.reduceEqDiff, Nat.reduceAdd, reduceIte, reduceCtorEq, List.getElem?_cons_zero, List.getElem?_cons_succ, List.append_nil, beq_self_eq_true, Bool.not_true, wantG, Option.bind]
      refine pc15.call (by simp [untok, AV.strip, Go.Pv.goods, Go.Pv.good, L.goods]) (w_give 1000000000 l (by omega) (Nat.le_refl _)) ?_
      simp only [↓ow_consG, ↓contO_eq, ↓op_call, ↓force_DO, bW_true, setD_some, callV_some, arg_val, opd, opds, rd_set, rd_nil, Nat.reduceEqDiff, Nat.reduceAdd, reduceIte, reduceCtorEq, List.getElem?_cons_zero, List.getElem?_cons_succ, List.append_nil, beq_self_eq_true, wantG, Option.bind]
      refine pc16.call (by simp [untok, AV.strip, Go.Pv.goods, Go.Pv.good, L.goods]) (w_same 4611686018427387904 l l (by omega) (Nat.le_refl _)) ?_
      simp only [↓cw_skip, ↓cw_seq, ↓cw_cond, ↓cw_region, ↓then_normal, ↓draw_false, ↓ow_nil, ↓ow_cons, ↓ow_consG, ↓contO_eq, ↓op_move, ↓op_unOp, ↓op_pick, ↓op_call, ↓force_DC, ↓force_DO, vW_some, bW_true, bW_false, ifW_some, setD_some, on1_some, pkV, callV_some, arg_val, opd, opds, ofConst, leaf, rd_set, rd_nil, unV, Nat.reduceEqDiff, Nat.reduceAdd, reduceIte, reduceCtorEq, List.length_cons, List.length_nil, List.getElem?_cons_zero, List.getElem?_cons_succ, List.append_nil, decide_true, beq_self_eq_true, Nat.zero_add, Bool.not_true, St.bump, wantG, Option.bind, Nat.add_assoc, List.size_toArray]
      refine pc20.call (by simp [untok, AV.strip, Go.Pv.goods, Go.Pv.good, L.goods]) (w_rmay l (by omega) hw) ?_
      rw [hm, hmay]
      simp only [↓cw_seq, ↓cw_cond, ↓cw_region, ↓then_normal, ↓draw_false, ↓ow_nil, ↓ow_cons, ↓contO_eq, ↓op_move, ↓op_unOp, ↓op_call, ↓force_DC, vW_some, bW_true, ifW_some, setD_some, on1_some, callV_some, arg_val, opd, opds, rd_set, rd_nil, unV, Nat.reduceEqDiff, Nat.reduceAdd, reduceIte, reduceCtorEq, List.length_cons, List.length_nil, List.append_nil, Nat.zero_add, Bool.not_false, St.bump, Nat.add_assoc, List.size_toArray, errV]
      refine FnW_prim rfl (by kernel_rfl) (p := pNum) (by kernel_rfl) (r := .i .i64 1) rfl ?_
      simp only [↓ow_cons, ↓ow_consG, ↓contO_eq, ↓op_move, ↓op_binOp, ↓op_call, ↓force_DO, vW_some, bW_true, setD_some, on2_some, biV_eq, callV_some, arg_val, opd, opds, ofConst, leaf, rd_set, rd_nil, binV, intV, isConst, Nat.reduceEqDiff, Nat.reduceAdd, reduceIte, reduceCtorEq, Bool.or_true, List.getElem?_cons_zero, List.getElem?_cons_succ, List.append_nil, beq_self_eq_true, wantG, Option.bind]
      refine pc21.call (by simp [untok, AV.strip, Go.Pv.goods, Go.Pv.good, L.goods]) (w_check l (by omega) hw) ?_
      rw [hmay]
      simp only [Bool.false_eq_true, if_false, errV]
      simp only [↓ow_consG, ↓contO_eq, ↓op_call, ↓force_DO, bW_true, setD_some, callV_some, arg_val, opd, opds, rd_set, rd_nil, Nat.reduceEqDiff, Nat.reduceAdd, reduceIte, reduceCtorEq, List.getElem?_cons_zero, List.getElem?_cons_succ, List.append_nil, beq_self_eq_true, wantG, Option.bind]
      refine FnW_prim rfl (by kernel_rfl) (p := pNum) (by kernel_rfl) (r := .i .i64 1) rfl ?_
      simp only [↓ow_cons, ↓ow_consG, ↓contO_eq, ↓op_move, ↓op_binOp, ↓op_pick, ↓op_call, ↓force_DO, vW_some, pW_some, bW_true, setD_some, on2_some, biV_eq, pkV, callV_some, arg_blt, arg_val, opd, opds, ofConst, leaf, pureV, rd_set, rd_nil, binV, intV, isConst, bltV, lenV, undF, Nat.reduceEqDiff, Nat.reduceAdd, reduceIte, reduceCtorEq, Bool.or_true, List.length_nil, List.getElem?_cons_zero, List.getElem?_cons_succ, List.append_nil, beq_self_eq_true, wantG, Option.bind, Int.natCast_zero]
      refine pc9.call rfl w_sure ?_
      simp only [↓cw_ret, ↓then_normal, ↓then_ret, ↓draw_false, ↓ow_nil, ↓ow_cons, ↓contO_eq, ↓op_assign, ↓op_pick, ↓ret_ret, vW_some, setD_some, pkV, resW, opd, ofConst, leaf, rd_set, rd_nil, resV, Nat.reduceEqDiff, Nat.reduceAdd, reduceIte, reduceCtorEq, Tryd.f5]
      exact ⟨rfl, rfl⟩
    | true =>
      have heach : l.each = true := by
        unfold L.may at hmay
        simp only [Bool.and_eq_true] at hmay
        exact hmay.2
      simp only [if_true]
      simp only [↓cw_seq, ↓cw_region, ↓then_normal, ↓draw_false, ↓ow_nil, ↓ow_cons, ↓contO_eq, ↓op_move, ↓op_assign, ↓op_extract, ↓op_call, vW_some, setD_some, on1_some, exV, callV_some, arg_val, opd, opds, rd_set, rd_nil, Nat.reduceEqDiff, Nat.reduceAdd, reduceIte, reduceCtorEq, List.length_cons, List.length_nil, List.getElem?_cons_zero, List.getElem?_cons_succ, List.append_nil, Nat.zero_add, St.bump, Nat.add_assoc, List.size_toArray]
      refine pc18.call (by simp [untok, AV.strip, Go.Pv.goods, Go.Pv.good, L.goods]) (w_count 4611686018427387904 l (by omega) (Nat.le_refl _)) ?_
      simp only [↓ow_cons, ↓contO_eq, ↓op_move, ↓op_call, vW_some, setD_some, callV_some, arg_val, opd, opds, rd_set, rd_nil, Nat.reduceEqDiff, Nat.reduceAdd, reduceIte, reduceCtorEq, List.append_nil]
      refine pc19.call (by simp [untok, AV.strip, Go.Pv.goods, Go.Pv.good, L.goods]) (w_rcount 4611686018427387904 l (by omega) (Nat.le_refl _)) ?_
      simp only [↓ow_cons, ↓ow_consG, ↓contO_eq, ↓op_move, ↓op_binOp, ↓op_call, ↓force_DO, vW_some, bW_true, setD_some, on2_some, biV_eq, callV_some, arg_val, opd, opds, rd_set, rd_nil, binV, intV, isConst, Nat.reduceEqDiff, Nat.reduceAdd, reduceIte, reduceCtorEq, Bool.or_false, List.getElem?_cons_zero, List.getElem?_cons_succ, List.append_nil, beq_self_eq_true, wantG, Option.bind, bne_self_eq_false]
      refine pc12.call (by simp [untok, AV.strip, Go.Pv.goods, Go.Pv.good, L.goods]) (w_sameCode 1000000000 l (by omega) (Nat.le_refl _)) ?_
      simp only [↓ow_cons, ↓ow_consG, ↓contO_eq, ↓op_move, ↓op_unOp, ↓op_pick, ↓op_call, ↓force_DO, vW_some, bW_true, setD_some, on1_some, pkV, callV_some, arg_val, opd, opds, ofConst, leaf, rd_set, rd_nil, unV, Nat.reduceEqDiff, Nat.reduceAdd, reduceIte, reduceCtorEq, List.getElem?_cons_zero, List.getElem?_cons_succ, List.append_nil, beq_self_eq_true, Bool.not_true, wantG, Option.bind]
      refine pc15.call (by simp [untok, AV.strip, Go.Pv.goods, Go.Pv.good, L.goods]) (w_give 1000000000 l (by omega) (Nat.le_refl _)) ?_
      simp only [↓ow_consG, ↓contO_eq, ↓op_call, ↓force_DO, bW_true, setD_some, callV_some, arg_val, opd, opds, rd_set, rd_nil, Nat.reduceEqDiff, Nat.reduceAdd, reduceIte, reduceCtorEq, List.getElem?_cons_zero, List.getElem?_cons_succ, List.append_nil, beq_self_eq_true, wantG, Option.bind]
      refine pc16.call (by simp [untok, AV.strip, Go.Pv.goods, Go.Pv.good, L.goods]) (w_same 4611686018427387904 l l (by omega) (Nat.le_refl _)) ?_
      simp only [↓cw_skip, ↓cw_seq, ↓cw_cond, ↓cw_region, ↓then_normal, ↓draw_false, ↓ow_nil, ↓ow_cons, ↓ow_consG, ↓contO_eq, ↓op_move, ↓op_unOp, ↓op_pick, ↓op_call, ↓force_DC, ↓force_DO, vW_some, bW_true, bW_false, ifW_some, setD_some, on1_some, pkV, callV_some, arg_val, opd, opds, ofConst, leaf, rd_set, rd_nil, unV, Nat.reduceEqDiff, Nat.reduceAdd, reduceIte, reduceCtorEq, List.length_cons, List.length_nil, List.getElem?_cons_zero, List.getElem?_cons_succ, List.append_nil, decide_true, beq_self_eq_true, Nat.zero_add, Bool.not_true, St.bump, wantG, Option.bind, Nat.add_assoc, List.size_toArray]
      refine pc20.call (by simp [untok, AV.strip, Go.Pv.goods, Go.Pv.good, L.goods]) (w_rmay l (by omega) hw) ?_
      rw [hm, hmay]
      simp only [↓cw_skip, ↓cw_seq, ↓cw_cond, ↓cw_region, ↓then_normal, ↓draw_false, ↓ow_nil, ↓ow_cons, ↓ow_consG, ↓contO_eq, ↓op_move, ↓op_binOp, ↓op_unOp, ↓op_call, ↓force_DC, ↓force_DO, vW_some, bW_true, bW_false, ifW_some, setD_some, on1_some, on2_some, biV_eq, callV_some, arg_val, opd, opds, ofConst, leaf, rd_set, rd_nil, binV, eqV, unV, isConst, ifaceF, Nat.reduceEqDiff, Nat.reduceAdd, reduceIte, reduceCtorEq, Bool.or_true, Bool.and_true, List.length_cons, List.length_nil, List.getElem?_cons_zero, List.getElem?_cons_succ, List.append_nil, beq_self_eq_true, Nat.zero_add, Bool.not_true, St.bump, wantG, Option.bind, Nat.add_assoc, List.size_toArray]
      refine pc21.call (by simp [untok, AV.strip, Go.Pv.goods, Go.Pv.good, L.goods]) (w_check l (by omega) hw) ?_
      rw [hmay]
      simp only [if_true]
      simp only [↓ow_cons, ↓ow_consG, ↓contO_eq, ↓op_move, ↓op_binOp, ↓op_convert, ↓op_pick, ↓op_call, ↓force_DO, vW_some, bW_true, setD_some, on1_some, on2_some, biV_eq, pkV, callV_some, arg_val, opd, opds, ofConst, leaf, rd_set, rd_nil, binV, eqV, convV, isConst, undF, ifaceF, Nat.reduceEqDiff, Nat.reduceAdd, reduceIte, reduceCtorEq, Bool.or_true, Bool.and_true, List.getElem?_cons_zero, List.getElem?_cons_succ, List.append_nil, beq_self_eq_true, wantG, Option.bind, bytesOf_u8s]
      refine lay_step (w_rlay 1048577 l (by omega) (Nat.le_refl _) hw heach) ?_ fun κ s hκ => ?_
      · exact tokFree_of (by repeat (first | exact (Fresh.freeT hf (by omega)) | refine FreeT.set ?_ (by omega) | refine FreeT.via (by assumption) ?_ (by omega)))
      simp only [↓ow_consG, ↓contO_eq, ↓op_buildSlice, ↓op_call, ↓force_DO, pW_some, bW_true, setD_some, bldS, arg_blt, opd, opds, ofConst, leaf, rd_set, rd_nil, bltV, fillV, parts, put, flat, AV.cells, AV.strip, undF, aggF, infF, Nat.reduceEqDiff, Nat.reduceAdd, Nat.reduceMul, Nat.reduceLeDiff, ne_eq, not_false_eq_true, reduceIte, reduceCtorEq, List.length_cons, List.length_nil, List.getElem?_cons_zero, List.getElem?_cons_succ, List.append_nil, List.take_succ_cons, List.take_zero, List.set_cons_zero, List.map_cons, List.map_nil, beq_self_eq_true, Nat.zero_add, and_self, newTok, Tr.get_set, wantG, Option.bind, Nat.add_assoc, Nat.add_left_cancel_iff, or_true, List.headD_cons, tokFree, buildSliceV, repeatCells, chunk, hf.tb]
      refine app_step (y := 11) (ys := []) (bs := l.enc) ?_ (by simp; omega) ?_ fun X hX => ?_
      · rcases hκ with ⟨rfl, h⟩ | ⟨rfl, rfl⟩
        · exact .inl ⟨rfl, h⟩
        · exact .inr ⟨by omega, by simp [Tr.get_set]⟩
      · exact tokFree_of (by repeat (first | exact (Fresh.freeT hf (by omega)) | refine FreeT.set ?_ (by omega) | refine FreeT.via (by assumption) ?_ (by omega)))
      simp only [↓ow_cons, ↓ow_consG, ↓contO_eq, ↓op_move, ↓op_binOp, ↓op_convert, ↓op_pick, ↓op_call, ↓force_DO, vW_some, bW_true, setD_some, on1_some, on2_some, biV_eq, pkV, callV_some, arg_val, opd, opds, ofConst, leaf, rd_set, rd_nil, binV, convV, isConst, undF, Nat.reduceEqDiff, Nat.reduceAdd, reduceIte, reduceCtorEq, Bool.or_false, List.getElem?_cons_zero, List.getElem?_cons_succ, List.append_nil, beq_self_eq_true, wantG, Option.bind, Nat.add_assoc, bytesOf_u8s]
      refine pc9.call rfl w_sure ?_
      simp only [↓cw_ret, ↓then_normal, ↓draw_true, ↓ow_nil, ↓ow_cons, ↓contO_eq, ↓op_assign, ↓op_pick, ↓ret_ret, ↓force_DQ, vW_some, bW_false, setD_some, pkV, resW, opd, ofConst, leaf, rd_set, rd_nil, hasStore, isStore, resV, Nat.reduceEqDiff, Nat.reduceAdd, reduceIte, reduceCtorEq, Bool.or_false, List.any, St.bump, Nat.add_assoc, Tryd.f5]
      exact ⟨rfl, rfl⟩
end Go.Pv
