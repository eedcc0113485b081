/- ExprDeep: its walk. (PvZ6) -/
import Derived.Test.YtigcolhieieakaaDoorPvM7
namespace Go.Pv
open Go Go.Proofs Go.RowKit
set_option linter.unusedVariables false
set_option linter.unusedSimpArgs false
set_option maxRecDepth 100000

theorem fw_60 (r : Nat) (h : r < 8) : fw .i64 (60 + (r : Int)) = ((60 + r : Nat) : Int) := by unfold fw; simp only; rw [if_pos (by omega)]; rfl
theorem rep_u32 (m : Nat) : List.replicate m (AV.i .u32 0) = u32s (List.replicate m 0) := by simp [u32s]

set_option maxHeartbeats 8000000 in
theorem w_deep (n labels : Int) : PureW TS 7 [.i .i64 n, .i .i64 labels] (.b true) := by
  unfold PureW
  refine callW_of ft7 rfl (Nat.le_of_ble_eq_true rfl) ?_
  have hf : Fresh St.start := Fresh.start
  generalize St.start = σ at hf
  have hk := u64_rem n 8 (by omega) (by omega)
  have hm := u64_rem labels 300 (by omega) (by omega)
  have hk' : (fw .u64 n).toNat % 8 < 8 := Nat.mod_lt _ (by omega)
  have hm' : (fw .u64 labels).toNat % 300 < 300 := Nat.mod_lt _ (by omega)
  generalize (fw .u64 n).toNat % 8 = r at hk hk'
  generalize (fw .u64 labels).toNat % 300 = m at hm hm'
  simp only [Int.cast_ofNat_Int] at hk hm
  simp only [↓cw_seq, ↓cw_block, ↓cw_region, ↓then_normal, ↓draw_false, ↓ow_nil, ↓ow_cons, ↓contO_eq, ↓op_move, ↓op_assign, ↓op_binOp, ↓op_convert, vW_some, setD_some, on1_some, on2_some, biV_eq, opd, ofConst, leaf, rd_set, rd_nil, Fr.ofList, binV, intV, convV, isConst, undF, Nat.reduceEqDiff, Nat.reduceAdd, reduceIte, reduceCtorEq, Bool.or_false, Bool.or_true, List.length_cons, List.length_nil, Int.reduceEq, Nat.zero_add, St.bump, Nat.add_assoc, List.size_toArray, hk, fw_60 r hk']
  obtain ⟨k, hkr⟩ : ∃ k, k = 60 + r := ⟨_, rfl⟩
  rw [← hkr]
  have hk67 : k ≤ 67 := by omega
  have hk60 : 60 ≤ k := by omega
  clear hk hkr hk'
  refine loop7a k (.i .i64 labels) _ hk67 (fun κ fr σ1 hf1 r5 r1 r6 => ?_) k 0 1 _ _ (by omega) ?_ ?_ ?_ ?_ ?_
  rotate_left
  · first | exact Fresh.of (by repeat (first | exact (Fresh.freeH hf (by omega)) | refine FreeH.set ?_ (by omega))) (by repeat (first | exact (Fresh.freeT hf (by omega)) | refine FreeT.set ?_ (by omega) | refine FreeT.via (by assumption) ?_ (by omega)))
  · simp only [rd_set, rd_nil, Nat.reduceEqDiff, reduceIte, reduceCtorEq]
  · simp only [rd_set, rd_nil, Nat.reduceEqDiff, reduceIte, reduceCtorEq]
  · simp only [rd_set, rd_nil, Nat.reduceEqDiff, reduceIte, reduceCtorEq]
    rfl
  · simp only [rd_set, rd_nil, Nat.reduceEqDiff, reduceIte, reduceCtorEq]
    rfl
  have e1 := w_encode (bloL k) (by rw [blo_sz]; omega) (blo_wf k) (by rw [blo_enc]; omega)
  have e4 := w_same 1000 (bloL k) (bloL k) (by rw [blo_sz]; omega) (by omega)
  have e2 : k ≤ 64 → _ := fun h => w_decode (bloL k) (blo_rt k) [] (by rw [blo_cnt]; omega) (by rw [blo_nest]; exact h) (by rw [blo_enc]; simp; omega)
  rw [blo_may k hk67] at e1
  rw [decide_eq_true rfl] at e4
  have hlg := L.goods (bloL k)
  have hB : Go.Pv.goods (u8s ((bloL k).enc ++ [11])) = true := goods_u8s _
  generalize u8s ((bloL k).enc ++ [11]) = B at e1 e2 hB
  generalize (bloL k).av = V at e1 e2 e4 r6 hlg
  have c1 := w_encode (tabL m) (by rw [tab_sz]; omega) (tab_wf m) (by have := tab_enc m; omega)
  have c4 := w_same 1000 (tabL m) (tabL m) (by rw [tab_sz]; omega) (by omega)
  have c2 : 1 ≤ m → m ≤ 257 → _ := fun h h' => w_decode (tabL m) (tab_rt m h h') [] (by rw [tab_cnt]; omega) (by rw [tab_nest]; omega) (by have := tab_enc m; simp; omega)
  rw [tab_may m] at c1
  rw [decide_eq_true rfl] at c4
  have hC : Go.Pv.goods (u8s ((tabL m).enc ++ [11])) = true := goods_u8s _
  generalize u8s ((tabL m).enc ++ [11]) = C at c1 c2 hC
  have hW : (tabL m).av = [iav 14 0 0 0 0 [] [] (u32s (List.replicate m 0))] := rfl
  rw [hW] at c1 c2 c4
  generalize ((tabL m).enc.length + 1 : Nat) = cl at c2
  generalize ((bloL k).enc.length + 1 : Nat) = bl at e2
  simp only [iav, Int.cast_ofNat_Int] at c1 c2 c4
  have m0 : (0 : Int) ≤ m := by omega
  have m1 : 4 * (m : Int) ≤ 140737488355328 := by omega
  have m2 : (m : Int) ≤ 140737488355328 := by omega
  by_cases h64 : k ≤ 64
  · rw [decide_eq_true h64, if_pos rfl] at e1
    have e2 := e2 h64
    have d64 : decide ((k : Int) ≤ 64) = true := decide_eq_true (by omega)
    have hmc : (1 ≤ m ∧ m ≤ 257) ∨ m = 0 ∨ 257 < m := by omega
    rcases hmc with ⟨hm1, hm2⟩ | hm1 | hm1
    · rw [decide_eq_true (show 0 < m by omega), decide_eq_true (show m ≤ 257 by omega), Bool.true_and, if_pos rfl] at c1
      have c2 := c2 (by omega) (by omega)
      have dm1 : decide ((m : Int) ≥ 1) = true := decide_eq_true (by omega)
      have dm2 : decide ((m : Int) ≤ 257) = true := decide_eq_true (by omega)
      simp only [↓cw_seq, ↓cw_region, ↓then_normal, ↓ow_cons, ↓contO_eq, ↓op_move, ↓op_call, ↓force_DQ, block_exit, vW_some, bW_true, setD_some, callV_some, arg_val, nbeq, opd, opds, rd_set, Nat.reduceAdd, reduceIte, List.length_cons, List.length_nil, List.append_nil, beq_self_eq_true, Nat.zero_add, List.size_toArray, r6]
      refine pc17.call (by simp [untok, AV.strip, Go.Pv.goods, Go.Pv.good, hlg]) e1 ?_
      simp only [↓cw_seq, ↓cw_region, ↓then_normal, ↓draw_false, ↓ow_nil, ↓ow_cons, ↓contO_eq, ↓op_move, ↓op_assign, ↓op_build, ↓op_buildSlice, ↓op_binOp, ↓op_convert, ↓op_extract, ↓op_makeSlice, ↓op_call, vW_some, pW_some, setD_some, bldV, bldS, on1_some, on2_some, biV_eq, exV, msV, callV_some, arg_val, opd, opds, ofConst, leaf, rd_set, binV, intV, convV, isConst, buildV, places, fillV, parts, put, flat, AV.cells, AV.strip, AV.strip0, undF, aggF, infF, Nat.reduceEqDiff, Nat.reduceAdd, Nat.reduceMul, Nat.reduceLeDiff, ne_eq, not_false_eq_true, reduceIte, reduceCtorEq, Bool.or_true, List.length_cons, List.length_nil, List.getElem?_cons_zero, List.getElem?_cons_succ, List.append_nil, List.take_succ_cons, List.take_zero, List.set_cons_zero, List.set_cons_succ, List.map_cons, List.map_nil, Int.reduceEq, Nat.zero_add, and_self, newTok, St.bump, Tr.get_set, Nat.add_assoc, Nat.add_left_cancel_iff, Int.toNat_natCast, or_true, or_false, List.headD_cons, tokFree, buildSliceV, repeatCells, chunk, List.size_toArray, r1, hm, makeSliceV, m0, m1, m2, Int.le_refl, Int.cast_ofNat_Int, rep_u32, hf1.tb]
      refine pc17.call (by simp [untok, AV.strip, Go.Pv.goods, Go.Pv.good, goods_u32s]) c1 ?_
      simp only [↓cw_skip, ↓cw_seq, ↓cw_cond, ↓cw_region, ↓then_normal, ↓draw_false, ↓ow_nil, ↓ow_cons, ↓ow_consG, ↓contO_eq, ↓op_move, ↓op_assign, ↓op_binOp, ↓op_extract, ↓op_pick, ↓op_call, ↓force_DC, ↓force_DO, vW_some, bW_true, bW_false, ifW_some, setD_some, on1_some, on2_some, biV_eq, exV, pkV, callV_some, arg_val, opd, opds, ofConst, leaf, rd_set, binV, intV, eqV, isConst, ifaceF, boolF, Nat.reduceEqDiff, Nat.reduceAdd, reduceIte, Bool.or_false, Bool.or_true, Bool.and_true, List.length_cons, List.length_nil, List.getElem?_cons_zero, List.getElem?_cons_succ, List.append_nil, beq_self_eq_true, Nat.zero_add, Bool.not_true, St.bump, wantG, Option.bind, Nat.add_assoc, List.size_toArray, r5, d64, dm1, dm2]
      refine pc10.call (by simp [untok, AV.strip, Go.Pv.goods, Go.Pv.good, hB]) e2 ?_
      simp only [↓cw_seq, ↓cw_region, ↓then_normal, ↓draw_false, ↓ow_nil, ↓ow_cons, ↓ow_consG, ↓contO_eq, ↓op_move, ↓op_assign, ↓op_binOp, ↓op_extract, ↓op_call, ↓force_DO, vW_some, bW_true, setD_some, on1_some, on2_some, biV_eq, exV, callV_some, arg_val, opd, opds, ofConst, leaf, rd_set, binV, eqV, isConst, ifaceF, Nat.reduceEqDiff, Nat.reduceAdd, reduceIte, Bool.or_true, Bool.and_true, List.length_cons, List.length_nil, List.getElem?_cons_zero, List.getElem?_cons_succ, List.append_nil, beq_self_eq_true, Nat.zero_add, Bool.not_true, St.bump, wantG, Option.bind, Nat.add_assoc, List.size_toArray, r6]
      refine pc16.call (by simp [untok, AV.strip, Go.Pv.goods, Go.Pv.good, hlg]) e4 ?_
      simp only [↓cw_skip, ↓cw_seq, ↓cw_cond, ↓cw_region, ↓then_normal, ↓draw_false, ↓ow_nil, ↓ow_cons, ↓ow_consG, ↓contO_eq, ↓op_move, ↓op_binOp, ↓op_unOp, ↓op_pick, ↓op_call, ↓force_DC, ↓force_DO, vW_some, bW_true, bW_false, ifW_some, setD_some, on1_some, on2_some, biV_eq, pkV, callV_some, arg_val, opd, opds, ofConst, leaf, rd_set, binV, eqV, unV, isConst, ifaceF, Nat.reduceEqDiff, Nat.reduceAdd, reduceIte, Bool.or_true, Bool.and_true, List.length_cons, List.length_nil, List.getElem?_cons_zero, List.getElem?_cons_succ, List.append_nil, beq_self_eq_true, Nat.zero_add, Bool.not_true, St.bump, wantG, Option.bind, Nat.add_assoc, List.size_toArray]
      refine pc10.call (by simp [untok, AV.strip, Go.Pv.goods, Go.Pv.good, hC]) c2 ?_
      simp only [↓cw_seq, ↓cw_region, ↓then_normal, ↓draw_false, ↓ow_nil, ↓ow_cons, ↓ow_consG, ↓contO_eq, ↓op_move, ↓op_assign, ↓op_binOp, ↓op_extract, ↓op_call, ↓force_DO, vW_some, bW_true, setD_some, on1_some, on2_some, biV_eq, exV, callV_some, arg_val, opd, opds, ofConst, leaf, rd_set, binV, eqV, isConst, ifaceF, Nat.reduceEqDiff, Nat.reduceAdd, reduceIte, Bool.or_true, Bool.and_true, List.length_cons, List.length_nil, List.getElem?_cons_zero, List.getElem?_cons_succ, List.append_nil, beq_self_eq_true, Nat.zero_add, St.bump, wantG, Option.bind, Nat.add_assoc, List.size_toArray]
      refine pc16.call (by simp [untok, AV.strip, Go.Pv.goods, Go.Pv.good, goods_u32s]) c4 ?_
      simp only [↓ow_cons, ↓ow_consG, ↓contO_eq, ↓op_move, ↓op_pick, ↓op_call, ↓force_DO, vW_some, bW_true, setD_some, pkV, callV_some, arg_val, opd, opds, ofConst, leaf, rd_set, Nat.reduceEqDiff, Nat.reduceAdd, reduceIte, List.getElem?_cons_zero, List.getElem?_cons_succ, List.append_nil, beq_self_eq_true, wantG, Option.bind]
      refine pc9.call rfl w_sure ?_
      simp only [↓cw_ret, ↓then_normal, ↓then_ret, ↓draw_false, ↓ow_nil, ↓ow_cons, ↓contO_eq, ↓op_assign, ↓op_pick, ↓ret_ret, vW_some, setD_some, pkV, resW, opd, ofConst, leaf, rd_set, resV, Nat.reduceEqDiff, Nat.reduceAdd, reduceIte, Tryd.f7]
      exact ⟨rfl, rfl⟩
    · rw [decide_eq_false (show ¬ 0 < m by omega), Bool.false_and, if_neg (by simp)] at c1
      have dm1 : decide ((m : Int) ≥ 1) = false := decide_eq_false (by omega)
      have dm2 : True := trivial
      simp only [↓cw_seq, ↓cw_region, ↓then_normal, ↓ow_cons, ↓contO_eq, ↓op_move, ↓op_call, ↓force_DQ, block_exit, vW_some, bW_true, setD_some, callV_some, arg_val, nbeq, opd, opds, rd_set, Nat.reduceAdd, reduceIte, List.length_cons, List.length_nil, List.append_nil, beq_self_eq_true, Nat.zero_add, List.size_toArray, r6]
      refine pc17.call (by simp [untok, AV.strip, Go.Pv.goods, Go.Pv.good, hlg]) e1 ?_
      simp only [↓cw_seq, ↓cw_region, ↓then_normal, ↓draw_false, ↓ow_nil, ↓ow_cons, ↓contO_eq, ↓op_move, ↓op_assign, ↓op_build, ↓op_buildSlice, ↓op_binOp, ↓op_convert, ↓op_extract, ↓op_makeSlice, ↓op_call, vW_some, pW_some, setD_some, bldV, bldS, on1_some, on2_some, biV_eq, exV, msV, callV_some, arg_val, opd, opds, ofConst, leaf, rd_set, binV, intV, convV, isConst, buildV, places, fillV, parts, put, flat, AV.cells, AV.strip, AV.strip0, undF, aggF, infF, Nat.reduceEqDiff, Nat.reduceAdd, Nat.reduceMul, Nat.reduceLeDiff, ne_eq, not_false_eq_true, reduceIte, reduceCtorEq, Bool.or_true, List.length_cons, List.length_nil, List.getElem?_cons_zero, List.getElem?_cons_succ, List.append_nil, List.take_succ_cons, List.take_zero, List.set_cons_zero, List.set_cons_succ, List.map_cons, List.map_nil, Int.reduceEq, Nat.zero_add, and_self, newTok, St.bump, Tr.get_set, Nat.add_assoc, Nat.add_left_cancel_iff, Int.toNat_natCast, or_true, or_false, List.headD_cons, tokFree, buildSliceV, repeatCells, chunk, List.size_toArray, r1, hm, makeSliceV, m0, m1, m2, Int.le_refl, Int.cast_ofNat_Int, rep_u32, hf1.tb]
      refine pc17.call (by simp [untok, AV.strip, Go.Pv.goods, Go.Pv.good, goods_u32s]) c1 ?_
      simp only [errV]
      simp only [↓cw_skip, ↓cw_seq, ↓cw_cond, ↓cw_region, ↓then_normal, ↓draw_false, ↓ow_nil, ↓ow_cons, ↓ow_consG, ↓contO_eq, ↓op_move, ↓op_assign, ↓op_binOp, ↓op_extract, ↓op_pick, ↓op_call, ↓force_DC, ↓force_DO, ↓force_DOs, vW_some, bW_true, bW_false, ifW_some, setD_some, on1_some, on2_some, biV_eq, exV, pkV, callV_some, arg_val, opd, opds, ofConst, leaf, rd_set, binV, intV, eqV, isConst, ifaceF, boolF, Nat.reduceEqDiff, Nat.reduceAdd, reduceIte, Bool.or_false, Bool.or_true, Bool.and_true, List.length_cons, List.length_nil, List.getElem?_cons_zero, List.getElem?_cons_succ, List.append_nil, beq_self_eq_true, Nat.zero_add, Bool.not_true, St.bump, wantG, Option.bind, Nat.add_assoc, beqT, List.size_toArray, r5, d64, dm1, Int.cast_ofNat_Int]
      refine pc10.call (by simp [untok, AV.strip, Go.Pv.goods, Go.Pv.good, hB]) e2 ?_
      simp only [↓cw_seq, ↓cw_region, ↓then_normal, ↓draw_false, ↓ow_nil, ↓ow_cons, ↓ow_consG, ↓contO_eq, ↓op_move, ↓op_assign, ↓op_binOp, ↓op_extract, ↓op_call, ↓force_DO, vW_some, bW_true, setD_some, on1_some, on2_some, biV_eq, exV, callV_some, arg_val, opd, opds, ofConst, leaf, rd_set, binV, eqV, isConst, ifaceF, Nat.reduceEqDiff, Nat.reduceAdd, reduceIte, Bool.or_true, Bool.and_true, List.length_cons, List.length_nil, List.getElem?_cons_zero, List.getElem?_cons_succ, List.append_nil, beq_self_eq_true, Nat.zero_add, Bool.not_true, St.bump, wantG, Option.bind, Nat.add_assoc, List.size_toArray, r6]
      refine pc16.call (by simp [untok, AV.strip, Go.Pv.goods, Go.Pv.good, hlg]) e4 ?_
      simp only [↓cw_skip, ↓cw_seq, ↓cw_cond, ↓cw_region, ↓then_normal, ↓draw_false, ↓ow_nil, ↓ow_cons, ↓ow_consG, ↓contO_eq, ↓op_move, ↓op_binOp, ↓op_unOp, ↓op_pick, ↓op_call, ↓force_DC, ↓force_DO, vW_some, pW_some, bW_true, bW_false, ifW_some, setD_some, on1_some, on2_some, biV_eq, pkV, callV_some, arg_blt, arg_val, opd, opds, ofConst, leaf, pureV, rd_set, binV, intV, eqV, unV, isConst, bltV, lenV, undF, ifaceF, Nat.reduceEqDiff, Nat.reduceAdd, reduceIte, Bool.or_true, List.length_cons, List.length_nil, List.getElem?_cons_zero, List.getElem?_cons_succ, List.append_nil, beq_self_eq_true, Nat.zero_add, Bool.not_true, St.bump, wantG, Option.bind, Nat.add_assoc, List.size_toArray, Int.natCast_zero]
      refine pc9.call rfl w_sure ?_
      simp only [↓cw_ret, ↓then_normal, ↓draw_false, ↓ow_nil, ↓ow_cons, ↓contO_eq, ↓op_assign, ↓op_pick, ↓ret_ret, vW_some, setD_some, pkV, resW, opd, ofConst, leaf, rd_set, resV, Nat.reduceEqDiff, Nat.reduceAdd, reduceIte, Tryd.f7]
      exact ⟨rfl, rfl⟩
    · rw [decide_eq_false (show ¬ m ≤ 257 by omega), Bool.and_false, if_neg (by simp)] at c1
      have dm1 : decide ((m : Int) ≥ 1) = true := decide_eq_true (by omega)
      have dm2 : decide ((m : Int) ≤ 257) = false := decide_eq_false (by omega)
      simp only [↓cw_seq, ↓cw_region, ↓then_normal, ↓ow_cons, ↓contO_eq, ↓op_move, ↓op_call, ↓force_DQ, block_exit, vW_some, bW_true, setD_some, callV_some, arg_val, nbeq, opd, opds, rd_set, Nat.reduceAdd, reduceIte, List.length_cons, List.length_nil, List.append_nil, beq_self_eq_true, Nat.zero_add, List.size_toArray, r6]
      refine pc17.call (by simp [untok, AV.strip, Go.Pv.goods, Go.Pv.good, hlg]) e1 ?_
      simp only [↓cw_seq, ↓cw_region, ↓then_normal, ↓draw_false, ↓ow_nil, ↓ow_cons, ↓contO_eq, ↓op_move, ↓op_assign, ↓op_build, ↓op_buildSlice, ↓op_binOp, ↓op_convert, ↓op_extract, ↓op_makeSlice, ↓op_call, vW_some, pW_some, setD_some, bldV, bldS, on1_some, on2_some, biV_eq, exV, msV, callV_some, arg_val, opd, opds, ofConst, leaf, rd_set, binV, intV, convV, isConst, buildV, places, fillV, parts, put, flat, AV.cells, AV.strip, AV.strip0, undF, aggF, infF, Nat.reduceEqDiff, Nat.reduceAdd, Nat.reduceMul, Nat.reduceLeDiff, ne_eq, not_false_eq_true, reduceIte, reduceCtorEq, Bool.or_true, List.length_cons, List.length_nil, List.getElem?_cons_zero, List.getElem?_cons_succ, List.append_nil, List.take_succ_cons, List.take_zero, List.set_cons_zero, List.set_cons_succ, List.map_cons, List.map_nil, Int.reduceEq, Nat.zero_add, and_self, newTok, St.bump, Tr.get_set, Nat.add_assoc, Nat.add_left_cancel_iff, Int.toNat_natCast, or_true, or_false, List.headD_cons, tokFree, buildSliceV, repeatCells, chunk, List.size_toArray, r1, hm, makeSliceV, m0, m1, m2, Int.le_refl, Int.cast_ofNat_Int, rep_u32, hf1.tb]
      refine pc17.call (by simp [untok, AV.strip, Go.Pv.goods, Go.Pv.good, goods_u32s]) c1 ?_
      simp only [errV]
      simp only [↓cw_skip, ↓cw_seq, ↓cw_cond, ↓cw_region, ↓then_normal, ↓draw_false, ↓ow_nil, ↓ow_cons, ↓ow_consG, ↓contO_eq, ↓op_move, ↓op_assign, ↓op_binOp, ↓op_extract, ↓op_pick, ↓op_call, ↓force_DC, ↓force_DO, vW_some, bW_true, bW_false, ifW_some, setD_some, on1_some, on2_some, biV_eq, exV, pkV, callV_some, arg_val, opd, opds, ofConst, leaf, rd_set, binV, intV, eqV, isConst, ifaceF, boolF, Nat.reduceEqDiff, Nat.reduceAdd, reduceIte, Bool.or_false, Bool.or_true, Bool.and_true, List.length_cons, List.length_nil, List.getElem?_cons_zero, List.getElem?_cons_succ, List.append_nil, beq_self_eq_true, Nat.zero_add, Bool.not_true, St.bump, wantG, Option.bind, Nat.add_assoc, List.size_toArray, r5, d64, dm1, dm2, Int.cast_ofNat_Int]
      refine pc10.call (by simp [untok, AV.strip, Go.Pv.goods, Go.Pv.good, hB]) e2 ?_
      simp only [↓cw_seq, ↓cw_region, ↓then_normal, ↓draw_false, ↓ow_nil, ↓ow_cons, ↓ow_consG, ↓contO_eq, ↓op_move, ↓op_assign, ↓op_binOp, ↓op_extract, ↓op_call, ↓force_DO, vW_some, bW_true, setD_some, on1_some, on2_some, biV_eq, exV, callV_some, arg_val, opd, opds, ofConst, leaf, rd_set, binV, eqV, isConst, ifaceF, Nat.reduceEqDiff, Nat.reduceAdd, reduceIte, Bool.or_true, Bool.and_true, List.length_cons, List.length_nil, List.getElem?_cons_zero, List.getElem?_cons_succ, List.append_nil, beq_self_eq_true, Nat.zero_add, Bool.not_true, St.bump, wantG, Option.bind, Nat.add_assoc, List.size_toArray, r6]
      refine pc16.call (by simp [untok, AV.strip, Go.Pv.goods, Go.Pv.good, hlg]) e4 ?_
      simp only [↓cw_skip, ↓cw_seq, ↓cw_cond, ↓cw_region, ↓then_normal, ↓draw_false, ↓ow_nil, ↓ow_cons, ↓ow_consG, ↓contO_eq, ↓op_move, ↓op_binOp, ↓op_unOp, ↓op_pick, ↓op_call, ↓force_DC, ↓force_DO, vW_some, pW_some, bW_true, bW_false, ifW_some, setD_some, on1_some, on2_some, biV_eq, pkV, callV_some, arg_blt, arg_val, opd, opds, ofConst, leaf, pureV, rd_set, binV, intV, eqV, unV, isConst, bltV, lenV, undF, ifaceF, Nat.reduceEqDiff, Nat.reduceAdd, reduceIte, Bool.or_true, List.length_cons, List.length_nil, List.getElem?_cons_zero, List.getElem?_cons_succ, List.append_nil, beq_self_eq_true, Nat.zero_add, Bool.not_true, St.bump, wantG, Option.bind, Nat.add_assoc, List.size_toArray, Int.natCast_zero]
      refine pc9.call rfl w_sure ?_
      simp only [↓cw_ret, ↓then_normal, ↓draw_false, ↓ow_nil, ↓ow_cons, ↓contO_eq, ↓op_assign, ↓op_pick, ↓ret_ret, vW_some, setD_some, pkV, resW, opd, ofConst, leaf, rd_set, resV, Nat.reduceEqDiff, Nat.reduceAdd, reduceIte, Tryd.f7]
      exact ⟨rfl, rfl⟩
  · rw [decide_eq_false h64, if_neg (by simp)] at e1
    have d64 : decide ((k : Int) ≤ 64) = false := decide_eq_false (by omega)
    have hmc : (1 ≤ m ∧ m ≤ 257) ∨ m = 0 ∨ 257 < m := by omega
    rcases hmc with ⟨hm1, hm2⟩ | hm1 | hm1
    · rw [decide_eq_true (show 0 < m by omega), decide_eq_true (show m ≤ 257 by omega), Bool.true_and, if_pos rfl] at c1
      have c2 := c2 (by omega) (by omega)
      have dm1 : decide ((m : Int) ≥ 1) = true := decide_eq_true (by omega)
      have dm2 : decide ((m : Int) ≤ 257) = true := decide_eq_true (by omega)
      simp only [↓cw_seq, ↓cw_region, ↓then_normal, ↓ow_cons, ↓contO_eq, ↓op_move, ↓op_call, ↓force_DQ, block_exit, vW_some, bW_true, setD_some, callV_some, arg_val, nbeq, opd, opds, rd_set, Nat.reduceAdd, reduceIte, List.length_cons, List.length_nil, List.append_nil, beq_self_eq_true, Nat.zero_add, List.size_toArray, r6]
      refine pc17.call (by simp [untok, AV.strip, Go.Pv.goods, Go.Pv.good, hlg]) e1 ?_
      simp only [errV]
      simp only [↓cw_seq, ↓cw_region, ↓then_normal, ↓draw_false, ↓ow_nil, ↓ow_cons, ↓contO_eq, ↓op_move, ↓op_assign, ↓op_build, ↓op_buildSlice, ↓op_binOp, ↓op_convert, ↓op_extract, ↓op_makeSlice, ↓op_call, vW_some, pW_some, setD_some, bldV, bldS, on1_some, on2_some, biV_eq, exV, msV, callV_some, arg_val, opd, opds, ofConst, leaf, rd_set, binV, intV, convV, isConst, buildV, places, fillV, parts, put, flat, AV.cells, AV.strip, AV.strip0, undF, aggF, infF, Nat.reduceEqDiff, Nat.reduceAdd, Nat.reduceMul, Nat.reduceLeDiff, ne_eq, not_false_eq_true, reduceIte, reduceCtorEq, Bool.or_true, List.length_cons, List.length_nil, List.getElem?_cons_zero, List.getElem?_cons_succ, List.append_nil, List.take_succ_cons, List.take_zero, List.set_cons_zero, List.set_cons_succ, List.map_cons, List.map_nil, Int.reduceEq, Nat.zero_add, and_self, newTok, St.bump, Tr.get_set, Nat.add_assoc, Nat.add_left_cancel_iff, Int.toNat_natCast, or_true, or_false, List.headD_cons, tokFree, buildSliceV, repeatCells, chunk, List.size_toArray, r1, hm, makeSliceV, m0, m1, m2, Int.le_refl, Int.cast_ofNat_Int, rep_u32, hf1.tb]
      refine pc17.call (by simp [untok, AV.strip, Go.Pv.goods, Go.Pv.good, goods_u32s]) c1 ?_
      simp only [↓cw_skip, ↓cw_seq, ↓cw_block, ↓cw_cond, ↓cw_region, ↓then_normal, ↓draw_false, ↓ow_nil, ↓ow_cons, ↓ow_consG, ↓contO_eq, ↓op_move, ↓op_assign, ↓op_binOp, ↓op_extract, ↓op_pick, ↓force_DC, ↓force_DO, vW_some, bW_true, bW_false, ifW_some, setD_some, on1_some, on2_some, biV_eq, exV, pkV, opd, ofConst, leaf, rd_set, binV, intV, eqV, isConst, ifaceF, boolF, Nat.reduceEqDiff, Nat.reduceAdd, reduceIte, Bool.or_false, Bool.or_true, Bool.and_true, List.length_cons, List.length_nil, List.getElem?_cons_zero, List.getElem?_cons_succ, beq_self_eq_true, Nat.zero_add, Bool.not_true, St.bump, wantG, Option.bind, Nat.add_assoc, List.size_toArray, r5, d64, dm1, dm2]
      refine loop7c k (.i .i64 (m : Int)) (.sl [iav 14 0 0 0 0 [] [] (u32s (List.replicate m 0))] (σ1.nb + 17)) (.sl C 0) (.ne) _ hk67 (fun κ fr σ2 hf2 hk2 hkn2 r5 r10 r11 r12 r13 r17 => ?_) k 0 1 _ _ (by omega) ?_ (.inl ⟨rfl, rfl⟩) (by simp only; omega) ?_ ?_ ?_ ?_ ?_ ?_ ?_
      rotate_left
      · first | exact Fresh.of (by repeat (first | exact (Fresh.freeH hf1 (by omega)) | refine FreeH.set ?_ (by omega))) (by repeat (first | exact (Fresh.freeT hf1 (by omega)) | refine FreeT.set ?_ (by omega) | refine FreeT.via (by assumption) ?_ (by omega)))
      · simp only [rd_set, Nat.reduceEqDiff, reduceIte, r5]
      · simp only [rd_set, Nat.reduceEqDiff, reduceIte]
      · simp only [rd_set, Nat.reduceEqDiff, reduceIte]
        rfl
      · simp only [rd_set, Nat.reduceEqDiff, reduceIte]
      · simp only [rd_set, Nat.reduceEqDiff, reduceIte]
      · simp only [rd_set, Nat.reduceEqDiff, reduceIte]
        rfl
      · simp only [rd_set, Nat.reduceEqDiff, reduceIte]
        rfl
      simp only [↓cw_seq, ↓cw_block, ↓cw_region, ↓then_normal, ↓draw_false, ↓ow_nil, ↓ow_cons, ↓contO_eq, ↓op_assign, ↓force_DQ, block_exit, vW_some, bW_true, setD_some, nbeq, opd, ofConst, leaf, List.length_cons, List.length_nil, beq_self_eq_true, Nat.zero_add, St.bump, List.size_toArray]
      refine loop7d k (.i .i64 (m : Int)) (.sl [iav 14 0 0 0 0 [] [] (u32s (List.replicate m 0))] (σ1.nb + 17)) (.sl C 0) (.ne) _ hk67 (fun κ fr σ2 hf2 r5 r10 r11 r12 r13 r17 => ?_) (k + 1) 0 κ _ _ (by omega) ?_ ?_ ?_ ?_ ?_ ?_ ?_ ?_ ?_ ?_
      rotate_left
      · first | exact Fresh.of (by repeat (first | exact (Fresh.freeH hf2 (by omega)) | refine FreeH.set ?_ (by omega))) (by repeat (first | exact (Fresh.freeT hf2 (by omega)) | refine FreeT.set ?_ (by omega) | refine FreeT.via (by assumption) ?_ (by omega)))
      · simpa [TokOk] using hk2
      · simp only; omega
      · simp only [rd_set, Nat.reduceEqDiff, reduceIte, r5]
      · simp only [rd_set, Nat.reduceEqDiff, reduceIte, r10]
      · simp only [rd_set, Nat.reduceEqDiff, reduceIte, r11]
      · simp only [rd_set, Nat.reduceEqDiff, reduceIte, r12]
      · simp only [rd_set, Nat.reduceEqDiff, reduceIte, r13]
      · simp only [rd_set, Nat.reduceEqDiff, reduceIte, List.append_nil, r17, List.replicate_zero]
      · simp only [rd_set, reduceIte]
        rfl
      simp only [↓cw_seq, ↓cw_region, ↓then_normal, ↓ow_cons, ↓contO_eq, ↓op_move, ↓op_call, ↓force_DQ, block_exit, vW_some, bW_true, setD_some, callV_some, arg_val, nbeq, opd, opds, rd_set, Nat.reduceAdd, reduceIte, List.length_cons, List.length_nil, List.append_nil, beq_self_eq_true, Nat.zero_add, List.size_toArray, r17]
      refine pc10.call (by simp [untok, AV.strip, Go.Pv.goods, Go.Pv.good, goods_u8s]) (w_deepN k (by omega) hk67) ?_
      simp only [errV, iav, Int.cast_ofNat_Int] at r11 r13 ⊢
      simp only [↓cw_seq, ↓cw_region, ↓then_normal, ↓draw_false, ↓ow_nil, ↓ow_cons, ↓contO_eq, ↓op_move, ↓op_assign, ↓op_extract, ↓op_call, vW_some, setD_some, on1_some, exV, callV_some, arg_val, opd, opds, rd_set, Nat.reduceEqDiff, Nat.reduceAdd, reduceIte, List.length_cons, List.length_nil, List.getElem?_cons_zero, List.getElem?_cons_succ, List.append_nil, Nat.zero_add, St.bump, List.size_toArray]
      refine FnW_prim rfl (by kernel_rfl) (p := pNum) (by kernel_rfl) (r := .i .i64 9) rfl ?_
      simp only [↓cw_skip, ↓cw_seq, ↓cw_cond, ↓cw_region, ↓then_normal, ↓draw_false, ↓ow_nil, ↓ow_cons, ↓ow_consG, ↓contO_eq, ↓op_move, ↓op_binOp, ↓op_pick, ↓op_call, ↓force_DC, ↓force_DO, vW_some, bW_true, bW_false, ifW_some, setD_some, on2_some, biV_eq, pkV, callV_some, arg_val, opd, opds, ofConst, leaf, rd_set, binV, intV, eqV, isConst, ifaceF, Nat.reduceEqDiff, Nat.reduceAdd, reduceIte, Bool.or_true, Bool.and_true, List.length_cons, List.length_nil, List.getElem?_cons_zero, List.getElem?_cons_succ, List.append_nil, beq_self_eq_true, Nat.zero_add, St.bump, wantG, Option.bind, Nat.add_assoc, List.size_toArray, show ((9 : Int) != 9) = false from rfl, show ((128 : Int) != 128) = false from rfl, r12, r13]
      refine pc10.call (by simp [untok, AV.strip, Go.Pv.goods, Go.Pv.good, hC]) c2 ?_
      simp only [↓cw_seq, ↓cw_region, ↓then_normal, ↓draw_false, ↓ow_nil, ↓ow_cons, ↓ow_consG, ↓contO_eq, ↓op_move, ↓op_assign, ↓op_binOp, ↓op_extract, ↓op_call, ↓force_DO, vW_some, bW_true, setD_some, on1_some, on2_some, biV_eq, exV, callV_some, arg_val, opd, opds, ofConst, leaf, rd_set, binV, eqV, isConst, ifaceF, Nat.reduceEqDiff, Nat.reduceAdd, reduceIte, Bool.or_true, Bool.and_true, List.length_cons, List.length_nil, List.getElem?_cons_zero, List.getElem?_cons_succ, List.append_nil, beq_self_eq_true, Nat.zero_add, St.bump, wantG, Option.bind, Nat.add_assoc, List.size_toArray, r11]
      refine pc16.call (by simp [untok, AV.strip, Go.Pv.goods, Go.Pv.good, goods_u32s]) c4 ?_
      simp only [↓ow_cons, ↓ow_consG, ↓contO_eq, ↓op_move, ↓op_pick, ↓op_call, ↓force_DO, vW_some, bW_true, setD_some, pkV, callV_some, arg_val, opd, opds, ofConst, leaf, rd_set, Nat.reduceEqDiff, Nat.reduceAdd, reduceIte, List.getElem?_cons_zero, List.getElem?_cons_succ, List.append_nil, beq_self_eq_true, wantG, Option.bind]
      refine pc9.call rfl w_sure ?_
      simp only [↓cw_ret, ↓then_normal, ↓then_ret, ↓draw_false, ↓ow_nil, ↓ow_cons, ↓contO_eq, ↓op_assign, ↓op_pick, ↓ret_ret, vW_some, setD_some, pkV, resW, opd, ofConst, leaf, rd_set, resV, Nat.reduceEqDiff, Nat.reduceAdd, reduceIte, Tryd.f7]
      exact ⟨rfl, rfl⟩
    · rw [decide_eq_false (show ¬ 0 < m by omega), Bool.false_and, if_neg (by simp)] at c1
      have dm1 : decide ((m : Int) ≥ 1) = false := decide_eq_false (by omega)
      have dm2 : True := trivial
      simp only [↓cw_seq, ↓cw_region, ↓then_normal, ↓ow_cons, ↓contO_eq, ↓op_move, ↓op_call, ↓force_DQ, block_exit, vW_some, bW_true, setD_some, callV_some, arg_val, nbeq, opd, opds, rd_set, Nat.reduceAdd, reduceIte, List.length_cons, List.length_nil, List.append_nil, beq_self_eq_true, Nat.zero_add, List.size_toArray, r6]
      refine pc17.call (by simp [untok, AV.strip, Go.Pv.goods, Go.Pv.good, hlg]) e1 ?_
      simp only [errV]
      simp only [↓cw_seq, ↓cw_region, ↓then_normal, ↓draw_false, ↓ow_nil, ↓ow_cons, ↓contO_eq, ↓op_move, ↓op_assign, ↓op_build, ↓op_buildSlice, ↓op_binOp, ↓op_convert, ↓op_extract, ↓op_makeSlice, ↓op_call, vW_some, pW_some, setD_some, bldV, bldS, on1_some, on2_some, biV_eq, exV, msV, callV_some, arg_val, opd, opds, ofConst, leaf, rd_set, binV, intV, convV, isConst, buildV, places, fillV, parts, put, flat, AV.cells, AV.strip, AV.strip0, undF, aggF, infF, Nat.reduceEqDiff, Nat.reduceAdd, Nat.reduceMul, Nat.reduceLeDiff, ne_eq, not_false_eq_true, reduceIte, reduceCtorEq, Bool.or_true, List.length_cons, List.length_nil, List.getElem?_cons_zero, List.getElem?_cons_succ, List.append_nil, List.take_succ_cons, List.take_zero, List.set_cons_zero, List.set_cons_succ, List.map_cons, List.map_nil, Int.reduceEq, Nat.zero_add, and_self, newTok, St.bump, Tr.get_set, Nat.add_assoc, Nat.add_left_cancel_iff, Int.toNat_natCast, or_true, or_false, List.headD_cons, tokFree, buildSliceV, repeatCells, chunk, List.size_toArray, r1, hm, makeSliceV, m0, m1, m2, Int.le_refl, Int.cast_ofNat_Int, rep_u32, hf1.tb]
      refine pc17.call (by simp [untok, AV.strip, Go.Pv.goods, Go.Pv.good, goods_u32s]) c1 ?_
      simp only [errV]
      simp only [↓cw_skip, ↓cw_seq, ↓cw_block, ↓cw_cond, ↓cw_region, ↓then_normal, ↓draw_false, ↓ow_nil, ↓ow_cons, ↓ow_consG, ↓contO_eq, ↓op_move, ↓op_assign, ↓op_binOp, ↓op_extract, ↓op_pick, ↓force_DC, ↓force_DO, ↓force_DOs, vW_some, bW_true, bW_false, ifW_some, setD_some, on1_some, on2_some, biV_eq, exV, pkV, opd, ofConst, leaf, rd_set, binV, intV, eqV, isConst, ifaceF, boolF, Nat.reduceEqDiff, Nat.reduceAdd, reduceIte, Bool.or_false, Bool.or_true, List.length_cons, List.length_nil, List.getElem?_cons_zero, List.getElem?_cons_succ, beq_self_eq_true, Nat.zero_add, Bool.not_true, St.bump, wantG, Option.bind, Nat.add_assoc, beqT, List.size_toArray, r5, d64, dm1, Int.cast_ofNat_Int]
      refine loop7c k (.i .i64 (m : Int)) (.sl [iav 14 0 0 0 0 [] [] (u32s (List.replicate m 0))] (σ1.nb + 17)) (.sl [] 0) (errV 1) _ hk67 (fun κ fr σ2 hf2 hk2 hkn2 r5 r10 r11 r12 r13 r17 => ?_) k 0 1 _ _ (by omega) ?_ (.inl ⟨rfl, rfl⟩) (by simp only; omega) ?_ ?_ ?_ ?_ ?_ ?_ ?_
      rotate_left
      · first | exact Fresh.of (by repeat (first | exact (Fresh.freeH hf1 (by omega)) | refine FreeH.set ?_ (by omega))) (by repeat (first | exact (Fresh.freeT hf1 (by omega)) | refine FreeT.set ?_ (by omega) | refine FreeT.via (by assumption) ?_ (by omega)))
      · simp only [rd_set, Nat.reduceEqDiff, reduceIte, r5]
      · simp only [rd_set, Nat.reduceEqDiff, reduceIte]
      · simp only [rd_set, Nat.reduceEqDiff, reduceIte]
        rfl
      · simp only [rd_set, Nat.reduceEqDiff, reduceIte]
      · simp only [rd_set, Nat.reduceEqDiff, reduceIte]
        rfl
      · simp only [rd_set, Nat.reduceEqDiff, reduceIte]
        rfl
      · simp only [rd_set, Nat.reduceEqDiff, reduceIte]
        rfl
      simp only [↓cw_seq, ↓cw_block, ↓cw_region, ↓then_normal, ↓draw_false, ↓ow_nil, ↓ow_cons, ↓contO_eq, ↓op_assign, ↓force_DQ, block_exit, vW_some, bW_true, setD_some, nbeq, opd, ofConst, leaf, List.length_cons, List.length_nil, beq_self_eq_true, Nat.zero_add, St.bump, List.size_toArray]
      refine loop7d k (.i .i64 (m : Int)) (.sl [iav 14 0 0 0 0 [] [] (u32s (List.replicate m 0))] (σ1.nb + 17)) (.sl [] 0) (errV 1) _ hk67 (fun κ fr σ2 hf2 r5 r10 r11 r12 r13 r17 => ?_) (k + 1) 0 κ _ _ (by omega) ?_ ?_ ?_ ?_ ?_ ?_ ?_ ?_ ?_ ?_
      rotate_left
      · first | exact Fresh.of (by repeat (first | exact (Fresh.freeH hf2 (by omega)) | refine FreeH.set ?_ (by omega))) (by repeat (first | exact (Fresh.freeT hf2 (by omega)) | refine FreeT.set ?_ (by omega) | refine FreeT.via (by assumption) ?_ (by omega)))
      · simpa [TokOk] using hk2
      · simp only; omega
      · simp only [rd_set, Nat.reduceEqDiff, reduceIte, r5]
      · simp only [rd_set, Nat.reduceEqDiff, reduceIte, r10]
      · simp only [rd_set, Nat.reduceEqDiff, reduceIte, r11]
      · simp only [rd_set, Nat.reduceEqDiff, reduceIte, r12]
      · simp only [rd_set, Nat.reduceEqDiff, reduceIte, r13]
      · simp only [rd_set, Nat.reduceEqDiff, reduceIte, List.append_nil, r17, List.replicate_zero]
      · simp only [rd_set, reduceIte]
        rfl
      simp only [↓cw_seq, ↓cw_region, ↓then_normal, ↓ow_cons, ↓contO_eq, ↓op_move, ↓op_call, ↓force_DQ, block_exit, vW_some, bW_true, setD_some, callV_some, arg_val, nbeq, opd, opds, rd_set, Nat.reduceAdd, reduceIte, List.length_cons, List.length_nil, List.append_nil, beq_self_eq_true, Nat.zero_add, List.size_toArray, r17]
      refine pc10.call (by simp [untok, AV.strip, Go.Pv.goods, Go.Pv.good, goods_u8s]) (w_deepN k (by omega) hk67) ?_
      simp only [errV, iav, Int.cast_ofNat_Int] at r11 r13 ⊢
      simp only [↓cw_seq, ↓cw_region, ↓then_normal, ↓draw_false, ↓ow_nil, ↓ow_cons, ↓contO_eq, ↓op_move, ↓op_assign, ↓op_extract, ↓op_call, vW_some, setD_some, on1_some, exV, callV_some, arg_val, opd, opds, rd_set, Nat.reduceEqDiff, Nat.reduceAdd, reduceIte, List.length_cons, List.length_nil, List.getElem?_cons_zero, List.getElem?_cons_succ, List.append_nil, Nat.zero_add, St.bump, List.size_toArray]
      refine FnW_prim rfl (by kernel_rfl) (p := pNum) (by kernel_rfl) (r := .i .i64 9) rfl ?_
      simp only [↓cw_skip, ↓cw_seq, ↓cw_cond, ↓cw_region, ↓then_normal, ↓draw_false, ↓ow_nil, ↓ow_cons, ↓ow_consG, ↓contO_eq, ↓op_move, ↓op_binOp, ↓op_pick, ↓op_call, ↓force_DC, ↓force_DO, vW_some, pW_some, bW_true, bW_false, ifW_some, setD_some, on2_some, biV_eq, pkV, callV_some, arg_blt, arg_val, opd, opds, ofConst, leaf, pureV, rd_set, binV, intV, eqV, isConst, bltV, lenV, undF, ifaceF, Nat.reduceEqDiff, Nat.reduceAdd, reduceIte, Bool.or_true, List.length_cons, List.length_nil, List.getElem?_cons_zero, List.getElem?_cons_succ, List.append_nil, beq_self_eq_true, Nat.zero_add, St.bump, wantG, Option.bind, Nat.add_assoc, List.size_toArray, show ((9 : Int) != 9) = false from rfl, show ((128 : Int) != 128) = false from rfl, r12, r13, Int.natCast_zero]
      refine pc9.call rfl w_sure ?_
      simp only [↓cw_ret, ↓then_normal, ↓draw_false, ↓ow_nil, ↓ow_cons, ↓contO_eq, ↓op_assign, ↓op_pick, ↓ret_ret, vW_some, setD_some, pkV, resW, opd, ofConst, leaf, rd_set, resV, Nat.reduceEqDiff, Nat.reduceAdd, reduceIte, Tryd.f7]
      exact ⟨rfl, rfl⟩
    · rw [decide_eq_false (show ¬ m ≤ 257 by omega), Bool.and_false, if_neg (by simp)] at c1
      have dm1 : decide ((m : Int) ≥ 1) = true := decide_eq_true (by omega)
      have dm2 : decide ((m : Int) ≤ 257) = false := decide_eq_false (by omega)
      simp only [↓cw_seq, ↓cw_region, ↓then_normal, ↓ow_cons, ↓contO_eq, ↓op_move, ↓op_call, ↓force_DQ, block_exit, vW_some, bW_true, setD_some, callV_some, arg_val, nbeq, opd, opds, rd_set, Nat.reduceAdd, reduceIte, List.length_cons, List.length_nil, List.append_nil, beq_self_eq_true, Nat.zero_add, List.size_toArray, r6]
      refine pc17.call (by simp [untok, AV.strip, Go.Pv.goods, Go.Pv.good, hlg]) e1 ?_
      simp only [errV]
      simp only [↓cw_seq, ↓cw_region, ↓then_normal, ↓draw_false, ↓ow_nil, ↓ow_cons, ↓contO_eq, ↓op_move, ↓op_assign, ↓op_build, ↓op_buildSlice, ↓op_binOp, ↓op_convert, ↓op_extract, ↓op_makeSlice, ↓op_call, vW_some, pW_some, setD_some, bldV, bldS, on1_some, on2_some, biV_eq, exV, msV, callV_some, arg_val, opd, opds, ofConst, leaf, rd_set, binV, intV, convV, isConst, buildV, places, fillV, parts, put, flat, AV.cells, AV.strip, AV.strip0, undF, aggF, infF, Nat.reduceEqDiff, Nat.reduceAdd, Nat.reduceMul, Nat.reduceLeDiff, ne_eq, not_false_eq_true, reduceIte, reduceCtorEq, Bool.or_true, List.length_cons, List.length_nil, List.getElem?_cons_zero, List.getElem?_cons_succ, List.append_nil, List.take_succ_cons, List.take_zero, List.set_cons_zero, List.set_cons_succ, List.map_cons, List.map_nil, Int.reduceEq, Nat.zero_add, and_self, newTok, St.bump, Tr.get_set, Nat.add_assoc, Nat.add_left_cancel_iff, Int.toNat_natCast, or_true, or_false, List.headD_cons, tokFree, buildSliceV, repeatCells, chunk, List.size_toArray, r1, hm, makeSliceV, m0, m1, m2, Int.le_refl, Int.cast_ofNat_Int, rep_u32, hf1.tb]
      refine pc17.call (by simp [untok, AV.strip, Go.Pv.goods, Go.Pv.good, goods_u32s]) c1 ?_
      simp only [errV]
      simp only [↓cw_skip, ↓cw_seq, ↓cw_block, ↓cw_cond, ↓cw_region, ↓then_normal, ↓draw_false, ↓ow_nil, ↓ow_cons, ↓ow_consG, ↓contO_eq, ↓op_move, ↓op_assign, ↓op_binOp, ↓op_extract, ↓op_pick, ↓force_DC, ↓force_DO, vW_some, bW_true, bW_false, ifW_some, setD_some, on1_some, on2_some, biV_eq, exV, pkV, opd, ofConst, leaf, rd_set, binV, intV, eqV, isConst, ifaceF, boolF, Nat.reduceEqDiff, Nat.reduceAdd, reduceIte, Bool.or_false, Bool.or_true, List.length_cons, List.length_nil, List.getElem?_cons_zero, List.getElem?_cons_succ, beq_self_eq_true, Nat.zero_add, Bool.not_true, St.bump, wantG, Option.bind, Nat.add_assoc, List.size_toArray, r5, d64, dm1, dm2, Int.cast_ofNat_Int]
      refine loop7c k (.i .i64 (m : Int)) (.sl [iav 14 0 0 0 0 [] [] (u32s (List.replicate m 0))] (σ1.nb + 17)) (.sl [] 0) (errV 1) _ hk67 (fun κ fr σ2 hf2 hk2 hkn2 r5 r10 r11 r12 r13 r17 => ?_) k 0 1 _ _ (by omega) ?_ (.inl ⟨rfl, rfl⟩) (by simp only; omega) ?_ ?_ ?_ ?_ ?_ ?_ ?_
      rotate_left
      · first | exact Fresh.of (by repeat (first | exact (Fresh.freeH hf1 (by omega)) | refine FreeH.set ?_ (by omega))) (by repeat (first | exact (Fresh.freeT hf1 (by omega)) | refine FreeT.set ?_ (by omega) | refine FreeT.via (by assumption) ?_ (by omega)))
      · simp only [rd_set, Nat.reduceEqDiff, reduceIte, r5]
      · simp only [rd_set, Nat.reduceEqDiff, reduceIte]
      · simp only [rd_set, Nat.reduceEqDiff, reduceIte]
        rfl
      · simp only [rd_set, Nat.reduceEqDiff, reduceIte]
      · simp only [rd_set, Nat.reduceEqDiff, reduceIte]
        rfl
      · simp only [rd_set, Nat.reduceEqDiff, reduceIte]
        rfl
      · simp only [rd_set, Nat.reduceEqDiff, reduceIte]
        rfl
      simp only [↓cw_seq, ↓cw_block, ↓cw_region, ↓then_normal, ↓draw_false, ↓ow_nil, ↓ow_cons, ↓contO_eq, ↓op_assign, ↓force_DQ, block_exit, vW_some, bW_true, setD_some, nbeq, opd, ofConst, leaf, List.length_cons, List.length_nil, beq_self_eq_true, Nat.zero_add, St.bump, List.size_toArray]
      refine loop7d k (.i .i64 (m : Int)) (.sl [iav 14 0 0 0 0 [] [] (u32s (List.replicate m 0))] (σ1.nb + 17)) (.sl [] 0) (errV 1) _ hk67 (fun κ fr σ2 hf2 r5 r10 r11 r12 r13 r17 => ?_) (k + 1) 0 κ _ _ (by omega) ?_ ?_ ?_ ?_ ?_ ?_ ?_ ?_ ?_ ?_
      rotate_left
      · first | exact Fresh.of (by repeat (first | exact (Fresh.freeH hf2 (by omega)) | refine FreeH.set ?_ (by omega))) (by repeat (first | exact (Fresh.freeT hf2 (by omega)) | refine FreeT.set ?_ (by omega) | refine FreeT.via (by assumption) ?_ (by omega)))
      · simpa [TokOk] using hk2
      · simp only; omega
      · simp only [rd_set, Nat.reduceEqDiff, reduceIte, r5]
      · simp only [rd_set, Nat.reduceEqDiff, reduceIte, r10]
      · simp only [rd_set, Nat.reduceEqDiff, reduceIte, r11]
      · simp only [rd_set, Nat.reduceEqDiff, reduceIte, r12]
      · simp only [rd_set, Nat.reduceEqDiff, reduceIte, r13]
      · simp only [rd_set, Nat.reduceEqDiff, reduceIte, List.append_nil, r17, List.replicate_zero]
      · simp only [rd_set, reduceIte]
        rfl
      simp only [↓cw_seq, ↓cw_region, ↓then_normal, ↓ow_cons, ↓contO_eq, ↓op_move, ↓op_call, ↓force_DQ, block_exit, vW_some, bW_true, setD_some, callV_some, arg_val, nbeq, opd, opds, rd_set, Nat.reduceAdd, reduceIte, List.length_cons, List.length_nil, List.append_nil, beq_self_eq_true, Nat.zero_add, List.size_toArray, r17]
      refine pc10.call (by simp [untok, AV.strip, Go.Pv.goods, Go.Pv.good, goods_u8s]) (w_deepN k (by omega) hk67) ?_
      simp only [errV, iav, Int.cast_ofNat_Int] at r11 r13 ⊢
      simp only [↓cw_seq, ↓cw_region, ↓then_normal, ↓draw_false, ↓ow_nil, ↓ow_cons, ↓contO_eq, ↓op_move, ↓op_assign, ↓op_extract, ↓op_call, vW_some, setD_some, on1_some, exV, callV_some, arg_val, opd, opds, rd_set, Nat.reduceEqDiff, Nat.reduceAdd, reduceIte, List.length_cons, List.length_nil, List.getElem?_cons_zero, List.getElem?_cons_succ, List.append_nil, Nat.zero_add, St.bump, List.size_toArray]
      refine FnW_prim rfl (by kernel_rfl) (p := pNum) (by kernel_rfl) (r := .i .i64 9) rfl ?_
      simp only [↓cw_skip, ↓cw_seq, ↓cw_cond, ↓cw_region, ↓then_normal, ↓draw_false, ↓ow_nil, ↓ow_cons, ↓ow_consG, ↓contO_eq, ↓op_move, ↓op_binOp, ↓op_pick, ↓op_call, ↓force_DC, ↓force_DO, vW_some, pW_some, bW_true, bW_false, ifW_some, setD_some, on2_some, biV_eq, pkV, callV_some, arg_blt, arg_val, opd, opds, ofConst, leaf, pureV, rd_set, binV, intV, eqV, isConst, bltV, lenV, undF, ifaceF, Nat.reduceEqDiff, Nat.reduceAdd, reduceIte, Bool.or_true, List.length_cons, List.length_nil, List.getElem?_cons_zero, List.getElem?_cons_succ, List.append_nil, beq_self_eq_true, Nat.zero_add, St.bump, wantG, Option.bind, Nat.add_assoc, List.size_toArray, show ((9 : Int) != 9) = false from rfl, show ((128 : Int) != 128) = false from rfl, r12, r13, Int.natCast_zero]
      refine pc9.call rfl w_sure ?_
      simp only [↓cw_ret, ↓then_normal, ↓draw_false, ↓ow_nil, ↓ow_cons, ↓contO_eq, ↓op_assign, ↓op_pick, ↓ret_ret, vW_some, setD_some, pkV, resW, opd, ofConst, leaf, rd_set, resV, Nat.reduceEqDiff, Nat.reduceAdd, reduceIte, Tryd.f7]
      exact ⟨rfl, rfl⟩
end Go.Pv
