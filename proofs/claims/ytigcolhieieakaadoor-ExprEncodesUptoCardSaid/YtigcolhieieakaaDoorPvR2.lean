/- The reader, where all is well: whole. (PvZ6) -/
import Derived.Test.YtigcolhieieakaaDoorPvR1
namespace Go.Pv
open Go Go.Proofs Go.RowKit
set_option linter.unusedVariables false
set_option linter.unusedSimpArgs false
set_option maxRecDepth 100000

theorem get_app2 (x y : Int) (r : List Int) : (u8s (x :: y :: r))[1]? = some (.i .u8 y) := rfl
theorem w_check64 : PureW TS 78 [.i .i64 32] .ne := by
  unfold PureW
  refine callW_of ft78 rfl (Nat.le_of_ble_eq_true rfl) ?_
  generalize St.start = σ
  simp only [↓cw_skip, ↓cw_ret, ↓cw_seq, ↓cw_cond, ↓cw_region, ↓then_normal, ↓draw_false, ↓ow_nil, ↓ow_cons, ↓ow_consG, ↓contO_eq, ↓op_move, ↓op_assign, ↓op_binOp, ↓op_pick, ↓ret_ret, ↓force_DC, ↓force_DO, vW_some, bW_true, bW_false, ifW_some, setD_some, on2_some, biV_eq, pkV, resW, opd, ofConst, leaf, rd_set, rd_nil, Fr.ofList, binV, intV, isConst, resV, Nat.reduceEqDiff, Nat.reduceAdd, reduceIte, reduceCtorEq, Bool.or_true, List.length_cons, List.length_nil, List.getElem?_cons_zero, List.getElem?_cons_succ, decide_false, Int.reduceLT, Int.reduceGT, beq_self_eq_true, Nat.zero_add, St.bump, wantG, Option.bind, Nat.add_assoc, List.size_toArray, Tryd.f78]
  exact ⟨rfl, rfl⟩

theorem w_takeU2 (v : Nat) (rest : List Int) (hv : 128 ≤ v) (hv2 : v < 16384) (hl : rest.length < 4611686018427387902) : PureW TS 74 [.sl (u8s (((v % 128 + 128 : Nat) : Int) :: ((v / 128 : Nat) : Int) :: rest)) 0, .i .i64 32] (.t [.i .u64 v, .i .i64 2, .ne]) := by
  unfold PureW
  refine callW_of ft74 rfl (Nat.le_of_ble_eq_true rfl) ?_
  generalize St.start = σ
  have hlt : decide ((0 : Int) < ((rest.length + (1 + 1) : Nat) : Int)) = true := decide_eq_true (by omega)
  have hlt1 : decide ((1 : Int) < ((rest.length + (1 + 1) : Nat) : Int)) = true := decide_eq_true (by omega)
  have hv1 : decide (((v % 128 + 128 : Nat) : Int) < 128) = false := decide_eq_false (by omega)
  have hv2' : decide (((v / 128 : Nat) : Int) < 128) = true := decide_eq_true (by omega)
  have h79 : PureW TS 79 [.sl (u8s (((v % 128 + 128 : Nat) : Int) :: ((v / 128 : Nat) : Int) :: rest)) 0, .i .i64 32] (.t [.i .i64 2, .ne]) := by
    unfold PureW
    refine callW_of ft79 rfl (Nat.le_of_ble_eq_true rfl) ?_
    generalize St.start = σ
    simp only [↓cw_seq, ↓cw_block, ↓cw_region, ↓then_normal, ↓draw_false, ↓ow_nil, ↓ow_cons, ↓contO_eq, ↓op_move, ↓op_assign, ↓op_binOp, ↓op_call, vW_some, pW_some, setD_some, on2_some, biV_eq, arg_blt, opd, opds, ofConst, leaf, pureV, rd_set, rd_nil, Fr.ofList, binV, intV, isConst, bltV, lenV, undF, Nat.reduceEqDiff, Nat.reduceAdd, reduceIte, reduceCtorEq, Bool.or_true, List.length_cons, List.length_nil, Int.reduceEq, Nat.zero_add, St.bump, Nat.add_assoc, List.size_toArray, u8s_len]
    simp only [Nat.reduceAdd] at hlt hlt1
    rw [cw_loop]
    simp only [↓cw_skip, ↓cw_seq, ↓cw_block, ↓cw_cond, ↓cw_region, ↓then_normal, ↓block_normal, ↓draw_false, ↓ow_nil, ↓ow_cons, ↓contO_eq, ↓op_move, ↓op_assign, ↓op_load, ↓op_binOp, ↓op_indexAddr, ↓force_DC, vW_some, bW_true, bW_false, ifW_some, setD_some, on1_some, on2_some, ldV_eq, biV_eq, opd, ofConst, leaf, rd_set, rd_nil, binV, intV, isConst, idxAddrV, loadV, take?, AV.cells, undF, aggF, infF, Nat.reduceEqDiff, Nat.reduceAdd, Nat.reduceLeDiff, reduceIte, reduceCtorEq, Bool.or_false, Bool.or_true, List.length_cons, List.length_nil, List.getElem?_cons_zero, List.drop_zero, List.take_succ_cons, List.take_zero, Int.reduceBEq, Nat.zero_add, St.bump, Nat.add_assoc, List.size_toArray, hlt, get_app1, show Int.toNat 0 = 0 from rfl, hv1, Int.le_refl, show fw .i64 (32 + 7) = 39 from rfl, show fw .i64 (39 - 1) = 38 from rfl, show fw .i64 (Int.tdiv 38 7) = 5 from rfl, show fw .i64 (0 + 1) = 1 from rfl]
    rw [cw_loop]
    simp only [↓cw_skip, ↓cw_ret, ↓cw_seq, ↓cw_block, ↓cw_cond, ↓cw_region, ↓then_normal, ↓then_ret, ↓block_ret, ↓draw_false, ↓ow_nil, ↓ow_cons, ↓contO_eq, ↓op_move, ↓op_assign, ↓op_load, ↓op_binOp, ↓op_indexAddr, ↓ret_ret, ↓force_DC, vW_some, bW_true, bW_false, ifW_some, setD_some, on1_some, on2_some, ldV_eq, biV_eq, resW, opd, ofConst, leaf, rd_set, rd_nil, binV, intV, isConst, idxAddrV, loadV, take?, AV.cells, undF, aggF, infF, resV, Nat.reduceEqDiff, Nat.reduceAdd, Nat.reduceLeDiff, reduceIte, reduceCtorEq, Bool.or_false, Bool.or_true, List.length_cons, List.length_nil, List.getElem?_cons_zero, List.drop_zero, List.take_succ_cons, List.take_zero, Int.reduceLE, Int.reduceBEq, Nat.zero_add, St.bump, Nat.add_assoc, List.size_toArray, hlt1, get_app2, show Int.toNat 1 = 1 from rfl, hv2', show fw .i64 (1 + 1) = 2 from rfl, Tryd.f79]
    exact ⟨rfl, rfl⟩
  simp only [↓cw_seq, ↓cw_region, ↓then_normal, ↓draw_false, ↓ow_nil, ↓ow_cons, ↓contO_eq, ↓op_move, ↓op_assign, ↓op_call, vW_some, setD_some, callV_some, arg_val, opd, opds, ofConst, leaf, rd_set, rd_nil, Fr.ofList, Nat.reduceEqDiff, Nat.reduceAdd, reduceIte, reduceCtorEq, List.length_cons, List.length_nil, List.append_nil, Nat.zero_add, St.bump, List.size_toArray]
  refine pc78.call rfl w_check64 ?_
  simp only [↓cw_skip, ↓cw_seq, ↓cw_cond, ↓cw_region, ↓then_normal, ↓draw_false, ↓ow_nil, ↓ow_cons, ↓contO_eq, ↓op_move, ↓op_assign, ↓op_binOp, ↓op_call, ↓force_DC, vW_some, bW_false, ifW_some, setD_some, on2_some, biV_eq, callV_some, arg_val, opd, opds, ofConst, leaf, rd_set, rd_nil, binV, eqV, isConst, ifaceF, Nat.reduceEqDiff, Nat.reduceAdd, reduceIte, reduceCtorEq, Bool.or_true, Bool.and_true, List.length_cons, List.length_nil, List.append_nil, Nat.zero_add, Bool.not_true, St.bump, Nat.add_assoc, List.size_toArray]
  refine pc79.call (by simp [untok, AV.strip, Go.Pv.goods, Go.Pv.good, goods_u8s]) h79 ?_
  simp only [↓cw_skip, ↓cw_seq, ↓cw_block, ↓cw_cond, ↓cw_region, ↓then_normal, ↓draw_false, ↓ow_nil, ↓ow_cons, ↓contO_eq, ↓op_move, ↓op_assign, ↓op_binOp, ↓op_extract, ↓force_DC, vW_some, bW_false, ifW_some, setD_some, on1_some, on2_some, biV_eq, exV, opd, ofConst, leaf, rd_set, rd_nil, binV, intV, eqV, isConst, ifaceF, Nat.reduceEqDiff, Nat.reduceAdd, reduceIte, reduceCtorEq, Bool.or_true, Bool.and_true, List.length_cons, List.length_nil, List.getElem?_cons_zero, List.getElem?_cons_succ, Nat.zero_add, Bool.not_true, St.bump, Nat.add_assoc, List.size_toArray, show fw .i64 (2 - 1) = 1 from rfl]
  rw [cw_loop]
  have hs := shl7_u64 0 (by decide)
  have ho := or_u64 0 (v / 128) (by omega) (by omega)
  have hs' := shl7_u64 (v / 128) (by omega)
  have ho' := or_u64 (v / 128) (v % 128) (by omega) (by omega)
  have hvv : v / 128 * 128 + v % 128 = v := by omega
  rw [hvv] at ho'
  simp only [Nat.zero_mul, Nat.zero_add, Int.natCast_zero] at hs ho
  have hm1 := not128_nat (v % 128 + 128) (by omega)
  rw [show (v % 128 + 128) % 128 = v % 128 from by omega] at hm1
  have hm2 := not128_nat (v / 128) (by omega)
  rw [show v / 128 % 128 = v / 128 from by omega] at hm2
  simp only [↓cw_skip, ↓cw_seq, ↓cw_block, ↓cw_cond, ↓cw_region, ↓then_normal, ↓block_normal, ↓draw_false, ↓ow_nil, ↓ow_cons, ↓contO_eq, ↓op_move, ↓op_assign, ↓op_load, ↓op_binOp, ↓op_convert, ↓op_indexAddr, ↓force_DC, vW_some, bW_true, ifW_some, setD_some, on1_some, on2_some, ldV_eq, biV_eq, opd, ofConst, leaf, rd_set, rd_nil, binV, intV, shiftV, convV, isConst, idxAddrV, loadV, take?, AV.cells, undF, aggF, infF, Nat.reduceEqDiff, Nat.reduceAdd, Nat.reduceLeDiff, reduceIte, reduceCtorEq, Bool.or_false, Bool.or_true, List.length_cons, List.length_nil, List.getElem?_cons_zero, List.drop_zero, List.take_succ_cons, List.take_zero, decide_true, Int.reduceLE, Int.reduceLT, Int.reduceGE, Nat.zero_add, St.bump, Nat.add_assoc, List.size_toArray, show Int.toNat 1 = 1 from rfl, get_app2, hs, hm2, fw_u64_of (v / 128) (by omega), ho, show fw .i64 (1 - 1) = 0 from rfl]
  rw [cw_loop]
  simp only [↓cw_skip, ↓cw_seq, ↓cw_block, ↓cw_cond, ↓cw_region, ↓then_normal, ↓block_normal, ↓draw_false, ↓ow_nil, ↓ow_cons, ↓contO_eq, ↓op_move, ↓op_assign, ↓op_load, ↓op_binOp, ↓op_convert, ↓op_indexAddr, ↓force_DC, vW_some, bW_true, ifW_some, setD_some, on1_some, on2_some, ldV_eq, biV_eq, opd, ofConst, leaf, rd_set, rd_nil, binV, intV, shiftV, convV, isConst, idxAddrV, loadV, take?, AV.cells, undF, aggF, infF, Nat.reduceEqDiff, Nat.reduceAdd, Nat.reduceLeDiff, reduceIte, reduceCtorEq, Bool.or_false, Bool.or_true, List.length_cons, List.length_nil, List.getElem?_cons_zero, List.drop_zero, List.take_succ_cons, List.take_zero, decide_true, Int.reduceLT, Nat.zero_add, St.bump, Nat.add_assoc, List.size_toArray, show Int.toNat 0 = 0 from rfl, Int.le_refl, get_app1, hs', hm1, fw_u64_of (v % 128) (by omega), ho', show fw .i64 (0 - 1) = -1 from rfl]
  rw [cw_loop]
  simp only [↓cw_skip, ↓cw_ret, ↓cw_exit, ↓cw_seq, ↓cw_cond, ↓cw_region, ↓then_normal, ↓then_exit, ↓draw_false, ↓ow_nil, ↓ow_cons, ↓ow_consG, ↓contO_eq, ↓op_move, ↓op_assign, ↓op_binOp, ↓op_pick, ↓ret_ret, ↓force_DC, ↓force_DQ, ↓force_DOs, block_exit, vW_some, bW_true, bW_false, ifW_some, setD_some, on2_some, biV_eq, pkV, resW, nbeq, opd, ofConst, leaf, rd_set, rd_nil, binV, intV, isConst, resV, Nat.reduceEqDiff, Nat.reduceAdd, reduceIte, reduceCtorEq, Bool.or_false, Bool.or_true, List.length_cons, List.length_nil, List.getElem?_cons_zero, List.getElem?_cons_succ, decide_false, Int.reduceLT, Int.reduceGE, beq_self_eq_true, Nat.zero_add, St.bump, wantG, Option.bind, Nat.add_assoc, beqT, List.size_toArray, show fw .i64 (2 - 1) = 1 from rfl, show fw .i64 (7 * 1) = 7 from rfl, show fw .i64 (32 - 7) = 25 from rfl, Tryd.f74]
  exact ⟨rfl, rfl⟩

theorem w_takeU (v : Nat) (rest : List Int) (hv2 : v < 16384) (hl : rest.length < 4611686018427387902) : PureW TS 74 [.sl (u8s (encU v ++ rest)) 0, .i .i64 32] (.t [.i .u64 v, .i .i64 (encU v).length, .ne]) := by
  by_cases h : v < 128
  · rw [encU_lt h]
    exact w_takeU1 v rest h (by omega)
  · rw [encU_ge h, encU_lt (show v / 128 < 128 by omega)]
    exact w_takeU2 v rest (by omega) hv2 hl

theorem drop_u8s (l : List Int) (n : Nat) : (u8s l).drop n = u8s (l.drop n) := by simp [u8s]
theorem head8 (l : List Int) : (headSize 1 (u8s l) = true) = True := by simp [head_u8s]

theorem w_whole (σ : St) (p : Nat) (bs rest : List Int) (a m v : Nat) (Q : AV → St → Prop) (hf : Fresh σ) (hp : p < σ.nb) (hr : RS σ p bs a m) (hv : v < 16384) (hx : bs.drop a = encU v ++ rest) (hb : bs.length < 1152921504606846976)
    (hQ : ∀ σ', ExtR p σ σ' → RS σ' p bs (a + (encU v).length) m → Q (.i .u32 v) σ') : CallW TS 55 [.p p 0] σ Q := by
  unfold RS at hr
  have hlen : (encU v).length + rest.length = bs.length - a := by rw [← List.length_append, ← hx, List.length_drop]
  have hal : a < bs.length := by have := encU_pos v; omega
  have h0 : (0 : Int) ≤ a := by omega
  have hle : (a : Int) ≤ bs.length := by omega
  have htk : List.take (bs.length - a) (u8s (bs.drop a)) = u8s (encU v ++ rest) := by
    rw [hx, List.take_of_length_le (by rw [u8s_len, List.length_append]; omega)]
  refine callW_of ft55 rfl (Nat.le_of_ble_eq_true rfl) ?_
  simp only [↓cw_skip, ↓cw_seq, ↓cw_cond, ↓cw_region, ↓then_normal, ↓draw_false, ↓ow_nil, ↓ow_cons, ↓contO_eq, ↓op_move, ↓op_assign, ↓op_load, ↓op_nilCheck, ↓op_binOp, ↓op_slice, ↓op_fieldAddr, ↓op_call, ↓force_DC, vW_some, bW_false, ifW_some, setD_some, on1_some, on2_some, ldV_eq, nilV, biV_eq, slV, faV_eq, callV_some, arg_val, opd, opds, optOpd, ofConst, leaf, rd_set, rd_nil, Fr.ofList, binV, eqV, isConst, loadV, fieldAddrV, take?, hiB, loB, boundV, sliceV, undF, aggF, infF, ifaceF, Nat.reduceEqDiff, Nat.reduceAdd, Nat.reduceLeDiff, reduceIte, reduceCtorEq, Bool.or_true, Bool.and_true, List.length_cons, List.length_nil, List.getElem?_cons_zero, List.getElem?_cons_succ, List.append_nil, List.drop_succ_cons, List.drop_zero, List.take_succ_cons, List.take_zero, Nat.add_zero, Nat.zero_add, and_self, Bool.not_true, St.bump, Nat.add_assoc, Int.toNat_natCast, List.size_toArray, hr, u8s_len, h0, hle, drop_u8s, head8, htk]
  refine pc74.call (by simp [untok, AV.strip, Go.Pv.goods, Go.Pv.good, goods_u8s]) (w_takeU v rest hv (by omega)) ?_
  have hfv : fw .u32 (v : Int) = (v : Int) := by unfold fw; simp only; rw [if_pos (by omega)]
  have hfa : fw .i64 ((a : Int) + ((encU v).length : Int)) = ((a + (encU v).length : Nat) : Int) := by unfold fw; simp only; rw [if_pos (by omega)]; omega
  simp only [↓cw_skip, ↓cw_ret, ↓cw_seq, ↓cw_cond, ↓cw_region, ↓then_normal, ↓draw_false, ↓draw_true, ↓ow_nil, ↓ow_cons, ↓contO_eq, ↓op_move, ↓op_assign, ↓op_load, ↓op_store, ↓op_nilCheck, ↓op_binOp, ↓op_convert, ↓op_fieldAddr, ↓op_extract, ↓ret_ret, ↓force_DC, ↓force_DQ, vW_some, pW_some, bW_false, ifW_some, setD_some, setD_none, on1_some, on2_some, ldV_eq, stV, nilV, biV_eq, faV_eq, exV, resW, opd, ofConst, leaf, rd_set, rd_nil, binV, intV, eqV, convV, isConst, loadV, fieldAddrV, take?, put, flat, AV.cells, hasStore, isStore, undF, aggF, infF, ifaceF, resV, Nat.reduceEqDiff, Nat.reduceAdd, Nat.reduceLeDiff, reduceIte, reduceCtorEq, Bool.or_false, Bool.or_true, Bool.and_true, List.any, List.length_cons, List.length_nil, List.getElem?_cons_zero, List.getElem?_cons_succ, List.drop_succ_cons, List.drop_zero, List.take_succ_cons, List.take_zero, List.set_cons_zero, List.set_cons_succ, Nat.zero_add, and_self, Bool.not_true, St.bump, storeV, Nat.add_assoc, List.size_toArray, hr, hfv, hfa, Tryd.f55]
  refine hQ _ ⟨by simp only; omega, ?_, fun l hl hne => ?_, fun k hk => rfl⟩ ?_
  · first | exact Fresh.of (by repeat (first | exact (Fresh.freeH hf (by omega)) | refine FreeH.set ?_ (by omega))) (by repeat (first | exact (Fresh.freeT hf (by omega)) | refine FreeT.set ?_ (by omega) | refine FreeT.via (by assumption) ?_ (by omega)))
  · simp only [Tr.get_set]; rw [if_neg hne]
  · simp only [RS, Tr.get_set, if_true]
end Go.Pv
