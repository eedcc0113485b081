/- The document's reader: number, signed, nought, kind. (PvZ6) -/
import Derived.Test.YtigcolhieieakaaDoorPvD8
namespace Go.Pv
open Go Go.Proofs Go.RowKit
set_option linter.unusedVariables false
set_option linter.unusedSimpArgs false
set_option maxRecDepth 100000

def rav (bs : List Nat) (a m e : Nat) : AV := .a [.sl (nat8 bs) 0, .i .i64 a, .i .i64 m, .i .i64 e]
theorem good_rav (bs : List Nat) (a m e : Nat) : good (rav bs a m e) = true := by simp [rav, Go.Pv.good, Go.Pv.goods, goods_nat8]

theorem w_number_err (bs : List Nat) (a m e : Nat) (he : e ≠ 0) : PureW TS 60 [rav bs a m e] (.t [rav bs a m e, .i .u32 0]) := by
  unfold PureW
  refine callW_of ft60 rfl (Nat.le_of_ble_eq_true rfl) ?_
  have hf : Fresh St.start := Fresh.start
  generalize St.start = σ at hf
  have hne : ((e : Int) != 0) = true := by rw [bne_iff_ne]; omega
  simp only [rav]
  simp only [↓cw_ret, ↓cw_seq, ↓cw_cond, ↓cw_region, ↓then_normal, ↓then_ret, ↓draw_false, ↓ow_nil, ↓ow_cons, ↓contO_eq, ↓op_assign, ↓op_alloc, ↓op_box, ↓op_load, ↓op_store, ↓op_binOp, ↓op_fieldAddr, ↓ret_ret, ↓force_DC, vW_some, pW_some, bW_true, ifW_some, setD_some, setD_none, allocV, boxV, on1_some, on2_some, ldV_eq, stV, biV_eq, faV_eq, resW, opd, ofConst, leaf, rd_set, rd_nil, Fr.ofList, binV, intV, isConst, loadV, fieldAddrV, take?, put, flat, AV.cells, undF, aggF, infF, resV, Nat.reduceEqDiff, Nat.reduceAdd, Nat.reduceLeDiff, reduceIte, reduceCtorEq, Bool.or_true, List.length_cons, List.length_nil, List.getElem?_cons_zero, List.getElem?_cons_succ, List.drop_succ_cons, List.drop_zero, List.take_succ_cons, List.take_zero, List.set_cons_zero, List.set_cons_succ, Nat.add_zero, Nat.zero_add, and_self, newBox, St.bump, storeV, Tr.get_set, Nat.add_assoc, Nat.left_eq_add, Nat.add_eq_left, boxFree, List.size_toArray, hf.hb, hf.h0, hne, Tryd.f60]
  exact ⟨by simp [untok, AV.strip, AV.strip0], by simp [Go.Pv.good, Go.Pv.goods, goods_nat8]⟩

def numV (bs : List Nat) (m : Nat) (r : Rp Nat) : AV := match r with
  | .ok v a => .t [rav bs a m 0, .i .u32 v]
  | .bad w e => .t [rav bs w m e, .i .u32 0]
theorem w_number (bs : List Nat) (a m : Nat) (ha : a ≤ bs.length) (hb : bs.length < 1000000) : PureW TS 60 [rav bs a m 0] (numV bs m (rdU bs a)) := by
  unfold PureW
  refine callW_of ft60 rfl (Nat.le_of_ble_eq_true rfl) ?_
  have hf : Fresh St.start := Fresh.start
  generalize St.start = σ at hf
  have h0 : (0 : Int) ≤ a := by omega
  have hle : (a : Int) ≤ bs.length := by omega
  have htk : List.take (bs.length - a) (nat8 (bs.drop a)) = nat8 (bs.drop a) := List.take_of_length_le (by rw [nat8_len, List.length_drop]; omega)
  simp only [rav]
  simp only [↓cw_skip, ↓cw_seq, ↓cw_cond, ↓cw_region, ↓then_normal, ↓draw_false, ↓ow_nil, ↓ow_cons, ↓contO_eq, ↓op_assign, ↓op_alloc, ↓op_box, ↓op_load, ↓op_binOp, ↓op_slice, ↓op_fieldAddr, ↓op_call, ↓force_DC, vW_some, pW_some, bW_false, ifW_some, setD_some, allocV, boxV, on1_some, on2_some, ldV_eq, biV_eq, slV, faV_eq, callV_some, arg_val, opd, opds, optOpd, ofConst, leaf, rd_set, rd_nil, Fr.ofList, binV, intV, isConst, loadV, fieldAddrV, take?, flat, AV.cells, hiB, loB, boundV, sliceV, undF, aggF, infF, Nat.reduceEqDiff, Nat.reduceAdd, Nat.reduceLeDiff, reduceIte, reduceCtorEq, Bool.or_true, List.length_cons, List.length_nil, List.getElem?_cons_zero, List.getElem?_cons_succ, List.append_nil, List.drop_succ_cons, List.drop_zero, List.take_succ_cons, List.take_zero, Nat.add_zero, Nat.zero_add, and_self, newBox, St.bump, Tr.get_set, Nat.add_assoc, Nat.left_eq_add, Nat.add_eq_left, Int.toNat_natCast, boxFree, List.size_toArray, hf.hb, hf.h0, show (((0 : Nat) : Int) != 0) = false from rfl, nat8_len, h0, hle, nat8_drop, head_nat8, htk]
  refine pc76.call (by simp [untok, AV.strip, Go.Pv.goods, Go.Pv.good, goods_nat8]) (w_rtakeU (bs.drop a) (by rw [List.length_drop]; omega)) ?_
  unfold rdU
  cases ht : tU (bs.drop a) with
  | ok v n =>
    have hl := tU_len ht
    rw [List.length_drop] at hl
    have hfa : fw .i64 ((a : Int) + (n : Int)) = ((a + n : Nat) : Int) := by unfold fw; simp only; rw [if_pos (by omega)]; omega
    have hfv : fw .u32 (v : Int) = (v : Int) := by unfold fw; simp only; rw [if_pos (by omega)]
    simp only [refUV]
    simp only [↓cw_ret, ↓cw_seq, ↓cw_region, ↓then_normal, ↓draw_false, ↓ow_nil, ↓ow_cons, ↓contO_eq, ↓op_move, ↓op_assign, ↓op_load, ↓op_store, ↓op_binOp, ↓op_convert, ↓op_fieldAddr, ↓op_extract, ↓ret_ret, vW_some, pW_some, setD_some, setD_none, on1_some, on2_some, ldV_eq, stV, biV_eq, faV_eq, exV, resW, opd, rd_set, rd_nil, binV, intV, convV, isConst, loadV, fieldAddrV, take?, put, flat, AV.cells, undF, aggF, infF, resV, Nat.reduceEqDiff, Nat.reduceAdd, Nat.reduceLeDiff, reduceIte, reduceCtorEq, Bool.or_false, List.length_cons, List.length_nil, List.getElem?_cons_zero, List.getElem?_cons_succ, List.drop_succ_cons, List.drop_zero, List.take_succ_cons, List.take_zero, List.set_cons_zero, List.set_cons_succ, Nat.zero_add, and_self, St.bump, storeV, Tr.get_set, Nat.add_assoc, Nat.left_eq_add, Nat.add_eq_left, List.size_toArray, hf.hb, hf.h0, hfa, hfv, Tryd.f60]
    exact ⟨by simp [untok, AV.strip, AV.strip0, numV, rav], by simp [numV, rav, Go.Pv.good, Go.Pv.goods, goods_nat8]⟩
  | bad e =>
    have hfa : fw .i64 ((a : Int) + 0) = (a : Int) := by unfold fw; simp only; rw [if_pos (by omega)]; omega
    simp only [refUV]
    simp only [↓cw_ret, ↓cw_seq, ↓cw_region, ↓then_normal, ↓draw_false, ↓ow_nil, ↓ow_cons, ↓contO_eq, ↓op_move, ↓op_assign, ↓op_load, ↓op_store, ↓op_binOp, ↓op_convert, ↓op_fieldAddr, ↓op_extract, ↓ret_ret, vW_some, pW_some, setD_some, setD_none, on1_some, on2_some, ldV_eq, stV, biV_eq, faV_eq, exV, resW, opd, rd_set, rd_nil, binV, intV, convV, isConst, loadV, fieldAddrV, take?, put, flat, AV.cells, undF, aggF, infF, resV, Nat.reduceEqDiff, Nat.reduceAdd, Nat.reduceLeDiff, reduceIte, reduceCtorEq, Bool.or_false, List.length_cons, List.length_nil, List.getElem?_cons_zero, List.getElem?_cons_succ, List.drop_succ_cons, List.drop_zero, List.take_succ_cons, List.take_zero, List.set_cons_zero, List.set_cons_succ, Nat.zero_add, and_self, St.bump, storeV, Tr.get_set, Nat.add_assoc, Nat.left_eq_add, Nat.add_eq_left, List.size_toArray, hf.hb, hf.h0, hfa, show fw .u32 0 = 0 from rfl, Tryd.f60]
    exact ⟨by simp [untok, AV.strip, AV.strip0, numV, rav], by simp [numV, rav, Go.Pv.good, Go.Pv.goods, goods_nat8]⟩

def sgnV (bs : List Nat) (m : Nat) (r : Rp Int) : AV := match r with
  | .ok v a => .t [rav bs a m 0, .i .i64 v]
  | .bad w e => .t [rav bs w m e, .i .i64 0]
theorem w_rsigned (bs : List Nat) (a m w : Nat) (hw : w = 32 ∨ w = 64) (ha : a ≤ bs.length) (hb : bs.length < 1000000) : PureW TS 59 [rav bs a m 0, .i .i64 (w : Int)] (sgnV bs m (rdS w bs a)) := by
  unfold PureW
  refine callW_of ft59 rfl (Nat.le_of_ble_eq_true rfl) ?_
  have hf : Fresh St.start := Fresh.start
  generalize St.start = σ at hf
  have h0 : (0 : Int) ≤ a := by omega
  have hle : (a : Int) ≤ bs.length := by omega
  have htk : List.take (bs.length - a) (nat8 (bs.drop a)) = nat8 (bs.drop a) := List.take_of_length_le (by rw [nat8_len, List.length_drop]; omega)
  simp only [rav]
  simp only [↓cw_seq, ↓cw_region, ↓then_normal, ↓draw_false, ↓ow_nil, ↓ow_cons, ↓contO_eq, ↓op_move, ↓op_assign, ↓op_alloc, ↓op_box, ↓op_load, ↓op_slice, ↓op_fieldAddr, ↓op_call, vW_some, pW_some, setD_some, allocV, boxV, on1_some, ldV_eq, slV, faV_eq, callV_some, arg_val, opd, opds, optOpd, ofConst, leaf, rd_set, rd_nil, Fr.ofList, loadV, fieldAddrV, take?, flat, AV.cells, hiB, loB, boundV, sliceV, undF, aggF, infF, Nat.reduceEqDiff, Nat.reduceAdd, Nat.reduceLeDiff, reduceIte, reduceCtorEq, List.length_cons, List.length_nil, List.getElem?_cons_zero, List.getElem?_cons_succ, List.append_nil, List.drop_succ_cons, List.drop_zero, List.take_succ_cons, List.take_zero, Nat.add_zero, Nat.zero_add, and_self, newBox, St.bump, Tr.get_set, Nat.left_eq_add, Nat.add_eq_left, Int.toNat_natCast, boxFree, List.size_toArray, hf.hb, hf.h0, nat8_len, h0, hle, nat8_drop, head_nat8, htk]
  refine pc75.call (by simp [untok, AV.strip, Go.Pv.goods, Go.Pv.good, goods_nat8]) (w_rtakeS (bs.drop a) w ((w + 6) / 7) (by omega) (by rw [List.length_drop]; omega)) ?_
  unfold rdS
  cases ht : tS w (bs.drop a) with
  | ok v n =>
    have hl := tS_len ht
    rw [List.length_drop] at hl
    have hfa : fw .i64 ((a : Int) + (n : Int)) = ((a + n : Nat) : Int) := by unfold fw; simp only; rw [if_pos (by omega)]; omega
    simp only [refSV]
    simp only [↓cw_ret, ↓cw_seq, ↓cw_region, ↓then_normal, ↓draw_false, ↓ow_nil, ↓ow_cons, ↓contO_eq, ↓op_move, ↓op_assign, ↓op_load, ↓op_store, ↓op_binOp, ↓op_fieldAddr, ↓op_extract, ↓ret_ret, vW_some, pW_some, setD_some, setD_none, on1_some, on2_some, ldV_eq, stV, biV_eq, faV_eq, exV, resW, opd, rd_set, rd_nil, binV, intV, isConst, loadV, fieldAddrV, take?, put, flat, AV.cells, undF, aggF, infF, resV, Nat.reduceEqDiff, Nat.reduceAdd, Nat.reduceLeDiff, reduceIte, reduceCtorEq, Bool.or_false, List.length_cons, List.length_nil, List.getElem?_cons_zero, List.getElem?_cons_succ, List.drop_succ_cons, List.drop_zero, List.take_succ_cons, List.take_zero, List.set_cons_zero, List.set_cons_succ, Nat.zero_add, and_self, St.bump, storeV, Tr.get_set, Nat.add_assoc, Nat.left_eq_add, Nat.add_eq_left, List.size_toArray, hf.hb, hf.h0, hfa, Tryd.f59]
    exact ⟨by simp [untok, AV.strip, AV.strip0, sgnV, rav], by simp [sgnV, rav, Go.Pv.good, Go.Pv.goods, goods_nat8]⟩
  | bad e =>
    have hfa : fw .i64 ((a : Int) + 0) = (a : Int) := by unfold fw; simp only; rw [if_pos (by omega)]; omega
    simp only [refSV]
    simp only [↓cw_ret, ↓cw_seq, ↓cw_region, ↓then_normal, ↓draw_false, ↓ow_nil, ↓ow_cons, ↓contO_eq, ↓op_move, ↓op_assign, ↓op_load, ↓op_store, ↓op_binOp, ↓op_fieldAddr, ↓op_extract, ↓ret_ret, vW_some, pW_some, setD_some, setD_none, on1_some, on2_some, ldV_eq, stV, biV_eq, faV_eq, exV, resW, opd, rd_set, rd_nil, binV, intV, isConst, loadV, fieldAddrV, take?, put, flat, AV.cells, undF, aggF, infF, resV, Nat.reduceEqDiff, Nat.reduceAdd, Nat.reduceLeDiff, reduceIte, reduceCtorEq, Bool.or_false, List.length_cons, List.length_nil, List.getElem?_cons_zero, List.getElem?_cons_succ, List.drop_succ_cons, List.drop_zero, List.take_succ_cons, List.take_zero, List.set_cons_zero, List.set_cons_succ, Nat.zero_add, and_self, St.bump, storeV, Tr.get_set, Nat.add_assoc, Nat.left_eq_add, Nat.add_eq_left, List.size_toArray, hf.hb, hf.h0, hfa, Tryd.f59]
    exact ⟨by simp [untok, AV.strip, AV.strip0, sgnV, rav], by simp [sgnV, rav, Go.Pv.good, Go.Pv.goods, goods_nat8]⟩

theorem w_rnought_err (bs : List Nat) (a m e : Nat) (he : e ≠ 0) : PureW TS 61 [rav bs a m e] (rav bs a m e) := by
  unfold PureW
  refine callW_of ft61 rfl (Nat.le_of_ble_eq_true rfl) ?_
  have hf : Fresh St.start := Fresh.start
  generalize St.start = σ at hf
  have hne : ((e : Int) != 0) = true := by rw [bne_iff_ne]; omega
  simp only [rav]
  simp only [↓cw_ret, ↓cw_seq, ↓cw_cond, ↓cw_region, ↓then_normal, ↓then_ret, ↓draw_false, ↓ow_nil, ↓ow_cons, ↓contO_eq, ↓op_alloc, ↓op_box, ↓op_load, ↓op_store, ↓op_binOp, ↓op_fieldAddr, ↓ret_ret, ↓force_DC, vW_some, pW_some, bW_true, ifW_some, setD_some, setD_none, allocV, boxV, on1_some, on2_some, ldV_eq, stV, biV_eq, faV_eq, resW, opd, ofConst, leaf, rd_set, rd_nil, Fr.ofList, binV, intV, isConst, loadV, fieldAddrV, take?, put, flat, AV.cells, undF, aggF, infF, resV, Nat.reduceEqDiff, Nat.reduceAdd, Nat.reduceLeDiff, reduceIte, reduceCtorEq, Bool.or_true, List.length_cons, List.length_nil, List.getElem?_cons_zero, List.getElem?_cons_succ, List.drop_succ_cons, List.drop_zero, List.take_succ_cons, List.take_zero, List.set_cons_zero, List.set_cons_succ, Nat.add_zero, Nat.zero_add, and_self, newBox, St.bump, storeV, Tr.get_set, Nat.add_assoc, Nat.left_eq_add, Nat.add_eq_left, boxFree, List.size_toArray, hf.hb, hf.h0, hne, Tryd.f61]
  exact ⟨by simp [untok, AV.strip, AV.strip0], by simp [Go.Pv.good, Go.Pv.goods, goods_nat8]⟩
def zrV (bs : List Nat) (m : Nat) (r : Rp Unit) : AV := match r with
  | .ok _ a => rav bs a m 0
  | .bad w e => rav bs w m e
theorem w_rnought (bs : List Nat) (a m : Nat) (hb : bs.length < 1000000) (ha : a ≤ bs.length) : PureW TS 61 [rav bs a m 0] (zrV bs m (rdZ bs a)) := by
  unfold PureW
  refine callW_of ft61 rfl (Nat.le_of_ble_eq_true rfl) ?_
  have hf : Fresh St.start := Fresh.start
  generalize St.start = σ at hf
  have h0 : (0 : Int) ≤ a := by omega
  simp only [rav]
  unfold rdZ
  by_cases hge : bs.length ≤ a
  · have hd : decide ((a : Int) ≥ bs.length) = true := decide_eq_true (by omega)
    simp only [↓cw_skip, ↓cw_ret, ↓cw_seq, ↓cw_cond, ↓cw_region, ↓then_normal, ↓then_ret, ↓draw_false, ↓ow_nil, ↓ow_cons, ↓contO_eq, ↓op_alloc, ↓op_box, ↓op_load, ↓op_store, ↓op_binOp, ↓op_fieldAddr, ↓op_call, ↓ret_ret, ↓force_DC, vW_some, pW_some, bW_true, bW_false, ifW_some, setD_some, setD_none, allocV, boxV, on1_some, on2_some, ldV_eq, stV, biV_eq, faV_eq, arg_blt, resW, opd, opds, ofConst, leaf, pureV, rd_set, rd_nil, Fr.ofList, binV, intV, isConst, bltV, lenV, loadV, fieldAddrV, take?, put, flat, AV.cells, undF, aggF, infF, resV, Nat.reduceEqDiff, Nat.reduceAdd, Nat.reduceLeDiff, reduceIte, reduceCtorEq, Bool.or_false, Bool.or_true, List.length_cons, List.length_nil, List.getElem?_cons_zero, List.getElem?_cons_succ, List.drop_succ_cons, List.drop_zero, List.take_succ_cons, List.take_zero, List.set_cons_zero, List.set_cons_succ, Nat.add_zero, Nat.zero_add, and_self, newBox, St.bump, storeV, Tr.get_set, Nat.add_assoc, Nat.left_eq_add, Nat.add_eq_left, boxFree, List.size_toArray, hf.hb, hf.h0, show (((0 : Nat) : Int) != 0) = false from rfl, nat8_len, hd, Tryd.f61]
    rw [List.getElem?_eq_none hge]
    exact ⟨by simp [untok, AV.strip, AV.strip0, zrV, rav], by simp [zrV, rav, Go.Pv.good, Go.Pv.goods, goods_nat8]⟩
  · have hd : decide ((a : Int) ≥ bs.length) = false := decide_eq_false (by omega)
    obtain ⟨c, hc⟩ : ∃ c, bs[a]? = some c := ⟨_, List.getElem?_eq_getElem (show a < bs.length by omega)⟩
    by_cases hz : c = 0
    · have hne : ((c : Int) != 0) = false := by rw [hz]; rfl
      simp only [↓cw_skip, ↓cw_ret, ↓cw_seq, ↓cw_cond, ↓cw_region, ↓then_normal, ↓draw_false, ↓ow_nil, ↓ow_cons, ↓contO_eq, ↓op_alloc, ↓op_box, ↓op_load, ↓op_store, ↓op_binOp, ↓op_fieldAddr, ↓op_indexAddr, ↓op_call, ↓ret_ret, ↓force_DC, vW_some, pW_some, bW_false, ifW_some, setD_some, setD_none, allocV, boxV, on1_some, on2_some, ldV_eq, stV, biV_eq, faV_eq, arg_blt, resW, opd, opds, ofConst, leaf, pureV, rd_set, rd_nil, Fr.ofList, binV, intV, isConst, bltV, lenV, idxAddrV, loadV, fieldAddrV, take?, put, flat, AV.cells, undF, aggF, infF, resV, Nat.reduceEqDiff, Nat.reduceAdd, Nat.reduceLeDiff, reduceIte, reduceCtorEq, Bool.or_false, Bool.or_true, List.length_cons, List.length_nil, List.getElem?_cons_zero, List.getElem?_cons_succ, List.drop_succ_cons, List.drop_zero, List.take_succ_cons, List.take_zero, List.set_cons_zero, List.set_cons_succ, Nat.add_zero, Nat.zero_add, and_self, newBox, St.bump, storeV, Tr.get_set, Nat.add_assoc, Nat.left_eq_add, Nat.add_eq_left, Int.toNat_natCast, boxFree, List.size_toArray, hf.hb, hf.h0, show (((0 : Nat) : Int) != 0) = false from rfl, nat8_len, hd, h0, nat8_get hc, hne, fw_add1 (n := a) (by omega), Tryd.f61]
      rw [hc]
      simp only [hz, if_true]
      exact ⟨by simp [untok, AV.strip, AV.strip0, zrV, rav], by simp [zrV, rav, Go.Pv.good, Go.Pv.goods, goods_nat8]⟩
    · have hne : ((c : Int) != 0) = true := by rw [bne_iff_ne]; omega
      simp only [↓cw_skip, ↓cw_ret, ↓cw_seq, ↓cw_cond, ↓cw_region, ↓then_normal, ↓then_ret, ↓draw_false, ↓ow_nil, ↓ow_cons, ↓contO_eq, ↓op_alloc, ↓op_box, ↓op_load, ↓op_store, ↓op_binOp, ↓op_fieldAddr, ↓op_indexAddr, ↓op_call, ↓ret_ret, ↓force_DC, vW_some, pW_some, bW_true, bW_false, ifW_some, setD_some, setD_none, allocV, boxV, on1_some, on2_some, ldV_eq, stV, biV_eq, faV_eq, arg_blt, resW, opd, opds, ofConst, leaf, pureV, rd_set, rd_nil, Fr.ofList, binV, intV, isConst, bltV, lenV, idxAddrV, loadV, fieldAddrV, take?, put, flat, AV.cells, undF, aggF, infF, resV, Nat.reduceEqDiff, Nat.reduceAdd, Nat.reduceLeDiff, reduceIte, reduceCtorEq, Bool.or_false, Bool.or_true, List.length_cons, List.length_nil, List.getElem?_cons_zero, List.getElem?_cons_succ, List.drop_succ_cons, List.drop_zero, List.take_succ_cons, List.take_zero, List.set_cons_zero, List.set_cons_succ, Nat.add_zero, Nat.zero_add, and_self, newBox, St.bump, storeV, Tr.get_set, Nat.add_assoc, Nat.left_eq_add, Nat.add_eq_left, Int.toNat_natCast, boxFree, List.size_toArray, hf.hb, hf.h0, show (((0 : Nat) : Int) != 0) = false from rfl, nat8_len, hd, h0, nat8_get hc, hne, Tryd.f61]
      rw [hc]
      simp only [hz, if_false]
      exact ⟨by simp [untok, AV.strip, AV.strip0, zrV, rav], by simp [zrV, rav, Go.Pv.good, Go.Pv.goods, goods_nat8]⟩

def kndV (bs : List Nat) (m : Nat) (r : Rp Nat) : AV := match r with
  | .ok v a => .t [rav bs a m 0, .i .u8 v]
  | .bad w e => .t [rav bs w m e, .i .u8 0]
theorem w_rrkind (bs : List Nat) (a m : Nat) (hb : bs.length < 1000000) (ha : a ≤ bs.length) : PureW TS 63 [rav bs a m 0] (kndV bs m (rdK bs a)) := by
  unfold PureW
  refine callW_of ft63 rfl (Nat.le_of_ble_eq_true rfl) ?_
  have hf : Fresh St.start := Fresh.start
  generalize St.start = σ at hf
  have h0 : (0 : Int) ≤ a := by omega
  simp only [rav]
  unfold rdK
  by_cases hge : bs.length ≤ a
  · have hd : decide ((a : Int) ≥ bs.length) = true := decide_eq_true (by omega)
    simp only [↓cw_ret, ↓cw_seq, ↓cw_cond, ↓cw_region, ↓then_normal, ↓then_ret, ↓draw_false, ↓ow_nil, ↓ow_cons, ↓contO_eq, ↓op_assign, ↓op_alloc, ↓op_box, ↓op_load, ↓op_store, ↓op_binOp, ↓op_fieldAddr, ↓op_call, ↓ret_ret, ↓force_DC, vW_some, pW_some, bW_true, ifW_some, setD_some, setD_none, allocV, boxV, on1_some, on2_some, ldV_eq, stV, biV_eq, faV_eq, arg_blt, resW, opd, opds, ofConst, leaf, pureV, rd_set, rd_nil, Fr.ofList, binV, intV, isConst, bltV, lenV, loadV, fieldAddrV, take?, put, flat, AV.cells, undF, aggF, infF, resV, Nat.reduceEqDiff, Nat.reduceAdd, Nat.reduceLeDiff, reduceIte, reduceCtorEq, Bool.or_false, List.length_cons, List.length_nil, List.getElem?_cons_zero, List.getElem?_cons_succ, List.drop_succ_cons, List.drop_zero, List.take_succ_cons, List.take_zero, List.set_cons_zero, List.set_cons_succ, Nat.add_zero, Nat.zero_add, and_self, newBox, St.bump, storeV, Tr.get_set, Nat.add_assoc, Nat.left_eq_add, Nat.add_eq_left, boxFree, List.size_toArray, hf.hb, hf.h0, nat8_len, hd, Tryd.f63]
    rw [List.getElem?_eq_none hge]
    exact ⟨by simp [untok, AV.strip, AV.strip0, kndV, rav], by simp [kndV, rav, Go.Pv.good, Go.Pv.goods, goods_nat8]⟩
  · have hd : decide ((a : Int) ≥ bs.length) = false := decide_eq_false (by omega)
    obtain ⟨c, hc⟩ : ∃ c, bs[a]? = some c := ⟨_, List.getElem?_eq_getElem (show a < bs.length by omega)⟩
    rw [hc]
    simp only
    by_cases h1 : c = 64
    · subst h1
      simp only [↓cw_skip, ↓cw_ret, ↓cw_seq, ↓cw_block, ↓cw_cond, ↓cw_region, ↓then_normal, ↓then_ret, ↓block_ret, ↓draw_false, ↓ow_nil, ↓ow_cons, ↓contO_eq, ↓op_move, ↓op_assign, ↓op_alloc, ↓op_box, ↓op_load, ↓op_store, ↓op_binOp, ↓op_fieldAddr, ↓op_indexAddr, ↓op_call, ↓ret_ret, ↓force_DC, vW_some, pW_some, bW_true, bW_false, ifW_some, setD_some, setD_none, allocV, boxV, on1_some, on2_some, ldV_eq, stV, biV_eq, faV_eq, arg_blt, resW, opd, opds, ofConst, leaf, pureV, rd_set, rd_nil, Fr.ofList, binV, intV, isConst, bltV, lenV, idxAddrV, loadV, fieldAddrV, take?, put, flat, AV.cells, undF, aggF, infF, resV, Nat.reduceEqDiff, Nat.reduceAdd, Nat.reduceLeDiff, reduceIte, reduceCtorEq, Bool.or_false, Bool.or_true, List.length_cons, List.length_nil, List.getElem?_cons_zero, List.getElem?_cons_succ, List.drop_succ_cons, List.drop_zero, List.take_succ_cons, List.take_zero, List.set_cons_zero, List.set_cons_succ, Int.reduceBEq, beq_self_eq_true, Nat.add_zero, Nat.zero_add, and_self, newBox, St.bump, storeV, Tr.get_set, Nat.add_assoc, Nat.left_eq_add, Nat.add_eq_left, Int.toNat_natCast, or_self, boxFree, List.size_toArray, hf.hb, hf.h0, nat8_len, hd, h0, nat8_get hc, Int.cast_ofNat_Int, fw_add1 (n := a) (by omega), Tryd.f63]
      exact ⟨by simp [untok, AV.strip, AV.strip0, kndV, rav], by simp [kndV, rav, Go.Pv.good, Go.Pv.goods, goods_nat8]⟩
    by_cases h2 : c = 127
    · subst h2
      simp only [↓cw_skip, ↓cw_ret, ↓cw_seq, ↓cw_block, ↓cw_cond, ↓cw_region, ↓then_normal, ↓then_ret, ↓block_ret, ↓draw_false, ↓ow_nil, ↓ow_cons, ↓contO_eq, ↓op_move, ↓op_assign, ↓op_alloc, ↓op_box, ↓op_load, ↓op_store, ↓op_binOp, ↓op_fieldAddr, ↓op_indexAddr, ↓op_call, ↓ret_ret, ↓force_DC, vW_some, pW_some, bW_true, bW_false, ifW_some, setD_some, setD_none, allocV, boxV, on1_some, on2_some, ldV_eq, stV, biV_eq, faV_eq, arg_blt, resW, opd, opds, ofConst, leaf, pureV, rd_set, rd_nil, Fr.ofList, binV, intV, isConst, bltV, lenV, idxAddrV, loadV, fieldAddrV, take?, put, flat, AV.cells, undF, aggF, infF, resV, Nat.reduceEqDiff, Nat.reduceAdd, Nat.reduceLeDiff, reduceIte, reduceCtorEq, Bool.or_false, Bool.or_true, List.length_cons, List.length_nil, List.getElem?_cons_zero, List.getElem?_cons_succ, List.drop_succ_cons, List.drop_zero, List.take_succ_cons, List.take_zero, List.set_cons_zero, List.set_cons_succ, beq_self_eq_true, Nat.add_zero, Nat.zero_add, and_self, newBox, St.bump, storeV, Tr.get_set, Nat.add_assoc, Nat.left_eq_add, Nat.add_eq_left, Int.toNat_natCast, or_false, or_self, boxFree, List.size_toArray, hf.hb, hf.h0, nat8_len, hd, h0, nat8_get hc, Int.cast_ofNat_Int, fw_add1 (n := a) (by omega), Tryd.f63]
      exact ⟨by simp [untok, AV.strip, AV.strip0, kndV, rav], by simp [kndV, rav, Go.Pv.good, Go.Pv.goods, goods_nat8]⟩
    by_cases h3 : c = 126
    · subst h3
      simp only [↓cw_skip, ↓cw_ret, ↓cw_seq, ↓cw_block, ↓cw_cond, ↓cw_region, ↓then_normal, ↓then_ret, ↓block_ret, ↓draw_false, ↓ow_nil, ↓ow_cons, ↓contO_eq, ↓op_move, ↓op_assign, ↓op_alloc, ↓op_box, ↓op_load, ↓op_store, ↓op_binOp, ↓op_fieldAddr, ↓op_indexAddr, ↓op_call, ↓ret_ret, ↓force_DC, vW_some, pW_some, bW_true, bW_false, ifW_some, setD_some, setD_none, allocV, boxV, on1_some, on2_some, ldV_eq, stV, biV_eq, faV_eq, arg_blt, resW, opd, opds, ofConst, leaf, pureV, rd_set, rd_nil, Fr.ofList, binV, intV, isConst, bltV, lenV, idxAddrV, loadV, fieldAddrV, take?, put, flat, AV.cells, undF, aggF, infF, resV, Nat.reduceEqDiff, Nat.reduceAdd, Nat.reduceLeDiff, reduceIte, reduceCtorEq, Bool.or_false, Bool.or_true, List.length_cons, List.length_nil, List.getElem?_cons_zero, List.getElem?_cons_succ, List.drop_succ_cons, List.drop_zero, List.take_succ_cons, List.take_zero, List.set_cons_zero, List.set_cons_succ, Int.reduceBEq, beq_self_eq_true, Nat.add_zero, Nat.zero_add, and_self, newBox, St.bump, storeV, Tr.get_set, Nat.add_assoc, Nat.left_eq_add, Nat.add_eq_left, Int.toNat_natCast, or_true, or_self, boxFree, List.size_toArray, hf.hb, hf.h0, nat8_len, hd, h0, nat8_get hc, Int.cast_ofNat_Int, fw_add1 (n := a) (by omega), Tryd.f63]
      exact ⟨by simp [untok, AV.strip, AV.strip0, kndV, rav], by simp [kndV, rav, Go.Pv.good, Go.Pv.goods, goods_nat8]⟩
    by_cases h4 : c = 125
    · subst h4
      simp only [↓cw_skip, ↓cw_ret, ↓cw_seq, ↓cw_block, ↓cw_cond, ↓cw_region, ↓then_normal, ↓then_ret, ↓block_ret, ↓draw_false, ↓ow_nil, ↓ow_cons, ↓contO_eq, ↓op_move, ↓op_assign, ↓op_alloc, ↓op_box, ↓op_load, ↓op_store, ↓op_binOp, ↓op_fieldAddr, ↓op_indexAddr, ↓op_call, ↓ret_ret, ↓force_DC, vW_some, pW_some, bW_true, bW_false, ifW_some, setD_some, setD_none, allocV, boxV, on1_some, on2_some, ldV_eq, stV, biV_eq, faV_eq, arg_blt, resW, opd, opds, ofConst, leaf, pureV, rd_set, rd_nil, Fr.ofList, binV, intV, isConst, bltV, lenV, idxAddrV, loadV, fieldAddrV, take?, put, flat, AV.cells, undF, aggF, infF, resV, Nat.reduceEqDiff, Nat.reduceAdd, Nat.reduceLeDiff, reduceIte, reduceCtorEq, Bool.or_false, Bool.or_true, List.length_cons, List.length_nil, List.getElem?_cons_zero, List.getElem?_cons_succ, List.drop_succ_cons, List.drop_zero, List.take_succ_cons, List.take_zero, List.set_cons_zero, List.set_cons_succ, Int.reduceBEq, beq_self_eq_true, Nat.add_zero, Nat.zero_add, and_self, newBox, St.bump, storeV, Tr.get_set, Nat.add_assoc, Nat.left_eq_add, Nat.add_eq_left, Int.toNat_natCast, or_false, or_self, boxFree, List.size_toArray, hf.hb, hf.h0, nat8_len, hd, h0, nat8_get hc, Int.cast_ofNat_Int, Tryd.f63]
      exact ⟨by simp [untok, AV.strip, AV.strip0, kndV, rav], by simp [kndV, rav, Go.Pv.good, Go.Pv.goods, goods_nat8]⟩
    by_cases h5 : c = 124
    · subst h5
      simp only [↓cw_skip, ↓cw_ret, ↓cw_seq, ↓cw_block, ↓cw_cond, ↓cw_region, ↓then_normal, ↓then_ret, ↓block_ret, ↓draw_false, ↓ow_nil, ↓ow_cons, ↓contO_eq, ↓op_move, ↓op_assign, ↓op_alloc, ↓op_box, ↓op_load, ↓op_store, ↓op_binOp, ↓op_fieldAddr, ↓op_indexAddr, ↓op_call, ↓ret_ret, ↓force_DC, vW_some, pW_some, bW_true, bW_false, ifW_some, setD_some, setD_none, allocV, boxV, on1_some, on2_some, ldV_eq, stV, biV_eq, faV_eq, arg_blt, resW, opd, opds, ofConst, leaf, pureV, rd_set, rd_nil, Fr.ofList, binV, intV, isConst, bltV, lenV, idxAddrV, loadV, fieldAddrV, take?, put, flat, AV.cells, undF, aggF, infF, resV, Nat.reduceEqDiff, Nat.reduceAdd, Nat.reduceLeDiff, reduceIte, reduceCtorEq, Bool.or_false, Bool.or_true, List.length_cons, List.length_nil, List.getElem?_cons_zero, List.getElem?_cons_succ, List.drop_succ_cons, List.drop_zero, List.take_succ_cons, List.take_zero, List.set_cons_zero, List.set_cons_succ, Int.reduceBEq, beq_self_eq_true, Nat.add_zero, Nat.zero_add, and_self, newBox, St.bump, storeV, Tr.get_set, Nat.add_assoc, Nat.left_eq_add, Nat.add_eq_left, Int.toNat_natCast, or_true, or_self, boxFree, List.size_toArray, hf.hb, hf.h0, nat8_len, hd, h0, nat8_get hc, Int.cast_ofNat_Int, Tryd.f63]
      exact ⟨by simp [untok, AV.strip, AV.strip0, kndV, rav], by simp [kndV, rav, Go.Pv.good, Go.Pv.goods, goods_nat8]⟩
    have e1 : ((c : Int) == 127) = false := by rw [beq_eq_false_iff_ne]; omega
    have e2 : ((c : Int) == 126) = false := by rw [beq_eq_false_iff_ne]; omega
    have e3 : ((c : Int) == 64) = false := by rw [beq_eq_false_iff_ne]; omega
    have e4 : ((c : Int) == 125) = false := by rw [beq_eq_false_iff_ne]; omega
    have e5 : ((c : Int) == 124) = false := by rw [beq_eq_false_iff_ne]; omega
    simp only [↓cw_skip, ↓cw_ret, ↓cw_seq, ↓cw_block, ↓cw_cond, ↓cw_region, ↓then_normal, ↓block_normal, ↓draw_false, ↓ow_nil, ↓ow_cons, ↓contO_eq, ↓op_move, ↓op_assign, ↓op_alloc, ↓op_box, ↓op_load, ↓op_store, ↓op_binOp, ↓op_fieldAddr, ↓op_indexAddr, ↓op_call, ↓ret_ret, ↓force_DC, vW_some, pW_some, bW_false, ifW_some, setD_some, setD_none, allocV, boxV, on1_some, on2_some, ldV_eq, stV, biV_eq, faV_eq, arg_blt, resW, opd, opds, ofConst, leaf, pureV, rd_set, rd_nil, Fr.ofList, binV, intV, isConst, bltV, lenV, idxAddrV, loadV, fieldAddrV, take?, put, flat, AV.cells, undF, aggF, infF, resV, Nat.reduceEqDiff, Nat.reduceAdd, Nat.reduceLeDiff, reduceIte, reduceCtorEq, Bool.or_false, Bool.or_true, List.length_cons, List.length_nil, List.getElem?_cons_zero, List.getElem?_cons_succ, List.drop_succ_cons, List.drop_zero, List.take_succ_cons, List.take_zero, List.set_cons_zero, List.set_cons_succ, Nat.add_zero, Nat.zero_add, and_self, newBox, St.bump, storeV, Tr.get_set, Nat.add_assoc, Nat.left_eq_add, Nat.add_eq_left, Int.toNat_natCast, boxFree, List.size_toArray, hf.hb, hf.h0, nat8_len, hd, h0, nat8_get hc, e1, e2, e3, e4, e5, Tryd.f63]
    rw [if_neg h1, if_neg (by omega), if_neg (by omega)]
    exact ⟨by simp [untok, AV.strip, AV.strip0, kndV, rav], by simp [kndV, rav, Go.Pv.good, Go.Pv.goods, goods_nat8]⟩
end Go.Pv
