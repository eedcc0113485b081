/- The document's reader: rest, list, Decode. (PvZ6) -/
import Derived.Test.YtigcolhieieakaaDoorPvD11
namespace Go.Pv
open Go Go.Proofs Go.RowKit
set_option linter.unusedVariables false
set_option linter.unusedSimpArgs false
set_option maxRecDepth 100000

theorem tS_err {w : Nat} {bs : List Nat} {e : Nat} (h : tS w bs = .bad e) : e ≠ 0 := by
  unfold tS at h
  split at h
  · split at h
    · cases h
    · injection h with h; omega
  · rename_i e' hg
    injection h with h
    have := (grp_bad _ _ _ hg).2
    split at this <;> omega
theorem rdS_err {w1 : Nat} {bs : List Nat} {a w e : Nat} (h : rdS w1 bs a = .bad w e) : e ≠ 0 := by
  unfold rdS at h
  split at h
  · cases h
  · rename_i e' ht
    injection h with h1 h2
    rw [← h2]; exact tS_err ht
theorem rdZ_err {bs : List Nat} {a w e : Nat} (h : rdZ bs a = .bad w e) : e ≠ 0 := by
  unfold rdZ at h
  (repeat' split at h) <;> first | (cases h; done) | (injection h with h1 h2; omega)
theorem rdK_err {bs : List Nat} {a w e : Nat} (h : rdK bs a = .bad w e) : e ≠ 0 := by
  unfold rdK at h
  (repeat' split at h) <;> first | (cases h; done) | (injection h with h1 h2; omega)
theorem rdN_err {bs : List Nat} : ∀ {k a w e : Nat}, rdN bs k a = .bad w e → e ≠ 0
  | 0, a, w, e, h => by simp [rdN] at h
  | k + 1, a, w, e, h => by
    simp only [rdN] at h
    split at h
    · rename_i w' e' hu; injection h with h1 h2; rw [← h2]; exact rdU_err hu
    · split at h
      · rename_i w' e' hu; injection h with h1 h2; rw [← h2]; exact rdN_err hu
      · cases h
theorem rdL_err {bs : List Nat} {a w e : Nat} (h : rdL bs a = .bad w e) : e ≠ 0 := by
  unfold rdL at h
  split at h
  · rename_i w' e' hu; injection h with h1 h2; rw [← h2]; exact rdU_err hu
  · split at h
    · injection h with h1 h2; omega
    · exact rdN_err h

/-- What rest answers. -/
def Ins.av (x : Ins) (op : Nat) : AV := iav op x.n x.al x.off x.res x.b.av x.e.av (u32s x.ls)
def RestOk (op f d : Nat) (bs : List Nat) (a m : Nat) (r : Rr Ins) : Prop := match r with
  | .ok x a1 m1 => PureW TS 43 [rav bs a m 0, iav op 0 0 0 0 [] [] [], .i .i64 f, .i .i64 d] (.t [rav bs a1 m1 0, x.av op])
  | .bad w e => e ≠ 0 ∧ ∃ (cs : List AV) (m1 : Nat), cs.length = 8 ∧ flat cs = true ∧ PureW TS 43 [rav bs a m 0, iav op 0 0 0 0 [] [] [], .i .i64 f, .i .i64 d] (.t [rav bs w m1 e, .a cs])
/-- What list answers. -/
def ListV (bs : List Nat) (d : Nat) (o : Bool) (a m : Nat) (r : Rr (L × Nat)) : Prop := match r with
  | .ok (l, z) a1 m1 => PureW TS 24 [rav bs a m 0, .i .i64 d, .b o] (.t [rav bs a1 m1 0, .sl l.av 0, .i .u8 z])
  | .bad w e => e ≠ 0 ∧ ∃ m1 : Nat, PureW TS 24 [rav bs a m 0, .i .i64 d, .b o] (.t [rav bs w m1 e, .sl [] 0, .i .u8 0])

theorem pure_of {fn : FuncId} {vs : List AV} {r : AV} (hg : good r = true) (h : CallW TS fn vs St.start fun v _ => untok v = r) : PureW TS fn vs r := by
  obtain ⟨n, v, σ, he, hu⟩ := h
  exact ⟨n, v, σ, he, hu, hg⟩
theorem good_iav (op : Nat) (n al off res : Int) (b e : L) (ls : List Int) : good (iav op n al off res b.av e.av (u32s ls)) = true := by simp [iav, Go.Pv.good, Go.Pv.goods, L.goods, goods_u32s]

set_option maxHeartbeats 4000000 in
theorem w_rrest (bs : List Nat) (hb : bs.length < 1000000) (op f a m d : Nat) (hf9 : f ≤ 9) (ha : a ≤ bs.length) (hd : d < 100000) (hm : m ≤ 16384) (rd : Nat → Nat → Bool → Rr (L × Nat))
    (H : ∀ a1 m1 o, a < a1 → a1 ≤ bs.length → m1 ≤ 16384 → ListV bs (d + 1) o a1 m1 (rd a1 m1 o)) (hrd : ∀ a m o x a1 m1, rd a m o = .ok x a1 m1 → m ≤ 16384 → a < a1 ∧ a1 ≤ bs.length ∧ m1 ≤ 16384) : RestOk op f d bs a m (rdI rd bs f a m) := by
  have hfd : fw .i64 ((d : Int) + 1) = ((d + 1 : Nat) : Int) := fw_add1 (by omega)
  have hc : f = 0 ∨ f = 1 ∨ f = 2 ∨ f = 3 ∨ f = 4 ∨ f = 5 ∨ f = 6 ∨ f = 7 ∨ f = 8 ∨ f = 9 := by omega
  unfold rdI
  rcases hc with rfl | rfl | rfl | rfl | rfl | rfl | rfl | rfl | rfl | rfl
  · show PureW TS 43 _ _
    refine pure_of (by simp [rav, Ins.av, good_iav, Go.Pv.good, Go.Pv.goods, goods_nat8]) ?_
    refine callW_of ft43 rfl (Nat.le_of_ble_eq_true rfl) ?_
    have hf : Fresh St.start := Fresh.start
    generalize St.start = σ at hf
    simp only [rav, iav]
    simp only [↓cw_skip, ↓cw_ret, ↓cw_seq, ↓cw_block, ↓cw_cond, ↓cw_region, ↓then_normal, ↓block_normal, ↓draw_false, ↓draw_true, ↓ow_nil, ↓ow_cons, ↓contO_eq, ↓op_move, ↓op_assign, ↓op_alloc, ↓op_box, ↓op_load, ↓op_store, ↓op_binOp, ↓ret_ret, ↓force_DC, vW_some, pW_some, bW_true, bW_false, ifW_some, setD_some, setD_none, allocV, boxV, on1_some, on2_some, ldV_eq, stV, biV_eq, resW, opd, ofConst, leaf, rd_set, rd_nil, Fr.ofList, binV, intV, isConst, loadV, take?, put, flat, AV.cells, hasStore, isStore, aggF, infF, Nat.reduceEqDiff, Nat.reduceAdd, Nat.reduceLeDiff, reduceIte, reduceCtorEq, Bool.or_false, Bool.or_true, List.any, List.length_cons, List.length_nil, List.getElem?_cons_zero, List.drop_zero, List.take_succ_cons, List.take_zero, List.set_cons_zero, List.set_cons_succ, Int.reduceBEq, Nat.add_zero, Nat.zero_add, and_self, newBox, St.bump, storeV, Tr.get_set, Nat.add_assoc, Nat.add_left_cancel_iff, Nat.left_eq_add, Nat.add_eq_left, boxFree, force_DD, List.size_toArray, hf.hb, hf.h0, Int.cast_ofNat_Int]
    refine ⟨okDrawD_4p 4 5 8 9 (by simp only [rd_set, rd_nil, Nat.reduceEqDiff, reduceIte, reduceCtorEq]; exact rfl) (by simp only [rd_set, rd_nil, Nat.reduceEqDiff, reduceIte, reduceCtorEq]; exact rfl) (by simp only [rd_set, rd_nil, Nat.reduceEqDiff, reduceIte, reduceCtorEq]; exact rfl) (by simp only [rd_set, rd_nil, Nat.reduceEqDiff, reduceIte, reduceCtorEq]; exact rfl) (by omega) (by omega) (by omega) (by omega) (by omega) (by omega) (by kernel_rfl), ?_⟩
    simp only [rd_set, rd_nil, loadV, take?, aggF, infF, resV, Nat.reduceEqDiff, Nat.reduceAdd, Nat.reduceLeDiff, reduceIte, reduceCtorEq, List.length_cons, List.length_nil, List.getElem?_cons_zero, List.drop_zero, List.take_succ_cons, List.take_zero, Nat.zero_add, Tr.get_set, Nat.add_left_cancel_iff, Nat.add_eq_left, hf.hb, Tryd.f43]
    simp [untok, AV.strip, AV.strip0, Ins.av, iav, L.av, u32s]
  · cases hr : rdS 32 bs a with
    | ok v a1 =>
      simp only [Nat.reduceEqDiff, if_true, if_false, Rp.lift, RestOk]
      refine pure_of (by simp [rav, Ins.av, good_iav, Go.Pv.good, Go.Pv.goods, goods_nat8]) ?_
      refine callW_of ft43 rfl (Nat.le_of_ble_eq_true rfl) ?_
      have hf : Fresh St.start := Fresh.start
      generalize St.start = σ at hf
      simp only [rav, iav]
      simp only [↓cw_seq, ↓cw_block, ↓cw_cond, ↓cw_region, ↓then_normal, ↓draw_false, ↓ow_nil, ↓ow_cons, ↓contO_eq, ↓op_move, ↓op_assign, ↓op_alloc, ↓op_box, ↓op_load, ↓op_binOp, ↓op_call, ↓force_DC, vW_some, pW_some, bW_true, ifW_some, setD_some, allocV, boxV, on1_some, on2_some, ldV_eq, biV_eq, callV_some, arg_val, opd, opds, ofConst, leaf, rd_set, rd_nil, Fr.ofList, binV, intV, isConst, loadV, take?, flat, AV.cells, aggF, infF, Nat.reduceEqDiff, Nat.reduceAdd, Nat.reduceLeDiff, reduceIte, reduceCtorEq, Bool.or_true, List.length_cons, List.length_nil, List.getElem?_cons_zero, List.append_nil, List.drop_zero, List.take_succ_cons, List.take_zero, beq_self_eq_true, Nat.add_zero, Nat.zero_add, and_self, newBox, St.bump, Tr.get_set, Nat.add_assoc, Nat.add_left_cancel_iff, Nat.left_eq_add, Nat.add_eq_left, boxFree, List.size_toArray, hf.hb, hf.h0, Int.cast_ofNat_Int]
      have hw := w_rsigned bs a m 32 (by omega) ha hb
      simp only [hr, sgnV, rav, Int.cast_ofNat_Int] at hw
      refine pc59.call (by simp [untok, AV.strip, AV.strip0, Go.Pv.goods, Go.Pv.good, goods_nat8]) hw ?_
      simp only [↓cw_ret, ↓cw_seq, ↓cw_region, ↓then_normal, ↓block_normal, ↓draw_false, ↓draw_true, ↓ow_nil, ↓ow_cons, ↓contO_eq, ↓op_move, ↓op_load, ↓op_store, ↓op_fieldAddr, ↓op_extract, ↓ret_ret, vW_some, pW_some, bW_true, setD_some, setD_none, on1_some, ldV_eq, stV, faV_eq, exV, resW, opd, rd_set, rd_nil, loadV, fieldAddrV, take?, put, flat, AV.cells, hasStore, isStore, undF, aggF, infF, Nat.reduceEqDiff, Nat.reduceAdd, Nat.reduceLeDiff, reduceIte, reduceCtorEq, Bool.or_false, Bool.or_true, List.any, List.length_cons, List.length_nil, List.getElem?_cons_zero, List.getElem?_cons_succ, List.drop_zero, List.take_succ_cons, List.take_zero, List.set_cons_zero, List.set_cons_succ, Nat.zero_add, and_self, St.bump, storeV, Tr.get_set, Nat.add_assoc, Nat.add_left_cancel_iff, Nat.left_eq_add, Nat.add_eq_left, force_DD, List.size_toArray, hf.hb, hf.h0]
      refine ⟨okDrawD_4p 4 5 8 9 (by simp only [rd_set, rd_nil, Nat.reduceEqDiff, reduceIte, reduceCtorEq]; exact rfl) (by simp only [rd_set, rd_nil, Nat.reduceEqDiff, reduceIte, reduceCtorEq]; exact rfl) (by simp only [rd_set, rd_nil, Nat.reduceEqDiff, reduceIte, reduceCtorEq]; exact rfl) (by simp only [rd_set, rd_nil, Nat.reduceEqDiff, reduceIte, reduceCtorEq]; exact rfl) (by omega) (by omega) (by omega) (by omega) (by omega) (by omega) (by kernel_rfl), ?_⟩
      simp only [rd_set, rd_nil, loadV, take?, aggF, infF, resV, Nat.reduceEqDiff, Nat.reduceAdd, Nat.reduceLeDiff, reduceIte, reduceCtorEq, List.length_cons, List.length_nil, List.getElem?_cons_zero, List.drop_zero, List.take_succ_cons, List.take_zero, Nat.zero_add, Tr.get_set, Nat.add_left_cancel_iff, Nat.add_eq_left, hf.hb, Tryd.f43]
      simp [untok, AV.strip, AV.strip0, Ins.av, iav, L.av, u32s]
    | bad w e =>
      simp only [Nat.reduceEqDiff, if_true, if_false, Rp.lift, RestOk]
      refine ⟨rdS_err hr, [.i .u8 op, .i .i64 0, .i .u32 0, .i .u32 0, .i .u8 0, .sl [] 0, .sl [] 0, .sl [] 0], m, rfl, rfl, ?_⟩
      refine pure_of (by simp [rav, Go.Pv.good, Go.Pv.goods, goods_nat8]) ?_
      refine callW_of ft43 rfl (Nat.le_of_ble_eq_true rfl) ?_
      have hf : Fresh St.start := Fresh.start
      generalize St.start = σ at hf
      simp only [rav, iav]
      simp only [↓cw_seq, ↓cw_block, ↓cw_cond, ↓cw_region, ↓then_normal, ↓draw_false, ↓ow_nil, ↓ow_cons, ↓contO_eq, ↓op_move, ↓op_assign, ↓op_alloc, ↓op_box, ↓op_load, ↓op_binOp, ↓op_call, ↓force_DC, vW_some, pW_some, bW_true, ifW_some, setD_some, allocV, boxV, on1_some, on2_some, ldV_eq, biV_eq, callV_some, arg_val, opd, opds, ofConst, leaf, rd_set, rd_nil, Fr.ofList, binV, intV, isConst, loadV, take?, flat, AV.cells, aggF, infF, Nat.reduceEqDiff, Nat.reduceAdd, Nat.reduceLeDiff, reduceIte, reduceCtorEq, Bool.or_true, List.length_cons, List.length_nil, List.getElem?_cons_zero, List.append_nil, List.drop_zero, List.take_succ_cons, List.take_zero, beq_self_eq_true, Nat.add_zero, Nat.zero_add, and_self, newBox, St.bump, Tr.get_set, Nat.add_assoc, Nat.add_left_cancel_iff, Nat.left_eq_add, Nat.add_eq_left, boxFree, List.size_toArray, hf.hb, hf.h0, Int.cast_ofNat_Int]
      have hw := w_rsigned bs a m 32 (by omega) ha hb
      simp only [hr, sgnV, rav, Int.cast_ofNat_Int] at hw
      refine pc59.call (by simp [untok, AV.strip, AV.strip0, Go.Pv.goods, Go.Pv.good, goods_nat8]) hw ?_
      simp only [↓cw_ret, ↓cw_seq, ↓cw_region, ↓then_normal, ↓block_normal, ↓draw_false, ↓draw_true, ↓ow_nil, ↓ow_cons, ↓contO_eq, ↓op_move, ↓op_load, ↓op_store, ↓op_fieldAddr, ↓op_extract, ↓ret_ret, vW_some, pW_some, bW_true, setD_some, setD_none, on1_some, ldV_eq, stV, faV_eq, exV, resW, opd, rd_set, rd_nil, loadV, fieldAddrV, take?, put, flat, AV.cells, hasStore, isStore, undF, aggF, infF, Nat.reduceEqDiff, Nat.reduceAdd, Nat.reduceLeDiff, reduceIte, reduceCtorEq, Bool.or_false, Bool.or_true, List.any, List.length_cons, List.length_nil, List.getElem?_cons_zero, List.getElem?_cons_succ, List.drop_zero, List.take_succ_cons, List.take_zero, List.set_cons_zero, List.set_cons_succ, Nat.zero_add, and_self, St.bump, storeV, Tr.get_set, Nat.add_assoc, Nat.add_left_cancel_iff, Nat.left_eq_add, Nat.add_eq_left, force_DD, List.size_toArray, hf.hb, hf.h0]
      refine ⟨okDrawD_4p 4 5 8 9 (by simp only [rd_set, rd_nil, Nat.reduceEqDiff, reduceIte, reduceCtorEq]; exact rfl) (by simp only [rd_set, rd_nil, Nat.reduceEqDiff, reduceIte, reduceCtorEq]; exact rfl) (by simp only [rd_set, rd_nil, Nat.reduceEqDiff, reduceIte, reduceCtorEq]; exact rfl) (by simp only [rd_set, rd_nil, Nat.reduceEqDiff, reduceIte, reduceCtorEq]; exact rfl) (by omega) (by omega) (by omega) (by omega) (by omega) (by omega) (by kernel_rfl), ?_⟩
      simp only [rd_set, rd_nil, loadV, take?, aggF, infF, resV, Nat.reduceEqDiff, Nat.reduceAdd, Nat.reduceLeDiff, reduceIte, reduceCtorEq, List.length_cons, List.length_nil, List.getElem?_cons_zero, List.drop_zero, List.take_succ_cons, List.take_zero, Nat.zero_add, Tr.get_set, Nat.add_left_cancel_iff, Nat.add_eq_left, hf.hb, Tryd.f43]
      simp [untok, AV.strip, AV.strip0]
  · cases hr : rdS 64 bs a with
    | ok v a1 =>
      simp only [Nat.reduceEqDiff, if_true, if_false, Rp.lift, RestOk]
      refine pure_of (by simp [rav, Ins.av, good_iav, Go.Pv.good, Go.Pv.goods, goods_nat8]) ?_
      refine callW_of ft43 rfl (Nat.le_of_ble_eq_true rfl) ?_
      have hf : Fresh St.start := Fresh.start
      generalize St.start = σ at hf
      simp only [rav, iav]
      simp only [↓cw_seq, ↓cw_block, ↓cw_cond, ↓cw_region, ↓then_normal, ↓draw_false, ↓ow_nil, ↓ow_cons, ↓contO_eq, ↓op_move, ↓op_assign, ↓op_alloc, ↓op_box, ↓op_load, ↓op_binOp, ↓op_call, ↓force_DC, vW_some, pW_some, bW_true, bW_false, ifW_some, setD_some, allocV, boxV, on1_some, on2_some, ldV_eq, biV_eq, callV_some, arg_val, opd, opds, ofConst, leaf, rd_set, rd_nil, Fr.ofList, binV, intV, isConst, loadV, take?, flat, AV.cells, aggF, infF, Nat.reduceEqDiff, Nat.reduceAdd, Nat.reduceLeDiff, reduceIte, reduceCtorEq, Bool.or_true, List.length_cons, List.length_nil, List.getElem?_cons_zero, List.append_nil, List.drop_zero, List.take_succ_cons, List.take_zero, Int.reduceBEq, beq_self_eq_true, Nat.add_zero, Nat.zero_add, and_self, newBox, St.bump, Tr.get_set, Nat.add_assoc, Nat.add_left_cancel_iff, Nat.left_eq_add, Nat.add_eq_left, boxFree, List.size_toArray, hf.hb, hf.h0, Int.cast_ofNat_Int]
      have hw := w_rsigned bs a m 64 (by omega) ha hb
      simp only [hr, sgnV, rav, Int.cast_ofNat_Int] at hw
      refine pc59.call (by simp [untok, AV.strip, AV.strip0, Go.Pv.goods, Go.Pv.good, goods_nat8]) hw ?_
      simp only [↓cw_ret, ↓cw_seq, ↓cw_region, ↓then_normal, ↓block_normal, ↓draw_false, ↓draw_true, ↓ow_nil, ↓ow_cons, ↓contO_eq, ↓op_move, ↓op_load, ↓op_store, ↓op_fieldAddr, ↓op_extract, ↓ret_ret, vW_some, pW_some, bW_true, setD_some, setD_none, on1_some, ldV_eq, stV, faV_eq, exV, resW, opd, rd_set, rd_nil, loadV, fieldAddrV, take?, put, flat, AV.cells, hasStore, isStore, undF, aggF, infF, Nat.reduceEqDiff, Nat.reduceAdd, Nat.reduceLeDiff, reduceIte, reduceCtorEq, Bool.or_false, Bool.or_true, List.any, List.length_cons, List.length_nil, List.getElem?_cons_zero, List.getElem?_cons_succ, List.drop_zero, List.take_succ_cons, List.take_zero, List.set_cons_zero, List.set_cons_succ, Nat.zero_add, and_self, St.bump, storeV, Tr.get_set, Nat.add_assoc, Nat.add_left_cancel_iff, Nat.left_eq_add, Nat.add_eq_left, force_DD, List.size_toArray, hf.hb, hf.h0]
      refine ⟨okDrawD_4p 4 5 8 9 (by simp only [rd_set, rd_nil, Nat.reduceEqDiff, reduceIte, reduceCtorEq]; exact rfl) (by simp only [rd_set, rd_nil, Nat.reduceEqDiff, reduceIte, reduceCtorEq]; exact rfl) (by simp only [rd_set, rd_nil, Nat.reduceEqDiff, reduceIte, reduceCtorEq]; exact rfl) (by simp only [rd_set, rd_nil, Nat.reduceEqDiff, reduceIte, reduceCtorEq]; exact rfl) (by omega) (by omega) (by omega) (by omega) (by omega) (by omega) (by kernel_rfl), ?_⟩
      simp only [rd_set, rd_nil, loadV, take?, aggF, infF, resV, Nat.reduceEqDiff, Nat.reduceAdd, Nat.reduceLeDiff, reduceIte, reduceCtorEq, List.length_cons, List.length_nil, List.getElem?_cons_zero, List.drop_zero, List.take_succ_cons, List.take_zero, Nat.zero_add, Tr.get_set, Nat.add_left_cancel_iff, Nat.add_eq_left, hf.hb, Tryd.f43]
      simp [untok, AV.strip, AV.strip0, Ins.av, iav, L.av, u32s]
    | bad w e =>
      simp only [Nat.reduceEqDiff, if_true, if_false, Rp.lift, RestOk]
      refine ⟨rdS_err hr, [.i .u8 op, .i .i64 0, .i .u32 0, .i .u32 0, .i .u8 0, .sl [] 0, .sl [] 0, .sl [] 0], m, rfl, rfl, ?_⟩
      refine pure_of (by simp [rav, Go.Pv.good, Go.Pv.goods, goods_nat8]) ?_
      refine callW_of ft43 rfl (Nat.le_of_ble_eq_true rfl) ?_
      have hf : Fresh St.start := Fresh.start
      generalize St.start = σ at hf
      simp only [rav, iav]
      simp only [↓cw_seq, ↓cw_block, ↓cw_cond, ↓cw_region, ↓then_normal, ↓draw_false, ↓ow_nil, ↓ow_cons, ↓contO_eq, ↓op_move, ↓op_assign, ↓op_alloc, ↓op_box, ↓op_load, ↓op_binOp, ↓op_call, ↓force_DC, vW_some, pW_some, bW_true, bW_false, ifW_some, setD_some, allocV, boxV, on1_some, on2_some, ldV_eq, biV_eq, callV_some, arg_val, opd, opds, ofConst, leaf, rd_set, rd_nil, Fr.ofList, binV, intV, isConst, loadV, take?, flat, AV.cells, aggF, infF, Nat.reduceEqDiff, Nat.reduceAdd, Nat.reduceLeDiff, reduceIte, reduceCtorEq, Bool.or_true, List.length_cons, List.length_nil, List.getElem?_cons_zero, List.append_nil, List.drop_zero, List.take_succ_cons, List.take_zero, Int.reduceBEq, beq_self_eq_true, Nat.add_zero, Nat.zero_add, and_self, newBox, St.bump, Tr.get_set, Nat.add_assoc, Nat.add_left_cancel_iff, Nat.left_eq_add, Nat.add_eq_left, boxFree, List.size_toArray, hf.hb, hf.h0, Int.cast_ofNat_Int]
      have hw := w_rsigned bs a m 64 (by omega) ha hb
      simp only [hr, sgnV, rav, Int.cast_ofNat_Int] at hw
      refine pc59.call (by simp [untok, AV.strip, AV.strip0, Go.Pv.goods, Go.Pv.good, goods_nat8]) hw ?_
      simp only [↓cw_ret, ↓cw_seq, ↓cw_region, ↓then_normal, ↓block_normal, ↓draw_false, ↓draw_true, ↓ow_nil, ↓ow_cons, ↓contO_eq, ↓op_move, ↓op_load, ↓op_store, ↓op_fieldAddr, ↓op_extract, ↓ret_ret, vW_some, pW_some, bW_true, setD_some, setD_none, on1_some, ldV_eq, stV, faV_eq, exV, resW, opd, rd_set, rd_nil, loadV, fieldAddrV, take?, put, flat, AV.cells, hasStore, isStore, undF, aggF, infF, Nat.reduceEqDiff, Nat.reduceAdd, Nat.reduceLeDiff, reduceIte, reduceCtorEq, Bool.or_false, Bool.or_true, List.any, List.length_cons, List.length_nil, List.getElem?_cons_zero, List.getElem?_cons_succ, List.drop_zero, List.take_succ_cons, List.take_zero, List.set_cons_zero, List.set_cons_succ, Nat.zero_add, and_self, St.bump, storeV, Tr.get_set, Nat.add_assoc, Nat.add_left_cancel_iff, Nat.left_eq_add, Nat.add_eq_left, force_DD, List.size_toArray, hf.hb, hf.h0]
      refine ⟨okDrawD_4p 4 5 8 9 (by simp only [rd_set, rd_nil, Nat.reduceEqDiff, reduceIte, reduceCtorEq]; exact rfl) (by simp only [rd_set, rd_nil, Nat.reduceEqDiff, reduceIte, reduceCtorEq]; exact rfl) (by simp only [rd_set, rd_nil, Nat.reduceEqDiff, reduceIte, reduceCtorEq]; exact rfl) (by simp only [rd_set, rd_nil, Nat.reduceEqDiff, reduceIte, reduceCtorEq]; exact rfl) (by omega) (by omega) (by omega) (by omega) (by omega) (by omega) (by kernel_rfl), ?_⟩
      simp only [rd_set, rd_nil, loadV, take?, aggF, infF, resV, Nat.reduceEqDiff, Nat.reduceAdd, Nat.reduceLeDiff, reduceIte, reduceCtorEq, List.length_cons, List.length_nil, List.getElem?_cons_zero, List.drop_zero, List.take_succ_cons, List.take_zero, Nat.zero_add, Tr.get_set, Nat.add_left_cancel_iff, Nat.add_eq_left, hf.hb, Tryd.f43]
      simp [untok, AV.strip, AV.strip0]
  · have hw := w_number bs a m ha hb
    cases hr : rdU bs a with
    | ok v a1 =>
      have hl := rdU_len hr
      have hfv : fw .i64 (v : Int) = (v : Int) := fw_nat (by omega)
      simp only [Nat.reduceEqDiff, if_true, if_false, Rp.lift, RestOk]
      refine pure_of (by simp [rav, Ins.av, good_iav, Go.Pv.good, Go.Pv.goods, goods_nat8]) ?_
      refine callW_of ft43 rfl (Nat.le_of_ble_eq_true rfl) ?_
      have hf : Fresh St.start := Fresh.start
      generalize St.start = σ at hf
      simp only [rav, iav]
      simp only [↓cw_skip, ↓cw_seq, ↓cw_block, ↓cw_cond, ↓cw_region, ↓then_normal, ↓draw_false, ↓ow_nil, ↓ow_cons, ↓contO_eq, ↓op_move, ↓op_assign, ↓op_alloc, ↓op_box, ↓op_load, ↓op_binOp, ↓op_call, ↓force_DC, vW_some, pW_some, bW_true, bW_false, ifW_some, setD_some, allocV, boxV, on1_some, on2_some, ldV_eq, biV_eq, callV_some, arg_val, opd, opds, ofConst, leaf, rd_set, rd_nil, Fr.ofList, binV, intV, isConst, loadV, take?, flat, AV.cells, aggF, infF, Nat.reduceEqDiff, Nat.reduceAdd, Nat.reduceLeDiff, reduceIte, reduceCtorEq, Bool.or_true, List.length_cons, List.length_nil, List.getElem?_cons_zero, List.append_nil, List.drop_zero, List.take_succ_cons, List.take_zero, Int.reduceBEq, beq_self_eq_true, Nat.add_zero, Nat.zero_add, and_self, newBox, St.bump, Tr.get_set, Nat.add_assoc, Nat.add_left_cancel_iff, Nat.left_eq_add, Nat.add_eq_left, boxFree, List.size_toArray, hf.hb, hf.h0, Int.cast_ofNat_Int]
      simp only [hr, numV, rav] at hw
      refine pc60.call (by simp [untok, AV.strip, AV.strip0, Go.Pv.goods, Go.Pv.good, goods_nat8]) hw ?_
      simp only [↓cw_skip, ↓cw_ret, ↓cw_seq, ↓cw_cond, ↓cw_region, ↓then_normal, ↓block_normal, ↓draw_false, ↓draw_true, ↓ow_nil, ↓ow_cons, ↓contO_eq, ↓op_move, ↓op_assign, ↓op_alloc, ↓op_load, ↓op_store, ↓op_binOp, ↓op_convert, ↓op_fieldAddr, ↓op_extract, ↓ret_ret, ↓force_DC, vW_some, pW_some, bW_true, bW_false, ifW_some, setD_some, setD_none, allocV, on1_some, on2_some, ldV_eq, stV, biV_eq, faV_eq, exV, resW, opd, ofConst, leaf, rd_set, rd_nil, binV, intV, convV, isConst, loadV, fieldAddrV, take?, put, flat, AV.cells, hasStore, isStore, undF, aggF, infF, Nat.reduceEqDiff, Nat.reduceAdd, Nat.reduceLeDiff, reduceIte, reduceCtorEq, Bool.or_false, Bool.or_true, List.any, List.length_cons, List.length_nil, List.getElem?_cons_zero, List.getElem?_cons_succ, List.drop_zero, List.take_succ_cons, List.take_zero, List.set_cons_zero, List.set_cons_succ, Int.reduceBEq, Nat.zero_add, and_self, newBox, St.bump, storeV, Tr.get_set, Nat.add_assoc, Nat.add_left_cancel_iff, Nat.left_eq_add, Nat.add_eq_left, boxFree, force_DD, List.size_toArray, hf.hb, hf.h0, Int.cast_ofNat_Int, hfv]
      refine ⟨okDrawD_4p 4 5 8 9 (by simp only [rd_set, rd_nil, Nat.reduceEqDiff, reduceIte, reduceCtorEq]; exact rfl) (by simp only [rd_set, rd_nil, Nat.reduceEqDiff, reduceIte, reduceCtorEq]; exact rfl) (by simp only [rd_set, rd_nil, Nat.reduceEqDiff, reduceIte, reduceCtorEq]; exact rfl) (by simp only [rd_set, rd_nil, Nat.reduceEqDiff, reduceIte, reduceCtorEq]; exact rfl) (by omega) (by omega) (by omega) (by omega) (by omega) (by omega) (by kernel_rfl), ?_⟩
      simp only [rd_set, rd_nil, loadV, take?, aggF, infF, resV, Nat.reduceEqDiff, Nat.reduceAdd, Nat.reduceLeDiff, reduceIte, reduceCtorEq, List.length_cons, List.length_nil, List.getElem?_cons_zero, List.drop_zero, List.take_succ_cons, List.take_zero, Nat.zero_add, Tr.get_set, Nat.add_left_cancel_iff, Nat.add_eq_left, hf.hb, Tryd.f43]
      simp [untok, AV.strip, AV.strip0, Ins.av, iav, L.av, u32s]
    | bad w e =>
      simp only [Nat.reduceEqDiff, if_true, if_false, Rp.lift, RestOk]
      refine ⟨rdU_err hr, [.i .u8 op, .i .i64 0, .i .u32 0, .i .u32 0, .i .u8 0, .sl [] 0, .sl [] 0, .sl [] 0], m, rfl, rfl, ?_⟩
      refine pure_of (by simp [rav, Go.Pv.good, Go.Pv.goods, goods_nat8]) ?_
      refine callW_of ft43 rfl (Nat.le_of_ble_eq_true rfl) ?_
      have hf : Fresh St.start := Fresh.start
      generalize St.start = σ at hf
      simp only [rav, iav]
      simp only [↓cw_skip, ↓cw_seq, ↓cw_block, ↓cw_cond, ↓cw_region, ↓then_normal, ↓draw_false, ↓ow_nil, ↓ow_cons, ↓contO_eq, ↓op_move, ↓op_assign, ↓op_alloc, ↓op_box, ↓op_load, ↓op_binOp, ↓op_call, ↓force_DC, vW_some, pW_some, bW_true, bW_false, ifW_some, setD_some, allocV, boxV, on1_some, on2_some, ldV_eq, biV_eq, callV_some, arg_val, opd, opds, ofConst, leaf, rd_set, rd_nil, Fr.ofList, binV, intV, isConst, loadV, take?, flat, AV.cells, aggF, infF, Nat.reduceEqDiff, Nat.reduceAdd, Nat.reduceLeDiff, reduceIte, reduceCtorEq, Bool.or_true, List.length_cons, List.length_nil, List.getElem?_cons_zero, List.append_nil, List.drop_zero, List.take_succ_cons, List.take_zero, Int.reduceBEq, beq_self_eq_true, Nat.add_zero, Nat.zero_add, and_self, newBox, St.bump, Tr.get_set, Nat.add_assoc, Nat.add_left_cancel_iff, Nat.left_eq_add, Nat.add_eq_left, boxFree, List.size_toArray, hf.hb, hf.h0, Int.cast_ofNat_Int]
      simp only [hr, numV, rav] at hw
      refine pc60.call (by simp [untok, AV.strip, AV.strip0, Go.Pv.goods, Go.Pv.good, goods_nat8]) hw ?_
      simp only [↓cw_skip, ↓cw_ret, ↓cw_seq, ↓cw_cond, ↓cw_region, ↓then_normal, ↓block_normal, ↓draw_false, ↓draw_true, ↓ow_nil, ↓ow_cons, ↓contO_eq, ↓op_move, ↓op_assign, ↓op_alloc, ↓op_load, ↓op_store, ↓op_binOp, ↓op_convert, ↓op_fieldAddr, ↓op_extract, ↓ret_ret, ↓force_DC, vW_some, pW_some, bW_true, bW_false, ifW_some, setD_some, setD_none, allocV, on1_some, on2_some, ldV_eq, stV, biV_eq, faV_eq, exV, resW, opd, ofConst, leaf, rd_set, rd_nil, binV, intV, convV, isConst, loadV, fieldAddrV, take?, put, flat, AV.cells, hasStore, isStore, undF, aggF, infF, Nat.reduceEqDiff, Nat.reduceAdd, Nat.reduceLeDiff, reduceIte, reduceCtorEq, Bool.or_false, Bool.or_true, List.any, List.length_cons, List.length_nil, List.getElem?_cons_zero, List.getElem?_cons_succ, List.drop_zero, List.take_succ_cons, List.take_zero, List.set_cons_zero, List.set_cons_succ, Int.reduceBEq, Nat.zero_add, and_self, newBox, St.bump, storeV, Tr.get_set, Nat.add_assoc, Nat.add_left_cancel_iff, Nat.left_eq_add, Nat.add_eq_left, boxFree, force_DD, List.size_toArray, hf.hb, hf.h0, show fw .i64 0 = 0 from rfl]
      refine ⟨okDrawD_4p 4 5 8 9 (by simp only [rd_set, rd_nil, Nat.reduceEqDiff, reduceIte, reduceCtorEq]; exact rfl) (by simp only [rd_set, rd_nil, Nat.reduceEqDiff, reduceIte, reduceCtorEq]; exact rfl) (by simp only [rd_set, rd_nil, Nat.reduceEqDiff, reduceIte, reduceCtorEq]; exact rfl) (by simp only [rd_set, rd_nil, Nat.reduceEqDiff, reduceIte, reduceCtorEq]; exact rfl) (by omega) (by omega) (by omega) (by omega) (by omega) (by omega) (by kernel_rfl), ?_⟩
      simp only [rd_set, rd_nil, loadV, take?, aggF, infF, resV, Nat.reduceEqDiff, Nat.reduceAdd, Nat.reduceLeDiff, reduceIte, reduceCtorEq, List.length_cons, List.length_nil, List.getElem?_cons_zero, List.drop_zero, List.take_succ_cons, List.take_zero, Nat.zero_add, Tr.get_set, Nat.add_left_cancel_iff, Nat.add_eq_left, hf.hb, Tryd.f43]
      simp [untok, AV.strip, AV.strip0]
  · have hw := w_number bs a m ha hb
    cases hr : rdU bs a with
    | ok v a1 =>
      have hl := rdU_len hr
      have hw2 := w_number bs a1 m hl.2.1 hb
      cases hr2 : rdU bs a1 with
      | ok u a2 =>
        simp only [Nat.reduceEqDiff, if_true, if_false, hr2, Rp.lift, RestOk]
        refine pure_of (by simp [rav, Ins.av, good_iav, Go.Pv.good, Go.Pv.goods, goods_nat8]) ?_
        refine callW_of ft43 rfl (Nat.le_of_ble_eq_true rfl) ?_
        have hf : Fresh St.start := Fresh.start
        generalize St.start = σ at hf
        simp only [rav, iav]
        simp only [↓cw_seq, ↓cw_block, ↓cw_cond, ↓cw_region, ↓then_normal, ↓draw_false, ↓ow_nil, ↓ow_cons, ↓contO_eq, ↓op_move, ↓op_assign, ↓op_alloc, ↓op_box, ↓op_load, ↓op_binOp, ↓op_call, ↓force_DC, vW_some, pW_some, bW_true, bW_false, ifW_some, setD_some, allocV, boxV, on1_some, on2_some, ldV_eq, biV_eq, callV_some, arg_val, opd, opds, ofConst, leaf, rd_set, rd_nil, Fr.ofList, binV, intV, isConst, loadV, take?, flat, AV.cells, aggF, infF, Nat.reduceEqDiff, Nat.reduceAdd, Nat.reduceLeDiff, reduceIte, reduceCtorEq, Bool.or_true, List.length_cons, List.length_nil, List.getElem?_cons_zero, List.append_nil, List.drop_zero, List.take_succ_cons, List.take_zero, Int.reduceBEq, beq_self_eq_true, Nat.add_zero, Nat.zero_add, and_self, newBox, St.bump, Tr.get_set, Nat.add_assoc, Nat.add_left_cancel_iff, Nat.left_eq_add, Nat.add_eq_left, boxFree, List.size_toArray, hf.hb, hf.h0, Int.cast_ofNat_Int]
        simp only [hr, hr2, numV, rav] at hw hw2
        refine pc60.call (by simp [untok, AV.strip, AV.strip0, Go.Pv.goods, Go.Pv.good, goods_nat8]) hw ?_
        simp only [↓cw_region, ↓then_normal, ↓draw_false, ↓ow_nil, ↓ow_cons, ↓contO_eq, ↓op_move, ↓op_load, ↓op_store, ↓op_fieldAddr, ↓op_extract, ↓op_call, vW_some, pW_some, setD_some, setD_none, on1_some, ldV_eq, stV, faV_eq, exV, callV_some, arg_val, opd, opds, rd_set, rd_nil, loadV, fieldAddrV, take?, put, flat, AV.cells, undF, aggF, infF, Nat.reduceEqDiff, Nat.reduceAdd, Nat.reduceLeDiff, reduceIte, reduceCtorEq, List.length_cons, List.length_nil, List.getElem?_cons_zero, List.getElem?_cons_succ, List.append_nil, List.drop_zero, List.take_succ_cons, List.take_zero, List.set_cons_zero, List.set_cons_succ, Nat.zero_add, and_self, St.bump, storeV, Tr.get_set, Nat.add_assoc, Nat.add_left_cancel_iff, Nat.left_eq_add, Nat.add_eq_left, List.size_toArray, hf.hb, hf.h0, Int.cast_ofNat_Int]
        refine pc60.call (by simp [untok, AV.strip, AV.strip0, Go.Pv.goods, Go.Pv.good, goods_nat8]) hw2 ?_
        simp only [↓cw_ret, ↓cw_seq, ↓cw_region, ↓then_normal, ↓block_normal, ↓draw_false, ↓draw_true, ↓ow_nil, ↓ow_cons, ↓contO_eq, ↓op_move, ↓op_load, ↓op_store, ↓op_fieldAddr, ↓op_extract, ↓ret_ret, vW_some, pW_some, bW_true, setD_some, setD_none, on1_some, ldV_eq, stV, faV_eq, exV, resW, opd, rd_set, rd_nil, loadV, fieldAddrV, take?, put, flat, AV.cells, hasStore, isStore, undF, aggF, infF, Nat.reduceEqDiff, Nat.reduceAdd, Nat.reduceLeDiff, reduceIte, reduceCtorEq, Bool.or_false, Bool.or_true, List.any, List.length_cons, List.length_nil, List.getElem?_cons_zero, List.getElem?_cons_succ, List.drop_zero, List.take_succ_cons, List.take_zero, List.set_cons_zero, List.set_cons_succ, Nat.zero_add, and_self, St.bump, storeV, Tr.get_set, Nat.add_assoc, Nat.add_left_cancel_iff, Nat.left_eq_add, Nat.add_eq_left, force_DD, List.size_toArray, hf.hb, hf.h0, Int.cast_ofNat_Int]
        refine ⟨okDrawD_4p 4 5 8 9 (by simp only [rd_set, rd_nil, Nat.reduceEqDiff, reduceIte, reduceCtorEq]; exact rfl) (by simp only [rd_set, rd_nil, Nat.reduceEqDiff, reduceIte, reduceCtorEq]; exact rfl) (by simp only [rd_set, rd_nil, Nat.reduceEqDiff, reduceIte, reduceCtorEq]; exact rfl) (by simp only [rd_set, rd_nil, Nat.reduceEqDiff, reduceIte, reduceCtorEq]; exact rfl) (by omega) (by omega) (by omega) (by omega) (by omega) (by omega) (by kernel_rfl), ?_⟩
        simp only [rd_set, rd_nil, loadV, take?, aggF, infF, resV, Nat.reduceEqDiff, Nat.reduceAdd, Nat.reduceLeDiff, reduceIte, reduceCtorEq, List.length_cons, List.length_nil, List.getElem?_cons_zero, List.drop_zero, List.take_succ_cons, List.take_zero, Nat.zero_add, Tr.get_set, Nat.add_left_cancel_iff, Nat.add_eq_left, hf.hb, Tryd.f43]
        simp [untok, AV.strip, AV.strip0, Ins.av, iav, L.av, u32s]
      | bad w e =>
        simp only [Nat.reduceEqDiff, if_true, if_false, hr2, Rp.lift, RestOk]
        refine ⟨rdU_err hr2, [.i .u8 op, .i .i64 0, .i .u32 v, .i .u32 0, .i .u8 0, .sl [] 0, .sl [] 0, .sl [] 0], m, rfl, rfl, ?_⟩
        refine pure_of (by simp [rav, Go.Pv.good, Go.Pv.goods, goods_nat8]) ?_
        refine callW_of ft43 rfl (Nat.le_of_ble_eq_true rfl) ?_
        have hf : Fresh St.start := Fresh.start
        generalize St.start = σ at hf
        simp only [rav, iav]
        simp only [↓cw_seq, ↓cw_block, ↓cw_cond, ↓cw_region, ↓then_normal, ↓draw_false, ↓ow_nil, ↓ow_cons, ↓contO_eq, ↓op_move, ↓op_assign, ↓op_alloc, ↓op_box, ↓op_load, ↓op_binOp, ↓op_call, ↓force_DC, vW_some, pW_some, bW_true, bW_false, ifW_some, setD_some, allocV, boxV, on1_some, on2_some, ldV_eq, biV_eq, callV_some, arg_val, opd, opds, ofConst, leaf, rd_set, rd_nil, Fr.ofList, binV, intV, isConst, loadV, take?, flat, AV.cells, aggF, infF, Nat.reduceEqDiff, Nat.reduceAdd, Nat.reduceLeDiff, reduceIte, reduceCtorEq, Bool.or_true, List.length_cons, List.length_nil, List.getElem?_cons_zero, List.append_nil, List.drop_zero, List.take_succ_cons, List.take_zero, Int.reduceBEq, beq_self_eq_true, Nat.add_zero, Nat.zero_add, and_self, newBox, St.bump, Tr.get_set, Nat.add_assoc, Nat.add_left_cancel_iff, Nat.left_eq_add, Nat.add_eq_left, boxFree, List.size_toArray, hf.hb, hf.h0, Int.cast_ofNat_Int]
        simp only [hr, hr2, numV, rav] at hw hw2
        refine pc60.call (by simp [untok, AV.strip, AV.strip0, Go.Pv.goods, Go.Pv.good, goods_nat8]) hw ?_
        simp only [↓cw_region, ↓then_normal, ↓draw_false, ↓ow_nil, ↓ow_cons, ↓contO_eq, ↓op_move, ↓op_load, ↓op_store, ↓op_fieldAddr, ↓op_extract, ↓op_call, vW_some, pW_some, setD_some, setD_none, on1_some, ldV_eq, stV, faV_eq, exV, callV_some, arg_val, opd, opds, rd_set, rd_nil, loadV, fieldAddrV, take?, put, flat, AV.cells, undF, aggF, infF, Nat.reduceEqDiff, Nat.reduceAdd, Nat.reduceLeDiff, reduceIte, reduceCtorEq, List.length_cons, List.length_nil, List.getElem?_cons_zero, List.getElem?_cons_succ, List.append_nil, List.drop_zero, List.take_succ_cons, List.take_zero, List.set_cons_zero, List.set_cons_succ, Nat.zero_add, and_self, St.bump, storeV, Tr.get_set, Nat.add_assoc, Nat.add_left_cancel_iff, Nat.left_eq_add, Nat.add_eq_left, List.size_toArray, hf.hb, hf.h0, Int.cast_ofNat_Int]
        refine pc60.call (by simp [untok, AV.strip, AV.strip0, Go.Pv.goods, Go.Pv.good, goods_nat8]) hw2 ?_
        simp only [↓cw_ret, ↓cw_seq, ↓cw_region, ↓then_normal, ↓block_normal, ↓draw_false, ↓draw_true, ↓ow_nil, ↓ow_cons, ↓contO_eq, ↓op_move, ↓op_load, ↓op_store, ↓op_fieldAddr, ↓op_extract, ↓ret_ret, vW_some, pW_some, bW_true, setD_some, setD_none, on1_some, ldV_eq, stV, faV_eq, exV, resW, opd, rd_set, rd_nil, loadV, fieldAddrV, take?, put, flat, AV.cells, hasStore, isStore, undF, aggF, infF, Nat.reduceEqDiff, Nat.reduceAdd, Nat.reduceLeDiff, reduceIte, reduceCtorEq, Bool.or_false, Bool.or_true, List.any, List.length_cons, List.length_nil, List.getElem?_cons_zero, List.getElem?_cons_succ, List.drop_zero, List.take_succ_cons, List.take_zero, List.set_cons_zero, List.set_cons_succ, Nat.zero_add, and_self, St.bump, storeV, Tr.get_set, Nat.add_assoc, Nat.add_left_cancel_iff, Nat.left_eq_add, Nat.add_eq_left, force_DD, List.size_toArray, hf.hb, hf.h0]
        refine ⟨okDrawD_4p 4 5 8 9 (by simp only [rd_set, rd_nil, Nat.reduceEqDiff, reduceIte, reduceCtorEq]; exact rfl) (by simp only [rd_set, rd_nil, Nat.reduceEqDiff, reduceIte, reduceCtorEq]; exact rfl) (by simp only [rd_set, rd_nil, Nat.reduceEqDiff, reduceIte, reduceCtorEq]; exact rfl) (by simp only [rd_set, rd_nil, Nat.reduceEqDiff, reduceIte, reduceCtorEq]; exact rfl) (by omega) (by omega) (by omega) (by omega) (by omega) (by omega) (by kernel_rfl), ?_⟩
        simp only [rd_set, rd_nil, loadV, take?, aggF, infF, resV, Nat.reduceEqDiff, Nat.reduceAdd, Nat.reduceLeDiff, reduceIte, reduceCtorEq, List.length_cons, List.length_nil, List.getElem?_cons_zero, List.drop_zero, List.take_succ_cons, List.take_zero, Nat.zero_add, Tr.get_set, Nat.add_left_cancel_iff, Nat.add_eq_left, hf.hb, Tryd.f43]
        simp [untok, AV.strip, AV.strip0]
    | bad w e =>
      have he := rdU_err hr
      have hw2 := w_number_err bs w m e he
      simp only [Nat.reduceEqDiff, if_true, if_false, Rp.lift, RestOk]
      refine ⟨he, [.i .u8 op, .i .i64 0, .i .u32 0, .i .u32 0, .i .u8 0, .sl [] 0, .sl [] 0, .sl [] 0], m, rfl, rfl, ?_⟩
      refine pure_of (by simp [rav, Go.Pv.good, Go.Pv.goods, goods_nat8]) ?_
      refine callW_of ft43 rfl (Nat.le_of_ble_eq_true rfl) ?_
      have hf : Fresh St.start := Fresh.start
      generalize St.start = σ at hf
      simp only [rav, iav]
      simp only [↓cw_seq, ↓cw_block, ↓cw_cond, ↓cw_region, ↓then_normal, ↓draw_false, ↓ow_nil, ↓ow_cons, ↓contO_eq, ↓op_move, ↓op_assign, ↓op_alloc, ↓op_box, ↓op_load, ↓op_binOp, ↓op_call, ↓force_DC, vW_some, pW_some, bW_true, bW_false, ifW_some, setD_some, allocV, boxV, on1_some, on2_some, ldV_eq, biV_eq, callV_some, arg_val, opd, opds, ofConst, leaf, rd_set, rd_nil, Fr.ofList, binV, intV, isConst, loadV, take?, flat, AV.cells, aggF, infF, Nat.reduceEqDiff, Nat.reduceAdd, Nat.reduceLeDiff, reduceIte, reduceCtorEq, Bool.or_true, List.length_cons, List.length_nil, List.getElem?_cons_zero, List.append_nil, List.drop_zero, List.take_succ_cons, List.take_zero, Int.reduceBEq, beq_self_eq_true, Nat.add_zero, Nat.zero_add, and_self, newBox, St.bump, Tr.get_set, Nat.add_assoc, Nat.add_left_cancel_iff, Nat.left_eq_add, Nat.add_eq_left, boxFree, List.size_toArray, hf.hb, hf.h0, Int.cast_ofNat_Int]
      simp only [hr, numV, rav] at hw hw2
      refine pc60.call (by simp [untok, AV.strip, AV.strip0, Go.Pv.goods, Go.Pv.good, goods_nat8]) hw ?_
      simp only [↓cw_region, ↓then_normal, ↓draw_false, ↓ow_nil, ↓ow_cons, ↓contO_eq, ↓op_move, ↓op_load, ↓op_store, ↓op_fieldAddr, ↓op_extract, ↓op_call, vW_some, pW_some, setD_some, setD_none, on1_some, ldV_eq, stV, faV_eq, exV, callV_some, arg_val, opd, opds, rd_set, rd_nil, loadV, fieldAddrV, take?, put, flat, AV.cells, undF, aggF, infF, Nat.reduceEqDiff, Nat.reduceAdd, Nat.reduceLeDiff, reduceIte, reduceCtorEq, List.length_cons, List.length_nil, List.getElem?_cons_zero, List.getElem?_cons_succ, List.append_nil, List.drop_zero, List.take_succ_cons, List.take_zero, List.set_cons_zero, List.set_cons_succ, Nat.zero_add, and_self, St.bump, storeV, Tr.get_set, Nat.add_assoc, Nat.add_left_cancel_iff, Nat.left_eq_add, Nat.add_eq_left, List.size_toArray, hf.hb, hf.h0]
      refine pc60.call (by simp [untok, AV.strip, AV.strip0, Go.Pv.goods, Go.Pv.good, goods_nat8]) hw2 ?_
      simp only [↓cw_ret, ↓cw_seq, ↓cw_region, ↓then_normal, ↓block_normal, ↓draw_false, ↓draw_true, ↓ow_nil, ↓ow_cons, ↓contO_eq, ↓op_move, ↓op_load, ↓op_store, ↓op_fieldAddr, ↓op_extract, ↓ret_ret, vW_some, pW_some, bW_true, setD_some, setD_none, on1_some, ldV_eq, stV, faV_eq, exV, resW, opd, rd_set, rd_nil, loadV, fieldAddrV, take?, put, flat, AV.cells, hasStore, isStore, undF, aggF, infF, Nat.reduceEqDiff, Nat.reduceAdd, Nat.reduceLeDiff, reduceIte, reduceCtorEq, Bool.or_false, Bool.or_true, List.any, List.length_cons, List.length_nil, List.getElem?_cons_zero, List.getElem?_cons_succ, List.drop_zero, List.take_succ_cons, List.take_zero, List.set_cons_zero, List.set_cons_succ, Nat.zero_add, and_self, St.bump, storeV, Tr.get_set, Nat.add_assoc, Nat.add_left_cancel_iff, Nat.left_eq_add, Nat.add_eq_left, force_DD, List.size_toArray, hf.hb, hf.h0]
      refine ⟨okDrawD_4p 4 5 8 9 (by simp only [rd_set, rd_nil, Nat.reduceEqDiff, reduceIte, reduceCtorEq]; exact rfl) (by simp only [rd_set, rd_nil, Nat.reduceEqDiff, reduceIte, reduceCtorEq]; exact rfl) (by simp only [rd_set, rd_nil, Nat.reduceEqDiff, reduceIte, reduceCtorEq]; exact rfl) (by simp only [rd_set, rd_nil, Nat.reduceEqDiff, reduceIte, reduceCtorEq]; exact rfl) (by omega) (by omega) (by omega) (by omega) (by omega) (by omega) (by kernel_rfl), ?_⟩
      simp only [rd_set, rd_nil, loadV, take?, aggF, infF, resV, Nat.reduceEqDiff, Nat.reduceAdd, Nat.reduceLeDiff, reduceIte, reduceCtorEq, List.length_cons, List.length_nil, List.getElem?_cons_zero, List.drop_zero, List.take_succ_cons, List.take_zero, Nat.zero_add, Tr.get_set, Nat.add_left_cancel_iff, Nat.add_eq_left, hf.hb, Tryd.f43]
      simp [untok, AV.strip, AV.strip0]
  · have hw := w_rnought bs a m hb ha
    cases hr : rdZ bs a with
    | ok v a1 =>
      simp only [Nat.reduceEqDiff, if_true, if_false, Rp.lift, RestOk]
      refine pure_of (by simp [rav, Ins.av, good_iav, Go.Pv.good, Go.Pv.goods, goods_nat8]) ?_
      refine callW_of ft43 rfl (Nat.le_of_ble_eq_true rfl) ?_
      have hf : Fresh St.start := Fresh.start
      generalize St.start = σ at hf
      simp only [rav, iav]
      simp only [↓cw_seq, ↓cw_block, ↓cw_cond, ↓cw_region, ↓then_normal, ↓draw_false, ↓ow_nil, ↓ow_cons, ↓contO_eq, ↓op_move, ↓op_assign, ↓op_alloc, ↓op_box, ↓op_load, ↓op_binOp, ↓op_call, ↓force_DC, vW_some, pW_some, bW_true, bW_false, ifW_some, setD_some, allocV, boxV, on1_some, on2_some, ldV_eq, biV_eq, callV_some, arg_val, opd, opds, ofConst, leaf, rd_set, rd_nil, Fr.ofList, binV, intV, isConst, loadV, take?, flat, AV.cells, aggF, infF, Nat.reduceEqDiff, Nat.reduceAdd, Nat.reduceLeDiff, reduceIte, reduceCtorEq, Bool.or_true, List.length_cons, List.length_nil, List.getElem?_cons_zero, List.append_nil, List.drop_zero, List.take_succ_cons, List.take_zero, Int.reduceBEq, beq_self_eq_true, Nat.add_zero, Nat.zero_add, and_self, newBox, St.bump, Tr.get_set, Nat.add_assoc, Nat.add_left_cancel_iff, Nat.left_eq_add, Nat.add_eq_left, boxFree, List.size_toArray, hf.hb, hf.h0, Int.cast_ofNat_Int]
      simp only [hr, zrV, rav] at hw
      refine pc61.call (by simp [untok, AV.strip, AV.strip0, Go.Pv.goods, Go.Pv.good, goods_nat8]) hw ?_
      simp only [↓cw_ret, ↓cw_seq, ↓cw_region, ↓then_normal, ↓block_normal, ↓draw_false, ↓draw_true, ↓ow_nil, ↓ow_cons, ↓contO_eq, ↓op_load, ↓op_store, ↓ret_ret, vW_some, pW_some, bW_true, setD_some, setD_none, on1_some, ldV_eq, stV, resW, opd, rd_set, rd_nil, loadV, take?, put, flat, AV.cells, hasStore, isStore, aggF, infF, Nat.reduceEqDiff, Nat.reduceAdd, Nat.reduceLeDiff, reduceIte, reduceCtorEq, Bool.or_false, Bool.or_true, List.any, List.length_cons, List.length_nil, List.getElem?_cons_zero, List.drop_zero, List.take_succ_cons, List.take_zero, List.set_cons_zero, List.set_cons_succ, Nat.zero_add, and_self, St.bump, storeV, Tr.get_set, Nat.add_assoc, Nat.add_left_cancel_iff, Nat.left_eq_add, Nat.add_eq_left, force_DD, List.size_toArray, hf.hb, hf.h0, Int.cast_ofNat_Int]
      refine ⟨okDrawD_4p 4 5 8 9 (by simp only [rd_set, rd_nil, Nat.reduceEqDiff, reduceIte, reduceCtorEq]; exact rfl) (by simp only [rd_set, rd_nil, Nat.reduceEqDiff, reduceIte, reduceCtorEq]; exact rfl) (by simp only [rd_set, rd_nil, Nat.reduceEqDiff, reduceIte, reduceCtorEq]; exact rfl) (by simp only [rd_set, rd_nil, Nat.reduceEqDiff, reduceIte, reduceCtorEq]; exact rfl) (by omega) (by omega) (by omega) (by omega) (by omega) (by omega) (by kernel_rfl), ?_⟩
      simp only [rd_set, rd_nil, loadV, take?, aggF, infF, resV, Nat.reduceEqDiff, Nat.reduceAdd, Nat.reduceLeDiff, reduceIte, reduceCtorEq, List.length_cons, List.length_nil, List.getElem?_cons_zero, List.drop_zero, List.take_succ_cons, List.take_zero, Nat.zero_add, Tr.get_set, Nat.add_left_cancel_iff, Nat.add_eq_left, hf.hb, Tryd.f43]
      simp [untok, AV.strip, AV.strip0, Ins.av, iav, L.av, u32s]
    | bad w e =>
      simp only [Nat.reduceEqDiff, if_true, if_false, Rp.lift, RestOk]
      refine ⟨rdZ_err hr, [.i .u8 op, .i .i64 0, .i .u32 0, .i .u32 0, .i .u8 0, .sl [] 0, .sl [] 0, .sl [] 0], m, rfl, rfl, ?_⟩
      refine pure_of (by simp [rav, Go.Pv.good, Go.Pv.goods, goods_nat8]) ?_
      refine callW_of ft43 rfl (Nat.le_of_ble_eq_true rfl) ?_
      have hf : Fresh St.start := Fresh.start
      generalize St.start = σ at hf
      simp only [rav, iav]
      simp only [↓cw_seq, ↓cw_block, ↓cw_cond, ↓cw_region, ↓then_normal, ↓draw_false, ↓ow_nil, ↓ow_cons, ↓contO_eq, ↓op_move, ↓op_assign, ↓op_alloc, ↓op_box, ↓op_load, ↓op_binOp, ↓op_call, ↓force_DC, vW_some, pW_some, bW_true, bW_false, ifW_some, setD_some, allocV, boxV, on1_some, on2_some, ldV_eq, biV_eq, callV_some, arg_val, opd, opds, ofConst, leaf, rd_set, rd_nil, Fr.ofList, binV, intV, isConst, loadV, take?, flat, AV.cells, aggF, infF, Nat.reduceEqDiff, Nat.reduceAdd, Nat.reduceLeDiff, reduceIte, reduceCtorEq, Bool.or_true, List.length_cons, List.length_nil, List.getElem?_cons_zero, List.append_nil, List.drop_zero, List.take_succ_cons, List.take_zero, Int.reduceBEq, beq_self_eq_true, Nat.add_zero, Nat.zero_add, and_self, newBox, St.bump, Tr.get_set, Nat.add_assoc, Nat.add_left_cancel_iff, Nat.left_eq_add, Nat.add_eq_left, boxFree, List.size_toArray, hf.hb, hf.h0, Int.cast_ofNat_Int]
      simp only [hr, zrV, rav] at hw
      refine pc61.call (by simp [untok, AV.strip, AV.strip0, Go.Pv.goods, Go.Pv.good, goods_nat8]) hw ?_
      simp only [↓cw_ret, ↓cw_seq, ↓cw_region, ↓then_normal, ↓block_normal, ↓draw_false, ↓draw_true, ↓ow_nil, ↓ow_cons, ↓contO_eq, ↓op_load, ↓op_store, ↓ret_ret, vW_some, pW_some, bW_true, setD_some, setD_none, on1_some, ldV_eq, stV, resW, opd, rd_set, rd_nil, loadV, take?, put, flat, AV.cells, hasStore, isStore, aggF, infF, Nat.reduceEqDiff, Nat.reduceAdd, Nat.reduceLeDiff, reduceIte, reduceCtorEq, Bool.or_false, Bool.or_true, List.any, List.length_cons, List.length_nil, List.getElem?_cons_zero, List.drop_zero, List.take_succ_cons, List.take_zero, List.set_cons_zero, List.set_cons_succ, Nat.zero_add, and_self, St.bump, storeV, Tr.get_set, Nat.add_assoc, Nat.add_left_cancel_iff, Nat.left_eq_add, Nat.add_eq_left, force_DD, List.size_toArray, hf.hb, hf.h0]
      refine ⟨okDrawD_4p 4 5 8 9 (by simp only [rd_set, rd_nil, Nat.reduceEqDiff, reduceIte, reduceCtorEq]; exact rfl) (by simp only [rd_set, rd_nil, Nat.reduceEqDiff, reduceIte, reduceCtorEq]; exact rfl) (by simp only [rd_set, rd_nil, Nat.reduceEqDiff, reduceIte, reduceCtorEq]; exact rfl) (by simp only [rd_set, rd_nil, Nat.reduceEqDiff, reduceIte, reduceCtorEq]; exact rfl) (by omega) (by omega) (by omega) (by omega) (by omega) (by omega) (by kernel_rfl), ?_⟩
      simp only [rd_set, rd_nil, loadV, take?, aggF, infF, resV, Nat.reduceEqDiff, Nat.reduceAdd, Nat.reduceLeDiff, reduceIte, reduceCtorEq, List.length_cons, List.length_nil, List.getElem?_cons_zero, List.drop_zero, List.take_succ_cons, List.take_zero, Nat.zero_add, Tr.get_set, Nat.add_left_cancel_iff, Nat.add_eq_left, hf.hb, Tryd.f43]
      simp [untok, AV.strip, AV.strip0]
  · have hw := w_rrkind bs a m hb ha
    cases hr : rdK bs a with
    | bad w e =>
      have he := rdK_err hr
      have hne : ((e : Int) == 0) = false := by rw [beq_eq_false_iff_ne]; omega
      simp only [Nat.reduceEqDiff, if_true, if_false, or_false, RestOk]
      refine ⟨he, [.i .u8 op, .i .i64 0, .i .u32 0, .i .u32 0, .i .u8 0, .sl [] 0, .sl [] 0, .sl [] 0], m, rfl, rfl, ?_⟩
      refine pure_of (by simp [rav, Go.Pv.good, Go.Pv.goods, goods_nat8]) ?_
      refine callW_of ft43 rfl (Nat.le_of_ble_eq_true rfl) ?_
      have hf : Fresh St.start := Fresh.start
      generalize St.start = σ at hf
      simp only [rav, iav]
      simp only [↓cw_skip, ↓cw_seq, ↓cw_block, ↓cw_cond, ↓cw_region, ↓then_normal, ↓draw_false, ↓ow_nil, ↓ow_cons, ↓contO_eq, ↓op_move, ↓op_assign, ↓op_alloc, ↓op_box, ↓op_load, ↓op_binOp, ↓op_call, ↓force_DC, vW_some, pW_some, bW_true, bW_false, ifW_some, setD_some, allocV, boxV, on1_some, on2_some, ldV_eq, biV_eq, callV_some, arg_val, opd, opds, ofConst, leaf, rd_set, rd_nil, Fr.ofList, binV, intV, isConst, loadV, take?, flat, AV.cells, aggF, infF, Nat.reduceEqDiff, Nat.reduceAdd, Nat.reduceLeDiff, reduceIte, reduceCtorEq, Bool.or_true, List.length_cons, List.length_nil, List.getElem?_cons_zero, List.append_nil, List.drop_zero, List.take_succ_cons, List.take_zero, Int.reduceBEq, beq_self_eq_true, Nat.add_zero, Nat.zero_add, and_self, newBox, St.bump, Tr.get_set, Nat.add_assoc, Nat.add_left_cancel_iff, Nat.left_eq_add, Nat.add_eq_left, boxFree, List.size_toArray, hf.hb, hf.h0, Int.cast_ofNat_Int]
      simp only [hr, kndV, rav] at hw
      refine pc63.call (by simp [untok, AV.strip, AV.strip0, Go.Pv.goods, Go.Pv.good, goods_nat8]) hw ?_
      simp only [↓cw_skip, ↓cw_ret, ↓cw_seq, ↓cw_cond, ↓cw_region, ↓then_normal, ↓block_normal, ↓draw_false, ↓draw_true, ↓ow_nil, ↓ow_cons, ↓ow_consG, ↓contO_eq, ↓op_move, ↓op_load, ↓op_store, ↓op_binOp, ↓op_fieldAddr, ↓op_extract, ↓op_pick, ↓ret_ret, ↓force_DC, ↓force_DOs, vW_some, pW_some, bW_true, bW_false, ifW_some, setD_some, setD_none, on1_some, on2_some, ldV_eq, stV, biV_eq, faV_eq, exV, pkV, resW, opd, ofConst, leaf, rd_set, rd_nil, binV, intV, isConst, loadV, fieldAddrV, take?, put, flat, AV.cells, hasStore, isStore, undF, aggF, infF, Nat.reduceEqDiff, Nat.reduceAdd, Nat.reduceLeDiff, reduceIte, reduceCtorEq, Bool.or_false, Bool.or_true, List.any, List.length_cons, List.length_nil, List.getElem?_cons_zero, List.getElem?_cons_succ, List.drop_succ_cons, List.drop_zero, List.take_succ_cons, List.take_zero, List.set_cons_zero, List.set_cons_succ, Nat.zero_add, and_self, St.bump, storeV, Tr.get_set, wantG, Option.bind, Nat.add_assoc, Nat.add_left_cancel_iff, Nat.left_eq_add, Nat.add_eq_left, force_DD, beqT, List.size_toArray, hf.hb, hf.h0, hne]
      refine ⟨okDrawD_4p 4 5 8 9 (by simp only [rd_set, rd_nil, Nat.reduceEqDiff, reduceIte, reduceCtorEq]; exact rfl) (by simp only [rd_set, rd_nil, Nat.reduceEqDiff, reduceIte, reduceCtorEq]; exact rfl) (by simp only [rd_set, rd_nil, Nat.reduceEqDiff, reduceIte, reduceCtorEq]; exact rfl) (by simp only [rd_set, rd_nil, Nat.reduceEqDiff, reduceIte, reduceCtorEq]; exact rfl) (by omega) (by omega) (by omega) (by omega) (by omega) (by omega) (by kernel_rfl), ?_⟩
      simp only [rd_set, rd_nil, loadV, take?, aggF, infF, resV, Nat.reduceEqDiff, Nat.reduceAdd, Nat.reduceLeDiff, reduceIte, reduceCtorEq, List.length_cons, List.length_nil, List.getElem?_cons_zero, List.drop_zero, List.take_succ_cons, List.take_zero, Nat.zero_add, Tr.get_set, Nat.add_left_cancel_iff, Nat.add_eq_left, hf.hb, Tryd.f43]
      simp [untok, AV.strip, AV.strip0]
    | ok k a1 =>
      have hl := rdK_len hr
      simp only [hr, kndV, rav] at hw
      have H1 := H a1 m false hl.1 hl.2.1 hm
      simp only [Nat.reduceEqDiff, if_true, if_false, or_false, show (6 == 7 : Bool) = false from rfl]
      cases h1 : rd a1 m false with
      | bad w e =>
        simp only [h1, ListV] at H1
        obtain ⟨he, m1, H1⟩ := H1
        have hne : ((e : Int) == 0) = false := by rw [beq_eq_false_iff_ne]; omega
        simp only [rav, Int.cast_ofNat_Int] at H1
        simp only [RestOk]
        refine ⟨he, [.i .u8 op, .i .i64 0, .i .u32 0, .i .u32 0, .i .u8 k, .sl [] 0, .sl [] 0, .sl [] 0], m1, rfl, rfl, ?_⟩
        refine pure_of (by simp [rav, Go.Pv.good, Go.Pv.goods, goods_nat8]) ?_
        refine callW_of ft43 rfl (Nat.le_of_ble_eq_true rfl) ?_
        have hf : Fresh St.start := Fresh.start
        generalize St.start = σ at hf
        simp only [rav, iav]
        simp only [↓cw_skip, ↓cw_seq, ↓cw_block, ↓cw_cond, ↓cw_region, ↓then_normal, ↓draw_false, ↓ow_nil, ↓ow_cons, ↓contO_eq, ↓op_move, ↓op_assign, ↓op_alloc, ↓op_box, ↓op_load, ↓op_binOp, ↓op_call, ↓force_DC, vW_some, pW_some, bW_true, bW_false, ifW_some, setD_some, allocV, boxV, on1_some, on2_some, ldV_eq, biV_eq, callV_some, arg_val, opd, opds, ofConst, leaf, rd_set, rd_nil, Fr.ofList, binV, intV, isConst, loadV, take?, flat, AV.cells, aggF, infF, Nat.reduceEqDiff, Nat.reduceAdd, Nat.reduceLeDiff, reduceIte, reduceCtorEq, Bool.or_true, List.length_cons, List.length_nil, List.getElem?_cons_zero, List.append_nil, List.drop_zero, List.take_succ_cons, List.take_zero, Int.reduceBEq, beq_self_eq_true, Nat.add_zero, Nat.zero_add, and_self, newBox, St.bump, Tr.get_set, Nat.add_assoc, Nat.add_left_cancel_iff, Nat.left_eq_add, Nat.add_eq_left, boxFree, List.size_toArray, hf.hb, hf.h0, Int.cast_ofNat_Int]
        refine pc63.call (by simp [untok, AV.strip, AV.strip0, Go.Pv.goods, Go.Pv.good, goods_nat8]) hw ?_
        simp only [↓cw_seq, ↓cw_cond, ↓cw_region, ↓then_normal, ↓draw_false, ↓ow_nil, ↓ow_cons, ↓contO_eq, ↓op_move, ↓op_load, ↓op_store, ↓op_binOp, ↓op_fieldAddr, ↓op_extract, ↓op_call, ↓force_DC, vW_some, pW_some, bW_true, ifW_some, setD_some, setD_none, on1_some, on2_some, ldV_eq, stV, biV_eq, faV_eq, exV, callV_some, arg_val, opd, opds, ofConst, leaf, rd_set, rd_nil, binV, intV, isConst, loadV, fieldAddrV, take?, put, flat, AV.cells, undF, aggF, infF, Nat.reduceEqDiff, Nat.reduceAdd, Nat.reduceLeDiff, reduceIte, reduceCtorEq, Bool.or_true, List.length_cons, List.length_nil, List.getElem?_cons_zero, List.getElem?_cons_succ, List.append_nil, List.drop_succ_cons, List.drop_zero, List.take_succ_cons, List.take_zero, List.set_cons_zero, List.set_cons_succ, Int.reduceBEq, beq_self_eq_true, Nat.zero_add, and_self, St.bump, storeV, Tr.get_set, Nat.add_assoc, Nat.add_left_cancel_iff, Nat.left_eq_add, Nat.add_eq_left, List.size_toArray, hf.hb, hf.h0, Int.cast_ofNat_Int, hfd]
        refine pc24.call (by simp [untok, AV.strip, AV.strip0, Go.Pv.goods, Go.Pv.good, goods_nat8]) H1 ?_
        simp only [↓cw_skip, ↓cw_ret, ↓cw_seq, ↓cw_cond, ↓cw_region, ↓then_normal, ↓block_normal, ↓draw_false, ↓draw_true, ↓ow_nil, ↓ow_cons, ↓ow_consG, ↓contO_eq, ↓op_move, ↓op_assign, ↓op_load, ↓op_store, ↓op_binOp, ↓op_fieldAddr, ↓op_extract, ↓op_pick, ↓ret_ret, ↓force_DC, ↓force_DOs, vW_some, pW_some, bW_true, bW_false, ifW_some, setD_some, setD_none, on1_some, on2_some, ldV_eq, stV, biV_eq, faV_eq, exV, pkV, resW, opd, ofConst, leaf, rd_set, rd_nil, binV, intV, isConst, loadV, fieldAddrV, take?, put, flat, AV.cells, hasStore, isStore, undF, aggF, infF, Nat.reduceEqDiff, Nat.reduceAdd, Nat.reduceLeDiff, reduceIte, reduceCtorEq, Bool.or_false, Bool.or_true, List.any, List.length_cons, List.length_nil, List.getElem?_cons_zero, List.getElem?_cons_succ, List.drop_succ_cons, List.drop_zero, List.take_succ_cons, List.take_zero, List.set_cons_zero, List.set_cons_succ, Nat.zero_add, and_self, St.bump, storeV, Tr.get_set, wantG, Option.bind, Nat.add_assoc, Nat.add_left_cancel_iff, Nat.left_eq_add, Nat.add_eq_left, force_DD, beqT, List.size_toArray, hf.hb, hf.h0, hne]
        refine ⟨okDrawD_4p 4 5 8 9 (by simp only [rd_set, rd_nil, Nat.reduceEqDiff, reduceIte, reduceCtorEq]; exact rfl) (by simp only [rd_set, rd_nil, Nat.reduceEqDiff, reduceIte, reduceCtorEq]; exact rfl) (by simp only [rd_set, rd_nil, Nat.reduceEqDiff, reduceIte, reduceCtorEq]; exact rfl) (by simp only [rd_set, rd_nil, Nat.reduceEqDiff, reduceIte, reduceCtorEq]; exact rfl) (by omega) (by omega) (by omega) (by omega) (by omega) (by omega) (by kernel_rfl), ?_⟩
        simp only [rd_set, rd_nil, loadV, take?, aggF, infF, resV, Nat.reduceEqDiff, Nat.reduceAdd, Nat.reduceLeDiff, reduceIte, reduceCtorEq, List.length_cons, List.length_nil, List.getElem?_cons_zero, List.drop_zero, List.take_succ_cons, List.take_zero, Nat.zero_add, Tr.get_set, Nat.add_left_cancel_iff, Nat.add_eq_left, hf.hb, Tryd.f43]
        simp [untok, AV.strip, AV.strip0]
      | ok x a2 m2 =>
        obtain ⟨b, z⟩ := x
        have hl2 := hrd _ _ _ _ _ _ h1 hm
        simp only [h1, ListV] at H1
        simp only [rav, Int.cast_ofNat_Int] at H1
        by_cases hz : z = 5
        · subst hz
          have H2 := H a2 m2 false (by omega) hl2.2.1 hl2.2.2
          simp only [if_true]
          cases h2 : rd a2 m2 false with
          | bad w e =>
            simp only [h2, ListV] at H2
            obtain ⟨he, m1, H2⟩ := H2
            simp only [rav, Int.cast_ofNat_Int] at H2
            simp only [RestOk]
            refine ⟨he, [.i .u8 op, .i .i64 0, .i .u32 0, .i .u32 0, .i .u8 k, .sl b.av 0, .sl [] 0, .sl [] 0], m1, rfl, rfl, ?_⟩
            refine pure_of (by simp [rav, Go.Pv.good, Go.Pv.goods, goods_nat8, L.goods]) ?_
            refine callW_of ft43 rfl (Nat.le_of_ble_eq_true rfl) ?_
            have hf : Fresh St.start := Fresh.start
            generalize St.start = σ at hf
            simp only [rav, iav]
            simp only [↓cw_skip, ↓cw_seq, ↓cw_block, ↓cw_cond, ↓cw_region, ↓then_normal, ↓draw_false, ↓ow_nil, ↓ow_cons, ↓contO_eq, ↓op_move, ↓op_assign, ↓op_alloc, ↓op_box, ↓op_load, ↓op_binOp, ↓op_call, ↓force_DC, vW_some, pW_some, bW_true, bW_false, ifW_some, setD_some, allocV, boxV, on1_some, on2_some, ldV_eq, biV_eq, callV_some, arg_val, opd, opds, ofConst, leaf, rd_set, rd_nil, Fr.ofList, binV, intV, isConst, loadV, take?, flat, AV.cells, aggF, infF, Nat.reduceEqDiff, Nat.reduceAdd, Nat.reduceLeDiff, reduceIte, reduceCtorEq, Bool.or_true, List.length_cons, List.length_nil, List.getElem?_cons_zero, List.append_nil, List.drop_zero, List.take_succ_cons, List.take_zero, Int.reduceBEq, beq_self_eq_true, Nat.add_zero, Nat.zero_add, and_self, newBox, St.bump, Tr.get_set, Nat.add_assoc, Nat.add_left_cancel_iff, Nat.left_eq_add, Nat.add_eq_left, boxFree, List.size_toArray, hf.hb, hf.h0, Int.cast_ofNat_Int]
            refine pc63.call (by simp [untok, AV.strip, AV.strip0, Go.Pv.goods, Go.Pv.good, goods_nat8]) hw ?_
            simp only [↓cw_seq, ↓cw_cond, ↓cw_region, ↓then_normal, ↓draw_false, ↓ow_nil, ↓ow_cons, ↓contO_eq, ↓op_move, ↓op_load, ↓op_store, ↓op_binOp, ↓op_fieldAddr, ↓op_extract, ↓op_call, ↓force_DC, vW_some, pW_some, bW_true, ifW_some, setD_some, setD_none, on1_some, on2_some, ldV_eq, stV, biV_eq, faV_eq, exV, callV_some, arg_val, opd, opds, ofConst, leaf, rd_set, rd_nil, binV, intV, isConst, loadV, fieldAddrV, take?, put, flat, AV.cells, undF, aggF, infF, Nat.reduceEqDiff, Nat.reduceAdd, Nat.reduceLeDiff, reduceIte, reduceCtorEq, Bool.or_true, List.length_cons, List.length_nil, List.getElem?_cons_zero, List.getElem?_cons_succ, List.append_nil, List.drop_succ_cons, List.drop_zero, List.take_succ_cons, List.take_zero, List.set_cons_zero, List.set_cons_succ, Int.reduceBEq, beq_self_eq_true, Nat.zero_add, and_self, St.bump, storeV, Tr.get_set, Nat.add_assoc, Nat.add_left_cancel_iff, Nat.left_eq_add, Nat.add_eq_left, List.size_toArray, hf.hb, hf.h0, Int.cast_ofNat_Int, hfd]
            refine pc24.call (by simp [untok, AV.strip, AV.strip0, Go.Pv.goods, Go.Pv.good, goods_nat8]) H1 ?_
            simp only [↓cw_seq, ↓cw_cond, ↓cw_region, ↓then_normal, ↓draw_false, ↓ow_nil, ↓ow_cons, ↓ow_consG, ↓contO_eq, ↓op_move, ↓op_assign, ↓op_load, ↓op_store, ↓op_binOp, ↓op_fieldAddr, ↓op_extract, ↓op_pick, ↓op_call, ↓force_DC, ↓force_DO, vW_some, pW_some, bW_true, ifW_some, setD_some, setD_none, on1_some, on2_some, ldV_eq, stV, biV_eq, faV_eq, exV, pkV, callV_some, arg_val, opd, opds, ofConst, leaf, rd_set, rd_nil, binV, intV, isConst, loadV, fieldAddrV, take?, put, flat, AV.cells, undF, aggF, infF, Nat.reduceEqDiff, Nat.reduceAdd, Nat.reduceLeDiff, reduceIte, reduceCtorEq, Bool.or_true, List.length_cons, List.length_nil, List.getElem?_cons_zero, List.getElem?_cons_succ, List.append_nil, List.drop_succ_cons, List.drop_zero, List.take_succ_cons, List.take_zero, List.set_cons_zero, List.set_cons_succ, beq_self_eq_true, Nat.zero_add, and_self, St.bump, storeV, Tr.get_set, wantG, Option.bind, Nat.add_assoc, Nat.add_left_cancel_iff, Nat.left_eq_add, Nat.add_eq_left, List.size_toArray, hf.hb, hf.h0, Int.cast_ofNat_Int, hfd]
            refine pc24.call (by simp [untok, AV.strip, AV.strip0, Go.Pv.goods, Go.Pv.good, goods_nat8]) H2 ?_
            simp only [↓cw_ret, ↓cw_seq, ↓cw_region, ↓then_normal, ↓block_normal, ↓draw_false, ↓draw_true, ↓ow_nil, ↓ow_cons, ↓contO_eq, ↓op_move, ↓op_load, ↓op_store, ↓op_fieldAddr, ↓op_extract, ↓ret_ret, vW_some, pW_some, bW_true, setD_some, setD_none, on1_some, ldV_eq, stV, faV_eq, exV, resW, opd, rd_set, rd_nil, loadV, fieldAddrV, take?, put, flat, AV.cells, hasStore, isStore, undF, aggF, infF, Nat.reduceEqDiff, Nat.reduceAdd, Nat.reduceLeDiff, reduceIte, reduceCtorEq, Bool.or_false, Bool.or_true, List.any, List.length_cons, List.length_nil, List.getElem?_cons_zero, List.getElem?_cons_succ, List.drop_zero, List.take_succ_cons, List.take_zero, List.set_cons_zero, List.set_cons_succ, Nat.zero_add, and_self, St.bump, storeV, Tr.get_set, Nat.add_assoc, Nat.add_left_cancel_iff, Nat.left_eq_add, Nat.add_eq_left, force_DD, List.size_toArray, hf.hb, hf.h0]
            refine ⟨okDrawD_4p 4 5 8 9 (by simp only [rd_set, rd_nil, Nat.reduceEqDiff, reduceIte, reduceCtorEq]; exact rfl) (by simp only [rd_set, rd_nil, Nat.reduceEqDiff, reduceIte, reduceCtorEq]; exact rfl) (by simp only [rd_set, rd_nil, Nat.reduceEqDiff, reduceIte, reduceCtorEq]; exact rfl) (by simp only [rd_set, rd_nil, Nat.reduceEqDiff, reduceIte, reduceCtorEq]; exact rfl) (by omega) (by omega) (by omega) (by omega) (by omega) (by omega) (by kernel_rfl), ?_⟩
            simp only [rd_set, rd_nil, loadV, take?, aggF, infF, resV, Nat.reduceEqDiff, Nat.reduceAdd, Nat.reduceLeDiff, reduceIte, reduceCtorEq, List.length_cons, List.length_nil, List.getElem?_cons_zero, List.drop_zero, List.take_succ_cons, List.take_zero, Nat.zero_add, Tr.get_set, Nat.add_left_cancel_iff, Nat.add_eq_left, hf.hb, Tryd.f43]
            simp [untok, AV.strip, AV.strip0]
          | ok y a3 m3 =>
            obtain ⟨e, z2⟩ := y
            simp only [h2, ListV] at H2
            simp only [rav, Int.cast_ofNat_Int] at H2
            simp only [RestOk]
            refine pure_of (by simp [rav, Ins.av, good_iav, Go.Pv.good, Go.Pv.goods, goods_nat8]) ?_
            refine callW_of ft43 rfl (Nat.le_of_ble_eq_true rfl) ?_
            have hf : Fresh St.start := Fresh.start
            generalize St.start = σ at hf
            simp only [rav, iav]
            simp only [↓cw_skip, ↓cw_seq, ↓cw_block, ↓cw_cond, ↓cw_region, ↓then_normal, ↓draw_false, ↓ow_nil, ↓ow_cons, ↓contO_eq, ↓op_move, ↓op_assign, ↓op_alloc, ↓op_box, ↓op_load, ↓op_binOp, ↓op_call, ↓force_DC, vW_some, pW_some, bW_true, bW_false, ifW_some, setD_some, allocV, boxV, on1_some, on2_some, ldV_eq, biV_eq, callV_some, arg_val, opd, opds, ofConst, leaf, rd_set, rd_nil, Fr.ofList, binV, intV, isConst, loadV, take?, flat, AV.cells, aggF, infF, Nat.reduceEqDiff, Nat.reduceAdd, Nat.reduceLeDiff, reduceIte, reduceCtorEq, Bool.or_true, List.length_cons, List.length_nil, List.getElem?_cons_zero, List.append_nil, List.drop_zero, List.take_succ_cons, List.take_zero, Int.reduceBEq, beq_self_eq_true, Nat.add_zero, Nat.zero_add, and_self, newBox, St.bump, Tr.get_set, Nat.add_assoc, Nat.add_left_cancel_iff, Nat.left_eq_add, Nat.add_eq_left, boxFree, List.size_toArray, hf.hb, hf.h0, Int.cast_ofNat_Int]
            refine pc63.call (by simp [untok, AV.strip, AV.strip0, Go.Pv.goods, Go.Pv.good, goods_nat8]) hw ?_
            simp only [↓cw_seq, ↓cw_cond, ↓cw_region, ↓then_normal, ↓draw_false, ↓ow_nil, ↓ow_cons, ↓contO_eq, ↓op_move, ↓op_load, ↓op_store, ↓op_binOp, ↓op_fieldAddr, ↓op_extract, ↓op_call, ↓force_DC, vW_some, pW_some, bW_true, ifW_some, setD_some, setD_none, on1_some, on2_some, ldV_eq, stV, biV_eq, faV_eq, exV, callV_some, arg_val, opd, opds, ofConst, leaf, rd_set, rd_nil, binV, intV, isConst, loadV, fieldAddrV, take?, put, flat, AV.cells, undF, aggF, infF, Nat.reduceEqDiff, Nat.reduceAdd, Nat.reduceLeDiff, reduceIte, reduceCtorEq, Bool.or_true, List.length_cons, List.length_nil, List.getElem?_cons_zero, List.getElem?_cons_succ, List.append_nil, List.drop_succ_cons, List.drop_zero, List.take_succ_cons, List.take_zero, List.set_cons_zero, List.set_cons_succ, Int.reduceBEq, beq_self_eq_true, Nat.zero_add, and_self, St.bump, storeV, Tr.get_set, Nat.add_assoc, Nat.add_left_cancel_iff, Nat.left_eq_add, Nat.add_eq_left, List.size_toArray, hf.hb, hf.h0, Int.cast_ofNat_Int, hfd]
            refine pc24.call (by simp [untok, AV.strip, AV.strip0, Go.Pv.goods, Go.Pv.good, goods_nat8]) H1 ?_
            simp only [↓cw_seq, ↓cw_cond, ↓cw_region, ↓then_normal, ↓draw_false, ↓ow_nil, ↓ow_cons, ↓ow_consG, ↓contO_eq, ↓op_move, ↓op_assign, ↓op_load, ↓op_store, ↓op_binOp, ↓op_fieldAddr, ↓op_extract, ↓op_pick, ↓op_call, ↓force_DC, ↓force_DO, vW_some, pW_some, bW_true, ifW_some, setD_some, setD_none, on1_some, on2_some, ldV_eq, stV, biV_eq, faV_eq, exV, pkV, callV_some, arg_val, opd, opds, ofConst, leaf, rd_set, rd_nil, binV, intV, isConst, loadV, fieldAddrV, take?, put, flat, AV.cells, undF, aggF, infF, Nat.reduceEqDiff, Nat.reduceAdd, Nat.reduceLeDiff, reduceIte, reduceCtorEq, Bool.or_true, List.length_cons, List.length_nil, List.getElem?_cons_zero, List.getElem?_cons_succ, List.append_nil, List.drop_succ_cons, List.drop_zero, List.take_succ_cons, List.take_zero, List.set_cons_zero, List.set_cons_succ, beq_self_eq_true, Nat.zero_add, and_self, St.bump, storeV, Tr.get_set, wantG, Option.bind, Nat.add_assoc, Nat.add_left_cancel_iff, Nat.left_eq_add, Nat.add_eq_left, List.size_toArray, hf.hb, hf.h0, Int.cast_ofNat_Int, hfd]
            refine pc24.call (by simp [untok, AV.strip, AV.strip0, Go.Pv.goods, Go.Pv.good, goods_nat8]) H2 ?_
            simp only [↓cw_ret, ↓cw_seq, ↓cw_region, ↓then_normal, ↓block_normal, ↓draw_false, ↓draw_true, ↓ow_nil, ↓ow_cons, ↓contO_eq, ↓op_move, ↓op_load, ↓op_store, ↓op_fieldAddr, ↓op_extract, ↓ret_ret, vW_some, pW_some, bW_true, setD_some, setD_none, on1_some, ldV_eq, stV, faV_eq, exV, resW, opd, rd_set, rd_nil, loadV, fieldAddrV, take?, put, flat, AV.cells, hasStore, isStore, undF, aggF, infF, Nat.reduceEqDiff, Nat.reduceAdd, Nat.reduceLeDiff, reduceIte, reduceCtorEq, Bool.or_false, Bool.or_true, List.any, List.length_cons, List.length_nil, List.getElem?_cons_zero, List.getElem?_cons_succ, List.drop_zero, List.take_succ_cons, List.take_zero, List.set_cons_zero, List.set_cons_succ, Nat.zero_add, and_self, St.bump, storeV, Tr.get_set, Nat.add_assoc, Nat.add_left_cancel_iff, Nat.left_eq_add, Nat.add_eq_left, force_DD, List.size_toArray, hf.hb, hf.h0]
            refine ⟨okDrawD_4p 4 5 8 9 (by simp only [rd_set, rd_nil, Nat.reduceEqDiff, reduceIte, reduceCtorEq]; exact rfl) (by simp only [rd_set, rd_nil, Nat.reduceEqDiff, reduceIte, reduceCtorEq]; exact rfl) (by simp only [rd_set, rd_nil, Nat.reduceEqDiff, reduceIte, reduceCtorEq]; exact rfl) (by simp only [rd_set, rd_nil, Nat.reduceEqDiff, reduceIte, reduceCtorEq]; exact rfl) (by omega) (by omega) (by omega) (by omega) (by omega) (by omega) (by kernel_rfl), ?_⟩
            simp only [rd_set, rd_nil, loadV, take?, aggF, infF, resV, Nat.reduceEqDiff, Nat.reduceAdd, Nat.reduceLeDiff, reduceIte, reduceCtorEq, List.length_cons, List.length_nil, List.getElem?_cons_zero, List.drop_zero, List.take_succ_cons, List.take_zero, Nat.zero_add, Tr.get_set, Nat.add_left_cancel_iff, Nat.add_eq_left, hf.hb, Tryd.f43]
            simp [untok, AV.strip, AV.strip0, Ins.av, iav, u32s]
        · have hz5 : ((z : Int) == 5) = false := by rw [beq_eq_false_iff_ne]; omega
          simp only [if_neg hz, RestOk]
          refine pure_of (by simp [rav, Ins.av, good_iav, Go.Pv.good, Go.Pv.goods, goods_nat8]) ?_
          refine callW_of ft43 rfl (Nat.le_of_ble_eq_true rfl) ?_
          have hf : Fresh St.start := Fresh.start
          generalize St.start = σ at hf
          simp only [rav, iav]
          simp only [↓cw_skip, ↓cw_seq, ↓cw_block, ↓cw_cond, ↓cw_region, ↓then_normal, ↓draw_false, ↓ow_nil, ↓ow_cons, ↓contO_eq, ↓op_move, ↓op_assign, ↓op_alloc, ↓op_box, ↓op_load, ↓op_binOp, ↓op_call, ↓force_DC, vW_some, pW_some, bW_true, bW_false, ifW_some, setD_some, allocV, boxV, on1_some, on2_some, ldV_eq, biV_eq, callV_some, arg_val, opd, opds, ofConst, leaf, rd_set, rd_nil, Fr.ofList, binV, intV, isConst, loadV, take?, flat, AV.cells, aggF, infF, Nat.reduceEqDiff, Nat.reduceAdd, Nat.reduceLeDiff, reduceIte, reduceCtorEq, Bool.or_true, List.length_cons, List.length_nil, List.getElem?_cons_zero, List.append_nil, List.drop_zero, List.take_succ_cons, List.take_zero, Int.reduceBEq, beq_self_eq_true, Nat.add_zero, Nat.zero_add, and_self, newBox, St.bump, Tr.get_set, Nat.add_assoc, Nat.add_left_cancel_iff, Nat.left_eq_add, Nat.add_eq_left, boxFree, List.size_toArray, hf.hb, hf.h0, Int.cast_ofNat_Int]
          refine pc63.call (by simp [untok, AV.strip, AV.strip0, Go.Pv.goods, Go.Pv.good, goods_nat8]) hw ?_
          simp only [↓cw_seq, ↓cw_cond, ↓cw_region, ↓then_normal, ↓draw_false, ↓ow_nil, ↓ow_cons, ↓contO_eq, ↓op_move, ↓op_load, ↓op_store, ↓op_binOp, ↓op_fieldAddr, ↓op_extract, ↓op_call, ↓force_DC, vW_some, pW_some, bW_true, ifW_some, setD_some, setD_none, on1_some, on2_some, ldV_eq, stV, biV_eq, faV_eq, exV, callV_some, arg_val, opd, opds, ofConst, leaf, rd_set, rd_nil, binV, intV, isConst, loadV, fieldAddrV, take?, put, flat, AV.cells, undF, aggF, infF, Nat.reduceEqDiff, Nat.reduceAdd, Nat.reduceLeDiff, reduceIte, reduceCtorEq, Bool.or_true, List.length_cons, List.length_nil, List.getElem?_cons_zero, List.getElem?_cons_succ, List.append_nil, List.drop_succ_cons, List.drop_zero, List.take_succ_cons, List.take_zero, List.set_cons_zero, List.set_cons_succ, Int.reduceBEq, beq_self_eq_true, Nat.zero_add, and_self, St.bump, storeV, Tr.get_set, Nat.add_assoc, Nat.add_left_cancel_iff, Nat.left_eq_add, Nat.add_eq_left, List.size_toArray, hf.hb, hf.h0, Int.cast_ofNat_Int, hfd]
          refine pc24.call (by simp [untok, AV.strip, AV.strip0, Go.Pv.goods, Go.Pv.good, goods_nat8]) H1 ?_
          simp only [↓cw_skip, ↓cw_ret, ↓cw_seq, ↓cw_cond, ↓cw_region, ↓then_normal, ↓block_normal, ↓draw_false, ↓draw_true, ↓ow_nil, ↓ow_cons, ↓ow_consG, ↓contO_eq, ↓op_move, ↓op_assign, ↓op_load, ↓op_store, ↓op_binOp, ↓op_fieldAddr, ↓op_extract, ↓op_pick, ↓ret_ret, ↓force_DC, ↓force_DO, vW_some, pW_some, bW_true, bW_false, ifW_some, setD_some, setD_none, on1_some, on2_some, ldV_eq, stV, biV_eq, faV_eq, exV, pkV, resW, opd, ofConst, leaf, rd_set, rd_nil, binV, intV, isConst, loadV, fieldAddrV, take?, put, flat, AV.cells, hasStore, isStore, undF, aggF, infF, Nat.reduceEqDiff, Nat.reduceAdd, Nat.reduceLeDiff, reduceIte, reduceCtorEq, Bool.or_false, Bool.or_true, List.any, List.length_cons, List.length_nil, List.getElem?_cons_zero, List.getElem?_cons_succ, List.drop_succ_cons, List.drop_zero, List.take_succ_cons, List.take_zero, List.set_cons_zero, List.set_cons_succ, beq_self_eq_true, Nat.zero_add, and_self, St.bump, storeV, Tr.get_set, wantG, Option.bind, Nat.add_assoc, Nat.add_left_cancel_iff, Nat.left_eq_add, Nat.add_eq_left, force_DD, List.size_toArray, hf.hb, hf.h0, hz5]
          refine ⟨okDrawD_4p 4 5 8 9 (by simp only [rd_set, rd_nil, Nat.reduceEqDiff, reduceIte, reduceCtorEq]; exact rfl) (by simp only [rd_set, rd_nil, Nat.reduceEqDiff, reduceIte, reduceCtorEq]; exact rfl) (by simp only [rd_set, rd_nil, Nat.reduceEqDiff, reduceIte, reduceCtorEq]; exact rfl) (by simp only [rd_set, rd_nil, Nat.reduceEqDiff, reduceIte, reduceCtorEq]; exact rfl) (by omega) (by omega) (by omega) (by omega) (by omega) (by omega) (by kernel_rfl), ?_⟩
          simp only [rd_set, rd_nil, loadV, take?, aggF, infF, resV, Nat.reduceEqDiff, Nat.reduceAdd, Nat.reduceLeDiff, reduceIte, reduceCtorEq, List.length_cons, List.length_nil, List.getElem?_cons_zero, List.drop_zero, List.take_succ_cons, List.take_zero, Nat.zero_add, Tr.get_set, Nat.add_left_cancel_iff, Nat.add_eq_left, hf.hb, Tryd.f43]
          simp [untok, AV.strip, AV.strip0, Ins.av, iav, L.av, u32s]
  · have hw := w_rrkind bs a m hb ha
    cases hr : rdK bs a with
    | bad w e =>
      have he := rdK_err hr
      have hne : ((e : Int) == 0) = false := by rw [beq_eq_false_iff_ne]; omega
      simp only [Nat.reduceEqDiff, if_true, if_false, or_true, RestOk]
      refine ⟨he, [.i .u8 op, .i .i64 0, .i .u32 0, .i .u32 0, .i .u8 0, .sl [] 0, .sl [] 0, .sl [] 0], m, rfl, rfl, ?_⟩
      refine pure_of (by simp [rav, Go.Pv.good, Go.Pv.goods, goods_nat8]) ?_
      refine callW_of ft43 rfl (Nat.le_of_ble_eq_true rfl) ?_
      have hf : Fresh St.start := Fresh.start
      generalize St.start = σ at hf
      simp only [rav, iav]
      simp only [↓cw_seq, ↓cw_block, ↓cw_cond, ↓cw_region, ↓then_normal, ↓draw_false, ↓ow_nil, ↓ow_cons, ↓contO_eq, ↓op_move, ↓op_assign, ↓op_alloc, ↓op_box, ↓op_load, ↓op_binOp, ↓op_call, ↓force_DC, vW_some, pW_some, bW_true, bW_false, ifW_some, setD_some, allocV, boxV, on1_some, on2_some, ldV_eq, biV_eq, callV_some, arg_val, opd, opds, ofConst, leaf, rd_set, rd_nil, Fr.ofList, binV, intV, isConst, loadV, take?, flat, AV.cells, aggF, infF, Nat.reduceEqDiff, Nat.reduceAdd, Nat.reduceLeDiff, reduceIte, reduceCtorEq, Bool.or_true, List.length_cons, List.length_nil, List.getElem?_cons_zero, List.append_nil, List.drop_zero, List.take_succ_cons, List.take_zero, Int.reduceBEq, beq_self_eq_true, Nat.add_zero, Nat.zero_add, and_self, newBox, St.bump, Tr.get_set, Nat.add_assoc, Nat.add_left_cancel_iff, Nat.left_eq_add, Nat.add_eq_left, boxFree, List.size_toArray, hf.hb, hf.h0, Int.cast_ofNat_Int]
      simp only [hr, kndV, rav] at hw
      refine pc63.call (by simp [untok, AV.strip, AV.strip0, Go.Pv.goods, Go.Pv.good, goods_nat8]) hw ?_
      simp only [↓cw_skip, ↓cw_ret, ↓cw_seq, ↓cw_cond, ↓cw_region, ↓then_normal, ↓block_normal, ↓draw_false, ↓draw_true, ↓ow_nil, ↓ow_cons, ↓ow_consG, ↓contO_eq, ↓op_move, ↓op_load, ↓op_store, ↓op_binOp, ↓op_fieldAddr, ↓op_extract, ↓op_pick, ↓ret_ret, ↓force_DC, ↓force_DOs, vW_some, pW_some, bW_true, bW_false, ifW_some, setD_some, setD_none, on1_some, on2_some, ldV_eq, stV, biV_eq, faV_eq, exV, pkV, resW, opd, ofConst, leaf, rd_set, rd_nil, binV, intV, isConst, loadV, fieldAddrV, take?, put, flat, AV.cells, hasStore, isStore, undF, aggF, infF, Nat.reduceEqDiff, Nat.reduceAdd, Nat.reduceLeDiff, reduceIte, reduceCtorEq, Bool.or_false, Bool.or_true, List.any, List.length_cons, List.length_nil, List.getElem?_cons_zero, List.getElem?_cons_succ, List.drop_succ_cons, List.drop_zero, List.take_succ_cons, List.take_zero, List.set_cons_zero, List.set_cons_succ, Nat.zero_add, and_self, St.bump, storeV, Tr.get_set, wantG, Option.bind, Nat.add_assoc, Nat.add_left_cancel_iff, Nat.left_eq_add, Nat.add_eq_left, force_DD, beqT, List.size_toArray, hf.hb, hf.h0, hne]
      refine ⟨okDrawD_4p 4 5 8 9 (by simp only [rd_set, rd_nil, Nat.reduceEqDiff, reduceIte, reduceCtorEq]; exact rfl) (by simp only [rd_set, rd_nil, Nat.reduceEqDiff, reduceIte, reduceCtorEq]; exact rfl) (by simp only [rd_set, rd_nil, Nat.reduceEqDiff, reduceIte, reduceCtorEq]; exact rfl) (by simp only [rd_set, rd_nil, Nat.reduceEqDiff, reduceIte, reduceCtorEq]; exact rfl) (by omega) (by omega) (by omega) (by omega) (by omega) (by omega) (by kernel_rfl), ?_⟩
      simp only [rd_set, rd_nil, loadV, take?, aggF, infF, resV, Nat.reduceEqDiff, Nat.reduceAdd, Nat.reduceLeDiff, reduceIte, reduceCtorEq, List.length_cons, List.length_nil, List.getElem?_cons_zero, List.drop_zero, List.take_succ_cons, List.take_zero, Nat.zero_add, Tr.get_set, Nat.add_left_cancel_iff, Nat.add_eq_left, hf.hb, Tryd.f43]
      simp [untok, AV.strip, AV.strip0]
    | ok k a1 =>
      have hl := rdK_len hr
      simp only [hr, kndV, rav] at hw
      have H1 := H a1 m true hl.1 hl.2.1 hm
      simp only [Nat.reduceEqDiff, if_true, if_false, or_true, show (7 == 7 : Bool) = true from rfl]
      cases h1 : rd a1 m true with
      | bad w e =>
        simp only [h1, ListV] at H1
        obtain ⟨he, m1, H1⟩ := H1
        have hne : ((e : Int) == 0) = false := by rw [beq_eq_false_iff_ne]; omega
        simp only [rav, Int.cast_ofNat_Int] at H1
        simp only [RestOk]
        refine ⟨he, [.i .u8 op, .i .i64 0, .i .u32 0, .i .u32 0, .i .u8 k, .sl [] 0, .sl [] 0, .sl [] 0], m1, rfl, rfl, ?_⟩
        refine pure_of (by simp [rav, Go.Pv.good, Go.Pv.goods, goods_nat8]) ?_
        refine callW_of ft43 rfl (Nat.le_of_ble_eq_true rfl) ?_
        have hf : Fresh St.start := Fresh.start
        generalize St.start = σ at hf
        simp only [rav, iav]
        simp only [↓cw_seq, ↓cw_block, ↓cw_cond, ↓cw_region, ↓then_normal, ↓draw_false, ↓ow_nil, ↓ow_cons, ↓contO_eq, ↓op_move, ↓op_assign, ↓op_alloc, ↓op_box, ↓op_load, ↓op_binOp, ↓op_call, ↓force_DC, vW_some, pW_some, bW_true, bW_false, ifW_some, setD_some, allocV, boxV, on1_some, on2_some, ldV_eq, biV_eq, callV_some, arg_val, opd, opds, ofConst, leaf, rd_set, rd_nil, Fr.ofList, binV, intV, isConst, loadV, take?, flat, AV.cells, aggF, infF, Nat.reduceEqDiff, Nat.reduceAdd, Nat.reduceLeDiff, reduceIte, reduceCtorEq, Bool.or_true, List.length_cons, List.length_nil, List.getElem?_cons_zero, List.append_nil, List.drop_zero, List.take_succ_cons, List.take_zero, Int.reduceBEq, beq_self_eq_true, Nat.add_zero, Nat.zero_add, and_self, newBox, St.bump, Tr.get_set, Nat.add_assoc, Nat.add_left_cancel_iff, Nat.left_eq_add, Nat.add_eq_left, boxFree, List.size_toArray, hf.hb, hf.h0, Int.cast_ofNat_Int]
        refine pc63.call (by simp [untok, AV.strip, AV.strip0, Go.Pv.goods, Go.Pv.good, goods_nat8]) hw ?_
        simp only [↓cw_seq, ↓cw_cond, ↓cw_region, ↓then_normal, ↓draw_false, ↓ow_nil, ↓ow_cons, ↓contO_eq, ↓op_move, ↓op_load, ↓op_store, ↓op_binOp, ↓op_fieldAddr, ↓op_extract, ↓op_call, ↓force_DC, vW_some, pW_some, bW_true, ifW_some, setD_some, setD_none, on1_some, on2_some, ldV_eq, stV, biV_eq, faV_eq, exV, callV_some, arg_val, opd, opds, ofConst, leaf, rd_set, rd_nil, binV, intV, isConst, loadV, fieldAddrV, take?, put, flat, AV.cells, undF, aggF, infF, Nat.reduceEqDiff, Nat.reduceAdd, Nat.reduceLeDiff, reduceIte, reduceCtorEq, Bool.or_true, List.length_cons, List.length_nil, List.getElem?_cons_zero, List.getElem?_cons_succ, List.append_nil, List.drop_succ_cons, List.drop_zero, List.take_succ_cons, List.take_zero, List.set_cons_zero, List.set_cons_succ, beq_self_eq_true, Nat.zero_add, and_self, St.bump, storeV, Tr.get_set, Nat.add_assoc, Nat.add_left_cancel_iff, Nat.left_eq_add, Nat.add_eq_left, List.size_toArray, hf.hb, hf.h0, Int.cast_ofNat_Int, hfd]
        refine pc24.call (by simp [untok, AV.strip, AV.strip0, Go.Pv.goods, Go.Pv.good, goods_nat8]) H1 ?_
        simp only [↓cw_skip, ↓cw_ret, ↓cw_seq, ↓cw_cond, ↓cw_region, ↓then_normal, ↓block_normal, ↓draw_false, ↓draw_true, ↓ow_nil, ↓ow_cons, ↓ow_consG, ↓contO_eq, ↓op_move, ↓op_assign, ↓op_load, ↓op_store, ↓op_binOp, ↓op_fieldAddr, ↓op_extract, ↓op_pick, ↓ret_ret, ↓force_DC, ↓force_DOs, vW_some, pW_some, bW_true, bW_false, ifW_some, setD_some, setD_none, on1_some, on2_some, ldV_eq, stV, biV_eq, faV_eq, exV, pkV, resW, opd, ofConst, leaf, rd_set, rd_nil, binV, intV, isConst, loadV, fieldAddrV, take?, put, flat, AV.cells, hasStore, isStore, undF, aggF, infF, Nat.reduceEqDiff, Nat.reduceAdd, Nat.reduceLeDiff, reduceIte, reduceCtorEq, Bool.or_false, Bool.or_true, List.any, List.length_cons, List.length_nil, List.getElem?_cons_zero, List.getElem?_cons_succ, List.drop_succ_cons, List.drop_zero, List.take_succ_cons, List.take_zero, List.set_cons_zero, List.set_cons_succ, Nat.zero_add, and_self, St.bump, storeV, Tr.get_set, wantG, Option.bind, Nat.add_assoc, Nat.add_left_cancel_iff, Nat.left_eq_add, Nat.add_eq_left, force_DD, beqT, List.size_toArray, hf.hb, hf.h0, hne]
        refine ⟨okDrawD_4p 4 5 8 9 (by simp only [rd_set, rd_nil, Nat.reduceEqDiff, reduceIte, reduceCtorEq]; exact rfl) (by simp only [rd_set, rd_nil, Nat.reduceEqDiff, reduceIte, reduceCtorEq]; exact rfl) (by simp only [rd_set, rd_nil, Nat.reduceEqDiff, reduceIte, reduceCtorEq]; exact rfl) (by simp only [rd_set, rd_nil, Nat.reduceEqDiff, reduceIte, reduceCtorEq]; exact rfl) (by omega) (by omega) (by omega) (by omega) (by omega) (by omega) (by kernel_rfl), ?_⟩
        simp only [rd_set, rd_nil, loadV, take?, aggF, infF, resV, Nat.reduceEqDiff, Nat.reduceAdd, Nat.reduceLeDiff, reduceIte, reduceCtorEq, List.length_cons, List.length_nil, List.getElem?_cons_zero, List.drop_zero, List.take_succ_cons, List.take_zero, Nat.zero_add, Tr.get_set, Nat.add_left_cancel_iff, Nat.add_eq_left, hf.hb, Tryd.f43]
        simp [untok, AV.strip, AV.strip0]
      | ok x a2 m2 =>
        obtain ⟨b, z⟩ := x
        have hl2 := hrd _ _ _ _ _ _ h1 hm
        simp only [h1, ListV] at H1
        simp only [rav, Int.cast_ofNat_Int] at H1
        by_cases hz : z = 5
        · subst hz
          have H2 := H a2 m2 false (by omega) hl2.2.1 hl2.2.2
          simp only [if_true]
          cases h2 : rd a2 m2 false with
          | bad w e =>
            simp only [h2, ListV] at H2
            obtain ⟨he, m1, H2⟩ := H2
            simp only [rav, Int.cast_ofNat_Int] at H2
            simp only [RestOk]
            refine ⟨he, [.i .u8 op, .i .i64 0, .i .u32 0, .i .u32 0, .i .u8 k, .sl b.av 0, .sl [] 0, .sl [] 0], m1, rfl, rfl, ?_⟩
            refine pure_of (by simp [rav, Go.Pv.good, Go.Pv.goods, goods_nat8, L.goods]) ?_
            refine callW_of ft43 rfl (Nat.le_of_ble_eq_true rfl) ?_
            have hf : Fresh St.start := Fresh.start
            generalize St.start = σ at hf
            simp only [rav, iav]
            simp only [↓cw_seq, ↓cw_block, ↓cw_cond, ↓cw_region, ↓then_normal, ↓draw_false, ↓ow_nil, ↓ow_cons, ↓contO_eq, ↓op_move, ↓op_assign, ↓op_alloc, ↓op_box, ↓op_load, ↓op_binOp, ↓op_call, ↓force_DC, vW_some, pW_some, bW_true, bW_false, ifW_some, setD_some, allocV, boxV, on1_some, on2_some, ldV_eq, biV_eq, callV_some, arg_val, opd, opds, ofConst, leaf, rd_set, rd_nil, Fr.ofList, binV, intV, isConst, loadV, take?, flat, AV.cells, aggF, infF, Nat.reduceEqDiff, Nat.reduceAdd, Nat.reduceLeDiff, reduceIte, reduceCtorEq, Bool.or_true, List.length_cons, List.length_nil, List.getElem?_cons_zero, List.append_nil, List.drop_zero, List.take_succ_cons, List.take_zero, Int.reduceBEq, beq_self_eq_true, Nat.add_zero, Nat.zero_add, and_self, newBox, St.bump, Tr.get_set, Nat.add_assoc, Nat.add_left_cancel_iff, Nat.left_eq_add, Nat.add_eq_left, boxFree, List.size_toArray, hf.hb, hf.h0, Int.cast_ofNat_Int]
            refine pc63.call (by simp [untok, AV.strip, AV.strip0, Go.Pv.goods, Go.Pv.good, goods_nat8]) hw ?_
            simp only [↓cw_seq, ↓cw_cond, ↓cw_region, ↓then_normal, ↓draw_false, ↓ow_nil, ↓ow_cons, ↓contO_eq, ↓op_move, ↓op_load, ↓op_store, ↓op_binOp, ↓op_fieldAddr, ↓op_extract, ↓op_call, ↓force_DC, vW_some, pW_some, bW_true, ifW_some, setD_some, setD_none, on1_some, on2_some, ldV_eq, stV, biV_eq, faV_eq, exV, callV_some, arg_val, opd, opds, ofConst, leaf, rd_set, rd_nil, binV, intV, isConst, loadV, fieldAddrV, take?, put, flat, AV.cells, undF, aggF, infF, Nat.reduceEqDiff, Nat.reduceAdd, Nat.reduceLeDiff, reduceIte, reduceCtorEq, Bool.or_true, List.length_cons, List.length_nil, List.getElem?_cons_zero, List.getElem?_cons_succ, List.append_nil, List.drop_succ_cons, List.drop_zero, List.take_succ_cons, List.take_zero, List.set_cons_zero, List.set_cons_succ, beq_self_eq_true, Nat.zero_add, and_self, St.bump, storeV, Tr.get_set, Nat.add_assoc, Nat.add_left_cancel_iff, Nat.left_eq_add, Nat.add_eq_left, List.size_toArray, hf.hb, hf.h0, Int.cast_ofNat_Int, hfd]
            refine pc24.call (by simp [untok, AV.strip, AV.strip0, Go.Pv.goods, Go.Pv.good, goods_nat8]) H1 ?_
            simp only [↓cw_seq, ↓cw_cond, ↓cw_region, ↓then_normal, ↓draw_false, ↓ow_nil, ↓ow_cons, ↓ow_consG, ↓contO_eq, ↓op_move, ↓op_assign, ↓op_load, ↓op_store, ↓op_binOp, ↓op_fieldAddr, ↓op_extract, ↓op_pick, ↓op_call, ↓force_DC, ↓force_DO, vW_some, pW_some, bW_true, ifW_some, setD_some, setD_none, on1_some, on2_some, ldV_eq, stV, biV_eq, faV_eq, exV, pkV, callV_some, arg_val, opd, opds, ofConst, leaf, rd_set, rd_nil, binV, intV, isConst, loadV, fieldAddrV, take?, put, flat, AV.cells, undF, aggF, infF, Nat.reduceEqDiff, Nat.reduceAdd, Nat.reduceLeDiff, reduceIte, reduceCtorEq, Bool.or_true, List.length_cons, List.length_nil, List.getElem?_cons_zero, List.getElem?_cons_succ, List.append_nil, List.drop_succ_cons, List.drop_zero, List.take_succ_cons, List.take_zero, List.set_cons_zero, List.set_cons_succ, beq_self_eq_true, Nat.zero_add, and_self, St.bump, storeV, Tr.get_set, wantG, Option.bind, Nat.add_assoc, Nat.add_left_cancel_iff, Nat.left_eq_add, Nat.add_eq_left, List.size_toArray, hf.hb, hf.h0, Int.cast_ofNat_Int, hfd]
            refine pc24.call (by simp [untok, AV.strip, AV.strip0, Go.Pv.goods, Go.Pv.good, goods_nat8]) H2 ?_
            simp only [↓cw_ret, ↓cw_seq, ↓cw_region, ↓then_normal, ↓block_normal, ↓draw_false, ↓draw_true, ↓ow_nil, ↓ow_cons, ↓contO_eq, ↓op_move, ↓op_load, ↓op_store, ↓op_fieldAddr, ↓op_extract, ↓ret_ret, vW_some, pW_some, bW_true, setD_some, setD_none, on1_some, ldV_eq, stV, faV_eq, exV, resW, opd, rd_set, rd_nil, loadV, fieldAddrV, take?, put, flat, AV.cells, hasStore, isStore, undF, aggF, infF, Nat.reduceEqDiff, Nat.reduceAdd, Nat.reduceLeDiff, reduceIte, reduceCtorEq, Bool.or_false, Bool.or_true, List.any, List.length_cons, List.length_nil, List.getElem?_cons_zero, List.getElem?_cons_succ, List.drop_zero, List.take_succ_cons, List.take_zero, List.set_cons_zero, List.set_cons_succ, Nat.zero_add, and_self, St.bump, storeV, Tr.get_set, Nat.add_assoc, Nat.add_left_cancel_iff, Nat.left_eq_add, Nat.add_eq_left, force_DD, List.size_toArray, hf.hb, hf.h0]
            refine ⟨okDrawD_4p 4 5 8 9 (by simp only [rd_set, rd_nil, Nat.reduceEqDiff, reduceIte, reduceCtorEq]; exact rfl) (by simp only [rd_set, rd_nil, Nat.reduceEqDiff, reduceIte, reduceCtorEq]; exact rfl) (by simp only [rd_set, rd_nil, Nat.reduceEqDiff, reduceIte, reduceCtorEq]; exact rfl) (by simp only [rd_set, rd_nil, Nat.reduceEqDiff, reduceIte, reduceCtorEq]; exact rfl) (by omega) (by omega) (by omega) (by omega) (by omega) (by omega) (by kernel_rfl), ?_⟩
            simp only [rd_set, rd_nil, loadV, take?, aggF, infF, resV, Nat.reduceEqDiff, Nat.reduceAdd, Nat.reduceLeDiff, reduceIte, reduceCtorEq, List.length_cons, List.length_nil, List.getElem?_cons_zero, List.drop_zero, List.take_succ_cons, List.take_zero, Nat.zero_add, Tr.get_set, Nat.add_left_cancel_iff, Nat.add_eq_left, hf.hb, Tryd.f43]
            simp [untok, AV.strip, AV.strip0]
          | ok y a3 m3 =>
            obtain ⟨e, z2⟩ := y
            simp only [h2, ListV] at H2
            simp only [rav, Int.cast_ofNat_Int] at H2
            simp only [RestOk]
            refine pure_of (by simp [rav, Ins.av, good_iav, Go.Pv.good, Go.Pv.goods, goods_nat8]) ?_
            refine callW_of ft43 rfl (Nat.le_of_ble_eq_true rfl) ?_
            have hf : Fresh St.start := Fresh.start
            generalize St.start = σ at hf
            simp only [rav, iav]
            simp only [↓cw_seq, ↓cw_block, ↓cw_cond, ↓cw_region, ↓then_normal, ↓draw_false, ↓ow_nil, ↓ow_cons, ↓contO_eq, ↓op_move, ↓op_assign, ↓op_alloc, ↓op_box, ↓op_load, ↓op_binOp, ↓op_call, ↓force_DC, vW_some, pW_some, bW_true, bW_false, ifW_some, setD_some, allocV, boxV, on1_some, on2_some, ldV_eq, biV_eq, callV_some, arg_val, opd, opds, ofConst, leaf, rd_set, rd_nil, Fr.ofList, binV, intV, isConst, loadV, take?, flat, AV.cells, aggF, infF, Nat.reduceEqDiff, Nat.reduceAdd, Nat.reduceLeDiff, reduceIte, reduceCtorEq, Bool.or_true, List.length_cons, List.length_nil, List.getElem?_cons_zero, List.append_nil, List.drop_zero, List.take_succ_cons, List.take_zero, Int.reduceBEq, beq_self_eq_true, Nat.add_zero, Nat.zero_add, and_self, newBox, St.bump, Tr.get_set, Nat.add_assoc, Nat.add_left_cancel_iff, Nat.left_eq_add, Nat.add_eq_left, boxFree, List.size_toArray, hf.hb, hf.h0, Int.cast_ofNat_Int]
            refine pc63.call (by simp [untok, AV.strip, AV.strip0, Go.Pv.goods, Go.Pv.good, goods_nat8]) hw ?_
            simp only [↓cw_seq, ↓cw_cond, ↓cw_region, ↓then_normal, ↓draw_false, ↓ow_nil, ↓ow_cons, ↓contO_eq, ↓op_move, ↓op_load, ↓op_store, ↓op_binOp, ↓op_fieldAddr, ↓op_extract, ↓op_call, ↓force_DC, vW_some, pW_some, bW_true, ifW_some, setD_some, setD_none, on1_some, on2_some, ldV_eq, stV, biV_eq, faV_eq, exV, callV_some, arg_val, opd, opds, ofConst, leaf, rd_set, rd_nil, binV, intV, isConst, loadV, fieldAddrV, take?, put, flat, AV.cells, undF, aggF, infF, Nat.reduceEqDiff, Nat.reduceAdd, Nat.reduceLeDiff, reduceIte, reduceCtorEq, Bool.or_true, List.length_cons, List.length_nil, List.getElem?_cons_zero, List.getElem?_cons_succ, List.append_nil, List.drop_succ_cons, List.drop_zero, List.take_succ_cons, List.take_zero, List.set_cons_zero, List.set_cons_succ, beq_self_eq_true, Nat.zero_add, and_self, St.bump, storeV, Tr.get_set, Nat.add_assoc, Nat.add_left_cancel_iff, Nat.left_eq_add, Nat.add_eq_left, List.size_toArray, hf.hb, hf.h0, Int.cast_ofNat_Int, hfd]
            refine pc24.call (by simp [untok, AV.strip, AV.strip0, Go.Pv.goods, Go.Pv.good, goods_nat8]) H1 ?_
            simp only [↓cw_seq, ↓cw_cond, ↓cw_region, ↓then_normal, ↓draw_false, ↓ow_nil, ↓ow_cons, ↓ow_consG, ↓contO_eq, ↓op_move, ↓op_assign, ↓op_load, ↓op_store, ↓op_binOp, ↓op_fieldAddr, ↓op_extract, ↓op_pick, ↓op_call, ↓force_DC, ↓force_DO, vW_some, pW_some, bW_true, ifW_some, setD_some, setD_none, on1_some, on2_some, ldV_eq, stV, biV_eq, faV_eq, exV, pkV, callV_some, arg_val, opd, opds, ofConst, leaf, rd_set, rd_nil, binV, intV, isConst, loadV, fieldAddrV, take?, put, flat, AV.cells, undF, aggF, infF, Nat.reduceEqDiff, Nat.reduceAdd, Nat.reduceLeDiff, reduceIte, reduceCtorEq, Bool.or_true, List.length_cons, List.length_nil, List.getElem?_cons_zero, List.getElem?_cons_succ, List.append_nil, List.drop_succ_cons, List.drop_zero, List.take_succ_cons, List.take_zero, List.set_cons_zero, List.set_cons_succ, beq_self_eq_true, Nat.zero_add, and_self, St.bump, storeV, Tr.get_set, wantG, Option.bind, Nat.add_assoc, Nat.add_left_cancel_iff, Nat.left_eq_add, Nat.add_eq_left, List.size_toArray, hf.hb, hf.h0, Int.cast_ofNat_Int, hfd]
            refine pc24.call (by simp [untok, AV.strip, AV.strip0, Go.Pv.goods, Go.Pv.good, goods_nat8]) H2 ?_
            simp only [↓cw_ret, ↓cw_seq, ↓cw_region, ↓then_normal, ↓block_normal, ↓draw_false, ↓draw_true, ↓ow_nil, ↓ow_cons, ↓contO_eq, ↓op_move, ↓op_load, ↓op_store, ↓op_fieldAddr, ↓op_extract, ↓ret_ret, vW_some, pW_some, bW_true, setD_some, setD_none, on1_some, ldV_eq, stV, faV_eq, exV, resW, opd, rd_set, rd_nil, loadV, fieldAddrV, take?, put, flat, AV.cells, hasStore, isStore, undF, aggF, infF, Nat.reduceEqDiff, Nat.reduceAdd, Nat.reduceLeDiff, reduceIte, reduceCtorEq, Bool.or_false, Bool.or_true, List.any, List.length_cons, List.length_nil, List.getElem?_cons_zero, List.getElem?_cons_succ, List.drop_zero, List.take_succ_cons, List.take_zero, List.set_cons_zero, List.set_cons_succ, Nat.zero_add, and_self, St.bump, storeV, Tr.get_set, Nat.add_assoc, Nat.add_left_cancel_iff, Nat.left_eq_add, Nat.add_eq_left, force_DD, List.size_toArray, hf.hb, hf.h0]
            refine ⟨okDrawD_4p 4 5 8 9 (by simp only [rd_set, rd_nil, Nat.reduceEqDiff, reduceIte, reduceCtorEq]; exact rfl) (by simp only [rd_set, rd_nil, Nat.reduceEqDiff, reduceIte, reduceCtorEq]; exact rfl) (by simp only [rd_set, rd_nil, Nat.reduceEqDiff, reduceIte, reduceCtorEq]; exact rfl) (by simp only [rd_set, rd_nil, Nat.reduceEqDiff, reduceIte, reduceCtorEq]; exact rfl) (by omega) (by omega) (by omega) (by omega) (by omega) (by omega) (by kernel_rfl), ?_⟩
            simp only [rd_set, rd_nil, loadV, take?, aggF, infF, resV, Nat.reduceEqDiff, Nat.reduceAdd, Nat.reduceLeDiff, reduceIte, reduceCtorEq, List.length_cons, List.length_nil, List.getElem?_cons_zero, List.drop_zero, List.take_succ_cons, List.take_zero, Nat.zero_add, Tr.get_set, Nat.add_left_cancel_iff, Nat.add_eq_left, hf.hb, Tryd.f43]
            simp [untok, AV.strip, AV.strip0, Ins.av, iav, u32s]
        · have hz5 : ((z : Int) == 5) = false := by rw [beq_eq_false_iff_ne]; omega
          simp only [if_neg hz, RestOk]
          refine pure_of (by simp [rav, Ins.av, good_iav, Go.Pv.good, Go.Pv.goods, goods_nat8]) ?_
          refine callW_of ft43 rfl (Nat.le_of_ble_eq_true rfl) ?_
          have hf : Fresh St.start := Fresh.start
          generalize St.start = σ at hf
          simp only [rav, iav]
          simp only [↓cw_seq, ↓cw_block, ↓cw_cond, ↓cw_region, ↓then_normal, ↓draw_false, ↓ow_nil, ↓ow_cons, ↓contO_eq, ↓op_move, ↓op_assign, ↓op_alloc, ↓op_box, ↓op_load, ↓op_binOp, ↓op_call, ↓force_DC, vW_some, pW_some, bW_true, bW_false, ifW_some, setD_some, allocV, boxV, on1_some, on2_some, ldV_eq, biV_eq, callV_some, arg_val, opd, opds, ofConst, leaf, rd_set, rd_nil, Fr.ofList, binV, intV, isConst, loadV, take?, flat, AV.cells, aggF, infF, Nat.reduceEqDiff, Nat.reduceAdd, Nat.reduceLeDiff, reduceIte, reduceCtorEq, Bool.or_true, List.length_cons, List.length_nil, List.getElem?_cons_zero, List.append_nil, List.drop_zero, List.take_succ_cons, List.take_zero, Int.reduceBEq, beq_self_eq_true, Nat.add_zero, Nat.zero_add, and_self, newBox, St.bump, Tr.get_set, Nat.add_assoc, Nat.add_left_cancel_iff, Nat.left_eq_add, Nat.add_eq_left, boxFree, List.size_toArray, hf.hb, hf.h0, Int.cast_ofNat_Int]
          refine pc63.call (by simp [untok, AV.strip, AV.strip0, Go.Pv.goods, Go.Pv.good, goods_nat8]) hw ?_
          simp only [↓cw_seq, ↓cw_cond, ↓cw_region, ↓then_normal, ↓draw_false, ↓ow_nil, ↓ow_cons, ↓contO_eq, ↓op_move, ↓op_load, ↓op_store, ↓op_binOp, ↓op_fieldAddr, ↓op_extract, ↓op_call, ↓force_DC, vW_some, pW_some, bW_true, ifW_some, setD_some, setD_none, on1_some, on2_some, ldV_eq, stV, biV_eq, faV_eq, exV, callV_some, arg_val, opd, opds, ofConst, leaf, rd_set, rd_nil, binV, intV, isConst, loadV, fieldAddrV, take?, put, flat, AV.cells, undF, aggF, infF, Nat.reduceEqDiff, Nat.reduceAdd, Nat.reduceLeDiff, reduceIte, reduceCtorEq, Bool.or_true, List.length_cons, List.length_nil, List.getElem?_cons_zero, List.getElem?_cons_succ, List.append_nil, List.drop_succ_cons, List.drop_zero, List.take_succ_cons, List.take_zero, List.set_cons_zero, List.set_cons_succ, beq_self_eq_true, Nat.zero_add, and_self, St.bump, storeV, Tr.get_set, Nat.add_assoc, Nat.add_left_cancel_iff, Nat.left_eq_add, Nat.add_eq_left, List.size_toArray, hf.hb, hf.h0, Int.cast_ofNat_Int, hfd]
          refine pc24.call (by simp [untok, AV.strip, AV.strip0, Go.Pv.goods, Go.Pv.good, goods_nat8]) H1 ?_
          simp only [↓cw_skip, ↓cw_ret, ↓cw_seq, ↓cw_cond, ↓cw_region, ↓then_normal, ↓block_normal, ↓draw_false, ↓draw_true, ↓ow_nil, ↓ow_cons, ↓ow_consG, ↓contO_eq, ↓op_move, ↓op_assign, ↓op_load, ↓op_store, ↓op_binOp, ↓op_fieldAddr, ↓op_extract, ↓op_pick, ↓ret_ret, ↓force_DC, ↓force_DO, vW_some, pW_some, bW_true, bW_false, ifW_some, setD_some, setD_none, on1_some, on2_some, ldV_eq, stV, biV_eq, faV_eq, exV, pkV, resW, opd, ofConst, leaf, rd_set, rd_nil, binV, intV, isConst, loadV, fieldAddrV, take?, put, flat, AV.cells, hasStore, isStore, undF, aggF, infF, Nat.reduceEqDiff, Nat.reduceAdd, Nat.reduceLeDiff, reduceIte, reduceCtorEq, Bool.or_false, Bool.or_true, List.any, List.length_cons, List.length_nil, List.getElem?_cons_zero, List.getElem?_cons_succ, List.drop_succ_cons, List.drop_zero, List.take_succ_cons, List.take_zero, List.set_cons_zero, List.set_cons_succ, beq_self_eq_true, Nat.zero_add, and_self, St.bump, storeV, Tr.get_set, wantG, Option.bind, Nat.add_assoc, Nat.add_left_cancel_iff, Nat.left_eq_add, Nat.add_eq_left, force_DD, List.size_toArray, hf.hb, hf.h0, hz5]
          refine ⟨okDrawD_4p 4 5 8 9 (by simp only [rd_set, rd_nil, Nat.reduceEqDiff, reduceIte, reduceCtorEq]; exact rfl) (by simp only [rd_set, rd_nil, Nat.reduceEqDiff, reduceIte, reduceCtorEq]; exact rfl) (by simp only [rd_set, rd_nil, Nat.reduceEqDiff, reduceIte, reduceCtorEq]; exact rfl) (by simp only [rd_set, rd_nil, Nat.reduceEqDiff, reduceIte, reduceCtorEq]; exact rfl) (by omega) (by omega) (by omega) (by omega) (by omega) (by omega) (by kernel_rfl), ?_⟩
          simp only [rd_set, rd_nil, loadV, take?, aggF, infF, resV, Nat.reduceEqDiff, Nat.reduceAdd, Nat.reduceLeDiff, reduceIte, reduceCtorEq, List.length_cons, List.length_nil, List.getElem?_cons_zero, List.drop_zero, List.take_succ_cons, List.take_zero, Nat.zero_add, Tr.get_set, Nat.add_left_cancel_iff, Nat.add_eq_left, hf.hb, Tryd.f43]
          simp [untok, AV.strip, AV.strip0, Ins.av, iav, L.av, u32s]
  · obtain ⟨es, hw⟩ := w_rlabels bs a m hb ha
    cases hr : rdL bs a with
    | ok v a1 =>
      simp only [Nat.reduceEqDiff, if_true, if_false, Rp.lift, RestOk]
      refine pure_of (by simp [rav, Ins.av, good_iav, Go.Pv.good, Go.Pv.goods, goods_nat8]) ?_
      refine callW_of ft43 rfl (Nat.le_of_ble_eq_true rfl) ?_
      have hf : Fresh St.start := Fresh.start
      generalize St.start = σ at hf
      simp only [rav, iav]
      simp only [↓cw_seq, ↓cw_block, ↓cw_cond, ↓cw_region, ↓then_normal, ↓draw_false, ↓ow_nil, ↓ow_cons, ↓contO_eq, ↓op_move, ↓op_assign, ↓op_alloc, ↓op_box, ↓op_load, ↓op_binOp, ↓op_call, ↓force_DC, vW_some, pW_some, bW_true, bW_false, ifW_some, setD_some, allocV, boxV, on1_some, on2_some, ldV_eq, biV_eq, callV_some, arg_val, opd, opds, ofConst, leaf, rd_set, rd_nil, Fr.ofList, binV, intV, isConst, loadV, take?, flat, AV.cells, aggF, infF, Nat.reduceEqDiff, Nat.reduceAdd, Nat.reduceLeDiff, reduceIte, reduceCtorEq, Bool.or_true, List.length_cons, List.length_nil, List.getElem?_cons_zero, List.append_nil, List.drop_zero, List.take_succ_cons, List.take_zero, Int.reduceBEq, beq_self_eq_true, Nat.add_zero, Nat.zero_add, and_self, newBox, St.bump, Tr.get_set, Nat.add_assoc, Nat.add_left_cancel_iff, Nat.left_eq_add, Nat.add_eq_left, boxFree, List.size_toArray, hf.hb, hf.h0, Int.cast_ofNat_Int]
      simp only [hr, labV, rav] at hw
      refine pc62.call (by simp [untok, AV.strip, AV.strip0, Go.Pv.goods, Go.Pv.good, goods_nat8]) hw ?_
      simp only [↓cw_ret, ↓cw_seq, ↓cw_region, ↓then_normal, ↓block_normal, ↓draw_false, ↓draw_true, ↓ow_nil, ↓ow_cons, ↓contO_eq, ↓op_move, ↓op_load, ↓op_store, ↓op_fieldAddr, ↓op_extract, ↓ret_ret, vW_some, pW_some, bW_true, setD_some, setD_none, on1_some, ldV_eq, stV, faV_eq, exV, resW, opd, rd_set, rd_nil, loadV, fieldAddrV, take?, put, flat, AV.cells, hasStore, isStore, undF, aggF, infF, Nat.reduceEqDiff, Nat.reduceAdd, Nat.reduceLeDiff, reduceIte, reduceCtorEq, Bool.or_false, Bool.or_true, List.any, List.length_cons, List.length_nil, List.getElem?_cons_zero, List.getElem?_cons_succ, List.drop_zero, List.take_succ_cons, List.take_zero, List.set_cons_zero, List.set_cons_succ, Nat.zero_add, and_self, St.bump, storeV, Tr.get_set, Nat.add_assoc, Nat.add_left_cancel_iff, Nat.left_eq_add, Nat.add_eq_left, force_DD, List.size_toArray, hf.hb, hf.h0, Int.cast_ofNat_Int]
      refine ⟨okDrawD_4p 4 5 8 9 (by simp only [rd_set, rd_nil, Nat.reduceEqDiff, reduceIte, reduceCtorEq]; exact rfl) (by simp only [rd_set, rd_nil, Nat.reduceEqDiff, reduceIte, reduceCtorEq]; exact rfl) (by simp only [rd_set, rd_nil, Nat.reduceEqDiff, reduceIte, reduceCtorEq]; exact rfl) (by simp only [rd_set, rd_nil, Nat.reduceEqDiff, reduceIte, reduceCtorEq]; exact rfl) (by omega) (by omega) (by omega) (by omega) (by omega) (by omega) (by kernel_rfl), ?_⟩
      simp only [rd_set, rd_nil, loadV, take?, aggF, infF, resV, Nat.reduceEqDiff, Nat.reduceAdd, Nat.reduceLeDiff, reduceIte, reduceCtorEq, List.length_cons, List.length_nil, List.getElem?_cons_zero, List.drop_zero, List.take_succ_cons, List.take_zero, Nat.zero_add, Tr.get_set, Nat.add_left_cancel_iff, Nat.add_eq_left, hf.hb, Tryd.f43]
      simp [untok, AV.strip, AV.strip0, Ins.av, iav, L.av, u32s]
    | bad w e =>
      simp only [Nat.reduceEqDiff, if_true, if_false, Rp.lift, RestOk]
      refine ⟨rdL_err hr, [.i .u8 op, .i .i64 0, .i .u32 0, .i .u32 0, .i .u8 0, .sl [] 0, .sl [] 0, .sl (u32s es) 0], m, rfl, rfl, ?_⟩
      refine pure_of (by simp [rav, Go.Pv.good, Go.Pv.goods, goods_nat8, goods_u32s]) ?_
      refine callW_of ft43 rfl (Nat.le_of_ble_eq_true rfl) ?_
      have hf : Fresh St.start := Fresh.start
      generalize St.start = σ at hf
      simp only [rav, iav]
      simp only [↓cw_seq, ↓cw_block, ↓cw_cond, ↓cw_region, ↓then_normal, ↓draw_false, ↓ow_nil, ↓ow_cons, ↓contO_eq, ↓op_move, ↓op_assign, ↓op_alloc, ↓op_box, ↓op_load, ↓op_binOp, ↓op_call, ↓force_DC, vW_some, pW_some, bW_true, bW_false, ifW_some, setD_some, allocV, boxV, on1_some, on2_some, ldV_eq, biV_eq, callV_some, arg_val, opd, opds, ofConst, leaf, rd_set, rd_nil, Fr.ofList, binV, intV, isConst, loadV, take?, flat, AV.cells, aggF, infF, Nat.reduceEqDiff, Nat.reduceAdd, Nat.reduceLeDiff, reduceIte, reduceCtorEq, Bool.or_true, List.length_cons, List.length_nil, List.getElem?_cons_zero, List.append_nil, List.drop_zero, List.take_succ_cons, List.take_zero, Int.reduceBEq, beq_self_eq_true, Nat.add_zero, Nat.zero_add, and_self, newBox, St.bump, Tr.get_set, Nat.add_assoc, Nat.add_left_cancel_iff, Nat.left_eq_add, Nat.add_eq_left, boxFree, List.size_toArray, hf.hb, hf.h0, Int.cast_ofNat_Int]
      simp only [hr, labV, rav] at hw
      refine pc62.call (by simp [untok, AV.strip, AV.strip0, Go.Pv.goods, Go.Pv.good, goods_nat8]) hw ?_
      simp only [↓cw_ret, ↓cw_seq, ↓cw_region, ↓then_normal, ↓block_normal, ↓draw_false, ↓draw_true, ↓ow_nil, ↓ow_cons, ↓contO_eq, ↓op_move, ↓op_load, ↓op_store, ↓op_fieldAddr, ↓op_extract, ↓ret_ret, vW_some, pW_some, bW_true, setD_some, setD_none, on1_some, ldV_eq, stV, faV_eq, exV, resW, opd, rd_set, rd_nil, loadV, fieldAddrV, take?, put, flat, AV.cells, hasStore, isStore, undF, aggF, infF, Nat.reduceEqDiff, Nat.reduceAdd, Nat.reduceLeDiff, reduceIte, reduceCtorEq, Bool.or_false, Bool.or_true, List.any, List.length_cons, List.length_nil, List.getElem?_cons_zero, List.getElem?_cons_succ, List.drop_zero, List.take_succ_cons, List.take_zero, List.set_cons_zero, List.set_cons_succ, Nat.zero_add, and_self, St.bump, storeV, Tr.get_set, Nat.add_assoc, Nat.add_left_cancel_iff, Nat.left_eq_add, Nat.add_eq_left, force_DD, List.size_toArray, hf.hb, hf.h0]
      refine ⟨okDrawD_4p 4 5 8 9 (by simp only [rd_set, rd_nil, Nat.reduceEqDiff, reduceIte, reduceCtorEq]; exact rfl) (by simp only [rd_set, rd_nil, Nat.reduceEqDiff, reduceIte, reduceCtorEq]; exact rfl) (by simp only [rd_set, rd_nil, Nat.reduceEqDiff, reduceIte, reduceCtorEq]; exact rfl) (by simp only [rd_set, rd_nil, Nat.reduceEqDiff, reduceIte, reduceCtorEq]; exact rfl) (by omega) (by omega) (by omega) (by omega) (by omega) (by omega) (by kernel_rfl), ?_⟩
      simp only [rd_set, rd_nil, loadV, take?, aggF, infF, resV, Nat.reduceEqDiff, Nat.reduceAdd, Nat.reduceLeDiff, reduceIte, reduceCtorEq, List.length_cons, List.length_nil, List.getElem?_cons_zero, List.drop_zero, List.take_succ_cons, List.take_zero, Nat.zero_add, Tr.get_set, Nat.add_left_cancel_iff, Nat.add_eq_left, hf.hb, Tryd.f43]
      simp [untok, AV.strip, AV.strip0, u32s]
  · have hw := w_number bs a m ha hb
    cases hr : rdU bs a with
    | ok v a1 =>
      have hl := rdU_len hr
      have hfv : fw .i64 (v : Int) = (v : Int) := fw_nat (by omega)
      have hw2 := w_rnought bs a1 m hb hl.2.1
      cases hr2 : rdZ bs a1 with
      | ok u a2 =>
        simp only [Nat.reduceEqDiff, if_true, if_false, or_self, hr2, Rp.lift, RestOk]
        refine pure_of (by simp [rav, Ins.av, good_iav, Go.Pv.good, Go.Pv.goods, goods_nat8]) ?_
        refine callW_of ft43 rfl (Nat.le_of_ble_eq_true rfl) ?_
        have hf : Fresh St.start := Fresh.start
        generalize St.start = σ at hf
        simp only [rav, iav]
        simp only [↓cw_seq, ↓cw_block, ↓cw_cond, ↓cw_region, ↓then_normal, ↓draw_false, ↓ow_nil, ↓ow_cons, ↓contO_eq, ↓op_move, ↓op_assign, ↓op_alloc, ↓op_box, ↓op_load, ↓op_binOp, ↓op_call, ↓force_DC, vW_some, pW_some, bW_true, bW_false, ifW_some, setD_some, allocV, boxV, on1_some, on2_some, ldV_eq, biV_eq, callV_some, arg_val, opd, opds, ofConst, leaf, rd_set, rd_nil, Fr.ofList, binV, intV, isConst, loadV, take?, flat, AV.cells, aggF, infF, Nat.reduceEqDiff, Nat.reduceAdd, Nat.reduceLeDiff, reduceIte, reduceCtorEq, Bool.or_true, List.length_cons, List.length_nil, List.getElem?_cons_zero, List.append_nil, List.drop_zero, List.take_succ_cons, List.take_zero, Int.reduceBEq, beq_self_eq_true, Nat.add_zero, Nat.zero_add, and_self, newBox, St.bump, Tr.get_set, Nat.add_assoc, Nat.add_left_cancel_iff, Nat.left_eq_add, Nat.add_eq_left, boxFree, List.size_toArray, hf.hb, hf.h0, Int.cast_ofNat_Int]
        simp only [hr, hr2, numV, zrV, rav] at hw hw2
        refine pc60.call (by simp [untok, AV.strip, AV.strip0, Go.Pv.goods, Go.Pv.good, goods_nat8]) hw ?_
        simp only [↓cw_seq, ↓cw_cond, ↓cw_region, ↓then_normal, ↓draw_false, ↓ow_nil, ↓ow_cons, ↓contO_eq, ↓op_move, ↓op_assign, ↓op_alloc, ↓op_load, ↓op_store, ↓op_binOp, ↓op_convert, ↓op_fieldAddr, ↓op_extract, ↓op_call, ↓force_DC, vW_some, pW_some, bW_true, ifW_some, setD_some, setD_none, allocV, on1_some, on2_some, ldV_eq, stV, biV_eq, faV_eq, exV, callV_some, arg_val, opd, opds, ofConst, leaf, rd_set, rd_nil, binV, intV, convV, isConst, loadV, fieldAddrV, take?, put, flat, AV.cells, undF, aggF, infF, Nat.reduceEqDiff, Nat.reduceAdd, Nat.reduceLeDiff, reduceIte, reduceCtorEq, Bool.or_true, List.length_cons, List.length_nil, List.getElem?_cons_zero, List.getElem?_cons_succ, List.append_nil, List.drop_zero, List.take_succ_cons, List.take_zero, List.set_cons_zero, List.set_cons_succ, beq_self_eq_true, Nat.zero_add, and_self, newBox, St.bump, storeV, Tr.get_set, Nat.add_assoc, Nat.add_left_cancel_iff, Nat.left_eq_add, Nat.add_eq_left, boxFree, List.size_toArray, hf.hb, hf.h0, Int.cast_ofNat_Int, hfv]
        refine pc61.call (by simp [untok, AV.strip, AV.strip0, Go.Pv.goods, Go.Pv.good, goods_nat8]) hw2 ?_
        simp only [↓cw_ret, ↓cw_seq, ↓cw_region, ↓then_normal, ↓block_normal, ↓draw_false, ↓draw_true, ↓ow_nil, ↓ow_cons, ↓contO_eq, ↓op_load, ↓op_store, ↓ret_ret, vW_some, pW_some, bW_true, setD_some, setD_none, on1_some, ldV_eq, stV, resW, opd, rd_set, rd_nil, loadV, take?, put, flat, AV.cells, hasStore, isStore, aggF, infF, Nat.reduceEqDiff, Nat.reduceAdd, Nat.reduceLeDiff, reduceIte, reduceCtorEq, Bool.or_false, Bool.or_true, List.any, List.length_cons, List.length_nil, List.getElem?_cons_zero, List.drop_zero, List.take_succ_cons, List.take_zero, List.set_cons_zero, List.set_cons_succ, Nat.zero_add, and_self, St.bump, storeV, Tr.get_set, Nat.add_assoc, Nat.add_left_cancel_iff, Nat.left_eq_add, Nat.add_eq_left, force_DD, List.size_toArray, hf.hb, hf.h0, Int.cast_ofNat_Int]
        refine ⟨okDrawD_4p 4 5 8 9 (by simp only [rd_set, rd_nil, Nat.reduceEqDiff, reduceIte, reduceCtorEq]; exact rfl) (by simp only [rd_set, rd_nil, Nat.reduceEqDiff, reduceIte, reduceCtorEq]; exact rfl) (by simp only [rd_set, rd_nil, Nat.reduceEqDiff, reduceIte, reduceCtorEq]; exact rfl) (by simp only [rd_set, rd_nil, Nat.reduceEqDiff, reduceIte, reduceCtorEq]; exact rfl) (by omega) (by omega) (by omega) (by omega) (by omega) (by omega) (by kernel_rfl), ?_⟩
        simp only [rd_set, rd_nil, loadV, take?, aggF, infF, resV, Nat.reduceEqDiff, Nat.reduceAdd, Nat.reduceLeDiff, reduceIte, reduceCtorEq, List.length_cons, List.length_nil, List.getElem?_cons_zero, List.drop_zero, List.take_succ_cons, List.take_zero, Nat.zero_add, Tr.get_set, Nat.add_left_cancel_iff, Nat.add_eq_left, hf.hb, Tryd.f43]
        simp [untok, AV.strip, AV.strip0, Ins.av, iav, L.av, u32s]
      | bad w e =>
        simp only [Nat.reduceEqDiff, if_true, if_false, or_self, hr2, Rp.lift, RestOk]
        refine ⟨rdZ_err hr2, [.i .u8 op, .i .i64 v, .i .u32 0, .i .u32 0, .i .u8 0, .sl [] 0, .sl [] 0, .sl [] 0], m, rfl, rfl, ?_⟩
        refine pure_of (by simp [rav, Go.Pv.good, Go.Pv.goods, goods_nat8]) ?_
        refine callW_of ft43 rfl (Nat.le_of_ble_eq_true rfl) ?_
        have hf : Fresh St.start := Fresh.start
        generalize St.start = σ at hf
        simp only [rav, iav]
        simp only [↓cw_seq, ↓cw_block, ↓cw_cond, ↓cw_region, ↓then_normal, ↓draw_false, ↓ow_nil, ↓ow_cons, ↓contO_eq, ↓op_move, ↓op_assign, ↓op_alloc, ↓op_box, ↓op_load, ↓op_binOp, ↓op_call, ↓force_DC, vW_some, pW_some, bW_true, bW_false, ifW_some, setD_some, allocV, boxV, on1_some, on2_some, ldV_eq, biV_eq, callV_some, arg_val, opd, opds, ofConst, leaf, rd_set, rd_nil, Fr.ofList, binV, intV, isConst, loadV, take?, flat, AV.cells, aggF, infF, Nat.reduceEqDiff, Nat.reduceAdd, Nat.reduceLeDiff, reduceIte, reduceCtorEq, Bool.or_true, List.length_cons, List.length_nil, List.getElem?_cons_zero, List.append_nil, List.drop_zero, List.take_succ_cons, List.take_zero, Int.reduceBEq, beq_self_eq_true, Nat.add_zero, Nat.zero_add, and_self, newBox, St.bump, Tr.get_set, Nat.add_assoc, Nat.add_left_cancel_iff, Nat.left_eq_add, Nat.add_eq_left, boxFree, List.size_toArray, hf.hb, hf.h0, Int.cast_ofNat_Int]
        simp only [hr, hr2, numV, zrV, rav] at hw hw2
        refine pc60.call (by simp [untok, AV.strip, AV.strip0, Go.Pv.goods, Go.Pv.good, goods_nat8]) hw ?_
        simp only [↓cw_seq, ↓cw_cond, ↓cw_region, ↓then_normal, ↓draw_false, ↓ow_nil, ↓ow_cons, ↓contO_eq, ↓op_move, ↓op_assign, ↓op_alloc, ↓op_load, ↓op_store, ↓op_binOp, ↓op_convert, ↓op_fieldAddr, ↓op_extract, ↓op_call, ↓force_DC, vW_some, pW_some, bW_true, ifW_some, setD_some, setD_none, allocV, on1_some, on2_some, ldV_eq, stV, biV_eq, faV_eq, exV, callV_some, arg_val, opd, opds, ofConst, leaf, rd_set, rd_nil, binV, intV, convV, isConst, loadV, fieldAddrV, take?, put, flat, AV.cells, undF, aggF, infF, Nat.reduceEqDiff, Nat.reduceAdd, Nat.reduceLeDiff, reduceIte, reduceCtorEq, Bool.or_true, List.length_cons, List.length_nil, List.getElem?_cons_zero, List.getElem?_cons_succ, List.append_nil, List.drop_zero, List.take_succ_cons, List.take_zero, List.set_cons_zero, List.set_cons_succ, beq_self_eq_true, Nat.zero_add, and_self, newBox, St.bump, storeV, Tr.get_set, Nat.add_assoc, Nat.add_left_cancel_iff, Nat.left_eq_add, Nat.add_eq_left, boxFree, List.size_toArray, hf.hb, hf.h0, Int.cast_ofNat_Int, hfv]
        refine pc61.call (by simp [untok, AV.strip, AV.strip0, Go.Pv.goods, Go.Pv.good, goods_nat8]) hw2 ?_
        simp only [↓cw_ret, ↓cw_seq, ↓cw_region, ↓then_normal, ↓block_normal, ↓draw_false, ↓draw_true, ↓ow_nil, ↓ow_cons, ↓contO_eq, ↓op_load, ↓op_store, ↓ret_ret, vW_some, pW_some, bW_true, setD_some, setD_none, on1_some, ldV_eq, stV, resW, opd, rd_set, rd_nil, loadV, take?, put, flat, AV.cells, hasStore, isStore, aggF, infF, Nat.reduceEqDiff, Nat.reduceAdd, Nat.reduceLeDiff, reduceIte, reduceCtorEq, Bool.or_false, Bool.or_true, List.any, List.length_cons, List.length_nil, List.getElem?_cons_zero, List.drop_zero, List.take_succ_cons, List.take_zero, List.set_cons_zero, List.set_cons_succ, Nat.zero_add, and_self, St.bump, storeV, Tr.get_set, Nat.add_assoc, Nat.add_left_cancel_iff, Nat.left_eq_add, Nat.add_eq_left, force_DD, List.size_toArray, hf.hb, hf.h0]
        refine ⟨okDrawD_4p 4 5 8 9 (by simp only [rd_set, rd_nil, Nat.reduceEqDiff, reduceIte, reduceCtorEq]; exact rfl) (by simp only [rd_set, rd_nil, Nat.reduceEqDiff, reduceIte, reduceCtorEq]; exact rfl) (by simp only [rd_set, rd_nil, Nat.reduceEqDiff, reduceIte, reduceCtorEq]; exact rfl) (by simp only [rd_set, rd_nil, Nat.reduceEqDiff, reduceIte, reduceCtorEq]; exact rfl) (by omega) (by omega) (by omega) (by omega) (by omega) (by omega) (by kernel_rfl), ?_⟩
        simp only [rd_set, rd_nil, loadV, take?, aggF, infF, resV, Nat.reduceEqDiff, Nat.reduceAdd, Nat.reduceLeDiff, reduceIte, reduceCtorEq, List.length_cons, List.length_nil, List.getElem?_cons_zero, List.drop_zero, List.take_succ_cons, List.take_zero, Nat.zero_add, Tr.get_set, Nat.add_left_cancel_iff, Nat.add_eq_left, hf.hb, Tryd.f43]
        simp [untok, AV.strip, AV.strip0]
    | bad w e =>
      have he := rdU_err hr
      have hw2 := w_rnought_err bs w m e he
      simp only [Nat.reduceEqDiff, if_true, if_false, or_self, Rp.lift, RestOk]
      refine ⟨he, [.i .u8 op, .i .i64 0, .i .u32 0, .i .u32 0, .i .u8 0, .sl [] 0, .sl [] 0, .sl [] 0], m, rfl, rfl, ?_⟩
      refine pure_of (by simp [rav, Go.Pv.good, Go.Pv.goods, goods_nat8]) ?_
      refine callW_of ft43 rfl (Nat.le_of_ble_eq_true rfl) ?_
      have hf : Fresh St.start := Fresh.start
      generalize St.start = σ at hf
      simp only [rav, iav]
      simp only [↓cw_seq, ↓cw_block, ↓cw_cond, ↓cw_region, ↓then_normal, ↓draw_false, ↓ow_nil, ↓ow_cons, ↓contO_eq, ↓op_move, ↓op_assign, ↓op_alloc, ↓op_box, ↓op_load, ↓op_binOp, ↓op_call, ↓force_DC, vW_some, pW_some, bW_true, bW_false, ifW_some, setD_some, allocV, boxV, on1_some, on2_some, ldV_eq, biV_eq, callV_some, arg_val, opd, opds, ofConst, leaf, rd_set, rd_nil, Fr.ofList, binV, intV, isConst, loadV, take?, flat, AV.cells, aggF, infF, Nat.reduceEqDiff, Nat.reduceAdd, Nat.reduceLeDiff, reduceIte, reduceCtorEq, Bool.or_true, List.length_cons, List.length_nil, List.getElem?_cons_zero, List.append_nil, List.drop_zero, List.take_succ_cons, List.take_zero, Int.reduceBEq, beq_self_eq_true, Nat.add_zero, Nat.zero_add, and_self, newBox, St.bump, Tr.get_set, Nat.add_assoc, Nat.add_left_cancel_iff, Nat.left_eq_add, Nat.add_eq_left, boxFree, List.size_toArray, hf.hb, hf.h0, Int.cast_ofNat_Int]
      simp only [hr, numV, rav] at hw hw2
      refine pc60.call (by simp [untok, AV.strip, AV.strip0, Go.Pv.goods, Go.Pv.good, goods_nat8]) hw ?_
      simp only [↓cw_seq, ↓cw_cond, ↓cw_region, ↓then_normal, ↓draw_false, ↓ow_nil, ↓ow_cons, ↓contO_eq, ↓op_move, ↓op_assign, ↓op_alloc, ↓op_load, ↓op_store, ↓op_binOp, ↓op_convert, ↓op_fieldAddr, ↓op_extract, ↓op_call, ↓force_DC, vW_some, pW_some, bW_true, ifW_some, setD_some, setD_none, allocV, on1_some, on2_some, ldV_eq, stV, biV_eq, faV_eq, exV, callV_some, arg_val, opd, opds, ofConst, leaf, rd_set, rd_nil, binV, intV, convV, isConst, loadV, fieldAddrV, take?, put, flat, AV.cells, undF, aggF, infF, Nat.reduceEqDiff, Nat.reduceAdd, Nat.reduceLeDiff, reduceIte, reduceCtorEq, Bool.or_true, List.length_cons, List.length_nil, List.getElem?_cons_zero, List.getElem?_cons_succ, List.append_nil, List.drop_zero, List.take_succ_cons, List.take_zero, List.set_cons_zero, List.set_cons_succ, beq_self_eq_true, Nat.zero_add, and_self, newBox, St.bump, storeV, Tr.get_set, Nat.add_assoc, Nat.add_left_cancel_iff, Nat.left_eq_add, Nat.add_eq_left, boxFree, List.size_toArray, hf.hb, hf.h0, show fw .i64 0 = 0 from rfl]
      refine pc61.call (by simp [untok, AV.strip, AV.strip0, Go.Pv.goods, Go.Pv.good, goods_nat8]) hw2 ?_
      simp only [↓cw_ret, ↓cw_seq, ↓cw_region, ↓then_normal, ↓block_normal, ↓draw_false, ↓draw_true, ↓ow_nil, ↓ow_cons, ↓contO_eq, ↓op_load, ↓op_store, ↓ret_ret, vW_some, pW_some, bW_true, setD_some, setD_none, on1_some, ldV_eq, stV, resW, opd, rd_set, rd_nil, loadV, take?, put, flat, AV.cells, hasStore, isStore, aggF, infF, Nat.reduceEqDiff, Nat.reduceAdd, Nat.reduceLeDiff, reduceIte, reduceCtorEq, Bool.or_false, Bool.or_true, List.any, List.length_cons, List.length_nil, List.getElem?_cons_zero, List.drop_zero, List.take_succ_cons, List.take_zero, List.set_cons_zero, List.set_cons_succ, Nat.zero_add, and_self, St.bump, storeV, Tr.get_set, Nat.add_assoc, Nat.add_left_cancel_iff, Nat.left_eq_add, Nat.add_eq_left, force_DD, List.size_toArray, hf.hb, hf.h0]
      refine ⟨okDrawD_4p 4 5 8 9 (by simp only [rd_set, rd_nil, Nat.reduceEqDiff, reduceIte, reduceCtorEq]; exact rfl) (by simp only [rd_set, rd_nil, Nat.reduceEqDiff, reduceIte, reduceCtorEq]; exact rfl) (by simp only [rd_set, rd_nil, Nat.reduceEqDiff, reduceIte, reduceCtorEq]; exact rfl) (by simp only [rd_set, rd_nil, Nat.reduceEqDiff, reduceIte, reduceCtorEq]; exact rfl) (by omega) (by omega) (by omega) (by omega) (by omega) (by omega) (by kernel_rfl), ?_⟩
      simp only [rd_set, rd_nil, loadV, take?, aggF, infF, resV, Nat.reduceEqDiff, Nat.reduceAdd, Nat.reduceLeDiff, reduceIte, reduceCtorEq, List.length_cons, List.length_nil, List.getElem?_cons_zero, List.drop_zero, List.take_succ_cons, List.take_zero, Nat.zero_add, Tr.get_set, Nat.add_left_cancel_iff, Nat.add_eq_left, hf.hb, Tryd.f43]
      simp [untok, AV.strip, AV.strip0]
end Go.Pv
