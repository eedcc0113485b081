/- The reader, where all is well: instr. (PvZ6) -/
import Derived.Test.YtigcolhieieakaaDoorPvR3
namespace Go.Pv
open Go Go.Proofs Go.RowKit
set_option linter.unusedVariables false
set_option linter.unusedSimpArgs false
set_option maxRecDepth 100000

/-- What list answers, where the bytes are those of instructions. -/
def ListOk (l : L) : Prop := ∀ σ p bs rest a m depth (Q : AV → St → Prop), Fresh σ → p < σ.nb → RS σ p bs a m → bs.drop a = l.enc ++ 11 :: rest → m + l.cnt ≤ 16384 → depth + l.nest ≤ 64 → bs.length < 1152921504606846976 →
  (∀ κ σ', ExtR p σ σ' → RS σ' p bs (a + l.enc.length + 1) (m + l.cnt) → Q (.t [.sl l.av κ, .i .u8 11]) σ') → CallW TS 23 [.p p 0, .i .i64 (depth : Nat), .b false] σ Q

/-- The forms that are gone through here: nothing behind the number, blocks, tables. -/
def rtI (f : Nat) (n al off res : Int) (b e : L) (ls : List Int) : Prop :=
  n = 0 ∧ al = 0 ∧ off = 0 ∧ e = .nil ∧
  ((f = 0 ∧ res = 0 ∧ b = .nil ∧ ls = []) ∨ (f = 6 ∧ (res = 0 ∨ res = 127 ∨ res = 126) ∧ ls = []) ∨ (f = 8 ∧ res = 0 ∧ b = .nil ∧ 1 ≤ ls.length ∧ ls.length ≤ 257 ∧ ∀ x ∈ ls, 0 ≤ x ∧ x < 16384))

theorem w_instr (f op : Nat) (n al off res : Int) (b e : L) (ls : List Int) (h : rtI f n al off res b e ls) (Hb : ListOk b) (σ : St) (p : Nat) (bs rest : List Int) (a m depth : Nat) (Q : AV → St → Prop) (hf : Fresh σ) (hp : p < σ.nb) (hr : RS σ p bs a m)
    (hx : bs.drop a = encF f n al off res ls b.enc e.enc e.len ++ rest) (hm : m + b.cnt ≤ 16384) (hd : f = 6 → depth + 1 + b.nest ≤ 64) (hb : bs.length < 1152921504606846976)
    (hQ : ∀ κ1 κ2 κ3 σ', ExtR p σ σ' → RS σ' p bs (a + (encF f n al off res ls b.enc e.enc e.len).length) (m + b.cnt) →
      Q (.a [.i .u8 op, .i .i64 n, .i .u32 al, .i .u32 off, .i .u8 res, .sl b.av κ1, .sl e.av κ2, .sl (u32s ls) κ3]) σ') :
    CallW TS 41 [.p p 0, .i .u8 op, .i .i64 (f : Nat), .i .i64 (depth : Nat)] σ Q := by
  obtain ⟨rfl, rfl, rfl, rfl, h⟩ := h
  refine callW_of ft41 rfl (Nat.le_of_ble_eq_true rfl) ?_
  have hr' := hr
  unfold RS at hr'
  have hpne : ∀ j, (p = σ.nb + j) = False := fun j => by simp; omega
  have hpne0 : (p = σ.nb) = False := by simp; omega
  rcases h with ⟨rfl, rfl, rfl, rfl⟩ | ⟨rfl, hres, rfl⟩ | ⟨rfl, rfl, rfl, h1, h2, hls⟩
  · simp only [↓cw_skip, ↓cw_ret, ↓cw_seq, ↓cw_block, ↓cw_cond, ↓cw_region, ↓then_normal, ↓block_normal, ↓draw_false, ↓ow_nil, ↓ow_cons, ↓contO_eq, ↓op_move, ↓op_assign, ↓op_alloc, ↓op_build, ↓op_load, ↓op_store, ↓op_binOp, ↓ret_ret, ↓force_DC, vW_some, pW_some, bW_false, ifW_some, setD_some, setD_none, allocV, bldV, on1_some, on2_some, ldV_eq, stV, biV_eq, resW, opd, ofConst, leaf, rd_set, rd_nil, Fr.ofList, binV, intV, isConst, loadV, take?, buildV, places, fillV, parts, put, flat, AV.cells, undF, aggF, infF, resV, Nat.reduceEqDiff, Nat.reduceAdd, Nat.reduceLeDiff, reduceIte, reduceCtorEq, Bool.or_true, List.length_cons, List.length_nil, List.getElem?_cons_zero, List.drop_zero, List.take_succ_cons, List.take_zero, List.set_cons_zero, List.set_cons_succ, Int.reduceBEq, Nat.add_zero, Nat.zero_add, and_self, newBox, St.bump, storeV, Tr.get_set, Nat.add_assoc, Nat.left_eq_add, Nat.add_eq_left, boxFree, List.size_toArray, hf.hb, hf.h0, Int.natCast_zero, Tryd.f41]
    refine hQ 1 1 1 _ ⟨by simp only; omega, ?_, fun l hl hne => ?_, fun k hk => rfl⟩ ?_
    · first | exact Fresh.of (by repeat (first | exact (Fresh.freeH hf (by omega)) | refine FreeH.set ?_ (by omega))) (by repeat (first | exact (Fresh.freeT hf (by omega)) | refine FreeT.set ?_ (by omega) | refine FreeT.via (by assumption) ?_ (by omega)))
    · simp only [Tr.get_set]; (repeat rw [if_neg (by omega)])
    · show Tr.get _ p = _
      simp only [Tr.get_set]; (repeat rw [if_neg (by omega)])
      exact hr
  · have hE : encF 6 0 0 0 res [] b.enc (L.nil).enc (L.nil).len = kindB res :: b.enc ++ [11] := by simp [encF, L.len]
    rw [hE] at hx hQ
    simp only [↓cw_skip, ↓cw_seq, ↓cw_block, ↓cw_cond, ↓cw_region, ↓then_normal, ↓draw_false, ↓ow_nil, ↓ow_cons, ↓contO_eq, ↓op_move, ↓op_assign, ↓op_alloc, ↓op_build, ↓op_store, ↓op_binOp, ↓op_call, ↓force_DC, vW_some, pW_some, bW_true, bW_false, ifW_some, setD_some, setD_none, allocV, bldV, on2_some, stV, biV_eq, callV_some, arg_val, opd, opds, ofConst, leaf, rd_set, rd_nil, Fr.ofList, binV, intV, isConst, buildV, places, fillV, parts, put, flat, AV.cells, undF, infF, Nat.reduceEqDiff, Nat.reduceAdd, Nat.reduceLeDiff, reduceIte, reduceCtorEq, Bool.or_true, List.length_cons, List.length_nil, List.getElem?_cons_zero, List.append_nil, List.set_cons_zero, List.set_cons_succ, Int.reduceBEq, beq_self_eq_true, Nat.add_zero, Nat.zero_add, and_self, newBox, St.bump, storeV, Tr.get_set, Nat.add_assoc, Nat.add_eq_left, boxFree, List.size_toArray, hf.hb, hf.h0, Int.cast_ofNat_Int]
    refine FnW_call rfl (by kernel_rfl) (by kernel_rfl) (by kernel_rfl) (w_rkind _ p bs a m res _ ?_ ?_ ?_ hres ?_ ?_ fun σ1 he1 hr1 => ?_)
    · simp only [St.bump]; first | exact Fresh.of (by repeat (first | exact (Fresh.freeH hf (by omega)) | refine FreeH.set ?_ (by omega))) (by repeat (first | exact (Fresh.freeT hf (by omega)) | refine FreeT.set ?_ (by omega) | refine FreeT.via (by assumption) ?_ (by omega)))
    · simp only [St.bump]; omega
    · show Tr.get _ p = _
      simp only [St.bump, Tr.get_set]; (repeat rw [if_neg (by omega)])
      exact hr
    · have := congrArg (fun l => l[0]?) hx
      simpa using this
    · have := congrArg List.length hx
      simp at this; omega
    have hnb1 : σ.nb + 20 ≤ σ1.nb := by have := he1.nb; simp only [St.bump] at this; omega
    have hf1 := he1.fresh
    have hb0 := he1.h σ.nb (by simp only [St.bump]; omega) (by omega)
    have hb3 := he1.h (σ.nb + 3) (by simp only [St.bump]; omega) (by omega)
    simp only [St.bump, Tr.get_set, if_true] at hb0 hb3
    rw [if_neg (by omega)] at hb0
    have hr1' := hr1
    unfold RS at hr1'
    have hd' := hd rfl
    have hal : a < bs.length := by have := congrArg List.length hx; simp at this; omega
    simp only [↓cw_seq, ↓cw_region, ↓then_normal, ↓draw_false, ↓ow_nil, ↓ow_cons, ↓contO_eq, ↓op_move, ↓op_assign, ↓op_store, ↓op_binOp, ↓op_fieldAddr, ↓op_call, vW_some, pW_some, setD_some, setD_none, on1_some, on2_some, stV, biV_eq, faV_eq, callV_some, arg_val, opd, opds, ofConst, leaf, rd_set, rd_nil, binV, intV, isConst, fieldAddrV, put, flat, AV.cells, undF, infF, Nat.reduceEqDiff, Nat.reduceAdd, Nat.reduceLeDiff, reduceIte, reduceCtorEq, Bool.or_true, List.length_cons, List.length_nil, List.getElem?_cons_zero, List.getElem?_cons_succ, List.append_nil, List.set_cons_zero, List.set_cons_succ, Int.reduceBEq, Nat.zero_add, and_self, St.bump, storeV, Nat.add_assoc, List.size_toArray, hb3, fw_add1 (n := depth) (by omega)]
    refine FnW_call rfl (by kernel_rfl) (by kernel_rfl) (by kernel_rfl) (Hb _ p bs rest (a + 1) m (depth + 1) _ ?_ ?_ ?_ ?_ hm (by omega) hb fun κ σ2 he2 hr2 => ?_)
    · simp only [St.bump]; first | exact Fresh.of (by repeat (first | exact (Fresh.freeH hf1 (by omega)) | refine FreeH.set ?_ (by omega))) (by repeat (first | exact (Fresh.freeT hf1 (by omega)) | refine FreeT.set ?_ (by omega) | refine FreeT.via (by assumption) ?_ (by omega)))
    · simp only [St.bump]; omega
    · show Tr.get _ p = _
      simp only [St.bump, Tr.get_set]; (repeat rw [if_neg (by omega)])
      exact hr1
    · rw [← List.drop_drop, hx]; simp
    have hnb2 : σ1.nb + 17 ≤ σ2.nb := by have := he2.nb; simp only [St.bump] at this; omega
    have hf2 := he2.fresh
    have hc0 := he2.h σ.nb (by simp only [St.bump]; omega) (by omega)
    have hc3 := he2.h (σ.nb + 3) (by simp only [St.bump]; omega) (by omega)
    simp only [St.bump, Tr.get_set, if_true] at hc0 hc3
    rw [if_neg (by omega), hb0] at hc0
    have hr2' := hr2
    unfold RS at hr2'
    simp only [↓cw_skip, ↓cw_ret, ↓cw_seq, ↓cw_cond, ↓cw_region, ↓then_normal, ↓block_normal, ↓draw_false, ↓ow_nil, ↓ow_cons, ↓contO_eq, ↓op_move, ↓op_assign, ↓op_load, ↓op_store, ↓op_binOp, ↓op_fieldAddr, ↓op_extract, ↓ret_ret, ↓force_DC, vW_some, pW_some, bW_false, ifW_some, setD_some, setD_none, on1_some, on2_some, ldV_eq, stV, biV_eq, faV_eq, exV, resW, opd, ofConst, leaf, rd_set, rd_nil, binV, intV, isConst, loadV, fieldAddrV, take?, put, flat, AV.cells, undF, aggF, infF, resV, Nat.reduceEqDiff, Nat.reduceAdd, Nat.reduceLeDiff, reduceIte, reduceCtorEq, Bool.or_true, List.length_cons, List.length_nil, List.getElem?_cons_zero, List.getElem?_cons_succ, List.drop_zero, List.take_succ_cons, List.take_zero, List.set_cons_zero, List.set_cons_succ, Int.reduceBEq, Nat.zero_add, and_self, St.bump, storeV, Tr.get_set, Nat.add_assoc, Nat.left_eq_add, List.size_toArray, hc0, hc3, Tryd.f41]
    refine hQ κ 1 1 _ ⟨by simp only; omega, ?_, fun l hl hne => ?_, fun k hk => ?_⟩ ?_
    · first | exact Fresh.of (by repeat (first | exact (Fresh.freeH hf2 (by omega)) | refine FreeH.set ?_ (by omega))) (by repeat (first | exact (Fresh.freeT hf2 (by omega)) | refine FreeT.set ?_ (by omega) | refine FreeT.via (by assumption) ?_ (by omega)))
    · simp only [Tr.get_set]; (repeat rw [if_neg (by omega)])
      rw [he2.h l (by simp only [St.bump]; omega) hne]
      simp only [St.bump, Tr.get_set]; (repeat rw [if_neg (by omega)])
      rw [he1.h l (by simp only [St.bump]; omega) hne]
      simp only [St.bump, Tr.get_set]; (repeat rw [if_neg (by omega)])
    · simp only
      rw [he2.tk k (by simp only [St.bump]; omega)]
      simp only [St.bump]
      rw [he1.tk k (by simp only [St.bump]; omega)]
      rfl
    · show Tr.get _ p = _
      simp only [Tr.get_set]; (repeat rw [if_neg (by omega)])
      rw [hr2']
      simp [Nat.add_assoc, Nat.add_comm, Nat.add_left_comm]
  · have hE : encF 8 0 0 0 0 ls (L.nil).enc (L.nil).enc (L.nil).len = encU (fw .u64 (fw .i64 ((ls.length : Int) - 1))).toNat ++ ls.flatMap (fun x => encU x.toNat) := by simp [encF]
    have hE2 : (fw .u64 (fw .i64 ((ls.length : Int) - 1))).toNat = ls.length - 1 := by
      obtain ⟨k, hk⟩ : ∃ k, ls.length = k + 1 := ⟨ls.length - 1, by omega⟩
      rw [hk, fw_sub1 (by omega), fw_u64_of k (by omega)]
      omega
    rw [hE, hE2] at hx hQ
    simp only [↓cw_seq, ↓cw_block, ↓cw_cond, ↓cw_region, ↓then_normal, ↓draw_false, ↓ow_nil, ↓ow_cons, ↓contO_eq, ↓op_move, ↓op_assign, ↓op_alloc, ↓op_build, ↓op_store, ↓op_binOp, ↓op_call, ↓force_DC, vW_some, pW_some, bW_true, bW_false, ifW_some, setD_some, setD_none, allocV, bldV, on2_some, stV, biV_eq, callV_some, arg_val, opd, opds, ofConst, leaf, rd_set, rd_nil, Fr.ofList, binV, intV, isConst, buildV, places, fillV, parts, put, flat, AV.cells, undF, infF, Nat.reduceEqDiff, Nat.reduceAdd, Nat.reduceLeDiff, reduceIte, reduceCtorEq, Bool.or_true, List.length_cons, List.length_nil, List.getElem?_cons_zero, List.append_nil, List.set_cons_zero, List.set_cons_succ, Int.reduceBEq, beq_self_eq_true, Nat.add_zero, Nat.zero_add, and_self, newBox, St.bump, storeV, Tr.get_set, Nat.add_assoc, Nat.add_eq_left, boxFree, List.size_toArray, hf.hb, hf.h0, Int.cast_ofNat_Int]
    refine FnW_call rfl (by kernel_rfl) (by kernel_rfl) (by kernel_rfl) (w_labels _ p bs rest a m ls _ ?_ ?_ ?_ h1 h2 hls hx hb fun κ σ1 he1 hr1 => ?_)
    · simp only [St.bump]; first | exact Fresh.of (by repeat (first | exact (Fresh.freeH hf (by omega)) | refine FreeH.set ?_ (by omega))) (by repeat (first | exact (Fresh.freeT hf (by omega)) | refine FreeT.set ?_ (by omega) | refine FreeT.via (by assumption) ?_ (by omega)))
    · simp only [St.bump]; omega
    · show Tr.get _ p = _
      simp only [St.bump, Tr.get_set]; (repeat rw [if_neg (by omega)])
      exact hr
    have hnb1 : σ.nb + 20 ≤ σ1.nb := by have := he1.nb; simp only [St.bump] at this; omega
    have hf1 := he1.fresh
    have hb0 := he1.h σ.nb (by simp only [St.bump]; omega) (by omega)
    have hb3 := he1.h (σ.nb + 3) (by simp only [St.bump]; omega) (by omega)
    simp only [St.bump, Tr.get_set, if_true] at hb0 hb3
    rw [if_neg (by omega)] at hb0
    simp only [↓cw_ret, ↓cw_seq, ↓cw_region, ↓then_normal, ↓block_normal, ↓draw_false, ↓ow_nil, ↓ow_cons, ↓contO_eq, ↓op_load, ↓op_store, ↓op_fieldAddr, ↓ret_ret, vW_some, pW_some, setD_some, setD_none, on1_some, ldV_eq, stV, faV_eq, resW, opd, rd_set, rd_nil, loadV, fieldAddrV, take?, put, flat, AV.cells, undF, aggF, infF, resV, Nat.reduceEqDiff, Nat.reduceAdd, Nat.reduceLeDiff, reduceIte, reduceCtorEq, List.length_cons, List.length_nil, List.getElem?_cons_zero, List.getElem?_cons_succ, List.drop_zero, List.take_succ_cons, List.take_zero, List.set_cons_zero, List.set_cons_succ, Nat.zero_add, and_self, St.bump, storeV, Tr.get_set, Nat.add_assoc, Nat.left_eq_add, List.size_toArray, hb0, hb3, Tryd.f41]
    refine hQ 1 1 κ _ ⟨by simp only; omega, ?_, fun l hl hne => ?_, fun k hk => ?_⟩ ?_
    · first | exact Fresh.of (by repeat (first | exact (Fresh.freeH hf1 (by omega)) | refine FreeH.set ?_ (by omega))) (by repeat (first | exact (Fresh.freeT hf1 (by omega)) | refine FreeT.set ?_ (by omega) | refine FreeT.via (by assumption) ?_ (by omega)))
    · simp only [Tr.get_set]; (repeat rw [if_neg (by omega)])
      rw [he1.h l (by simp only [St.bump]; omega) hne]
      simp only [St.bump, Tr.get_set]; (repeat rw [if_neg (by omega)])
    · simp only
      rw [he1.tk k (by simp only [St.bump]; omega)]
      rfl
    · show Tr.get _ p = _
      simp only [Tr.get_set]; (repeat rw [if_neg (by omega)])
      exact hr1
end Go.Pv
