/- The document's reader: list, whatever the bytes are. (PvZ6) -/
import Derived.Test.YtigcolhieieakaaDoorPvD16
import Derived.Test.YtigcolhieieakaaDoorPvE0
import Derived.Test.YtigcolhieieakaaDoorPvE0b
namespace Go.Pv
open Go Go.Proofs Go.RowKit
set_option linter.unusedVariables false
set_option linter.unusedSimpArgs false
set_option maxRecDepth 100000

theorem ne_int {e : Nat} (he : e ≠ 0) : ((e : Int) != 0) = true := by rw [bne_iff_ne]; omega
theorem form_lt9 {op f : Nat} (h : formN op = some f) : f ≤ 9 := form_le _ _ h

set_option maxHeartbeats 4000000 in
theorem head24 (bs : List Nat) (hb : bs.length < 1000000) (d : Nat) (hd : d < 100000) (o : Bool) (Q : Ex → Fr → St → Prop) (op a m : Nat) (h256 : op < 256) (hlt : a < bs.length) (hm : m ≤ 16384) (rd : Nat → Nat → Bool → Rr (L × Nat))
    (H : ∀ a1 m1 o, a + 1 < a1 → a1 ≤ bs.length → m1 ≤ 16384 → ListV bs (d + 1) o a1 m1 (rd a1 m1 o)) (hrd : ∀ a m o x a1 m1, rd a m o = .ok x a1 m1 → m ≤ 16384 → a < a1 ∧ a1 ≤ bs.length ∧ m1 ≤ 16384)
    (acc : List AV) (hacc : acc.length < 1000000) (hhead : headSize 8 acc = true) (κ b3 b6 : Nat) (q0 q1 q2 q3 : AV) (hbn : b3 ≠ b6) (fr : Fr) (σ : St) (hf : Fresh σ) (p3 : b3 < σ.nb) (p6 : b6 < σ.nb) (g3 : Tr.get σ.h b3 = some [.sl (nat8 bs) 0, .i .i64 a, .i .i64 m, .i .i64 (0 : Nat)]) (g6 : Tr.get σ.h b6 = some [q0, q1, q2, q3])
    (ht : TokG σ acc κ 8) (hκ : κ < σ.nb + 2) (r1 : fr.rd 1 = .i .i64 d) (r2 : fr.rd 2 = .b o) (r3 : fr.rd 3 = .p b3 0) (r6 : fr.rd 6 = .p b6 0) (r9 : fr.rd 9 = .sl acc κ) (r10 : fr.rd 10 = .i .u8 op)
    (hfl : floatN op = true → ∀ m1 fr σ, (Tr.get σ.h b6 = some [.sl (nat8 bs) 0, .i .i64 a, .i .i64 (m1 : Nat), .i .i64 (8 : Nat)]) → fr.rd 6 = .p b6 0 → fr.rd 7 = .sl [] 1 → fr.rd 8 = .i .u8 0 → Q .ret fr σ)
    (hno : floatN op = false → formN op = none → ∀ m1 fr σ, (Tr.get σ.h b6 = some [.sl (nat8 bs) 0, .i .i64 a, .i .i64 (m1 : Nat), .i .i64 (6 : Nat)]) → fr.rd 6 = .p b6 0 → fr.rd 7 = .sl [] 1 → fr.rd 8 = .i .u8 0 → Q .ret fr σ)
    (hlim : ∀ f, floatN op = false → formN op = some f → (m + 1 > 16384 ∨ (64 ≤ d ∧ (f = 6 ∨ f = 7))) → ∀ m1 fr σ, (Tr.get σ.h b6 = some [.sl (nat8 bs) 0, .i .i64 a, .i .i64 (m1 : Nat), .i .i64 (9 : Nat)]) → fr.rd 6 = .p b6 0 → fr.rd 7 = .sl [] 1 → fr.rd 8 = .i .u8 0 → Q .ret fr σ)
    (hbad : ∀ f, floatN op = false → formN op = some f → ¬ (m + 1 > 16384 ∨ (64 ≤ d ∧ (f = 6 ∨ f = 7))) → ∀ w e, rdI rd bs f (a + 1) (m + 1) = .bad w e → ∀ m1 fr σ, (Tr.get σ.h b6 = some [.sl (nat8 bs) 0, .i .i64 w, .i .i64 (m1 : Nat), .i .i64 e]) → fr.rd 6 = .p b6 0 → fr.rd 7 = .sl [] 1 → fr.rd 8 = .i .u8 0 → Q .ret fr σ)
    (hok : ∀ f, floatN op = false → formN op = some f → ¬ (m + 1 > 16384 ∨ (64 ≤ d ∧ (f = 6 ∨ f = 7))) → ∀ x a1 m1, rdI rd bs f (a + 1) (m + 1) = .ok x a1 m1 → ∀ κ' fr σ, Fresh σ → b3 < σ.nb → b6 < σ.nb → Tr.get σ.h b3 = some [.sl (nat8 bs) 0, .i .i64 a1, .i .i64 (m1 : Nat), .i .i64 (0 : Nat)] → (∃ c, Tr.get σ.h b6 = some c ∧ c.length = 4) → TokG σ (acc ++ [x.av op]) κ' 8 → κ' < σ.nb + 2 → fr.rd 1 = .i .i64 d → fr.rd 2 = .b o → fr.rd 3 = .p b3 0 → fr.rd 6 = .p b6 0 → fr.rd 9 = .sl (acc ++ [x.av op]) κ' → CodeW TS K24 fr σ Q) :
    CodeW TS D24 fr σ (thenW TS (.seq E24 (.seq F24 T24)) (blockW 1 (thenW TS K24 Q))) := by
  have hb36 : (b6 = b3) = False := by simp; omega
  have hb63 : (b3 = b6) = False := by simp; omega
  have hfm1 : fw .i64 ((m : Int) + 1) = ((m + 1 : Nat) : Int) := fw_add1 (Nat.lt_of_le_of_lt hm (by decide))
  have hflo : PureW TS 42 [.i .u8 (op : Int)] (.b (floatN op)) := w_rfloat op h256
  have hform := w_rform op h256
  have ha1 : a + 1 ≤ bs.length := by omega
  have hm2 : m < 1000000 := Nat.lt_of_le_of_lt hm (by decide)
  have hpb3 : ∀ k, b3 < σ.nb + k := fun k => by omega
  have hpb6 : ∀ k, b6 < σ.nb + k := fun k => by omega
  have hkk : ∀ k, κ < σ.nb + k + 2 := fun k => by omega
  have lim : ∀ (e : Nat), e ≠ 0 → (∀ m1 fr σ, (Tr.get σ.h b6 = some [.sl (nat8 bs) 0, .i .i64 a, .i .i64 (m1 : Nat), .i .i64 e]) → fr.rd 6 = .p b6 0 → fr.rd 7 = .sl [] 1 → fr.rd 8 = .i .u8 0 → Q .ret fr σ) → ∀ fr σ, Tr.get σ.h b3 = some [.sl (nat8 bs) 0, .i .i64 a, .i .i64 (m + 1 : Nat), .i .i64 e] → Tr.get σ.h b6 = some [q0, q1, q2, q3] → fr.rd 3 = .p b3 0 → fr.rd 6 = .p b6 0 → CodeW TS T24 fr σ (blockW 1 (thenW TS K24 Q)) := fun e he hq fr σ g3 g6 r3 r6 => by
    have hne := ne_int he
    simp only [T24, fb, Tryd.f24, cl, cr, Option.getD]
    simp only [↓cw_ret, ↓cw_seq, ↓cw_cond, ↓cw_region, ↓then_normal, ↓then_ret, ↓block_ret, ↓draw_false, ↓ow_nil, ↓ow_cons, ↓contO_eq, ↓op_assign, ↓op_load, ↓op_store, ↓op_binOp, ↓op_fieldAddr, ↓force_DC, vW_some, pW_some, bW_true, ifW_some, setD_some, setD_none, on1_some, on2_some, ldV_eq, stV, biV_eq, faV_eq, opd, ofConst, leaf, rd_set, binV, intV, isConst, loadV, fieldAddrV, take?, put, flat, AV.cells, undF, aggF, infF, Nat.reduceEqDiff, Nat.reduceAdd, Nat.reduceLeDiff, reduceIte, reduceCtorEq, Bool.or_true, List.length_cons, List.length_nil, List.getElem?_cons_zero, List.getElem?_cons_succ, List.drop_succ_cons, List.drop_zero, List.take_succ_cons, List.take_zero, List.set_cons_zero, List.set_cons_succ, Nat.zero_add, and_self, St.bump, storeV, Nat.add_assoc, List.size_toArray, r3, r6, g3, g6, hne]
    refine hq (m + 1) _ _ ?_ ?_ ?_ ?_
    · simp only [reduceIte, Tr.get_set]
    · simp only [rd_set, Nat.reduceEqDiff, reduceIte, r6]
    · simp only [rd_set, Nat.reduceEqDiff, reduceIte]
    · simp only [rd_set, Nat.reduceEqDiff, reduceIte]
  simp only [D24, E24, F24, fb, Tryd.f24, cl, cr, Option.getD]
  simp only [↓cw_region, ↓ow_cons, ↓contO_eq, ↓op_move, ↓op_call, vW_some, setD_some, callV_some, arg_val, opd, opds, rd_set, Nat.reduceAdd, reduceIte, List.length_cons, List.length_nil, List.append_nil, Nat.zero_add, List.size_toArray, r10]
  refine pc34.call rfl hform ?_
  unfold rformV
  cases hfn : formN op with
  | none =>
    simp only [↓cw_seq, ↓cw_block, ↓cw_region, ↓then_normal, ↓draw_false, ↓ow_nil, ↓ow_cons, ↓contO_eq, ↓op_move, ↓op_assign, ↓op_load, ↓op_store, ↓op_binOp, ↓op_fieldAddr, ↓op_extract, ↓op_call, vW_some, pW_some, setD_some, setD_none, on1_some, on2_some, ldV_eq, stV, biV_eq, faV_eq, exV, callV_some, arg_val, opd, opds, ofConst, leaf, rd_set, binV, intV, isConst, loadV, fieldAddrV, take?, put, flat, AV.cells, undF, aggF, infF, Nat.reduceEqDiff, Nat.reduceAdd, Nat.reduceLeDiff, reduceIte, reduceCtorEq, Bool.or_true, List.length_cons, List.length_nil, List.getElem?_cons_zero, List.getElem?_cons_succ, List.append_nil, List.drop_succ_cons, List.drop_zero, List.take_succ_cons, List.take_zero, List.set_cons_zero, List.set_cons_succ, Nat.zero_add, and_self, St.bump, storeV, Nat.add_assoc, List.size_toArray, r3, r10, g3, hfm1]
    refine pc42.call rfl hflo ?_
    cases hfv : floatN op with
    | true =>
      simp only [↓cw_cond, ↓cw_region, ↓then_normal, ↓block_normal, ↓draw_false, ↓ow_nil, ↓ow_cons, ↓contO_eq, ↓op_assign, ↓op_store, ↓op_fieldAddr, ↓force_DC, vW_some, pW_some, bW_true, ifW_some, setD_some, setD_none, on1_some, stV, faV_eq, opd, ofConst, leaf, rd_set, fieldAddrV, put, flat, AV.cells, undF, infF, Nat.reduceEqDiff, Nat.reduceAdd, Nat.reduceLeDiff, reduceIte, reduceCtorEq, List.length_cons, List.length_nil, List.getElem?_cons_zero, List.getElem?_cons_succ, List.set_cons_zero, List.set_cons_succ, Nat.zero_add, and_self, St.bump, storeV, Tr.get_set, Nat.add_assoc, List.size_toArray, r3, g3]
      refine lim 8 (by decide) (hfl hfv) _ _ ?_ ?_ ?_ ?_
      · simp only [reduceIte, Tr.get_set]
        rfl
      · simp only [reduceIte, Tr.get_set, g6, hb36]
      · simp only [rd_set, Nat.reduceEqDiff, reduceIte, r3]
      · simp only [rd_set, Nat.reduceEqDiff, reduceIte, r6]
    | false =>
      simp only [↓cw_seq, ↓cw_cond, ↓cw_region, ↓then_normal, ↓block_normal, ↓draw_false, ↓ow_nil, ↓ow_cons, ↓contO_eq, ↓op_move, ↓op_assign, ↓op_store, ↓op_unOp, ↓op_fieldAddr, ↓force_DC, vW_some, pW_some, bW_true, bW_false, ifW_some, setD_some, setD_none, on1_some, stV, faV_eq, opd, ofConst, leaf, rd_set, unV, fieldAddrV, put, flat, AV.cells, undF, infF, Nat.reduceEqDiff, Nat.reduceAdd, Nat.reduceLeDiff, reduceIte, reduceCtorEq, List.length_cons, List.length_nil, List.getElem?_cons_zero, List.getElem?_cons_succ, List.set_cons_zero, List.set_cons_succ, Nat.zero_add, and_self, Bool.not_false, St.bump, storeV, Tr.get_set, Nat.add_assoc, List.size_toArray, r3, g3]
      refine lim 6 (by decide) (hno hfv hfn) _ _ ?_ ?_ ?_ ?_
      · simp only [reduceIte, Tr.get_set]
        rfl
      · simp only [reduceIte, Tr.get_set, g6, hb36]
      · simp only [rd_set, Nat.reduceEqDiff, reduceIte, r3]
      · simp only [rd_set, Nat.reduceEqDiff, reduceIte, r6]
  | some f =>
    have hf9 := form_lt9 hfn
    simp only [↓cw_seq, ↓cw_block, ↓cw_region, ↓then_normal, ↓draw_false, ↓ow_nil, ↓ow_cons, ↓contO_eq, ↓op_move, ↓op_assign, ↓op_load, ↓op_store, ↓op_binOp, ↓op_fieldAddr, ↓op_extract, ↓op_call, vW_some, pW_some, setD_some, setD_none, on1_some, on2_some, ldV_eq, stV, biV_eq, faV_eq, exV, callV_some, arg_val, opd, opds, ofConst, leaf, rd_set, binV, intV, isConst, loadV, fieldAddrV, take?, put, flat, AV.cells, undF, aggF, infF, Nat.reduceEqDiff, Nat.reduceAdd, Nat.reduceLeDiff, reduceIte, reduceCtorEq, Bool.or_true, List.length_cons, List.length_nil, List.getElem?_cons_zero, List.getElem?_cons_succ, List.append_nil, List.drop_succ_cons, List.drop_zero, List.take_succ_cons, List.take_zero, List.set_cons_zero, List.set_cons_succ, Nat.zero_add, and_self, St.bump, storeV, Nat.add_assoc, List.size_toArray, r3, r10, g3, hfm1]
    refine pc42.call rfl hflo ?_
    cases hfv : floatN op with
    | true =>
      simp only [↓cw_cond, ↓cw_region, ↓then_normal, ↓block_normal, ↓draw_false, ↓ow_nil, ↓ow_cons, ↓contO_eq, ↓op_assign, ↓op_store, ↓op_fieldAddr, ↓force_DC, vW_some, pW_some, bW_true, ifW_some, setD_some, setD_none, on1_some, stV, faV_eq, opd, ofConst, leaf, rd_set, fieldAddrV, put, flat, AV.cells, undF, infF, Nat.reduceEqDiff, Nat.reduceAdd, Nat.reduceLeDiff, reduceIte, reduceCtorEq, List.length_cons, List.length_nil, List.getElem?_cons_zero, List.getElem?_cons_succ, List.set_cons_zero, List.set_cons_succ, Nat.zero_add, and_self, St.bump, storeV, Tr.get_set, Nat.add_assoc, List.size_toArray, r3, g3]
      refine lim 8 (by decide) (hfl hfv) _ _ ?_ ?_ ?_ ?_
      · simp only [reduceIte, Tr.get_set]
        rfl
      · simp only [reduceIte, Tr.get_set, g6, hb36]
      · simp only [rd_set, Nat.reduceEqDiff, reduceIte, r3]
      · simp only [rd_set, Nat.reduceEqDiff, reduceIte, r6]
    | false =>
      have fine : ¬ (m + 1 > 16384 ∨ (64 ≤ d ∧ (f = 6 ∨ f = 7))) → ∀ fr σ, Fresh σ → b3 < σ.nb → b6 < σ.nb → Tr.get σ.h b3 = some [.sl (nat8 bs) 0, .i .i64 a, .i .i64 (m + 1 : Nat), .i .i64 (0 : Nat)] → Tr.get σ.h b6 = some [q0, q1, q2, q3] → TokG σ acc κ 8 → κ < σ.nb + 2 → fr.rd 1 = .i .i64 d → fr.rd 2 = .b o → fr.rd 3 = .p b3 0 → fr.rd 6 = .p b6 0 → fr.rd 9 = .sl acc κ → fr.rd 10 = .i .u8 op → fr.rd 11 = .i .i64 f → CodeW TS T24 fr σ (blockW 1 (thenW TS K24 Q)) := fun hl fr σ hf p3 p6 g3 g6 ht hκ r1 r2 r3 r6 r9 r10 r11 => by
        refine tail24 bs hb d hd o 0 _ op f a m h256 hf9 hlt hm2 (rdI rd bs f (a + 1) (m + 1)) (w_rrest bs hb op f (a + 1) (m + 1) d hf9 ha1 hd (Nat.le_of_not_lt fun h => hl (.inl h)) rd H hrd) acc hacc hhead κ b3 b6 [q0, q1, q2, q3] hbn fr σ hf p3 p6 g3 g6 rfl ht hκ r1 r2 r3 r6 r9 r10 r11 (fun w e hr m1 fr σ e1 e2 e3 e4 => hbad f hfv hfn hl w e hr m1 fr σ e1 e2 e3 e4) fun x a1 m1 hr κ' fr σ hf p3 p6 g3 g6 ht hκ r1 r2 r3 r6 r9 => ?_
        simp only [block_normal, then_normal]
        exact hok f hfv hfn hl x a1 m1 hr κ' fr σ hf p3 p6 g3 g6 ht hκ r1 r2 r3 r6 r9
      by_cases hm1 : m + 1 > 16384
      · have d1 := big_t hm1
        simp only [↓cw_seq, ↓cw_cond, ↓cw_region, ↓then_normal, ↓block_normal, ↓draw_false, ↓ow_nil, ↓ow_cons, ↓ow_consG, ↓contO_eq, ↓op_move, ↓op_assign, ↓op_load, ↓op_store, ↓op_binOp, ↓op_unOp, ↓op_fieldAddr, ↓op_pick, ↓force_DC, ↓force_DOs, vW_some, pW_some, bW_true, bW_false, ifW_some, setD_some, setD_none, on1_some, on2_some, ldV_eq, stV, biV_eq, faV_eq, pkV, opd, ofConst, leaf, rd_set, binV, intV, unV, isConst, loadV, fieldAddrV, take?, put, flat, AV.cells, undF, aggF, infF, Nat.reduceEqDiff, Nat.reduceAdd, Nat.reduceLeDiff, reduceIte, reduceCtorEq, Bool.or_true, List.length_cons, List.length_nil, List.getElem?_cons_zero, List.getElem?_cons_succ, List.drop_succ_cons, List.drop_zero, List.take_succ_cons, List.take_zero, List.set_cons_zero, List.set_cons_succ, Nat.zero_add, and_self, Bool.not_true, St.bump, storeV, Tr.get_set, wantG, Option.bind, Nat.add_assoc, beqF, List.size_toArray, r3, g3, d1]
        refine lim 9 (by decide) (hlim f hfv hfn (.inl hm1)) _ _ ?_ ?_ ?_ ?_
        · simp only [reduceIte, Tr.get_set]
          rfl
        · simp only [reduceIte, Tr.get_set, g6, hb36]
        · simp only [rd_set, Nat.reduceEqDiff, reduceIte, r3]
        · simp only [rd_set, Nat.reduceEqDiff, reduceIte, r6]
      have d1 := big_f hm1
      rcases three_way d f with ⟨hd6, h67⟩ | hd6 | ⟨hd6, e6, e7⟩
      · have d2 := d64_t hd6
        have hl9 := hlim f hfv hfn (.inr ⟨hd6, h67⟩)
        rcases h67 with rfl | rfl
        · simp only [↓cw_seq, ↓cw_cond, ↓cw_region, ↓then_normal, ↓block_normal, ↓draw_false, ↓ow_nil, ↓ow_cons, ↓ow_consG, ↓contO_eq, ↓op_move, ↓op_assign, ↓op_load, ↓op_store, ↓op_binOp, ↓op_unOp, ↓op_fieldAddr, ↓op_pick, ↓force_DC, ↓force_DO, ↓force_DOs, vW_some, pW_some, bW_true, bW_false, ifW_some, setD_some, setD_none, on1_some, on2_some, ldV_eq, stV, biV_eq, faV_eq, pkV, opd, ofConst, leaf, rd_set, binV, intV, unV, isConst, loadV, fieldAddrV, take?, put, flat, AV.cells, undF, aggF, infF, Nat.reduceEqDiff, Nat.reduceAdd, Nat.reduceLeDiff, reduceIte, reduceCtorEq, Bool.or_true, List.length_cons, List.length_nil, List.getElem?_cons_zero, List.getElem?_cons_succ, List.drop_succ_cons, List.drop_zero, List.take_succ_cons, List.take_zero, List.set_cons_zero, List.set_cons_succ, beq_self_eq_true, Nat.zero_add, and_self, Bool.not_true, St.bump, storeV, Tr.get_set, wantG, Option.bind, Nat.add_assoc, beqF, List.size_toArray, r1, r3, g3, d1, d2, Int.cast_ofNat_Int]
          refine lim 9 (by decide) hl9 _ _ ?_ ?_ ?_ ?_
          · simp only [reduceIte, Tr.get_set]
            rfl
          · simp only [reduceIte, Tr.get_set, g6, hb36]
          · simp only [rd_set, Nat.reduceEqDiff, reduceIte, r3]
          · simp only [rd_set, Nat.reduceEqDiff, reduceIte, r6]
        · simp only [↓cw_seq, ↓cw_cond, ↓cw_region, ↓then_normal, ↓block_normal, ↓draw_false, ↓ow_nil, ↓ow_cons, ↓ow_consG, ↓contO_eq, ↓op_move, ↓op_assign, ↓op_load, ↓op_store, ↓op_binOp, ↓op_unOp, ↓op_fieldAddr, ↓op_pick, ↓force_DC, ↓force_DO, vW_some, pW_some, bW_true, bW_false, ifW_some, setD_some, setD_none, on1_some, on2_some, ldV_eq, stV, biV_eq, faV_eq, pkV, opd, ofConst, leaf, rd_set, binV, intV, unV, isConst, loadV, fieldAddrV, take?, put, flat, AV.cells, undF, aggF, infF, Nat.reduceEqDiff, Nat.reduceAdd, Nat.reduceLeDiff, reduceIte, reduceCtorEq, Bool.or_true, List.length_cons, List.length_nil, List.getElem?_cons_zero, List.getElem?_cons_succ, List.drop_succ_cons, List.drop_zero, List.take_succ_cons, List.take_zero, List.set_cons_zero, List.set_cons_succ, Int.reduceBEq, beq_self_eq_true, Nat.zero_add, and_self, Bool.not_true, St.bump, storeV, Tr.get_set, wantG, Option.bind, Nat.add_assoc, List.size_toArray, r1, r3, g3, d1, d2, Int.cast_ofNat_Int]
          refine lim 9 (by decide) hl9 _ _ ?_ ?_ ?_ ?_
          · simp only [reduceIte, Tr.get_set]
            rfl
          · simp only [reduceIte, Tr.get_set, g6, hb36]
          · simp only [rd_set, Nat.reduceEqDiff, reduceIte, r3]
          · simp only [rd_set, Nat.reduceEqDiff, reduceIte, r6]
      all_goals
        have hnl : ¬ (m + 1 > 16384 ∨ (64 ≤ d ∧ (f = 6 ∨ f = 7))) := by
          first
            | exact lim_no hm1 (.inl hd6)
            | exact lim_no hm1 (.inr ⟨hd6, e6, e7⟩)
        first
          | (have d2 := d64_t hd6; simp only [↓cw_skip, ↓cw_seq, ↓cw_cond, ↓cw_region, ↓then_normal, ↓block_normal, ↓draw_false, ↓ow_nil, ↓ow_cons, ↓ow_consG, ↓contO_eq, ↓op_move, ↓op_assign, ↓op_load, ↓op_binOp, ↓op_unOp, ↓op_fieldAddr, ↓op_pick, ↓force_DC, ↓force_DO, vW_some, bW_true, bW_false, ifW_some, setD_some, on1_some, on2_some, ldV_eq, biV_eq, faV_eq, pkV, opd, ofConst, leaf, rd_set, binV, intV, unV, isConst, loadV, fieldAddrV, take?, undF, aggF, infF, Nat.reduceEqDiff, Nat.reduceAdd, Nat.reduceLeDiff, reduceIte, reduceCtorEq, Bool.or_true, List.length_cons, List.length_nil, List.getElem?_cons_zero, List.getElem?_cons_succ, List.drop_succ_cons, List.drop_zero, List.take_succ_cons, List.take_zero, beq_self_eq_true, Nat.zero_add, Bool.not_true, St.bump, Tr.get_set, wantG, Option.bind, Nat.add_assoc, List.size_toArray, r1, r3, g3, d1, d2, e6, e7])
          | (have d2 := d64_f hd6; simp only [↓cw_skip, ↓cw_seq, ↓cw_cond, ↓cw_region, ↓then_normal, ↓block_normal, ↓draw_false, ↓ow_nil, ↓ow_cons, ↓ow_consG, ↓contO_eq, ↓op_move, ↓op_assign, ↓op_load, ↓op_binOp, ↓op_unOp, ↓op_fieldAddr, ↓op_pick, ↓force_DC, ↓force_DO, ↓force_DOs, vW_some, bW_true, bW_false, ifW_some, setD_some, on1_some, on2_some, ldV_eq, biV_eq, faV_eq, pkV, opd, ofConst, leaf, rd_set, binV, intV, unV, isConst, loadV, fieldAddrV, take?, undF, aggF, infF, Nat.reduceEqDiff, Nat.reduceAdd, Nat.reduceLeDiff, reduceIte, reduceCtorEq, Bool.or_true, List.length_cons, List.length_nil, List.getElem?_cons_zero, List.getElem?_cons_succ, List.drop_succ_cons, List.drop_zero, List.take_succ_cons, List.take_zero, beq_self_eq_true, Nat.zero_add, Bool.not_true, St.bump, Tr.get_set, wantG, Option.bind, Nat.add_assoc, beqT, List.size_toArray, r1, r3, g3, d1, d2])
        refine fine hnl _ _ ?_ ?_ ?_ ?_ ?_ ?_ ?_ ?_ ?_ ?_ ?_ ?_ ?_ ?_
        · first | exact Fresh.of (by repeat (first | exact (Fresh.freeH hf (by omega)) | refine FreeH.set ?_ (by omega))) (by repeat (first | exact (Fresh.freeT hf (by omega)) | refine FreeT.set ?_ (by omega) | refine FreeT.via (by assumption) ?_ (by omega)))
        · exact hpb3 _
        · exact hpb6 _
        · simp only [reduceIte, Tr.get_set]
        · simp only [reduceIte, Tr.get_set, g6, hb36]
        · exact TokG.keep (σ := σ) ht rfl
        · exact hkk _
        · simp only [rd_set, Nat.reduceEqDiff, reduceIte, r1]
        · simp only [rd_set, Nat.reduceEqDiff, reduceIte, r2]
        · simp only [rd_set, Nat.reduceEqDiff, reduceIte, r3]
        · simp only [rd_set, Nat.reduceEqDiff, reduceIte, r6]
        · simp only [rd_set, Nat.reduceEqDiff, reduceIte, r9]
        · simp only [rd_set, Nat.reduceEqDiff, reduceIte, r10]
        · simp only [rd_set, Nat.reduceEqDiff, reduceIte]
end Go.Pv
