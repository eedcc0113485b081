/- The document's each and May, for all instructions. (PvZ6) -/
import Derived.Test.YtigcolhieieakaaDoorPvE4
import Derived.Test.YtigcolhieieakaaDoorPvE0
namespace Go.Pv
open Go Go.Proofs Go.RowKit
set_option linter.unusedVariables false
set_option linter.unusedSimpArgs false
set_option maxRecDepth 100000

theorem w_alone (f : Nat) (hf9 : f ≤ 9) (op : Nat) (n al off res : Int) (b e : L) (ls : List Int) : PureW TS 49 [iav op n al off res b.av e.av (u32s ls), .i .i64 f] (.b (selfI f op n al off res b e ls)) := by
  have hc : f = 0 ∨ f = 1 ∨ f = 2 ∨ f = 3 ∨ f = 4 ∨ f = 5 ∨ f = 6 ∨ f = 7 ∨ f = 8 ∨ f = 9 := by omega
  rcases hc with rfl | rfl | rfl | rfl | rfl | rfl | rfl | rfl | rfl | rfl
  · exact w_alone0 op n al off res b e ls
  · exact w_alone1 op n al off res b e ls
  · exact w_alone2 op n al off res b e ls
  · exact w_alone3 op n al off res b e ls
  · exact w_alone4 op n al off res b e ls
  · exact w_alone5 op n al off res b e ls
  · exact w_alone6 op n al off res b e ls
  · exact w_alone7 op n al off res b e ls
  · exact w_alone8 op n al off res b e ls
  · exact w_alone9 op n al off res b e ls

def rngR (f : Nat) (n : Int) (ls : List Int) : Bool :=
  if f = 1 then decide (-2147483648 ≤ n) && decide (n < 2147483648) else
  if f = 3 ∨ f = 9 then decide (0 ≤ n) && decide (n < 4294967296) else
  if f = 8 then decide (0 < ls.length) && decide (ls.length ≤ 257) else true
def L.reach : L → Nat → Bool
  | .nil, _ => true
  | .cons op n al off res b e ls r, d => (match formN op with
    | none => false
    | some f => selfI f op n al off res b e ls && (rngR f n ls && (if f = 6 ∨ f = 7 then decide (d < 64) && ((res == 0 || (res == 127 || res == 126)) && (b.reach (d + 1) && e.reach (d + 1))) else true))) && r.reach d

noncomputable def K31 : Code := cl (cr (cl (cr (fb Tryd.f31))))
set_option maxHeartbeats 8000000 in
theorem loop31 (l : L) (N deep : Nat) (H : ∀ l' : L, l'.sz < N → l'.wf → ∀ d, d ≤ 64 → PureW TS 31 [.sl l'.av 0, .i .i64 (d : Nat)] (.b (l'.reach d))) (Q : Ex → Fr → St → Prop) (hN : N < 1000000000) (hb : l.sz ≤ N) (hdp : deep ≤ 64)
    (h1 : l.reach deep = true → ∀ fr σ, Q (.exit 0) fr σ) (h2 : l.reach deep = false → ∀ fr σ, fr.rd 4 = .b false → Q .ret fr σ) :
    ∀ (r : L) i fr σ, Fresh σ → l.av.drop i = r.av → l.reach deep = r.reach deep → r.wf → r.sz ≤ N → fr.rd 0 = .sl l.av 0 → fr.rd 1 = .i .i64 (deep : Nat) → fr.rd 5 = .i .i64 i → CodeW TS K31 fr σ Q := by
  have hsl : l.len ≤ l.sz := Nat.le_trans (L.len_cnt l) (L.cnt_sz l)
  intro r
  induction r with
  | nil =>
    intro i fr σ hf hd ha hw hs r0 r1 r5
    have h1' := drop_nil hd
    rw [L.len_av] at h1'
    have hd : decide ((i : Int) < l.len) = false := decide_eq_false (by omega)
    simp only [K31, fb, Tryd.f31, cl, cr, Option.getD]
    rw [cw_loop]
    simp only [↓cw_exit, ↓cw_seq, ↓cw_cond, ↓cw_region, ↓then_normal, ↓then_exit, ↓draw_false, ↓ow_nil, ↓ow_cons, ↓contO_eq, ↓op_move, ↓op_binOp, ↓op_call, ↓force_DC, vW_some, pW_some, bW_false, ifW_some, setD_some, on2_some, biV_eq, arg_blt, opd, opds, pureV, rd_set, binV, intV, isConst, bltV, lenV, undF, Nat.reduceEqDiff, Nat.reduceAdd, reduceIte, reduceCtorEq, Bool.or_false, List.length_cons, List.length_nil, Nat.zero_add, St.bump, List.size_toArray, r0, r5, L.len_av, hd]
    exact h1 ha _ _
  | cons op n al off res b e ls r ihb ihe ih =>
    intro i fr σ hf hd ha hw hs r0 r1 r5
    obtain ⟨hx, h2', h3⟩ := drop_cons hd
    rw [L.len_av] at h3
    simp only [L.sz] at hs
    obtain ⟨hop, _, _, _, _, hbw, hew, _, hrw⟩ := hw
    have hlt : decide ((i : Int) < l.len) = true := decide_eq_true (by omega)
    have h0i : (0 : Int) ≤ i := by omega
    simp only [L.reach] at ha
    simp only [K31, fb, Tryd.f31, cl, cr, Option.getD]
    rw [cw_loop]
    simp only [↓cw_skip, ↓cw_seq, ↓cw_block, ↓cw_cond, ↓cw_region, ↓then_normal, ↓draw_false, ↓ow_nil, ↓ow_cons, ↓contO_eq, ↓op_move, ↓op_alloc, ↓op_load, ↓op_store, ↓op_binOp, ↓op_fieldAddr, ↓op_indexAddr, ↓op_call, ↓force_DC, vW_some, pW_some, bW_true, ifW_some, setD_some, setD_none, allocV, on1_some, on2_some, ldV_eq, stV, biV_eq, faV_eq, callV_some, arg_blt, arg_val, opd, opds, pureV, rd_set, binV, intV, isConst, bltV, lenV, idxAddrV, loadV, fieldAddrV, take?, put, flat, AV.cells, undF, aggF, infF, Nat.reduceEqDiff, Nat.reduceAdd, Nat.reduceLeDiff, reduceIte, reduceCtorEq, Bool.or_false, List.length_cons, List.length_nil, List.getElem?_cons_zero, List.append_nil, List.drop_zero, List.take_succ_cons, List.take_zero, List.set_cons_zero, List.set_cons_succ, Nat.add_zero, Nat.zero_add, and_self, newBox, St.bump, storeV, Tr.get_set, Nat.add_assoc, Int.toNat_natCast, boxFree, List.size_toArray, r0, r5, L.len_av, hlt, h0i, hx, iav, hf.hb]
    refine pc34.call rfl (w_rform op hop) ?_
    cases hfn : formN op with
    | none =>
      rw [hfn] at ha
      simp only [rformV, hfn]
      simp only [↓cw_ret, ↓cw_seq, ↓cw_cond, ↓cw_region, ↓then_normal, ↓then_ret, ↓block_ret, ↓draw_false, ↓ow_nil, ↓ow_cons, ↓ow_consG, ↓contO_eq, ↓op_move, ↓op_assign, ↓op_unOp, ↓op_extract, ↓op_pick, ↓force_DC, ↓force_DOs, vW_some, bW_true, bW_false, ifW_some, setD_some, on1_some, exV, pkV, opd, ofConst, leaf, rd_set, unV, Nat.reduceEqDiff, Nat.reduceAdd, reduceIte, List.length_cons, List.length_nil, List.getElem?_cons_zero, List.getElem?_cons_succ, Nat.zero_add, Bool.not_true, Bool.not_false, St.bump, wantG, Option.bind, Nat.add_assoc, beqF, List.size_toArray]
      exact h2 (by rw [ha]; rfl) _ _ (by simp only [rd_set, Nat.reduceEqDiff, reduceIte])
    | some f =>
      rw [hfn] at ha
      simp only at ha
      have hf9 := form_le _ _ hfn
      simp only [rformV, hfn]
      simp only [↓cw_seq, ↓cw_region, ↓then_normal, ↓draw_false, ↓ow_nil, ↓ow_cons, ↓ow_consG, ↓contO_eq, ↓op_move, ↓op_assign, ↓op_load, ↓op_unOp, ↓op_extract, ↓op_call, ↓force_DO, vW_some, bW_true, setD_some, on1_some, ldV_eq, exV, callV_some, arg_val, opd, opds, rd_set, unV, loadV, take?, aggF, infF, Nat.reduceEqDiff, Nat.reduceAdd, Nat.reduceLeDiff, reduceIte, List.length_cons, List.length_nil, List.getElem?_cons_zero, List.getElem?_cons_succ, List.append_nil, List.drop_zero, List.take_succ_cons, List.take_zero, beq_self_eq_true, Nat.zero_add, Bool.not_true, St.bump, Tr.get_set, wantG, Option.bind, Nat.add_assoc, List.size_toArray]
      refine pc49.call (by simp [untok, AV.strip, AV.strip0, Go.Pv.goods, Go.Pv.good, L.goods, goods_u32s]) (w_alone f hf9 op n al off res b e ls) ?_
      cases hsi : selfI f op n al off res b e ls with
      | false =>
        rw [hsi] at ha
        simp only [↓cw_ret, ↓cw_seq, ↓cw_cond, ↓cw_region, ↓then_normal, ↓then_ret, ↓block_ret, ↓draw_false, ↓ow_nil, ↓ow_cons, ↓ow_consG, ↓contO_eq, ↓op_assign, ↓op_unOp, ↓op_pick, ↓force_DC, ↓force_DO, vW_some, bW_true, ifW_some, setD_some, on1_some, pkV, opd, ofConst, leaf, rd_set, unV, Nat.reduceEqDiff, Nat.reduceAdd, reduceIte, List.length_cons, List.length_nil, List.getElem?_cons_zero, List.getElem?_cons_succ, beq_self_eq_true, Nat.zero_add, Bool.not_false, St.bump, wantG, Option.bind, Nat.add_assoc, List.size_toArray]
        exact h2 (by rw [ha]; rfl) _ _ (by simp only [rd_set, Nat.reduceEqDiff, reduceIte])
      | true =>
        rw [hsi, Bool.true_and] at ha
        -- on to the next one
        have next : ∀ (fr' : Fr) (σ' : St), Fresh σ' → (l.reach deep = r.reach deep) → fr'.rd 0 = .sl l.av 0 → fr'.rd 1 = .i .i64 (deep : Nat) → fr'.rd 5 = .i .i64 ((i + 1 : Nat) : Int) → CodeW TS K31 fr' σ' Q := fun fr' σ' q1 q2 q3 q4 q5 => ih (i + 1) fr' σ' q1 h2' q2 hrw (by omega) q3 q4 q5
        have hc : f = 0 ∨ f = 1 ∨ f = 2 ∨ f = 3 ∨ f = 4 ∨ f = 5 ∨ f = 6 ∨ f = 7 ∨ f = 8 ∨ f = 9 := by omega
        clear hfn hsi hf9
        rcases hc with rfl | rfl | rfl | rfl | rfl | rfl | rfl | rfl | rfl | rfl
        · simp only [↓cw_skip, ↓cw_exit, ↓cw_seq, ↓cw_cond, ↓cw_region, ↓then_normal, ↓then_exit, ↓draw_false, ↓ow_nil, ↓ow_cons, ↓ow_consG, ↓contO_eq, ↓op_move, ↓op_assign, ↓op_binOp, ↓op_unOp, ↓op_pick, ↓force_DC, ↓force_DQ, ↓force_DO, ↓force_DOs, block_exit, vW_some, bW_true, bW_false, ifW_some, setD_some, on1_some, on2_some, biV_eq, pkV, nbeq, opd, ofConst, leaf, rd_set, binV, intV, unV, isConst, Nat.reduceEqDiff, Nat.reduceAdd, reduceIte, Bool.or_true, List.length_cons, List.length_nil, List.getElem?_cons_zero, List.getElem?_cons_succ, Int.reduceBEq, Int.reduceBNe, beq_self_eq_true, Nat.zero_add, Bool.not_true, St.bump, wantG, Option.bind, Nat.add_assoc, beqT, List.size_toArray, Int.cast_ofNat_Int, r5, fw_add1 (n := i) (by omega)]
          refine next _ _ ?_ (by rw [ha]; simp [rngR]) ?_ ?_ ?_
          · first | exact Fresh.of (by repeat (first | exact (Fresh.freeH hf (by omega)) | refine FreeH.set ?_ (by omega))) (by repeat (first | exact (Fresh.freeT hf (by omega)) | refine FreeT.set ?_ (by omega) | refine FreeT.via (by assumption) ?_ (by omega)))
          all_goals simp only [rd_set, Nat.reduceEqDiff, reduceIte, reduceCtorEq, r0, r1, r5]
        · by_cases hlo : n < -2147483648
          · have hlo' : decide (n < -2147483648) = true := decide_eq_true hlo
            simp only [↓cw_skip, ↓cw_ret, ↓cw_seq, ↓cw_cond, ↓cw_region, ↓then_normal, ↓then_ret, ↓block_ret, ↓draw_false, ↓ow_nil, ↓ow_cons, ↓ow_consG, ↓contO_eq, ↓op_move, ↓op_assign, ↓op_load, ↓op_binOp, ↓op_unOp, ↓op_fieldAddr, ↓op_pick, ↓force_DC, ↓force_DO, ↓force_DOs, vW_some, bW_true, bW_false, ifW_some, setD_some, on1_some, on2_some, ldV_eq, biV_eq, faV_eq, pkV, opd, ofConst, leaf, rd_set, binV, intV, unV, isConst, loadV, fieldAddrV, take?, undF, aggF, infF, Nat.reduceEqDiff, Nat.reduceAdd, Nat.reduceLeDiff, reduceIte, reduceCtorEq, Bool.or_true, List.length_cons, List.length_nil, List.getElem?_cons_zero, List.getElem?_cons_succ, List.drop_succ_cons, List.drop_zero, List.take_succ_cons, List.take_zero, beq_self_eq_true, Nat.zero_add, Bool.not_true, St.bump, Tr.get_set, wantG, Option.bind, Nat.add_assoc, beqF, List.size_toArray, Int.cast_ofNat_Int, hlo']
            exact h2 (by rw [ha]; simp [rngR]; intros; omega) _ _ (by simp only [rd_set, Nat.reduceEqDiff, reduceIte])
          · have hlo' : decide (n < -2147483648) = false := decide_eq_false hlo
            by_cases hhi : n ≥ 2147483648
            · have hhi' : decide (n ≥ 2147483648) = true := decide_eq_true hhi
              simp only [↓cw_skip, ↓cw_ret, ↓cw_seq, ↓cw_cond, ↓cw_region, ↓then_normal, ↓then_ret, ↓block_ret, ↓draw_false, ↓ow_nil, ↓ow_cons, ↓ow_consG, ↓contO_eq, ↓op_move, ↓op_assign, ↓op_load, ↓op_binOp, ↓op_unOp, ↓op_fieldAddr, ↓op_pick, ↓force_DC, ↓force_DO, ↓force_DOs, vW_some, bW_true, bW_false, ifW_some, setD_some, on1_some, on2_some, ldV_eq, biV_eq, faV_eq, pkV, opd, ofConst, leaf, rd_set, binV, intV, unV, isConst, loadV, fieldAddrV, take?, undF, aggF, infF, Nat.reduceEqDiff, Nat.reduceAdd, Nat.reduceLeDiff, reduceIte, reduceCtorEq, Bool.or_true, List.length_cons, List.length_nil, List.getElem?_cons_zero, List.getElem?_cons_succ, List.drop_succ_cons, List.drop_zero, List.take_succ_cons, List.take_zero, beq_self_eq_true, Nat.zero_add, Bool.not_true, St.bump, Tr.get_set, wantG, Option.bind, Nat.add_assoc, beqF, List.size_toArray, Int.cast_ofNat_Int, hlo', hhi']
              exact h2 (by rw [ha]; simp [rngR]; intros; omega) _ _ (by simp only [rd_set, Nat.reduceEqDiff, reduceIte])
            · have hhi' : decide (n ≥ 2147483648) = false := decide_eq_false hhi
              simp only [↓cw_skip, ↓cw_exit, ↓cw_seq, ↓cw_cond, ↓cw_region, ↓then_normal, ↓then_exit, ↓draw_false, ↓ow_nil, ↓ow_cons, ↓ow_consG, ↓contO_eq, ↓op_move, ↓op_assign, ↓op_load, ↓op_binOp, ↓op_unOp, ↓op_fieldAddr, ↓op_pick, ↓force_DC, ↓force_DQ, ↓force_DO, ↓force_DOs, block_exit, vW_some, bW_true, bW_false, ifW_some, setD_some, on1_some, on2_some, ldV_eq, biV_eq, faV_eq, pkV, nbeq, opd, ofConst, leaf, rd_set, binV, intV, unV, isConst, loadV, fieldAddrV, take?, undF, aggF, infF, Nat.reduceEqDiff, Nat.reduceAdd, Nat.reduceLeDiff, reduceIte, reduceCtorEq, Bool.or_true, List.length_cons, List.length_nil, List.getElem?_cons_zero, List.getElem?_cons_succ, List.drop_succ_cons, List.drop_zero, List.take_succ_cons, List.take_zero, Int.reduceBEq, Int.reduceBNe, beq_self_eq_true, Nat.zero_add, Bool.not_true, St.bump, Tr.get_set, wantG, Option.bind, Nat.add_assoc, beqT, List.size_toArray, Int.cast_ofNat_Int, r5, fw_add1 (n := i) (by omega), hlo', hhi']
              refine next _ _ ?_ (by rw [ha]; simp [rngR]; intros; omega) ?_ ?_ ?_
              · first | exact Fresh.of (by repeat (first | exact (Fresh.freeH hf (by omega)) | refine FreeH.set ?_ (by omega))) (by repeat (first | exact (Fresh.freeT hf (by omega)) | refine FreeT.set ?_ (by omega) | refine FreeT.via (by assumption) ?_ (by omega)))
              all_goals simp only [rd_set, Nat.reduceEqDiff, reduceIte, reduceCtorEq, r0, r1, r5]
        · simp only [↓cw_skip, ↓cw_exit, ↓cw_seq, ↓cw_cond, ↓cw_region, ↓then_normal, ↓then_exit, ↓draw_false, ↓ow_nil, ↓ow_cons, ↓ow_consG, ↓contO_eq, ↓op_move, ↓op_assign, ↓op_binOp, ↓op_unOp, ↓op_pick, ↓force_DC, ↓force_DQ, ↓force_DO, ↓force_DOs, block_exit, vW_some, bW_true, bW_false, ifW_some, setD_some, on1_some, on2_some, biV_eq, pkV, nbeq, opd, ofConst, leaf, rd_set, binV, intV, unV, isConst, Nat.reduceEqDiff, Nat.reduceAdd, reduceIte, Bool.or_true, List.length_cons, List.length_nil, List.getElem?_cons_zero, List.getElem?_cons_succ, Int.reduceBEq, Int.reduceBNe, beq_self_eq_true, Nat.zero_add, Bool.not_true, St.bump, wantG, Option.bind, Nat.add_assoc, beqT, List.size_toArray, Int.cast_ofNat_Int, r5, fw_add1 (n := i) (by omega)]
          refine next _ _ ?_ (by rw [ha]; simp [rngR]) ?_ ?_ ?_
          · first | exact Fresh.of (by repeat (first | exact (Fresh.freeH hf (by omega)) | refine FreeH.set ?_ (by omega))) (by repeat (first | exact (Fresh.freeT hf (by omega)) | refine FreeT.set ?_ (by omega) | refine FreeT.via (by assumption) ?_ (by omega)))
          all_goals simp only [rd_set, Nat.reduceEqDiff, reduceIte, reduceCtorEq, r0, r1, r5]
        · by_cases hlo : n < 0
          · have hlo' : decide (n < 0) = true := decide_eq_true hlo
            simp only [↓cw_skip, ↓cw_ret, ↓cw_seq, ↓cw_cond, ↓cw_region, ↓then_normal, ↓then_ret, ↓block_ret, ↓draw_false, ↓ow_nil, ↓ow_cons, ↓ow_consG, ↓contO_eq, ↓op_move, ↓op_assign, ↓op_load, ↓op_binOp, ↓op_unOp, ↓op_fieldAddr, ↓op_pick, ↓force_DC, ↓force_DO, ↓force_DOs, vW_some, bW_true, bW_false, ifW_some, setD_some, on1_some, on2_some, ldV_eq, biV_eq, faV_eq, pkV, opd, ofConst, leaf, rd_set, binV, intV, unV, isConst, loadV, fieldAddrV, take?, undF, aggF, infF, Nat.reduceEqDiff, Nat.reduceAdd, Nat.reduceLeDiff, reduceIte, reduceCtorEq, Bool.or_true, List.length_cons, List.length_nil, List.getElem?_cons_zero, List.getElem?_cons_succ, List.drop_succ_cons, List.drop_zero, List.take_succ_cons, List.take_zero, Int.reduceBEq, beq_self_eq_true, Nat.zero_add, Bool.not_true, St.bump, Tr.get_set, wantG, Option.bind, Nat.add_assoc, beqT, beqF, List.size_toArray, Int.cast_ofNat_Int, hlo']
            exact h2 (by rw [ha]; simp [rngR]; intros; omega) _ _ (by simp only [rd_set, Nat.reduceEqDiff, reduceIte])
          · have hlo' : decide (n < 0) = false := decide_eq_false hlo
            by_cases hhi : n ≥ 4294967296
            · have hhi' : decide (n ≥ 4294967296) = true := decide_eq_true hhi
              simp only [↓cw_skip, ↓cw_ret, ↓cw_seq, ↓cw_cond, ↓cw_region, ↓then_normal, ↓then_ret, ↓block_ret, ↓draw_false, ↓ow_nil, ↓ow_cons, ↓ow_consG, ↓contO_eq, ↓op_move, ↓op_assign, ↓op_load, ↓op_binOp, ↓op_unOp, ↓op_fieldAddr, ↓op_pick, ↓force_DC, ↓force_DO, ↓force_DOs, vW_some, bW_true, bW_false, ifW_some, setD_some, on1_some, on2_some, ldV_eq, biV_eq, faV_eq, pkV, opd, ofConst, leaf, rd_set, binV, intV, unV, isConst, loadV, fieldAddrV, take?, undF, aggF, infF, Nat.reduceEqDiff, Nat.reduceAdd, Nat.reduceLeDiff, reduceIte, reduceCtorEq, Bool.or_true, List.length_cons, List.length_nil, List.getElem?_cons_zero, List.getElem?_cons_succ, List.drop_succ_cons, List.drop_zero, List.take_succ_cons, List.take_zero, Int.reduceBEq, beq_self_eq_true, Nat.zero_add, Bool.not_true, St.bump, Tr.get_set, wantG, Option.bind, Nat.add_assoc, beqT, beqF, List.size_toArray, Int.cast_ofNat_Int, hlo', hhi']
              exact h2 (by rw [ha]; simp [rngR]; intros; omega) _ _ (by simp only [rd_set, Nat.reduceEqDiff, reduceIte])
            · have hhi' : decide (n ≥ 4294967296) = false := decide_eq_false hhi
              simp only [↓cw_skip, ↓cw_exit, ↓cw_seq, ↓cw_cond, ↓cw_region, ↓then_normal, ↓then_exit, ↓draw_false, ↓ow_nil, ↓ow_cons, ↓ow_consG, ↓contO_eq, ↓op_move, ↓op_assign, ↓op_load, ↓op_binOp, ↓op_unOp, ↓op_fieldAddr, ↓op_pick, ↓force_DC, ↓force_DQ, ↓force_DO, ↓force_DOs, block_exit, vW_some, bW_true, bW_false, ifW_some, setD_some, on1_some, on2_some, ldV_eq, biV_eq, faV_eq, pkV, nbeq, opd, ofConst, leaf, rd_set, binV, intV, unV, isConst, loadV, fieldAddrV, take?, undF, aggF, infF, Nat.reduceEqDiff, Nat.reduceAdd, Nat.reduceLeDiff, reduceIte, reduceCtorEq, Bool.or_true, List.length_cons, List.length_nil, List.getElem?_cons_zero, List.getElem?_cons_succ, List.drop_succ_cons, List.drop_zero, List.take_succ_cons, List.take_zero, Int.reduceBEq, Int.reduceBNe, beq_self_eq_true, Nat.zero_add, Bool.not_true, St.bump, Tr.get_set, wantG, Option.bind, Nat.add_assoc, beqT, beqF, List.size_toArray, Int.cast_ofNat_Int, r5, fw_add1 (n := i) (by omega), hlo', hhi']
              refine next _ _ ?_ (by rw [ha]; simp [rngR]; intros; omega) ?_ ?_ ?_
              · first | exact Fresh.of (by repeat (first | exact (Fresh.freeH hf (by omega)) | refine FreeH.set ?_ (by omega))) (by repeat (first | exact (Fresh.freeT hf (by omega)) | refine FreeT.set ?_ (by omega) | refine FreeT.via (by assumption) ?_ (by omega)))
              all_goals simp only [rd_set, Nat.reduceEqDiff, reduceIte, reduceCtorEq, r0, r1, r5]
        · simp only [↓cw_skip, ↓cw_exit, ↓cw_seq, ↓cw_cond, ↓cw_region, ↓then_normal, ↓then_exit, ↓draw_false, ↓ow_nil, ↓ow_cons, ↓ow_consG, ↓contO_eq, ↓op_move, ↓op_assign, ↓op_binOp, ↓op_unOp, ↓op_pick, ↓force_DC, ↓force_DQ, ↓force_DO, ↓force_DOs, block_exit, vW_some, bW_true, bW_false, ifW_some, setD_some, on1_some, on2_some, biV_eq, pkV, nbeq, opd, ofConst, leaf, rd_set, binV, intV, unV, isConst, Nat.reduceEqDiff, Nat.reduceAdd, reduceIte, Bool.or_true, List.length_cons, List.length_nil, List.getElem?_cons_zero, List.getElem?_cons_succ, Int.reduceBEq, Int.reduceBNe, beq_self_eq_true, Nat.zero_add, Bool.not_true, St.bump, wantG, Option.bind, Nat.add_assoc, beqT, List.size_toArray, Int.cast_ofNat_Int, r5, fw_add1 (n := i) (by omega)]
          refine next _ _ ?_ (by rw [ha]; simp [rngR]) ?_ ?_ ?_
          · first | exact Fresh.of (by repeat (first | exact (Fresh.freeH hf (by omega)) | refine FreeH.set ?_ (by omega))) (by repeat (first | exact (Fresh.freeT hf (by omega)) | refine FreeT.set ?_ (by omega) | refine FreeT.via (by assumption) ?_ (by omega)))
          all_goals simp only [rd_set, Nat.reduceEqDiff, reduceIte, reduceCtorEq, r0, r1, r5]
        · simp only [↓cw_skip, ↓cw_exit, ↓cw_seq, ↓cw_cond, ↓cw_region, ↓then_normal, ↓then_exit, ↓draw_false, ↓ow_nil, ↓ow_cons, ↓ow_consG, ↓contO_eq, ↓op_move, ↓op_assign, ↓op_binOp, ↓op_unOp, ↓op_pick, ↓force_DC, ↓force_DQ, ↓force_DO, ↓force_DOs, block_exit, vW_some, bW_true, bW_false, ifW_some, setD_some, on1_some, on2_some, biV_eq, pkV, nbeq, opd, ofConst, leaf, rd_set, binV, intV, unV, isConst, Nat.reduceEqDiff, Nat.reduceAdd, reduceIte, Bool.or_true, List.length_cons, List.length_nil, List.getElem?_cons_zero, List.getElem?_cons_succ, Int.reduceBEq, Int.reduceBNe, beq_self_eq_true, Nat.zero_add, Bool.not_true, St.bump, wantG, Option.bind, Nat.add_assoc, beqT, List.size_toArray, Int.cast_ofNat_Int, r5, fw_add1 (n := i) (by omega)]
          refine next _ _ ?_ (by rw [ha]; simp [rngR]) ?_ ?_ ?_
          · first | exact Fresh.of (by repeat (first | exact (Fresh.freeH hf (by omega)) | refine FreeH.set ?_ (by omega))) (by repeat (first | exact (Fresh.freeT hf (by omega)) | refine FreeT.set ?_ (by omega) | refine FreeT.via (by assumption) ?_ (by omega)))
          all_goals simp only [rd_set, Nat.reduceEqDiff, reduceIte, reduceCtorEq, r0, r1, r5]
        · rw [show rngR 6 n ls = true from by simp [rngR], Bool.true_and, if_pos (by omega)] at ha
          by_cases hd64 : deep < 64
          rotate_left
          · have hd' : decide ((deep : Int) ≥ 64) = true := decide_eq_true (by omega)
            simp only [↓cw_skip, ↓cw_ret, ↓cw_seq, ↓cw_cond, ↓cw_region, ↓then_normal, ↓then_ret, ↓block_ret, ↓draw_false, ↓ow_nil, ↓ow_cons, ↓ow_consG, ↓contO_eq, ↓op_move, ↓op_assign, ↓op_binOp, ↓op_unOp, ↓op_pick, ↓force_DC, ↓force_DO, ↓force_DOs, vW_some, bW_true, bW_false, ifW_some, setD_some, on1_some, on2_some, biV_eq, pkV, opd, ofConst, leaf, rd_set, binV, intV, unV, isConst, Nat.reduceEqDiff, Nat.reduceAdd, reduceIte, Bool.or_true, List.length_cons, List.length_nil, List.getElem?_cons_zero, List.getElem?_cons_succ, Int.reduceBEq, Int.reduceBNe, beq_self_eq_true, Nat.zero_add, Bool.not_true, St.bump, wantG, Option.bind, Nat.add_assoc, beqT, beqF, List.size_toArray, Int.cast_ofNat_Int, r1, hd']
            exact h2 (by rw [ha]; simp [hd64]) _ _ (by simp only [rd_set, Nat.reduceEqDiff, reduceIte])
          rw [decide_eq_true hd64, Bool.true_and] at ha
          have hd' : decide ((deep : Int) ≥ 64) = false := decide_eq_false (by omega)
          have hcall : ∀ (fr' : Fr) (σ' : St), True := fun _ _ => trivial
          by_cases hres : res = 0 ∨ res = 127 ∨ res = 126
          rotate_left
          · have q1 : (res != 0) = true := by simp; omega
            have q2 : (res != 127) = true := by simp; omega
            have q3 : (res != 126) = true := by simp; omega
            simp only [↓cw_skip, ↓cw_ret, ↓cw_seq, ↓cw_cond, ↓cw_region, ↓then_normal, ↓then_ret, ↓block_ret, ↓draw_false, ↓ow_nil, ↓ow_cons, ↓ow_consG, ↓contO_eq, ↓op_move, ↓op_assign, ↓op_load, ↓op_binOp, ↓op_unOp, ↓op_fieldAddr, ↓op_pick, ↓force_DC, ↓force_DO, ↓force_DOs, vW_some, bW_true, bW_false, ifW_some, setD_some, on1_some, on2_some, ldV_eq, biV_eq, faV_eq, pkV, opd, ofConst, leaf, rd_set, binV, intV, unV, isConst, loadV, fieldAddrV, take?, undF, aggF, infF, Nat.reduceEqDiff, Nat.reduceAdd, Nat.reduceLeDiff, reduceIte, reduceCtorEq, Bool.or_true, List.length_cons, List.length_nil, List.getElem?_cons_zero, List.getElem?_cons_succ, List.drop_succ_cons, List.drop_zero, List.take_succ_cons, List.take_zero, Int.reduceBEq, Int.reduceBNe, beq_self_eq_true, Nat.zero_add, Bool.not_true, St.bump, Tr.get_set, wantG, Option.bind, Nat.add_assoc, beqT, beqF, List.size_toArray, Int.cast_ofNat_Int, r1, hd', q1, q2, q3]
            exact h2 (by rw [ha]; rw [show (res == 0 || (res == 127 || res == 126)) = false from by simp; omega]; rfl) _ _ (by simp only [rd_set, Nat.reduceEqDiff, reduceIte])
          rw [show (res == 0 || (res == 127 || res == 126)) = true from by simpa using hres, Bool.true_and] at ha
          rcases hres with rfl | rfl | rfl
          all_goals
            simp only [↓cw_skip, ↓cw_seq, ↓cw_cond, ↓cw_region, ↓then_normal, ↓draw_false, ↓ow_nil, ↓ow_cons, ↓ow_consG, ↓contO_eq, ↓op_move, ↓op_load, ↓op_binOp, ↓op_unOp, ↓op_fieldAddr, ↓op_pick, ↓op_call, ↓force_DC, ↓force_DO, ↓force_DOs, vW_some, bW_true, bW_false, ifW_some, setD_some, on1_some, on2_some, ldV_eq, biV_eq, faV_eq, pkV, callV_some, arg_val, opd, opds, ofConst, leaf, rd_set, binV, intV, unV, isConst, loadV, fieldAddrV, take?, undF, aggF, infF, Nat.reduceEqDiff, Nat.reduceAdd, Nat.reduceLeDiff, reduceIte, reduceCtorEq, Bool.or_true, List.length_cons, List.length_nil, List.getElem?_cons_zero, List.getElem?_cons_succ, List.append_nil, List.drop_succ_cons, List.drop_zero, List.take_succ_cons, List.take_zero, Int.reduceBEq, beq_self_eq_true, Nat.zero_add, Bool.not_true, St.bump, Tr.get_set, wantG, Option.bind, Nat.add_assoc, beqT, List.size_toArray, Int.cast_ofNat_Int, r1, hd', bne_self_eq_false, show ((127 : Int) != 0) = true from rfl, show ((126 : Int) != 0) = true from rfl, show ((126 : Int) != 127) = true from rfl, fw_add1 (n := deep) (by omega)]
            refine pc31.call (by simp [untok, AV.strip, Go.Pv.goods, Go.Pv.good, L.goods]) (H b (by omega) hbw (deep + 1) (by omega)) ?_
            cases hbe : b.reach (deep + 1) with
            | false =>
              rw [hbe] at ha
              simp only [↓cw_ret, ↓cw_seq, ↓cw_cond, ↓cw_region, ↓then_normal, ↓then_ret, ↓block_ret, ↓draw_false, ↓ow_nil, ↓ow_cons, ↓ow_consG, ↓contO_eq, ↓op_move, ↓op_assign, ↓op_unOp, ↓op_pick, ↓force_DC, ↓force_DO, ↓force_DOs, vW_some, bW_true, bW_false, ifW_some, setD_some, on1_some, pkV, opd, ofConst, leaf, rd_set, unV, Nat.reduceEqDiff, Nat.reduceAdd, reduceIte, List.length_cons, List.length_nil, List.getElem?_cons_zero, List.getElem?_cons_succ, beq_self_eq_true, Nat.zero_add, Bool.not_true, Bool.not_false, St.bump, wantG, Option.bind, Nat.add_assoc, beqF, List.size_toArray]
              exact h2 (by rw [ha]; rfl) _ _ (by simp only [rd_set, Nat.reduceEqDiff, reduceIte])
            | true =>
              rw [hbe, Bool.true_and] at ha
              simp only [↓ow_cons, ↓ow_consG, ↓contO_eq, ↓op_move, ↓op_load, ↓op_binOp, ↓op_unOp, ↓op_fieldAddr, ↓op_pick, ↓op_call, ↓force_DO, vW_some, bW_true, setD_some, on1_some, on2_some, ldV_eq, biV_eq, faV_eq, pkV, callV_some, arg_val, opd, opds, ofConst, leaf, rd_set, binV, intV, unV, isConst, loadV, fieldAddrV, take?, undF, aggF, infF, Nat.reduceEqDiff, Nat.reduceAdd, Nat.reduceLeDiff, reduceIte, reduceCtorEq, Bool.or_true, List.length_cons, List.length_nil, List.getElem?_cons_zero, List.getElem?_cons_succ, List.append_nil, List.drop_succ_cons, List.drop_zero, List.take_succ_cons, List.take_zero, beq_self_eq_true, Nat.zero_add, Bool.not_true, Tr.get_set, wantG, Option.bind, r1, fw_add1 (n := deep) (by omega)]
              refine pc31.call (by simp [untok, AV.strip, Go.Pv.goods, Go.Pv.good, L.goods]) (H e (by omega) hew (deep + 1) (by omega)) ?_
              cases hee : e.reach (deep + 1) with
              | false =>
                rw [hee] at ha
                simp only [↓cw_ret, ↓cw_seq, ↓cw_cond, ↓cw_region, ↓then_normal, ↓then_ret, ↓block_ret, ↓draw_false, ↓ow_nil, ↓ow_cons, ↓ow_consG, ↓contO_eq, ↓op_assign, ↓op_unOp, ↓op_pick, ↓force_DC, ↓force_DO, vW_some, bW_true, ifW_some, setD_some, on1_some, pkV, opd, ofConst, leaf, rd_set, unV, Nat.reduceEqDiff, Nat.reduceAdd, reduceIte, List.length_cons, List.length_nil, List.getElem?_cons_zero, List.getElem?_cons_succ, beq_self_eq_true, Nat.zero_add, Bool.not_false, St.bump, wantG, Option.bind, Nat.add_assoc, List.size_toArray]
                exact h2 (by rw [ha]; rfl) _ _ (by simp only [rd_set, Nat.reduceEqDiff, reduceIte])
              | true =>
                rw [hee, Bool.true_and] at ha
                simp only [↓cw_skip, ↓cw_cond, ↓cw_region, ↓then_normal, ↓block_normal, ↓draw_false, ↓ow_nil, ↓ow_cons, ↓ow_consG, ↓contO_eq, ↓op_move, ↓op_assign, ↓op_binOp, ↓op_unOp, ↓op_pick, ↓force_DC, ↓force_DO, vW_some, bW_true, bW_false, ifW_some, setD_some, on1_some, on2_some, biV_eq, pkV, opd, ofConst, leaf, rd_set, binV, intV, unV, isConst, Nat.reduceEqDiff, Nat.reduceAdd, reduceIte, Bool.or_true, List.length_cons, List.length_nil, List.getElem?_cons_zero, List.getElem?_cons_succ, beq_self_eq_true, Nat.zero_add, Bool.not_true, St.bump, wantG, Option.bind, Nat.add_assoc, List.size_toArray, r5, fw_add1 (n := i) (by omega)]
                refine next _ _ ?_ (by first | exact ha | simpa using ha) ?_ ?_ ?_
                · first | exact Fresh.of (by repeat (first | exact (Fresh.freeH hf (by omega)) | refine FreeH.set ?_ (by omega))) (by repeat (first | exact (Fresh.freeT hf (by omega)) | refine FreeT.set ?_ (by omega) | refine FreeT.via (by assumption) ?_ (by omega)))
                all_goals simp only [rd_set, Nat.reduceEqDiff, reduceIte, reduceCtorEq, r0, r1, r5]
        · rw [show rngR 7 n ls = true from by simp [rngR], Bool.true_and, if_pos (by omega)] at ha
          by_cases hd64 : deep < 64
          rotate_left
          · have hd' : decide ((deep : Int) ≥ 64) = true := decide_eq_true (by omega)
            simp only [↓cw_skip, ↓cw_ret, ↓cw_seq, ↓cw_cond, ↓cw_region, ↓then_normal, ↓then_ret, ↓block_ret, ↓draw_false, ↓ow_nil, ↓ow_cons, ↓ow_consG, ↓contO_eq, ↓op_move, ↓op_assign, ↓op_binOp, ↓op_unOp, ↓op_pick, ↓force_DC, ↓force_DO, ↓force_DOs, vW_some, bW_true, bW_false, ifW_some, setD_some, on1_some, on2_some, biV_eq, pkV, opd, ofConst, leaf, rd_set, binV, intV, unV, isConst, Nat.reduceEqDiff, Nat.reduceAdd, reduceIte, Bool.or_true, List.length_cons, List.length_nil, List.getElem?_cons_zero, List.getElem?_cons_succ, Int.reduceBEq, Int.reduceBNe, beq_self_eq_true, Nat.zero_add, Bool.not_true, St.bump, wantG, Option.bind, Nat.add_assoc, beqT, beqF, List.size_toArray, Int.cast_ofNat_Int, r1, hd']
            exact h2 (by rw [ha]; simp [hd64]) _ _ (by simp only [rd_set, Nat.reduceEqDiff, reduceIte])
          rw [decide_eq_true hd64, Bool.true_and] at ha
          have hd' : decide ((deep : Int) ≥ 64) = false := decide_eq_false (by omega)
          have hcall : ∀ (fr' : Fr) (σ' : St), True := fun _ _ => trivial
          by_cases hres : res = 0 ∨ res = 127 ∨ res = 126
          rotate_left
          · have q1 : (res != 0) = true := by simp; omega
            have q2 : (res != 127) = true := by simp; omega
            have q3 : (res != 126) = true := by simp; omega
            simp only [↓cw_skip, ↓cw_ret, ↓cw_seq, ↓cw_cond, ↓cw_region, ↓then_normal, ↓then_ret, ↓block_ret, ↓draw_false, ↓ow_nil, ↓ow_cons, ↓ow_consG, ↓contO_eq, ↓op_move, ↓op_assign, ↓op_load, ↓op_binOp, ↓op_unOp, ↓op_fieldAddr, ↓op_pick, ↓force_DC, ↓force_DO, ↓force_DOs, vW_some, bW_true, bW_false, ifW_some, setD_some, on1_some, on2_some, ldV_eq, biV_eq, faV_eq, pkV, opd, ofConst, leaf, rd_set, binV, intV, unV, isConst, loadV, fieldAddrV, take?, undF, aggF, infF, Nat.reduceEqDiff, Nat.reduceAdd, Nat.reduceLeDiff, reduceIte, reduceCtorEq, Bool.or_true, List.length_cons, List.length_nil, List.getElem?_cons_zero, List.getElem?_cons_succ, List.drop_succ_cons, List.drop_zero, List.take_succ_cons, List.take_zero, Int.reduceBEq, Int.reduceBNe, beq_self_eq_true, Nat.zero_add, Bool.not_true, St.bump, Tr.get_set, wantG, Option.bind, Nat.add_assoc, beqT, beqF, List.size_toArray, Int.cast_ofNat_Int, r1, hd', q1, q2, q3]
            exact h2 (by rw [ha]; rw [show (res == 0 || (res == 127 || res == 126)) = false from by simp; omega]; rfl) _ _ (by simp only [rd_set, Nat.reduceEqDiff, reduceIte])
          rw [show (res == 0 || (res == 127 || res == 126)) = true from by simpa using hres, Bool.true_and] at ha
          rcases hres with rfl | rfl | rfl
          all_goals
            simp only [↓cw_skip, ↓cw_seq, ↓cw_cond, ↓cw_region, ↓then_normal, ↓draw_false, ↓ow_nil, ↓ow_cons, ↓ow_consG, ↓contO_eq, ↓op_move, ↓op_load, ↓op_binOp, ↓op_unOp, ↓op_fieldAddr, ↓op_pick, ↓op_call, ↓force_DC, ↓force_DO, ↓force_DOs, vW_some, bW_true, bW_false, ifW_some, setD_some, on1_some, on2_some, ldV_eq, biV_eq, faV_eq, pkV, callV_some, arg_val, opd, opds, ofConst, leaf, rd_set, binV, intV, unV, isConst, loadV, fieldAddrV, take?, undF, aggF, infF, Nat.reduceEqDiff, Nat.reduceAdd, Nat.reduceLeDiff, reduceIte, reduceCtorEq, Bool.or_true, List.length_cons, List.length_nil, List.getElem?_cons_zero, List.getElem?_cons_succ, List.append_nil, List.drop_succ_cons, List.drop_zero, List.take_succ_cons, List.take_zero, Int.reduceBEq, Int.reduceBNe, beq_self_eq_true, Nat.zero_add, Bool.not_true, St.bump, Tr.get_set, wantG, Option.bind, Nat.add_assoc, beqT, List.size_toArray, Int.cast_ofNat_Int, r1, hd', bne_self_eq_false, show ((127 : Int) != 0) = true from rfl, show ((126 : Int) != 0) = true from rfl, show ((126 : Int) != 127) = true from rfl, fw_add1 (n := deep) (by omega)]
            refine pc31.call (by simp [untok, AV.strip, Go.Pv.goods, Go.Pv.good, L.goods]) (H b (by omega) hbw (deep + 1) (by omega)) ?_
            cases hbe : b.reach (deep + 1) with
            | false =>
              rw [hbe] at ha
              simp only [↓cw_ret, ↓cw_seq, ↓cw_cond, ↓cw_region, ↓then_normal, ↓then_ret, ↓block_ret, ↓draw_false, ↓ow_nil, ↓ow_cons, ↓ow_consG, ↓contO_eq, ↓op_move, ↓op_assign, ↓op_unOp, ↓op_pick, ↓force_DC, ↓force_DO, ↓force_DOs, vW_some, bW_true, bW_false, ifW_some, setD_some, on1_some, pkV, opd, ofConst, leaf, rd_set, unV, Nat.reduceEqDiff, Nat.reduceAdd, reduceIte, List.length_cons, List.length_nil, List.getElem?_cons_zero, List.getElem?_cons_succ, beq_self_eq_true, Nat.zero_add, Bool.not_true, Bool.not_false, St.bump, wantG, Option.bind, Nat.add_assoc, beqF, List.size_toArray]
              exact h2 (by rw [ha]; rfl) _ _ (by simp only [rd_set, Nat.reduceEqDiff, reduceIte])
            | true =>
              rw [hbe, Bool.true_and] at ha
              simp only [↓ow_cons, ↓ow_consG, ↓contO_eq, ↓op_move, ↓op_load, ↓op_binOp, ↓op_unOp, ↓op_fieldAddr, ↓op_pick, ↓op_call, ↓force_DO, vW_some, bW_true, setD_some, on1_some, on2_some, ldV_eq, biV_eq, faV_eq, pkV, callV_some, arg_val, opd, opds, ofConst, leaf, rd_set, binV, intV, unV, isConst, loadV, fieldAddrV, take?, undF, aggF, infF, Nat.reduceEqDiff, Nat.reduceAdd, Nat.reduceLeDiff, reduceIte, reduceCtorEq, Bool.or_true, List.length_cons, List.length_nil, List.getElem?_cons_zero, List.getElem?_cons_succ, List.append_nil, List.drop_succ_cons, List.drop_zero, List.take_succ_cons, List.take_zero, beq_self_eq_true, Nat.zero_add, Bool.not_true, Tr.get_set, wantG, Option.bind, r1, fw_add1 (n := deep) (by omega)]
              refine pc31.call (by simp [untok, AV.strip, Go.Pv.goods, Go.Pv.good, L.goods]) (H e (by omega) hew (deep + 1) (by omega)) ?_
              cases hee : e.reach (deep + 1) with
              | false =>
                rw [hee] at ha
                simp only [↓cw_ret, ↓cw_seq, ↓cw_cond, ↓cw_region, ↓then_normal, ↓then_ret, ↓block_ret, ↓draw_false, ↓ow_nil, ↓ow_cons, ↓ow_consG, ↓contO_eq, ↓op_assign, ↓op_unOp, ↓op_pick, ↓force_DC, ↓force_DO, vW_some, bW_true, ifW_some, setD_some, on1_some, pkV, opd, ofConst, leaf, rd_set, unV, Nat.reduceEqDiff, Nat.reduceAdd, reduceIte, List.length_cons, List.length_nil, List.getElem?_cons_zero, List.getElem?_cons_succ, beq_self_eq_true, Nat.zero_add, Bool.not_false, St.bump, wantG, Option.bind, Nat.add_assoc, List.size_toArray]
                exact h2 (by rw [ha]; rfl) _ _ (by simp only [rd_set, Nat.reduceEqDiff, reduceIte])
              | true =>
                rw [hee, Bool.true_and] at ha
                simp only [↓cw_skip, ↓cw_cond, ↓cw_region, ↓then_normal, ↓block_normal, ↓draw_false, ↓ow_nil, ↓ow_cons, ↓ow_consG, ↓contO_eq, ↓op_move, ↓op_assign, ↓op_binOp, ↓op_unOp, ↓op_pick, ↓force_DC, ↓force_DO, vW_some, bW_true, bW_false, ifW_some, setD_some, on1_some, on2_some, biV_eq, pkV, opd, ofConst, leaf, rd_set, binV, intV, unV, isConst, Nat.reduceEqDiff, Nat.reduceAdd, reduceIte, Bool.or_true, List.length_cons, List.length_nil, List.getElem?_cons_zero, List.getElem?_cons_succ, beq_self_eq_true, Nat.zero_add, Bool.not_true, St.bump, wantG, Option.bind, Nat.add_assoc, List.size_toArray, r5, fw_add1 (n := i) (by omega)]
                refine next _ _ ?_ (by first | exact ha | simpa using ha) ?_ ?_ ?_
                · first | exact Fresh.of (by repeat (first | exact (Fresh.freeH hf (by omega)) | refine FreeH.set ?_ (by omega))) (by repeat (first | exact (Fresh.freeT hf (by omega)) | refine FreeT.set ?_ (by omega) | refine FreeT.via (by assumption) ?_ (by omega)))
                all_goals simp only [rd_set, Nat.reduceEqDiff, reduceIte, reduceCtorEq, r0, r1, r5]
        · by_cases hlo : ls.length = 0
          · have hlo' : ((ls.length : Int) == 0) = true := by simp [hlo]
            simp only [↓cw_skip, ↓cw_ret, ↓cw_seq, ↓cw_cond, ↓cw_region, ↓then_normal, ↓then_ret, ↓block_ret, ↓draw_false, ↓ow_nil, ↓ow_cons, ↓ow_consG, ↓contO_eq, ↓op_move, ↓op_assign, ↓op_load, ↓op_binOp, ↓op_unOp, ↓op_fieldAddr, ↓op_pick, ↓op_call, ↓force_DC, ↓force_DO, ↓force_DOs, vW_some, pW_some, bW_true, bW_false, ifW_some, setD_some, on1_some, on2_some, ldV_eq, biV_eq, faV_eq, pkV, arg_blt, opd, opds, ofConst, leaf, pureV, rd_set, binV, intV, unV, isConst, bltV, lenV, loadV, fieldAddrV, take?, undF, aggF, infF, Nat.reduceEqDiff, Nat.reduceAdd, Nat.reduceLeDiff, reduceIte, reduceCtorEq, Bool.or_true, List.length_cons, List.length_nil, List.getElem?_cons_zero, List.getElem?_cons_succ, List.drop_succ_cons, List.drop_zero, List.take_succ_cons, List.take_zero, Int.reduceBEq, beq_self_eq_true, Nat.zero_add, Bool.not_true, St.bump, Tr.get_set, wantG, Option.bind, Nat.add_assoc, beqT, beqF, List.size_toArray, Int.cast_ofNat_Int, u32s_len, hlo']
            exact h2 (by rw [ha]; simp [rngR, hlo]) _ _ (by simp only [rd_set, Nat.reduceEqDiff, reduceIte])
          · have hlo' : ((ls.length : Int) == 0) = false := by rw [beq_eq_false_iff_ne]; omega
            by_cases hhi : ls.length ≤ 257
            rotate_left
            · have hhi' : decide ((ls.length : Int) > 257) = true := decide_eq_true (by omega)
              simp only [↓cw_skip, ↓cw_ret, ↓cw_seq, ↓cw_cond, ↓cw_region, ↓then_normal, ↓then_ret, ↓block_ret, ↓draw_false, ↓ow_nil, ↓ow_cons, ↓ow_consG, ↓contO_eq, ↓op_move, ↓op_assign, ↓op_load, ↓op_binOp, ↓op_unOp, ↓op_fieldAddr, ↓op_pick, ↓op_call, ↓force_DC, ↓force_DO, ↓force_DOs, vW_some, pW_some, bW_true, bW_false, ifW_some, setD_some, on1_some, on2_some, ldV_eq, biV_eq, faV_eq, pkV, arg_blt, opd, opds, ofConst, leaf, pureV, rd_set, binV, intV, unV, isConst, bltV, lenV, loadV, fieldAddrV, take?, undF, aggF, infF, Nat.reduceEqDiff, Nat.reduceAdd, Nat.reduceLeDiff, reduceIte, reduceCtorEq, Bool.or_true, List.length_cons, List.length_nil, List.getElem?_cons_zero, List.getElem?_cons_succ, List.drop_succ_cons, List.drop_zero, List.take_succ_cons, List.take_zero, Int.reduceBEq, beq_self_eq_true, Nat.zero_add, Bool.not_true, St.bump, Tr.get_set, wantG, Option.bind, Nat.add_assoc, beqT, List.size_toArray, Int.cast_ofNat_Int, u32s_len, hlo', hhi']
              exact h2 (by rw [ha]; simp [rngR, hhi]) _ _ (by simp only [rd_set, Nat.reduceEqDiff, reduceIte])
            · have hhi' : decide ((ls.length : Int) > 257) = false := decide_eq_false (by omega)
              simp only [↓cw_skip, ↓cw_exit, ↓cw_seq, ↓cw_cond, ↓cw_region, ↓then_normal, ↓then_exit, ↓draw_false, ↓ow_nil, ↓ow_cons, ↓ow_consG, ↓contO_eq, ↓op_move, ↓op_assign, ↓op_load, ↓op_binOp, ↓op_unOp, ↓op_fieldAddr, ↓op_pick, ↓op_call, ↓force_DC, ↓force_DQ, ↓force_DO, ↓force_DOs, block_exit, vW_some, pW_some, bW_true, bW_false, ifW_some, setD_some, on1_some, on2_some, ldV_eq, biV_eq, faV_eq, pkV, arg_blt, nbeq, opd, opds, ofConst, leaf, pureV, rd_set, binV, intV, unV, isConst, bltV, lenV, loadV, fieldAddrV, take?, undF, aggF, infF, Nat.reduceEqDiff, Nat.reduceAdd, Nat.reduceLeDiff, reduceIte, reduceCtorEq, Bool.or_true, List.length_cons, List.length_nil, List.getElem?_cons_zero, List.getElem?_cons_succ, List.drop_succ_cons, List.drop_zero, List.take_succ_cons, List.take_zero, Int.reduceBEq, Int.reduceBNe, beq_self_eq_true, Nat.zero_add, Bool.not_true, St.bump, Tr.get_set, wantG, Option.bind, Nat.add_assoc, beqT, List.size_toArray, Int.cast_ofNat_Int, u32s_len, r5, fw_add1 (n := i) (by omega), hlo', hhi']
              refine next _ _ ?_ (by rw [ha]; rw [show rngR 8 n ls = true from by simp [rngR]; omega]; simp) ?_ ?_ ?_
              · first | exact Fresh.of (by repeat (first | exact (Fresh.freeH hf (by omega)) | refine FreeH.set ?_ (by omega))) (by repeat (first | exact (Fresh.freeT hf (by omega)) | refine FreeT.set ?_ (by omega) | refine FreeT.via (by assumption) ?_ (by omega)))
              all_goals simp only [rd_set, Nat.reduceEqDiff, reduceIte, reduceCtorEq, r0, r1, r5]
        · by_cases hlo : n < 0
          · have hlo' : decide (n < 0) = true := decide_eq_true hlo
            simp only [↓cw_skip, ↓cw_ret, ↓cw_seq, ↓cw_cond, ↓cw_region, ↓then_normal, ↓then_ret, ↓block_ret, ↓draw_false, ↓ow_nil, ↓ow_cons, ↓ow_consG, ↓contO_eq, ↓op_move, ↓op_assign, ↓op_load, ↓op_binOp, ↓op_unOp, ↓op_fieldAddr, ↓op_pick, ↓force_DC, ↓force_DO, ↓force_DOs, vW_some, bW_true, bW_false, ifW_some, setD_some, on1_some, on2_some, ldV_eq, biV_eq, faV_eq, pkV, opd, ofConst, leaf, rd_set, binV, intV, unV, isConst, loadV, fieldAddrV, take?, undF, aggF, infF, Nat.reduceEqDiff, Nat.reduceAdd, Nat.reduceLeDiff, reduceIte, reduceCtorEq, Bool.or_true, List.length_cons, List.length_nil, List.getElem?_cons_zero, List.getElem?_cons_succ, List.drop_succ_cons, List.drop_zero, List.take_succ_cons, List.take_zero, Int.reduceBEq, beq_self_eq_true, Nat.zero_add, Bool.not_true, St.bump, Tr.get_set, wantG, Option.bind, Nat.add_assoc, beqT, beqF, List.size_toArray, Int.cast_ofNat_Int, hlo']
            exact h2 (by rw [ha]; simp [rngR]; intros; omega) _ _ (by simp only [rd_set, Nat.reduceEqDiff, reduceIte])
          · have hlo' : decide (n < 0) = false := decide_eq_false hlo
            by_cases hhi : n ≥ 4294967296
            · have hhi' : decide (n ≥ 4294967296) = true := decide_eq_true hhi
              simp only [↓cw_skip, ↓cw_ret, ↓cw_seq, ↓cw_cond, ↓cw_region, ↓then_normal, ↓then_ret, ↓block_ret, ↓draw_false, ↓ow_nil, ↓ow_cons, ↓ow_consG, ↓contO_eq, ↓op_move, ↓op_assign, ↓op_load, ↓op_binOp, ↓op_unOp, ↓op_fieldAddr, ↓op_pick, ↓force_DC, ↓force_DO, ↓force_DOs, vW_some, bW_true, bW_false, ifW_some, setD_some, on1_some, on2_some, ldV_eq, biV_eq, faV_eq, pkV, opd, ofConst, leaf, rd_set, binV, intV, unV, isConst, loadV, fieldAddrV, take?, undF, aggF, infF, Nat.reduceEqDiff, Nat.reduceAdd, Nat.reduceLeDiff, reduceIte, reduceCtorEq, Bool.or_true, List.length_cons, List.length_nil, List.getElem?_cons_zero, List.getElem?_cons_succ, List.drop_succ_cons, List.drop_zero, List.take_succ_cons, List.take_zero, Int.reduceBEq, beq_self_eq_true, Nat.zero_add, Bool.not_true, St.bump, Tr.get_set, wantG, Option.bind, Nat.add_assoc, beqT, beqF, List.size_toArray, Int.cast_ofNat_Int, hlo', hhi']
              exact h2 (by rw [ha]; simp [rngR]; intros; omega) _ _ (by simp only [rd_set, Nat.reduceEqDiff, reduceIte])
            · have hhi' : decide (n ≥ 4294967296) = false := decide_eq_false hhi
              simp only [↓cw_skip, ↓cw_exit, ↓cw_seq, ↓cw_cond, ↓cw_region, ↓then_normal, ↓then_exit, ↓draw_false, ↓ow_nil, ↓ow_cons, ↓ow_consG, ↓contO_eq, ↓op_move, ↓op_assign, ↓op_load, ↓op_binOp, ↓op_unOp, ↓op_fieldAddr, ↓op_pick, ↓force_DC, ↓force_DQ, ↓force_DO, ↓force_DOs, block_exit, vW_some, bW_true, bW_false, ifW_some, setD_some, on1_some, on2_some, ldV_eq, biV_eq, faV_eq, pkV, nbeq, opd, ofConst, leaf, rd_set, binV, intV, unV, isConst, loadV, fieldAddrV, take?, undF, aggF, infF, Nat.reduceEqDiff, Nat.reduceAdd, Nat.reduceLeDiff, reduceIte, reduceCtorEq, Bool.or_true, List.length_cons, List.length_nil, List.getElem?_cons_zero, List.getElem?_cons_succ, List.drop_succ_cons, List.drop_zero, List.take_succ_cons, List.take_zero, Int.reduceBEq, Int.reduceBNe, beq_self_eq_true, Nat.zero_add, Bool.not_true, St.bump, Tr.get_set, wantG, Option.bind, Nat.add_assoc, beqT, List.size_toArray, Int.cast_ofNat_Int, r5, fw_add1 (n := i) (by omega), hlo', hhi']
              refine next _ _ ?_ (by rw [ha]; simp [rngR]; intros; omega) ?_ ?_ ?_
              · first | exact Fresh.of (by repeat (first | exact (Fresh.freeH hf (by omega)) | refine FreeH.set ?_ (by omega))) (by repeat (first | exact (Fresh.freeT hf (by omega)) | refine FreeT.set ?_ (by omega) | refine FreeT.via (by assumption) ?_ (by omega)))
              all_goals simp only [rd_set, Nat.reduceEqDiff, reduceIte, reduceCtorEq, r0, r1, r5]
theorem w_reach : ∀ N (l : L), l.sz < N → N ≤ 1000000000 → l.wf → ∀ d, d ≤ 64 → PureW TS 31 [.sl l.av 0, .i .i64 (d : Nat)] (.b (l.reach d)) := by
  intro N
  induction N with
  | zero => intro l h; omega
  | succ N ihN =>
    intro l hl hN hw d hd
    unfold PureW
    refine callW_of ft31 rfl (Nat.le_of_ble_eq_true rfl) ?_
    have hf : Fresh St.start := Fresh.start
    generalize St.start = σ at hf
    simp only [↓cw_seq, ↓cw_block, ↓cw_region, ↓then_normal, ↓draw_false, ↓ow_nil, ↓ow_cons, ↓contO_eq, ↓op_assign, vW_some, setD_some, opd, ofConst, leaf, Fr.ofList, Nat.reduceAdd, List.length_cons, List.length_nil, Nat.zero_add, St.bump, Nat.add_assoc, List.size_toArray]
    refine loop31 l N d (fun l' h' hw' d' hd' => ihN l' h' (by omega) hw' d' hd') _ (by omega) (by omega) hd (fun e fr σ => ?_) (fun e fr σ r4 => ?_) l 0 _ _ ?_ rfl rfl hw (by omega) ?_ ?_ ?_
    · simp only [↓cw_ret, ↓cw_seq, ↓cw_region, ↓then_normal, ↓draw_false, ↓ow_nil, ↓ow_cons, ↓contO_eq, ↓op_assign, ↓ret_ret, ↓force_DQ, block_exit, vW_some, bW_true, setD_some, resW, nbeq, opd, ofConst, leaf, rd_set, resV, reduceIte, List.length_cons, List.length_nil, beq_self_eq_true, Nat.zero_add, List.size_toArray, Tryd.f31]
      exact ⟨by simp [untok, AV.strip, e], rfl⟩
    · simp only [↓then_ret, ↓block_ret, ↓ret_ret, resW, resV, Tryd.f31, r4]
      exact ⟨by simp [untok, AV.strip, e], rfl⟩
    · first | exact Fresh.of (by repeat (first | exact (Fresh.freeH hf (by omega)) | refine FreeH.set ?_ (by omega))) (by repeat (first | exact (Fresh.freeT hf (by omega)) | refine FreeT.set ?_ (by omega) | refine FreeT.via (by assumption) ?_ (by omega)))
    all_goals simp only [rd_set, rd_nil, Nat.reduceEqDiff, reduceIte, reduceCtorEq]
    all_goals rfl

theorem w_rmay (l : L) (hl : l.sz < 1000000000) (hw : l.wf) : PureW TS 20 [.sl l.av 0] (.b (decide (l.cnt ≤ 16384) && l.reach 0)) := by
  unfold PureW
  refine callW_of ft20 rfl (Nat.le_of_ble_eq_true rfl) ?_
  generalize St.start = σ
  have hc := L.cnt_sz l
  simp only [↓cw_seq, ↓cw_region, ↓then_normal, ↓draw_false, ↓ow_nil, ↓ow_cons, ↓contO_eq, ↓op_move, ↓op_assign, ↓op_call, vW_some, setD_some, callV_some, arg_val, opd, opds, ofConst, leaf, rd_set, rd_nil, Fr.ofList, Nat.reduceEqDiff, Nat.reduceAdd, reduceIte, reduceCtorEq, List.length_cons, List.length_nil, List.append_nil, Nat.zero_add, St.bump, List.size_toArray]
  refine pc19.call (by simp [untok, AV.strip, Go.Pv.goods, Go.Pv.good, L.goods]) (w_rcount 1000000000 l (by omega) (by omega)) ?_
  by_cases h1 : l.cnt ≤ 16384
  · have h1' : decide ((l.cnt : Int) ≤ 16384) = true := decide_eq_true (by omega)
    simp only [↓ow_cons, ↓ow_consG, ↓contO_eq, ↓op_move, ↓op_binOp, ↓op_call, ↓force_DO, vW_some, bW_true, setD_some, on2_some, biV_eq, callV_some, arg_val, opd, opds, ofConst, leaf, rd_set, rd_nil, binV, intV, isConst, Nat.reduceEqDiff, Nat.reduceAdd, reduceIte, reduceCtorEq, Bool.or_true, List.getElem?_cons_zero, List.getElem?_cons_succ, List.append_nil, beq_self_eq_true, wantG, Option.bind, h1']
    refine pc31.call (by simp [untok, AV.strip, Go.Pv.goods, Go.Pv.good, L.goods]) (w_reach 1000000000 l hl (Nat.le_refl _) hw 0 (by omega)) ?_
    simp only [↓cw_ret, ↓then_normal, ↓draw_false, ↓ow_nil, ↓ow_cons, ↓contO_eq, ↓op_assign, ↓op_pick, ↓ret_ret, vW_some, setD_some, pkV, resW, opd, ofConst, leaf, rd_set, rd_nil, resV, Nat.reduceEqDiff, Nat.reduceAdd, reduceIte, reduceCtorEq, Tryd.f20]
    exact ⟨by simp [untok, AV.strip, h1], rfl⟩
  · have h1' : decide ((l.cnt : Int) ≤ 16384) = false := decide_eq_false (by omega)
    simp only [↓cw_ret, ↓then_normal, ↓draw_false, ↓ow_nil, ↓ow_cons, ↓ow_consG, ↓contO_eq, ↓op_move, ↓op_assign, ↓op_binOp, ↓op_pick, ↓ret_ret, ↓force_DOs, vW_some, bW_false, setD_some, on2_some, biV_eq, pkV, resW, opd, ofConst, leaf, rd_set, rd_nil, binV, intV, isConst, resV, Nat.reduceEqDiff, Nat.reduceAdd, reduceIte, reduceCtorEq, Bool.or_true, List.getElem?_cons_zero, List.getElem?_cons_succ, wantG, Option.bind, beqT, h1', Tryd.f20]
    exact ⟨by simp [untok, AV.strip, h1], rfl⟩
end Go.Pv
