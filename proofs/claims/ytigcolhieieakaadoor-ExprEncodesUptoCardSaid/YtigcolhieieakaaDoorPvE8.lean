/- The document's numbers as bytes: with a sign. (PvZ6) -/
import Derived.Test.YtigcolhieieakaaDoorPvE7
namespace Go.Pv
open Go Go.Proofs Go.RowKit
set_option linter.unusedVariables false
set_option linter.unusedSimpArgs false
set_option maxRecDepth 100000

theorem fw_in {n : Int} (h : -9223372036854775808 ≤ n ∧ n ≤ 9223372036854775807) : fw .i64 n = n := by unfold fw; simp only; rw [if_pos h]
theorem tmod_cases (v : Int) : (Int.tmod v 128 < 0 ∧ Int.tmod v 128 + 128 = v % 128) ∨ (¬ Int.tmod v 128 < 0 ∧ Int.tmod v 128 = v % 128) := by
  by_cases h : v < 0
  · obtain ⟨m, rfl⟩ : ∃ m : Nat, v = -(m : Int) := ⟨(-v).toNat, by omega⟩
    have h1 : Int.tmod (-(m : Int)) 128 = -((m % 128 : Nat) : Int) := by rw [Int.neg_tmod, Int.tmod_eq_emod_of_nonneg (by omega)]; omega
    rw [h1]
    omega
  · rw [Int.tmod_eq_emod_of_nonneg (by omega)]
    right; omega
theorem tdiv_exact (v : Int) : Int.tdiv (v - v % 128) 128 = v / 128 := by
  have : v - v % 128 = 128 * (v / 128) := by omega
  rw [this, Int.mul_tdiv_cancel_left _ (by omega)]
theorem u8_128i (v : Int) : fw .u8 (v % 128 + 128) = v % 128 + 128 := by rw [fw_u8i]; omega

noncomputable def K35 : Code := cl (cl (cr (cr (fb Tryd.f35))))
theorem loop35 (bs0 : List Int) (Q : Ex → Fr → St → Prop) :
    ∀ (f : Nat) (v : Int) bs κ fr σ, (-9223372036854775808 ≤ v ∧ v ≤ 9223372036854775807) → rangeS f v → Fresh σ → TokOk σ bs κ → κ < σ.nb + 2 → bs.length + (encSF f v).length < 1099511627000 → bs ++ encSF f v = bs0 → fr.rd 3 = .sl (u8s bs) κ → fr.rd 0 = .i .i64 v →
      (∀ bs' κ' (v' : Int) fr' σ', (-64 ≤ v' ∧ v' < 64) → bs' ++ [v' % 128] = bs0 → Fresh σ' → TokOk σ' bs' κ' → κ' < σ'.nb + 2 → bs'.length < 1099511627000 → fr'.rd 3 = .sl (u8s bs') κ' → fr'.rd 0 = .i .i64 v' → Q (.exit 0) fr' σ') → CodeW TS K35 fr σ Q := by
  have done : ∀ (v : Int) bs κ fr σ, small v = true → Fresh σ → TokOk σ bs κ → κ < σ.nb + 2 → bs.length + 1 < 1099511627000 → bs ++ [v % 128] = bs0 → fr.rd 3 = .sl (u8s bs) κ → fr.rd 0 = .i .i64 v →
      (∀ bs' κ' (v' : Int) fr' σ', (-64 ≤ v' ∧ v' < 64) → bs' ++ [v' % 128] = bs0 → Fresh σ' → TokOk σ' bs' κ' → κ' < σ'.nb + 2 → bs'.length < 1099511627000 → fr'.rd 3 = .sl (u8s bs') κ' → fr'.rd 0 = .i .i64 v' → Q (.exit 0) fr' σ') → CodeW TS K35 fr σ Q := by
    intro v bs κ fr σ hs hf hk hkn hlen hbs r3 r0 hQ
    simp only [small, Bool.and_eq_true, decide_eq_true_eq] at hs
    have h1 : decide (v < -64) = false := decide_eq_false (by omega)
    have h2 : decide (v > 63) = false := decide_eq_false (by omega)
    simp only [K35, fb, Tryd.f35, cl, cr, Option.getD]
    rw [cw_loop]
    simp only [↓cw_exit, ↓cw_seq, ↓cw_cond, ↓cw_region, ↓then_normal, ↓then_exit, ↓draw_false, ↓ow_nil, ↓ow_cons, ↓ow_consG, ↓contO_eq, ↓op_move, ↓op_binOp, ↓op_pick, ↓force_DC, ↓force_DO, vW_some, bW_true, bW_false, ifW_some, setD_some, on2_some, biV_eq, pkV, opd, ofConst, leaf, rd_set, binV, intV, isConst, Nat.reduceEqDiff, Nat.reduceAdd, reduceIte, reduceCtorEq, Bool.or_true, List.length_cons, List.length_nil, List.getElem?_cons_zero, List.getElem?_cons_succ, beq_self_eq_true, Nat.zero_add, St.bump, wantG, Option.bind, List.size_toArray, r0, h1, h2]
    refine hQ bs κ v _ _ hs hbs ?_ ?_ ?_ (by omega) ?_ ?_
    · first | exact Fresh.of (by repeat (first | exact (Fresh.freeH hf (by omega)) | refine FreeH.set ?_ (by omega))) (by repeat (first | exact (Fresh.freeT hf (by omega)) | refine FreeT.set ?_ (by omega) | refine FreeT.via (by assumption) ?_ (by omega)))
    · exact hk
    · simp only; omega
    · simp only [rd_set, Nat.reduceEqDiff, reduceIte, r3]
    · simp only [rd_set, reduceIte, reduceCtorEq, r0]
  intro f
  induction f with
  | zero =>
    intro v bs κ fr σ hv hr hf hk hkn hlen hbs r3 r0 hQ
    simp only [encSF, List.length_cons, List.length_nil] at hlen hbs
    exact done v bs κ fr σ (by simp only [rangeS] at hr; simp [small, hr]) hf hk hkn (by omega) hbs r3 r0 hQ
  | succ f ih =>
    intro v bs κ fr σ hv hr hf hk hkn hlen hbs r3 r0 hQ
    cases hs : small v with
    | true =>
      simp only [encSF, hs, if_true, List.length_cons, List.length_nil] at hlen hbs
      exact done v bs κ fr σ hs hf hk hkn (by omega) hbs r3 r0 hQ
    | false =>
      simp only [encSF, hs, Bool.false_eq_true, if_false, List.length_cons] at hlen hbs
      simp only [K35, fb, Tryd.f35, cl, cr, Option.getD]
      rw [cw_loop]
      have hcase : decide (v < -64) = true ∨ (decide (v < -64) = false ∧ decide (v > 63) = true) := by
        simp only [small, Bool.and_eq_false_iff, decide_eq_false_iff_not] at hs
        simp only [decide_eq_true_eq, decide_eq_false_iff_not]
        omega
      have e2 : fw .i64 (v % 128 + 128) = v % 128 + 128 := fw_in (by omega)
      have e3 : fw .i64 (v - v % 128) = v - v % 128 := fw_in (by omega)
      have e4 : fw .i64 (v / 128) = v / 128 := fw_in (by omega)
      rcases hcase with h1 | ⟨h1, h2⟩
      · rcases tmod_cases v with ⟨ht, ht2⟩ | ⟨ht, ht2⟩
        · have ht' : decide (Int.tmod v 128 < 0) = true := decide_eq_true ht
          have e1 : fw .i64 (Int.tmod v 128 + 128) = v % 128 := by rw [ht2]; exact fw_in (by omega)
          simp only [↓cw_skip, ↓cw_seq, ↓cw_block, ↓cw_cond, ↓cw_region, ↓then_normal, ↓draw_false, ↓ow_nil, ↓ow_cons, ↓ow_consG, ↓contO_eq, ↓op_move, ↓op_assign, ↓op_buildSlice, ↓op_binOp, ↓op_convert, ↓op_pick, ↓op_call, ↓force_DC, ↓force_DOs, vW_some, pW_some, bW_true, bW_false, ifW_some, setD_some, bldS, on1_some, on2_some, biV_eq, pkV, arg_blt, opd, opds, ofConst, leaf, rd_set, binV, intV, convV, isConst, bltV, fillV, parts, put, flat, AV.cells, AV.strip, undF, aggF, infF, Nat.reduceEqDiff, Nat.reduceAdd, Nat.reduceMul, Nat.reduceLeDiff, ne_eq, not_false_eq_true, reduceIte, reduceCtorEq, Bool.or_true, List.length_cons, List.length_nil, List.getElem?_cons_zero, List.getElem?_cons_succ, List.append_nil, List.take_succ_cons, List.take_zero, List.set_cons_zero, List.map_cons, List.map_nil, Int.reduceEq, Nat.zero_add, and_self, Bool.not_true, newTok, St.bump, wantG, Option.bind, Nat.add_assoc, or_true, List.headD_cons, tokFree, buildSliceV, repeatCells, chunk, beqF, List.size_toArray, r3, r0, h1, ht', e1, e2, u8_128i, hf.tb]
          refine app_step (y := v % 128 + 128) (ys := []) (hk.set (by omega)) (by simp; omega) ?_ fun X hX => ?_
          · exact tokFree_of (by repeat (first | exact (Fresh.freeT hf (by omega)) | refine FreeT.set ?_ (by omega) | refine FreeT.via (by assumption) ?_ (by omega)))
          simp only [↓cw_region, ↓then_normal, ↓block_normal, ↓draw_false, ↓ow_nil, ↓ow_cons, ↓contO_eq, ↓op_move, ↓op_assign, ↓op_binOp, vW_some, setD_some, on2_some, biV_eq, opd, ofConst, leaf, rd_set, binV, intV, isConst, Nat.reduceEqDiff, Nat.reduceAdd, reduceIte, reduceCtorEq, Bool.or_false, Bool.or_true, List.length_cons, List.length_nil, Int.reduceEq, Nat.zero_add, St.bump, Nat.add_assoc, List.size_toArray, r0, e3, tdiv_exact, e4]
          refine ih (v / 128) (bs ++ [v % 128 + 128]) _ _ _ (by omega) hr ?_ (.here (by omega)) (by simp only; omega) (by simp; omega) (by rw [List.append_assoc]; exact hbs) ?_ ?_ hQ
          · first | exact Fresh.of (by repeat (first | exact (Fresh.freeH hf (by omega)) | refine FreeH.set ?_ (by omega))) (by repeat (first | exact (Fresh.freeT hf (by omega)) | refine FreeT.set ?_ (by omega) | refine FreeT.via (by assumption) ?_ (by omega)))
          · simp only [rd_set, Nat.reduceEqDiff, reduceIte, reduceCtorEq, r3]
          · simp only [rd_set, reduceIte, reduceCtorEq, r0]
        · have ht' : decide (Int.tmod v 128 < 0) = false := decide_eq_false ht
          rw [ht2] at ht'
          simp only [↓cw_skip, ↓cw_seq, ↓cw_block, ↓cw_cond, ↓cw_region, ↓then_normal, ↓draw_false, ↓ow_nil, ↓ow_cons, ↓ow_consG, ↓contO_eq, ↓op_move, ↓op_assign, ↓op_buildSlice, ↓op_binOp, ↓op_convert, ↓op_pick, ↓op_call, ↓force_DC, ↓force_DOs, vW_some, pW_some, bW_true, bW_false, ifW_some, setD_some, bldS, on1_some, on2_some, biV_eq, pkV, arg_blt, opd, opds, ofConst, leaf, rd_set, binV, intV, convV, isConst, bltV, fillV, parts, put, flat, AV.cells, AV.strip, undF, aggF, infF, Nat.reduceEqDiff, Nat.reduceAdd, Nat.reduceMul, Nat.reduceLeDiff, ne_eq, not_false_eq_true, reduceIte, reduceCtorEq, Bool.or_true, List.length_cons, List.length_nil, List.getElem?_cons_zero, List.getElem?_cons_succ, List.append_nil, List.take_succ_cons, List.take_zero, List.set_cons_zero, List.map_cons, List.map_nil, Int.reduceEq, Nat.zero_add, and_self, Bool.not_true, newTok, St.bump, wantG, Option.bind, Nat.add_assoc, or_true, List.headD_cons, tokFree, buildSliceV, repeatCells, chunk, beqF, List.size_toArray, r3, r0, h1, ht2, ht', e2, u8_128i, hf.tb]
          refine app_step (y := v % 128 + 128) (ys := []) (hk.set (by omega)) (by simp; omega) ?_ fun X hX => ?_
          · exact tokFree_of (by repeat (first | exact (Fresh.freeT hf (by omega)) | refine FreeT.set ?_ (by omega) | refine FreeT.via (by assumption) ?_ (by omega)))
          simp only [↓cw_region, ↓then_normal, ↓block_normal, ↓draw_false, ↓ow_nil, ↓ow_cons, ↓contO_eq, ↓op_move, ↓op_assign, ↓op_binOp, vW_some, setD_some, on2_some, biV_eq, opd, ofConst, leaf, rd_set, binV, intV, isConst, Nat.reduceEqDiff, Nat.reduceAdd, reduceIte, reduceCtorEq, Bool.or_false, Bool.or_true, List.length_cons, List.length_nil, Int.reduceEq, Nat.zero_add, St.bump, Nat.add_assoc, List.size_toArray, r0, e3, tdiv_exact, e4]
          refine ih (v / 128) (bs ++ [v % 128 + 128]) _ _ _ (by omega) hr ?_ (.here (by omega)) (by simp only; omega) (by simp; omega) (by rw [List.append_assoc]; exact hbs) ?_ ?_ hQ
          · first | exact Fresh.of (by repeat (first | exact (Fresh.freeH hf (by omega)) | refine FreeH.set ?_ (by omega))) (by repeat (first | exact (Fresh.freeT hf (by omega)) | refine FreeT.set ?_ (by omega) | refine FreeT.via (by assumption) ?_ (by omega)))
          · simp only [rd_set, Nat.reduceEqDiff, reduceIte, reduceCtorEq, r3]
          · simp only [rd_set, reduceIte, reduceCtorEq, r0]
      · rcases tmod_cases v with ⟨ht, ht2⟩ | ⟨ht, ht2⟩
        · have ht' : decide (Int.tmod v 128 < 0) = true := decide_eq_true ht
          have e1 : fw .i64 (Int.tmod v 128 + 128) = v % 128 := by rw [ht2]; exact fw_in (by omega)
          simp only [↓cw_skip, ↓cw_seq, ↓cw_block, ↓cw_cond, ↓cw_region, ↓then_normal, ↓draw_false, ↓ow_nil, ↓ow_cons, ↓ow_consG, ↓contO_eq, ↓op_move, ↓op_assign, ↓op_buildSlice, ↓op_binOp, ↓op_convert, ↓op_pick, ↓op_call, ↓force_DC, ↓force_DO, vW_some, pW_some, bW_true, ifW_some, setD_some, bldS, on1_some, on2_some, biV_eq, pkV, arg_blt, opd, opds, ofConst, leaf, rd_set, binV, intV, convV, isConst, bltV, fillV, parts, put, flat, AV.cells, AV.strip, undF, aggF, infF, Nat.reduceEqDiff, Nat.reduceAdd, Nat.reduceMul, Nat.reduceLeDiff, ne_eq, not_false_eq_true, reduceIte, reduceCtorEq, Bool.or_true, List.length_cons, List.length_nil, List.getElem?_cons_zero, List.getElem?_cons_succ, List.append_nil, List.take_succ_cons, List.take_zero, List.set_cons_zero, List.map_cons, List.map_nil, Int.reduceEq, beq_self_eq_true, Nat.zero_add, and_self, newTok, St.bump, wantG, Option.bind, Nat.add_assoc, or_true, List.headD_cons, tokFree, buildSliceV, repeatCells, chunk, List.size_toArray, r3, r0, h1, h2, ht', e1, e2, u8_128i, hf.tb]
          refine app_step (y := v % 128 + 128) (ys := []) (hk.set (by omega)) (by simp; omega) ?_ fun X hX => ?_
          · exact tokFree_of (by repeat (first | exact (Fresh.freeT hf (by omega)) | refine FreeT.set ?_ (by omega) | refine FreeT.via (by assumption) ?_ (by omega)))
          simp only [↓cw_region, ↓then_normal, ↓block_normal, ↓draw_false, ↓ow_nil, ↓ow_cons, ↓contO_eq, ↓op_move, ↓op_assign, ↓op_binOp, vW_some, setD_some, on2_some, biV_eq, opd, ofConst, leaf, rd_set, binV, intV, isConst, Nat.reduceEqDiff, Nat.reduceAdd, reduceIte, reduceCtorEq, Bool.or_false, Bool.or_true, List.length_cons, List.length_nil, Int.reduceEq, Nat.zero_add, St.bump, Nat.add_assoc, List.size_toArray, r0, e3, tdiv_exact, e4]
          refine ih (v / 128) (bs ++ [v % 128 + 128]) _ _ _ (by omega) hr ?_ (.here (by omega)) (by simp only; omega) (by simp; omega) (by rw [List.append_assoc]; exact hbs) ?_ ?_ hQ
          · first | exact Fresh.of (by repeat (first | exact (Fresh.freeH hf (by omega)) | refine FreeH.set ?_ (by omega))) (by repeat (first | exact (Fresh.freeT hf (by omega)) | refine FreeT.set ?_ (by omega) | refine FreeT.via (by assumption) ?_ (by omega)))
          · simp only [rd_set, Nat.reduceEqDiff, reduceIte, reduceCtorEq, r3]
          · simp only [rd_set, reduceIte, reduceCtorEq, r0]
        · have ht' : decide (Int.tmod v 128 < 0) = false := decide_eq_false ht
          rw [ht2] at ht'
          simp only [↓cw_skip, ↓cw_seq, ↓cw_block, ↓cw_cond, ↓cw_region, ↓then_normal, ↓draw_false, ↓ow_nil, ↓ow_cons, ↓ow_consG, ↓contO_eq, ↓op_move, ↓op_assign, ↓op_buildSlice, ↓op_binOp, ↓op_convert, ↓op_pick, ↓op_call, ↓force_DC, ↓force_DO, vW_some, pW_some, bW_true, bW_false, ifW_some, setD_some, bldS, on1_some, on2_some, biV_eq, pkV, arg_blt, opd, opds, ofConst, leaf, rd_set, binV, intV, convV, isConst, bltV, fillV, parts, put, flat, AV.cells, AV.strip, undF, aggF, infF, Nat.reduceEqDiff, Nat.reduceAdd, Nat.reduceMul, Nat.reduceLeDiff, ne_eq, not_false_eq_true, reduceIte, reduceCtorEq, Bool.or_true, List.length_cons, List.length_nil, List.getElem?_cons_zero, List.getElem?_cons_succ, List.append_nil, List.take_succ_cons, List.take_zero, List.set_cons_zero, List.map_cons, List.map_nil, Int.reduceEq, beq_self_eq_true, Nat.zero_add, and_self, newTok, St.bump, wantG, Option.bind, Nat.add_assoc, or_true, List.headD_cons, tokFree, buildSliceV, repeatCells, chunk, List.size_toArray, r3, r0, h1, h2, ht2, ht', e2, u8_128i, hf.tb]
          refine app_step (y := v % 128 + 128) (ys := []) (hk.set (by omega)) (by simp; omega) ?_ fun X hX => ?_
          · exact tokFree_of (by repeat (first | exact (Fresh.freeT hf (by omega)) | refine FreeT.set ?_ (by omega) | refine FreeT.via (by assumption) ?_ (by omega)))
          simp only [↓cw_region, ↓then_normal, ↓block_normal, ↓draw_false, ↓ow_nil, ↓ow_cons, ↓contO_eq, ↓op_move, ↓op_assign, ↓op_binOp, vW_some, setD_some, on2_some, biV_eq, opd, ofConst, leaf, rd_set, binV, intV, isConst, Nat.reduceEqDiff, Nat.reduceAdd, reduceIte, reduceCtorEq, Bool.or_false, Bool.or_true, List.length_cons, List.length_nil, Int.reduceEq, Nat.zero_add, St.bump, Nat.add_assoc, List.size_toArray, r0, e3, tdiv_exact, e4]
          refine ih (v / 128) (bs ++ [v % 128 + 128]) _ _ _ (by omega) hr ?_ (.here (by omega)) (by simp only; omega) (by simp; omega) (by rw [List.append_assoc]; exact hbs) ?_ ?_ hQ
          · first | exact Fresh.of (by repeat (first | exact (Fresh.freeH hf (by omega)) | refine FreeH.set ?_ (by omega))) (by repeat (first | exact (Fresh.freeT hf (by omega)) | refine FreeT.set ?_ (by omega) | refine FreeT.via (by assumption) ?_ (by omega)))
          · simp only [rd_set, Nat.reduceEqDiff, reduceIte, reduceCtorEq, r3]
          · simp only [rd_set, reduceIte, reduceCtorEq, r0]

theorem w_rputS (v : Int) (hv : -9223372036854775808 ≤ v ∧ v ≤ 9223372036854775807) (hl : (encS v).length < 1099511620000) : PureW TS 35 [.i .i64 v] (.sl (u8s (encS v)) 0) := by
  unfold PureW
  refine callW_of ft35 rfl (Nat.le_of_ble_eq_true rfl) ?_
  have hf : Fresh St.start := Fresh.start
  generalize St.start = σ at hf
  simp only [↓cw_seq, ↓cw_block, ↓cw_region, ↓then_normal, ↓draw_false, ↓ow_nil, ↓ow_cons, ↓contO_eq, ↓op_assign, vW_some, setD_some, opd, ofConst, leaf, Fr.ofList, Nat.reduceAdd, List.length_cons, List.length_nil, Nat.zero_add, St.bump, Nat.add_assoc, List.size_toArray]
  refine loop35 (encS v) _ 10 v [] 1 _ _ hv (by simp only [rangeS]; omega) ?_ (.inl ⟨rfl, rfl⟩) (by simp only; omega) (by simp only [encS] at hl; simp; omega) rfl ?_ ?_ fun bs' κ' v' fr' σ1 hv' hbs' hf' hk' hkn' hl' r3 r0 => ?_
  · first | exact Fresh.of (by repeat (first | exact (Fresh.freeH hf (by omega)) | refine FreeH.set ?_ (by omega))) (by repeat (first | exact (Fresh.freeT hf (by omega)) | refine FreeT.set ?_ (by omega) | refine FreeT.via (by assumption) ?_ (by omega)))
  · simp only [rd_set, rd_nil, Nat.reduceEqDiff, reduceIte, reduceCtorEq]
    rfl
  · simp only [rd_set, rd_nil, reduceIte, reduceCtorEq]
  by_cases hn : v' < 0
  · have hn' : decide (v' < 0) = true := decide_eq_true hn
    have e1 : fw .i64 (v' + 128) = v' % 128 := by rw [fw_in (by omega)]; omega
    have e2 : fw .u8 (v' % 128) = v' % 128 := by rw [fw_u8i]; omega
    simp only [↓cw_seq, ↓cw_cond, ↓cw_region, ↓then_normal, ↓draw_false, ↓ow_nil, ↓ow_cons, ↓contO_eq, ↓op_move, ↓op_assign, ↓op_buildSlice, ↓op_binOp, ↓op_convert, ↓op_call, ↓force_DC, ↓force_DQ, block_exit, vW_some, pW_some, bW_true, ifW_some, setD_some, bldS, on1_some, on2_some, biV_eq, arg_blt, nbeq, opd, opds, ofConst, leaf, rd_set, binV, intV, convV, isConst, bltV, fillV, parts, put, flat, AV.cells, AV.strip, undF, aggF, infF, Nat.reduceEqDiff, Nat.reduceAdd, Nat.reduceMul, Nat.reduceLeDiff, ne_eq, not_false_eq_true, reduceIte, reduceCtorEq, Bool.or_true, List.length_cons, List.length_nil, List.append_nil, List.take_succ_cons, List.take_zero, List.set_cons_zero, List.map_cons, List.map_nil, beq_self_eq_true, Nat.zero_add, and_self, newTok, St.bump, Nat.add_assoc, or_true, List.headD_cons, tokFree, buildSliceV, repeatCells, chunk, List.size_toArray, r3, r0, hn', e1, e2, hf'.tb]
    refine app_step (y := v' % 128) (ys := []) (hk'.set (by omega)) (by simp; omega) ?_ fun X hX => ?_
    · exact tokFree_of (by repeat (first | exact (Fresh.freeT hf' (by omega)) | refine FreeT.set ?_ (by omega) | refine FreeT.via (by assumption) ?_ (by omega)))
    simp only [↓cw_ret, ↓then_normal, ↓draw_false, ↓ow_nil, ↓ow_cons, ↓contO_eq, ↓op_assign, ↓ret_ret, vW_some, setD_some, resW, opd, rd_set, resV, Nat.reduceEqDiff, Nat.reduceAdd, reduceIte, reduceCtorEq, Nat.add_assoc, Tryd.f35]
    exact ⟨by rw [hbs']; rfl, by simp [Go.Pv.good, goods_u8s]⟩
  · have hn' : decide (v' < 0) = false := decide_eq_false hn
    have e2 : fw .u8 v' = v' % 128 := by rw [fw_u8i]; omega
    simp only [↓cw_skip, ↓cw_seq, ↓cw_cond, ↓cw_region, ↓then_normal, ↓draw_false, ↓ow_nil, ↓ow_cons, ↓contO_eq, ↓op_move, ↓op_buildSlice, ↓op_binOp, ↓op_convert, ↓op_call, ↓force_DC, ↓force_DQ, block_exit, vW_some, pW_some, bW_true, bW_false, ifW_some, setD_some, bldS, on1_some, on2_some, biV_eq, arg_blt, nbeq, opd, opds, ofConst, leaf, rd_set, binV, intV, convV, isConst, bltV, fillV, parts, put, flat, AV.cells, AV.strip, undF, aggF, infF, Nat.reduceEqDiff, Nat.reduceAdd, Nat.reduceMul, Nat.reduceLeDiff, ne_eq, not_false_eq_true, reduceIte, reduceCtorEq, Bool.or_true, List.length_cons, List.length_nil, List.append_nil, List.take_succ_cons, List.take_zero, List.set_cons_zero, List.map_cons, List.map_nil, beq_self_eq_true, Nat.zero_add, and_self, newTok, St.bump, Nat.add_assoc, or_true, List.headD_cons, tokFree, buildSliceV, repeatCells, chunk, List.size_toArray, r3, r0, hn', e2, hf'.tb]
    refine app_step (y := v' % 128) (ys := []) (hk'.set (by omega)) (by simp; omega) ?_ fun X hX => ?_
    · exact tokFree_of (by repeat (first | exact (Fresh.freeT hf' (by omega)) | refine FreeT.set ?_ (by omega) | refine FreeT.via (by assumption) ?_ (by omega)))
    simp only [↓cw_ret, ↓then_normal, ↓draw_false, ↓ow_nil, ↓ow_cons, ↓contO_eq, ↓op_assign, ↓ret_ret, vW_some, setD_some, resW, opd, rd_set, resV, Nat.reduceEqDiff, Nat.reduceAdd, reduceIte, Nat.add_assoc, Tryd.f35]
    exact ⟨by rw [hbs']; rfl, by simp [Go.Pv.good, goods_u8s]⟩
end Go.Pv
