/- The document's numbers as bytes: without a sign. (PvZ6) -/
import Derived.Test.YtigcolhieieakaaDoorPvE3
namespace Go.Pv
open Go Go.Proofs Go.RowKit
set_option linter.unusedVariables false
set_option linter.unusedSimpArgs false
set_option maxRecDepth 100000

theorem tmod128 (v : Nat) : Int.tmod (v : Int) 128 = ((v % 128 : Nat) : Int) := by rw [Int.tmod_eq_emod_of_nonneg (by omega)]; omega
theorem tdiv128 (v : Nat) : Int.tdiv (v : Int) 128 = ((v / 128 : Nat) : Int) := by rw [Int.tdiv_eq_ediv_of_nonneg (by omega)]; omega
theorem add128 (v : Nat) : fw .u64 (((v % 128 : Nat) : Int) + 128) = ((v % 128 + 128 : Nat) : Int) := by unfold fw; simp only; rw [if_pos (by omega)]; rfl
theorem u8_128 (v : Nat) : fw .u8 ((v % 128 + 128 : Nat) : Int) = ((v % 128 + 128 : Nat) : Int) := by rw [fw_u8]; omega

noncomputable def K36 : Code := cl (cl (cr (cr (fb Tryd.f36))))
theorem loop36 (bs0 : List Int) (Q : Ex → Fr → St → Prop) :
    ∀ (V v : Nat) bs κ fr σ, v < V → v < 18446744073709551616 → Fresh σ → TokOk σ bs κ → κ < σ.nb + 2 → bs.length + (encU v).length < 1099511627000 → bs ++ encU v = bs0 → fr.rd 3 = .sl (u8s bs) κ → fr.rd 0 = .i .u64 (v : Int) →
      (∀ bs' κ' (v' : Nat) fr' σ', v' < 128 → bs' ++ [(v' : Int)] = bs0 → Fresh σ' → TokOk σ' bs' κ' → κ' < σ'.nb + 2 → bs'.length < 1099511627000 → fr'.rd 3 = .sl (u8s bs') κ' → fr'.rd 0 = .i .u64 (v' : Int) → Q (.exit 0) fr' σ') → CodeW TS K36 fr σ Q := by
  intro V
  induction V with
  | zero => intro v bs κ fr σ h; omega
  | succ V ih =>
    intro v bs κ fr σ hV hv hf hk hkn hlen hbs r3 r0 hQ
    by_cases h : v < 128
    · have hd : decide ((v : Int) > 127) = false := decide_eq_false (by omega)
      rw [encU_lt h] at hbs hlen
      simp only [K36, fb, Tryd.f36, cl, cr, Option.getD]
      rw [cw_loop]
      simp only [↓cw_exit, ↓cw_seq, ↓cw_cond, ↓cw_region, ↓then_normal, ↓then_exit, ↓draw_false, ↓ow_nil, ↓ow_cons, ↓contO_eq, ↓op_move, ↓op_binOp, ↓force_DC, vW_some, bW_false, ifW_some, setD_some, on2_some, biV_eq, opd, ofConst, leaf, rd_set, binV, intV, isConst, Nat.reduceEqDiff, Nat.reduceAdd, reduceIte, Bool.or_true, List.length_cons, List.length_nil, Nat.zero_add, St.bump, List.size_toArray, r0, hd]
      refine hQ bs κ v _ _ h hbs ?_ ?_ ?_ (by simp at hlen; omega) ?_ ?_
      · first | exact Fresh.of (by repeat (first | exact (Fresh.freeH hf (by omega)) | refine FreeH.set ?_ (by omega))) (by repeat (first | exact (Fresh.freeT hf (by omega)) | refine FreeT.set ?_ (by omega) | refine FreeT.via (by assumption) ?_ (by omega)))
      · exact hk
      · simp only; omega
      · simp only [rd_set, Nat.reduceEqDiff, reduceIte, r3]
      · simp only [rd_set, reduceIte, reduceCtorEq, r0]
    · have hd : decide ((v : Int) > 127) = true := decide_eq_true (by omega)
      rw [encU_ge h] at hbs hlen
      simp only [List.length_cons] at hlen
      have hq : fw .u64 ((v / 128 : Nat) : Int) = ((v / 128 : Nat) : Int) := fw_u64_of _ (by omega)
      simp only [K36, fb, Tryd.f36, cl, cr, Option.getD]
      rw [cw_loop]
      simp only [↓cw_skip, ↓cw_seq, ↓cw_block, ↓cw_cond, ↓cw_region, ↓then_normal, ↓draw_false, ↓ow_nil, ↓ow_cons, ↓contO_eq, ↓op_move, ↓op_buildSlice, ↓op_binOp, ↓op_convert, ↓op_call, ↓force_DC, vW_some, pW_some, bW_true, ifW_some, setD_some, bldS, on1_some, on2_some, biV_eq, arg_blt, opd, opds, ofConst, leaf, rd_set, binV, intV, convV, isConst, bltV, fillV, parts, put, flat, AV.cells, AV.strip, undF, aggF, infF, Nat.reduceEqDiff, Nat.reduceAdd, Nat.reduceMul, Nat.reduceLeDiff, ne_eq, not_false_eq_true, reduceIte, reduceCtorEq, Bool.or_true, List.length_cons, List.length_nil, List.append_nil, List.take_succ_cons, List.take_zero, List.set_cons_zero, List.map_cons, List.map_nil, Int.reduceEq, Nat.zero_add, and_self, newTok, St.bump, Nat.add_assoc, or_true, List.headD_cons, tokFree, buildSliceV, repeatCells, chunk, List.size_toArray, r3, r0, hd, tmod128, add128, u8_128, hf.tb]
      refine app_step (y := ((v % 128 + 128 : Nat) : Int)) (ys := []) (hk.set (by omega)) (by simp; omega) ?_ fun X hX => ?_
      · exact tokFree_of (by repeat (first | exact (Fresh.freeT hf (by omega)) | refine FreeT.set ?_ (by omega) | refine FreeT.via (by assumption) ?_ (by omega)))
      simp only [↓cw_region, ↓then_normal, ↓block_normal, ↓draw_false, ↓ow_nil, ↓ow_cons, ↓contO_eq, ↓op_move, ↓op_assign, ↓op_binOp, vW_some, setD_some, on2_some, biV_eq, opd, ofConst, leaf, rd_set, binV, intV, isConst, Nat.reduceEqDiff, Nat.reduceAdd, reduceIte, reduceCtorEq, Bool.or_true, List.length_cons, List.length_nil, Int.reduceEq, Nat.zero_add, St.bump, Nat.add_assoc, List.size_toArray, r0, tdiv128, hq]
      refine ih (v / 128) (bs ++ [((v % 128 + 128 : Nat) : Int)]) _ _ _ (by omega) (by omega) ?_ (.here (by omega)) (by simp only; omega) (by simp; omega) (by rw [List.append_assoc]; exact hbs) ?_ ?_ hQ
      · first | exact Fresh.of (by repeat (first | exact (Fresh.freeH hf (by omega)) | refine FreeH.set ?_ (by omega))) (by repeat (first | exact (Fresh.freeT hf (by omega)) | refine FreeT.set ?_ (by omega) | refine FreeT.via (by assumption) ?_ (by omega)))
      · simp only [rd_set, Nat.reduceEqDiff, reduceIte, reduceCtorEq, r3]
      · simp only [rd_set, reduceIte, reduceCtorEq, r0]

theorem w_rputU (v : Nat) (hv : v < 18446744073709551616) (hl : (encU v).length < 1099511620000) : PureW TS 36 [.i .u64 (v : Int)] (.sl (u8s (encU v)) 0) := by
  unfold PureW
  refine callW_of ft36 rfl (Nat.le_of_ble_eq_true rfl) ?_
  have hf : Fresh St.start := Fresh.start
  generalize St.start = σ at hf
  simp only [↓cw_seq, ↓cw_block, ↓cw_region, ↓then_normal, ↓draw_false, ↓ow_nil, ↓ow_cons, ↓contO_eq, ↓op_assign, vW_some, setD_some, opd, ofConst, leaf, Fr.ofList, Nat.reduceAdd, List.length_cons, List.length_nil, Nat.zero_add, St.bump, Nat.add_assoc, List.size_toArray]
  refine loop36 (encU v) _ (v + 1) v [] 1 _ _ (by omega) hv ?_ (.inl ⟨rfl, rfl⟩) (by simp only; omega) (by simp; omega) rfl ?_ ?_ fun bs' κ' v' fr' σ1 hv' hbs' hf' hk' hkn' hl' r3 r0 => ?_
  · first | exact Fresh.of (by repeat (first | exact (Fresh.freeH hf (by omega)) | refine FreeH.set ?_ (by omega))) (by repeat (first | exact (Fresh.freeT hf (by omega)) | refine FreeT.set ?_ (by omega) | refine FreeT.via (by assumption) ?_ (by omega)))
  · simp only [rd_set, rd_nil, Nat.reduceEqDiff, reduceIte, reduceCtorEq]
    rfl
  · simp only [rd_set, rd_nil, reduceIte, reduceCtorEq]
  have hfv : fw .u8 (v' : Int) = (v' : Int) := by rw [fw_u8]; omega
  simp only [↓cw_seq, ↓cw_region, ↓then_normal, ↓ow_cons, ↓contO_eq, ↓op_move, ↓op_buildSlice, ↓op_convert, ↓op_call, ↓force_DQ, block_exit, vW_some, pW_some, bW_true, setD_some, bldS, on1_some, arg_blt, nbeq, opd, opds, rd_set, convV, bltV, fillV, parts, put, flat, AV.cells, AV.strip, undF, aggF, infF, Nat.reduceEqDiff, Nat.reduceAdd, Nat.reduceMul, Nat.reduceLeDiff, ne_eq, not_false_eq_true, reduceIte, reduceCtorEq, List.length_cons, List.length_nil, List.append_nil, List.take_succ_cons, List.take_zero, List.set_cons_zero, List.map_cons, List.map_nil, beq_self_eq_true, Nat.zero_add, and_self, newTok, Nat.add_assoc, or_true, List.headD_cons, tokFree, buildSliceV, repeatCells, chunk, List.size_toArray, r3, r0, hfv, hf'.tb]
  refine app_step (y := (v' : Int)) (ys := []) (hk'.set (by omega)) (by simp; omega) ?_ fun X hX => ?_
  · exact tokFree_of (by repeat (first | exact (Fresh.freeT hf' (by omega)) | refine FreeT.set ?_ (by omega) | refine FreeT.via (by assumption) ?_ (by omega)))
  simp only [↓cw_ret, ↓then_normal, ↓draw_false, ↓ow_nil, ↓ow_cons, ↓contO_eq, ↓op_assign, ↓ret_ret, vW_some, setD_some, resW, opd, rd_set, resV, Nat.reduceEqDiff, Nat.reduceAdd, reduceIte, Nat.add_assoc, Tryd.f36]
  exact ⟨by rw [hbs']; rfl, by simp [Go.Pv.good, goods_u8s]⟩
end Go.Pv
