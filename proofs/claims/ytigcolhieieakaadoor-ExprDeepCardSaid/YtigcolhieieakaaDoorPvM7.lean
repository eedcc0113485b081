/- ExprDeep: the instructions it makes; its walk. (PvZ6) -/
import Derived.Test.YtigcolhieieakaaDoorPvErr
namespace Go.Pv
open Go Go.Proofs Go.RowKit
set_option linter.unusedVariables false
set_option linter.unusedSimpArgs false
set_option maxRecDepth 100000

/-- A table of so many labels. -/
def tabL (m : Nat) : L := .cons 14 0 0 0 0 .nil .nil (List.replicate m 0) .nil

theorem mod2 (d : Nat) : d % 2 = 0 ∨ d % 2 = 1 := by omega
theorem form23 (d : Nat) : formN (2 + d % 2) = some 6 := by rcases mod2 d with h | h <;> rw [h] <;> decide
theorem isBlk23 (d : Nat) : isBlk (2 + d % 2) = true := by rcases mod2 d with h | h <;> rw [h] <;> decide
theorem blo_cnt (d : Nat) : (bloL d).cnt = d := by induction d with
  | zero => rfl
  | succ d ih => simp only [bloL, L.cnt, ih]; omega
theorem blo_sz (d : Nat) : (bloL d).sz = d := by induction d with
  | zero => rfl
  | succ d ih => simp only [bloL, L.sz, ih, List.length_nil]; omega
theorem blo_nest (d : Nat) : (bloL d).nest = d := by induction d with
  | zero => rfl
  | succ d ih => simp only [bloL, L.nest, ih, isBlk23, if_true]; omega
theorem blo_wf (d : Nat) : (bloL d).wf := by induction d with
  | zero => trivial
  | succ d ih => exact ⟨by omega, by decide, by decide, by decide, by decide, ih, trivial, by simp, trivial⟩
theorem may_blo (d : Nat) (b : L) : mayI (2 + d % 2) 0 0 0 0 b .nil [] = true := by simp [mayI, form23, ownL, mayR]
theorem blo_each (d : Nat) : (bloL d).each = true := by induction d with
  | zero => rfl
  | succ d ih => simp only [bloL, L.each, ih, may_blo]; rfl
theorem blo_enc (d : Nat) : (bloL d).enc.length = 3 * d := by induction d with
  | zero => rfl
  | succ d ih => simp only [bloL, L.enc, encI, form23, encF, List.length_append, List.length_cons]; simp [L.len]; omega
theorem blo_rt (d : Nat) : (bloL d).rt := by induction d with
  | zero => trivial
  | succ d ih => exact ⟨by omega, ⟨6, form23 d, rfl, rfl, rfl, rfl, .inr (.inl ⟨rfl, .inl rfl, rfl⟩)⟩, ih, trivial⟩
theorem blo_may (k : Nat) (h : k ≤ 67) : (bloL k).may = decide (k ≤ 64) := by
  simp only [L.may, blo_cnt, blo_nest, blo_each, Bool.and_true]
  rw [decide_eq_true (show k ≤ 16384 by omega), Bool.true_and]

theorem encU_len : ∀ f v, v < 128 ^ (f + 1) → (encU v).length ≤ f + 1 := by
  intro f
  induction f with
  | zero => intro v h; rw [encU_lt (by omega)]; simp
  | succ f ih =>
    intro v h
    by_cases hv : v < 128
    · rw [encU_lt hv]; simp
    · rw [encU_ge hv, List.length_cons]
      have := ih (v / 128) (by rw [Nat.pow_succ] at h; omega)
      omega
theorem flat0 (m : Nat) : ((List.replicate m (0 : Int)).flatMap (fun x => encU x.toNat)).length = m := by
  induction m with
  | zero => rfl
  | succ m ih => rw [List.replicate_succ, List.flatMap_cons, List.length_append, ih, show encU (Int.toNat 0) = [0] from encU_lt (by decide)]; simp; omega
theorem tab_sz (m : Nat) : (tabL m).sz = 1 + m := by simp [tabL, L.sz]
theorem tab_wf (m : Nat) : (tabL m).wf := ⟨by decide, by decide, by decide, by decide, by decide, trivial, trivial, fun x hx => by rw [List.eq_of_mem_replicate hx]; decide, trivial⟩
theorem tab_enc (m : Nat) : (tabL m).enc.length ≤ 11 + m := by
  have h1 := encU_len 9 (fw .u64 (fw .i64 (((List.replicate m (0 : Int)).length : Int) - 1))).toNat (Nat.lt_of_lt_of_le (fw_u64_lt _) (by decide))
  simp only [tabL, L.enc, encI, form14, encF, List.append_nil]
  simp only [Nat.reduceEqDiff, or_self, if_false, if_true, List.length_cons, List.length_append, flat0]
  omega
theorem tab_may (m : Nat) : (tabL m).may = (decide (0 < m) && decide (m ≤ 257)) := by
  have h1 : (tabL m).cnt = 1 := rfl
  have h2 : (tabL m).nest = 0 := rfl
  simp only [L.may, h1, h2]
  simp [tabL, L.each, mayI, form14, ownL, mayR]
theorem tab_rt (m : Nat) (h1 : 1 ≤ m) (h2 : m ≤ 257) : (tabL m).rt :=
  ⟨by decide, ⟨8, form14, rfl, rfl, rfl, rfl, .inr (.inr ⟨rfl, rfl, rfl, by simpa using h1, by simpa using h2, fun x hx => by rw [List.eq_of_mem_replicate hx]; decide⟩)⟩, trivial, trivial⟩
theorem tab_cnt (m : Nat) : (tabL m).cnt = 1 := rfl
theorem tab_nest (m : Nat) : (tabL m).nest = 0 := rfl

theorem odd_step (i : Nat) (h : i < 1000) : fw .u8 (fw .i64 (2 + Int.tmod (i : Int) 2)) = ((2 + i % 2 : Nat) : Int) := by
  have h1 : Int.tmod (i : Int) 2 = ((i % 2 : Nat) : Int) := by rw [Int.tmod_eq_emod_of_nonneg (by omega)]; omega
  rw [h1]
  rcases mod2 i with h | h <;> rw [h] <;> rfl

noncomputable def K7a : Code := cl (cr (cl (cr (cr (cr (fb Tryd.f7))))))
theorem loop7a (k : Nat) (n1 : AV) (Q : Ex → Fr → St → Prop) (hk : k ≤ 67)
    (hQ : ∀ κ fr σ, Fresh σ → fr.rd 5 = .i .i64 k → fr.rd 1 = n1 → fr.rd 6 = .sl (bloL k).av κ → Q (.exit 0) fr σ) :
    ∀ j i κ fr σ, i + j = k → Fresh σ → fr.rd 5 = .i .i64 k → fr.rd 1 = n1 → fr.rd 6 = .sl (bloL i).av κ → fr.rd 7 = .i .i64 i → CodeW TS K7a fr σ Q := by
  intro j
  induction j with
  | zero =>
    intro i κ fr σ hi hf r5 r1 r6 r7
    have hlt : decide ((i : Int) < k) = false := decide_eq_false (by omega)
    obtain rfl : i = k := by omega
    simp only [K7a, fb, Tryd.f7, cl, cr, Option.getD]
    rw [cw_loop]
    simp only [↓cw_exit, ↓cw_seq, ↓cw_cond, ↓cw_region, ↓then_normal, ↓then_exit, ↓draw_false, ↓ow_nil, ↓ow_cons, ↓contO_eq, ↓op_move, ↓op_binOp, ↓force_DC, vW_some, bW_false, ifW_some, setD_some, on2_some, biV_eq, opd, rd_set, binV, intV, isConst, Nat.reduceEqDiff, Nat.reduceAdd, reduceIte, Bool.or_false, List.length_cons, List.length_nil, Nat.zero_add, St.bump, List.size_toArray, r5, r7, hlt]
    refine hQ κ _ _ ?_ ?_ ?_ ?_
    · first | exact Fresh.of (by repeat (first | exact (Fresh.freeH hf (by omega)) | refine FreeH.set ?_ (by omega))) (by repeat (first | exact (Fresh.freeT hf (by omega)) | refine FreeT.set ?_ (by omega) | refine FreeT.via (by assumption) ?_ (by omega)))
    all_goals simp only [rd_set, Nat.reduceEqDiff, reduceIte, r5, r1, r6]
  | succ j ih =>
    intro i κ fr σ hi hf r5 r1 r6 r7
    have hlt : decide ((i : Int) < k) = true := decide_eq_true (by omega)
    simp only [K7a, fb, Tryd.f7, cl, cr, Option.getD]
    rw [cw_loop]
    simp only [↓cw_skip, ↓cw_seq, ↓cw_block, ↓cw_cond, ↓cw_region, ↓then_normal, ↓block_normal, ↓draw_false, ↓ow_nil, ↓ow_cons, ↓contO_eq, ↓op_move, ↓op_assign, ↓op_build, ↓op_buildSlice, ↓op_binOp, ↓op_convert, ↓force_DC, vW_some, pW_some, bW_true, ifW_some, setD_some, bldV, bldS, on1_some, on2_some, biV_eq, opd, ofConst, leaf, rd_set, binV, intV, convV, isConst, buildV, places, fillV, parts, put, flat, AV.cells, AV.strip, AV.strip0, undF, aggF, infF, Nat.reduceEqDiff, Nat.reduceAdd, Nat.reduceMul, Nat.reduceLeDiff, ne_eq, not_false_eq_true, reduceIte, reduceCtorEq, Bool.or_false, Bool.or_true, List.length_cons, List.length_nil, List.getElem?_cons_zero, List.getElem?_cons_succ, List.append_nil, List.take_succ_cons, List.take_zero, List.set_cons_zero, List.set_cons_succ, List.map_cons, List.map_nil, Int.reduceEq, Nat.zero_add, and_self, newTok, St.bump, Nat.add_assoc, or_false, List.headD_cons, tokFree, buildSliceV, repeatCells, chunk, List.size_toArray, r5, r6, r7, hlt, hf.tb, odd_step i (by omega), fw_add1 (n := i) (by omega)]
    refine ih (i + 1) (σ.nb + 11) _ _ (by omega) ?_ ?_ ?_ ?_ ?_
    · first | exact Fresh.of (by repeat (first | exact (Fresh.freeH hf (by omega)) | refine FreeH.set ?_ (by omega))) (by repeat (first | exact (Fresh.freeT hf (by omega)) | refine FreeT.set ?_ (by omega) | refine FreeT.via (by assumption) ?_ (by omega)))
    · simp only [rd_set, Nat.reduceEqDiff, reduceIte, r5]
    · simp only [rd_set, Nat.reduceEqDiff, reduceIte, r1]
    · simp only [rd_set, Nat.reduceEqDiff, reduceIte]
      rfl
    · simp only [rd_set, Nat.reduceEqDiff, reduceIte]

def d2 (i : Nat) : List Int := (List.replicate i [2, 64]).flatten
theorem d2_snoc (i : Nat) : d2 i ++ [2, 64] = d2 (i + 1) := by simp [d2, List.replicate_succ']
theorem d2_len (i : Nat) : (d2 i).length = 2 * i := by induction i with
  | zero => rfl
  | succ i ih => rw [← d2_snoc, List.length_append, ih]; rfl

noncomputable def K7c : Code := cl (cr (cl (cr (cr (cr (cl (cr (cr (cr (cr (cr (cr (cr (cr (cr (fb Tryd.f7))))))))))))))))
noncomputable def K7d : Code := cl (cr (cl (cr (cr (cr (cr (cl (cr (cr (cr (cr (cr (cr (cr (cr (cr (fb Tryd.f7)))))))))))))))))
theorem loop7c (k : Nat) (a10 a11 a12 a13 : AV) (Q : Ex → Fr → St → Prop) (hk : k ≤ 67)
    (hQ : ∀ κ fr σ, Fresh σ → TokOk σ (d2 k) κ → κ < σ.nb + 2 → fr.rd 5 = .i .i64 k → fr.rd 10 = a10 → fr.rd 11 = a11 → fr.rd 12 = a12 → fr.rd 13 = a13 → fr.rd 17 = .sl (u8s (d2 k)) κ → Q (.exit 2) fr σ) :
    ∀ j i κ fr σ, i + j = k → Fresh σ → TokOk σ (d2 i) κ → κ < σ.nb + 2 → fr.rd 5 = .i .i64 k → fr.rd 10 = a10 → fr.rd 11 = a11 → fr.rd 12 = a12 → fr.rd 13 = a13 → fr.rd 17 = .sl (u8s (d2 i)) κ → fr.rd 18 = .i .i64 i → CodeW TS K7c fr σ Q := by
  intro j
  induction j with
  | zero =>
    intro i κ fr σ hi hf hk' hkn r5 r10 r11 r12 r13 r17 r18
    have hlt : decide ((i : Int) < k) = false := decide_eq_false (by omega)
    obtain rfl : i = k := by omega
    simp only [K7c, fb, Tryd.f7, cl, cr, Option.getD]
    rw [cw_loop]
    simp only [↓cw_exit, ↓cw_seq, ↓cw_cond, ↓cw_region, ↓then_normal, ↓then_exit, ↓draw_false, ↓ow_nil, ↓ow_cons, ↓contO_eq, ↓op_move, ↓op_binOp, ↓force_DC, vW_some, bW_false, ifW_some, setD_some, on2_some, biV_eq, opd, rd_set, binV, intV, isConst, Nat.reduceEqDiff, Nat.reduceAdd, reduceIte, Bool.or_false, List.length_cons, List.length_nil, Nat.zero_add, St.bump, List.size_toArray, r5, r18, hlt]
    refine hQ κ _ _ ?_ hk' (by simp only; omega) ?_ ?_ ?_ ?_ ?_ ?_
    · first | exact Fresh.of (by repeat (first | exact (Fresh.freeH hf (by omega)) | refine FreeH.set ?_ (by omega))) (by repeat (first | exact (Fresh.freeT hf (by omega)) | refine FreeT.set ?_ (by omega) | refine FreeT.via (by assumption) ?_ (by omega)))
    all_goals simp only [rd_set, Nat.reduceEqDiff, reduceIte, r5, r10, r11, r12, r13, r17]
  | succ j ih =>
    intro i κ fr σ hi hf hk' hkn r5 r10 r11 r12 r13 r17 r18
    have hlt : decide ((i : Int) < k) = true := decide_eq_true (by omega)
    simp only [K7c, fb, Tryd.f7, cl, cr, Option.getD]
    rw [cw_loop]
    simp only [↓cw_skip, ↓cw_seq, ↓cw_block, ↓cw_cond, ↓cw_region, ↓then_normal, ↓draw_false, ↓ow_nil, ↓ow_cons, ↓contO_eq, ↓op_move, ↓op_buildSlice, ↓op_binOp, ↓op_call, ↓force_DC, vW_some, pW_some, bW_true, ifW_some, setD_some, bldS, on2_some, biV_eq, arg_blt, opd, opds, ofConst, leaf, rd_set, binV, intV, isConst, bltV, fillV, parts, put, flat, AV.cells, AV.strip, undF, aggF, infF, Nat.reduceEqDiff, Nat.reduceAdd, Nat.reduceMul, Nat.reduceLeDiff, ne_eq, not_false_eq_true, reduceIte, reduceCtorEq, Bool.or_false, List.length_cons, List.length_nil, List.cons_append, List.nil_append, List.append_nil, List.drop_succ_cons, List.drop_zero, List.take_succ_cons, List.take_zero, List.set_cons_zero, List.set_cons_succ, List.map_cons, List.map_nil, Nat.zero_add, and_self, newTok, St.bump, Nat.add_assoc, or_true, List.headD_cons, tokFree, buildSliceV, repeatCells, chunk, List.size_toArray, r5, r17, r18, hlt, hf.tb]
    refine app_step (y := 2) (ys := [64]) (hk'.set (by omega)) (by rw [d2_len]; simp; omega) ?_ fun X hX => ?_
    · exact tokFree_of (by repeat (first | exact (Fresh.freeT hf (by omega)) | refine FreeT.set ?_ (by omega) | refine FreeT.via (by assumption) ?_ (by omega)))
    simp only [↓cw_region, ↓then_normal, ↓block_normal, ↓draw_false, ↓ow_nil, ↓ow_cons, ↓contO_eq, ↓op_move, ↓op_assign, ↓op_binOp, vW_some, setD_some, on2_some, biV_eq, opd, ofConst, leaf, rd_set, binV, intV, isConst, Nat.reduceEqDiff, Nat.reduceAdd, reduceIte, Bool.or_true, List.length_cons, List.length_nil, Nat.zero_add, St.bump, Nat.add_assoc, List.size_toArray, r18, fw_add1 (n := i) (by omega)]
    refine ih (i + 1) (σ.nb + 7) _ _ (by omega) ?_ (.here (by omega)) (by simp only; omega) ?_ ?_ ?_ ?_ ?_ ?_ ?_
    · first | exact Fresh.of (by repeat (first | exact (Fresh.freeH hf (by omega)) | refine FreeH.set ?_ (by omega))) (by repeat (first | exact (Fresh.freeT hf (by omega)) | refine FreeT.set ?_ (by omega) | refine FreeT.via (by assumption) ?_ (by omega)))
    · simp only [rd_set, Nat.reduceEqDiff, reduceIte, r5]
    · simp only [rd_set, Nat.reduceEqDiff, reduceIte, r10]
    · simp only [rd_set, Nat.reduceEqDiff, reduceIte, r11]
    · simp only [rd_set, Nat.reduceEqDiff, reduceIte, r12]
    · simp only [rd_set, Nat.reduceEqDiff, reduceIte, r13]
    · simp only [rd_set, Nat.reduceEqDiff, reduceIte, d2_snoc]
    · simp only [rd_set, Nat.reduceEqDiff, reduceIte]

theorem loop7d (k : Nat) (a10 a11 a12 a13 : AV) (Q : Ex → Fr → St → Prop) (hk : k ≤ 67)
    (hQ : ∀ κ fr σ, Fresh σ → fr.rd 5 = .i .i64 k → fr.rd 10 = a10 → fr.rd 11 = a11 → fr.rd 12 = a12 → fr.rd 13 = a13 → fr.rd 17 = .sl (u8s (dB k)) κ → Q (.exit 4) fr σ) :
    ∀ j i κ fr σ, i + j = k + 1 → Fresh σ → TokOk σ (d2 k ++ List.replicate i 11) κ → κ < σ.nb + 2 → fr.rd 5 = .i .i64 k → fr.rd 10 = a10 → fr.rd 11 = a11 → fr.rd 12 = a12 → fr.rd 13 = a13 → fr.rd 17 = .sl (u8s (d2 k ++ List.replicate i 11)) κ → fr.rd 19 = .i .i64 i → CodeW TS K7d fr σ Q := by
  intro j
  induction j with
  | zero =>
    intro i κ fr σ hi hf hk' hkn r5 r10 r11 r12 r13 r17 r18
    have hlt : decide ((i : Int) ≤ k) = false := decide_eq_false (by omega)
    obtain rfl : i = k + 1 := by omega
    simp only [K7d, fb, Tryd.f7, cl, cr, Option.getD]
    rw [cw_loop]
    simp only [↓cw_exit, ↓cw_seq, ↓cw_cond, ↓cw_region, ↓then_normal, ↓then_exit, ↓draw_false, ↓ow_nil, ↓ow_cons, ↓contO_eq, ↓op_move, ↓op_binOp, ↓force_DC, vW_some, bW_false, ifW_some, setD_some, on2_some, biV_eq, opd, rd_set, binV, intV, isConst, Nat.reduceEqDiff, Nat.reduceAdd, reduceIte, Bool.or_false, List.length_cons, List.length_nil, Nat.zero_add, St.bump, List.size_toArray, r5, r18, hlt]
    refine hQ κ _ _ ?_ ?_ ?_ ?_ ?_ ?_ ?_
    · first | exact Fresh.of (by repeat (first | exact (Fresh.freeH hf (by omega)) | refine FreeH.set ?_ (by omega))) (by repeat (first | exact (Fresh.freeT hf (by omega)) | refine FreeT.set ?_ (by omega) | refine FreeT.via (by assumption) ?_ (by omega)))
    all_goals simp only [rd_set, Nat.reduceEqDiff, reduceIte, r5, r10, r11, r12, r13, r17]
    rfl
  | succ j ih =>
    intro i κ fr σ hi hf hk' hkn r5 r10 r11 r12 r13 r17 r18
    have hlt : decide ((i : Int) ≤ k) = true := decide_eq_true (by omega)
    simp only [K7d, fb, Tryd.f7, cl, cr, Option.getD]
    rw [cw_loop]
    simp only [↓cw_skip, ↓cw_seq, ↓cw_block, ↓cw_cond, ↓cw_region, ↓then_normal, ↓draw_false, ↓ow_nil, ↓ow_cons, ↓contO_eq, ↓op_move, ↓op_buildSlice, ↓op_binOp, ↓op_call, ↓force_DC, vW_some, pW_some, bW_true, ifW_some, setD_some, bldS, on2_some, biV_eq, arg_blt, opd, opds, ofConst, leaf, rd_set, binV, intV, isConst, bltV, fillV, parts, put, flat, AV.cells, AV.strip, undF, aggF, infF, Nat.reduceEqDiff, Nat.reduceAdd, Nat.reduceMul, Nat.reduceLeDiff, ne_eq, not_false_eq_true, reduceIte, reduceCtorEq, Bool.or_false, List.length_cons, List.length_nil, List.append_nil, List.take_succ_cons, List.take_zero, List.set_cons_zero, List.map_cons, List.map_nil, Nat.zero_add, and_self, newTok, St.bump, Nat.add_assoc, or_true, List.headD_cons, tokFree, buildSliceV, repeatCells, chunk, List.size_toArray, r5, r17, r18, hlt, hf.tb]
    refine app_step (y := 11) (ys := []) (hk'.set (by omega)) (by rw [List.length_append, d2_len]; simp; omega) ?_ fun X hX => ?_
    · exact tokFree_of (by repeat (first | exact (Fresh.freeT hf (by omega)) | refine FreeT.set ?_ (by omega) | refine FreeT.via (by assumption) ?_ (by omega)))
    simp only [↓cw_region, ↓then_normal, ↓block_normal, ↓draw_false, ↓ow_nil, ↓ow_cons, ↓contO_eq, ↓op_move, ↓op_assign, ↓op_binOp, vW_some, setD_some, on2_some, biV_eq, opd, ofConst, leaf, rd_set, binV, intV, isConst, Nat.reduceEqDiff, Nat.reduceAdd, reduceIte, Bool.or_true, List.length_cons, List.length_nil, Nat.zero_add, St.bump, Nat.add_assoc, List.size_toArray, r18, fw_add1 (n := i) (by omega)]
    have hs : d2 k ++ List.replicate i (11 : Int) ++ [11] = d2 k ++ List.replicate (i + 1) 11 := by rw [List.append_assoc, ← List.replicate_succ']
    refine ih (i + 1) (σ.nb + 7) _ _ (by omega) ?_ (.here (by omega)) (by simp only; omega) ?_ ?_ ?_ ?_ ?_ ?_ ?_
    · first | exact Fresh.of (by repeat (first | exact (Fresh.freeH hf (by omega)) | refine FreeH.set ?_ (by omega))) (by repeat (first | exact (Fresh.freeT hf (by omega)) | refine FreeT.set ?_ (by omega) | refine FreeT.via (by assumption) ?_ (by omega)))
    · simp only [rd_set, Nat.reduceEqDiff, reduceIte, r5]
    · simp only [rd_set, Nat.reduceEqDiff, reduceIte, r10]
    · simp only [rd_set, Nat.reduceEqDiff, reduceIte, r11]
    · simp only [rd_set, Nat.reduceEqDiff, reduceIte, r12]
    · simp only [rd_set, Nat.reduceEqDiff, reduceIte, r13]
    · simp only [rd_set, Nat.reduceEqDiff, reduceIte, hs]
    · simp only [rd_set, Nat.reduceEqDiff, reduceIte]
end Go.Pv
