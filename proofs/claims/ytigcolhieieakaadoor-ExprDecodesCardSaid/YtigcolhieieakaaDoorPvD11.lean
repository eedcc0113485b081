/- The document's reader: labels. (PvZ6) -/
import Derived.Test.YtigcolhieieakaaDoorPvD9
import Derived.Test.YtigcolhieieakaaDoorPvE3
namespace Go.Pv
open Go Go.Proofs Go.RowKit
set_option linter.unusedVariables false
set_option linter.unusedSimpArgs false
set_option maxRecDepth 100000

/-- Two variables that are not the same. -/
def look2 (x y : Nat) (t : Nat) : AV := if t = x then .p 0 0 else if t = y then .p 1 0 else .np
theorem okDrawD_pair {T : Tab} {ops : Array Oper} {ρ : Nat → AV} (x y : Nat) {l1 o1 l2 o2 : Nat} (hx : ρ x = .p l1 o1) (hy : ρ y = .p l2 o2) (hne : l1 ≠ l2)
    (h : okDrawD T ops (look2 x y) = true) : okDrawD T ops ρ = true := by
  refine okPairsD_mono (fun a b hab => ?_) _ _ h
  have h1 : Nat.beq l1 l2 = false := by cases hb : Nat.beq l1 l2 with | false => rfl | true => exact absurd (Nat.eq_of_beq_eq_true hb) hne
  have h2 : Nat.beq l2 l1 = false := by cases hb : Nat.beq l2 l1 with | false => rfl | true => exact absurd (Nat.eq_of_beq_eq_true hb).symm hne
  have kind : ∀ t, (look2 x y t = .p 0 0 ∧ ρ t = .p l1 o1) ∨ (look2 x y t = .p 1 0 ∧ ρ t = .p l2 o2) ∨ look2 x y t = .np := fun t => by
    unfold look2
    by_cases e1 : t = x
    · exact .inl ⟨if_pos e1, by rw [e1]; exact hx⟩
    · rw [if_neg e1]
      by_cases e2 : t = y
      · exact .inr (.inl ⟨if_pos e2, by rw [e2]; exact hy⟩)
      · exact .inr (.inr (if_neg e2))
  rcases kind a with ⟨ea, ra⟩ | ⟨ea, ra⟩ | ea <;> rcases kind b with ⟨eb, rb⟩ | ⟨eb, rb⟩ | eb <;> rw [ea, eb] at hab <;> first | (simp [farV] at hab; done) | (rw [ra, rb]; simp [farV, h1, h2])
/-- Four variables, no two the same. -/
def look4p (x y u v : Nat) (t : Nat) : AV := if t = x then .p 0 0 else if t = y then .p 1 0 else if t = u then .p 2 0 else if t = v then .p 3 0 else .np
theorem beqNe {a b : Nat} (h : a ≠ b) : Nat.beq a b = false := by cases hb : Nat.beq a b with | false => rfl | true => exact absurd (Nat.eq_of_beq_eq_true hb) h
theorem okDrawD_4p {T : Tab} {ops : Array Oper} {ρ : Nat → AV} (x y u v : Nat) {l1 o1 l2 o2 l3 o3 l4 o4 : Nat} (hx : ρ x = .p l1 o1) (hy : ρ y = .p l2 o2) (hu : ρ u = .p l3 o3) (hv : ρ v = .p l4 o4) (h12 : l1 ≠ l2) (h13 : l1 ≠ l3) (h14 : l1 ≠ l4) (h23 : l2 ≠ l3) (h24 : l2 ≠ l4) (h34 : l3 ≠ l4)
    (h : okDrawD T ops (look4p x y u v) = true) : okDrawD T ops ρ = true := by
  refine okPairsD_mono (fun a b hab => ?_) _ _ h
  have kind : ∀ t, (look4p x y u v t = .p 0 0 ∧ ρ t = .p l1 o1) ∨ (look4p x y u v t = .p 1 0 ∧ ρ t = .p l2 o2) ∨ (look4p x y u v t = .p 2 0 ∧ ρ t = .p l3 o3) ∨ (look4p x y u v t = .p 3 0 ∧ ρ t = .p l4 o4) ∨ look4p x y u v t = .np := fun t => by
    unfold look4p
    by_cases e1 : t = x
    · exact .inl ⟨if_pos e1, by rw [e1]; exact hx⟩
    rw [if_neg e1]
    by_cases e2 : t = y
    · exact .inr (.inl ⟨if_pos e2, by rw [e2]; exact hy⟩)
    rw [if_neg e2]
    by_cases e3 : t = u
    · exact .inr (.inr (.inl ⟨if_pos e3, by rw [e3]; exact hu⟩))
    rw [if_neg e3]
    by_cases e4 : t = v
    · exact .inr (.inr (.inr (.inl ⟨if_pos e4, by rw [e4]; exact hv⟩)))
    · exact .inr (.inr (.inr (.inr (if_neg e4))))
  rcases kind a with ⟨ea, ra⟩ | ⟨ea, ra⟩ | ⟨ea, ra⟩ | ⟨ea, ra⟩ | ea <;> rcases kind b with ⟨eb, rb⟩ | ⟨eb, rb⟩ | ⟨eb, rb⟩ | ⟨eb, rb⟩ | eb <;> rw [ea, eb] at hab <;> first | (simp [farV] at hab; done) | (rw [ra, rb]; simp [farV, beqNe h12, beqNe h13, beqNe h14, beqNe h23, beqNe h24, beqNe h34, beqNe h12.symm, beqNe h13.symm, beqNe h14.symm, beqNe h23.symm, beqNe h24.symm, beqNe h34.symm])

theorem tU_err {bs : List Nat} {e : Nat} (h : tU bs = .bad e) : e ≠ 0 := by
  unfold tU at h
  split at h
  · split at h
    · cases h
    · injection h with h; omega
  · rename_i e' hg
    injection h with h
    have := (grp_bad _ _ _ hg).2
    split at this <;> omega
theorem rdU_err {bs : List Nat} {a w e : Nat} (h : rdU bs a = .bad w e) : e ≠ 0 := by
  unfold rdU at h
  split at h
  · cases h
  · rename_i e' ht
    injection h with h1 h2
    rw [← h2]; exact tU_err ht

noncomputable def K62 : Code :=  cl (cr (cl (cr (cr (cr (cr (cr (cr (fb Tryd.f62)))))))))
theorem exit62 (bs : List Nat) (m n b1 b2 : Nat) (hn : n ≤ 256) (c2 : List AV) (e a' : Nat) (acc : List Int) (i κ : Nat) (fr : Fr) (σ : St) (Q : Ex → Fr → St → Prop) (hx : e ≠ 0 ∨ n < i) (hf : Fresh σ) (p1 : b1 < σ.nb) (p2 : b2 < σ.nb) (g1 : Tr.get σ.h b1 = some [.sl (nat8 bs) 0, .i .i64 a', .i .i64 m, .i .i64 e]) (g2 : Tr.get σ.h b2 = some c2)
    (r1 : fr.rd 1 = .p b1 0) (r2 : fr.rd 2 = .p b2 0) (r5 : fr.rd 5 = .i .u32 n) (r6 : fr.rd 6 = .sl (u32s acc) κ) (r7 : fr.rd 7 = .i .i64 (i : Nat))
    (hQ : ∀ fr σ, Fresh σ → b1 < σ.nb → b2 < σ.nb → Tr.get σ.h b1 = some [.sl (nat8 bs) 0, .i .i64 a', .i .i64 m, .i .i64 e] → Tr.get σ.h b2 = some c2 → fr.rd 1 = .p b1 0 → fr.rd 2 = .p b2 0 → fr.rd 6 = .sl (u32s acc) κ → Q (.exit 0) fr σ) : CodeW TS K62 fr σ Q := by
  have hfn : fw .i64 (n : Int) = (n : Int) := fw_nat (by omega)
  simp only [K62, fb, Tryd.f62, cl, cr, Option.getD]
  rw [cw_loop]
  by_cases hle : i ≤ n
  · have hle' : decide ((i : Int) ≤ n) = true := decide_eq_true (by omega)
    have he : ((e : Int) == 0) = false := by rw [beq_eq_false_iff_ne]; omega
    simp only [↓cw_exit, ↓cw_seq, ↓cw_cond, ↓cw_region, ↓then_normal, ↓then_exit, ↓draw_false, ↓ow_nil, ↓ow_cons, ↓ow_consG, ↓contO_eq, ↓op_move, ↓op_load, ↓op_binOp, ↓op_convert, ↓op_fieldAddr, ↓op_pick, ↓force_DC, ↓force_DO, vW_some, bW_true, bW_false, ifW_some, setD_some, on1_some, on2_some, ldV_eq, biV_eq, faV_eq, pkV, opd, ofConst, leaf, rd_set, binV, intV, convV, isConst, loadV, fieldAddrV, take?, undF, aggF, infF, Nat.reduceEqDiff, Nat.reduceAdd, Nat.reduceLeDiff, reduceIte, reduceCtorEq, Bool.or_false, Bool.or_true, List.length_cons, List.length_nil, List.getElem?_cons_zero, List.getElem?_cons_succ, List.drop_succ_cons, List.drop_zero, List.take_succ_cons, List.take_zero, beq_self_eq_true, Nat.zero_add, St.bump, wantG, Option.bind, List.size_toArray, r1, r5, r7, hfn, hle', g1, he]
    refine hQ _ _ ?_ ?_ ?_ g1 g2 ?_ ?_ ?_
    · first | exact Fresh.of (by repeat (first | exact (Fresh.freeH hf (by omega)) | refine FreeH.set ?_ (by omega))) (by repeat (first | exact (Fresh.freeT hf (by omega)) | refine FreeT.set ?_ (by omega) | refine FreeT.via (by assumption) ?_ (by omega)))
    · simp only; omega
    · simp only; omega
    · simp only [rd_set, Nat.reduceEqDiff, reduceIte, r1]
    · simp only [rd_set, Nat.reduceEqDiff, reduceIte, r2]
    · simp only [rd_set, Nat.reduceEqDiff, reduceIte, r6]
  · have hle' : decide ((i : Int) ≤ n) = false := decide_eq_false (by omega)
    simp only [↓cw_exit, ↓cw_seq, ↓cw_cond, ↓cw_region, ↓then_normal, ↓then_exit, ↓draw_false, ↓ow_nil, ↓ow_cons, ↓ow_consG, ↓contO_eq, ↓op_move, ↓op_binOp, ↓op_convert, ↓op_pick, ↓force_DC, ↓force_DOs, vW_some, bW_false, ifW_some, setD_some, on1_some, on2_some, biV_eq, pkV, opd, ofConst, leaf, rd_set, binV, intV, convV, isConst, undF, Nat.reduceEqDiff, Nat.reduceAdd, reduceIte, Bool.or_false, List.length_cons, List.length_nil, List.getElem?_cons_zero, List.getElem?_cons_succ, Nat.zero_add, St.bump, wantG, Option.bind, beqT, List.size_toArray, r5, r7, hfn, hle']
    refine hQ _ _ ?_ ?_ ?_ g1 g2 ?_ ?_ ?_
    · first | exact Fresh.of (by repeat (first | exact (Fresh.freeH hf (by omega)) | refine FreeH.set ?_ (by omega))) (by repeat (first | exact (Fresh.freeT hf (by omega)) | refine FreeT.set ?_ (by omega) | refine FreeT.via (by assumption) ?_ (by omega)))
    · simp only; omega
    · simp only; omega
    · simp only [rd_set, Nat.reduceEqDiff, reduceIte, r1]
    · simp only [rd_set, Nat.reduceEqDiff, reduceIte, r2]
    · simp only [rd_set, Nat.reduceEqDiff, reduceIte, r6]

theorem loop62 (bs : List Nat) (hb : bs.length < 1000000) (m n b1 b2 : Nat) (hn : n ≤ 256) (hne : b1 ≠ b2) (c2 : List AV) (Q : Ex → Fr → St → Prop) :
    ∀ k i (acc : List Int) a κ fr σ, i + k = n + 1 → acc.length = i → a ≤ bs.length → Fresh σ → b1 < σ.nb → b2 < σ.nb → Tr.get σ.h b1 = some [.sl (nat8 bs) 0, .i .i64 a, .i .i64 m, .i .i64 (0 : Nat)] → Tr.get σ.h b2 = some c2 → TokG σ (u32s acc) κ 1 → κ < σ.nb + 2 → fr.rd 1 = .p b1 0 → fr.rd 2 = .p b2 0 → fr.rd 5 = .i .u32 n → fr.rd 6 = .sl (u32s acc) κ → fr.rd 7 = .i .i64 i →
      (∀ l a1, rdN bs k a = .ok l a1 → ∀ κ fr σ, Fresh σ → b1 < σ.nb → b2 < σ.nb → Tr.get σ.h b1 = some [.sl (nat8 bs) 0, .i .i64 a1, .i .i64 m, .i .i64 (0 : Nat)] → Tr.get σ.h b2 = some c2 → fr.rd 1 = .p b1 0 → fr.rd 2 = .p b2 0 → fr.rd 6 = .sl (u32s (acc ++ l)) κ → Q (.exit 0) fr σ) →
      (∀ w e, rdN bs k a = .bad w e → e ≠ 0 → ∀ es κ fr σ, Fresh σ → b1 < σ.nb → b2 < σ.nb → Tr.get σ.h b1 = some [.sl (nat8 bs) 0, .i .i64 w, .i .i64 m, .i .i64 e] → Tr.get σ.h b2 = some c2 → fr.rd 1 = .p b1 0 → fr.rd 2 = .p b2 0 → fr.rd 6 = .sl (u32s es) κ → Q (.exit 0) fr σ) → CodeW TS K62 fr σ Q := by
  intro k
  induction k with
  | zero =>
    intro i acc a κ fr σ hk hacc ha hf p1 p2 g1 g2 ht hκ r1 r2 r5 r6 r7 hok hbad
    refine exit62 bs m n b1 b2 hn c2 0 a acc i κ fr σ Q (.inr (by omega)) hf p1 p2 g1 g2 r1 r2 r5 r6 r7 fun fr σ q1 q2 q3 q4 q5 q6 q7 q8 => ?_
    exact hok [] a rfl κ fr σ q1 q2 q3 q4 q5 q6 q7 (by rw [q8]; simp)
  | succ k ih =>
    intro i acc a κ fr σ hk hacc ha hf p1 p2 g1 g2 ht hκ r1 r2 r5 r6 r7 hok hbad
    have hfn : fw .i64 (n : Int) = (n : Int) := fw_nat (by omega)
    have hle : decide ((i : Int) ≤ n) = true := decide_eq_true (by omega)
    have hnum := w_number bs a m ha hb
    simp only [rav] at hnum
    have hb1x : ∀ j, (b1 = σ.nb + j) = False := fun j => by simp; omega
    have hb1y : (b1 = σ.nb) = False := by simp; omega
    have hb2x : ∀ j, (b2 = σ.nb + j) = False := fun j => by simp; omega
    have hb2y : (b2 = σ.nb) = False := by simp; omega
    have hb12 : (b2 = b1) = False := by simp; omega
    simp only [K62, fb, Tryd.f62, cl, cr, Option.getD]
    rw [cw_loop]
    simp only [↓cw_skip, ↓cw_seq, ↓cw_block, ↓cw_cond, ↓cw_region, ↓then_normal, ↓draw_false, ↓ow_nil, ↓ow_cons, ↓ow_consG, ↓contO_eq, ↓op_move, ↓op_load, ↓op_binOp, ↓op_convert, ↓op_fieldAddr, ↓op_pick, ↓op_call, ↓force_DC, ↓force_DO, vW_some, bW_true, ifW_some, setD_some, on1_some, on2_some, ldV_eq, biV_eq, faV_eq, pkV, callV_some, arg_val, opd, opds, ofConst, leaf, rd_set, binV, intV, convV, isConst, loadV, fieldAddrV, take?, undF, aggF, infF, Nat.reduceEqDiff, Nat.reduceAdd, Nat.reduceLeDiff, reduceIte, reduceCtorEq, Bool.or_false, Bool.or_true, List.length_cons, List.length_nil, List.getElem?_cons_zero, List.getElem?_cons_succ, List.append_nil, List.drop_succ_cons, List.drop_zero, List.take_succ_cons, List.take_zero, beq_self_eq_true, Nat.zero_add, St.bump, wantG, Option.bind, List.size_toArray, r1, r5, r7, hfn, hle, g1, show (((0 : Nat) : Int) == 0) = true from rfl]
    refine pc60.call (by simp [untok, AV.strip, AV.strip0, Go.Pv.goods, Go.Pv.good, goods_nat8]) hnum ?_
    simp only [rdN] at hok hbad
    cases hu : rdU bs a with
    | ok v a1 =>
      have hl := rdU_len hu
      simp only [hu] at hok hbad
      simp only [numV, rav]
      simp only [↓cw_region, ↓then_normal, ↓draw_false, ↓ow_nil, ↓ow_cons, ↓contO_eq, ↓op_move, ↓op_assign, ↓op_alloc, ↓op_buildSlice, ↓op_load, ↓op_store, ↓op_extract, ↓op_call, vW_some, pW_some, setD_some, setD_none, allocV, bldS, on1_some, ldV_eq, stV, exV, arg_blt, opd, opds, rd_set, bltV, loadV, take?, fillV, parts, put, flat, AV.cells, AV.strip, undF, aggF, infF, Nat.reduceEqDiff, Nat.reduceAdd, Nat.reduceMul, Nat.reduceLeDiff, ne_eq, not_false_eq_true, reduceIte, reduceCtorEq, List.length_cons, List.length_nil, List.getElem?_cons_zero, List.getElem?_cons_succ, List.append_nil, List.drop_zero, List.take_succ_cons, List.take_zero, List.set_cons_zero, List.set_cons_succ, List.map_cons, List.map_nil, Nat.zero_add, and_self, newBox, newTok, St.bump, storeV, Tr.get_set, Nat.add_assoc, or_true, List.headD_cons, boxFree, tokFree, buildSliceV, repeatCells, chunk, List.size_toArray, r6, hf.hb, hf.tb]
      refine app_gen (es := u32s acc) u40 i38 a38 ?_ (by decide) (by decide) rfl (head_u32s _) ?_ ?_ fun X hX hX2 => ?_
      · exact TokG.keep (σ := σ) ht (by simp only [Tr.get_set]; rw [if_neg (by omega)])
      · simp only [u32s_len]; omega
      · exact tokFree_of (by repeat (first | exact (Fresh.freeT hf (by omega)) | refine FreeT.set ?_ (by omega) | refine FreeT.via (by assumption) ?_ (by omega)))
      simp only [↓cw_region, ↓then_normal, ↓block_normal, ↓draw_false, ↓draw_true, ↓ow_nil, ↓ow_cons, ↓contO_eq, ↓op_move, ↓op_assign, ↓op_store, ↓op_binOp, vW_some, pW_some, bW_true, setD_some, setD_none, on2_some, stV, biV_eq, opd, ofConst, leaf, rd_set, binV, intV, isConst, put, flat, AV.cells, AV.strip, hasStore, isStore, infF, Nat.reduceEqDiff, Nat.reduceAdd, Nat.reduceLeDiff, reduceIte, Bool.or_false, Bool.or_true, List.any, List.length_cons, List.length_nil, List.set_cons_zero, List.set_cons_succ, Nat.zero_add, and_self, St.bump, storeV, Tr.get_set, Nat.add_assoc, force_DD, List.size_toArray, r1, r7, g1, hb1x]
      refine ⟨okDrawD_pair 8 1 (by simp only [rd_set, Nat.reduceEqDiff, reduceIte]; exact rfl) (by simp only [rd_set, Nat.reduceEqDiff, reduceIte, r1]; exact rfl) (by omega) (by kernel_rfl), ?_⟩
      simp only [fw_add1 (n := i) (by omega)]
      refine ih (i + 1) (acc ++ [(v : Int)]) a1 (σ.nb + 23) _ _ (by omega) (by simp [hacc]) hl.2.1 ?_ ?_ ?_ ?_ ?_ ?_ ?_ ?_ ?_ ?_ ?_ ?_ ?_ ?_
      · first | exact Fresh.of (by repeat (first | exact (Fresh.freeH hf (by omega)) | refine FreeH.set ?_ (by omega))) (by repeat (first | exact (Fresh.freeT hf (by omega)) | refine FreeT.set ?_ (by omega) | refine FreeT.via (by assumption) ?_ (by omega)))
      · simp only; omega
      · simp only; omega
      · simp only [reduceIte, Tr.get_set, hb1x]
      · simp only [reduceIte, Tr.get_set, hb2x, hb12]
        exact g2
      · exact .inr ⟨by omega, by simp [Tr.get_set]⟩
      · simp only; omega
      · simp only [rd_set, Nat.reduceEqDiff, reduceIte, r1]
      · simp only [rd_set, Nat.reduceEqDiff, reduceIte, r2]
      · simp only [rd_set, Nat.reduceEqDiff, reduceIte, r5]
      · simp only [rd_set, Nat.reduceEqDiff, reduceIte]
        rw [u32s_snoc]
      · simp only [rd_set, Nat.reduceEqDiff, reduceIte]
      · intro l a2 hn2 κ2 fr2 σ2 q1 q2 q3 q4 q5 q6 q7 q8
        exact hok ((v : Int) :: l) a2 (by rw [hn2]) κ2 fr2 σ2 q1 q2 q3 q4 q5 q6 q7 (by rw [q8]; simp)
      · intro w e hn2 he es κ2 fr2 σ2 q1 q2 q3 q4 q5 q6 q7 q8
        exact hbad w e (by rw [hn2]) he es κ2 fr2 σ2 q1 q2 q3 q4 q5 q6 q7 q8
    | bad w e =>
      have he0 : e ≠ 0 := rdU_err hu
      simp only [hu] at hok hbad
      simp only [numV, rav]
      simp only [↓cw_region, ↓then_normal, ↓draw_false, ↓ow_nil, ↓ow_cons, ↓contO_eq, ↓op_move, ↓op_assign, ↓op_alloc, ↓op_buildSlice, ↓op_load, ↓op_store, ↓op_extract, ↓op_call, vW_some, pW_some, setD_some, setD_none, allocV, bldS, on1_some, ldV_eq, stV, exV, arg_blt, opd, opds, rd_set, bltV, loadV, take?, fillV, parts, put, flat, AV.cells, AV.strip, undF, aggF, infF, Nat.reduceEqDiff, Nat.reduceAdd, Nat.reduceMul, Nat.reduceLeDiff, ne_eq, not_false_eq_true, reduceIte, reduceCtorEq, List.length_cons, List.length_nil, List.getElem?_cons_zero, List.getElem?_cons_succ, List.append_nil, List.drop_zero, List.take_succ_cons, List.take_zero, List.set_cons_zero, List.set_cons_succ, List.map_cons, List.map_nil, Nat.zero_add, and_self, newBox, newTok, St.bump, storeV, Tr.get_set, Nat.add_assoc, or_true, List.headD_cons, boxFree, tokFree, buildSliceV, repeatCells, chunk, List.size_toArray, r6, hf.hb, hf.tb]
      refine app_gen (es := u32s acc) u40 i38 a38 ?_ (by decide) (by decide) rfl (head_u32s _) ?_ ?_ fun X hX hX2 => ?_
      · exact TokG.keep (σ := σ) ht (by simp only [Tr.get_set]; rw [if_neg (by omega)])
      · simp only [u32s_len]; omega
      · exact tokFree_of (by repeat (first | exact (Fresh.freeT hf (by omega)) | refine FreeT.set ?_ (by omega) | refine FreeT.via (by assumption) ?_ (by omega)))
      simp only [↓cw_region, ↓then_normal, ↓block_normal, ↓draw_false, ↓draw_true, ↓ow_nil, ↓ow_cons, ↓contO_eq, ↓op_move, ↓op_assign, ↓op_store, ↓op_binOp, vW_some, pW_some, bW_true, setD_some, setD_none, on2_some, stV, biV_eq, opd, ofConst, leaf, rd_set, binV, intV, isConst, put, flat, AV.cells, AV.strip, hasStore, isStore, infF, Nat.reduceEqDiff, Nat.reduceAdd, Nat.reduceLeDiff, reduceIte, Bool.or_false, Bool.or_true, List.any, List.length_cons, List.length_nil, List.set_cons_zero, List.set_cons_succ, Nat.zero_add, and_self, St.bump, storeV, Tr.get_set, Nat.add_assoc, force_DD, List.size_toArray, r1, r7, g1, hb1x]
      refine ⟨okDrawD_pair 8 1 (by simp only [rd_set, Nat.reduceEqDiff, reduceIte]; exact rfl) (by simp only [rd_set, Nat.reduceEqDiff, reduceIte, r1]; exact rfl) (by omega) (by kernel_rfl), ?_⟩
      simp only [fw_add1 (n := i) (by omega)]
      refine exit62 bs m n b1 b2 hn c2 e w (acc ++ [(0 : Int)]) (i + 1) (σ.nb + 23) _ _ Q (.inl he0) ?_ ?_ ?_ ?_ ?_ ?_ ?_ ?_ ?_ ?_ fun fr σ q1 q2 q3 q4 q5 q6 q7 q8 => ?_
      · first | exact Fresh.of (by repeat (first | exact (Fresh.freeH hf (by omega)) | refine FreeH.set ?_ (by omega))) (by repeat (first | exact (Fresh.freeT hf (by omega)) | refine FreeT.set ?_ (by omega) | refine FreeT.via (by assumption) ?_ (by omega)))
      · simp only; omega
      · simp only; omega
      · simp only [reduceIte, Tr.get_set, hb1x]
      · simp only [reduceIte, Tr.get_set, hb2x, hb12]
        exact g2
      · simp only [rd_set, Nat.reduceEqDiff, reduceIte, r1]
      · simp only [rd_set, Nat.reduceEqDiff, reduceIte, r2]
      · simp only [rd_set, Nat.reduceEqDiff, reduceIte, r5]
      · simp only [rd_set, Nat.reduceEqDiff, reduceIte]
        rw [u32s_snoc]
      · simp only [rd_set, Nat.reduceEqDiff, reduceIte]
      · exact hbad w e rfl he0 _ _ fr σ q1 q2 q3 q4 q5 q6 q7 q8

/-- What labels answers. -/
def labV (es : List Int) (bs : List Nat) (m : Nat) (r : Rp (List Int)) : AV := match r with
  | .ok l a => .t [rav bs a m 0, .sl (u32s l) 0]
  | .bad w e => .t [rav bs w m e, .sl (u32s es) 0]
theorem w_rlabels (bs : List Nat) (a m : Nat) (hb : bs.length < 1000000) (ha : a ≤ bs.length) : ∃ es, PureW TS 62 [rav bs a m 0] (labV es bs m (rdL bs a)) := by
  have main : CallW TS 62 [rav bs a m 0] St.start fun v _ => ∃ es, untok v = labV es bs m (rdL bs a) := by
    refine callW_of ft62 rfl (Nat.le_of_ble_eq_true rfl) ?_
    have hf : Fresh St.start := Fresh.start
    generalize St.start = σ at hf
    have hnum := w_number bs a m ha hb
    simp only [rav] at hnum ⊢
    simp only [↓cw_seq, ↓cw_region, ↓then_normal, ↓draw_false, ↓ow_nil, ↓ow_cons, ↓contO_eq, ↓op_assign, ↓op_alloc, ↓op_box, ↓op_load, ↓op_fieldAddr, ↓op_call, vW_some, pW_some, setD_some, allocV, boxV, on1_some, ldV_eq, faV_eq, callV_some, arg_val, opd, opds, ofConst, leaf, rd_set, rd_nil, Fr.ofList, loadV, fieldAddrV, take?, flat, AV.cells, undF, aggF, infF, Nat.reduceEqDiff, Nat.reduceAdd, Nat.reduceLeDiff, reduceIte, reduceCtorEq, List.length_cons, List.length_nil, List.getElem?_cons_zero, List.getElem?_cons_succ, List.append_nil, List.drop_succ_cons, List.drop_zero, List.take_succ_cons, List.take_zero, Nat.add_zero, Nat.zero_add, and_self, newBox, St.bump, Tr.get_set, Nat.add_assoc, Nat.left_eq_add, Nat.add_eq_left, boxFree, List.size_toArray, hf.hb, hf.h0]
    refine pc60.call (by simp [untok, AV.strip, AV.strip0, Go.Pv.goods, Go.Pv.good, goods_nat8]) hnum ?_
    unfold rdL
    cases hu : rdU bs a with
    | bad w e =>
      have he0 : e ≠ 0 := rdU_err hu
      have hne : ((e : Int) != 0) = true := by rw [bne_iff_ne]; omega
      simp only [numV, rav]
      simp only [↓cw_ret, ↓cw_seq, ↓cw_cond, ↓cw_region, ↓then_normal, ↓then_ret, ↓draw_false, ↓ow_nil, ↓ow_cons, ↓contO_eq, ↓op_move, ↓op_assign, ↓op_load, ↓op_store, ↓op_binOp, ↓op_fieldAddr, ↓op_extract, ↓ret_ret, ↓force_DC, vW_some, pW_some, bW_true, ifW_some, setD_some, setD_none, on1_some, on2_some, ldV_eq, stV, biV_eq, faV_eq, exV, resW, opd, ofConst, leaf, rd_set, rd_nil, binV, intV, isConst, loadV, fieldAddrV, take?, put, flat, AV.cells, undF, aggF, infF, resV, Nat.reduceEqDiff, Nat.reduceAdd, Nat.reduceLeDiff, reduceIte, reduceCtorEq, Bool.or_true, List.length_cons, List.length_nil, List.getElem?_cons_zero, List.getElem?_cons_succ, List.drop_succ_cons, List.drop_zero, List.take_succ_cons, List.take_zero, List.set_cons_zero, List.set_cons_succ, Nat.zero_add, and_self, St.bump, storeV, Tr.get_set, Nat.add_assoc, Nat.left_eq_add, Nat.add_eq_left, List.size_toArray, hf.hb, hf.h0, hne, Tryd.f62]
      exact ⟨[], by simp [untok, AV.strip, AV.strip0, labV, rav, u32s]⟩
    | ok n a1 =>
      have hl := rdU_len hu
      simp only [numV, rav]
      by_cases hn : n > 256
      · have hgt : decide ((n : Int) > 256) = true := decide_eq_true (by omega)
        simp only [↓cw_skip, ↓cw_ret, ↓cw_seq, ↓cw_cond, ↓cw_region, ↓then_normal, ↓then_ret, ↓draw_false, ↓ow_nil, ↓ow_cons, ↓contO_eq, ↓op_move, ↓op_assign, ↓op_load, ↓op_store, ↓op_binOp, ↓op_fieldAddr, ↓op_extract, ↓ret_ret, ↓force_DC, vW_some, pW_some, bW_true, bW_false, ifW_some, setD_some, setD_none, on1_some, on2_some, ldV_eq, stV, biV_eq, faV_eq, exV, resW, opd, ofConst, leaf, rd_set, rd_nil, binV, intV, isConst, loadV, fieldAddrV, take?, put, flat, AV.cells, undF, aggF, infF, resV, Nat.reduceEqDiff, Nat.reduceAdd, Nat.reduceLeDiff, reduceIte, reduceCtorEq, Bool.or_true, List.length_cons, List.length_nil, List.getElem?_cons_zero, List.getElem?_cons_succ, List.drop_succ_cons, List.drop_zero, List.take_succ_cons, List.take_zero, List.set_cons_zero, List.set_cons_succ, Nat.zero_add, and_self, St.bump, storeV, Tr.get_set, Nat.add_assoc, Nat.left_eq_add, Nat.add_eq_left, List.size_toArray, hf.hb, hf.h0, show (((0 : Nat) : Int) != 0) = false from rfl, hgt, Tryd.f62]
        rw [if_pos hn]
        exact ⟨[], by simp [untok, AV.strip, AV.strip0, labV, rav, u32s]⟩
      · have hgt : decide ((n : Int) > 256) = false := decide_eq_false (by omega)
        rw [if_neg hn]
        simp only [↓cw_skip, ↓cw_seq, ↓cw_block, ↓cw_cond, ↓cw_region, ↓then_normal, ↓draw_false, ↓ow_nil, ↓ow_cons, ↓contO_eq, ↓op_move, ↓op_assign, ↓op_load, ↓op_store, ↓op_binOp, ↓op_fieldAddr, ↓op_extract, ↓force_DC, vW_some, pW_some, bW_false, ifW_some, setD_some, setD_none, on1_some, on2_some, ldV_eq, stV, biV_eq, faV_eq, exV, opd, ofConst, leaf, rd_set, rd_nil, binV, intV, isConst, loadV, fieldAddrV, take?, put, flat, AV.cells, undF, aggF, infF, Nat.reduceEqDiff, Nat.reduceAdd, Nat.reduceLeDiff, reduceIte, reduceCtorEq, Bool.or_true, List.length_cons, List.length_nil, List.getElem?_cons_zero, List.getElem?_cons_succ, List.drop_succ_cons, List.drop_zero, List.take_succ_cons, List.take_zero, List.set_cons_zero, List.set_cons_succ, Nat.zero_add, and_self, St.bump, storeV, Tr.get_set, Nat.add_assoc, Nat.left_eq_add, List.size_toArray, hf.h0, show (((0 : Nat) : Int) != 0) = false from rfl, hgt]
        refine loop62 bs hb m n σ.nb (σ.nb + 1) (by omega) (by omega) [.sl [] 1, .i .i64 0, .i .i64 0, .i .i64 0] _ (n + 1) 0 [] a1 1 _ _ (by omega) rfl hl.2.1 ?_ ?_ ?_ ?_ ?_ (.inl ⟨rfl, rfl⟩) (by simp only; omega) ?_ ?_ ?_ ?_ ?_ (fun l a2 h2 κ fr σ2 q1 q2 q3 q4 q5 q6 q7 q8 => ?_) fun w e h2 he es κ fr σ2 q1 q2 q3 q4 q5 q6 q7 q8 => ?_
        · first | exact Fresh.of (by repeat (first | exact (Fresh.freeH hf (by omega)) | refine FreeH.set ?_ (by omega))) (by repeat (first | exact (Fresh.freeT hf (by omega)) | refine FreeT.set ?_ (by omega) | refine FreeT.via (by assumption) ?_ (by omega)))
        · simp only; omega
        · simp only; omega
        · simp only [reduceIte, reduceCtorEq, Tr.get_set, Nat.left_eq_add]
        · simp only [reduceIte, reduceCtorEq, Tr.get_set, Nat.add_eq_left]
        · simp only [rd_set, rd_nil, Nat.reduceEqDiff, reduceIte, reduceCtorEq]
        · simp only [rd_set, rd_nil, Nat.reduceEqDiff, reduceIte, reduceCtorEq]
        · simp only [rd_set, rd_nil, Nat.reduceEqDiff, reduceIte, reduceCtorEq]
        · simp only [rd_set, rd_nil, Nat.reduceEqDiff, reduceIte, reduceCtorEq]
          rfl
        · simp only [rd_set, rd_nil, Nat.reduceEqDiff, reduceIte, reduceCtorEq]
          rfl
        · have hb12 : (σ.nb + 1 = σ.nb) = False := by simp
          simp only [↓cw_ret, ↓cw_seq, ↓cw_region, ↓then_normal, ↓draw_false, ↓ow_nil, ↓ow_cons, ↓contO_eq, ↓op_move, ↓op_assign, ↓op_load, ↓op_store, ↓ret_ret, ↓force_DQ, block_exit, vW_some, pW_some, bW_true, setD_some, setD_none, on1_some, ldV_eq, stV, resW, nbeq, opd, rd_set, loadV, take?, put, flat, AV.cells, aggF, infF, resV, Nat.reduceEqDiff, Nat.reduceAdd, Nat.reduceLeDiff, reduceIte, List.length_cons, List.length_nil, List.getElem?_cons_zero, List.nil_append, List.drop_zero, List.take_succ_cons, List.take_zero, List.set_cons_zero, List.set_cons_succ, beq_self_eq_true, Nat.zero_add, and_self, St.bump, storeV, Tr.get_set, List.size_toArray, q4, q5, q6, q7, q8, Tryd.f62]
          exact ⟨[], by rw [h2]; simp [untok, AV.strip, AV.strip0, labV, rav]⟩
        · simp only [↓cw_ret, ↓cw_seq, ↓cw_region, ↓then_normal, ↓draw_false, ↓ow_nil, ↓ow_cons, ↓contO_eq, ↓op_move, ↓op_assign, ↓op_load, ↓op_store, ↓ret_ret, ↓force_DQ, block_exit, vW_some, pW_some, bW_true, setD_some, setD_none, on1_some, ldV_eq, stV, resW, nbeq, opd, rd_set, loadV, take?, put, flat, AV.cells, aggF, infF, resV, Nat.reduceEqDiff, Nat.reduceAdd, Nat.reduceLeDiff, reduceIte, List.length_cons, List.length_nil, List.getElem?_cons_zero, List.drop_zero, List.take_succ_cons, List.take_zero, List.set_cons_zero, List.set_cons_succ, beq_self_eq_true, Nat.zero_add, and_self, St.bump, storeV, Tr.get_set, List.size_toArray, q4, q5, q6, q7, q8, Tryd.f62]
          exact ⟨es, by rw [h2]; simp [untok, AV.strip, AV.strip0, labV, rav]⟩
  obtain ⟨n, v, σ', he, es, hu⟩ := main
  refine ⟨es, n, v, σ', he, hu, ?_⟩
  unfold labV
  cases rdL bs a <;> simp [rav, Go.Pv.good, Go.Pv.goods, goods_nat8, goods_u32s]
end Go.Pv
