/- The reader, where all is well: labels. (PvZ6) -/
import Derived.Test.YtigcolhieieakaaDoorPvR2
namespace Go.Pv
open Go Go.Proofs Go.RowKit
set_option linter.unusedVariables false
set_option linter.unusedSimpArgs false
set_option maxRecDepth 100000

/-- A row that may be appended to. -/
def TokG (σ : St) (es : List AV) (κ sz : Nat) : Prop := (κ = 1 ∧ es = []) ∨ (2 ≤ κ ∧ Tr.get σ.tk κ = some sz)
theorem TokG.keep {σ σ' : St} {es : List AV} {κ sz : Nat} (h : TokG σ es κ sz) (e : Tr.get σ'.tk κ = Tr.get σ.tk κ) : TokG σ' es κ sz := by
  rcases h with h | ⟨h1, h2⟩
  · exact .inl h
  · exact .inr ⟨h1, by rw [e]; exact h2⟩
theorem app_gen {t e : TypeId} {ti : TI} {ag : Bool} {h : Tr (List AV)} {tk : Tr Nat} {nb j : Nat} {es : List AV} {κ kk : Nat} {y : AV} {Q : AV → St → Prop}
    (hu : TS.und t = some (.slice e)) (hi : TS.inf e = some ti) (ha : TS.isAgg e = some ag) (hk : TokG ⟨h, tk, nb⟩ es κ ti.size) (hs : ti.size ≠ 0) (hb : ti.bytes ≠ 0) (hy : allSize ti.size [y] = true) (he : headSize ti.size es = true)
    (hl : (2 * (es.length + 1) + 192) * ti.bytes ≤ 140737488355328) (hfree : tokFree j ⟨h, tk, nb⟩ = true)
    (q : ∀ X, (∀ n, FreeT tk n → κ < n + 2 → FreeT X n) → (∀ k, k ≠ κ ∨ κ = 1 → Tr.get X k = Tr.get tk k) → Q (.sl (es ++ [AV.strip y]) (nb + j + 2)) ⟨h, Tr.set X (nb + j + 2) ti.size, nb⟩) :
    pW (appV TS j t (.sl es κ) (.sl [y] kk) ⟨h, tk, nb⟩) Q := by
  unfold appV
  simp only [hu, hi, ha, elemsV]
  rw [if_pos ⟨hs, hb, hy, he, by simpa using hl, hfree⟩]
  rcases hk with ⟨rfl, rfl⟩ | ⟨h2, hk⟩
  · simp only
    rw [show ([] ++ List.map AV.strip [y] : List AV) = [] ++ [AV.strip y] from rfl, pW_some]
    exact q tk (fun n hn _ => hn) (fun _ _ => rfl)
  · obtain ⟨k, rfl⟩ : ∃ k, κ = k + 2 := ⟨κ - 2, by omega⟩
    simp only at hk
    simp only [hk, if_true]
    rw [show (es ++ List.map AV.strip [y] : List AV) = es ++ [AV.strip y] from rfl]
    simp only [newTok, pW_some]
    exact q _ (fun n hn hl => hn.set hl) (fun k' hk' => by rw [Tr.get_set, if_neg (by omega)])

theorem ExtR.from {p : Nat} {σ τ σ1 : St} (h : ExtR p τ σ1) (hn : σ.nb ≤ τ.nb) (hh : ∀ l, l < σ.nb → l ≠ p → Tr.get τ.h l = Tr.get σ.h l) (ht : ∀ k, k < σ.nb + 2 → Tr.get τ.tk k = Tr.get σ.tk k) : ExtR p σ σ1 :=
  ⟨Nat.le_trans hn h.nb, h.fresh, fun l hl hne => by rw [h.h l (by omega) hne, hh l hl hne], fun k hk => by rw [h.tk k (by omega), ht k hk]⟩
theorem u40 : TS.und 40 = some (.slice 38) := by simp only [undF]
theorem i38 : TS.inf 38 = some ⟨1, 4, [.i .u32 0]⟩ := by simp only [infF]
theorem a38 : TS.isAgg 38 = some false := by simp only [aggF]
theorem u32s_snoc (a : List Int) (x : Int) : u32s a ++ [.i .u32 x] = u32s (a ++ [x]) := by simp [u32s]
theorem head_u32s (l : List Int) : headSize 1 (u32s l) = true := by cases l <;> rfl

noncomputable def K57 : Code := cl (cr (cl (cr (cr (cr (cr (cr (fb Tryd.f57))))))))
theorem loop57 (ls : List Int) (p : Nat) (bs rest : List Int) (m : Nat) (σ0 : St) (Q : Ex → Fr → St → Prop) (h1 : 1 ≤ ls.length) (h2 : ls.length ≤ 257) (hls : ∀ x ∈ ls, 0 ≤ x ∧ x < 16384) (hp : p < σ0.nb) (hb : bs.length < 1152921504606846976) :
    ∀ (rs : List Int) i a κ fr σ, ls.drop i = rs → i ≤ ls.length → ExtR p σ0 σ → RS σ p bs a m → bs.drop a = rs.flatMap (fun x => encU x.toNat) ++ rest → TokG σ (u32s (ls.take i)) κ 1 → κ < σ.nb + 2 → (κ = 1 ∨ σ0.nb + 2 ≤ κ) →
      fr.rd 0 = .p p 0 → fr.rd 4 = .i .u32 ((ls.length - 1 : Nat) : Int) → fr.rd 5 = .sl (u32s (ls.take i)) κ → fr.rd 6 = .i .u32 (i : Int) →
      (∀ κ' fr' σ', ExtR p σ0 σ' → RS σ' p bs (a + (rs.flatMap (fun x => encU x.toNat)).length) m → fr'.rd 5 = .sl (u32s ls) κ' → Q (.exit 0) fr' σ') → CodeW TS K57 fr σ Q := by
  intro rs
  induction rs with
  | nil =>
    intro i a κ fr σ hd hil he hr hx hk hkn hκ r0 r4 r5 r6 hQ
    have h1' := drop_nil hd
    have hi : i = ls.length := by omega
    have hlt : decide ((i : Int) ≤ ((ls.length - 1 : Nat) : Int)) = false := decide_eq_false (by omega)
    simp only [K57, fb, Tryd.f57, cl, cr, Option.getD]
    rw [cw_loop]
    simp only [↓cw_exit, ↓cw_seq, ↓cw_cond, ↓cw_region, ↓then_normal, ↓then_exit, ↓draw_false, ↓ow_nil, ↓ow_cons, ↓ow_consG, ↓contO_eq, ↓op_move, ↓op_binOp, ↓op_pick, ↓force_DC, ↓force_DOs, vW_some, bW_false, ifW_some, setD_some, on2_some, biV_eq, pkV, opd, ofConst, leaf, rd_set, binV, intV, isConst, Nat.reduceEqDiff, Nat.reduceAdd, reduceIte, Bool.or_false, List.length_cons, List.length_nil, List.getElem?_cons_zero, List.getElem?_cons_succ, Nat.zero_add, St.bump, wantG, Option.bind, beqT, List.size_toArray, r4, r6, hlt]
    refine hQ κ _ _ (he.bump _) ?_ ?_
    · simpa [RS] using hr
    · simp only [rd_set, Nat.reduceEqDiff, reduceIte, r5]
      rw [hi, List.take_length]
  | cons x rs ih =>
    intro i a κ fr σ hd hil he hr hx hk hkn hκ r0 r4 r5 r6 hQ
    obtain ⟨h1', h2', h3⟩ := drop_cons hd
    have hf := he.fresh
    have hxx := hls x (List.mem_of_getElem? h1')
    have hlt : decide ((i : Int) ≤ ((ls.length - 1 : Nat) : Int)) = true := decide_eq_true (by omega)
    have hr' := hr
    unfold RS at hr'
    simp only [K57, fb, Tryd.f57, cl, cr, Option.getD]
    rw [cw_loop]
    simp only [↓cw_skip, ↓cw_seq, ↓cw_block, ↓cw_cond, ↓cw_region, ↓then_normal, ↓draw_false, ↓ow_nil, ↓ow_cons, ↓ow_consG, ↓contO_eq, ↓op_move, ↓op_load, ↓op_nilCheck, ↓op_binOp, ↓op_fieldAddr, ↓op_pick, ↓op_call, ↓force_DC, ↓force_DO, vW_some, bW_true, ifW_some, setD_some, on1_some, on2_some, ldV_eq, nilV, biV_eq, faV_eq, pkV, callV_some, arg_val, opd, opds, ofConst, leaf, rd_set, binV, intV, eqV, isConst, loadV, fieldAddrV, take?, undF, aggF, infF, ifaceF, Nat.reduceEqDiff, Nat.reduceAdd, Nat.reduceLeDiff, reduceIte, reduceCtorEq, Bool.or_false, Bool.or_true, Bool.and_true, List.length_cons, List.length_nil, List.getElem?_cons_zero, List.getElem?_cons_succ, List.append_nil, List.drop_succ_cons, List.drop_zero, List.take_succ_cons, List.take_zero, beq_self_eq_true, Nat.zero_add, St.bump, wantG, Option.bind, List.size_toArray, r0, r4, r5, r6, hlt, hr']
    refine FnW_call rfl (by kernel_rfl) (by kernel_rfl) (by kernel_rfl) (w_whole _ p bs (rs.flatMap (fun x => encU x.toNat) ++ rest) a m x.toNat _ ?_ ?_ ?_ (by omega) ?_ hb fun σ1 he1 hr1 => ?_)
    · simp only [St.bump]; first | exact Fresh.of (by repeat (first | exact (Fresh.freeH hf (by omega)) | refine FreeH.set ?_ (by omega))) (by repeat (first | exact (Fresh.freeT hf (by omega)) | refine FreeT.set ?_ (by omega) | refine FreeT.via (by assumption) ?_ (by omega)))
    · have := he.nb; simp only [St.bump]; omega
    · exact hr
    · rw [hx]; simp
    have he1' : ExtR p σ σ1 := he1.from (by simp only [St.bump]; omega) (fun _ _ _ => rfl) (fun _ _ => rfl)
    have hf1 := he1.fresh
    have hnb1 : σ.nb + 16 ≤ σ1.nb := by have := he1.nb; simp only [St.bump] at this; omega
    have hxn : ((x.toNat : Nat) : Int) = x := by omega
    have htk1 : Tr.get σ1.tk κ = Tr.get σ.tk κ := he1'.tk κ hkn
    simp only [↓ow_cons, ↓contO_eq, ↓op_buildSlice, ↓op_call, pW_some, setD_some, bldS, arg_blt, opd, opds, rd_set, bltV, fillV, parts, put, flat, AV.cells, AV.strip, undF, aggF, infF, Nat.reduceEqDiff, Nat.reduceAdd, Nat.reduceMul, Nat.reduceLeDiff, ne_eq, not_false_eq_true, reduceIte, reduceCtorEq, List.length_cons, List.length_nil, List.append_nil, List.take_succ_cons, List.take_zero, List.set_cons_zero, List.map_cons, List.map_nil, Nat.zero_add, and_self, newTok, Nat.add_assoc, or_true, List.headD_cons, tokFree, buildSliceV, repeatCells, chunk, hf1.tb, hxn]
    refine app_gen (es := u32s (ls.take i)) u40 i38 a38 ?_ (by decide) (by decide) rfl (head_u32s _) ?_ ?_ fun X hX hX2 => ?_
    · refine TokG.keep (σ := σ) hk ?_
      simp only [Tr.get_set]
      rw [if_neg (by omega), htk1]
    · simp only [u32s_len, List.length_take]; omega
    · exact tokFree_of (by repeat (first | exact (Fresh.freeT hf1 (by omega)) | refine FreeT.set ?_ (by omega) | refine FreeT.via (by assumption) ?_ (by omega)))
    have hfi : fw .u32 ((i : Int) + 1) = ((i + 1 : Nat) : Int) := by unfold fw; simp only; rw [if_pos (by omega)]; rfl
    have hts : ls.take i ++ [x] = ls.take (i + 1) := by rw [List.take_add_one, h1']; rfl
    simp only [↓cw_region, ↓then_normal, ↓block_normal, ↓draw_false, ↓ow_nil, ↓ow_cons, ↓contO_eq, ↓op_move, ↓op_assign, ↓op_binOp, vW_some, setD_some, on2_some, biV_eq, opd, ofConst, leaf, rd_set, binV, intV, isConst, AV.strip, Nat.reduceEqDiff, Nat.reduceAdd, reduceIte, Bool.or_true, List.length_cons, List.length_nil, Nat.zero_add, St.bump, Nat.add_assoc, List.size_toArray, r6, hfi]
    simp only [List.flatMap_cons, List.length_append] at hQ
    refine ih (i + 1) (a + (encU x.toNat).length) (σ1.nb + 6) _ _ h2' (Nat.succ_le_of_lt h3) ?_ ?_ ?_ ?_ ?_ ?_ ?_ ?_ ?_ ?_ ?_
    · have hnb := he.nb
      refine ⟨by simp only; omega, ?_, fun l hl hne => ?_, fun k hk => ?_⟩
      · first | exact Fresh.of (by repeat (first | exact (Fresh.freeH hf1 (by omega)) | refine FreeH.set ?_ (by omega))) (by repeat (first | exact (Fresh.freeT hf1 (by omega)) | refine FreeT.set ?_ (by omega) | refine FreeT.via (by assumption) ?_ (by omega)))
      · show Tr.get σ1.h l = _
        rw [he1'.h l (by omega) hne, he.h l hl hne]
      · simp only [Tr.get_set]
        rw [if_neg (by omega), hX2 k (by omega), Tr.get_set, if_neg (by omega), he1'.tk k (by omega), he.tk k hk]
    · exact hr1
    · rw [← List.drop_drop, hx]; simp
    · exact .inr ⟨by omega, by simp [Tr.get_set]⟩
    · simp only; omega
    · have hnb := he.nb; exact .inr (by omega)
    · simp only [rd_set, reduceIte, reduceCtorEq, r0]
    · simp only [rd_set, Nat.reduceEqDiff, reduceIte, r4]
    · simp only [rd_set, Nat.reduceEqDiff, reduceIte, r5]
      rw [← hts, ← u32s_snoc]
    · simp only [rd_set, Nat.reduceEqDiff, reduceIte, r6]
    · rw [← Nat.add_assoc] at hQ
      exact hQ

theorem w_labels (σ : St) (p : Nat) (bs rest : List Int) (a m : Nat) (ls : List Int) (Q : AV → St → Prop) (hf : Fresh σ) (hp : p < σ.nb) (hr : RS σ p bs a m) (h1 : 1 ≤ ls.length) (h2 : ls.length ≤ 257) (hls : ∀ x ∈ ls, 0 ≤ x ∧ x < 16384)
    (hx : bs.drop a = encU (ls.length - 1) ++ ls.flatMap (fun x => encU x.toNat) ++ rest) (hb : bs.length < 1152921504606846976)
    (hQ : ∀ κ σ', ExtR p σ σ' → RS σ' p bs (a + (encU (ls.length - 1) ++ ls.flatMap (fun x => encU x.toNat)).length) m → Q (.sl (u32s ls) κ) σ') : CallW TS 57 [.p p 0] σ Q := by
  have hr' := hr
  unfold RS at hr'
  refine callW_of ft57 rfl (Nat.le_of_ble_eq_true rfl) ?_
  simp only [↓cw_seq, ↓cw_region, ↓then_normal, ↓draw_false, ↓ow_nil, ↓ow_cons, ↓contO_eq, ↓op_move, ↓op_assign, ↓op_load, ↓op_nilCheck, ↓op_fieldAddr, ↓op_call, vW_some, setD_some, on1_some, ldV_eq, nilV, faV_eq, callV_some, arg_val, opd, opds, ofConst, leaf, rd_set, rd_nil, Fr.ofList, loadV, fieldAddrV, take?, undF, aggF, infF, Nat.reduceEqDiff, Nat.reduceAdd, Nat.reduceLeDiff, reduceIte, reduceCtorEq, List.length_cons, List.length_nil, List.getElem?_cons_zero, List.getElem?_cons_succ, List.append_nil, List.drop_succ_cons, List.drop_zero, List.take_succ_cons, List.take_zero, Nat.zero_add, St.bump, Nat.add_assoc, List.size_toArray, hr']
  refine FnW_call rfl (by kernel_rfl) (by kernel_rfl) (by kernel_rfl) (w_whole _ p bs (ls.flatMap (fun x => encU x.toNat) ++ rest) a m (ls.length - 1) _ ?_ ?_ ?_ (by omega) ?_ hb fun σ1 he1 hr1 => ?_)
  · simp only [St.bump]; first | exact Fresh.of (by repeat (first | exact (Fresh.freeH hf (by omega)) | refine FreeH.set ?_ (by omega))) (by repeat (first | exact (Fresh.freeT hf (by omega)) | refine FreeT.set ?_ (by omega) | refine FreeT.via (by assumption) ?_ (by omega)))
  · simp only [St.bump]; omega
  · exact hr
  · rw [hx]; simp
  have he1' : ExtR p σ σ1 := he1.from (by simp only [St.bump]; omega) (fun _ _ _ => rfl) (fun _ _ => rfl)
  have hf1 := he1.fresh
  have hd : decide (((ls.length - 1 : Nat) : Int) > 256) = false := decide_eq_false (by omega)
  simp only [↓cw_skip, ↓cw_seq, ↓cw_block, ↓cw_cond, ↓cw_region, ↓then_normal, ↓draw_false, ↓ow_nil, ↓ow_cons, ↓contO_eq, ↓op_move, ↓op_assign, ↓op_binOp, ↓force_DC, vW_some, bW_false, ifW_some, setD_some, on2_some, biV_eq, opd, ofConst, leaf, rd_set, rd_nil, binV, intV, isConst, Nat.reduceEqDiff, Nat.reduceAdd, reduceIte, reduceCtorEq, Bool.or_true, List.length_cons, List.length_nil, Nat.zero_add, St.bump, Nat.add_assoc, List.size_toArray, hd]
  refine loop57 ls p bs rest m σ _ h1 h2 hls hp hb ls 0 (a + (encU (ls.length - 1)).length) 1 _ _ rfl (by omega) (he1'.bump _) hr1 ?_ (.inl ⟨rfl, rfl⟩) (by omega) (.inl rfl) ?_ ?_ ?_ ?_ fun κ' fr' σ' he' hr2 r5 => ?_
  · rw [← List.drop_drop, hx]; simp
  · simp only [rd_set, rd_nil, reduceIte, reduceCtorEq]
  · simp only [rd_set, rd_nil, Nat.reduceEqDiff, reduceIte, reduceCtorEq]
  · simp only [rd_set, rd_nil, Nat.reduceEqDiff, reduceIte, reduceCtorEq, List.take_zero]
    rfl
  · simp only [rd_set, rd_nil, Nat.reduceEqDiff, reduceIte, reduceCtorEq]
    rfl
  simp only [↓cw_ret, ↓cw_seq, ↓cw_region, ↓then_normal, ↓draw_false, ↓ow_nil, ↓ow_cons, ↓contO_eq, ↓op_move, ↓op_assign, ↓ret_ret, ↓force_DQ, block_exit, vW_some, bW_true, setD_some, resW, nbeq, opd, rd_set, resV, Nat.reduceEqDiff, Nat.reduceAdd, reduceIte, List.length_cons, List.length_nil, beq_self_eq_true, Nat.zero_add, St.bump, List.size_toArray, r5, Tryd.f57]
  refine hQ _ _ (he'.bump _) ?_
  simpa [RS, Nat.add_assoc] using hr2
end Go.Pv
