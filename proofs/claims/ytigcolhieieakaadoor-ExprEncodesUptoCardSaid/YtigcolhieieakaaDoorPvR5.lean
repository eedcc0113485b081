/- The reader, where all is well: list, Decode. (PvZ6) -/
import Derived.Test.YtigcolhieieakaaDoorPvR4
namespace Go.Pv
open Go Go.Proofs Go.RowKit
set_option linter.unusedVariables false
set_option linter.unusedSimpArgs false
set_option maxRecDepth 100000

theorem form_float : (List.range 256).all (fun op => match formN op with | some _ => (match floatL[op]? with | some false => true | _ => false) && !Nat.beq op 5 && !Nat.beq op 11 | none => true) = true := by decide +kernel
theorem form_has {op f : Nat} (hop : op < 256) (h : formN op = some f) : pByte gFloat [.i .u8 (op : Int)] = some (.b false) ∧ op ≠ 5 ∧ op ≠ 11 := by
  have := List.all_eq_true.1 form_float op (List.mem_range.2 hop)
  rw [h] at this
  simp only [Bool.and_eq_true, Bool.not_eq_true'] at this
  refine ⟨?_, fun e => by subst e; simp at this, fun e => by subst e; simp at this⟩
  show (match Nat.ble op 255 with | true => gFloat op | false => none) = _
  rw [show Nat.ble op 255 = true from by rw [Nat.ble_eq]; omega]
  simp only
  unfold gFloat
  have h2 := this.1.1
  split at h2
  · rename_i hh; rw [hh]
  · cases h2

def L.rt : L → Prop
  | .nil => True
  | .cons op n al off res b e ls r => op < 256 ∧ (∃ f, formN op = some f ∧ rtI f n al off res b e ls) ∧ b.rt ∧ r.rt

theorem u24 : TS.und 24 = some (.slice 42) := by simp only [undF]
theorem i42 : TS.inf 42 = some (⟨8, 104, [.i .u8 0, .i .i64 0, .i .u32 0, .i .u32 0, .i .u8 0, .sl [] 1, .sl [] 1, .sl [] 1]⟩) := by simp only [infF]
theorem a42 : TS.isAgg 42 = some true := by simp only [aggF]

theorem head_iav {l r : L} {es : List AV} (h : es ++ r.av = l.av) : headSize 8 es = true := by
  cases es with
  | nil => rfl
  | cons x xs =>
    cases l with
    | nil => cases h
    | cons op n al off res b e ls l =>
      simp only [L.av, List.cons_append] at h
      injection h with h1 h2
      subst h1
      rfl

noncomputable def K23 : Code := cl (cl (cr (cr (fb Tryd.f23))))
theorem loop23 (l : L) (N : Nat) (H : ∀ l' : L, l'.sz < N → l'.rt → ListOk l') (p : Nat) (bs rest : List Int) (depth : Nat) (σ0 : St) (Q : Ex → Fr → St → Prop) (hp : p < σ0.nb) (hb : bs.length < 1152921504606846976) (hl : l.len ≤ 16384) :
    ∀ (r : L) es a m κ fr σ, es ++ r.av = l.av → r.rt → r.sz ≤ N → ExtR p σ0 σ → RS σ p bs a m → bs.drop a = r.enc ++ 11 :: rest → m + r.cnt ≤ 16384 → depth + r.nest ≤ 64 → TokG σ es κ 8 → κ < σ.nb + 2 → (κ = 1 ∨ σ0.nb + 2 ≤ κ) →
      fr.rd 0 = .p p 0 → fr.rd 1 = .i .i64 (depth : Nat) → fr.rd 2 = .b false → fr.rd 8 = .sl es κ →
      (∀ κ' fr' σ', ExtR p σ0 σ' → RS σ' p bs (a + r.enc.length + 1) (m + r.cnt) → fr'.rd 6 = .sl l.av κ' → fr'.rd 7 = .i .u8 11 → Q .ret fr' σ') → CodeW TS K23 fr σ Q := by
  intro r
  induction r with
  | nil =>
    intro es a m κ fr σ hes hrt hsz he hr hx hm hdn hk hkn hκ r0 r1 r2 r8 hQ
    have hf := he.fresh
    have hr' := hr
    unfold RS at hr'
    simp only [L.av, List.append_nil] at hes
    simp only [L.enc, List.nil_append] at hx
    have hal : a < bs.length := by have := congrArg List.length hx; simp at this; omega
    simp only [K23, fb, Tryd.f23, cl, cr, Option.getD]
    rw [cw_loop]
    simp only [↓cw_skip, ↓cw_seq, ↓cw_block, ↓cw_cond, ↓cw_region, ↓then_normal, ↓draw_false, ↓ow_nil, ↓ow_cons, ↓contO_eq, ↓op_move, ↓op_assign, ↓op_load, ↓op_nilCheck, ↓op_binOp, ↓op_fieldAddr, ↓op_call, ↓force_DC, vW_some, bW_true, ifW_some, setD_some, on1_some, on2_some, ldV_eq, nilV, biV_eq, faV_eq, callV_some, arg_val, opd, opds, ofConst, leaf, rd_set, binV, eqV, isConst, loadV, fieldAddrV, take?, undF, aggF, infF, ifaceF, Nat.reduceEqDiff, Nat.reduceAdd, Nat.reduceLeDiff, reduceIte, reduceCtorEq, Bool.or_true, Bool.and_true, List.length_cons, List.length_nil, List.getElem?_cons_zero, List.getElem?_cons_succ, List.append_nil, List.drop_succ_cons, List.drop_zero, List.take_succ_cons, List.take_zero, Nat.zero_add, St.bump, Nat.add_assoc, List.size_toArray, r0, hr']
    refine FnW_call rfl (by kernel_rfl) (by kernel_rfl) (by kernel_rfl) (w_byte _ p bs a m 11 _ ?_ ?_ ?_ ?_ (by omega) fun σ1 he1 hr1 => ?_)
    · simp only [St.bump]; first | exact Fresh.of (by repeat (first | exact (Fresh.freeH hf (by omega)) | refine FreeH.set ?_ (by omega))) (by repeat (first | exact (Fresh.freeT hf (by omega)) | refine FreeT.set ?_ (by omega) | refine FreeT.via (by assumption) ?_ (by omega)))
    · have := he.nb; simp only [St.bump]; omega
    · exact hr
    · have := congrArg (fun l => l[0]?) hx
      simpa using this
    have he1' : ExtR p σ σ1 := he1.from (by simp only [St.bump]; omega) (fun _ _ _ => rfl) (fun _ _ => rfl)
    simp only [↓cw_skip, ↓cw_ret, ↓cw_seq, ↓cw_cond, ↓cw_region, ↓then_normal, ↓then_ret, ↓block_ret, ↓draw_false, ↓ow_nil, ↓ow_cons, ↓ow_consG, ↓contO_eq, ↓op_move, ↓op_assign, ↓op_binOp, ↓op_unOp, ↓op_extract, ↓op_pick, ↓force_DC, ↓force_DOs, vW_some, bW_true, bW_false, ifW_some, setD_some, on1_some, on2_some, biV_eq, exV, pkV, opd, ofConst, leaf, rd_set, binV, intV, unV, isConst, Nat.reduceEqDiff, Nat.reduceAdd, reduceIte, Bool.or_true, List.length_cons, List.length_nil, List.getElem?_cons_zero, List.getElem?_cons_succ, beq_self_eq_true, Nat.zero_add, Bool.not_true, St.bump, wantG, Option.bind, Nat.add_assoc, beqF, List.size_toArray, r8]
    refine hQ κ _ _ ((he.trans he1').bump _) ?_ ?_ ?_
    · simpa [RS, L.enc, L.cnt] using hr1
    · simp only [rd_set, Nat.reduceEqDiff, reduceIte, hes]
    · simp only [rd_set, Nat.reduceEqDiff, reduceIte]
  | cons op n al off res b e ls r ihb ihe ih =>
    intro es a m κ fr σ hes hrt hsz he hr hx hm hdn hk hkn hκ r0 r1 r2 r8 hQ
    have hf := he.fresh
    have hr' := hr
    unfold RS at hr'
    obtain ⟨hop, ⟨f, hfn, hI⟩, hbrt, hrrt⟩ := hrt
    have hee : e.cnt = 0 := by rw [hI.2.2.2.1]; rfl
    obtain ⟨hfl, hn5, hn11⟩ := form_has hop hfn
    have h11 : ((op : Int) == 11) = false := by simp; omega
    have h5 : ((op : Int) == 5) = false := by simp; omega
    simp only [L.enc, encI, hfn] at hx hQ
    simp only [L.cnt, hee] at hm hQ
    simp only [L.nest] at hdn
    simp only [L.sz] at hsz
    simp only [L.av] at hes
    have hal : a < bs.length := by have := congrArg List.length hx; simp at this; omega
    simp only [K23, fb, Tryd.f23, cl, cr, Option.getD]
    rw [cw_loop]
    simp only [↓cw_skip, ↓cw_seq, ↓cw_block, ↓cw_cond, ↓cw_region, ↓then_normal, ↓draw_false, ↓ow_nil, ↓ow_cons, ↓contO_eq, ↓op_move, ↓op_assign, ↓op_load, ↓op_nilCheck, ↓op_binOp, ↓op_fieldAddr, ↓op_call, ↓force_DC, vW_some, bW_true, ifW_some, setD_some, on1_some, on2_some, ldV_eq, nilV, biV_eq, faV_eq, callV_some, arg_val, opd, opds, ofConst, leaf, rd_set, binV, eqV, isConst, loadV, fieldAddrV, take?, undF, aggF, infF, ifaceF, Nat.reduceEqDiff, Nat.reduceAdd, Nat.reduceLeDiff, reduceIte, reduceCtorEq, Bool.or_true, Bool.and_true, List.length_cons, List.length_nil, List.getElem?_cons_zero, List.getElem?_cons_succ, List.append_nil, List.drop_succ_cons, List.drop_zero, List.take_succ_cons, List.take_zero, Nat.zero_add, St.bump, Nat.add_assoc, List.size_toArray, r0, hr']
    refine FnW_call rfl (by kernel_rfl) (by kernel_rfl) (by kernel_rfl) (w_byte _ p bs a m op _ ?_ ?_ ?_ ?_ (by omega) fun σ1 he1 hr1 => ?_)
    · simp only [St.bump]; first | exact Fresh.of (by repeat (first | exact (Fresh.freeH hf (by omega)) | refine FreeH.set ?_ (by omega))) (by repeat (first | exact (Fresh.freeT hf (by omega)) | refine FreeT.set ?_ (by omega) | refine FreeT.via (by assumption) ?_ (by omega)))
    · have := he.nb; simp only [St.bump]; omega
    · exact hr
    · have := congrArg (fun l => l[0]?) hx
      simpa using this
    have he1' : ExtR p σ σ1 := he1.from (by simp only [St.bump]; omega) (fun _ _ _ => rfl) (fun _ _ => rfl)
    have hf1 := he1.fresh
    have hr1' := hr1
    unfold RS at hr1'
    simp only [↓cw_skip, ↓cw_seq, ↓cw_cond, ↓cw_region, ↓then_normal, ↓draw_false, ↓ow_nil, ↓ow_cons, ↓ow_consG, ↓contO_eq, ↓op_move, ↓op_assign, ↓op_binOp, ↓op_unOp, ↓op_extract, ↓op_pick, ↓op_call, ↓force_DC, ↓force_DO, ↓force_DOs, vW_some, bW_true, bW_false, ifW_some, setD_some, on1_some, on2_some, biV_eq, exV, pkV, callV_some, arg_val, opd, opds, ofConst, leaf, rd_set, binV, intV, unV, isConst, Nat.reduceEqDiff, Nat.reduceAdd, reduceIte, Bool.or_true, List.length_cons, List.length_nil, List.getElem?_cons_zero, List.getElem?_cons_succ, List.append_nil, beq_self_eq_true, Nat.zero_add, Bool.not_true, St.bump, wantG, Option.bind, Nat.add_assoc, beqT, List.size_toArray, h11, h5]
    refine FnW_prim rfl (by kernel_rfl) (p := pByte gForm) (by kernel_rfl) (form_prim op hop) ?_
    simp only [formV, hfn]
    simp only [↓cw_seq, ↓cw_block, ↓cw_region, ↓then_normal, ↓draw_false, ↓ow_nil, ↓ow_cons, ↓contO_eq, ↓op_move, ↓op_assign, ↓op_load, ↓op_store, ↓op_nilCheck, ↓op_binOp, ↓op_fieldAddr, ↓op_extract, ↓op_call, vW_some, pW_some, setD_some, setD_none, on1_some, on2_some, ldV_eq, stV, nilV, biV_eq, faV_eq, exV, callV_some, arg_val, opd, opds, ofConst, leaf, rd_set, binV, intV, isConst, loadV, fieldAddrV, take?, put, flat, AV.cells, undF, aggF, infF, Nat.reduceEqDiff, Nat.reduceAdd, Nat.reduceLeDiff, reduceIte, reduceCtorEq, Bool.or_true, List.length_cons, List.length_nil, List.getElem?_cons_zero, List.getElem?_cons_succ, List.append_nil, List.drop_succ_cons, List.drop_zero, List.take_succ_cons, List.take_zero, List.set_cons_zero, List.set_cons_succ, Nat.zero_add, and_self, St.bump, storeV, Nat.add_assoc, List.size_toArray, r0, hr1', fw_add1 (n := m) (by omega)]
    refine FnW_prim rfl (by kernel_rfl) (p := pByte gFloat) (by kernel_rfl) hfl ?_
    have hmm : decide (((m + 1 : Nat) : Int) > 16384) = false := decide_eq_false (by omega)
    simp only [↓cw_seq, ↓cw_cond, ↓cw_region, ↓then_normal, ↓draw_false, ↓ow_nil, ↓ow_cons, ↓ow_consG, ↓contO_eq, ↓op_move, ↓op_assign, ↓op_load, ↓op_nilCheck, ↓op_binOp, ↓op_fieldAddr, ↓force_DC, ↓force_DO, vW_some, bW_true, bW_false, ifW_some, setD_some, on1_some, on2_some, ldV_eq, nilV, biV_eq, faV_eq, opd, ofConst, leaf, rd_set, binV, intV, eqV, isConst, loadV, fieldAddrV, take?, undF, aggF, infF, ifaceF, Nat.reduceEqDiff, Nat.reduceAdd, Nat.reduceLeDiff, reduceIte, reduceCtorEq, Bool.or_true, Bool.and_true, List.length_cons, List.length_nil, List.getElem?_cons_zero, List.getElem?_cons_succ, List.drop_succ_cons, List.drop_zero, List.take_succ_cons, List.take_zero, beq_self_eq_true, Nat.zero_add, Bool.not_true, St.bump, Tr.get_set, wantG, Option.bind, Nat.add_assoc, beqT, List.size_toArray, r0, r1, hr1', hmm]
    have hps : p < σ1.nb := by have := he.nb; have := he1'.nb; omega
    have hcase : decide ((depth : Int) ≥ 64) = false ∨ (decide ((depth : Int) ≥ 64) = true ∧ ((f : Int) == 6) = false ∧ ((f : Int) == 7) = false) := by
      by_cases h64 : depth < 64
      · exact .inl (decide_eq_false (by omega))
      · refine .inr ⟨decide_eq_true (by omega), ?_, ?_⟩
        · rcases hI.2.2.2.2 with h | h | h
          · simp [h.1]
          · have hk : isBlk op = true := by simp [isBlk, hfn, h.1]
            rw [hk, if_pos rfl] at hdn
            omega
          · simp [h.1]
        · rcases hI.2.2.2.2 with h | h | h <;> simp [h.1]
    rcases hcase with h64 | ⟨h64, h6, h7⟩
    · simp only [↓cw_cond, ↓cw_region, ↓then_normal, ↓draw_false, ↓ow_nil, ↓ow_cons, ↓ow_consG, ↓contO_eq, ↓op_move, ↓op_assign, ↓op_pick, ↓op_call, ↓force_DC, ↓force_DO, ↓force_DOs, vW_some, bW_true, bW_false, ifW_some, setD_some, pkV, callV_some, arg_val, opd, opds, ofConst, leaf, rd_set, Nat.reduceEqDiff, Nat.reduceAdd, reduceIte, reduceCtorEq, List.length_cons, List.length_nil, List.getElem?_cons_zero, List.getElem?_cons_succ, List.append_nil, beq_self_eq_true, Nat.zero_add, St.bump, wantG, Option.bind, Nat.add_assoc, beqT, List.size_toArray, r0, r1, r8, h64]
      refine FnW_call rfl (by kernel_rfl) (by kernel_rfl) (by kernel_rfl) (w_instr f op n al off res b e ls hI (H b (by omega) hbrt) _ p bs (r.enc ++ 11 :: rest) (a + 1) (m + 1) depth _ ?_ ?_ ?_ ?_ (by omega) ?_ hb fun κ1 κ2 κ3 σ2 he2 hr2 => ?_)
      · simp only [St.bump]; first | exact Fresh.of (by repeat (first | exact (Fresh.freeH hf1 (by omega)) | refine FreeH.set ?_ (by omega))) (by repeat (first | exact (Fresh.freeT hf1 (by omega)) | refine FreeT.set ?_ (by omega) | refine FreeT.via (by assumption) ?_ (by omega)))
      · have := he.nb; have := he1'.nb; simp only [St.bump]; omega
      · show Tr.get _ p = _
        simp only [St.bump, Tr.get_set, if_true]
      · rw [← List.drop_drop, hx]; simp
      · intro h6; subst h6
        have hk : isBlk op = true := by simp [isBlk, hfn]
        rw [hk, if_pos rfl] at hdn
        omega
      have hnb1 := he1'.nb
      have hnb2 : σ1.nb + 20 ≤ σ2.nb := by have := he2.nb; simp only [St.bump] at this; omega
      have hf2 := he2.fresh
      have htk2 : ∀ k, k < σ.nb + 2 → Tr.get σ2.tk k = Tr.get σ.tk k := fun k hk => by
        rw [he2.tk k (by simp only [St.bump]; omega)]
        exact he1'.tk k hk
      have hlen := congrArg List.length hes
      simp only [List.length_append, List.length_cons, L.len_av] at hlen
      simp only [↓ow_cons, ↓contO_eq, ↓op_buildSlice, ↓op_call, pW_some, setD_some, bldS, arg_blt, opd, opds, rd_set, bltV, fillV, parts, put, flat, AV.cells, AV.strip, AV.strip0, undF, aggF, infF, Nat.reduceEqDiff, Nat.reduceAdd, Nat.reduceMul, Nat.reduceLeDiff, ne_eq, not_false_eq_true, reduceIte, reduceCtorEq, List.length_cons, List.length_nil, List.append_nil, List.take_succ_cons, List.take_zero, List.set_cons_zero, List.set_cons_succ, List.map_cons, List.map_nil, Nat.zero_add, and_self, newTok, Nat.add_assoc, or_false, List.headD_cons, tokFree, buildSliceV, repeatCells, chunk, hf2.tb]
      refine app_gen (es := es) u24 i42 a42 ?_ (by decide) (by decide) rfl ?_ ?_ ?_ fun X hX hX2 => ?_
      · refine TokG.keep (σ := σ) hk ?_
        simp only [Tr.get_set]
        rw [if_neg (by omega), htk2 κ hkn]
      · exact head_iav (r := .cons op n al off res b e ls r) (l := l) hes
      · simp only; omega
      · exact tokFree_of (by repeat (first | exact (Fresh.freeT hf2 (by omega)) | refine FreeT.set ?_ (by omega) | refine FreeT.via (by assumption) ?_ (by omega)))
      simp only [↓then_normal, ↓block_normal, ↓draw_false, ↓ow_nil, ↓ow_cons, ↓contO_eq, ↓op_assign, vW_some, setD_some, opd, rd_set, AV.strip, AV.strip0, Nat.reduceEqDiff, Nat.reduceAdd, reduceIte, List.map_cons, List.map_nil, St.bump, Nat.add_assoc]
      refine ih (es ++ [iav op n al off res b.av e.av (u32s ls)]) (a + 1 + (encF f n al off res ls b.enc e.enc e.len).length) (m + 1 + b.cnt) (σ2.nb + 9) _ _ ?_ hrrt (by omega) ?_ ?_ ?_ (by omega) (by omega) ?_ ?_ ?_ ?_ ?_ ?_ ?_ ?_
      · rw [List.append_assoc]; exact hes
      · have hnb := he.nb
        refine ⟨by simp only; omega, ?_, fun l' hl' hne => ?_, fun k hk' => ?_⟩
        · first | exact Fresh.of (by repeat (first | exact (Fresh.freeH hf2 (by omega)) | refine FreeH.set ?_ (by omega))) (by repeat (first | exact (Fresh.freeT hf2 (by omega)) | refine FreeT.set ?_ (by omega) | refine FreeT.via (by assumption) ?_ (by omega)))
        · show Tr.get σ2.h l' = _
          rw [he2.h l' (by simp only [St.bump]; omega) hne]
          simp only [St.bump, Tr.get_set]
          rw [if_neg hne]
          rw [he1'.h l' (by omega) hne, he.h l' hl' hne]
        · simp only [Tr.get_set]
          rw [if_neg (by omega), hX2 k (by omega), Tr.get_set, if_neg (by omega), htk2 k (by omega), he.tk k hk']
      · exact hr2
      · rw [Nat.add_assoc, ← List.drop_drop, hx]
        rw [show 1 + (encF f n al off res ls b.enc e.enc e.len).length = ((op : Int) :: encF f n al off res ls b.enc e.enc e.len).length from by simp [Nat.add_comm]]
        rw [List.append_assoc, List.drop_left]
      · exact .inr ⟨by omega, by simp [Tr.get_set]⟩
      · simp only; omega
      · have hnb := he.nb; exact .inr (by omega)
      · simp only [rd_set, reduceIte, reduceCtorEq, r0]
      · simp only [rd_set, Nat.reduceEqDiff, reduceIte, r1]
      · simp only [rd_set, Nat.reduceEqDiff, reduceIte, r2]
      · simp only [rd_set, Nat.reduceEqDiff, reduceIte, r8, iav]
      · intro κ' fr' σ' h1 h2 h3 h4
        refine hQ κ' fr' σ' h1 ?_ h3 h4
        have e1 : a + 1 + (encF f n al off res ls b.enc e.enc e.len).length + r.enc.length + 1 = a + (((op : Int) :: encF f n al off res ls b.enc e.enc e.len) ++ r.enc).length + 1 := by simp only [List.length_append, List.length_cons]; omega
        have e2 : m + 1 + b.cnt + r.cnt = m + (1 + b.cnt + 0 + r.cnt) := by omega
        rw [e1, e2] at h2
        exact h2
    · simp only [↓cw_cond, ↓cw_region, ↓then_normal, ↓draw_false, ↓ow_nil, ↓ow_cons, ↓ow_consG, ↓contO_eq, ↓op_move, ↓op_assign, ↓op_binOp, ↓op_pick, ↓op_call, ↓force_DC, ↓force_DO, vW_some, bW_true, bW_false, ifW_some, setD_some, on2_some, biV_eq, pkV, callV_some, arg_val, opd, opds, ofConst, leaf, rd_set, binV, intV, isConst, Nat.reduceEqDiff, Nat.reduceAdd, reduceIte, reduceCtorEq, Bool.or_true, List.length_cons, List.length_nil, List.getElem?_cons_zero, List.getElem?_cons_succ, List.append_nil, beq_self_eq_true, Nat.zero_add, St.bump, wantG, Option.bind, Nat.add_assoc, List.size_toArray, r0, r1, r8, h64, h6, h7]
      refine FnW_call rfl (by kernel_rfl) (by kernel_rfl) (by kernel_rfl) (w_instr f op n al off res b e ls hI (H b (by omega) hbrt) _ p bs (r.enc ++ 11 :: rest) (a + 1) (m + 1) depth _ ?_ ?_ ?_ ?_ (by omega) ?_ hb fun κ1 κ2 κ3 σ2 he2 hr2 => ?_)
      · simp only [St.bump]; first | exact Fresh.of (by repeat (first | exact (Fresh.freeH hf1 (by omega)) | refine FreeH.set ?_ (by omega))) (by repeat (first | exact (Fresh.freeT hf1 (by omega)) | refine FreeT.set ?_ (by omega) | refine FreeT.via (by assumption) ?_ (by omega)))
      · have := he.nb; have := he1'.nb; simp only [St.bump]; omega
      · show Tr.get _ p = _
        simp only [St.bump, Tr.get_set, if_true]
      · rw [← List.drop_drop, hx]; simp
      · intro h6; subst h6
        have hk : isBlk op = true := by simp [isBlk, hfn]
        rw [hk, if_pos rfl] at hdn
        omega
      have hnb1 := he1'.nb
      have hnb2 : σ1.nb + 20 ≤ σ2.nb := by have := he2.nb; simp only [St.bump] at this; omega
      have hf2 := he2.fresh
      have htk2 : ∀ k, k < σ.nb + 2 → Tr.get σ2.tk k = Tr.get σ.tk k := fun k hk => by
        rw [he2.tk k (by simp only [St.bump]; omega)]
        exact he1'.tk k hk
      have hlen := congrArg List.length hes
      simp only [List.length_append, List.length_cons, L.len_av] at hlen
      simp only [↓ow_cons, ↓contO_eq, ↓op_buildSlice, ↓op_call, pW_some, setD_some, bldS, arg_blt, opd, opds, rd_set, bltV, fillV, parts, put, flat, AV.cells, AV.strip, AV.strip0, undF, aggF, infF, Nat.reduceEqDiff, Nat.reduceAdd, Nat.reduceMul, Nat.reduceLeDiff, ne_eq, not_false_eq_true, reduceIte, reduceCtorEq, List.length_cons, List.length_nil, List.append_nil, List.take_succ_cons, List.take_zero, List.set_cons_zero, List.set_cons_succ, List.map_cons, List.map_nil, Nat.zero_add, and_self, newTok, Nat.add_assoc, or_false, List.headD_cons, tokFree, buildSliceV, repeatCells, chunk, hf2.tb]
      refine app_gen (es := es) u24 i42 a42 ?_ (by decide) (by decide) rfl ?_ ?_ ?_ fun X hX hX2 => ?_
      · refine TokG.keep (σ := σ) hk ?_
        simp only [Tr.get_set]
        rw [if_neg (by omega), htk2 κ hkn]
      · exact head_iav (r := .cons op n al off res b e ls r) (l := l) hes
      · simp only; omega
      · exact tokFree_of (by repeat (first | exact (Fresh.freeT hf2 (by omega)) | refine FreeT.set ?_ (by omega) | refine FreeT.via (by assumption) ?_ (by omega)))
      simp only [↓then_normal, ↓block_normal, ↓draw_false, ↓ow_nil, ↓ow_cons, ↓contO_eq, ↓op_assign, vW_some, setD_some, opd, rd_set, AV.strip, AV.strip0, Nat.reduceEqDiff, Nat.reduceAdd, reduceIte, List.map_cons, List.map_nil, St.bump, Nat.add_assoc]
      refine ih (es ++ [iav op n al off res b.av e.av (u32s ls)]) (a + 1 + (encF f n al off res ls b.enc e.enc e.len).length) (m + 1 + b.cnt) (σ2.nb + 9) _ _ ?_ hrrt (by omega) ?_ ?_ ?_ (by omega) (by omega) ?_ ?_ ?_ ?_ ?_ ?_ ?_ ?_
      · rw [List.append_assoc]; exact hes
      · have hnb := he.nb
        refine ⟨by simp only; omega, ?_, fun l' hl' hne => ?_, fun k hk' => ?_⟩
        · first | exact Fresh.of (by repeat (first | exact (Fresh.freeH hf2 (by omega)) | refine FreeH.set ?_ (by omega))) (by repeat (first | exact (Fresh.freeT hf2 (by omega)) | refine FreeT.set ?_ (by omega) | refine FreeT.via (by assumption) ?_ (by omega)))
        · show Tr.get σ2.h l' = _
          rw [he2.h l' (by simp only [St.bump]; omega) hne]
          simp only [St.bump, Tr.get_set]
          rw [if_neg hne]
          rw [he1'.h l' (by omega) hne, he.h l' hl' hne]
        · simp only [Tr.get_set]
          rw [if_neg (by omega), hX2 k (by omega), Tr.get_set, if_neg (by omega), htk2 k (by omega), he.tk k hk']
      · exact hr2
      · rw [Nat.add_assoc, ← List.drop_drop, hx]
        rw [show 1 + (encF f n al off res ls b.enc e.enc e.len).length = ((op : Int) :: encF f n al off res ls b.enc e.enc e.len).length from by simp [Nat.add_comm]]
        rw [List.append_assoc, List.drop_left]
      · exact .inr ⟨by omega, by simp [Tr.get_set]⟩
      · simp only; omega
      · have hnb := he.nb; exact .inr (by omega)
      · simp only [rd_set, reduceIte, reduceCtorEq, r0]
      · simp only [rd_set, Nat.reduceEqDiff, reduceIte, r1]
      · simp only [rd_set, Nat.reduceEqDiff, reduceIte, r2]
      · simp only [rd_set, Nat.reduceEqDiff, reduceIte, r8, iav]
      · intro κ' fr' σ' h1 h2 h3 h4
        refine hQ κ' fr' σ' h1 ?_ h3 h4
        have e1 : a + 1 + (encF f n al off res ls b.enc e.enc e.len).length + r.enc.length + 1 = a + (((op : Int) :: encF f n al off res ls b.enc e.enc e.len) ++ r.enc).length + 1 := by simp only [List.length_append, List.length_cons]; omega
        have e2 : m + 1 + b.cnt + r.cnt = m + (1 + b.cnt + 0 + r.cnt) := by omega
        rw [e1, e2] at h2
        exact h2

theorem w_list : ∀ N (l : L), l.sz < N → l.rt → ListOk l := by
  intro N
  induction N with
  | zero => intro l h; omega
  | succ N ihN =>
    intro l hl hrt σ p bs rest a m depth Q hf hp hr hx hm hdn hb hQ
    refine callW_of ft23 rfl (Nat.le_of_ble_eq_true rfl) ?_
    simp only [↓cw_seq, ↓cw_block, ↓cw_region, ↓then_normal, ↓draw_false, ↓ow_nil, ↓ow_cons, ↓contO_eq, ↓op_assign, vW_some, setD_some, opd, ofConst, leaf, Fr.ofList, Nat.reduceAdd, List.length_cons, List.length_nil, Nat.zero_add, St.bump, Nat.add_assoc, List.size_toArray]
    refine loop23 l N (fun l' h' hw' => ihN l' h' hw') p bs rest depth σ _ hp hb (by have := L.len_cnt l; omega) l [] a m 1 _ _ rfl hrt (by omega) ⟨by simp only; omega, ?_, fun _ _ _ => rfl, fun _ _ => rfl⟩ hr hx hm hdn (.inl ⟨rfl, rfl⟩) (by simp only; omega) (.inl rfl) ?_ ?_ ?_ ?_ fun κ' fr' σ' he' hr' r6 r7 => ?_
    · first | exact Fresh.of (by repeat (first | exact (Fresh.freeH hf (by omega)) | refine FreeH.set ?_ (by omega))) (by repeat (first | exact (Fresh.freeT hf (by omega)) | refine FreeT.set ?_ (by omega) | refine FreeT.via (by assumption) ?_ (by omega)))
    · simp only [rd_set, rd_nil, reduceIte, reduceCtorEq]
    · simp only [rd_set, rd_nil, Nat.reduceEqDiff, reduceIte, reduceCtorEq]
    · simp only [rd_set, rd_nil, Nat.reduceEqDiff, reduceIte, reduceCtorEq]
    · simp only [rd_set, rd_nil, Nat.reduceEqDiff, reduceIte, reduceCtorEq]
    simp only [↓then_ret, ↓block_ret, ↓ret_ret, resW, resV, r6, r7, Tryd.f23]
    exact hQ κ' σ' he' hr'

theorem w_decode (l : L) (hrt : l.rt) (rest : List Int) (hc : l.cnt ≤ 16384) (hn : l.nest ≤ 64) (hb : l.enc.length + rest.length < 1152921504606846000) :
    PureW TS 10 [.sl (u8s (l.enc ++ 11 :: rest)) 0] (.t [.sl l.av 0, .i .i64 ((l.enc.length + 1 : Nat) : Int), .ne]) := by
  unfold PureW
  refine callW_of ft10 rfl (Nat.le_of_ble_eq_true rfl) ?_
  have hf : Fresh St.start := Fresh.start
  generalize St.start = σ at hf
  simp only [↓cw_seq, ↓cw_region, ↓then_normal, ↓draw_false, ↓ow_nil, ↓ow_cons, ↓contO_eq, ↓op_move, ↓op_assign, ↓op_box, ↓op_build, ↓op_call, vW_some, pW_some, setD_some, boxV, bldV, callV_some, arg_val, opd, opds, ofConst, leaf, rd_set, rd_nil, Fr.ofList, buildV, places, fillV, parts, put, flat, AV.cells, undF, infF, Nat.reduceEqDiff, Nat.reduceAdd, Nat.reduceLeDiff, reduceIte, reduceCtorEq, List.length_cons, List.length_nil, List.getElem?_cons_zero, List.append_nil, List.set_cons_zero, Nat.zero_add, and_self, newBox, St.bump, Nat.add_assoc, boxFree, List.size_toArray, hf.hb]
  refine FnW_call rfl (by kernel_rfl) (by kernel_rfl) (by kernel_rfl) (w_list (l.sz + 1) l (by omega) hrt _ (σ.nb + 5) (l.enc ++ 11 :: rest) rest 0 0 0 _ ?_ ?_ ?_ rfl (by omega) (by omega) ?_ fun κ σ1 he1 hr1 => ?_)
  · simp only [St.bump]; first | exact Fresh.of (by repeat (first | exact (Fresh.freeH hf (by omega)) | refine FreeH.set ?_ (by omega))) (by repeat (first | exact (Fresh.freeT hf (by omega)) | refine FreeT.set ?_ (by omega) | refine FreeT.via (by assumption) ?_ (by omega)))
  · simp only [St.bump]; omega
  · simp only [RS, St.bump, Tr.get_set, if_true]
    rfl
  · simp; omega
  have hr1' := hr1
  unfold RS at hr1'
  simp only [↓cw_skip, ↓cw_ret, ↓cw_seq, ↓cw_cond, ↓cw_region, ↓then_normal, ↓draw_false, ↓draw_true, ↓ow_nil, ↓ow_cons, ↓contO_eq, ↓op_move, ↓op_assign, ↓op_load, ↓op_nilCheck, ↓op_binOp, ↓op_fieldAddr, ↓op_extract, ↓ret_ret, ↓force_DC, ↓force_DQ, vW_some, bW_false, ifW_some, setD_some, on1_some, on2_some, ldV_eq, nilV, biV_eq, faV_eq, exV, resW, opd, ofConst, leaf, rd_set, rd_nil, binV, eqV, isConst, loadV, fieldAddrV, take?, hasStore, isStore, undF, aggF, infF, ifaceF, resV, Nat.reduceEqDiff, Nat.reduceAdd, Nat.reduceLeDiff, reduceIte, reduceCtorEq, Bool.or_false, Bool.or_true, Bool.and_true, List.any, List.length_cons, List.length_nil, List.getElem?_cons_zero, List.getElem?_cons_succ, List.drop_succ_cons, List.drop_zero, List.take_succ_cons, List.take_zero, Nat.zero_add, Bool.not_true, St.bump, Nat.add_assoc, List.size_toArray, hr1', Tryd.f10]
  exact ⟨by simp [untok, AV.strip], by simp [Go.Pv.good, Go.Pv.goods, L.goods]⟩
end Go.Pv
