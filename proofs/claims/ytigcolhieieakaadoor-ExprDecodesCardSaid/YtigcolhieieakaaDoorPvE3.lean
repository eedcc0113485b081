/- sameCode of the same. (PvZ6) -/
import Derived.Test.YtigcolhieieakaaDoorPvR5
namespace Go.Pv
open Go Go.Proofs Go.RowKit
set_option linter.unusedVariables false
set_option linter.unusedSimpArgs false
set_option maxRecDepth 100000

theorem okDyn_mono {ops : Array Oper} {ρ ρ' : Nat → AV} (hm : ∀ a b, farV (ρ' a) (ρ' b) = true → farV (ρ a) (ρ b) = true) {x i : Oper} (h : okDyn ops ρ' x i = true) : okDyn ops ρ x i = true := by
  unfold okDyn at h ⊢
  simp only [Bool.and_eq_true] at h ⊢
  refine ⟨h.1, ?_⟩
  have h2 := h.2
  cases ha : addrT x.op with
  | none => rw [ha] at h2; simp at h2
  | some a =>
    cases hb : addrT i.op with
    | none => rw [ha, hb] at h2; simp at h2
    | some b => rw [ha, hb] at h2; exact hm a b h2
theorem okPairsD_mono {T : Tab} {ops : Array Oper} {m : List Nat} {ρ ρ' : Nat → AV} (hm : ∀ a b, farV (ρ' a) (ρ' b) = true → farV (ρ a) (ρ b) = true) : ∀ (os : List Oper) (i : Nat), okPairsD T ops m ρ' i os = true → okPairsD T ops m ρ i os = true
  | [], _, h => rfl
  | o :: os, i, h => by
    simp only [okPairsD, Bool.and_eq_true, List.all_eq_true, Bool.or_eq_true] at h ⊢
    refine ⟨⟨h.1.1, fun x hx => ?_⟩, okPairsD_mono hm os (i + 1) h.2⟩
    rcases h.1.2 x hx with h' | h'
    · exact .inl h'
    · exact .inr ⟨⟨okDyn_mono hm h'.1.1, h'.1.2⟩, h'.2⟩
/-- Two variables that are not the same, and two places that nobody writes. -/
def look4 (x y u v : Nat) (t : Nat) : AV := if t = x then .p 0 0 else if t = y then .p 1 0 else if t = u ∨ t = v then .ip [] else .np
theorem okDrawD_four {T : Tab} {ops : Array Oper} {ρ : Nat → AV} (x y u v : Nat) {l1 o1 l2 o2 : Nat} {c1 c2 : List AV} (hx : ρ x = .p l1 o1) (hy : ρ y = .p l2 o2) (hu : ρ u = .ip c1) (hv : ρ v = .ip c2) (hne : l1 ≠ l2)
    (h : okDrawD T ops (look4 x y u v) = true) : okDrawD T ops ρ = true := by
  refine okPairsD_mono (fun a b hab => ?_) _ _ h
  have h1 : Nat.beq l1 l2 = false := by cases hb : Nat.beq l1 l2 with | false => rfl | true => exact absurd (Nat.eq_of_beq_eq_true hb) hne
  have h2 : Nat.beq l2 l1 = false := by cases hb : Nat.beq l2 l1 with | false => rfl | true => exact absurd (Nat.eq_of_beq_eq_true hb).symm hne
  have kind : ∀ t, (look4 x y u v t = .p 0 0 ∧ ρ t = .p l1 o1) ∨ (look4 x y u v t = .p 1 0 ∧ ρ t = .p l2 o2) ∨ (look4 x y u v t = .ip [] ∧ ∃ c, ρ t = .ip c) ∨ look4 x y u v t = .np := fun t => by
    unfold look4
    by_cases e1 : t = x
    · exact .inl ⟨if_pos e1, by rw [e1]; exact hx⟩
    · rw [if_neg e1]
      by_cases e2 : t = y
      · exact .inr (.inl ⟨if_pos e2, by rw [e2]; exact hy⟩)
      · rw [if_neg e2]
        by_cases e3 : t = u ∨ t = v
        · refine .inr (.inr (.inl ⟨if_pos e3, ?_⟩))
          rcases e3 with e | e
          · exact ⟨c1, by rw [e]; exact hu⟩
          · exact ⟨c2, by rw [e]; exact hv⟩
        · exact .inr (.inr (.inr (if_neg e3)))
  rcases kind a with ⟨ea, ra⟩ | ⟨ea, ra⟩ | ⟨ea, ca, ra⟩ | ea <;> rcases kind b with ⟨eb, rb⟩ | ⟨eb, rb⟩ | ⟨eb, cb, rb⟩ | eb <;> rw [ea, eb] at hab <;> first | (simp [farV] at hab; done) | (rw [ra, rb]; simp [farV, h1, h2])

noncomputable def K12 : Code := cl (cr (cl (cr (cr (fb Tryd.f12)))))
noncomputable def K12b : Code := cl (cr (cr (cr (cl (cl (cr (cl K12)))))))
theorem loop12b (ls : List Int) (op n al off res bb ee : AV) (p6 p7 : Nat) (a0 a1 a5 : AV) (Q : Ex → Fr → St → Prop) (hls : ls.length < 1000000000)
    (hQ : ∀ fr σ, Fresh σ → fr.rd 0 = a0 → fr.rd 1 = a1 → fr.rd 5 = a5 → Q (.exit 2) fr σ) :
    ∀ (rs : List Int) i fr σ, Fresh σ → ls.drop i = rs → Tr.get σ.h p6 = some [op, n, al, off, res, bb, ee, .sl (u32s ls) 0] → Tr.get σ.h p7 = some [op, n, al, off, res, bb, ee, .sl (u32s ls) 0] → fr.rd 0 = a0 → fr.rd 1 = a1 → fr.rd 5 = a5 → fr.rd 6 = .p p6 0 → fr.rd 7 = .p p7 0 → fr.rd 8 = .i .i64 i → CodeW TS K12b fr σ Q := by
  intro rs
  induction rs with
  | nil =>
    intro i fr σ hf hd h6 h7 r0 r1 r5 r6 r7 r8
    have h1 := drop_nil hd
    have hlt : decide ((i : Int) < ls.length) = false := decide_eq_false (by omega)
    simp only [K12b, K12, fb, Tryd.f12, cl, cr, Option.getD]
    rw [cw_loop]
    simp only [↓cw_exit, ↓cw_seq, ↓cw_cond, ↓cw_region, ↓then_normal, ↓then_exit, ↓draw_false, ↓ow_nil, ↓ow_cons, ↓contO_eq, ↓op_move, ↓op_load, ↓op_binOp, ↓op_fieldAddr, ↓op_call, ↓force_DC, vW_some, pW_some, bW_false, ifW_some, setD_some, on1_some, on2_some, ldV_eq, biV_eq, faV_eq, arg_blt, opd, opds, pureV, rd_set, binV, intV, isConst, bltV, lenV, loadV, fieldAddrV, take?, undF, aggF, infF, Nat.reduceEqDiff, Nat.reduceAdd, Nat.reduceLeDiff, reduceIte, reduceCtorEq, Bool.or_false, List.length_cons, List.length_nil, List.getElem?_cons_zero, List.getElem?_cons_succ, List.drop_succ_cons, List.drop_zero, List.take_succ_cons, List.take_zero, Nat.zero_add, St.bump, List.size_toArray, r6, r8, h6, u32s_len, hlt]
    refine hQ _ _ ?_ ?_ ?_ ?_
    · first | exact Fresh.of (by repeat (first | exact (Fresh.freeH hf (by omega)) | refine FreeH.set ?_ (by omega))) (by repeat (first | exact (Fresh.freeT hf (by omega)) | refine FreeT.set ?_ (by omega) | refine FreeT.via (by assumption) ?_ (by omega)))
    all_goals simp only [rd_set, Nat.reduceEqDiff, reduceIte, reduceCtorEq, r0, r1, r5]
  | cons x rs ih =>
    intro i fr σ hf hd h6 h7 r0 r1 r5 r6 r7 r8
    obtain ⟨h1, h2, h3⟩ := drop_cons hd
    have hlt : decide ((i : Int) < ls.length) = true := decide_eq_true (by omega)
    have h0i : (0 : Int) ≤ i := by omega
    have hg : (u32s ls)[i]? = some (.i .u32 x) := by simp [u32s, h1]
    simp only [K12b, K12, fb, Tryd.f12, cl, cr, Option.getD]
    rw [cw_loop]
    simp only [↓cw_skip, ↓cw_seq, ↓cw_block, ↓cw_cond, ↓cw_region, ↓then_normal, ↓block_normal, ↓draw_false, ↓draw_true, ↓ow_nil, ↓ow_cons, ↓contO_eq, ↓op_move, ↓op_assign, ↓op_load, ↓op_binOp, ↓op_fieldAddr, ↓op_indexAddr, ↓op_call, ↓force_DC, ↓force_DQ, vW_some, pW_some, bW_true, bW_false, ifW_some, setD_some, on1_some, on2_some, ldV_eq, biV_eq, faV_eq, arg_blt, opd, opds, ofConst, leaf, pureV, rd_set, binV, intV, isConst, bltV, lenV, idxAddrV, loadV, fieldAddrV, take?, AV.cells, hasStore, isStore, undF, aggF, infF, Nat.reduceEqDiff, Nat.reduceAdd, Nat.reduceLeDiff, reduceIte, reduceCtorEq, Bool.or_false, Bool.or_true, List.any, List.length_cons, List.length_nil, List.getElem?_cons_zero, List.getElem?_cons_succ, List.drop_succ_cons, List.drop_zero, List.take_succ_cons, List.take_zero, Nat.zero_add, St.bump, Nat.add_assoc, Int.toNat_natCast, List.size_toArray, r6, r7, r8, h6, h7, u32s_len, hlt, h0i, hg, bne_self_eq_false, fw_add1 (n := i) (by omega)]
    refine ih (i + 1) _ _ ?_ h2 h6 h7 ?_ ?_ ?_ ?_ ?_ ?_
    · first | exact Fresh.of (by repeat (first | exact (Fresh.freeH hf (by omega)) | refine FreeH.set ?_ (by omega))) (by repeat (first | exact (Fresh.freeT hf (by omega)) | refine FreeT.set ?_ (by omega) | refine FreeT.via (by assumption) ?_ (by omega)))
    all_goals simp only [rd_set, Nat.reduceEqDiff, reduceIte, reduceCtorEq, r0, r1, r5, r6, r7, r8]

theorem loop12 (l : L) (N : Nat) (H : ∀ l' : L, l'.sz < N → PureW TS 12 [.sl l'.av 0, .sl l'.av 0] (.b true)) (Q : Ex → Fr → St → Prop) (hN : N < 1000000000) (hb : l.sz ≤ N)
    (hQ : ∀ fr σ, Q (.exit 0) fr σ) :
    ∀ (r : L) i fr σ, Fresh σ → l.av.drop i = r.av → r.sz ≤ N → fr.rd 0 = .sl l.av 0 → fr.rd 1 = .sl l.av 0 → fr.rd 5 = .i .i64 i → CodeW TS K12 fr σ Q := by
  have hll : l.len ≤ l.sz := Nat.le_trans (L.len_cnt l) (L.cnt_sz l)
  intro r
  induction r with
  | nil =>
    intro i fr σ hf hd hs r0 r1 r5
    have h1 := drop_nil hd
    rw [L.len_av] at h1
    have hd : decide ((i : Int) < l.len) = false := decide_eq_false (by omega)
    simp only [K12, fb, Tryd.f12, cl, cr, Option.getD]
    rw [cw_loop]
    simp only [↓cw_exit, ↓cw_seq, ↓cw_cond, ↓cw_region, ↓then_normal, ↓then_exit, ↓draw_false, ↓ow_nil, ↓ow_cons, ↓contO_eq, ↓op_move, ↓op_binOp, ↓op_call, ↓force_DC, vW_some, pW_some, bW_false, ifW_some, setD_some, on2_some, biV_eq, arg_blt, opd, opds, pureV, rd_set, binV, intV, isConst, bltV, lenV, undF, Nat.reduceEqDiff, Nat.reduceAdd, reduceIte, reduceCtorEq, Bool.or_false, List.length_cons, List.length_nil, Nat.zero_add, St.bump, List.size_toArray, r0, r5, L.len_av, hd]
    exact hQ _ _
  | cons op n al off res b e ls r ihb ihe ih =>
    intro i fr σ hf hd hs r0 r1 r5
    obtain ⟨h1, h2, h3⟩ := drop_cons hd
    rw [L.len_av] at h3
    have hlt : decide ((i : Int) < l.len) = true := decide_eq_true (by omega)
    have h0i : (0 : Int) ≤ i := by omega
    simp only [L.sz] at hs
    simp only [K12, fb, Tryd.f12, cl, cr, Option.getD]
    rw [cw_loop]
    simp only [↓cw_skip, ↓cw_seq, ↓cw_block, ↓cw_cond, ↓cw_region, ↓then_normal, ↓draw_false, ↓draw_true, ↓ow_nil, ↓ow_cons, ↓ow_consG, ↓contO_eq, ↓op_move, ↓op_alloc, ↓op_load, ↓op_store, ↓op_binOp, ↓op_fieldAddr, ↓op_indexAddr, ↓op_call, ↓force_DC, vW_some, pW_some, bW_true, ifW_some, setD_some, setD_none, allocV, on1_some, on2_some, ldV_eq, stV, biV_eq, faV_eq, arg_blt, opd, opds, pureV, rd_set, binV, intV, isConst, bltV, lenV, idxAddrV, loadV, fieldAddrV, take?, put, flat, AV.cells, hasStore, isStore, undF, aggF, infF, Nat.reduceEqDiff, Nat.reduceAdd, Nat.reduceLeDiff, reduceIte, reduceCtorEq, Bool.or_false, Bool.or_true, List.any, List.length_cons, List.length_nil, List.getElem?_cons_zero, List.getElem?_cons_succ, List.drop_zero, List.take_succ_cons, List.take_zero, List.set_cons_zero, List.set_cons_succ, Nat.add_zero, Nat.zero_add, and_self, newBox, St.bump, storeV, Tr.get_set, wantG, Option.bind, Nat.add_assoc, Nat.add_left_cancel_iff, Int.toNat_natCast, boxFree, force_DD, beqF, List.size_toArray, r0, r1, r5, L.len_av, hlt, h0i, h1, iav, hf.hb]
    refine ⟨okDrawD_four 6 7 22 26 (by simp only [rd_set, Nat.reduceEqDiff, reduceIte]; exact rfl) (by simp only [rd_set, Nat.reduceEqDiff, reduceIte]; exact rfl) (by simp only [rd_set, Nat.reduceEqDiff, reduceIte]; exact rfl) (by simp only [rd_set, Nat.reduceEqDiff, reduceIte]; exact rfl) (by omega) (by kernel_rfl), ?_⟩
    simp only [↓ow_cons, ↓ow_consG, ↓contO_eq, ↓op_move, ↓op_load, ↓op_binOp, ↓op_fieldAddr, ↓op_pick, ↓op_call, ↓force_DO, vW_some, pW_some, bW_true, setD_some, on1_some, on2_some, ldV_eq, biV_eq, faV_eq, pkV, callV_some, arg_blt, arg_val, opd, opds, ofConst, leaf, pureV, rd_set, binV, intV, isConst, bltV, lenV, loadV, fieldAddrV, take?, undF, aggF, infF, Nat.reduceEqDiff, Nat.reduceAdd, Nat.reduceLeDiff, reduceIte, reduceCtorEq, Bool.or_false, List.length_cons, List.length_nil, List.getElem?_cons_zero, List.getElem?_cons_succ, List.append_nil, List.drop_succ_cons, List.drop_zero, List.take_succ_cons, List.take_zero, beq_self_eq_true, Nat.zero_add, Bool.not_false, Tr.get_set, wantG, Option.bind, Nat.add_left_cancel_iff, bne_self_eq_false]
    refine pc12.call (by simp [untok, AV.strip, Go.Pv.goods, Go.Pv.good, L.goods]) (H b (by omega)) ?_
    simp only [↓ow_cons, ↓ow_consG, ↓contO_eq, ↓op_move, ↓op_load, ↓op_unOp, ↓op_fieldAddr, ↓op_pick, ↓op_call, ↓force_DO, vW_some, bW_true, setD_some, on1_some, ldV_eq, faV_eq, pkV, callV_some, arg_val, opd, opds, ofConst, leaf, rd_set, unV, loadV, fieldAddrV, take?, undF, aggF, infF, Nat.reduceEqDiff, Nat.reduceAdd, Nat.reduceLeDiff, reduceIte, reduceCtorEq, List.length_cons, List.length_nil, List.getElem?_cons_zero, List.getElem?_cons_succ, List.append_nil, List.drop_succ_cons, List.drop_zero, List.take_succ_cons, List.take_zero, beq_self_eq_true, Nat.zero_add, Bool.not_true, Tr.get_set, wantG, Option.bind, Nat.add_left_cancel_iff]
    refine pc12.call (by simp [untok, AV.strip, Go.Pv.goods, Go.Pv.good, L.goods]) (H e (by omega)) ?_
    simp only [↓cw_skip, ↓cw_seq, ↓cw_block, ↓cw_cond, ↓cw_region, ↓then_normal, ↓draw_false, ↓ow_nil, ↓ow_cons, ↓ow_consG, ↓contO_eq, ↓op_assign, ↓op_unOp, ↓op_pick, ↓force_DC, ↓force_DO, vW_some, bW_true, bW_false, ifW_some, setD_some, on1_some, pkV, opd, ofConst, leaf, rd_set, unV, Nat.reduceEqDiff, Nat.reduceAdd, reduceIte, List.length_cons, List.length_nil, List.getElem?_cons_zero, List.getElem?_cons_succ, beq_self_eq_true, Nat.zero_add, Bool.not_true, St.bump, wantG, Option.bind, Nat.add_assoc, List.size_toArray]
    refine loop12b ls (.i .u8 op) (.i .i64 n) (.i .u32 al) (.i .u32 off) (.i .u8 res) (.sl b.av 0) (.sl e.av 0) (σ.nb + 12) (σ.nb + 13) (.sl l.av 0) (.sl l.av 0) (.i .i64 i) _ (by omega) (fun fr σ1 hf1 r0 r1 r5 => ?_) ls 0 _ _ ?_ rfl ?_ ?_ ?_ ?_ ?_ ?_ ?_ ?_
    rotate_left
    · first | exact Fresh.of (by repeat (first | exact (Fresh.freeH hf (by omega)) | refine FreeH.set ?_ (by omega))) (by repeat (first | exact (Fresh.freeT hf (by omega)) | refine FreeT.set ?_ (by omega) | refine FreeT.via (by assumption) ?_ (by omega)))
    · simp only [Nat.reduceEqDiff, reduceIte, Tr.get_set, Nat.add_left_cancel_iff]
    · simp only [Nat.reduceEqDiff, reduceIte, Tr.get_set, Nat.add_left_cancel_iff]
    · simp only [rd_set, reduceIte, reduceCtorEq, r0]
    · simp only [rd_set, Nat.reduceEqDiff, reduceIte, r1]
    · simp only [rd_set, Nat.reduceEqDiff, reduceIte, r5]
    · simp only [rd_set, Nat.reduceEqDiff, reduceIte]
    · simp only [rd_set, Nat.reduceEqDiff, reduceIte]
    · simp only [rd_set, Nat.reduceEqDiff, reduceIte]
      rfl
    simp only [↓cw_region, ↓then_normal, ↓block_normal, ↓draw_false, ↓ow_nil, ↓ow_cons, ↓contO_eq, ↓op_move, ↓op_assign, ↓op_binOp, ↓force_DQ, block_exit, vW_some, bW_true, setD_some, on2_some, biV_eq, nbeq, opd, ofConst, leaf, rd_set, binV, intV, isConst, Nat.reduceEqDiff, Nat.reduceAdd, reduceIte, Bool.or_true, List.length_cons, List.length_nil, beq_self_eq_true, Nat.zero_add, St.bump, List.size_toArray, r5, fw_add1 (n := i) (by omega)]
    refine ih (i + 1) _ _ ?_ h2 (by omega) ?_ ?_ ?_
    · first | exact Fresh.of (by repeat (first | exact (Fresh.freeH hf1 (by omega)) | refine FreeH.set ?_ (by omega))) (by repeat (first | exact (Fresh.freeT hf1 (by omega)) | refine FreeT.set ?_ (by omega) | refine FreeT.via (by assumption) ?_ (by omega)))
    all_goals simp only [rd_set, Nat.reduceEqDiff, reduceIte, reduceCtorEq, r0, r1, r5]

theorem w_sameCode : ∀ N (l : L), l.sz < N → N ≤ 1000000000 → PureW TS 12 [.sl l.av 0, .sl l.av 0] (.b true) := by
  intro N
  induction N with
  | zero => intro l h; omega
  | succ N ihN =>
    intro l hl hN
    unfold PureW
    refine callW_of ft12 rfl (Nat.le_of_ble_eq_true rfl) ?_
    have hf : Fresh St.start := Fresh.start
    generalize St.start = σ at hf
    simp only [↓cw_skip, ↓cw_seq, ↓cw_block, ↓cw_cond, ↓cw_region, ↓then_normal, ↓draw_false, ↓ow_nil, ↓ow_cons, ↓contO_eq, ↓op_move, ↓op_assign, ↓op_binOp, ↓op_call, ↓force_DC, vW_some, pW_some, bW_false, ifW_some, setD_some, on2_some, biV_eq, arg_blt, opd, opds, ofConst, leaf, pureV, rd_set, rd_nil, Fr.ofList, binV, intV, isConst, bltV, lenV, undF, Nat.reduceEqDiff, Nat.reduceAdd, reduceIte, reduceCtorEq, Bool.or_false, List.length_cons, List.length_nil, Nat.zero_add, St.bump, Nat.add_assoc, List.size_toArray, bne_self_eq_false]
    refine loop12 l N (fun l' h' => ihN l' h' (by omega)) _ (by omega) (by omega) (fun fr σ => ?_) l 0 _ _ ?_ rfl (by omega) ?_ ?_ ?_
    · simp only [↓cw_ret, ↓cw_seq, ↓cw_region, ↓then_normal, ↓draw_false, ↓ow_nil, ↓ow_cons, ↓contO_eq, ↓op_assign, ↓ret_ret, ↓force_DQ, block_exit, vW_some, bW_true, setD_some, resW, nbeq, opd, ofConst, leaf, rd_set, resV, reduceIte, List.length_cons, List.length_nil, beq_self_eq_true, Nat.zero_add, List.size_toArray, Tryd.f12]
      exact ⟨rfl, rfl⟩
    · first | exact Fresh.of (by repeat (first | exact (Fresh.freeH hf (by omega)) | refine FreeH.set ?_ (by omega))) (by repeat (first | exact (Fresh.freeT hf (by omega)) | refine FreeT.set ?_ (by omega) | refine FreeT.via (by assumption) ?_ (by omega)))
    all_goals simp only [rd_set, rd_nil, Nat.reduceEqDiff, reduceIte, reduceCtorEq]
    all_goals rfl
end Go.Pv
