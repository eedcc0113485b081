/- The document's Lay, for instructions that may be. (PvZ6) -/
import Derived.Test.YtigcolhieieakaaDoorPvE9
import Derived.Test.YtigcolhieieakaaDoorPvE0
namespace Go.Pv
open Go Go.Proofs Go.RowKit
set_option linter.unusedVariables false
set_option linter.unusedSimpArgs false
set_option maxRecDepth 100000

/-- What Lay answers: a row, or none. -/
def LayN (l : L) : Prop := (l = .nil ∧ CallW TS 22 [.sl [] 0] St.start fun v _ => v = .sl [] 1) ∨ (l.enc ≠ [] ∧ RowW TS 22 [.sl l.av 0] (u8s l.enc) 1)

theorem lay_step {h : Tr (List AV)} {tk : Tr Nat} {nb : Nat} {m j k0 : Nat} {l : L} {Q : AV → St → Prop} (H : LayN l) (hfree : tokFree j ⟨h, tk, nb⟩ = true)
    (q : ∀ κ s, (κ = 1 ∧ l.enc = [] ∨ κ = nb + j + 2 ∧ s = 1) → Q (.sl (u8s l.enc) κ) ⟨h, Tr.set tk (nb + j + 2) s, nb⟩) : FnW TS m j 22 [.sl l.av k0] ⟨h, tk, nb⟩ Q := by
  rcases H with ⟨rfl, H⟩ | ⟨hne, H⟩
  · exact FnW_row0 rfl (by kernel_rfl) (by simp [untok, AV.strip, Go.Pv.goods, Go.Pv.good, L.av]) H hfree (q 1 0 (.inl ⟨rfl, rfl⟩))
  · exact FnW_row rfl (by kernel_rfl) (by simp [untok, AV.strip, Go.Pv.goods, Go.Pv.good, L.goods]) H (by decide) hfree (q _ 1 (.inr ⟨rfl, rfl⟩))

noncomputable def K22 : Code := cl (cr (cl (cr (cr (fb Tryd.f22)))))
noncomputable def A22 : Code := cl (cl (cl (cr (cl (cr (cr (fb Tryd.f22)))))))
noncomputable def B22 : Code := cl (cr (cl (cl (cr (cl (cr (cr (fb Tryd.f22))))))))
noncomputable def D22 : Code := cr (cr (cl (cl (cr (cl (cr (cr (fb Tryd.f22))))))))
theorem K22_eq : K22 = .loop (.seq A22 (.seq B22 D22)) := by kernel_rfl

noncomputable def K22b : Code := cl (cr (cr (cl (cr (cr (cr (cr (cr (cr (cr (cr (cr (cr (cr (cl (cr (cr (cr (cr (cl (cl (cr (cl (cl (cr (cl (cr (cr (fb Tryd.f22)))))))))))))))))))))))))))))
theorem loop22b (l : L) (i0 : Nat) (ls : List Int) (bx : Nat) (cells : List AV) (hc : cells[7]? = some (.sl (u32s ls) 0)) (bs0 : List Int) (Q : Ex → Fr → St → Prop) (hls : ls.length < 4611686018427387904) :
    ∀ (rs : List Int) i bs κ fr σ, ls.drop i = rs → (∀ x ∈ rs, 0 ≤ x ∧ x ≤ 4294967295) → Fresh σ → bx < σ.nb → Tr.get σ.h bx = some cells → TokOk σ bs κ → κ < σ.nb + 2 → bs.length + (rs.flatMap (fun x => encU x.toNat)).length < 1099511619000 → bs ++ rs.flatMap (fun x => encU x.toNat) = bs0 →
      fr.rd 0 = .sl l.av 0 → fr.rd 3 = .sl (u8s bs) κ → fr.rd 4 = .i .i64 i0 → fr.rd 5 = .p bx 0 → fr.rd 8 = .i .i64 i →
      (∀ κ' fr' σ', Fresh σ' → TokOk σ' bs0 κ' → κ' < σ'.nb + 2 → fr'.rd 0 = .sl l.av 0 → fr'.rd 3 = .sl (u8s bs0) κ' → fr'.rd 4 = .i .i64 i0 → Q (.exit 3) fr' σ') → CodeW TS K22b fr σ Q := by
  intro rs
  induction rs with
  | nil =>
    intro i bs κ fr σ hd hrs hf hb hh hk hkn hlen hbs r0 r3 r4 r5 r8 hQ
    have h1 := drop_nil hd
    have hlt : decide ((i : Int) < ls.length) = false := decide_eq_false (by omega)
    simp only [K22b, fb, Tryd.f22, cl, cr, Option.getD]
    rw [cw_loop]
    simp only [↓cw_exit, ↓cw_seq, ↓cw_cond, ↓cw_region, ↓then_normal, ↓then_exit, ↓draw_false, ↓ow_nil, ↓ow_cons, ↓contO_eq, ↓op_move, ↓op_load, ↓op_binOp, ↓op_fieldAddr, ↓op_call, ↓force_DC, vW_some, pW_some, bW_false, ifW_some, setD_some, on1_some, on2_some, ldV_eq, biV_eq, faV_eq, arg_blt, opd, opds, pureV, rd_set, binV, intV, isConst, bltV, lenV, loadV, fieldAddrV, take?, undF, aggF, infF, Nat.reduceEqDiff, Nat.reduceAdd, reduceIte, reduceCtorEq, Bool.or_false, List.length_cons, List.length_nil, List.getElem?_cons_zero, List.getElem?_cons_succ, Nat.zero_add, St.bump, List.size_toArray, r5, r8, hh, hc, hlt, u32s_len]
    simp only [List.flatMap_nil, List.append_nil] at hbs
    refine hQ κ _ _ ?_ (hbs ▸ hk) (by simp only; omega) ?_ ?_ ?_
    · first | exact Fresh.of (by repeat (first | exact (Fresh.freeH hf (by omega)) | refine FreeH.set ?_ (by omega))) (by repeat (first | exact (Fresh.freeT hf (by omega)) | refine FreeT.set ?_ (by omega) | refine FreeT.via (by assumption) ?_ (by omega)))
    · simp only [rd_set, reduceIte, reduceCtorEq, r0]
    · simp only [rd_set, Nat.reduceEqDiff, reduceIte, r3, hbs]
    · simp only [rd_set, Nat.reduceEqDiff, reduceIte, r4]
  | cons x rs ih =>
    intro i bs κ fr σ hd hrs hf hb hh hk hkn hlen hbs r0 r3 r4 r5 r8 hQ
    obtain ⟨h1, h2, h3⟩ := drop_cons hd
    have hlt : decide ((i : Int) < ls.length) = true := decide_eq_true (by omega)
    have h0i : (0 : Int) ≤ i := by omega
    have hx := hrs x List.mem_cons_self
    have hg : (u32s ls)[i]? = some (.i .u32 x) := by simp [u32s, h1]
    have h10 := encU_10 (v := x.toNat) (by omega)
    simp only [List.flatMap_cons, List.length_append] at hlen
    simp only [K22b, fb, Tryd.f22, cl, cr, Option.getD]
    rw [cw_loop]
    simp only [↓cw_skip, ↓cw_seq, ↓cw_block, ↓cw_cond, ↓cw_region, ↓then_normal, ↓draw_false, ↓ow_nil, ↓ow_cons, ↓contO_eq, ↓op_move, ↓op_load, ↓op_binOp, ↓op_convert, ↓op_fieldAddr, ↓op_indexAddr, ↓op_call, ↓force_DC, vW_some, pW_some, bW_true, ifW_some, setD_some, on1_some, on2_some, ldV_eq, biV_eq, faV_eq, callV_some, arg_blt, arg_val, opd, opds, pureV, rd_set, binV, intV, convV, isConst, bltV, lenV, idxAddrV, loadV, fieldAddrV, take?, AV.cells, undF, aggF, infF, Nat.reduceEqDiff, Nat.reduceAdd, Nat.reduceLeDiff, reduceIte, reduceCtorEq, Bool.or_false, List.length_cons, List.length_nil, List.getElem?_cons_zero, List.getElem?_cons_succ, List.append_nil, List.drop_zero, List.take_succ_cons, List.take_zero, Nat.zero_add, St.bump, Int.toNat_natCast, List.size_toArray, r3, r5, r8, hh, hc, hlt, u32s_len, h0i, hg]
    rw [fw_u64_small x hx]
    refine pc36.call rfl (w_rputU _ (by omega) (by omega)) ?_
    simp only [↓ow_cons, ↓contO_eq, ↓op_call, setD_some, arg_blt, opd, opds, rd_set, bltV, undF, Nat.reduceEqDiff, Nat.reduceAdd, reduceIte]
    refine app_any (bs := bs) (zs := encU x.toNat) (hk.as rfl) (by omega) (by omega) ?_ fun ka tk hT hK hR => ?_
    · exact tokFree_of (by repeat (first | exact (Fresh.freeT hf (by omega)) | refine FreeT.set ?_ (by omega) | refine FreeT.via (by assumption) ?_ (by omega)))
    simp only [↓cw_region, ↓then_normal, ↓block_normal, ↓draw_false, ↓ow_nil, ↓ow_cons, ↓contO_eq, ↓op_move, ↓op_assign, ↓op_binOp, vW_some, setD_some, on2_some, biV_eq, opd, ofConst, leaf, rd_set, binV, intV, isConst, Nat.reduceEqDiff, Nat.reduceAdd, reduceIte, Bool.or_true, List.length_cons, List.length_nil, Nat.zero_add, St.bump, Nat.add_assoc, List.size_toArray, r8, fw_add1 (n := i) (by omega)]
    refine ih (i + 1) (bs ++ encU x.toNat) ka _ _ h2 (fun y hy => hrs y (List.mem_cons_of_mem _ hy)) ?_ ?_ ?_ ?_ ?_ ?_ ?_ ?_ ?_ ?_ ?_ ?_ hQ
    · first | exact Fresh.of (by repeat (first | exact (Fresh.freeH hf (by omega)) | refine FreeH.set ?_ (by omega))) (by repeat (first | exact (Fresh.freeT hf (by omega)) | refine FreeT.set ?_ (by omega) | refine FreeT.via (by assumption) ?_ (by omega)))
    · simp only; omega
    · exact hh
    · exact hT.as rfl
    · simp only; omega
    · simp only [List.length_append]; omega
    · rw [← hbs]; simp
    all_goals simp only [rd_set, Nat.reduceEqDiff, reduceIte, reduceCtorEq, r0, r3, r4, r5, r8]
-- PRINTED BELOW by gen_e10.py of this work
set_option maxHeartbeats 8000000 in
theorem body22 (l : L) (op : Nat) (hop : op < 256) (n al off res : Int) (b e : L) (ls : List Int) (hn : -9223372036854775808 ≤ n ∧ n ≤ 9223372036854775807) (hal : 0 ≤ al ∧ al ≤ 4294967295) (hoff : 0 ≤ off ∧ off ≤ 4294967295) (hres : 0 ≤ res ∧ res ≤ 255) (hls : ∀ x ∈ ls, 0 ≤ x ∧ x ≤ 4294967295)
    (f : Nat) (hfn : formN op = some f) (h8 : f = 8 → 0 < ls.length ∧ ls.length ≤ 257) (Hb : LayN b) (He : LayN e) (i : Nat) (hx : l.av[i]? = some (iav op n al off res b.av e.av (u32s ls))) (bs : List Int) (κ : Nat) (fr : Fr) (σ : St) (Q : Ex → Fr → St → Prop) (hf : Fresh σ) (hk : TokOk σ bs κ) (hkn : κ < σ.nb + 2)
    (hlen : bs.length + (encI op n al off res ls b.enc e.enc e.len).length < 1099511610000) (r0 : fr.rd 0 = .sl l.av 0) (r3 : fr.rd 3 = .sl (u8s bs) κ) (r4 : fr.rd 4 = .i .i64 i)
    (hQ : ∀ κ' fr' σ', Fresh σ' → TokOk σ' (bs ++ encI op n al off res ls b.enc e.enc e.len) κ' → κ' < σ'.nb + 2 → fr'.rd 0 = .sl l.av 0 → fr'.rd 3 = .sl (u8s (bs ++ encI op n al off res ls b.enc e.enc e.len)) κ' → fr'.rd 4 = .i .i64 i → Q .normal fr' σ') : CodeW TS B22 fr σ Q := by
  have h0i : (0 : Int) ≤ i := by omega
  simp only [B22, fb, Tryd.f22, cl, cr, Option.getD]
  simp only [↓cw_seq, ↓cw_block, ↓cw_region, ↓then_normal, ↓draw_false, ↓ow_nil, ↓ow_cons, ↓contO_eq, ↓op_move, ↓op_alloc, ↓op_load, ↓op_store, ↓op_fieldAddr, ↓op_indexAddr, ↓op_call, vW_some, pW_some, setD_some, setD_none, allocV, on1_some, on2_some, ldV_eq, stV, faV_eq, callV_some, arg_val, opd, opds, rd_set, idxAddrV, loadV, fieldAddrV, take?, put, flat, AV.cells, undF, aggF, infF, Nat.reduceEqDiff, Nat.reduceAdd, Nat.reduceLeDiff, reduceIte, reduceCtorEq, List.length_cons, List.length_nil, List.getElem?_cons_zero, List.append_nil, List.drop_zero, List.take_succ_cons, List.take_zero, List.set_cons_zero, List.set_cons_succ, Nat.add_zero, Nat.zero_add, and_self, newBox, St.bump, storeV, Tr.get_set, Int.toNat_natCast, boxFree, List.size_toArray, r0, r4, h0i, hx, iav, hf.hb]
  refine pc34.call rfl (w_rform op hop) ?_
  simp only [rformV, hfn]
  simp only [encI, hfn] at hQ hlen
  have hf9 := form_le _ _ hfn
  simp only [↓cw_seq, ↓cw_region, ↓then_normal, ↓draw_false, ↓ow_nil, ↓ow_cons, ↓contO_eq, ↓op_move, ↓op_assign, ↓op_buildSlice, ↓op_load, ↓op_fieldAddr, ↓op_extract, ↓op_call, vW_some, pW_some, setD_some, bldS, on1_some, ldV_eq, faV_eq, exV, arg_blt, opd, opds, rd_set, bltV, loadV, fieldAddrV, take?, fillV, parts, put, flat, AV.cells, AV.strip, undF, aggF, infF, Nat.reduceEqDiff, Nat.reduceAdd, Nat.reduceMul, Nat.reduceLeDiff, ne_eq, not_false_eq_true, reduceIte, reduceCtorEq, List.length_cons, List.length_nil, List.getElem?_cons_zero, List.getElem?_cons_succ, List.append_nil, List.drop_zero, List.take_succ_cons, List.take_zero, List.set_cons_zero, List.map_cons, List.map_nil, Nat.add_zero, Nat.zero_add, and_self, newTok, St.bump, Tr.get_set, Nat.add_assoc, or_true, List.headD_cons, tokFree, buildSliceV, repeatCells, chunk, List.size_toArray, r3, hf.tb]
  refine app_step (y := (op : Int)) (ys := []) (hk.set (by omega)) (by simp at hlen ⊢; omega) ?_ fun X hX => ?_
  · exact tokFree_of (by repeat (first | exact (Fresh.freeT hf (by omega)) | refine FreeT.set ?_ (by omega) | refine FreeT.via (by assumption) ?_ (by omega)))
  have hXn : ∀ j, Tr.get X (σ.nb + (j + 21)) = none := fun j => hX (σ.nb + 19) ((hf.freeT (by omega)).set (by omega)) (by omega) _ (by omega)
  clear hfn
  have hc : f = 0 ∨ f = 1 ∨ f = 2 ∨ f = 3 ∨ f = 4 ∨ f = 5 ∨ f = 6 ∨ f = 7 ∨ f = 8 ∨ f = 9 := by omega
  rcases hc with rfl | rfl | rfl | rfl | rfl | rfl | rfl | rfl | rfl | rfl
  · have hE : encF 0 n al off res ls b.enc e.enc e.len = [] := by simp [encF]
    rw [hE] at hQ hlen
    simp only [↓cw_skip, ↓cw_seq, ↓cw_block, ↓cw_cond, ↓cw_region, ↓then_normal, ↓block_normal, ↓draw_false, ↓ow_nil, ↓ow_cons, ↓contO_eq, ↓op_move, ↓op_assign, ↓op_binOp, ↓force_DC, vW_some, bW_false, ifW_some, setD_some, on2_some, biV_eq, opd, ofConst, leaf, rd_set, binV, intV, isConst, Nat.reduceEqDiff, Nat.reduceAdd, reduceIte, Bool.or_true, List.length_cons, List.length_nil, Int.reduceBEq, Nat.zero_add, St.bump, Nat.add_assoc, List.size_toArray, Int.cast_ofNat_Int]
    refine hQ _ _ _ ?_ (.here (by omega)) (by simp only; omega) ?_ ?_ ?_
    · first | exact Fresh.of (by repeat (first | exact (Fresh.freeH hf (by omega)) | refine FreeH.set ?_ (by omega))) (by repeat (first | exact (Fresh.freeT hf (by omega)) | refine FreeT.set ?_ (by omega) | refine FreeT.via (by assumption) ?_ (by omega)))
    · simp only [rd_set, reduceIte, reduceCtorEq, r0]
    · simp only [rd_set, Nat.reduceEqDiff, reduceIte, r3]
    · simp only [rd_set, Nat.reduceEqDiff, reduceIte, r4]
  · have hE : encF 1 n al off res ls b.enc e.enc e.len = encS n := by simp [encF]
    rw [hE] at hQ hlen
    simp only [↓cw_skip, ↓cw_seq, ↓cw_block, ↓cw_cond, ↓cw_region, ↓then_normal, ↓draw_false, ↓ow_nil, ↓ow_cons, ↓contO_eq, ↓op_move, ↓op_assign, ↓op_load, ↓op_binOp, ↓op_fieldAddr, ↓op_call, ↓force_DC, vW_some, bW_true, ifW_some, setD_some, on1_some, on2_some, ldV_eq, biV_eq, faV_eq, callV_some, arg_val, opd, opds, ofConst, leaf, rd_set, binV, intV, isConst, loadV, fieldAddrV, take?, undF, aggF, infF, Nat.reduceEqDiff, Nat.reduceAdd, Nat.reduceLeDiff, reduceIte, reduceCtorEq, Bool.or_true, List.length_cons, List.length_nil, List.getElem?_cons_zero, List.getElem?_cons_succ, List.append_nil, List.drop_succ_cons, List.drop_zero, List.take_succ_cons, List.take_zero, beq_self_eq_true, Nat.zero_add, St.bump, Tr.get_set, Nat.add_assoc, List.size_toArray, r3, Int.cast_ofNat_Int]
    refine pc35.call rfl (w_rputS n hn (by simp at hlen ⊢; omega)) ?_
    simp only [↓ow_cons, ↓contO_eq, ↓op_call, setD_some, arg_blt, opd, opds, rd_set, bltV, undF, Nat.reduceEqDiff, Nat.reduceAdd, reduceIte]
    refine app_any (bs := bs ++ ((op : Int) :: [])) (zs := encS n) ?_ (by omega) (by simp at hlen ⊢; omega) ?_ fun ka1 tk1 hT1 hK1 hR1 => ?_
    · exact .inr ⟨by omega, by simp [Tr.get_set]⟩
    · exact tokFree_of (by repeat (first | exact (Fresh.freeT hf (by omega)) | refine FreeT.set ?_ (by omega) | refine FreeT.via (by assumption) ?_ (by omega)))
    have hN1 : ∀ q, Tr.get tk1 (σ.nb + (q + 30)) = none := fun q => hR1 (σ.nb + 28) (by
        repeat (first | exact (Fresh.freeT hf (by omega)) | refine FreeT.set ?_ (by omega) | refine FreeT.via (by assumption) ?_ (by omega))) (by omega) _ (by omega)
    simp only [↓block_normal, ↓draw_false, ↓ow_nil, ↓ow_cons, ↓contO_eq, ↓op_assign, vW_some, setD_some, opd, rd_set, Nat.reduceEqDiff, Nat.reduceAdd, reduceIte, List.cons_append, List.nil_append, St.bump, Nat.add_assoc, List.append_assoc]
    refine hQ _ _ _ ?_ (hT1.as (by simp)) (by simp only; omega) ?_ ?_ ?_
    · first | exact Fresh.of (by repeat (first | exact (Fresh.freeH hf (by omega)) | refine FreeH.set ?_ (by omega))) (by repeat (first | exact (Fresh.freeT hf (by omega)) | refine FreeT.set ?_ (by omega) | refine FreeT.via (by assumption) ?_ (by omega)))
    · simp only [rd_set, reduceIte, reduceCtorEq, r0]
    · simp only [rd_set, Nat.reduceEqDiff, reduceIte, r3]
    · simp only [rd_set, Nat.reduceEqDiff, reduceIte, r4]
  · have hE : encF 2 n al off res ls b.enc e.enc e.len = encS n := by simp [encF]
    rw [hE] at hQ hlen
    simp only [↓cw_seq, ↓cw_block, ↓cw_cond, ↓cw_region, ↓then_normal, ↓draw_false, ↓ow_nil, ↓ow_cons, ↓contO_eq, ↓op_move, ↓op_assign, ↓op_load, ↓op_binOp, ↓op_fieldAddr, ↓op_call, ↓force_DC, vW_some, bW_true, bW_false, ifW_some, setD_some, on1_some, on2_some, ldV_eq, biV_eq, faV_eq, callV_some, arg_val, opd, opds, ofConst, leaf, rd_set, binV, intV, isConst, loadV, fieldAddrV, take?, undF, aggF, infF, Nat.reduceEqDiff, Nat.reduceAdd, Nat.reduceLeDiff, reduceIte, reduceCtorEq, Bool.or_true, List.length_cons, List.length_nil, List.getElem?_cons_zero, List.getElem?_cons_succ, List.append_nil, List.drop_succ_cons, List.drop_zero, List.take_succ_cons, List.take_zero, Int.reduceBEq, beq_self_eq_true, Nat.zero_add, St.bump, Tr.get_set, Nat.add_assoc, List.size_toArray, r3, Int.cast_ofNat_Int]
    refine pc35.call rfl (w_rputS n hn (by simp at hlen ⊢; omega)) ?_
    simp only [↓ow_cons, ↓contO_eq, ↓op_call, setD_some, arg_blt, opd, opds, rd_set, bltV, undF, Nat.reduceEqDiff, Nat.reduceAdd, reduceIte]
    refine app_any (bs := bs ++ ((op : Int) :: [])) (zs := encS n) ?_ (by omega) (by simp at hlen ⊢; omega) ?_ fun ka2 tk2 hT2 hK2 hR2 => ?_
    · exact .inr ⟨by omega, by simp [Tr.get_set]⟩
    · exact tokFree_of (by repeat (first | exact (Fresh.freeT hf (by omega)) | refine FreeT.set ?_ (by omega) | refine FreeT.via (by assumption) ?_ (by omega)))
    have hN2 : ∀ q, Tr.get tk2 (σ.nb + (q + 32)) = none := fun q => hR2 (σ.nb + 30) (by
        repeat (first | exact (Fresh.freeT hf (by omega)) | refine FreeT.set ?_ (by omega) | refine FreeT.via (by assumption) ?_ (by omega))) (by omega) _ (by omega)
    simp only [↓block_normal, ↓draw_false, ↓ow_nil, ↓ow_cons, ↓contO_eq, ↓op_assign, vW_some, setD_some, opd, rd_set, Nat.reduceEqDiff, Nat.reduceAdd, reduceIte, List.cons_append, List.nil_append, St.bump, Nat.add_assoc, List.append_assoc]
    refine hQ _ _ _ ?_ (hT2.as (by simp)) (by simp only; omega) ?_ ?_ ?_
    · first | exact Fresh.of (by repeat (first | exact (Fresh.freeH hf (by omega)) | refine FreeH.set ?_ (by omega))) (by repeat (first | exact (Fresh.freeT hf (by omega)) | refine FreeT.set ?_ (by omega) | refine FreeT.via (by assumption) ?_ (by omega)))
    · simp only [rd_set, reduceIte, reduceCtorEq, r0]
    · simp only [rd_set, Nat.reduceEqDiff, reduceIte, r3]
    · simp only [rd_set, Nat.reduceEqDiff, reduceIte, r4]
  · have hE : encF 3 n al off res ls b.enc e.enc e.len = encU (fw .u64 n).toNat := by simp [encF]
    rw [hE] at hQ hlen
    simp only [↓cw_seq, ↓cw_block, ↓cw_cond, ↓cw_region, ↓then_normal, ↓draw_false, ↓ow_nil, ↓ow_cons, ↓contO_eq, ↓op_move, ↓op_assign, ↓op_load, ↓op_binOp, ↓op_convert, ↓op_fieldAddr, ↓op_call, ↓force_DC, vW_some, bW_true, bW_false, ifW_some, setD_some, on1_some, on2_some, ldV_eq, biV_eq, faV_eq, callV_some, arg_val, opd, opds, ofConst, leaf, rd_set, binV, intV, convV, isConst, loadV, fieldAddrV, take?, undF, aggF, infF, Nat.reduceEqDiff, Nat.reduceAdd, Nat.reduceLeDiff, reduceIte, reduceCtorEq, Bool.or_true, List.length_cons, List.length_nil, List.getElem?_cons_zero, List.getElem?_cons_succ, List.append_nil, List.drop_succ_cons, List.drop_zero, List.take_succ_cons, List.take_zero, Int.reduceBEq, beq_self_eq_true, Nat.zero_add, St.bump, Tr.get_set, Nat.add_assoc, List.size_toArray, r3, Int.cast_ofNat_Int]
    rw [fw_u64_nat n]
    refine pc36.call rfl (w_rputU _ (fw_u64_lt n) (by simp at hlen ⊢; omega)) ?_
    simp only [↓ow_cons, ↓contO_eq, ↓op_call, setD_some, arg_blt, opd, opds, rd_set, bltV, undF, Nat.reduceEqDiff, Nat.reduceAdd, reduceIte]
    refine app_any (bs := bs ++ ((op : Int) :: [])) (zs := encU (fw .u64 n).toNat) ?_ (by omega) (by simp at hlen ⊢; omega) ?_ fun ka3 tk3 hT3 hK3 hR3 => ?_
    · exact .inr ⟨by omega, by simp [Tr.get_set]⟩
    · exact tokFree_of (by repeat (first | exact (Fresh.freeT hf (by omega)) | refine FreeT.set ?_ (by omega) | refine FreeT.via (by assumption) ?_ (by omega)))
    have hN3 : ∀ q, Tr.get tk3 (σ.nb + (q + 35)) = none := fun q => hR3 (σ.nb + 33) (by
        repeat (first | exact (Fresh.freeT hf (by omega)) | refine FreeT.set ?_ (by omega) | refine FreeT.via (by assumption) ?_ (by omega))) (by omega) _ (by omega)
    simp only [↓block_normal, ↓draw_false, ↓ow_nil, ↓ow_cons, ↓contO_eq, ↓op_assign, vW_some, setD_some, opd, rd_set, Nat.reduceEqDiff, Nat.reduceAdd, reduceIte, List.cons_append, List.nil_append, St.bump, Nat.add_assoc, List.append_assoc]
    refine hQ _ _ _ ?_ (hT3.as (by simp)) (by simp only; omega) ?_ ?_ ?_
    · first | exact Fresh.of (by repeat (first | exact (Fresh.freeH hf (by omega)) | refine FreeH.set ?_ (by omega))) (by repeat (first | exact (Fresh.freeT hf (by omega)) | refine FreeT.set ?_ (by omega) | refine FreeT.via (by assumption) ?_ (by omega)))
    · simp only [rd_set, reduceIte, reduceCtorEq, r0]
    · simp only [rd_set, Nat.reduceEqDiff, reduceIte, r3]
    · simp only [rd_set, Nat.reduceEqDiff, reduceIte, r4]
  · have hE : encF 4 n al off res ls b.enc e.enc e.len = encU al.toNat ++ encU off.toNat := by simp [encF]
    rw [hE] at hQ hlen
    simp only [↓cw_seq, ↓cw_block, ↓cw_cond, ↓cw_region, ↓then_normal, ↓draw_false, ↓ow_nil, ↓ow_cons, ↓contO_eq, ↓op_move, ↓op_assign, ↓op_load, ↓op_binOp, ↓op_convert, ↓op_fieldAddr, ↓op_call, ↓force_DC, vW_some, bW_true, bW_false, ifW_some, setD_some, on1_some, on2_some, ldV_eq, biV_eq, faV_eq, callV_some, arg_val, opd, opds, ofConst, leaf, rd_set, binV, intV, convV, isConst, loadV, fieldAddrV, take?, undF, aggF, infF, Nat.reduceEqDiff, Nat.reduceAdd, Nat.reduceLeDiff, reduceIte, reduceCtorEq, Bool.or_true, List.length_cons, List.length_nil, List.getElem?_cons_zero, List.getElem?_cons_succ, List.append_nil, List.drop_succ_cons, List.drop_zero, List.take_succ_cons, List.take_zero, Int.reduceBEq, beq_self_eq_true, Nat.zero_add, St.bump, Tr.get_set, Nat.add_assoc, List.size_toArray, r3, Int.cast_ofNat_Int]
    rw [fw_u64_small al hal]
    refine pc36.call rfl (w_rputU _ (by omega) (by simp at hlen ⊢; omega)) ?_
    simp only [↓ow_cons, ↓contO_eq, ↓op_call, setD_some, arg_blt, opd, opds, rd_set, bltV, undF, Nat.reduceEqDiff, Nat.reduceAdd, reduceIte]
    refine app_any (bs := bs ++ ((op : Int) :: [])) (zs := encU al.toNat) ?_ (by omega) (by simp at hlen ⊢; omega) ?_ fun ka4 tk4 hT4 hK4 hR4 => ?_
    · exact .inr ⟨by omega, by simp [Tr.get_set]⟩
    · exact tokFree_of (by repeat (first | exact (Fresh.freeT hf (by omega)) | refine FreeT.set ?_ (by omega) | refine FreeT.via (by assumption) ?_ (by omega)))
    have hN4 : ∀ q, Tr.get tk4 (σ.nb + (q + 37)) = none := fun q => hR4 (σ.nb + 35) (by
        repeat (first | exact (Fresh.freeT hf (by omega)) | refine FreeT.set ?_ (by omega) | refine FreeT.via (by assumption) ?_ (by omega))) (by omega) _ (by omega)
    simp only [↓ow_cons, ↓contO_eq, ↓op_load, ↓op_convert, ↓op_fieldAddr, ↓op_call, vW_some, setD_some, on1_some, ldV_eq, faV_eq, callV_some, arg_val, opd, opds, rd_set, convV, loadV, fieldAddrV, take?, undF, aggF, infF, Nat.reduceEqDiff, Nat.reduceAdd, Nat.reduceLeDiff, reduceIte, reduceCtorEq, List.length_cons, List.length_nil, List.getElem?_cons_zero, List.getElem?_cons_succ, List.cons_append, List.nil_append, List.append_nil, List.drop_succ_cons, List.drop_zero, List.take_succ_cons, List.take_zero, Nat.zero_add, Tr.get_set, List.append_assoc]
    rw [fw_u64_small off hoff]
    refine pc36.call rfl (w_rputU _ (by omega) (by simp at hlen ⊢; omega)) ?_
    simp only [↓ow_cons, ↓contO_eq, ↓op_call, setD_some, arg_blt, opd, opds, rd_set, bltV, undF, Nat.reduceEqDiff, Nat.reduceAdd, reduceIte]
    refine app_any (bs := bs ++ ((op : Int) :: encU al.toNat)) (zs := encU off.toNat) ?_ (by omega) (by simp at hlen ⊢; omega) ?_ fun ka5 tk5 hT5 hK5 hR5 => ?_
    · exact hT4.as (by simp)
    · exact tokFree_of (by repeat (first | exact (Fresh.freeT hf (by omega)) | refine FreeT.set ?_ (by omega) | refine FreeT.via (by assumption) ?_ (by omega)))
    have hN5 : ∀ q, Tr.get tk5 (σ.nb + (q + 42)) = none := fun q => hR5 (σ.nb + 40) (by
        repeat (first | exact (Fresh.freeT hf (by omega)) | refine FreeT.set ?_ (by omega) | refine FreeT.via (by assumption) ?_ (by omega))) (by omega) _ (by omega)
    simp only [↓block_normal, ↓draw_true, ↓ow_nil, ↓ow_cons, ↓contO_eq, ↓op_assign, ↓force_DQ, vW_some, bW_false, setD_some, opd, rd_set, hasStore, isStore, Nat.reduceEqDiff, Nat.reduceAdd, reduceIte, Bool.or_false, List.any, List.cons_append, St.bump, Nat.add_assoc, List.append_assoc]
    refine hQ _ _ _ ?_ (hT5.as (by simp)) (by simp only; omega) ?_ ?_ ?_
    · first | exact Fresh.of (by repeat (first | exact (Fresh.freeH hf (by omega)) | refine FreeH.set ?_ (by omega))) (by repeat (first | exact (Fresh.freeT hf (by omega)) | refine FreeT.set ?_ (by omega) | refine FreeT.via (by assumption) ?_ (by omega)))
    · simp only [rd_set, reduceIte, reduceCtorEq, r0]
    · simp only [rd_set, Nat.reduceEqDiff, reduceIte, r3]
    · simp only [rd_set, Nat.reduceEqDiff, reduceIte, r4]
  · have hE : encF 5 n al off res ls b.enc e.enc e.len = [0] := by simp [encF]
    rw [hE] at hQ hlen
    simp only [↓cw_seq, ↓cw_block, ↓cw_cond, ↓cw_region, ↓then_normal, ↓draw_false, ↓ow_nil, ↓ow_cons, ↓contO_eq, ↓op_move, ↓op_assign, ↓op_buildSlice, ↓op_binOp, ↓op_call, ↓force_DC, vW_some, pW_some, bW_true, bW_false, ifW_some, setD_some, bldS, on2_some, biV_eq, arg_blt, opd, opds, ofConst, leaf, rd_set, binV, intV, isConst, bltV, fillV, parts, put, flat, AV.cells, AV.strip, undF, aggF, infF, Nat.reduceEqDiff, Nat.reduceAdd, Nat.reduceMul, Nat.reduceLeDiff, ne_eq, not_false_eq_true, reduceIte, reduceCtorEq, Bool.or_true, List.length_cons, List.length_nil, List.append_nil, List.take_succ_cons, List.take_zero, List.set_cons_zero, List.map_cons, List.map_nil, Int.reduceBEq, beq_self_eq_true, Nat.zero_add, and_self, newTok, St.bump, Tr.get_set, Nat.add_assoc, Nat.add_left_cancel_iff, or_true, List.headD_cons, tokFree, buildSliceV, repeatCells, chunk, List.size_toArray, r3, Int.cast_ofNat_Int, hXn]
    refine app_any (bs := bs ++ ((op : Int) :: [])) (zs := [0]) ?_ (by omega) (by simp at hlen ⊢; omega) ?_ fun ka6 tk6 hT6 hK6 hR6 => ?_
    · exact .inr ⟨by omega, by simp [Tr.get_set]⟩
    · exact tokFree_of (by repeat (first | exact (Fresh.freeT hf (by omega)) | refine FreeT.set ?_ (by omega) | refine FreeT.via (by assumption) ?_ (by omega)))
    have hN6 : ∀ q, Tr.get tk6 (σ.nb + (q + 36)) = none := fun q => hR6 (σ.nb + 34) (by
        repeat (first | exact (Fresh.freeT hf (by omega)) | refine FreeT.set ?_ (by omega) | refine FreeT.via (by assumption) ?_ (by omega))) (by omega) _ (by omega)
    simp only [↓block_normal, ↓draw_false, ↓ow_nil, ↓ow_cons, ↓contO_eq, ↓op_assign, vW_some, setD_some, opd, rd_set, Nat.reduceEqDiff, Nat.reduceAdd, reduceIte, List.cons_append, List.nil_append, St.bump, Nat.add_assoc, List.append_assoc]
    refine hQ _ _ _ ?_ (hT6.as (by simp)) (by simp only; omega) ?_ ?_ ?_
    · first | exact Fresh.of (by repeat (first | exact (Fresh.freeH hf (by omega)) | refine FreeH.set ?_ (by omega))) (by repeat (first | exact (Fresh.freeT hf (by omega)) | refine FreeT.set ?_ (by omega) | refine FreeT.via (by assumption) ?_ (by omega)))
    · simp only [rd_set, reduceIte, reduceCtorEq, r0]
    · simp only [rd_set, Nat.reduceEqDiff, reduceIte, r3]
    · simp only [rd_set, Nat.reduceEqDiff, reduceIte, r4]
  · have hE : encF 6 n al off res ls b.enc e.enc e.len = kindB res :: b.enc ++ (if e.len = 0 then [] else 5 :: e.enc) ++ [11] := by simp [encF]
    rw [hE] at hQ hlen
    by_cases hr : res = 0
    · have hr' : (res == 0) = true := beq_iff_eq.2 hr
      have hkb : kindB res = 64 := by simp [kindB, hr]
      rw [hkb] at hQ hlen
      simp only [↓cw_skip, ↓cw_seq, ↓cw_block, ↓cw_cond, ↓cw_region, ↓then_normal, ↓draw_false, ↓ow_nil, ↓ow_cons, ↓contO_eq, ↓op_move, ↓op_assign, ↓op_buildSlice, ↓op_load, ↓op_binOp, ↓op_fieldAddr, ↓op_call, ↓force_DC, vW_some, pW_some, bW_true, bW_false, ifW_some, setD_some, bldS, on1_some, on2_some, ldV_eq, biV_eq, faV_eq, arg_blt, opd, opds, ofConst, leaf, rd_set, binV, intV, isConst, bltV, loadV, fieldAddrV, take?, fillV, parts, put, flat, AV.cells, AV.strip, undF, aggF, infF, Nat.reduceEqDiff, Nat.reduceAdd, Nat.reduceMul, Nat.reduceLeDiff, ne_eq, not_false_eq_true, reduceIte, reduceCtorEq, Bool.or_true, List.length_cons, List.length_nil, List.getElem?_cons_zero, List.getElem?_cons_succ, List.append_nil, List.drop_succ_cons, List.drop_zero, List.take_succ_cons, List.take_zero, List.set_cons_zero, List.map_cons, List.map_nil, Int.reduceBEq, beq_self_eq_true, Nat.zero_add, and_self, newTok, St.bump, Tr.get_set, Nat.add_assoc, Nat.add_left_cancel_iff, or_true, List.headD_cons, tokFree, buildSliceV, repeatCells, chunk, List.size_toArray, r3, Int.cast_ofNat_Int, hXn, hr']
      refine app_any (bs := bs ++ ((op : Int) :: [])) (zs := [64]) ?_ (by omega) (by simp at hlen ⊢; omega) ?_ fun ka7 tk7 hT7 hK7 hR7 => ?_
      · exact .inr ⟨by omega, by simp [Tr.get_set]⟩
      · exact tokFree_of (by repeat (first | exact (Fresh.freeT hf (by omega)) | refine FreeT.set ?_ (by omega) | refine FreeT.via (by assumption) ?_ (by omega)))
      have hN7 : ∀ q, Tr.get tk7 (σ.nb + (q + 41)) = none := fun q => hR7 (σ.nb + 39) (by
          repeat (first | exact (Fresh.freeT hf (by omega)) | refine FreeT.set ?_ (by omega) | refine FreeT.via (by assumption) ?_ (by omega))) (by omega) _ (by omega)
      simp only [↓cw_seq, ↓cw_region, ↓then_normal, ↓draw_false, ↓ow_nil, ↓ow_cons, ↓contO_eq, ↓op_move, ↓op_assign, ↓op_load, ↓op_fieldAddr, ↓op_call, vW_some, setD_some, on1_some, ldV_eq, faV_eq, callV_some, arg_val, opd, opds, rd_set, loadV, fieldAddrV, take?, undF, aggF, infF, Nat.reduceEqDiff, Nat.reduceAdd, Nat.reduceLeDiff, reduceIte, reduceCtorEq, List.length_cons, List.length_nil, List.getElem?_cons_zero, List.getElem?_cons_succ, List.cons_append, List.nil_append, List.append_nil, List.drop_succ_cons, List.drop_zero, List.take_succ_cons, List.take_zero, Nat.zero_add, St.bump, Tr.get_set, Nat.add_assoc, List.size_toArray, r3, List.append_assoc]
      refine lay_step Hb ?_ fun kb sb hkb2 => ?_
      · exact tokFree_of (by repeat (first | exact (Fresh.freeT hf (by omega)) | refine FreeT.set ?_ (by omega) | refine FreeT.via (by assumption) ?_ (by omega)))
      simp only [↓ow_cons, ↓contO_eq, ↓op_call, setD_some, arg_blt, opd, opds, rd_set, bltV, undF, Nat.reduceEqDiff, Nat.reduceAdd, reduceIte, Nat.add_assoc]
      refine app_any (bs := bs ++ ((op : Int) :: (64 :: []))) (zs := b.enc) ?_ (by omega) (by simp at hlen ⊢; omega) ?_ fun ka8 tk8 hT8 hK8 hR8 => ?_
      · exact hT7.as2 (by simp) (by omega)
      · exact tokFree_of (by repeat (first | exact (Fresh.freeT hf (by omega)) | refine FreeT.set ?_ (by omega) | refine FreeT.via (by assumption) ?_ (by omega)))
      have hN8 : ∀ q, Tr.get tk8 (σ.nb + (q + 47)) = none := fun q => hR8 (σ.nb + 45) (by
          repeat (first | exact (Fresh.freeT hf (by omega)) | refine FreeT.set ?_ (by omega) | refine FreeT.via (by assumption) ?_ (by omega))) (by omega) _ (by omega)
      simp only [↓cw_seq, ↓cw_cond, ↓cw_region, ↓then_normal, ↓draw_false, ↓ow_nil, ↓ow_cons, ↓contO_eq, ↓op_assign, ↓op_load, ↓op_binOp, ↓op_fieldAddr, ↓op_call, vW_some, pW_some, ifW_some, setD_some, on1_some, on2_some, ldV_eq, biV_eq, faV_eq, arg_blt, opd, opds, ofConst, leaf, pureV, rd_set, binV, intV, isConst, bltV, lenV, loadV, fieldAddrV, take?, undF, aggF, infF, Nat.reduceEqDiff, Nat.reduceAdd, Nat.reduceLeDiff, reduceIte, reduceCtorEq, Bool.or_true, List.length_cons, List.length_nil, List.getElem?_cons_zero, List.getElem?_cons_succ, List.cons_append, List.nil_append, List.drop_succ_cons, List.drop_zero, List.take_succ_cons, List.take_zero, Nat.zero_add, St.bump, Tr.get_set, Nat.add_assoc, List.size_toArray, List.append_assoc, L.len_av]
      by_cases hel : e.len = 0
      · have hd : decide ((e.len : Int) > 0) = false := decide_eq_false (by omega)
        rw [if_pos hel] at hQ hlen
        simp only [↓cw_skip, ↓cw_region, ↓then_normal, ↓ow_cons, ↓contO_eq, ↓op_move, ↓op_buildSlice, ↓op_call, ↓force_DC, vW_some, pW_some, bW_false, setD_some, bldS, arg_blt, opd, opds, ofConst, leaf, rd_set, bltV, fillV, parts, put, flat, AV.cells, AV.strip, undF, aggF, infF, Nat.reduceEqDiff, Nat.reduceAdd, Nat.reduceMul, Nat.reduceLeDiff, ne_eq, not_false_eq_true, reduceIte, reduceCtorEq, List.length_cons, List.length_nil, List.append_nil, List.take_succ_cons, List.take_zero, List.set_cons_zero, List.map_cons, List.map_nil, Nat.zero_add, and_self, newTok, Nat.add_assoc, or_true, List.headD_cons, tokFree, buildSliceV, repeatCells, chunk, List.size_toArray, r3, hN8, hd]
        refine app_any (bs := bs ++ ((op : Int) :: (64 :: b.enc))) (zs := [11]) ?_ (by omega) (by simp at hlen ⊢; omega) ?_ fun ka9 tk9 hT9 hK9 hR9 => ?_
        · exact hT8.as2 (by simp) (by omega)
        · exact tokFree_of (by repeat (first | exact (Fresh.freeT hf (by omega)) | refine FreeT.set ?_ (by omega) | refine FreeT.via (by assumption) ?_ (by omega)))
        have hN9 : ∀ q, Tr.get tk9 (σ.nb + (q + 55)) = none := fun q => hR9 (σ.nb + 53) (by
            repeat (first | exact (Fresh.freeT hf (by omega)) | refine FreeT.set ?_ (by omega) | refine FreeT.via (by assumption) ?_ (by omega))) (by omega) _ (by omega)
        simp only [↓block_normal, ↓draw_false, ↓ow_nil, ↓ow_cons, ↓contO_eq, ↓op_assign, vW_some, setD_some, opd, rd_set, Nat.reduceEqDiff, Nat.reduceAdd, reduceIte, List.cons_append, St.bump, Nat.add_assoc, List.append_assoc]
        refine hQ _ _ _ ?_ (hT9.as (by simp)) (by simp only; omega) ?_ ?_ ?_
        · first | exact Fresh.of (by repeat (first | exact (Fresh.freeH hf (by omega)) | refine FreeH.set ?_ (by omega))) (by repeat (first | exact (Fresh.freeT hf (by omega)) | refine FreeT.set ?_ (by omega) | refine FreeT.via (by assumption) ?_ (by omega)))
        · simp only [rd_set, reduceIte, reduceCtorEq, r0]
        · simp only [rd_set, Nat.reduceEqDiff, reduceIte, List.cons_append, List.append_nil, r3]
        · simp only [rd_set, Nat.reduceEqDiff, reduceIte, r4]
      · have hd : decide ((e.len : Int) > 0) = true := decide_eq_true (by omega)
        rw [if_neg hel] at hQ hlen
        simp only [↓cw_region, ↓ow_cons, ↓contO_eq, ↓op_move, ↓op_buildSlice, ↓op_call, ↓force_DC, vW_some, pW_some, bW_true, setD_some, bldS, arg_blt, opd, opds, ofConst, leaf, rd_set, bltV, fillV, parts, put, flat, AV.cells, AV.strip, undF, aggF, infF, Nat.reduceEqDiff, Nat.reduceAdd, Nat.reduceMul, Nat.reduceLeDiff, ne_eq, not_false_eq_true, reduceIte, reduceCtorEq, List.length_cons, List.length_nil, List.append_nil, List.take_succ_cons, List.take_zero, List.set_cons_zero, List.map_cons, List.map_nil, Nat.zero_add, and_self, newTok, Nat.add_assoc, or_true, List.headD_cons, tokFree, buildSliceV, repeatCells, chunk, List.size_toArray, r3, hN8, hd]
        refine app_any (bs := bs ++ ((op : Int) :: (64 :: b.enc))) (zs := [5]) ?_ (by omega) (by simp at hlen ⊢; omega) ?_ fun ka10 tk10 hT10 hK10 hR10 => ?_
        · exact hT8.as2 (by simp) (by omega)
        · exact tokFree_of (by repeat (first | exact (Fresh.freeT hf (by omega)) | refine FreeT.set ?_ (by omega) | refine FreeT.via (by assumption) ?_ (by omega)))
        have hN10 : ∀ q, Tr.get tk10 (σ.nb + (q + 55)) = none := fun q => hR10 (σ.nb + 53) (by
            repeat (first | exact (Fresh.freeT hf (by omega)) | refine FreeT.set ?_ (by omega) | refine FreeT.via (by assumption) ?_ (by omega))) (by omega) _ (by omega)
        simp only [↓ow_cons, ↓contO_eq, ↓op_load, ↓op_fieldAddr, ↓op_call, vW_some, setD_some, on1_some, ldV_eq, faV_eq, callV_some, arg_val, opd, opds, rd_set, loadV, fieldAddrV, take?, undF, aggF, infF, Nat.reduceEqDiff, Nat.reduceAdd, Nat.reduceLeDiff, reduceIte, reduceCtorEq, List.length_cons, List.length_nil, List.getElem?_cons_zero, List.getElem?_cons_succ, List.cons_append, List.append_nil, List.drop_succ_cons, List.drop_zero, List.take_succ_cons, List.take_zero, Nat.zero_add, Tr.get_set, List.append_assoc]
        refine lay_step He ?_ fun ke se hke2 => ?_
        · exact tokFree_of (by repeat (first | exact (Fresh.freeT hf (by omega)) | refine FreeT.set ?_ (by omega) | refine FreeT.via (by assumption) ?_ (by omega)))
        simp only [↓ow_cons, ↓contO_eq, ↓op_call, setD_some, arg_blt, opd, opds, rd_set, bltV, undF, Nat.reduceEqDiff, Nat.reduceAdd, reduceIte, Nat.add_assoc]
        refine app_any (bs := bs ++ ((op : Int) :: (64 :: (b.enc ++ (5 :: []))))) (zs := e.enc) ?_ (by omega) (by simp at hlen ⊢; omega) ?_ fun ka11 tk11 hT11 hK11 hR11 => ?_
        · exact hT10.as2 (by simp) (by omega)
        · exact tokFree_of (by repeat (first | exact (Fresh.freeT hf (by omega)) | refine FreeT.set ?_ (by omega) | refine FreeT.via (by assumption) ?_ (by omega)))
        have hN11 : ∀ q, Tr.get tk11 (σ.nb + (q + 59)) = none := fun q => hR11 (σ.nb + 57) (by
            repeat (first | exact (Fresh.freeT hf (by omega)) | refine FreeT.set ?_ (by omega) | refine FreeT.via (by assumption) ?_ (by omega))) (by omega) _ (by omega)
        simp only [↓cw_region, ↓then_normal, ↓draw_true, ↓ow_nil, ↓ow_cons, ↓contO_eq, ↓op_move, ↓op_assign, ↓op_buildSlice, ↓op_call, ↓force_DQ, vW_some, pW_some, bW_false, setD_some, bldS, arg_blt, opd, opds, ofConst, leaf, rd_set, bltV, fillV, parts, put, flat, AV.cells, AV.strip, hasStore, isStore, undF, aggF, infF, Nat.reduceEqDiff, Nat.reduceAdd, Nat.reduceMul, Nat.reduceLeDiff, ne_eq, not_false_eq_true, reduceIte, reduceCtorEq, Bool.or_false, List.any, List.length_cons, List.length_nil, List.cons_append, List.nil_append, List.append_nil, List.take_succ_cons, List.take_zero, List.set_cons_zero, List.map_cons, List.map_nil, Nat.zero_add, and_self, newTok, St.bump, Nat.add_assoc, or_true, List.headD_cons, tokFree, buildSliceV, repeatCells, chunk, List.size_toArray, r3, List.append_assoc, hN11]
        refine app_any (bs := bs ++ ((op : Int) :: (64 :: (b.enc ++ (5 :: e.enc))))) (zs := [11]) ?_ (by omega) (by simp at hlen ⊢; omega) ?_ fun ka12 tk12 hT12 hK12 hR12 => ?_
        · exact hT11.as2 (by simp) (by omega)
        · exact tokFree_of (by repeat (first | exact (Fresh.freeT hf (by omega)) | refine FreeT.set ?_ (by omega) | refine FreeT.via (by assumption) ?_ (by omega)))
        have hN12 : ∀ q, Tr.get tk12 (σ.nb + (q + 63)) = none := fun q => hR12 (σ.nb + 61) (by
            repeat (first | exact (Fresh.freeT hf (by omega)) | refine FreeT.set ?_ (by omega) | refine FreeT.via (by assumption) ?_ (by omega))) (by omega) _ (by omega)
        simp only [↓block_normal, ↓draw_false, ↓ow_nil, ↓ow_cons, ↓contO_eq, ↓op_assign, vW_some, setD_some, opd, rd_set, Nat.reduceEqDiff, Nat.reduceAdd, reduceIte, List.cons_append, St.bump, Nat.add_assoc, List.append_assoc]
        refine hQ _ _ _ ?_ (hT12.as (by simp)) (by simp only; omega) ?_ ?_ ?_
        · first | exact Fresh.of (by repeat (first | exact (Fresh.freeH hf (by omega)) | refine FreeH.set ?_ (by omega))) (by repeat (first | exact (Fresh.freeT hf (by omega)) | refine FreeT.set ?_ (by omega) | refine FreeT.via (by assumption) ?_ (by omega)))
        · simp only [rd_set, reduceIte, reduceCtorEq, r0]
        · simp only [rd_set, Nat.reduceEqDiff, reduceIte, List.cons_append, r3, List.append_assoc]
        · simp only [rd_set, Nat.reduceEqDiff, reduceIte, r4]
    · have hr' : (res == 0) = false := beq_eq_false_iff_ne.2 hr
      have hkb : kindB res = res := by simp [kindB, hr]
      rw [hkb] at hQ hlen
      simp only [↓cw_skip, ↓cw_seq, ↓cw_block, ↓cw_cond, ↓cw_region, ↓then_normal, ↓draw_false, ↓ow_nil, ↓ow_cons, ↓contO_eq, ↓op_move, ↓op_assign, ↓op_buildSlice, ↓op_load, ↓op_binOp, ↓op_fieldAddr, ↓op_call, ↓force_DC, vW_some, pW_some, bW_true, bW_false, ifW_some, setD_some, bldS, on1_some, on2_some, ldV_eq, biV_eq, faV_eq, arg_blt, opd, opds, ofConst, leaf, rd_set, binV, intV, isConst, bltV, loadV, fieldAddrV, take?, fillV, parts, put, flat, AV.cells, AV.strip, undF, aggF, infF, Nat.reduceEqDiff, Nat.reduceAdd, Nat.reduceMul, Nat.reduceLeDiff, ne_eq, not_false_eq_true, reduceIte, reduceCtorEq, Bool.or_true, List.length_cons, List.length_nil, List.getElem?_cons_zero, List.getElem?_cons_succ, List.append_nil, List.drop_succ_cons, List.drop_zero, List.take_succ_cons, List.take_zero, List.set_cons_zero, List.map_cons, List.map_nil, Int.reduceBEq, beq_self_eq_true, Nat.zero_add, and_self, newTok, St.bump, Tr.get_set, Nat.add_assoc, Nat.add_left_cancel_iff, or_true, List.headD_cons, tokFree, buildSliceV, repeatCells, chunk, List.size_toArray, r3, Int.cast_ofNat_Int, hXn, hr']
      refine app_any (bs := bs ++ ((op : Int) :: [])) (zs := [res]) ?_ (by omega) (by simp at hlen ⊢; omega) ?_ fun ka13 tk13 hT13 hK13 hR13 => ?_
      · exact .inr ⟨by omega, by simp [Tr.get_set]⟩
      · exact tokFree_of (by repeat (first | exact (Fresh.freeT hf (by omega)) | refine FreeT.set ?_ (by omega) | refine FreeT.via (by assumption) ?_ (by omega)))
      have hN13 : ∀ q, Tr.get tk13 (σ.nb + (q + 43)) = none := fun q => hR13 (σ.nb + 41) (by
          repeat (first | exact (Fresh.freeT hf (by omega)) | refine FreeT.set ?_ (by omega) | refine FreeT.via (by assumption) ?_ (by omega))) (by omega) _ (by omega)
      simp only [↓cw_seq, ↓cw_region, ↓then_normal, ↓draw_false, ↓ow_nil, ↓ow_cons, ↓contO_eq, ↓op_move, ↓op_assign, ↓op_load, ↓op_fieldAddr, ↓op_call, vW_some, setD_some, on1_some, ldV_eq, faV_eq, callV_some, arg_val, opd, opds, rd_set, loadV, fieldAddrV, take?, undF, aggF, infF, Nat.reduceEqDiff, Nat.reduceAdd, Nat.reduceLeDiff, reduceIte, reduceCtorEq, List.length_cons, List.length_nil, List.getElem?_cons_zero, List.getElem?_cons_succ, List.cons_append, List.nil_append, List.append_nil, List.drop_succ_cons, List.drop_zero, List.take_succ_cons, List.take_zero, Nat.zero_add, St.bump, Tr.get_set, Nat.add_assoc, List.size_toArray, r3, List.append_assoc]
      refine lay_step Hb ?_ fun kb sb hkb2 => ?_
      · exact tokFree_of (by repeat (first | exact (Fresh.freeT hf (by omega)) | refine FreeT.set ?_ (by omega) | refine FreeT.via (by assumption) ?_ (by omega)))
      simp only [↓ow_cons, ↓contO_eq, ↓op_call, setD_some, arg_blt, opd, opds, rd_set, bltV, undF, Nat.reduceEqDiff, Nat.reduceAdd, reduceIte, Nat.add_assoc]
      refine app_any (bs := bs ++ ((op : Int) :: (res :: []))) (zs := b.enc) ?_ (by omega) (by simp at hlen ⊢; omega) ?_ fun ka14 tk14 hT14 hK14 hR14 => ?_
      · exact hT13.as2 (by simp) (by omega)
      · exact tokFree_of (by repeat (first | exact (Fresh.freeT hf (by omega)) | refine FreeT.set ?_ (by omega) | refine FreeT.via (by assumption) ?_ (by omega)))
      have hN14 : ∀ q, Tr.get tk14 (σ.nb + (q + 49)) = none := fun q => hR14 (σ.nb + 47) (by
          repeat (first | exact (Fresh.freeT hf (by omega)) | refine FreeT.set ?_ (by omega) | refine FreeT.via (by assumption) ?_ (by omega))) (by omega) _ (by omega)
      simp only [↓cw_seq, ↓cw_cond, ↓cw_region, ↓then_normal, ↓draw_false, ↓ow_nil, ↓ow_cons, ↓contO_eq, ↓op_assign, ↓op_load, ↓op_binOp, ↓op_fieldAddr, ↓op_call, vW_some, pW_some, ifW_some, setD_some, on1_some, on2_some, ldV_eq, biV_eq, faV_eq, arg_blt, opd, opds, ofConst, leaf, pureV, rd_set, binV, intV, isConst, bltV, lenV, loadV, fieldAddrV, take?, undF, aggF, infF, Nat.reduceEqDiff, Nat.reduceAdd, Nat.reduceLeDiff, reduceIte, reduceCtorEq, Bool.or_true, List.length_cons, List.length_nil, List.getElem?_cons_zero, List.getElem?_cons_succ, List.cons_append, List.nil_append, List.drop_succ_cons, List.drop_zero, List.take_succ_cons, List.take_zero, Nat.zero_add, St.bump, Tr.get_set, Nat.add_assoc, List.size_toArray, List.append_assoc, L.len_av]
      by_cases hel : e.len = 0
      · have hd : decide ((e.len : Int) > 0) = false := decide_eq_false (by omega)
        rw [if_pos hel] at hQ hlen
        simp only [↓cw_skip, ↓cw_region, ↓then_normal, ↓ow_cons, ↓contO_eq, ↓op_move, ↓op_buildSlice, ↓op_call, ↓force_DC, vW_some, pW_some, bW_false, setD_some, bldS, arg_blt, opd, opds, ofConst, leaf, rd_set, bltV, fillV, parts, put, flat, AV.cells, AV.strip, undF, aggF, infF, Nat.reduceEqDiff, Nat.reduceAdd, Nat.reduceMul, Nat.reduceLeDiff, ne_eq, not_false_eq_true, reduceIte, reduceCtorEq, List.length_cons, List.length_nil, List.append_nil, List.take_succ_cons, List.take_zero, List.set_cons_zero, List.map_cons, List.map_nil, Nat.zero_add, and_self, newTok, Nat.add_assoc, or_true, List.headD_cons, tokFree, buildSliceV, repeatCells, chunk, List.size_toArray, r3, hN14, hd]
        refine app_any (bs := bs ++ ((op : Int) :: (res :: b.enc))) (zs := [11]) ?_ (by omega) (by simp at hlen ⊢; omega) ?_ fun ka15 tk15 hT15 hK15 hR15 => ?_
        · exact hT14.as2 (by simp) (by omega)
        · exact tokFree_of (by repeat (first | exact (Fresh.freeT hf (by omega)) | refine FreeT.set ?_ (by omega) | refine FreeT.via (by assumption) ?_ (by omega)))
        have hN15 : ∀ q, Tr.get tk15 (σ.nb + (q + 57)) = none := fun q => hR15 (σ.nb + 55) (by
            repeat (first | exact (Fresh.freeT hf (by omega)) | refine FreeT.set ?_ (by omega) | refine FreeT.via (by assumption) ?_ (by omega))) (by omega) _ (by omega)
        simp only [↓block_normal, ↓draw_false, ↓ow_nil, ↓ow_cons, ↓contO_eq, ↓op_assign, vW_some, setD_some, opd, rd_set, Nat.reduceEqDiff, Nat.reduceAdd, reduceIte, List.cons_append, St.bump, Nat.add_assoc, List.append_assoc]
        refine hQ _ _ _ ?_ (hT15.as (by simp)) (by simp only; omega) ?_ ?_ ?_
        · first | exact Fresh.of (by repeat (first | exact (Fresh.freeH hf (by omega)) | refine FreeH.set ?_ (by omega))) (by repeat (first | exact (Fresh.freeT hf (by omega)) | refine FreeT.set ?_ (by omega) | refine FreeT.via (by assumption) ?_ (by omega)))
        · simp only [rd_set, reduceIte, reduceCtorEq, r0]
        · simp only [rd_set, Nat.reduceEqDiff, reduceIte, List.cons_append, List.append_nil, r3]
        · simp only [rd_set, Nat.reduceEqDiff, reduceIte, r4]
      · have hd : decide ((e.len : Int) > 0) = true := decide_eq_true (by omega)
        rw [if_neg hel] at hQ hlen
        simp only [↓cw_region, ↓ow_cons, ↓contO_eq, ↓op_move, ↓op_buildSlice, ↓op_call, ↓force_DC, vW_some, pW_some, bW_true, setD_some, bldS, arg_blt, opd, opds, ofConst, leaf, rd_set, bltV, fillV, parts, put, flat, AV.cells, AV.strip, undF, aggF, infF, Nat.reduceEqDiff, Nat.reduceAdd, Nat.reduceMul, Nat.reduceLeDiff, ne_eq, not_false_eq_true, reduceIte, reduceCtorEq, List.length_cons, List.length_nil, List.append_nil, List.take_succ_cons, List.take_zero, List.set_cons_zero, List.map_cons, List.map_nil, Nat.zero_add, and_self, newTok, Nat.add_assoc, or_true, List.headD_cons, tokFree, buildSliceV, repeatCells, chunk, List.size_toArray, r3, hN14, hd]
        refine app_any (bs := bs ++ ((op : Int) :: (res :: b.enc))) (zs := [5]) ?_ (by omega) (by simp at hlen ⊢; omega) ?_ fun ka16 tk16 hT16 hK16 hR16 => ?_
        · exact hT14.as2 (by simp) (by omega)
        · exact tokFree_of (by repeat (first | exact (Fresh.freeT hf (by omega)) | refine FreeT.set ?_ (by omega) | refine FreeT.via (by assumption) ?_ (by omega)))
        have hN16 : ∀ q, Tr.get tk16 (σ.nb + (q + 57)) = none := fun q => hR16 (σ.nb + 55) (by
            repeat (first | exact (Fresh.freeT hf (by omega)) | refine FreeT.set ?_ (by omega) | refine FreeT.via (by assumption) ?_ (by omega))) (by omega) _ (by omega)
        simp only [↓ow_cons, ↓contO_eq, ↓op_load, ↓op_fieldAddr, ↓op_call, vW_some, setD_some, on1_some, ldV_eq, faV_eq, callV_some, arg_val, opd, opds, rd_set, loadV, fieldAddrV, take?, undF, aggF, infF, Nat.reduceEqDiff, Nat.reduceAdd, Nat.reduceLeDiff, reduceIte, reduceCtorEq, List.length_cons, List.length_nil, List.getElem?_cons_zero, List.getElem?_cons_succ, List.cons_append, List.append_nil, List.drop_succ_cons, List.drop_zero, List.take_succ_cons, List.take_zero, Nat.zero_add, Tr.get_set, List.append_assoc]
        refine lay_step He ?_ fun ke se hke2 => ?_
        · exact tokFree_of (by repeat (first | exact (Fresh.freeT hf (by omega)) | refine FreeT.set ?_ (by omega) | refine FreeT.via (by assumption) ?_ (by omega)))
        simp only [↓ow_cons, ↓contO_eq, ↓op_call, setD_some, arg_blt, opd, opds, rd_set, bltV, undF, Nat.reduceEqDiff, Nat.reduceAdd, reduceIte, Nat.add_assoc]
        refine app_any (bs := bs ++ ((op : Int) :: (res :: (b.enc ++ (5 :: []))))) (zs := e.enc) ?_ (by omega) (by simp at hlen ⊢; omega) ?_ fun ka17 tk17 hT17 hK17 hR17 => ?_
        · exact hT16.as2 (by simp) (by omega)
        · exact tokFree_of (by repeat (first | exact (Fresh.freeT hf (by omega)) | refine FreeT.set ?_ (by omega) | refine FreeT.via (by assumption) ?_ (by omega)))
        have hN17 : ∀ q, Tr.get tk17 (σ.nb + (q + 61)) = none := fun q => hR17 (σ.nb + 59) (by
            repeat (first | exact (Fresh.freeT hf (by omega)) | refine FreeT.set ?_ (by omega) | refine FreeT.via (by assumption) ?_ (by omega))) (by omega) _ (by omega)
        simp only [↓cw_region, ↓then_normal, ↓draw_true, ↓ow_nil, ↓ow_cons, ↓contO_eq, ↓op_move, ↓op_assign, ↓op_buildSlice, ↓op_call, ↓force_DQ, vW_some, pW_some, bW_false, setD_some, bldS, arg_blt, opd, opds, ofConst, leaf, rd_set, bltV, fillV, parts, put, flat, AV.cells, AV.strip, hasStore, isStore, undF, aggF, infF, Nat.reduceEqDiff, Nat.reduceAdd, Nat.reduceMul, Nat.reduceLeDiff, ne_eq, not_false_eq_true, reduceIte, reduceCtorEq, Bool.or_false, List.any, List.length_cons, List.length_nil, List.cons_append, List.nil_append, List.append_nil, List.take_succ_cons, List.take_zero, List.set_cons_zero, List.map_cons, List.map_nil, Nat.zero_add, and_self, newTok, St.bump, Nat.add_assoc, or_true, List.headD_cons, tokFree, buildSliceV, repeatCells, chunk, List.size_toArray, r3, List.append_assoc, hN17]
        refine app_any (bs := bs ++ ((op : Int) :: (res :: (b.enc ++ (5 :: e.enc))))) (zs := [11]) ?_ (by omega) (by simp at hlen ⊢; omega) ?_ fun ka18 tk18 hT18 hK18 hR18 => ?_
        · exact hT17.as2 (by simp) (by omega)
        · exact tokFree_of (by repeat (first | exact (Fresh.freeT hf (by omega)) | refine FreeT.set ?_ (by omega) | refine FreeT.via (by assumption) ?_ (by omega)))
        have hN18 : ∀ q, Tr.get tk18 (σ.nb + (q + 65)) = none := fun q => hR18 (σ.nb + 63) (by
            repeat (first | exact (Fresh.freeT hf (by omega)) | refine FreeT.set ?_ (by omega) | refine FreeT.via (by assumption) ?_ (by omega))) (by omega) _ (by omega)
        simp only [↓block_normal, ↓draw_false, ↓ow_nil, ↓ow_cons, ↓contO_eq, ↓op_assign, vW_some, setD_some, opd, rd_set, Nat.reduceEqDiff, Nat.reduceAdd, reduceIte, List.cons_append, St.bump, Nat.add_assoc, List.append_assoc]
        refine hQ _ _ _ ?_ (hT18.as (by simp)) (by simp only; omega) ?_ ?_ ?_
        · first | exact Fresh.of (by repeat (first | exact (Fresh.freeH hf (by omega)) | refine FreeH.set ?_ (by omega))) (by repeat (first | exact (Fresh.freeT hf (by omega)) | refine FreeT.set ?_ (by omega) | refine FreeT.via (by assumption) ?_ (by omega)))
        · simp only [rd_set, reduceIte, reduceCtorEq, r0]
        · simp only [rd_set, Nat.reduceEqDiff, reduceIte, List.cons_append, r3, List.append_assoc]
        · simp only [rd_set, Nat.reduceEqDiff, reduceIte, r4]
  · have hE : encF 7 n al off res ls b.enc e.enc e.len = kindB res :: b.enc ++ (if e.len = 0 then [] else 5 :: e.enc) ++ [11] := by simp [encF]
    rw [hE] at hQ hlen
    by_cases hr : res = 0
    · have hr' : (res == 0) = true := beq_iff_eq.2 hr
      have hkb : kindB res = 64 := by simp [kindB, hr]
      rw [hkb] at hQ hlen
      simp only [↓cw_seq, ↓cw_block, ↓cw_cond, ↓cw_region, ↓then_normal, ↓draw_false, ↓ow_nil, ↓ow_cons, ↓contO_eq, ↓op_move, ↓op_assign, ↓op_buildSlice, ↓op_load, ↓op_binOp, ↓op_fieldAddr, ↓op_call, ↓force_DC, vW_some, pW_some, bW_true, bW_false, ifW_some, setD_some, bldS, on1_some, on2_some, ldV_eq, biV_eq, faV_eq, arg_blt, opd, opds, ofConst, leaf, rd_set, binV, intV, isConst, bltV, loadV, fieldAddrV, take?, fillV, parts, put, flat, AV.cells, AV.strip, undF, aggF, infF, Nat.reduceEqDiff, Nat.reduceAdd, Nat.reduceMul, Nat.reduceLeDiff, ne_eq, not_false_eq_true, reduceIte, reduceCtorEq, Bool.or_true, List.length_cons, List.length_nil, List.getElem?_cons_zero, List.getElem?_cons_succ, List.append_nil, List.drop_succ_cons, List.drop_zero, List.take_succ_cons, List.take_zero, List.set_cons_zero, List.map_cons, List.map_nil, Int.reduceBEq, beq_self_eq_true, Nat.zero_add, and_self, newTok, St.bump, Tr.get_set, Nat.add_assoc, Nat.add_left_cancel_iff, or_true, List.headD_cons, tokFree, buildSliceV, repeatCells, chunk, List.size_toArray, r3, Int.cast_ofNat_Int, hXn, hr']
      refine app_any (bs := bs ++ ((op : Int) :: [])) (zs := [64]) ?_ (by omega) (by simp at hlen ⊢; omega) ?_ fun ka19 tk19 hT19 hK19 hR19 => ?_
      · exact .inr ⟨by omega, by simp [Tr.get_set]⟩
      · exact tokFree_of (by repeat (first | exact (Fresh.freeT hf (by omega)) | refine FreeT.set ?_ (by omega) | refine FreeT.via (by assumption) ?_ (by omega)))
      have hN19 : ∀ q, Tr.get tk19 (σ.nb + (q + 43)) = none := fun q => hR19 (σ.nb + 41) (by
          repeat (first | exact (Fresh.freeT hf (by omega)) | refine FreeT.set ?_ (by omega) | refine FreeT.via (by assumption) ?_ (by omega))) (by omega) _ (by omega)
      simp only [↓cw_seq, ↓cw_region, ↓then_normal, ↓draw_false, ↓ow_nil, ↓ow_cons, ↓contO_eq, ↓op_move, ↓op_assign, ↓op_load, ↓op_fieldAddr, ↓op_call, vW_some, setD_some, on1_some, ldV_eq, faV_eq, callV_some, arg_val, opd, opds, rd_set, loadV, fieldAddrV, take?, undF, aggF, infF, Nat.reduceEqDiff, Nat.reduceAdd, Nat.reduceLeDiff, reduceIte, reduceCtorEq, List.length_cons, List.length_nil, List.getElem?_cons_zero, List.getElem?_cons_succ, List.cons_append, List.nil_append, List.append_nil, List.drop_succ_cons, List.drop_zero, List.take_succ_cons, List.take_zero, Nat.zero_add, St.bump, Tr.get_set, Nat.add_assoc, List.size_toArray, r3, List.append_assoc]
      refine lay_step Hb ?_ fun kb sb hkb2 => ?_
      · exact tokFree_of (by repeat (first | exact (Fresh.freeT hf (by omega)) | refine FreeT.set ?_ (by omega) | refine FreeT.via (by assumption) ?_ (by omega)))
      simp only [↓ow_cons, ↓contO_eq, ↓op_call, setD_some, arg_blt, opd, opds, rd_set, bltV, undF, Nat.reduceEqDiff, Nat.reduceAdd, reduceIte, Nat.add_assoc]
      refine app_any (bs := bs ++ ((op : Int) :: (64 :: []))) (zs := b.enc) ?_ (by omega) (by simp at hlen ⊢; omega) ?_ fun ka20 tk20 hT20 hK20 hR20 => ?_
      · exact hT19.as2 (by simp) (by omega)
      · exact tokFree_of (by repeat (first | exact (Fresh.freeT hf (by omega)) | refine FreeT.set ?_ (by omega) | refine FreeT.via (by assumption) ?_ (by omega)))
      have hN20 : ∀ q, Tr.get tk20 (σ.nb + (q + 49)) = none := fun q => hR20 (σ.nb + 47) (by
          repeat (first | exact (Fresh.freeT hf (by omega)) | refine FreeT.set ?_ (by omega) | refine FreeT.via (by assumption) ?_ (by omega))) (by omega) _ (by omega)
      simp only [↓cw_seq, ↓cw_cond, ↓cw_region, ↓then_normal, ↓draw_false, ↓ow_nil, ↓ow_cons, ↓contO_eq, ↓op_assign, ↓op_load, ↓op_binOp, ↓op_fieldAddr, ↓op_call, vW_some, pW_some, ifW_some, setD_some, on1_some, on2_some, ldV_eq, biV_eq, faV_eq, arg_blt, opd, opds, ofConst, leaf, pureV, rd_set, binV, intV, isConst, bltV, lenV, loadV, fieldAddrV, take?, undF, aggF, infF, Nat.reduceEqDiff, Nat.reduceAdd, Nat.reduceLeDiff, reduceIte, reduceCtorEq, Bool.or_true, List.length_cons, List.length_nil, List.getElem?_cons_zero, List.getElem?_cons_succ, List.cons_append, List.nil_append, List.drop_succ_cons, List.drop_zero, List.take_succ_cons, List.take_zero, Nat.zero_add, St.bump, Tr.get_set, Nat.add_assoc, List.size_toArray, List.append_assoc, L.len_av]
      by_cases hel : e.len = 0
      · have hd : decide ((e.len : Int) > 0) = false := decide_eq_false (by omega)
        rw [if_pos hel] at hQ hlen
        simp only [↓cw_skip, ↓cw_region, ↓then_normal, ↓ow_cons, ↓contO_eq, ↓op_move, ↓op_buildSlice, ↓op_call, ↓force_DC, vW_some, pW_some, bW_false, setD_some, bldS, arg_blt, opd, opds, ofConst, leaf, rd_set, bltV, fillV, parts, put, flat, AV.cells, AV.strip, undF, aggF, infF, Nat.reduceEqDiff, Nat.reduceAdd, Nat.reduceMul, Nat.reduceLeDiff, ne_eq, not_false_eq_true, reduceIte, reduceCtorEq, List.length_cons, List.length_nil, List.append_nil, List.take_succ_cons, List.take_zero, List.set_cons_zero, List.map_cons, List.map_nil, Nat.zero_add, and_self, newTok, Nat.add_assoc, or_true, List.headD_cons, tokFree, buildSliceV, repeatCells, chunk, List.size_toArray, r3, hN20, hd]
        refine app_any (bs := bs ++ ((op : Int) :: (64 :: b.enc))) (zs := [11]) ?_ (by omega) (by simp at hlen ⊢; omega) ?_ fun ka21 tk21 hT21 hK21 hR21 => ?_
        · exact hT20.as2 (by simp) (by omega)
        · exact tokFree_of (by repeat (first | exact (Fresh.freeT hf (by omega)) | refine FreeT.set ?_ (by omega) | refine FreeT.via (by assumption) ?_ (by omega)))
        have hN21 : ∀ q, Tr.get tk21 (σ.nb + (q + 57)) = none := fun q => hR21 (σ.nb + 55) (by
            repeat (first | exact (Fresh.freeT hf (by omega)) | refine FreeT.set ?_ (by omega) | refine FreeT.via (by assumption) ?_ (by omega))) (by omega) _ (by omega)
        simp only [↓block_normal, ↓draw_false, ↓ow_nil, ↓ow_cons, ↓contO_eq, ↓op_assign, vW_some, setD_some, opd, rd_set, Nat.reduceEqDiff, Nat.reduceAdd, reduceIte, List.cons_append, St.bump, Nat.add_assoc, List.append_assoc]
        refine hQ _ _ _ ?_ (hT21.as (by simp)) (by simp only; omega) ?_ ?_ ?_
        · first | exact Fresh.of (by repeat (first | exact (Fresh.freeH hf (by omega)) | refine FreeH.set ?_ (by omega))) (by repeat (first | exact (Fresh.freeT hf (by omega)) | refine FreeT.set ?_ (by omega) | refine FreeT.via (by assumption) ?_ (by omega)))
        · simp only [rd_set, reduceIte, reduceCtorEq, r0]
        · simp only [rd_set, Nat.reduceEqDiff, reduceIte, List.cons_append, List.append_nil, r3]
        · simp only [rd_set, Nat.reduceEqDiff, reduceIte, r4]
      · have hd : decide ((e.len : Int) > 0) = true := decide_eq_true (by omega)
        rw [if_neg hel] at hQ hlen
        simp only [↓cw_region, ↓ow_cons, ↓contO_eq, ↓op_move, ↓op_buildSlice, ↓op_call, ↓force_DC, vW_some, pW_some, bW_true, setD_some, bldS, arg_blt, opd, opds, ofConst, leaf, rd_set, bltV, fillV, parts, put, flat, AV.cells, AV.strip, undF, aggF, infF, Nat.reduceEqDiff, Nat.reduceAdd, Nat.reduceMul, Nat.reduceLeDiff, ne_eq, not_false_eq_true, reduceIte, reduceCtorEq, List.length_cons, List.length_nil, List.append_nil, List.take_succ_cons, List.take_zero, List.set_cons_zero, List.map_cons, List.map_nil, Nat.zero_add, and_self, newTok, Nat.add_assoc, or_true, List.headD_cons, tokFree, buildSliceV, repeatCells, chunk, List.size_toArray, r3, hN20, hd]
        refine app_any (bs := bs ++ ((op : Int) :: (64 :: b.enc))) (zs := [5]) ?_ (by omega) (by simp at hlen ⊢; omega) ?_ fun ka22 tk22 hT22 hK22 hR22 => ?_
        · exact hT20.as2 (by simp) (by omega)
        · exact tokFree_of (by repeat (first | exact (Fresh.freeT hf (by omega)) | refine FreeT.set ?_ (by omega) | refine FreeT.via (by assumption) ?_ (by omega)))
        have hN22 : ∀ q, Tr.get tk22 (σ.nb + (q + 57)) = none := fun q => hR22 (σ.nb + 55) (by
            repeat (first | exact (Fresh.freeT hf (by omega)) | refine FreeT.set ?_ (by omega) | refine FreeT.via (by assumption) ?_ (by omega))) (by omega) _ (by omega)
        simp only [↓ow_cons, ↓contO_eq, ↓op_load, ↓op_fieldAddr, ↓op_call, vW_some, setD_some, on1_some, ldV_eq, faV_eq, callV_some, arg_val, opd, opds, rd_set, loadV, fieldAddrV, take?, undF, aggF, infF, Nat.reduceEqDiff, Nat.reduceAdd, Nat.reduceLeDiff, reduceIte, reduceCtorEq, List.length_cons, List.length_nil, List.getElem?_cons_zero, List.getElem?_cons_succ, List.cons_append, List.append_nil, List.drop_succ_cons, List.drop_zero, List.take_succ_cons, List.take_zero, Nat.zero_add, Tr.get_set, List.append_assoc]
        refine lay_step He ?_ fun ke se hke2 => ?_
        · exact tokFree_of (by repeat (first | exact (Fresh.freeT hf (by omega)) | refine FreeT.set ?_ (by omega) | refine FreeT.via (by assumption) ?_ (by omega)))
        simp only [↓ow_cons, ↓contO_eq, ↓op_call, setD_some, arg_blt, opd, opds, rd_set, bltV, undF, Nat.reduceEqDiff, Nat.reduceAdd, reduceIte, Nat.add_assoc]
        refine app_any (bs := bs ++ ((op : Int) :: (64 :: (b.enc ++ (5 :: []))))) (zs := e.enc) ?_ (by omega) (by simp at hlen ⊢; omega) ?_ fun ka23 tk23 hT23 hK23 hR23 => ?_
        · exact hT22.as2 (by simp) (by omega)
        · exact tokFree_of (by repeat (first | exact (Fresh.freeT hf (by omega)) | refine FreeT.set ?_ (by omega) | refine FreeT.via (by assumption) ?_ (by omega)))
        have hN23 : ∀ q, Tr.get tk23 (σ.nb + (q + 61)) = none := fun q => hR23 (σ.nb + 59) (by
            repeat (first | exact (Fresh.freeT hf (by omega)) | refine FreeT.set ?_ (by omega) | refine FreeT.via (by assumption) ?_ (by omega))) (by omega) _ (by omega)
        simp only [↓cw_region, ↓then_normal, ↓draw_true, ↓ow_nil, ↓ow_cons, ↓contO_eq, ↓op_move, ↓op_assign, ↓op_buildSlice, ↓op_call, ↓force_DQ, vW_some, pW_some, bW_false, setD_some, bldS, arg_blt, opd, opds, ofConst, leaf, rd_set, bltV, fillV, parts, put, flat, AV.cells, AV.strip, hasStore, isStore, undF, aggF, infF, Nat.reduceEqDiff, Nat.reduceAdd, Nat.reduceMul, Nat.reduceLeDiff, ne_eq, not_false_eq_true, reduceIte, reduceCtorEq, Bool.or_false, List.any, List.length_cons, List.length_nil, List.cons_append, List.nil_append, List.append_nil, List.take_succ_cons, List.take_zero, List.set_cons_zero, List.map_cons, List.map_nil, Nat.zero_add, and_self, newTok, St.bump, Nat.add_assoc, or_true, List.headD_cons, tokFree, buildSliceV, repeatCells, chunk, List.size_toArray, r3, List.append_assoc, hN23]
        refine app_any (bs := bs ++ ((op : Int) :: (64 :: (b.enc ++ (5 :: e.enc))))) (zs := [11]) ?_ (by omega) (by simp at hlen ⊢; omega) ?_ fun ka24 tk24 hT24 hK24 hR24 => ?_
        · exact hT23.as2 (by simp) (by omega)
        · exact tokFree_of (by repeat (first | exact (Fresh.freeT hf (by omega)) | refine FreeT.set ?_ (by omega) | refine FreeT.via (by assumption) ?_ (by omega)))
        have hN24 : ∀ q, Tr.get tk24 (σ.nb + (q + 65)) = none := fun q => hR24 (σ.nb + 63) (by
            repeat (first | exact (Fresh.freeT hf (by omega)) | refine FreeT.set ?_ (by omega) | refine FreeT.via (by assumption) ?_ (by omega))) (by omega) _ (by omega)
        simp only [↓block_normal, ↓draw_false, ↓ow_nil, ↓ow_cons, ↓contO_eq, ↓op_assign, vW_some, setD_some, opd, rd_set, Nat.reduceEqDiff, Nat.reduceAdd, reduceIte, List.cons_append, St.bump, Nat.add_assoc, List.append_assoc]
        refine hQ _ _ _ ?_ (hT24.as (by simp)) (by simp only; omega) ?_ ?_ ?_
        · first | exact Fresh.of (by repeat (first | exact (Fresh.freeH hf (by omega)) | refine FreeH.set ?_ (by omega))) (by repeat (first | exact (Fresh.freeT hf (by omega)) | refine FreeT.set ?_ (by omega) | refine FreeT.via (by assumption) ?_ (by omega)))
        · simp only [rd_set, reduceIte, reduceCtorEq, r0]
        · simp only [rd_set, Nat.reduceEqDiff, reduceIte, List.cons_append, r3, List.append_assoc]
        · simp only [rd_set, Nat.reduceEqDiff, reduceIte, r4]
    · have hr' : (res == 0) = false := beq_eq_false_iff_ne.2 hr
      have hkb : kindB res = res := by simp [kindB, hr]
      rw [hkb] at hQ hlen
      simp only [↓cw_seq, ↓cw_block, ↓cw_cond, ↓cw_region, ↓then_normal, ↓draw_false, ↓ow_nil, ↓ow_cons, ↓contO_eq, ↓op_move, ↓op_assign, ↓op_buildSlice, ↓op_load, ↓op_binOp, ↓op_fieldAddr, ↓op_call, ↓force_DC, vW_some, pW_some, bW_true, bW_false, ifW_some, setD_some, bldS, on1_some, on2_some, ldV_eq, biV_eq, faV_eq, arg_blt, opd, opds, ofConst, leaf, rd_set, binV, intV, isConst, bltV, loadV, fieldAddrV, take?, fillV, parts, put, flat, AV.cells, AV.strip, undF, aggF, infF, Nat.reduceEqDiff, Nat.reduceAdd, Nat.reduceMul, Nat.reduceLeDiff, ne_eq, not_false_eq_true, reduceIte, reduceCtorEq, Bool.or_true, List.length_cons, List.length_nil, List.getElem?_cons_zero, List.getElem?_cons_succ, List.append_nil, List.drop_succ_cons, List.drop_zero, List.take_succ_cons, List.take_zero, List.set_cons_zero, List.map_cons, List.map_nil, Int.reduceBEq, beq_self_eq_true, Nat.zero_add, and_self, newTok, St.bump, Tr.get_set, Nat.add_assoc, Nat.add_left_cancel_iff, or_true, List.headD_cons, tokFree, buildSliceV, repeatCells, chunk, List.size_toArray, r3, Int.cast_ofNat_Int, hXn, hr']
      refine app_any (bs := bs ++ ((op : Int) :: [])) (zs := [res]) ?_ (by omega) (by simp at hlen ⊢; omega) ?_ fun ka25 tk25 hT25 hK25 hR25 => ?_
      · exact .inr ⟨by omega, by simp [Tr.get_set]⟩
      · exact tokFree_of (by repeat (first | exact (Fresh.freeT hf (by omega)) | refine FreeT.set ?_ (by omega) | refine FreeT.via (by assumption) ?_ (by omega)))
      have hN25 : ∀ q, Tr.get tk25 (σ.nb + (q + 45)) = none := fun q => hR25 (σ.nb + 43) (by
          repeat (first | exact (Fresh.freeT hf (by omega)) | refine FreeT.set ?_ (by omega) | refine FreeT.via (by assumption) ?_ (by omega))) (by omega) _ (by omega)
      simp only [↓cw_seq, ↓cw_region, ↓then_normal, ↓draw_false, ↓ow_nil, ↓ow_cons, ↓contO_eq, ↓op_move, ↓op_assign, ↓op_load, ↓op_fieldAddr, ↓op_call, vW_some, setD_some, on1_some, ldV_eq, faV_eq, callV_some, arg_val, opd, opds, rd_set, loadV, fieldAddrV, take?, undF, aggF, infF, Nat.reduceEqDiff, Nat.reduceAdd, Nat.reduceLeDiff, reduceIte, reduceCtorEq, List.length_cons, List.length_nil, List.getElem?_cons_zero, List.getElem?_cons_succ, List.cons_append, List.nil_append, List.append_nil, List.drop_succ_cons, List.drop_zero, List.take_succ_cons, List.take_zero, Nat.zero_add, St.bump, Tr.get_set, Nat.add_assoc, List.size_toArray, r3, List.append_assoc]
      refine lay_step Hb ?_ fun kb sb hkb2 => ?_
      · exact tokFree_of (by repeat (first | exact (Fresh.freeT hf (by omega)) | refine FreeT.set ?_ (by omega) | refine FreeT.via (by assumption) ?_ (by omega)))
      simp only [↓ow_cons, ↓contO_eq, ↓op_call, setD_some, arg_blt, opd, opds, rd_set, bltV, undF, Nat.reduceEqDiff, Nat.reduceAdd, reduceIte, Nat.add_assoc]
      refine app_any (bs := bs ++ ((op : Int) :: (res :: []))) (zs := b.enc) ?_ (by omega) (by simp at hlen ⊢; omega) ?_ fun ka26 tk26 hT26 hK26 hR26 => ?_
      · exact hT25.as2 (by simp) (by omega)
      · exact tokFree_of (by repeat (first | exact (Fresh.freeT hf (by omega)) | refine FreeT.set ?_ (by omega) | refine FreeT.via (by assumption) ?_ (by omega)))
      have hN26 : ∀ q, Tr.get tk26 (σ.nb + (q + 51)) = none := fun q => hR26 (σ.nb + 49) (by
          repeat (first | exact (Fresh.freeT hf (by omega)) | refine FreeT.set ?_ (by omega) | refine FreeT.via (by assumption) ?_ (by omega))) (by omega) _ (by omega)
      simp only [↓cw_seq, ↓cw_cond, ↓cw_region, ↓then_normal, ↓draw_false, ↓ow_nil, ↓ow_cons, ↓contO_eq, ↓op_assign, ↓op_load, ↓op_binOp, ↓op_fieldAddr, ↓op_call, vW_some, pW_some, ifW_some, setD_some, on1_some, on2_some, ldV_eq, biV_eq, faV_eq, arg_blt, opd, opds, ofConst, leaf, pureV, rd_set, binV, intV, isConst, bltV, lenV, loadV, fieldAddrV, take?, undF, aggF, infF, Nat.reduceEqDiff, Nat.reduceAdd, Nat.reduceLeDiff, reduceIte, reduceCtorEq, Bool.or_true, List.length_cons, List.length_nil, List.getElem?_cons_zero, List.getElem?_cons_succ, List.cons_append, List.nil_append, List.drop_succ_cons, List.drop_zero, List.take_succ_cons, List.take_zero, Nat.zero_add, St.bump, Tr.get_set, Nat.add_assoc, List.size_toArray, List.append_assoc, L.len_av]
      by_cases hel : e.len = 0
      · have hd : decide ((e.len : Int) > 0) = false := decide_eq_false (by omega)
        rw [if_pos hel] at hQ hlen
        simp only [↓cw_skip, ↓cw_region, ↓then_normal, ↓ow_cons, ↓contO_eq, ↓op_move, ↓op_buildSlice, ↓op_call, ↓force_DC, vW_some, pW_some, bW_false, setD_some, bldS, arg_blt, opd, opds, ofConst, leaf, rd_set, bltV, fillV, parts, put, flat, AV.cells, AV.strip, undF, aggF, infF, Nat.reduceEqDiff, Nat.reduceAdd, Nat.reduceMul, Nat.reduceLeDiff, ne_eq, not_false_eq_true, reduceIte, reduceCtorEq, List.length_cons, List.length_nil, List.append_nil, List.take_succ_cons, List.take_zero, List.set_cons_zero, List.map_cons, List.map_nil, Nat.zero_add, and_self, newTok, Nat.add_assoc, or_true, List.headD_cons, tokFree, buildSliceV, repeatCells, chunk, List.size_toArray, r3, hN26, hd]
        refine app_any (bs := bs ++ ((op : Int) :: (res :: b.enc))) (zs := [11]) ?_ (by omega) (by simp at hlen ⊢; omega) ?_ fun ka27 tk27 hT27 hK27 hR27 => ?_
        · exact hT26.as2 (by simp) (by omega)
        · exact tokFree_of (by repeat (first | exact (Fresh.freeT hf (by omega)) | refine FreeT.set ?_ (by omega) | refine FreeT.via (by assumption) ?_ (by omega)))
        have hN27 : ∀ q, Tr.get tk27 (σ.nb + (q + 59)) = none := fun q => hR27 (σ.nb + 57) (by
            repeat (first | exact (Fresh.freeT hf (by omega)) | refine FreeT.set ?_ (by omega) | refine FreeT.via (by assumption) ?_ (by omega))) (by omega) _ (by omega)
        simp only [↓block_normal, ↓draw_false, ↓ow_nil, ↓ow_cons, ↓contO_eq, ↓op_assign, vW_some, setD_some, opd, rd_set, Nat.reduceEqDiff, Nat.reduceAdd, reduceIte, List.cons_append, St.bump, Nat.add_assoc, List.append_assoc]
        refine hQ _ _ _ ?_ (hT27.as (by simp)) (by simp only; omega) ?_ ?_ ?_
        · first | exact Fresh.of (by repeat (first | exact (Fresh.freeH hf (by omega)) | refine FreeH.set ?_ (by omega))) (by repeat (first | exact (Fresh.freeT hf (by omega)) | refine FreeT.set ?_ (by omega) | refine FreeT.via (by assumption) ?_ (by omega)))
        · simp only [rd_set, reduceIte, reduceCtorEq, r0]
        · simp only [rd_set, Nat.reduceEqDiff, reduceIte, List.cons_append, List.append_nil, r3]
        · simp only [rd_set, Nat.reduceEqDiff, reduceIte, r4]
      · have hd : decide ((e.len : Int) > 0) = true := decide_eq_true (by omega)
        rw [if_neg hel] at hQ hlen
        simp only [↓cw_region, ↓ow_cons, ↓contO_eq, ↓op_move, ↓op_buildSlice, ↓op_call, ↓force_DC, vW_some, pW_some, bW_true, setD_some, bldS, arg_blt, opd, opds, ofConst, leaf, rd_set, bltV, fillV, parts, put, flat, AV.cells, AV.strip, undF, aggF, infF, Nat.reduceEqDiff, Nat.reduceAdd, Nat.reduceMul, Nat.reduceLeDiff, ne_eq, not_false_eq_true, reduceIte, reduceCtorEq, List.length_cons, List.length_nil, List.append_nil, List.take_succ_cons, List.take_zero, List.set_cons_zero, List.map_cons, List.map_nil, Nat.zero_add, and_self, newTok, Nat.add_assoc, or_true, List.headD_cons, tokFree, buildSliceV, repeatCells, chunk, List.size_toArray, r3, hN26, hd]
        refine app_any (bs := bs ++ ((op : Int) :: (res :: b.enc))) (zs := [5]) ?_ (by omega) (by simp at hlen ⊢; omega) ?_ fun ka28 tk28 hT28 hK28 hR28 => ?_
        · exact hT26.as2 (by simp) (by omega)
        · exact tokFree_of (by repeat (first | exact (Fresh.freeT hf (by omega)) | refine FreeT.set ?_ (by omega) | refine FreeT.via (by assumption) ?_ (by omega)))
        have hN28 : ∀ q, Tr.get tk28 (σ.nb + (q + 59)) = none := fun q => hR28 (σ.nb + 57) (by
            repeat (first | exact (Fresh.freeT hf (by omega)) | refine FreeT.set ?_ (by omega) | refine FreeT.via (by assumption) ?_ (by omega))) (by omega) _ (by omega)
        simp only [↓ow_cons, ↓contO_eq, ↓op_load, ↓op_fieldAddr, ↓op_call, vW_some, setD_some, on1_some, ldV_eq, faV_eq, callV_some, arg_val, opd, opds, rd_set, loadV, fieldAddrV, take?, undF, aggF, infF, Nat.reduceEqDiff, Nat.reduceAdd, Nat.reduceLeDiff, reduceIte, reduceCtorEq, List.length_cons, List.length_nil, List.getElem?_cons_zero, List.getElem?_cons_succ, List.cons_append, List.append_nil, List.drop_succ_cons, List.drop_zero, List.take_succ_cons, List.take_zero, Nat.zero_add, Tr.get_set, List.append_assoc]
        refine lay_step He ?_ fun ke se hke2 => ?_
        · exact tokFree_of (by repeat (first | exact (Fresh.freeT hf (by omega)) | refine FreeT.set ?_ (by omega) | refine FreeT.via (by assumption) ?_ (by omega)))
        simp only [↓ow_cons, ↓contO_eq, ↓op_call, setD_some, arg_blt, opd, opds, rd_set, bltV, undF, Nat.reduceEqDiff, Nat.reduceAdd, reduceIte, Nat.add_assoc]
        refine app_any (bs := bs ++ ((op : Int) :: (res :: (b.enc ++ (5 :: []))))) (zs := e.enc) ?_ (by omega) (by simp at hlen ⊢; omega) ?_ fun ka29 tk29 hT29 hK29 hR29 => ?_
        · exact hT28.as2 (by simp) (by omega)
        · exact tokFree_of (by repeat (first | exact (Fresh.freeT hf (by omega)) | refine FreeT.set ?_ (by omega) | refine FreeT.via (by assumption) ?_ (by omega)))
        have hN29 : ∀ q, Tr.get tk29 (σ.nb + (q + 63)) = none := fun q => hR29 (σ.nb + 61) (by
            repeat (first | exact (Fresh.freeT hf (by omega)) | refine FreeT.set ?_ (by omega) | refine FreeT.via (by assumption) ?_ (by omega))) (by omega) _ (by omega)
        simp only [↓cw_region, ↓then_normal, ↓draw_true, ↓ow_nil, ↓ow_cons, ↓contO_eq, ↓op_move, ↓op_assign, ↓op_buildSlice, ↓op_call, ↓force_DQ, vW_some, pW_some, bW_false, setD_some, bldS, arg_blt, opd, opds, ofConst, leaf, rd_set, bltV, fillV, parts, put, flat, AV.cells, AV.strip, hasStore, isStore, undF, aggF, infF, Nat.reduceEqDiff, Nat.reduceAdd, Nat.reduceMul, Nat.reduceLeDiff, ne_eq, not_false_eq_true, reduceIte, reduceCtorEq, Bool.or_false, List.any, List.length_cons, List.length_nil, List.cons_append, List.nil_append, List.append_nil, List.take_succ_cons, List.take_zero, List.set_cons_zero, List.map_cons, List.map_nil, Nat.zero_add, and_self, newTok, St.bump, Nat.add_assoc, or_true, List.headD_cons, tokFree, buildSliceV, repeatCells, chunk, List.size_toArray, r3, List.append_assoc, hN29]
        refine app_any (bs := bs ++ ((op : Int) :: (res :: (b.enc ++ (5 :: e.enc))))) (zs := [11]) ?_ (by omega) (by simp at hlen ⊢; omega) ?_ fun ka30 tk30 hT30 hK30 hR30 => ?_
        · exact hT29.as2 (by simp) (by omega)
        · exact tokFree_of (by repeat (first | exact (Fresh.freeT hf (by omega)) | refine FreeT.set ?_ (by omega) | refine FreeT.via (by assumption) ?_ (by omega)))
        have hN30 : ∀ q, Tr.get tk30 (σ.nb + (q + 67)) = none := fun q => hR30 (σ.nb + 65) (by
            repeat (first | exact (Fresh.freeT hf (by omega)) | refine FreeT.set ?_ (by omega) | refine FreeT.via (by assumption) ?_ (by omega))) (by omega) _ (by omega)
        simp only [↓block_normal, ↓draw_false, ↓ow_nil, ↓ow_cons, ↓contO_eq, ↓op_assign, vW_some, setD_some, opd, rd_set, Nat.reduceEqDiff, Nat.reduceAdd, reduceIte, List.cons_append, St.bump, Nat.add_assoc, List.append_assoc]
        refine hQ _ _ _ ?_ (hT30.as (by simp)) (by simp only; omega) ?_ ?_ ?_
        · first | exact Fresh.of (by repeat (first | exact (Fresh.freeH hf (by omega)) | refine FreeH.set ?_ (by omega))) (by repeat (first | exact (Fresh.freeT hf (by omega)) | refine FreeT.set ?_ (by omega) | refine FreeT.via (by assumption) ?_ (by omega)))
        · simp only [rd_set, reduceIte, reduceCtorEq, r0]
        · simp only [rd_set, Nat.reduceEqDiff, reduceIte, List.cons_append, r3, List.append_assoc]
        · simp only [rd_set, Nat.reduceEqDiff, reduceIte, r4]
  · have hE : encF 8 n al off res ls b.enc e.enc e.len = encU (fw .u64 (fw .i64 ((ls.length : Int) - 1))).toNat ++ ls.flatMap (fun x => encU x.toNat) := by simp [encF]
    rw [hE] at hQ hlen
    have hfl := flat_len ls
    simp only [List.length_cons, List.length_append] at hlen
    simp only [↓cw_seq, ↓cw_block, ↓cw_cond, ↓cw_region, ↓then_normal, ↓draw_false, ↓ow_nil, ↓ow_cons, ↓contO_eq, ↓op_move, ↓op_assign, ↓op_load, ↓op_binOp, ↓op_convert, ↓op_fieldAddr, ↓op_call, ↓force_DC, vW_some, pW_some, bW_true, bW_false, ifW_some, setD_some, on1_some, on2_some, ldV_eq, biV_eq, faV_eq, callV_some, arg_blt, arg_val, opd, opds, ofConst, leaf, pureV, rd_set, binV, intV, convV, isConst, bltV, lenV, loadV, fieldAddrV, take?, undF, aggF, infF, Nat.reduceEqDiff, Nat.reduceAdd, Nat.reduceLeDiff, reduceIte, reduceCtorEq, Bool.or_true, List.length_cons, List.length_nil, List.getElem?_cons_zero, List.getElem?_cons_succ, List.append_nil, List.drop_succ_cons, List.drop_zero, List.take_succ_cons, List.take_zero, Int.reduceBEq, beq_self_eq_true, Nat.zero_add, St.bump, Tr.get_set, Nat.add_assoc, List.size_toArray, r3, Int.cast_ofNat_Int, u32s_len]
    rw [fw_u64_nat _]
    refine pc36.call rfl (w_rputU _ (fw_u64_lt _) (by simp at hlen ⊢; omega)) ?_
    simp only [↓ow_cons, ↓contO_eq, ↓op_call, setD_some, arg_blt, opd, opds, rd_set, bltV, undF, Nat.reduceEqDiff, Nat.reduceAdd, reduceIte]
    refine app_any (bs := bs ++ ((op : Int) :: [])) (zs := encU (fw .u64 (fw .i64 ((ls.length : Int) - 1))).toNat) ?_ (by omega) (by simp at hlen ⊢; omega) ?_ fun ka31 tk31 hT31 hK31 hR31 => ?_
    · exact .inr ⟨by omega, by simp [Tr.get_set]⟩
    · exact tokFree_of (by repeat (first | exact (Fresh.freeT hf (by omega)) | refine FreeT.set ?_ (by omega) | refine FreeT.via (by assumption) ?_ (by omega)))
    have hN31 : ∀ q, Tr.get tk31 (σ.nb + (q + 47)) = none := fun q => hR31 (σ.nb + 45) (by
        repeat (first | exact (Fresh.freeT hf (by omega)) | refine FreeT.set ?_ (by omega) | refine FreeT.via (by assumption) ?_ (by omega))) (by omega) _ (by omega)
    simp only [↓cw_seq, ↓cw_block, ↓cw_region, ↓then_normal, ↓draw_false, ↓ow_nil, ↓ow_cons, ↓contO_eq, ↓op_assign, vW_some, setD_some, opd, ofConst, leaf, rd_set, Nat.reduceEqDiff, Nat.reduceAdd, reduceIte, List.length_cons, List.length_nil, List.cons_append, List.nil_append, Nat.zero_add, St.bump, Nat.add_assoc, List.size_toArray, List.append_assoc]
    refine loop22b l i ls (σ.nb + 4) [.i .u8 op, .i .i64 n, .i .u32 al, .i .u32 off, .i .u8 res, .sl b.av 0, .sl e.av 0, .sl (u32s ls) 0] rfl (bs ++ (op : Int) :: (encU (fw .u64 (fw .i64 ((ls.length : Int) - 1))).toNat ++ ls.flatMap (fun x => encU x.toNat))) _ (by omega) ls 0 (bs ++ (op : Int) :: encU (fw .u64 (fw .i64 ((ls.length : Int) - 1))).toNat) ka31 _ _ rfl hls ?_ ?_ ?_ ?_ ?_ ?_ ?_ ?_ ?_ ?_ ?_ ?_ fun ka fr2 σ2 hf2 hk2 hkn2 q0 q3 q4 => ?_
    · first | exact Fresh.of (by repeat (first | exact (Fresh.freeH hf (by omega)) | refine FreeH.set ?_ (by omega))) (by repeat (first | exact (Fresh.freeT hf (by omega)) | refine FreeT.set ?_ (by omega) | refine FreeT.via (by assumption) ?_ (by omega)))
    · simp only; omega
    · simp only [reduceIte, Tr.get_set]
    · exact hT31.as (by simp)
    · simp only; omega
    · simp only [List.length_append, List.length_cons]; omega
    · simp
    · simp only [rd_set, reduceIte, reduceCtorEq, r0]
    · simp only [rd_set, Nat.reduceEqDiff, reduceIte]
    · simp only [rd_set, Nat.reduceEqDiff, reduceIte, r4]
    · simp only [rd_set, Nat.reduceEqDiff, reduceIte]
    · simp only [rd_set, Nat.reduceEqDiff, reduceIte]
      rfl
    simp only [↓block_normal, ↓force_DQ, block_exit, bW_true, nbeq, beq_self_eq_true]
    exact hQ _ _ _ hf2 hk2 hkn2 q0 q3 q4
  · have hE : encF 9 n al off res ls b.enc e.enc e.len = encU (fw .u64 n).toNat ++ [0] := by simp [encF]
    rw [hE] at hQ hlen
    simp only [↓cw_seq, ↓cw_block, ↓cw_cond, ↓cw_region, ↓then_normal, ↓draw_false, ↓ow_nil, ↓ow_cons, ↓contO_eq, ↓op_move, ↓op_assign, ↓op_load, ↓op_binOp, ↓op_convert, ↓op_fieldAddr, ↓op_call, ↓force_DC, vW_some, bW_true, bW_false, ifW_some, setD_some, on1_some, on2_some, ldV_eq, biV_eq, faV_eq, callV_some, arg_val, opd, opds, ofConst, leaf, rd_set, binV, intV, convV, isConst, loadV, fieldAddrV, take?, undF, aggF, infF, Nat.reduceEqDiff, Nat.reduceAdd, Nat.reduceLeDiff, reduceIte, reduceCtorEq, Bool.or_true, List.length_cons, List.length_nil, List.getElem?_cons_zero, List.getElem?_cons_succ, List.append_nil, List.drop_succ_cons, List.drop_zero, List.take_succ_cons, List.take_zero, Int.reduceBEq, beq_self_eq_true, Nat.zero_add, St.bump, Tr.get_set, Nat.add_assoc, List.size_toArray, r3, Int.cast_ofNat_Int]
    rw [fw_u64_nat n]
    refine pc36.call rfl (w_rputU _ (fw_u64_lt n) (by simp at hlen ⊢; omega)) ?_
    simp only [↓ow_cons, ↓contO_eq, ↓op_call, setD_some, arg_blt, opd, opds, rd_set, bltV, undF, Nat.reduceEqDiff, Nat.reduceAdd, reduceIte]
    refine app_any (bs := bs ++ ((op : Int) :: [])) (zs := encU (fw .u64 n).toNat) ?_ (by omega) (by simp at hlen ⊢; omega) ?_ fun ka32 tk32 hT32 hK32 hR32 => ?_
    · exact .inr ⟨by omega, by simp [Tr.get_set]⟩
    · exact tokFree_of (by repeat (first | exact (Fresh.freeT hf (by omega)) | refine FreeT.set ?_ (by omega) | refine FreeT.via (by assumption) ?_ (by omega)))
    have hN32 : ∀ q, Tr.get tk32 (σ.nb + (q + 47)) = none := fun q => hR32 (σ.nb + 45) (by
        repeat (first | exact (Fresh.freeT hf (by omega)) | refine FreeT.set ?_ (by omega) | refine FreeT.via (by assumption) ?_ (by omega))) (by omega) _ (by omega)
    simp only [↓ow_cons, ↓contO_eq, ↓op_buildSlice, ↓op_call, pW_some, setD_some, bldS, arg_blt, opd, opds, ofConst, leaf, rd_set, bltV, fillV, parts, put, flat, AV.cells, AV.strip, undF, aggF, infF, Nat.reduceEqDiff, Nat.reduceAdd, Nat.reduceMul, Nat.reduceLeDiff, ne_eq, not_false_eq_true, reduceIte, reduceCtorEq, List.length_cons, List.length_nil, List.cons_append, List.nil_append, List.append_nil, List.take_succ_cons, List.take_zero, List.set_cons_zero, List.map_cons, List.map_nil, Nat.zero_add, and_self, newTok, Nat.add_assoc, or_true, List.headD_cons, tokFree, buildSliceV, repeatCells, chunk, List.append_assoc, hN32]
    refine app_any (bs := bs ++ ((op : Int) :: encU (fw .u64 n).toNat)) (zs := [0]) ?_ (by omega) (by simp at hlen ⊢; omega) ?_ fun ka33 tk33 hT33 hK33 hR33 => ?_
    · exact hT32.as2 (by simp) (by omega)
    · exact tokFree_of (by repeat (first | exact (Fresh.freeT hf (by omega)) | refine FreeT.set ?_ (by omega) | refine FreeT.via (by assumption) ?_ (by omega)))
    have hN33 : ∀ q, Tr.get tk33 (σ.nb + (q + 49)) = none := fun q => hR33 (σ.nb + 47) (by
        repeat (first | exact (Fresh.freeT hf (by omega)) | refine FreeT.set ?_ (by omega) | refine FreeT.via (by assumption) ?_ (by omega))) (by omega) _ (by omega)
    simp only [↓block_normal, ↓draw_false, ↓ow_nil, ↓ow_cons, ↓contO_eq, ↓op_assign, vW_some, setD_some, opd, rd_set, Nat.reduceEqDiff, Nat.reduceAdd, reduceIte, List.cons_append, St.bump, Nat.add_assoc, List.append_assoc]
    refine hQ _ _ _ ?_ (hT33.as (by simp)) (by simp only; omega) ?_ ?_ ?_
    · first | exact Fresh.of (by repeat (first | exact (Fresh.freeH hf (by omega)) | refine FreeH.set ?_ (by omega))) (by repeat (first | exact (Fresh.freeT hf (by omega)) | refine FreeT.set ?_ (by omega) | refine FreeT.via (by assumption) ?_ (by omega)))
    · simp only [rd_set, reduceIte, reduceCtorEq, r0]
    · simp only [rd_set, Nat.reduceEqDiff, reduceIte, r3]
    · simp only [rd_set, Nat.reduceEqDiff, reduceIte, r4]

theorem loop22 (l : L) (N : Nat) (H : ∀ l' : L, l'.sz < N → l'.wf → l'.each = true → LayN l') (bs0 : List Int) (Q : Ex → Fr → St → Prop) (hN : N < 4611686018427387904) (hb : l.sz ≤ N)
    (hQ : ∀ κ' fr' σ', Fresh σ' → TokOk σ' bs0 κ' → κ' < σ'.nb + 2 → fr'.rd 3 = .sl (u8s bs0) κ' → Q (.exit 0) fr' σ') :
    ∀ (r : L) i bs κ fr σ, l.av.drop i = r.av → i + r.len = l.len → r.wf → r.each = true → r.sz ≤ N → Fresh σ → TokOk σ bs κ → κ < σ.nb + 2 → bs.length + r.enc.length < 1099511610000 → bs ++ r.enc = bs0 →
      fr.rd 0 = .sl l.av 0 → fr.rd 3 = .sl (u8s bs) κ → fr.rd 4 = .i .i64 i → CodeW TS K22 fr σ Q := by
  have hsl : l.len ≤ l.sz := Nat.le_trans (L.len_cnt l) (L.cnt_sz l)
  intro r
  induction r with
  | nil =>
    intro i bs κ fr σ hd hi hw he hs hf hk hkn hlen hbs r0 r3 r4
    simp only [L.len] at hi
    have hlt : decide ((i : Int) < l.len) = false := decide_eq_false (by omega)
    simp only [K22, fb, Tryd.f22, cl, cr, Option.getD]
    rw [cw_loop]
    simp only [↓cw_exit, ↓cw_seq, ↓cw_cond, ↓cw_region, ↓then_normal, ↓then_exit, ↓draw_false, ↓ow_nil, ↓ow_cons, ↓contO_eq, ↓op_move, ↓op_binOp, ↓op_call, ↓force_DC, vW_some, pW_some, bW_false, ifW_some, setD_some, on2_some, biV_eq, arg_blt, opd, opds, pureV, rd_set, binV, intV, isConst, bltV, lenV, undF, Nat.reduceEqDiff, Nat.reduceAdd, reduceIte, reduceCtorEq, Bool.or_false, List.length_cons, List.length_nil, Nat.zero_add, St.bump, List.size_toArray, r0, r4, L.len_av, hlt]
    simp only [L.enc, List.append_nil] at hbs
    refine hQ κ _ _ ?_ (hbs ▸ hk) (by simp only; omega) ?_
    · first | exact Fresh.of (by repeat (first | exact (Fresh.freeH hf (by omega)) | refine FreeH.set ?_ (by omega))) (by repeat (first | exact (Fresh.freeT hf (by omega)) | refine FreeT.set ?_ (by omega) | refine FreeT.via (by assumption) ?_ (by omega)))
    · simp only [rd_set, Nat.reduceEqDiff, reduceIte, r3, hbs]
  | cons op n al off res b e ls r ihb ihe ih =>
    intro i bs κ fr σ hd hi hw he hs hf hk hkn hlen hbs r0 r3 r4
    obtain ⟨hx, h2', h3⟩ := drop_cons hd
    simp only [L.len] at hi
    simp only [L.sz] at hs
    simp only [L.enc, List.length_append] at hlen
    simp only [L.enc] at hbs
    simp only [L.each, Bool.and_eq_true] at he
    obtain ⟨hm, heb, hee, her⟩ := he
    obtain ⟨hop, hn, hal, hoff, hres, hbw, hew, hlw, hrw⟩ := hw
    have hlt : decide ((i : Int) < l.len) = true := decide_eq_true (by omega)
    obtain ⟨f, hfn, h8⟩ : ∃ f, formN op = some f ∧ (f = 8 → 0 < ls.length ∧ ls.length ≤ 257) := by
      unfold mayI at hm
      cases hfn : formN op with
      | none => simp [hfn] at hm
      | some f =>
        refine ⟨f, rfl, fun h => ?_⟩
        subst h
        simp only [hfn, Bool.and_eq_true] at hm
        have := hm.2
        simp [mayR] at this
        exact this
    rw [K22_eq, cw_loop, cw_seq, ← K22_eq]
    simp only [A22, fb, Tryd.f22, cl, cr, Option.getD]
    simp only [↓cw_skip, ↓cw_seq, ↓cw_cond, ↓cw_region, ↓then_normal, ↓draw_false, ↓ow_nil, ↓ow_cons, ↓contO_eq, ↓op_move, ↓op_binOp, ↓op_call, ↓force_DC, vW_some, pW_some, bW_true, ifW_some, setD_some, on2_some, biV_eq, arg_blt, opd, opds, pureV, rd_set, binV, intV, isConst, bltV, lenV, undF, Nat.reduceEqDiff, Nat.reduceAdd, reduceIte, reduceCtorEq, Bool.or_false, List.length_cons, List.length_nil, Nat.zero_add, St.bump, List.size_toArray, r0, r4, L.len_av, hlt]
    refine body22 l op hop n al off res b e ls hn hal hoff hres hlw f hfn h8 (H b (by omega) hbw heb) (H e (by omega) hew hee) i hx bs κ _ _ _ ?_ ?_ ?_ (by omega) ?_ ?_ ?_ fun κ' fr' σ' hf' hk' hkn' q0 q3 q4 => ?_
    · first | exact Fresh.of (by repeat (first | exact (Fresh.freeH hf (by omega)) | refine FreeH.set ?_ (by omega))) (by repeat (first | exact (Fresh.freeT hf (by omega)) | refine FreeT.set ?_ (by omega) | refine FreeT.via (by assumption) ?_ (by omega)))
    · exact hk
    · simp only; omega
    · simp only [rd_set, reduceIte, reduceCtorEq, r0]
    · simp only [rd_set, Nat.reduceEqDiff, reduceIte, r3]
    · simp only [rd_set, Nat.reduceEqDiff, reduceIte, r4]
    simp only [D22, fb, Tryd.f22, cl, cr, Option.getD]
    simp only [↓cw_region, ↓then_normal, ↓draw_false, ↓ow_nil, ↓ow_cons, ↓contO_eq, ↓op_move, ↓op_assign, ↓op_binOp, vW_some, setD_some, on2_some, biV_eq, opd, ofConst, leaf, rd_set, binV, intV, isConst, Nat.reduceEqDiff, Nat.reduceAdd, reduceIte, Bool.or_true, List.length_cons, List.length_nil, Nat.zero_add, St.bump, List.size_toArray, q4, fw_add1 (n := i) (by omega)]
    refine ih (i + 1) (bs ++ encI op n al off res ls b.enc e.enc e.len) κ' _ _ h2' (by omega) hrw her (by omega) ?_ ?_ ?_ ?_ ?_ ?_ ?_ ?_
    · first | exact Fresh.of (by repeat (first | exact (Fresh.freeH hf' (by omega)) | refine FreeH.set ?_ (by omega))) (by repeat (first | exact (Fresh.freeT hf' (by omega)) | refine FreeT.set ?_ (by omega) | refine FreeT.via (by assumption) ?_ (by omega)))
    · exact hk'
    · simp only; omega
    · simp only [List.length_append]; omega
    · rw [← hbs]; simp
    · simp only [rd_set, reduceIte, reduceCtorEq, q0]
    · simp only [rd_set, Nat.reduceEqDiff, reduceIte, q3]
    · simp only [rd_set, Nat.reduceEqDiff, reduceIte, q4]

theorem w_rlay : ∀ N (l : L), l.sz < N → N ≤ 1048577 → l.wf → l.each = true → LayN l := by
  intro N
  induction N with
  | zero => intro l h; omega
  | succ N ihN =>
    intro l hl hN hw he
    have hle := L.enc_le l hw
    have main : ∀ (Q : AV → St → Prop), (∀ κ σ, TokOk σ l.enc κ → Q (.sl (u8s l.enc) κ) σ) → CallW TS 22 [.sl l.av 0] St.start Q := fun Q hQ => by
      refine callW_of ft22 rfl (Nat.le_of_ble_eq_true rfl) ?_
      have hf : Fresh St.start := Fresh.start
      generalize St.start = σ at hf
      simp only [↓cw_seq, ↓cw_block, ↓cw_region, ↓then_normal, ↓draw_false, ↓ow_nil, ↓ow_cons, ↓contO_eq, ↓op_assign, vW_some, setD_some, opd, ofConst, leaf, Fr.ofList, Nat.reduceAdd, List.length_cons, List.length_nil, Nat.zero_add, St.bump, Nat.add_assoc, List.size_toArray]
      refine loop22 l N (fun l' h' hw' he' => ihN l' h' (by omega) hw' he') l.enc _ (by omega) (by omega) (fun κ' fr' σ' hf' hk' hkn' r3 => ?_) l 0 [] 1 _ _ rfl (by omega) hw he (by omega) ?_ (.inl ⟨rfl, rfl⟩) (by simp only; omega) (by simp; omega) rfl ?_ ?_ ?_
      · simp only [↓cw_ret, ↓cw_seq, ↓cw_region, ↓then_normal, ↓draw_false, ↓ow_nil, ↓ow_cons, ↓contO_eq, ↓op_move, ↓op_assign, ↓ret_ret, ↓force_DQ, block_exit, vW_some, bW_true, setD_some, resW, nbeq, opd, rd_set, resV, Nat.reduceEqDiff, Nat.reduceAdd, reduceIte, List.length_cons, List.length_nil, beq_self_eq_true, Nat.zero_add, St.bump, List.size_toArray, r3, Tryd.f22]
        exact hQ _ _ (hk'.as rfl)
      · first | exact Fresh.of (by repeat (first | exact (Fresh.freeH hf (by omega)) | refine FreeH.set ?_ (by omega))) (by repeat (first | exact (Fresh.freeT hf (by omega)) | refine FreeT.set ?_ (by omega) | refine FreeT.via (by assumption) ?_ (by omega)))
      · simp only [rd_set, rd_nil, reduceIte, reduceCtorEq]
      · simp only [rd_set, rd_nil, Nat.reduceEqDiff, reduceIte, reduceCtorEq]
        rfl
      · simp only [rd_set, rd_nil, Nat.reduceEqDiff, reduceIte, reduceCtorEq]
        rfl
    cases hnil : l with
    | nil =>
      subst hnil
      refine .inl ⟨rfl, callW_of ft22 rfl (Nat.le_of_ble_eq_true rfl) ?_⟩
      simp only [↓cw_seq, ↓cw_block, ↓cw_region, ↓then_normal, ↓draw_false, ↓ow_nil, ↓ow_cons, ↓contO_eq, ↓op_assign, vW_some, setD_some, opd, ofConst, leaf, Fr.ofList, Nat.reduceAdd, List.length_cons, List.length_nil, Nat.zero_add, St.bump, Nat.add_assoc, List.size_toArray]
      rw [cw_loop]
      simp only [↓cw_ret, ↓cw_exit, ↓cw_seq, ↓cw_cond, ↓cw_region, ↓then_normal, ↓then_exit, ↓draw_false, ↓ow_nil, ↓ow_cons, ↓contO_eq, ↓op_move, ↓op_assign, ↓op_binOp, ↓op_call, ↓ret_ret, ↓force_DC, ↓force_DQ, block_exit, vW_some, pW_some, bW_true, bW_false, ifW_some, setD_some, on2_some, biV_eq, arg_blt, resW, nbeq, opd, opds, pureV, rd_set, rd_nil, binV, intV, isConst, bltV, lenV, undF, resV, Nat.reduceEqDiff, Nat.reduceAdd, reduceIte, reduceCtorEq, Bool.or_false, List.length_cons, List.length_nil, decide_false, Int.reduceLT, beq_self_eq_true, Nat.zero_add, St.bump, Nat.add_assoc, List.size_toArray, Int.natCast_zero, Tryd.f22]
    | cons op n al off res b e ls r =>
      have hne : l.enc ≠ [] := by
        subst hnil
        simp only [L.each, Bool.and_eq_true] at he
        have hm := he.1
        unfold mayI at hm
        simp only [L.enc, encI]
        split at hm
        · cases hm
        · rename_i f hfn; simp [hfn]
      rw [← hnil]
      refine .inr ⟨hne, main _ fun κ σ h => ?_⟩
      rcases h with ⟨_, h⟩ | ⟨h1, h2⟩
      · exact absurd h hne
      · exact ⟨κ, rfl, h1, goods_u8s _, h2⟩
end Go.Pv
