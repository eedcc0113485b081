/- The document's Count, and give, for all instructions. (PvZ6) -/
import Derived.Test.YtigcolhieieakaaDoorPvM8
namespace Go.Pv
open Go Go.Proofs Go.RowKit
set_option linter.unusedVariables false
set_option linter.unusedSimpArgs false
set_option maxRecDepth 100000

noncomputable def K19 : Code := cl (cr (cl (cr (cr (fb Tryd.f19)))))
theorem loop19 (l : L) (H : ∀ l' : L, l'.cnt < l.cnt → PureW TS 19 [.sl l'.av 0] (.i .i64 l'.cnt)) (Q : Ex → Fr → St → Prop) (hb : l.cnt < 4611686018427387904)
    (hQ : ∀ fr σ, fr.rd 3 = .i .i64 l.cnt → Q (.exit 0) fr σ) :
    ∀ (r : L) i (acc : Nat) fr σ, Fresh σ → l.av.drop i = r.av → acc + r.cnt = l.cnt → fr.rd 0 = .sl l.av 0 → fr.rd 3 = .i .i64 acc → fr.rd 4 = .i .i64 i → CodeW TS K19 fr σ Q := by
  have hll := L.len_cnt l
  intro r
  induction r with
  | nil =>
    intro i acc fr σ hf hd ha r0 r3 r4
    have h1 := drop_nil hd
    rw [L.len_av] at h1
    have hd : decide ((i : Int) < l.len) = false := decide_eq_false (by omega)
    simp only [K19, fb, Tryd.f19, cl, cr, Option.getD]
    rw [cw_loop]
    simp only [↓cw_exit, ↓cw_seq, ↓cw_cond, ↓cw_region, ↓then_normal, ↓then_exit, ↓draw_false, ↓ow_nil, ↓ow_cons, ↓contO_eq, ↓op_move, ↓op_binOp, ↓op_call, ↓force_DC, vW_some, pW_some, bW_false, ifW_some, setD_some, on2_some, biV_eq, arg_blt, opd, opds, pureV, rd_set, binV, intV, isConst, bltV, lenV, undF, Nat.reduceEqDiff, Nat.reduceAdd, reduceIte, reduceCtorEq, Bool.or_false, List.length_cons, List.length_nil, Nat.zero_add, St.bump, List.size_toArray, r0, r4, L.len_av, hd]
    refine hQ _ _ ?_
    simp only [L.cnt] at ha
    simp only [rd_set, Nat.reduceEqDiff, reduceIte, r3]
    rw [show acc = l.cnt from by omega]
  | cons op n al off res b e ls r ihb ihe ih =>
    intro i acc fr σ hf hd ha r0 r3 r4
    obtain ⟨h1, h2, h3⟩ := drop_cons hd
    rw [L.len_av] at h3
    have hlt : decide ((i : Int) < l.len) = true := decide_eq_true (by omega)
    have h0i : (0 : Int) ≤ i := by omega
    simp only [L.cnt] at ha
    simp only [K19, fb, Tryd.f19, cl, cr, Option.getD]
    rw [cw_loop]
    simp only [↓cw_skip, ↓cw_seq, ↓cw_block, ↓cw_cond, ↓cw_region, ↓then_normal, ↓draw_false, ↓ow_nil, ↓ow_cons, ↓contO_eq, ↓op_move, ↓op_load, ↓op_binOp, ↓op_fieldAddr, ↓op_indexAddr, ↓op_call, ↓force_DC, vW_some, pW_some, bW_true, ifW_some, setD_some, on1_some, on2_some, ldV_eq, biV_eq, faV_eq, callV_some, arg_blt, arg_val, opd, opds, ofConst, leaf, pureV, rd_set, binV, intV, isConst, bltV, lenV, idxAddrV, loadV, fieldAddrV, take?, AV.cells, undF, aggF, infF, Nat.reduceEqDiff, Nat.reduceAdd, Nat.reduceLeDiff, reduceIte, reduceCtorEq, Bool.or_false, Bool.or_true, List.length_cons, List.length_nil, List.getElem?_cons_zero, List.getElem?_cons_succ, List.append_nil, List.drop_succ_cons, List.drop_zero, List.take_succ_cons, List.take_zero, Nat.zero_add, St.bump, Int.toNat_natCast, List.size_toArray, r0, r3, r4, L.len_av, hlt, h0i, h1, iav, fw_add1 (n := acc) (by omega)]
    refine pc19.call (by simp [untok, AV.strip, Go.Pv.goods, Go.Pv.good, L.goods]) (H b (by omega)) ?_
    simp only [↓ow_cons, ↓contO_eq, ↓op_move, ↓op_load, ↓op_binOp, ↓op_fieldAddr, ↓op_indexAddr, ↓op_call, vW_some, setD_some, on1_some, on2_some, ldV_eq, biV_eq, faV_eq, callV_some, arg_val, opd, opds, rd_set, binV, intV, isConst, idxAddrV, loadV, fieldAddrV, take?, AV.cells, undF, aggF, infF, Nat.reduceEqDiff, Nat.reduceAdd, Nat.reduceLeDiff, reduceIte, reduceCtorEq, Bool.or_false, List.length_cons, List.length_nil, List.getElem?_cons_zero, List.getElem?_cons_succ, List.append_nil, List.drop_succ_cons, List.drop_zero, List.take_succ_cons, List.take_zero, Nat.zero_add, Nat.add_assoc, Int.toNat_natCast, r0, r4, h0i, h1, iav, fw_natadd (acc + 1) b.cnt (by omega)]
    refine pc19.call (by simp [untok, AV.strip, Go.Pv.goods, Go.Pv.good, L.goods]) (H e (by omega)) ?_
    simp only [↓cw_region, ↓then_normal, ↓block_normal, ↓draw_false, ↓draw_true, ↓ow_nil, ↓ow_cons, ↓contO_eq, ↓op_move, ↓op_assign, ↓op_binOp, ↓force_DQ, vW_some, bW_false, setD_some, on2_some, biV_eq, opd, ofConst, leaf, rd_set, binV, intV, isConst, hasStore, isStore, Nat.reduceEqDiff, Nat.reduceAdd, reduceIte, Bool.or_false, Bool.or_true, List.any, List.length_cons, List.length_nil, Nat.zero_add, St.bump, Nat.add_assoc, List.size_toArray, r4, fw_natadd (acc + (1 + b.cnt)) e.cnt (by omega), fw_add1 (n := i) (by omega)]
    refine ih (i + 1) (acc + 1 + b.cnt + e.cnt) _ _ ?_ h2 (by omega) ?_ ?_ ?_
    · first | exact Fresh.of (by repeat (first | exact (Fresh.freeH hf (by omega)) | refine FreeH.set ?_ (by omega))) (by repeat (first | exact (Fresh.freeT hf (by omega)) | refine FreeT.set ?_ (by omega) | refine FreeT.via (by assumption) ?_ (by omega)))
    all_goals simp only [rd_set, Nat.reduceEqDiff, reduceIte, reduceCtorEq, Nat.add_assoc, r0, r3, r4]

theorem w_rcount : ∀ n (l : L), l.cnt < n → n ≤ 4611686018427387904 → PureW TS 19 [.sl l.av 0] (.i .i64 l.cnt) := by
  intro n
  induction n with
  | zero => intro l h; omega
  | succ n ihn =>
    intro l hl hn
    unfold PureW
    refine callW_of ft19 rfl (Nat.le_of_ble_eq_true rfl) ?_
    have hf : Fresh St.start := Fresh.start
    generalize St.start = σ at hf
    simp only [↓cw_seq, ↓cw_block, ↓cw_region, ↓then_normal, ↓draw_false, ↓ow_nil, ↓ow_cons, ↓contO_eq, ↓op_assign, vW_some, setD_some, opd, ofConst, leaf, Fr.ofList, Nat.reduceAdd, List.length_cons, List.length_nil, Nat.zero_add, St.bump, Nat.add_assoc, List.size_toArray]
    refine loop19 l (fun l' h' => ihn l' (by omega) (by omega)) _ (by omega) (fun fr σ r3 => ?_) l 0 0 _ _ ?_ rfl (by omega) ?_ ?_ ?_
    · simp only [↓cw_ret, ↓cw_seq, ↓cw_region, ↓then_normal, ↓draw_false, ↓ow_nil, ↓ow_cons, ↓contO_eq, ↓op_move, ↓op_assign, ↓ret_ret, ↓force_DQ, block_exit, vW_some, bW_true, setD_some, resW, nbeq, opd, rd_set, resV, Nat.reduceEqDiff, Nat.reduceAdd, reduceIte, List.length_cons, List.length_nil, beq_self_eq_true, Nat.zero_add, List.size_toArray, r3, Tryd.f19]
      exact ⟨rfl, rfl⟩
    · first | exact Fresh.of (by repeat (first | exact (Fresh.freeH hf (by omega)) | refine FreeH.set ?_ (by omega))) (by repeat (first | exact (Fresh.freeT hf (by omega)) | refine FreeT.set ?_ (by omega) | refine FreeT.via (by assumption) ?_ (by omega)))
    all_goals simp only [rd_set, rd_nil, Nat.reduceEqDiff, reduceIte, reduceCtorEq]
    all_goals rfl

noncomputable def K15 : Code := cl (cr (cl (cr (cr (fb Tryd.f15)))))
theorem loop15 (l : L) (N : Nat) (H : ∀ l' : L, l'.sz < N → PureW TS 15 [.sl l'.av 0] (.sl l'.av 0)) (Q : Ex → Fr → St → Prop) (hN : N < 1000000000) (hb : l.sz ≤ N)
    (hQ : ∀ κ fr σ, fr.rd 3 = .sl l.av κ → Q (.exit 0) fr σ) :
    ∀ (r : L) i es κ fr σ, Fresh σ → l.av.drop i = r.av → es ++ r.av = l.av → r.sz ≤ N → TokG σ es κ 8 → κ < σ.nb + 2 → fr.rd 0 = .sl l.av 0 → fr.rd 3 = .sl es κ → fr.rd 4 = .i .i64 i → CodeW TS K15 fr σ Q := by
  have hll : l.len ≤ l.sz := Nat.le_trans (L.len_cnt l) (L.cnt_sz l)
  intro r
  induction r with
  | nil =>
    intro i es κ fr σ hf hd hes hs ht hκ r0 r3 r4
    have h1 := drop_nil hd
    rw [L.len_av] at h1
    simp only [L.av, List.append_nil] at hes
    have hd : decide ((i : Int) < l.len) = false := decide_eq_false (by omega)
    simp only [K15, fb, Tryd.f15, cl, cr, Option.getD]
    rw [cw_loop]
    simp only [↓cw_exit, ↓cw_seq, ↓cw_cond, ↓cw_region, ↓then_normal, ↓then_exit, ↓draw_false, ↓ow_nil, ↓ow_cons, ↓contO_eq, ↓op_move, ↓op_binOp, ↓op_call, ↓force_DC, vW_some, pW_some, bW_false, ifW_some, setD_some, on2_some, biV_eq, arg_blt, opd, opds, pureV, rd_set, binV, intV, isConst, bltV, lenV, undF, Nat.reduceEqDiff, Nat.reduceAdd, reduceIte, reduceCtorEq, Bool.or_false, List.length_cons, List.length_nil, Nat.zero_add, St.bump, List.size_toArray, r0, r4, L.len_av, hd]
    refine hQ κ _ _ ?_
    simp only [rd_set, Nat.reduceEqDiff, reduceIte, r3, hes]
  | cons op n al off res b e ls r ihb ihe ih =>
    intro i es κ fr σ hf hd hes hs ht hκ r0 r3 r4
    obtain ⟨h1, h2, h3⟩ := drop_cons hd
    rw [L.len_av] at h3
    have hlt : decide ((i : Int) < l.len) = true := decide_eq_true (by omega)
    have h0i : (0 : Int) ≤ i := by omega
    simp only [L.sz] at hs
    simp only [L.av] at hes
    have hlen := congrArg List.length hes
    simp only [List.length_append, List.length_cons, L.len_av] at hlen
    simp only [K15, fb, Tryd.f15, cl, cr, Option.getD]
    rw [cw_loop]
    simp only [↓cw_skip, ↓cw_seq, ↓cw_block, ↓cw_cond, ↓cw_region, ↓then_normal, ↓draw_false, ↓ow_nil, ↓ow_cons, ↓contO_eq, ↓op_move, ↓op_alloc, ↓op_load, ↓op_store, ↓op_binOp, ↓op_fieldAddr, ↓op_indexAddr, ↓op_call, ↓force_DC, vW_some, pW_some, bW_true, ifW_some, setD_some, setD_none, allocV, on1_some, on2_some, ldV_eq, stV, biV_eq, faV_eq, callV_some, arg_blt, arg_val, opd, opds, pureV, rd_set, binV, intV, isConst, bltV, lenV, idxAddrV, loadV, fieldAddrV, take?, put, flat, AV.cells, undF, aggF, infF, Nat.reduceEqDiff, Nat.reduceAdd, Nat.reduceLeDiff, reduceIte, reduceCtorEq, Bool.or_false, List.length_cons, List.length_nil, List.getElem?_cons_zero, List.getElem?_cons_succ, List.append_nil, List.drop_succ_cons, List.drop_zero, List.take_succ_cons, List.take_zero, List.set_cons_zero, List.set_cons_succ, Nat.add_zero, Nat.zero_add, and_self, newBox, St.bump, storeV, Tr.get_set, Nat.add_assoc, Int.toNat_natCast, boxFree, List.size_toArray, r0, r3, r4, L.len_av, hlt, h0i, h1, iav, hf.hb]
    refine pc15.call (by simp [untok, AV.strip, Go.Pv.goods, Go.Pv.good, L.goods]) (H b (by omega)) ?_
    simp only [↓ow_cons, ↓contO_eq, ↓op_load, ↓op_fieldAddr, ↓op_call, vW_some, setD_some, on1_some, ldV_eq, faV_eq, callV_some, arg_val, opd, opds, rd_set, loadV, fieldAddrV, take?, undF, aggF, infF, Nat.reduceEqDiff, Nat.reduceAdd, Nat.reduceLeDiff, reduceIte, reduceCtorEq, List.length_cons, List.length_nil, List.getElem?_cons_zero, List.getElem?_cons_succ, List.append_nil, List.drop_succ_cons, List.drop_zero, List.take_succ_cons, List.take_zero, Nat.zero_add, Tr.get_set]
    refine pc15.call (by simp [untok, AV.strip, Go.Pv.goods, Go.Pv.good, L.goods]) (H e (by omega)) ?_
    simp only [↓ow_cons, ↓contO_eq, ↓op_build, ↓op_buildSlice, ↓op_load, ↓op_fieldAddr, ↓op_call, vW_some, pW_some, setD_some, bldV, bldS, on1_some, ldV_eq, faV_eq, arg_blt, opd, opds, rd_set, bltV, loadV, fieldAddrV, take?, buildV, places, fillV, parts, put, flat, AV.cells, AV.strip, AV.strip0, undF, aggF, infF, Nat.reduceEqDiff, Nat.reduceAdd, Nat.reduceMul, Nat.reduceLeDiff, ne_eq, not_false_eq_true, reduceIte, reduceCtorEq, List.length_cons, List.length_nil, List.getElem?_cons_zero, List.getElem?_cons_succ, List.append_nil, List.drop_succ_cons, List.drop_zero, List.take_succ_cons, List.take_zero, List.set_cons_zero, List.set_cons_succ, List.map_cons, List.map_nil, Nat.zero_add, and_self, newTok, Tr.get_set, Nat.add_assoc, or_false, List.headD_cons, tokFree, buildSliceV, repeatCells, chunk, hf.tb]
    refine app_gen u24 i42 a42 ?_ (by decide) (by decide) rfl ?_ ?_ ?_ fun X hX hX2 => ?_
    · refine TokG.keep (σ := σ) ht ?_
      simp only [Tr.get_set]
      rw [if_neg (by omega)]
    · exact head_iav (r := .cons op n al off res b e ls r) (l := l) hes
    · simp only; omega
    · exact tokFree_of (by repeat (first | exact (Fresh.freeT hf (by omega)) | refine FreeT.set ?_ (by omega) | refine FreeT.via (by assumption) ?_ (by omega)))
    simp only [↓cw_region, ↓then_normal, ↓block_normal, ↓draw_false, ↓draw_true, ↓ow_nil, ↓ow_cons, ↓contO_eq, ↓op_move, ↓op_assign, ↓op_binOp, ↓force_DQ, vW_some, bW_false, setD_some, on2_some, biV_eq, opd, ofConst, leaf, rd_set, binV, intV, isConst, AV.strip, AV.strip0, hasStore, isStore, Nat.reduceEqDiff, Nat.reduceAdd, reduceIte, Bool.or_false, Bool.or_true, List.any, List.length_cons, List.length_nil, List.map_cons, List.map_nil, Nat.zero_add, St.bump, Nat.add_assoc, List.size_toArray, r4, fw_add1 (n := i) (by omega)]
    refine ih (i + 1) (es ++ [iav op n al off res b.av e.av (u32s ls)]) (σ.nb + 33) _ _ ?_ h2 ?_ (by omega) ?_ ?_ ?_ ?_ ?_
    · first | exact Fresh.of (by repeat (first | exact (Fresh.freeH hf (by omega)) | refine FreeH.set ?_ (by omega))) (by repeat (first | exact (Fresh.freeT hf (by omega)) | refine FreeT.set ?_ (by omega) | refine FreeT.via (by assumption) ?_ (by omega)))
    · rw [List.append_assoc]; exact hes
    · exact .inr ⟨by omega, by simp [Tr.get_set]⟩
    · simp only; omega
    all_goals simp only [rd_set, Nat.reduceEqDiff, reduceIte, reduceCtorEq, r0, r3, r4, iav]

theorem w_give : ∀ N (l : L), l.sz < N → N ≤ 1000000000 → PureW TS 15 [.sl l.av 0] (.sl l.av 0) := by
  intro N
  induction N with
  | zero => intro l h; omega
  | succ N ihN =>
    intro l hl hN
    unfold PureW
    refine callW_of ft15 rfl (Nat.le_of_ble_eq_true rfl) ?_
    have hf : Fresh St.start := Fresh.start
    generalize St.start = σ at hf
    simp only [↓cw_seq, ↓cw_block, ↓cw_region, ↓then_normal, ↓draw_false, ↓ow_nil, ↓ow_cons, ↓contO_eq, ↓op_assign, vW_some, setD_some, opd, ofConst, leaf, Fr.ofList, Nat.reduceAdd, List.length_cons, List.length_nil, Nat.zero_add, St.bump, Nat.add_assoc, List.size_toArray]
    refine loop15 l N (fun l' h' => ihN l' h' (by omega)) _ (by omega) (by omega) (fun κ fr σ r3 => ?_) l 0 [] 1 _ _ ?_ rfl rfl (by omega) (.inl ⟨rfl, rfl⟩) (by simp only; omega) ?_ ?_ ?_
    · simp only [↓cw_ret, ↓cw_seq, ↓cw_region, ↓then_normal, ↓draw_false, ↓ow_nil, ↓ow_cons, ↓contO_eq, ↓op_move, ↓op_assign, ↓ret_ret, ↓force_DQ, block_exit, vW_some, bW_true, setD_some, resW, nbeq, opd, rd_set, resV, Nat.reduceEqDiff, Nat.reduceAdd, reduceIte, List.length_cons, List.length_nil, beq_self_eq_true, Nat.zero_add, List.size_toArray, r3, Tryd.f15]
      exact ⟨rfl, by simp [Go.Pv.good, L.goods]⟩
    · first | exact Fresh.of (by repeat (first | exact (Fresh.freeH hf (by omega)) | refine FreeH.set ?_ (by omega))) (by repeat (first | exact (Fresh.freeT hf (by omega)) | refine FreeT.set ?_ (by omega) | refine FreeT.via (by assumption) ?_ (by omega)))
    all_goals simp only [rd_set, rd_nil, Nat.reduceEqDiff, reduceIte, reduceCtorEq]
    all_goals rfl
end Go.Pv
