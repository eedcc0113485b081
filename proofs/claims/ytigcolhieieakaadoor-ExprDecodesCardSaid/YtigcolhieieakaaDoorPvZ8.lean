/- lays, Encode, for all instructions. (PvZ6) -/
import Derived.Test.YtigcolhieieakaaDoorPvZ7
namespace Go.Pv
open Go Go.Proofs Go.RowKit
set_option linter.unusedVariables false
set_option linter.unusedSimpArgs false
set_option maxRecDepth 100000

noncomputable def K30 : Code := cl (cr (cl (cr (fb Tryd.f30))))
theorem loop30 (l : L) (N : Nat) (H : ∀ l' : L, l'.sz < N → l'.wf → LaysOk l') (bs0 : List Int) (σ0 : St) (Q : Ex → Fr → St → Prop) (hN : N < 4611686018427387904) (hb : l.sz ≤ N) :
    ∀ (r : L) i bs κ fr σ, l.av.drop i = r.av → i + r.len = l.len → r.wf → r.sz ≤ N → Fresh σ → σ0.nb ≤ σ.nb → (∀ l, l < σ0.nb → Tr.get σ.h l = Tr.get σ0.h l) → TokOk σ bs κ → κ < σ.nb + 2 → bs.length + r.enc.length < 1099511610000 → bs ++ r.enc = bs0 →
      fr.rd 0 = .sl (u8s bs) κ → fr.rd 7 = .sl l.av 0 → fr.rd 8 = .i .i64 l.len → fr.rd 9 = .i .i64 i →
      (∀ κ' fr' σ', Ext σ0 σ' → TokOk σ' bs0 κ' → κ' < σ'.nb + 2 → fr'.rd 0 = .sl (u8s bs0) κ' → Q (.exit 0) fr' σ') → CodeW TS K30 fr σ Q := by
  have hsl : l.len ≤ l.sz := Nat.le_trans (L.len_cnt l) (L.cnt_sz l)
  intro r
  induction r with
  | nil =>
    intro i bs κ fr σ hd hi hw hs hf hnb hh hk hkn hlen hbs r0 r7 r8 r9 hQ
    simp only [L.len] at hi
    have hlt : decide ((i : Int) < l.len) = false := decide_eq_false (by omega)
    simp only [K30, fb, Tryd.f30, cl, cr, Option.getD]
    rw [cw_loop]
    simp only [↓cw_exit, ↓cw_seq, ↓cw_cond, ↓cw_region, ↓then_normal, ↓then_exit, ↓draw_false, ↓ow_nil, ↓ow_cons, ↓contO_eq, ↓op_binOp, ↓force_DC, vW_some, bW_false, ifW_some, setD_some, on2_some, biV_eq, opd, rd_set, binV, intV, isConst, reduceIte, Bool.or_false, List.length_cons, List.length_nil, Nat.zero_add, St.bump, List.size_toArray, r8, r9, hlt]
    simp only [L.enc, List.append_nil] at hbs
    refine hQ κ _ _ ⟨by simp only; omega, ?_, fun l hl => hh l hl⟩ (hbs ▸ hk) (by simp only; omega) ?_
    · first | exact Fresh.of (by repeat (first | exact (Fresh.freeH hf (by omega)) | refine FreeH.set ?_ (by omega))) (by repeat (first | exact (Fresh.freeT hf (by omega)) | refine FreeT.set ?_ (by omega) | refine FreeT.via (by assumption) ?_ (by omega)))
    · simp only [rd_set, reduceIte, reduceCtorEq, r0, hbs]
  | cons op n al off res b e ls r ihb ihe ih =>
    intro i bs κ fr σ hd hi hw hs hf hnb hh hk hkn hlen hbs r0 r7 r8 r9 hQ
    obtain ⟨hx, h2', h3⟩ := drop_cons hd
    simp only [L.len] at hi
    simp only [L.sz] at hs
    simp only [L.enc, List.length_append] at hlen
    simp only [L.enc] at hbs
    obtain ⟨hop, hn, hal, hoff, hres, hbw, hew, hlw, hrw⟩ := hw
    have hlt : decide ((i : Int) < l.len) = true := decide_eq_true (by omega)
    have h0i : (0 : Int) ≤ i := by omega
    simp only [K30, fb, Tryd.f30, cl, cr, Option.getD]
    rw [cw_loop]
    simp only [↓cw_skip, ↓cw_seq, ↓cw_block, ↓cw_cond, ↓cw_region, ↓then_normal, ↓draw_false, ↓ow_nil, ↓ow_cons, ↓contO_eq, ↓op_move, ↓op_alloc, ↓op_load, ↓op_store, ↓op_binOp, ↓op_indexAddr, ↓op_call, ↓force_DC, vW_some, pW_some, bW_true, ifW_some, setD_some, setD_none, allocV, on1_some, on2_some, ldV_eq, stV, biV_eq, callV_some, arg_val, opd, opds, rd_set, binV, intV, isConst, idxAddrV, loadV, take?, put, flat, AV.cells, undF, aggF, infF, Nat.reduceEqDiff, Nat.reduceAdd, Nat.reduceLeDiff, reduceIte, reduceCtorEq, Bool.or_false, List.length_cons, List.length_nil, List.getElem?_cons_zero, List.append_nil, List.drop_zero, List.take_succ_cons, List.take_zero, List.set_cons_zero, List.set_cons_succ, Nat.zero_add, and_self, newBox, St.bump, storeV, Tr.get_set, Nat.add_assoc, Int.toNat_natCast, boxFree, List.size_toArray, r0, r7, r8, r9, hlt, h0i, hx, iav, hf.hb]
    refine FnW_call rfl (by kernel_rfl) (by kernel_rfl) (by kernel_rfl) (w_lay op hop n al off res b e ls hn hal hoff hres hlw (H b (by omega) hbw) (H e (by omega) hew) _ bs κ _ ?_ ?_ ?_ (by omega) fun κ1 σ1 he1 hk1 hkn1 => ?_)
    · simp only [St.bump]
      first | exact Fresh.of (by repeat (first | exact (Fresh.freeH hf (by omega)) | refine FreeH.set ?_ (by omega))) (by repeat (first | exact (Fresh.freeT hf (by omega)) | refine FreeT.set ?_ (by omega) | refine FreeT.via (by assumption) ?_ (by omega)))
    · exact hk
    · simp only [St.bump]; omega
    have hnb1 := he1.nb
    simp only [St.bump] at hnb1
    simp only [↓cw_region, ↓then_normal, ↓block_normal, ↓draw_false, ↓ow_nil, ↓ow_cons, ↓contO_eq, ↓op_move, ↓op_assign, ↓op_binOp, vW_some, setD_some, on2_some, biV_eq, opd, ofConst, leaf, rd_set, binV, intV, isConst, Nat.reduceEqDiff, Nat.reduceAdd, reduceIte, reduceCtorEq, Bool.or_true, List.length_cons, List.length_nil, Nat.zero_add, St.bump, Nat.add_assoc, List.size_toArray, r9, fw_add1 (n := i) (by omega)]
    refine ih (i + 1) (bs ++ encI op n al off res ls b.enc e.enc e.len) κ1 _ _ h2' (by omega) hrw (by omega) ?_ ?_ ?_ ?_ ?_ ?_ ?_ ?_ ?_ ?_ ?_ hQ
    · exact he1.fresh.bump 6
    · simp only; omega
    · intro l' hl'
      have := he1.h l' (by simp only [St.bump]; omega)
      simp only [St.bump, Tr.get_set] at this
      rw [if_neg (by omega), if_neg (by omega)] at this
      simp only [this]; exact hh l' hl'
    · exact hk1
    · simp only; omega
    · simp only [List.length_append]; omega
    · rw [← hbs]; simp
    all_goals simp only [rd_set, Nat.reduceEqDiff, reduceIte, reduceCtorEq, r0, r7, r8, r9]

theorem w_lays : ∀ N (l : L), l.sz < N → N ≤ 4611686018427387904 → l.wf → LaysOk l := by
  intro N
  induction N with
  | zero => intro l h; omega
  | succ N ihN =>
    intro l hl hN hw σ bs κ Q hf hk hkn hlen hQ
    refine callW_of ft30 rfl (Nat.le_of_ble_eq_true rfl) ?_
    simp only [↓cw_seq, ↓cw_block, ↓cw_region, ↓then_normal, ↓draw_false, ↓ow_nil, ↓ow_cons, ↓contO_eq, ↓op_move, ↓op_assign, ↓op_call, vW_some, pW_some, setD_some, arg_blt, opd, opds, ofConst, leaf, pureV, rd_set, rd_nil, Fr.ofList, bltV, lenV, undF, Nat.reduceEqDiff, Nat.reduceAdd, reduceIte, reduceCtorEq, List.length_cons, List.length_nil, Nat.zero_add, St.bump, Nat.add_assoc, List.size_toArray, L.len_av]
    refine loop30 l N (fun l' h' hw' => ihN l' h' (by omega) hw') (bs ++ l.enc) σ _ (by omega) (by omega) l 0 bs κ _ _ rfl (by omega) hw (by omega) ?_ (by simp only; omega) (fun l' hl' => rfl) hk (by simp only; omega) hlen rfl ?_ ?_ ?_ ?_ fun κ' fr' σ' he' hk' hkn' r0 => ?_
    · first | exact Fresh.of (by repeat (first | exact (Fresh.freeH hf (by omega)) | refine FreeH.set ?_ (by omega))) (by repeat (first | exact (Fresh.freeT hf (by omega)) | refine FreeT.set ?_ (by omega) | refine FreeT.via (by assumption) ?_ (by omega)))
    · simp only [rd_set, rd_nil, reduceIte, reduceCtorEq]
    · simp only [rd_set, rd_nil, Nat.reduceEqDiff, reduceIte, reduceCtorEq]
    · simp only [rd_set, rd_nil, Nat.reduceEqDiff, reduceIte, reduceCtorEq]
    · simp only [rd_set, rd_nil, Nat.reduceEqDiff, reduceIte, reduceCtorEq]
      rfl
    simp only [↓cw_ret, ↓cw_seq, ↓cw_region, ↓then_normal, ↓draw_false, ↓ow_nil, ↓ow_cons, ↓contO_eq, ↓op_move, ↓op_assign, ↓ret_ret, ↓force_DQ, block_exit, vW_some, bW_true, setD_some, resW, nbeq, opd, rd_set, resV, Nat.reduceEqDiff, Nat.reduceAdd, reduceIte, List.length_cons, List.length_nil, beq_self_eq_true, Nat.zero_add, St.bump, List.size_toArray, r0, Tryd.f30]
    exact hQ κ' _ ⟨by have := he'.nb; simp only; omega, he'.fresh.bump 2, fun l hl => he'.h l hl⟩ hk' (by simp only; omega)

theorem w_encode (l : L) (hl : l.sz < 4611686018427387904) (hw : l.wf) (hlen : l.enc.length < 1099511600000) :
    PureW TS 17 [.sl l.av 0] (if l.may then .t [.sl (u8s (l.enc ++ [11])) 0, .ne] else .t [.sl [] 0, errV 1]) := by
  unfold PureW
  refine callW_of ft17 rfl (Nat.le_of_ble_eq_true rfl) ?_
  have hf : Fresh St.start := Fresh.start
  generalize St.start = σ at hf
  simp only [↓cw_seq, ↓cw_region, ↓then_normal, ↓draw_false, ↓ow_nil, ↓ow_cons, ↓contO_eq, ↓op_move, ↓op_assign, ↓op_call, vW_some, setD_some, callV_some, arg_val, opd, opds, ofConst, leaf, rd_set, rd_nil, Fr.ofList, Nat.reduceEqDiff, Nat.reduceAdd, reduceIte, reduceCtorEq, List.length_cons, List.length_nil, List.append_nil, Nat.zero_add, St.bump, List.size_toArray]
  refine pc21.call (by simp [untok, AV.strip, Go.Pv.goods, Go.Pv.good, L.goods]) (w_check l hl hw) ?_
  cases hm : l.may with
  | false =>
    simp only [Bool.false_eq_true, if_false, errV]
    simp only [↓cw_ret, ↓cw_seq, ↓cw_cond, ↓cw_region, ↓then_normal, ↓then_ret, ↓draw_false, ↓ow_nil, ↓ow_cons, ↓contO_eq, ↓op_move, ↓op_assign, ↓op_binOp, ↓ret_ret, ↓force_DC, vW_some, bW_true, ifW_some, setD_some, on2_some, biV_eq, resW, opd, ofConst, leaf, rd_set, rd_nil, binV, eqV, isConst, ifaceF, resV, Nat.reduceEqDiff, Nat.reduceAdd, reduceIte, reduceCtorEq, Bool.or_true, List.length_cons, List.length_nil, Nat.zero_add, Bool.not_false, St.bump, Nat.add_assoc, List.size_toArray, Tryd.f17]
    exact ⟨rfl, rfl⟩
  | true =>
    simp only [if_true]
    simp only [↓cw_skip, ↓cw_seq, ↓cw_cond, ↓cw_region, ↓then_normal, ↓draw_false, ↓ow_nil, ↓ow_cons, ↓contO_eq, ↓op_move, ↓op_assign, ↓op_binOp, ↓op_call, ↓force_DC, vW_some, bW_false, ifW_some, setD_some, on2_some, biV_eq, callV_some, arg_val, opd, opds, ofConst, leaf, rd_set, rd_nil, binV, eqV, isConst, ifaceF, Nat.reduceEqDiff, Nat.reduceAdd, reduceIte, reduceCtorEq, Bool.or_true, Bool.and_true, List.length_cons, List.length_nil, List.append_nil, Nat.zero_add, Bool.not_true, St.bump, Nat.add_assoc, List.size_toArray]
    refine FnW_call rfl (by kernel_rfl) (by kernel_rfl) (by kernel_rfl) (w_lays _ l hl (Nat.le_refl _) hw _ [] 1 _ ?_ (.inl ⟨rfl, rfl⟩) (by omega) (by simp; omega) fun κ1 σ1 he1 hk1 hkn1 => ?_)
    · simp only [St.bump]
      first | exact Fresh.of (by repeat (first | exact (Fresh.freeH hf (by omega)) | refine FreeH.set ?_ (by omega))) (by repeat (first | exact (Fresh.freeT hf (by omega)) | refine FreeT.set ?_ (by omega) | refine FreeT.via (by assumption) ?_ (by omega)))
    have hf1 := he1.fresh
    simp only [List.nil_append] at hk1
    simp only [↓ow_cons, ↓contO_eq, ↓op_buildSlice, ↓op_call, pW_some, setD_some, bldS, arg_blt, opd, opds, ofConst, leaf, rd_set, rd_nil, bltV, fillV, parts, put, flat, AV.cells, AV.strip, undF, aggF, infF, Nat.reduceEqDiff, Nat.reduceAdd, Nat.reduceMul, Nat.reduceLeDiff, ne_eq, not_false_eq_true, reduceIte, reduceCtorEq, List.length_cons, List.length_nil, List.nil_append, List.append_nil, List.take_succ_cons, List.take_zero, List.set_cons_zero, List.map_cons, List.map_nil, Nat.zero_add, and_self, newTok, Nat.add_assoc, or_true, List.headD_cons, tokFree, buildSliceV, repeatCells, chunk, hf1.tb]
    refine app_step (y := 11) (ys := []) (hk1.set (by omega)) (by simp; omega) ?_ fun X hX => ?_
    · exact tokFree_of (by repeat (first | exact (Fresh.freeT hf1 (by omega)) | refine FreeT.set ?_ (by omega) | refine FreeT.via (by assumption) ?_ (by omega)))
    simp only [↓cw_ret, ↓then_normal, ↓draw_false, ↓ow_nil, ↓ow_cons, ↓contO_eq, ↓op_assign, ↓ret_ret, vW_some, setD_some, resW, opd, ofConst, leaf, rd_set, rd_nil, resV, Nat.reduceEqDiff, Nat.reduceAdd, reduceIte, reduceCtorEq, Nat.add_assoc, Tryd.f17]
    exact ⟨by simp [untok, AV.strip], by simp [Go.Pv.good, Go.Pv.goods, goods_u8s]⟩
end Go.Pv
