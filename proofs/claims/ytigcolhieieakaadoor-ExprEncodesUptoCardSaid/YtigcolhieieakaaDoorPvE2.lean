/- count, large: some number, some answer. sameCode of the same. (PvZ6) -/
import Derived.Test.YtigcolhieieakaaDoorPvE1
namespace Go.Pv
open Go Go.Proofs Go.RowKit
set_option linter.unusedVariables false
set_option linter.unusedSimpArgs false
set_option maxRecDepth 100000

noncomputable def K26 : Code := cl (cr (cl (cr (cr (cr (fb Tryd.f26))))))
theorem loop26 (l : L) (N : Nat) (most deep : Int) (H : ∀ l' : L, l'.sz < N → ∀ d, ∃ c, PureW TS 26 [.sl l'.av 0, .i .i64 most, .i .i64 d] (.i .i64 c)) (Q : Ex → Fr → St → Prop) (hN : N < 1000000000) (hb : l.sz ≤ N)
    (hQ : ∀ c fr σ, fr.rd 7 = .i .i64 c → Q (.exit 0) fr σ) :
    ∀ (r : L) i acc fr σ, l.av.drop i = r.av → r.sz ≤ N → fr.rd 0 = .sl l.av 0 → fr.rd 1 = .i .i64 most → fr.rd 2 = .i .i64 deep → fr.rd 7 = .i .i64 acc → fr.rd 8 = .i .i64 i → CodeW TS K26 fr σ Q := by
  have hll : l.len ≤ l.sz := Nat.le_trans (L.len_cnt l) (L.cnt_sz l)
  intro r
  induction r with
  | nil =>
    intro i acc fr σ hd hs r0 r1 r2 r7 r8
    have h1 := drop_nil hd
    rw [L.len_av] at h1
    have hd : decide ((i : Int) < l.len) = false := decide_eq_false (by omega)
    simp only [K26, fb, Tryd.f26, cl, cr, Option.getD]
    rw [cw_loop]
    simp only [↓cw_exit, ↓cw_seq, ↓cw_cond, ↓cw_region, ↓then_normal, ↓then_exit, ↓draw_false, ↓ow_nil, ↓ow_cons, ↓ow_consG, ↓contO_eq, ↓op_move, ↓op_binOp, ↓op_pick, ↓op_call, ↓force_DC, ↓force_DOs, vW_some, pW_some, bW_false, ifW_some, setD_some, on2_some, biV_eq, pkV, arg_blt, opd, opds, ofConst, leaf, pureV, rd_set, binV, intV, isConst, bltV, lenV, undF, Nat.reduceEqDiff, Nat.reduceAdd, reduceIte, reduceCtorEq, Bool.or_false, List.length_cons, List.length_nil, List.getElem?_cons_zero, List.getElem?_cons_succ, Nat.zero_add, St.bump, wantG, Option.bind, beqT, List.size_toArray, r0, r8, L.len_av, hd]
    exact hQ acc _ _ (by simp only [rd_set, Nat.reduceEqDiff, reduceIte, r7])
  | cons op n al off res b e ls r ihb ihe ih =>
    intro i acc fr σ hd hs r0 r1 r2 r7 r8
    obtain ⟨h1, h2, h3⟩ := drop_cons hd
    rw [L.len_av] at h3
    have hlt : decide ((i : Int) < l.len) = true := decide_eq_true (by omega)
    have h0i : (0 : Int) ≤ i := by omega
    simp only [L.sz] at hs
    simp only [K26, fb, Tryd.f26, cl, cr, Option.getD]
    rw [cw_loop]
    by_cases hm : acc < most
    · have hmm : decide (acc < most) = true := decide_eq_true hm
      obtain ⟨c1, hc1⟩ := H b (by omega) (fw .i64 (deep + 1))
      obtain ⟨c2, hc2⟩ := H e (by omega) (fw .i64 (deep + 1))
      simp only [↓cw_skip, ↓cw_seq, ↓cw_block, ↓cw_cond, ↓cw_region, ↓then_normal, ↓draw_false, ↓ow_nil, ↓ow_cons, ↓ow_consG, ↓contO_eq, ↓op_move, ↓op_load, ↓op_binOp, ↓op_fieldAddr, ↓op_indexAddr, ↓op_pick, ↓op_call, ↓force_DC, ↓force_DO, vW_some, pW_some, bW_true, ifW_some, setD_some, on1_some, on2_some, ldV_eq, biV_eq, faV_eq, pkV, callV_some, arg_blt, arg_val, opd, opds, ofConst, leaf, pureV, rd_set, binV, intV, isConst, bltV, lenV, idxAddrV, loadV, fieldAddrV, take?, AV.cells, undF, aggF, infF, Nat.reduceEqDiff, Nat.reduceAdd, Nat.reduceLeDiff, reduceIte, reduceCtorEq, Bool.or_false, Bool.or_true, List.length_cons, List.length_nil, List.getElem?_cons_zero, List.getElem?_cons_succ, List.append_nil, List.drop_succ_cons, List.drop_zero, List.take_succ_cons, List.take_zero, beq_self_eq_true, Nat.zero_add, St.bump, wantG, Option.bind, Int.toNat_natCast, List.size_toArray, r0, r1, r2, r7, r8, L.len_av, u32s_len, hlt, h0i, h1, iav, hmm]
      refine pc26.call (by simp [untok, AV.strip, Go.Pv.goods, Go.Pv.good, L.goods]) hc1 ?_
      simp only [↓ow_cons, ↓contO_eq, ↓op_move, ↓op_load, ↓op_binOp, ↓op_fieldAddr, ↓op_indexAddr, ↓op_call, vW_some, setD_some, on1_some, on2_some, ldV_eq, biV_eq, faV_eq, callV_some, arg_val, opd, opds, ofConst, leaf, rd_set, binV, intV, isConst, idxAddrV, loadV, fieldAddrV, take?, AV.cells, undF, aggF, infF, Nat.reduceEqDiff, Nat.reduceAdd, Nat.reduceLeDiff, reduceIte, reduceCtorEq, Bool.or_false, Bool.or_true, List.length_cons, List.length_nil, List.getElem?_cons_zero, List.getElem?_cons_succ, List.append_nil, List.drop_succ_cons, List.drop_zero, List.take_succ_cons, List.take_zero, Nat.zero_add, Int.toNat_natCast, r0, r1, r2, r8, h0i, h1, iav]
      refine pc26.call (by simp [untok, AV.strip, Go.Pv.goods, Go.Pv.good, L.goods]) hc2 ?_
      simp only [↓cw_region, ↓then_normal, ↓block_normal, ↓draw_false, ↓draw_true, ↓ow_nil, ↓ow_cons, ↓contO_eq, ↓op_move, ↓op_assign, ↓op_binOp, ↓force_DQ, vW_some, bW_false, setD_some, on2_some, biV_eq, opd, ofConst, leaf, rd_set, binV, intV, isConst, hasStore, isStore, Nat.reduceEqDiff, Nat.reduceAdd, reduceIte, Bool.or_false, Bool.or_true, List.any, List.length_cons, List.length_nil, Nat.zero_add, St.bump, Nat.add_assoc, List.size_toArray, r8, fw_add1 (n := i) (by omega)]
      refine ih (i + 1) (fw .i64 (fw .i64 (fw .i64 (acc + (ls.length : Int)) + c1) + c2)) _ _ h2 (by omega) ?_ ?_ ?_ ?_ ?_ <;> simp only [rd_set, Nat.reduceEqDiff, reduceIte, reduceCtorEq, r0, r1, r2, r7, r8]
    · have hmm : decide (acc < most) = false := decide_eq_false hm
      simp only [↓cw_exit, ↓cw_seq, ↓cw_cond, ↓cw_region, ↓then_normal, ↓then_exit, ↓draw_false, ↓ow_nil, ↓ow_cons, ↓ow_consG, ↓contO_eq, ↓op_move, ↓op_binOp, ↓op_pick, ↓op_call, ↓force_DC, ↓force_DO, vW_some, pW_some, bW_true, bW_false, ifW_some, setD_some, on2_some, biV_eq, pkV, arg_blt, opd, opds, ofConst, leaf, pureV, rd_set, binV, intV, isConst, bltV, lenV, undF, Nat.reduceEqDiff, Nat.reduceAdd, reduceIte, reduceCtorEq, Bool.or_false, List.length_cons, List.length_nil, List.getElem?_cons_zero, List.getElem?_cons_succ, beq_self_eq_true, Nat.zero_add, St.bump, wantG, Option.bind, List.size_toArray, r0, r1, r7, r8, L.len_av, hlt, hmm]
      exact hQ acc _ _ (by simp only [rd_set, Nat.reduceEqDiff, reduceIte, r7])

theorem w_lcount (most : Int) : ∀ N (l : L), l.sz < N → N ≤ 1000000000 → ∀ d, ∃ c, PureW TS 26 [.sl l.av 0, .i .i64 most, .i .i64 d] (.i .i64 c) := by
  intro N
  induction N with
  | zero => intro l h; omega
  | succ N ihN =>
    intro l hl hN d
    have main : CallW TS 26 [.sl l.av 0, .i .i64 most, .i .i64 d] St.start fun v _ => ∃ c, untok v = .i .i64 c ∧ good v = true := by
      refine callW_of ft26 rfl (Nat.le_of_ble_eq_true rfl) ?_
      generalize St.start = σ
      by_cases h1 : (l.len : Int) > most
      · have h1' : decide ((l.len : Int) > most) = true := decide_eq_true h1
        simp only [↓cw_ret, ↓cw_seq, ↓cw_cond, ↓cw_region, ↓then_normal, ↓then_ret, ↓draw_false, ↓ow_nil, ↓ow_cons, ↓ow_consG, ↓contO_eq, ↓op_move, ↓op_assign, ↓op_binOp, ↓op_pick, ↓op_call, ↓ret_ret, ↓force_DC, ↓force_DOs, vW_some, pW_some, bW_true, bW_false, ifW_some, setD_some, on2_some, biV_eq, pkV, arg_blt, resW, opd, opds, ofConst, leaf, pureV, rd_set, rd_nil, Fr.ofList, binV, intV, isConst, bltV, lenV, undF, resV, Nat.reduceEqDiff, Nat.reduceAdd, reduceIte, reduceCtorEq, Bool.or_false, List.length_cons, List.length_nil, List.getElem?_cons_zero, List.getElem?_cons_succ, Nat.zero_add, Bool.not_true, St.bump, wantG, Option.bind, Nat.add_assoc, beqF, List.size_toArray, L.len_av, h1', Tryd.f26]
        exact ⟨most, rfl, rfl⟩
      · have h1' : decide ((l.len : Int) > most) = false := decide_eq_false h1
        by_cases h2 : d > 80
        · have h2' : decide (d > 80) = true := decide_eq_true h2
          simp only [↓cw_ret, ↓cw_seq, ↓cw_cond, ↓cw_region, ↓then_normal, ↓then_ret, ↓draw_false, ↓ow_nil, ↓ow_cons, ↓ow_consG, ↓contO_eq, ↓op_move, ↓op_assign, ↓op_binOp, ↓op_pick, ↓op_call, ↓ret_ret, ↓force_DC, ↓force_DO, vW_some, pW_some, bW_true, ifW_some, setD_some, on2_some, biV_eq, pkV, arg_blt, resW, opd, opds, ofConst, leaf, pureV, rd_set, rd_nil, Fr.ofList, binV, intV, isConst, bltV, lenV, undF, resV, Nat.reduceEqDiff, Nat.reduceAdd, reduceIte, reduceCtorEq, Bool.or_false, Bool.or_true, List.length_cons, List.length_nil, List.getElem?_cons_zero, List.getElem?_cons_succ, beq_self_eq_true, Nat.zero_add, St.bump, wantG, Option.bind, Nat.add_assoc, List.size_toArray, L.len_av, h1', h2', Tryd.f26]
          exact ⟨most, rfl, rfl⟩
        · have h2' : decide (d > 80) = false := decide_eq_false h2
          simp only [↓cw_skip, ↓cw_seq, ↓cw_block, ↓cw_cond, ↓cw_region, ↓then_normal, ↓draw_false, ↓ow_nil, ↓ow_cons, ↓ow_consG, ↓contO_eq, ↓op_move, ↓op_assign, ↓op_binOp, ↓op_pick, ↓op_call, ↓force_DC, ↓force_DO, vW_some, pW_some, bW_true, bW_false, ifW_some, setD_some, on2_some, biV_eq, pkV, arg_blt, opd, opds, ofConst, leaf, pureV, rd_set, rd_nil, Fr.ofList, binV, intV, isConst, bltV, lenV, undF, Nat.reduceEqDiff, Nat.reduceAdd, reduceIte, reduceCtorEq, Bool.or_false, Bool.or_true, List.length_cons, List.length_nil, List.getElem?_cons_zero, List.getElem?_cons_succ, beq_self_eq_true, Nat.zero_add, St.bump, wantG, Option.bind, Nat.add_assoc, List.size_toArray, L.len_av, h1', h2']
          refine loop26 l N most d (fun l' h' => ihN l' h' (by omega)) _ (by omega) (by omega) (fun c fr σ r7 => ?_) l 0 (l.len : Int) _ _ rfl (by omega) ?_ ?_ ?_ ?_ ?_
          · simp only [↓cw_ret, ↓cw_seq, ↓cw_region, ↓then_normal, ↓draw_false, ↓ow_nil, ↓ow_cons, ↓contO_eq, ↓op_move, ↓op_assign, ↓ret_ret, ↓force_DQ, block_exit, vW_some, bW_true, setD_some, resW, nbeq, opd, rd_set, resV, Nat.reduceEqDiff, Nat.reduceAdd, reduceIte, List.length_cons, List.length_nil, beq_self_eq_true, Nat.zero_add, List.size_toArray, r7, Tryd.f26]
            exact ⟨c, rfl, rfl⟩
          all_goals simp only [rd_set, rd_nil, Nat.reduceEqDiff, reduceIte, reduceCtorEq]
          all_goals rfl
    obtain ⟨n, v, σ', he, c, hu, hg⟩ := main
    have hgu : good (.i .i64 c) = true := rfl
    exact ⟨c, n, v, σ', he, hu, hgu⟩

theorem w_large (l : L) (hl : l.sz < 1000000000) : ∃ c, PureW TS 14 [.sl l.av 0] (.b c) := by
  obtain ⟨c, hc⟩ := w_lcount 3000 1000000000 l hl (Nat.le_refl _) 0
  refine ⟨decide (c > 2000), ?_⟩
  unfold PureW
  refine callW_of ft14 rfl (Nat.le_of_ble_eq_true rfl) ?_
  generalize St.start = σ
  simp only [↓cw_seq, ↓cw_region, ↓then_normal, ↓draw_false, ↓ow_nil, ↓ow_cons, ↓contO_eq, ↓op_move, ↓op_assign, ↓op_call, vW_some, setD_some, callV_some, arg_val, opd, opds, ofConst, leaf, rd_set, rd_nil, Fr.ofList, Nat.reduceEqDiff, Nat.reduceAdd, reduceIte, reduceCtorEq, List.length_cons, List.length_nil, List.append_nil, Nat.zero_add, St.bump, List.size_toArray]
  refine pc26.call (by simp [untok, AV.strip, Go.Pv.goods, Go.Pv.good, L.goods]) hc ?_
  simp only [↓cw_ret, ↓then_normal, ↓draw_false, ↓ow_nil, ↓ow_cons, ↓contO_eq, ↓op_assign, ↓op_binOp, ↓ret_ret, vW_some, setD_some, on2_some, biV_eq, resW, opd, ofConst, leaf, rd_set, rd_nil, binV, intV, isConst, resV, Nat.reduceEqDiff, Nat.reduceAdd, reduceIte, reduceCtorEq, Bool.or_true, Tryd.f14]
  exact ⟨rfl, rfl⟩
end Go.Pv
