/- each, Check, kind, for all instructions. -/
import Derived.Test.YtigcolhieieakaaDoorPvZ4
namespace Go.Pv
open Go Go.Proofs Go.RowKit
set_option linter.unusedVariables false
set_option linter.unusedSimpArgs false
set_option maxRecDepth 100000

def L.each : L → Bool
  | .nil => true
  | .cons op n al off res b e ls r => mayI op n al off res b e ls && (b.each && (e.each && r.each))

noncomputable def K33 : Code := cl (cr (cl (cr (fb Tryd.f33))))
theorem loop33 (l : L) (N : Nat) (H : ∀ l' : L, l'.sz < N → l'.wf → PureW TS 33 [.sl l'.av 0] (.b l'.each)) (Q : Ex → Fr → St → Prop) (hN : N < 4611686018427387904) (hb : l.sz ≤ N)
    (h1 : l.each = true → ∀ fr σ, Q (.exit 0) fr σ) (h2 : l.each = false → ∀ fr σ, fr.rd 2 = .b false → Q .ret fr σ) :
    ∀ (r : L) i fr σ, Fresh σ → l.av.drop i = r.av → i + r.len = l.len → l.each = r.each → r.wf → r.sz ≤ N → fr.rd 5 = .sl l.av 0 → fr.rd 6 = .i .i64 l.len → fr.rd 7 = .i .i64 i → CodeW TS K33 fr σ Q := by
  have hsl : l.len ≤ l.sz := Nat.le_trans (L.len_cnt l) (L.cnt_sz l)
  intro r
  induction r with
  | nil =>
    intro i fr σ hf hd hi ha hw hs r5 r6 r7
    simp only [L.len] at hi
    have hd : decide ((i : Int) < l.len) = false := decide_eq_false (by omega)
    simp only [K33, fb, Tryd.f33, cl, cr, Option.getD]
    rw [cw_loop]
    simp only [↓cw_exit, ↓cw_seq, ↓cw_cond, ↓cw_region, ↓then_normal, ↓then_exit, ↓draw_false, ↓ow_nil, ↓ow_cons, ↓contO_eq, ↓op_binOp, ↓force_DC, vW_some, bW_false, ifW_some, setD_some, on2_some, biV_eq, opd, rd_set, binV, intV, isConst, reduceIte, Bool.or_false, List.length_cons, List.length_nil, Nat.zero_add, St.bump, List.size_toArray, r6, r7, hd]
    exact h1 ha _ _
  | cons op n al off res b e ls r ihb ihe ih =>
    intro i fr σ hf hd hi ha hw hs r5 r6 r7
    obtain ⟨hx, h2', h3⟩ := drop_cons hd
    simp only [L.len] at hi
    simp only [L.sz] at hs
    simp only [L.each] at ha
    obtain ⟨hop, _, _, _, _, hbw, hew, _, hrw⟩ := hw
    have hlt : decide ((i : Int) < l.len) = true := decide_eq_true (by omega)
    have h0i : (0 : Int) ≤ i := by omega
    simp only [K33, fb, Tryd.f33, cl, cr, Option.getD]
    rw [cw_loop]
    simp only [↓cw_skip, ↓cw_seq, ↓cw_block, ↓cw_cond, ↓cw_region, ↓then_normal, ↓draw_false, ↓ow_nil, ↓ow_cons, ↓contO_eq, ↓op_alloc, ↓op_load, ↓op_store, ↓op_binOp, ↓op_indexAddr, ↓op_call, ↓force_DC, vW_some, pW_some, bW_true, ifW_some, setD_some, setD_none, allocV, on1_some, on2_some, ldV_eq, stV, biV_eq, callV_some, arg_val, opd, opds, rd_set, binV, intV, isConst, idxAddrV, loadV, take?, put, flat, AV.cells, undF, aggF, infF, Nat.reduceEqDiff, Nat.reduceAdd, Nat.reduceLeDiff, reduceIte, Bool.or_false, List.length_cons, List.length_nil, List.getElem?_cons_zero, List.append_nil, List.drop_zero, List.take_succ_cons, List.take_zero, List.set_cons_zero, List.set_cons_succ, Nat.zero_add, and_self, newBox, St.bump, storeV, Tr.get_set, Nat.add_assoc, Int.toNat_natCast, boxFree, List.size_toArray, r5, r6, r7, hlt, h0i, hx, iav, hf.hb]
    refine pc50.call (by simp [untok, AV.strip, AV.strip0, Go.Pv.goods, Go.Pv.good, L.goods, goods_u32s]) (w_may op hop n al off res b e ls (by omega)) ?_
    cases hm : mayI op n al off res b e ls with
    | false =>
      rw [hm] at ha
      simp only [↓cw_ret, ↓cw_seq, ↓cw_cond, ↓cw_region, ↓then_normal, ↓then_ret, ↓block_ret, ↓draw_false, ↓ow_nil, ↓ow_cons, ↓ow_consG, ↓contO_eq, ↓op_move, ↓op_assign, ↓op_unOp, ↓op_pick, ↓force_DC, ↓force_DOs, vW_some, bW_true, bW_false, ifW_some, setD_some, on1_some, pkV, opd, ofConst, leaf, rd_set, unV, Nat.reduceEqDiff, Nat.reduceAdd, reduceIte, List.length_cons, List.length_nil, List.getElem?_cons_zero, List.getElem?_cons_succ, Nat.zero_add, Bool.not_true, Bool.not_false, St.bump, wantG, Option.bind, Nat.add_assoc, beqF, List.size_toArray]
      exact h2 (by rw [ha]; rfl) _ _ (by simp only [rd_set, Nat.reduceEqDiff, reduceIte])
    | true =>
      rw [hm] at ha
      simp only [↓ow_cons, ↓ow_consG, ↓contO_eq, ↓op_move, ↓op_load, ↓op_unOp, ↓op_fieldAddr, ↓op_call, ↓force_DO, vW_some, bW_true, setD_some, on1_some, ldV_eq, faV_eq, callV_some, arg_val, opd, opds, rd_set, unV, loadV, fieldAddrV, take?, undF, aggF, infF, Nat.reduceEqDiff, Nat.reduceAdd, Nat.reduceLeDiff, reduceIte, reduceCtorEq, List.length_cons, List.length_nil, List.getElem?_cons_zero, List.getElem?_cons_succ, List.append_nil, List.drop_succ_cons, List.drop_zero, List.take_succ_cons, List.take_zero, beq_self_eq_true, Nat.zero_add, Bool.not_true, Tr.get_set, wantG, Option.bind]
      refine pc33.call (by simp [untok, AV.strip, Go.Pv.goods, Go.Pv.good, L.goods]) (H b (by omega) hbw) ?_
      cases hbe : b.each with
      | false =>
        rw [hbe] at ha
        simp only [↓cw_ret, ↓cw_seq, ↓cw_cond, ↓cw_region, ↓then_normal, ↓then_ret, ↓block_ret, ↓draw_false, ↓ow_nil, ↓ow_cons, ↓ow_consG, ↓contO_eq, ↓op_move, ↓op_assign, ↓op_unOp, ↓op_pick, ↓force_DC, ↓force_DO, ↓force_DOs, vW_some, bW_true, bW_false, ifW_some, setD_some, on1_some, pkV, opd, ofConst, leaf, rd_set, unV, Nat.reduceEqDiff, Nat.reduceAdd, reduceIte, List.length_cons, List.length_nil, List.getElem?_cons_zero, List.getElem?_cons_succ, beq_self_eq_true, Nat.zero_add, Bool.not_true, Bool.not_false, St.bump, wantG, Option.bind, Nat.add_assoc, beqF, List.size_toArray]
        exact h2 (by rw [ha]; rfl) _ _ (by simp only [rd_set, Nat.reduceEqDiff, reduceIte])
      | true =>
        rw [hbe] at ha
        simp only [↓ow_cons, ↓ow_consG, ↓contO_eq, ↓op_move, ↓op_load, ↓op_unOp, ↓op_fieldAddr, ↓op_pick, ↓op_call, ↓force_DO, vW_some, bW_true, setD_some, on1_some, ldV_eq, faV_eq, pkV, callV_some, arg_val, opd, opds, ofConst, leaf, rd_set, unV, loadV, fieldAddrV, take?, undF, aggF, infF, Nat.reduceEqDiff, Nat.reduceAdd, Nat.reduceLeDiff, reduceIte, reduceCtorEq, List.length_cons, List.length_nil, List.getElem?_cons_zero, List.getElem?_cons_succ, List.append_nil, List.drop_succ_cons, List.drop_zero, List.take_succ_cons, List.take_zero, beq_self_eq_true, Nat.zero_add, Bool.not_true, Tr.get_set, wantG, Option.bind]
        refine pc33.call (by simp [untok, AV.strip, Go.Pv.goods, Go.Pv.good, L.goods]) (H e (by omega) hew) ?_
        cases hee : e.each with
        | false =>
          rw [hee] at ha
          simp only [↓cw_ret, ↓cw_seq, ↓cw_cond, ↓cw_region, ↓then_normal, ↓then_ret, ↓block_ret, ↓draw_false, ↓ow_nil, ↓ow_cons, ↓ow_consG, ↓contO_eq, ↓op_assign, ↓op_unOp, ↓op_pick, ↓force_DC, ↓force_DO, vW_some, bW_true, ifW_some, setD_some, on1_some, pkV, opd, ofConst, leaf, rd_set, unV, Nat.reduceEqDiff, Nat.reduceAdd, reduceIte, List.length_cons, List.length_nil, List.getElem?_cons_zero, List.getElem?_cons_succ, beq_self_eq_true, Nat.zero_add, Bool.not_false, St.bump, wantG, Option.bind, Nat.add_assoc, List.size_toArray]
          exact h2 (by rw [ha]; rfl) _ _ (by simp only [rd_set, Nat.reduceEqDiff, reduceIte])
        | true =>
          rw [hee] at ha
          simp only [↓cw_skip, ↓cw_cond, ↓cw_region, ↓then_normal, ↓block_normal, ↓draw_false, ↓ow_nil, ↓ow_cons, ↓ow_consG, ↓contO_eq, ↓op_move, ↓op_binOp, ↓op_unOp, ↓op_pick, ↓force_DC, ↓force_DO, vW_some, bW_true, bW_false, ifW_some, setD_some, on1_some, on2_some, biV_eq, pkV, opd, ofConst, leaf, rd_set, binV, intV, unV, isConst, Nat.reduceEqDiff, Nat.reduceAdd, reduceIte, Bool.or_true, List.length_cons, List.length_nil, List.getElem?_cons_zero, List.getElem?_cons_succ, beq_self_eq_true, Nat.zero_add, Bool.not_true, St.bump, wantG, Option.bind, Nat.add_assoc, List.size_toArray, r7, fw_add1 (n := i) (by omega)]
          refine ih (i + 1) _ _ ?_ h2' (by omega) (by rw [ha]; rfl) hrw (by omega) ?_ ?_ ?_
          · first | exact Fresh.of (by repeat (first | exact (Fresh.freeH hf (by omega)) | refine FreeH.set ?_ (by omega))) (by repeat (first | exact (Fresh.freeT hf (by omega)) | refine FreeT.set ?_ (by omega)))
          all_goals simp only [rd_set, Nat.reduceEqDiff, reduceIte, r5, r6, r7]

theorem w_each : ∀ N (l : L), l.sz < N → N ≤ 4611686018427387904 → l.wf → PureW TS 33 [.sl l.av 0] (.b l.each) := by
  intro N
  induction N with
  | zero => intro l h; omega
  | succ N ihN =>
    intro l hl hN hw
    unfold PureW
    refine callW_of ft33 rfl (Nat.le_of_ble_eq_true rfl) ?_
    have hf : Fresh St.start := Fresh.start
    generalize St.start = σ at hf
    simp only [↓cw_seq, ↓cw_block, ↓cw_region, ↓then_normal, ↓draw_false, ↓ow_nil, ↓ow_cons, ↓contO_eq, ↓op_move, ↓op_assign, ↓op_call, vW_some, pW_some, setD_some, arg_blt, opd, opds, ofConst, leaf, pureV, rd_set, rd_nil, Fr.ofList, bltV, lenV, undF, Nat.reduceEqDiff, Nat.reduceAdd, reduceIte, reduceCtorEq, List.length_cons, List.length_nil, Nat.zero_add, St.bump, Nat.add_assoc, List.size_toArray, L.len_av]
    refine loop33 l N (fun l' h' hw' => ihN l' h' (by omega) hw') _ (by omega) (by omega) (fun e fr σ => ?_) (fun e fr σ r2 => ?_) l 0 _ _ ?_ rfl (by omega) rfl hw (by omega) ?_ ?_ ?_
    · simp only [↓cw_ret, ↓cw_seq, ↓cw_region, ↓then_normal, ↓draw_false, ↓ow_nil, ↓ow_cons, ↓contO_eq, ↓op_assign, ↓ret_ret, ↓force_DQ, block_exit, vW_some, bW_true, setD_some, resW, nbeq, opd, ofConst, leaf, rd_set, resV, reduceIte, List.length_cons, List.length_nil, beq_self_eq_true, Nat.zero_add, List.size_toArray, Tryd.f33]
      exact ⟨by simp [untok, AV.strip, e], rfl⟩
    · simp only [↓then_ret, ↓block_ret, ↓ret_ret, resW, resV, Tryd.f33, r2]
      exact ⟨by simp [untok, AV.strip, e], rfl⟩
    · first | exact Fresh.of (by repeat (first | exact (Fresh.freeH hf (by omega)) | refine FreeH.set ?_ (by omega))) (by repeat (first | exact (Fresh.freeT hf (by omega)) | refine FreeT.set ?_ (by omega)))
    all_goals simp only [rd_set, rd_nil, Nat.reduceEqDiff, reduceIte, reduceCtorEq]
    all_goals rfl

def L.may (l : L) : Bool := decide (l.cnt ≤ 16384) && decide (l.nest ≤ 64) && l.each

theorem w_check (l : L) (hl : l.sz < 4611686018427387904) (hw : l.wf) : PureW TS 21 [.sl l.av 0] (if l.may then .ne else errV 1) := by
  unfold PureW
  refine callW_of ft21 rfl (Nat.le_of_ble_eq_true rfl) ?_
  simp only [St.start]
  simp only [↓cw_seq, ↓cw_region, ↓then_normal, ↓draw_false, ↓ow_nil, ↓ow_cons, ↓contO_eq, ↓op_move, ↓op_assign, ↓op_call, vW_some, setD_some, callV_some, arg_val, opd, opds, ofConst, leaf, rd_set, rd_nil, Fr.ofList, Nat.reduceEqDiff, Nat.reduceAdd, reduceIte, reduceCtorEq, List.length_cons, List.length_nil, List.append_nil, Nat.zero_add, St.bump, List.size_toArray]
  have hc := L.cnt_sz l
  refine pc18.call (by simp [untok, AV.strip, Go.Pv.goods, Go.Pv.good, L.goods]) (w_count 4611686018427387904 l (by omega) (Nat.le_refl _)) ?_
  by_cases h1 : l.cnt ≤ 16384
  rotate_left
  · have : decide ((l.cnt : Int) > 16384) = true := decide_eq_true (by omega)
    simp only [↓cw_ret, ↓cw_seq, ↓cw_cond, ↓cw_region, ↓then_normal, ↓then_ret, ↓draw_false, ↓ow_nil, ↓ow_cons, ↓ow_consG, ↓contO_eq, ↓op_move, ↓op_assign, ↓op_binOp, ↓op_makeInterface, ↓op_pick, ↓ret_ret, ↓force_DC, ↓force_DOs, vW_some, bW_true, bW_false, ifW_some, setD_some, on2_some, biV_eq, mkI, pkV, resW, opd, ofConst, leaf, rd_set, rd_nil, binV, intV, isConst, undF, resV, Nat.reduceEqDiff, Nat.reduceAdd, reduceIte, reduceCtorEq, Bool.or_true, List.length_cons, List.length_nil, List.getElem?_cons_zero, List.getElem?_cons_succ, Nat.zero_add, Bool.not_true, St.bump, wantG, Option.bind, beqF, List.size_toArray, this, Tryd.f21]
    exact ⟨by simp [untok, AV.strip, L.may, h1, errV], by simp [L.may, h1, errV, good]⟩
  have h1' : decide ((l.cnt : Int) > 16384) = false := decide_eq_false (by omega)
  simp only [↓ow_cons, ↓ow_consG, ↓contO_eq, ↓op_move, ↓op_binOp, ↓op_call, ↓force_DO, vW_some, bW_true, setD_some, on2_some, biV_eq, callV_some, arg_val, opd, opds, ofConst, leaf, rd_set, rd_nil, binV, intV, isConst, Nat.reduceEqDiff, Nat.reduceAdd, reduceIte, reduceCtorEq, Bool.or_true, List.getElem?_cons_zero, List.getElem?_cons_succ, List.append_nil, beq_self_eq_true, wantG, Option.bind, h1']
  refine pc32.call (by simp [untok, AV.strip, Go.Pv.goods, Go.Pv.good, L.goods]) (w_nest 4611686018427387904 l hl (Nat.le_refl _) hw) ?_
  by_cases h2 : l.nest ≤ 64
  rotate_left
  · have : decide ((l.nest : Int) > 64) = true := decide_eq_true (by omega)
    simp only [↓cw_ret, ↓cw_seq, ↓cw_cond, ↓cw_region, ↓then_normal, ↓then_ret, ↓draw_false, ↓ow_nil, ↓ow_cons, ↓ow_consG, ↓contO_eq, ↓op_move, ↓op_assign, ↓op_binOp, ↓op_makeInterface, ↓op_pick, ↓ret_ret, ↓force_DC, ↓force_DO, ↓force_DOs, vW_some, bW_true, bW_false, ifW_some, setD_some, on2_some, biV_eq, mkI, pkV, resW, opd, ofConst, leaf, rd_set, rd_nil, binV, intV, isConst, undF, resV, Nat.reduceEqDiff, Nat.reduceAdd, reduceIte, reduceCtorEq, Bool.or_true, List.length_cons, List.length_nil, List.getElem?_cons_zero, List.getElem?_cons_succ, beq_self_eq_true, Nat.zero_add, Bool.not_true, St.bump, wantG, Option.bind, beqF, List.size_toArray, this, Tryd.f21]
    exact ⟨by simp [untok, AV.strip, L.may, h2, errV], by simp [L.may, h2, errV, good]⟩
  have h2' : decide ((l.nest : Int) > 64) = false := decide_eq_false (by omega)
  simp only [↓ow_cons, ↓ow_consG, ↓contO_eq, ↓op_move, ↓op_binOp, ↓op_pick, ↓op_call, ↓force_DO, vW_some, bW_true, setD_some, on2_some, biV_eq, pkV, callV_some, arg_val, opd, opds, ofConst, leaf, rd_set, rd_nil, binV, intV, isConst, Nat.reduceEqDiff, Nat.reduceAdd, reduceIte, reduceCtorEq, Bool.or_true, List.getElem?_cons_zero, List.getElem?_cons_succ, List.append_nil, beq_self_eq_true, wantG, Option.bind, h2']
  refine pc33.call (by simp [untok, AV.strip, Go.Pv.goods, Go.Pv.good, L.goods]) (w_each 4611686018427387904 l hl (Nat.le_refl _) hw) ?_
  cases h3 : l.each with
  | false =>
    simp only [↓cw_ret, ↓cw_seq, ↓cw_cond, ↓cw_region, ↓then_normal, ↓then_ret, ↓draw_false, ↓ow_nil, ↓ow_cons, ↓ow_consG, ↓contO_eq, ↓op_assign, ↓op_unOp, ↓op_makeInterface, ↓op_pick, ↓ret_ret, ↓force_DC, ↓force_DO, vW_some, bW_true, ifW_some, setD_some, on1_some, mkI, pkV, resW, opd, ofConst, leaf, rd_set, rd_nil, unV, undF, resV, Nat.reduceEqDiff, Nat.reduceAdd, reduceIte, reduceCtorEq, List.length_cons, List.length_nil, List.getElem?_cons_zero, List.getElem?_cons_succ, beq_self_eq_true, Nat.zero_add, Bool.not_false, St.bump, wantG, Option.bind, List.size_toArray, Tryd.f21]
    exact ⟨by simp [untok, AV.strip, L.may, h3, errV], by simp [L.may, h3, errV, good]⟩
  | true =>
    simp only [↓cw_skip, ↓cw_ret, ↓cw_seq, ↓cw_cond, ↓cw_region, ↓then_normal, ↓draw_false, ↓ow_nil, ↓ow_cons, ↓ow_consG, ↓contO_eq, ↓op_assign, ↓op_unOp, ↓op_pick, ↓ret_ret, ↓force_DC, ↓force_DO, vW_some, bW_true, bW_false, ifW_some, setD_some, on1_some, pkV, resW, opd, ofConst, leaf, rd_set, rd_nil, unV, resV, Nat.reduceEqDiff, Nat.reduceAdd, reduceIte, reduceCtorEq, List.length_cons, List.length_nil, List.getElem?_cons_zero, List.getElem?_cons_succ, beq_self_eq_true, Nat.zero_add, Bool.not_true, St.bump, wantG, Option.bind, List.size_toArray, Tryd.f21]
    exact ⟨by simp [untok, AV.strip, L.may, h1, h2, h3], by simp [L.may, h1, h2, h3, good]⟩

def kindB (res : Int) : Int := if res = 0 then 64 else res
theorem w_kind (res : Int) : PureW TS 69 [.i .u8 res] (.i .u8 (kindB res)) := by
  unfold PureW
  refine callW_of ft69 rfl (Nat.le_of_ble_eq_true rfl) ?_
  simp only [St.start]
  by_cases h : res = 0
  · subst h
    simp only [↓cw_ret, ↓cw_seq, ↓cw_cond, ↓cw_region, ↓then_normal, ↓then_ret, ↓draw_false, ↓ow_nil, ↓ow_cons, ↓contO_eq, ↓op_move, ↓op_assign, ↓op_binOp, ↓ret_ret, ↓force_DC, vW_some, bW_true, ifW_some, setD_some, on2_some, biV_eq, resW, opd, ofConst, leaf, rd_set, rd_nil, Fr.ofList, binV, intV, isConst, resV, Nat.reduceEqDiff, Nat.reduceAdd, reduceIte, reduceCtorEq, Bool.or_true, List.length_cons, List.length_nil, beq_self_eq_true, Nat.zero_add, St.bump, List.size_toArray, Tryd.f69]
    exact ⟨rfl, rfl⟩
  · have h' : (res == 0) = false := by simp [h]
    simp only [↓cw_skip, ↓cw_ret, ↓cw_seq, ↓cw_cond, ↓cw_region, ↓then_normal, ↓draw_false, ↓ow_nil, ↓ow_cons, ↓contO_eq, ↓op_move, ↓op_assign, ↓op_binOp, ↓ret_ret, ↓force_DC, vW_some, bW_false, ifW_some, setD_some, on2_some, biV_eq, resW, opd, ofConst, leaf, rd_set, rd_nil, Fr.ofList, binV, intV, isConst, resV, Nat.reduceEqDiff, Nat.reduceAdd, reduceIte, reduceCtorEq, Bool.or_true, List.length_cons, List.length_nil, Nat.zero_add, St.bump, List.size_toArray, Tryd.f69, h']
    exact ⟨by simp [untok, AV.strip, kindB, h], rfl⟩
end Go.Pv
