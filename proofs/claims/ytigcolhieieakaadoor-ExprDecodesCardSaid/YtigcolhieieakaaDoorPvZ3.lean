/- Same and nest, for all instructions. -/
import Derived.Test.YtigcolhieieakaaDoorPvZ2
namespace Go.Pv
open Go Go.Proofs Go.RowKit
set_option linter.unusedVariables false
set_option linter.unusedSimpArgs false
set_option maxRecDepth 100000

noncomputable def K27 : Code := cl (cr (cl (cr (cr (fb Tryd.f27)))))

theorem loop27 (a b : L) (N : Nat) (H : ∀ a' b' : L, a'.sz < N → PureW TS 16 [.sl a'.av 0, .sl b'.av 0] (.b (decide (a' = b')))) (Q : Ex → Fr → St → Prop) (hl : a.len = b.len) (hb : a.sz ≤ N) (hN : N < 4611686018427387904)
    (h1 : a = b → ∀ fr σ, Q (.exit 0) fr σ) (h2 : a ≠ b → ∀ fr σ, fr.rd 6 = .b false → Q .ret fr σ) :
    ∀ (r s : L) i fr σ, Fresh σ → a.av.drop i = r.av → b.av.drop i = s.av → i + r.len = a.len → r.len = s.len → r.sz ≤ N → (a = b ↔ r = s) → fr.rd 1 = .sl b.av 0 → fr.rd 2 = .f 28 [] → fr.rd 15 = .sl a.av 0 → fr.rd 16 = .i .i64 a.len → fr.rd 17 = .i .i64 i → CodeW TS K27 fr σ Q := by
  have hsl : a.len ≤ a.sz := Nat.le_trans (L.len_cnt a) (L.cnt_sz a)
  intro r
  induction r with
  | nil =>
    intro s i fr σ hf hda hdb hi hrs hsz hab r1 r2 r15 r16 r17
    cases s with
    | cons => simp [L.len] at hrs
    | nil =>
      simp only [L.len] at hi
      have hd : decide ((i : Int) < a.len) = false := decide_eq_false (by omega)
      simp only [K27, fb, Tryd.f27, cl, cr, Option.getD]
      rw [cw_loop]
      simp only [↓cw_exit, ↓cw_seq, ↓cw_cond, ↓cw_region, ↓then_normal, ↓then_exit, ↓draw_false, ↓ow_nil, ↓ow_cons, ↓contO_eq, ↓op_binOp, ↓force_DC, vW_some, bW_false, ifW_some, setD_some, on2_some, biV_eq, opd, rd_set, binV, intV, isConst, reduceIte, Bool.or_false, List.length_cons, List.length_nil, Nat.zero_add, St.bump, List.size_toArray, r16, r17, hd]
      exact h1 (hab.2 rfl) _ _
  | cons op n al off res b1 e1 ls r ihb ihe ih =>
    intro s i fr σ hf hda hdb hi hrs hsz hab r1 r2 r15 r16 r17
    cases s with
    | nil => simp [L.len] at hrs
    | cons op' n' al' off' res' b1' e1' ls' s =>
      obtain ⟨ha1, ha2, ha3⟩ := drop_cons hda
      obtain ⟨hb1, hb2, hb3⟩ := drop_cons hdb
      rw [L.len_av] at ha3 hb3
      simp only [L.len] at hi hrs
      simp only [L.sz] at hsz
      have hlt : decide ((i : Int) < a.len) = true := decide_eq_true (by omega)
      have h0i : (0 : Int) ≤ i := by omega
      have hcall := w_same1 op op' n n' al al' off off' res res' b1 b1' e1 e1' ls ls' (by omega) (H b1 b1' (by omega)) (H e1 e1' (by omega))
      simp only [K27, fb, Tryd.f27, cl, cr, Option.getD]
      rw [cw_loop]
      simp only [↓cw_skip, ↓cw_seq, ↓cw_block, ↓cw_cond, ↓cw_region, ↓then_normal, ↓draw_false, ↓ow_nil, ↓ow_cons, ↓contO_eq, ↓op_move, ↓op_assign, ↓op_alloc, ↓op_load, ↓op_store, ↓op_binOp, ↓op_indexAddr, ↓op_call, ↓force_DC, vW_some, pW_some, bW_true, ifW_some, setD_some, setD_none, allocV, on1_some, on2_some, ldV_eq, stV, biV_eq, callV_some, arg_val, opd, opds, rd_set, binV, intV, isConst, idxAddrV, loadV, take?, put, flat, AV.cells, undF, aggF, infF, Nat.reduceEqDiff, Nat.reduceAdd, Nat.reduceLeDiff, reduceIte, Bool.or_false, List.length_cons, List.length_nil, List.getElem?_cons_zero, List.append_nil, List.drop_zero, List.take_succ_cons, List.take_zero, List.set_cons_zero, List.set_cons_succ, Nat.zero_add, and_self, newBox, St.bump, storeV, Tr.get_set, Nat.add_assoc, Nat.add_left_cancel_iff, Int.toNat_natCast, boxFree, List.size_toArray, r1, r2, r15, r16, r17, hlt, h0i, ha1, hb1, iav, hf.hb]
      refine pc28.call ?_ hcall ?_
      · simp [untok, AV.strip, AV.strip0, Go.Pv.goods, Go.Pv.good, L.goods, goods_u32s]
      by_cases hc : op = op' ∧ n = n' ∧ al = al' ∧ off = off' ∧ res = res' ∧ ls = ls' ∧ b1 = b1' ∧ e1 = e1'
      · have hd : decide (op = op' ∧ n = n' ∧ al = al' ∧ off = off' ∧ res = res' ∧ ls = ls' ∧ b1 = b1' ∧ e1 = e1') = true := decide_eq_true hc
        simp only [↓cw_skip, ↓cw_cond, ↓cw_region, ↓then_normal, ↓block_normal, ↓draw_false, ↓ow_nil, ↓ow_cons, ↓contO_eq, ↓op_move, ↓op_binOp, ↓op_unOp, ↓force_DC, vW_some, bW_false, ifW_some, setD_some, on1_some, on2_some, biV_eq, opd, ofConst, leaf, rd_set, binV, intV, unV, isConst, Nat.reduceEqDiff, Nat.reduceAdd, reduceIte, Bool.or_true, List.length_cons, List.length_nil, Nat.zero_add, Bool.not_true, St.bump, Nat.add_assoc, List.size_toArray, r17, hd, fw_add1 (n := i) (by omega)]
        refine ih s (i + 1) _ _ ?_ ha2 hb2 (by omega) (by omega) (by omega) ?_ ?_ ?_ ?_ ?_ ?_
        · first | exact Fresh.of (by repeat (first | exact (Fresh.freeH hf (by omega)) | refine FreeH.set ?_ (by omega))) (by repeat (first | exact (Fresh.freeT hf (by omega)) | refine FreeT.set ?_ (by omega)))
        · obtain ⟨rfl, rfl, rfl, rfl, rfl, rfl, rfl, rfl⟩ := hc
          simpa using hab
        all_goals simp only [rd_set, Nat.reduceEqDiff, reduceIte, r1, r2, r15, r16, r17]
      · have hd : decide (op = op' ∧ n = n' ∧ al = al' ∧ off = off' ∧ res = res' ∧ ls = ls' ∧ b1 = b1' ∧ e1 = e1') = false := decide_eq_false hc
        simp only [↓cw_ret, ↓cw_seq, ↓cw_cond, ↓cw_region, ↓then_normal, ↓then_ret, ↓block_ret, ↓draw_false, ↓ow_nil, ↓ow_cons, ↓contO_eq, ↓op_assign, ↓op_unOp, ↓force_DC, vW_some, bW_true, ifW_some, setD_some, on1_some, opd, ofConst, leaf, rd_set, unV, Nat.reduceEqDiff, Nat.reduceAdd, reduceIte, List.length_cons, List.length_nil, Nat.zero_add, Bool.not_false, St.bump, Nat.add_assoc, List.size_toArray, hd]
        refine h2 (fun e => ?_) _ _ ?_
        · have := hab.1 e
          simp only [L.cons.injEq] at this
          exact hc ⟨this.1, this.2.1, this.2.2.1, this.2.2.2.1, this.2.2.2.2.1, this.2.2.2.2.2.2.2.1, this.2.2.2.2.2.1, this.2.2.2.2.2.2.1⟩
        · simp only [rd_set, Nat.reduceEqDiff, reduceIte]

theorem w_same : ∀ N (a b : L), a.sz < N → N ≤ 4611686018427387904 → PureW TS 16 [.sl a.av 0, .sl b.av 0] (.b (decide (a = b))) := by
  intro N
  induction N with
  | zero => intro a b h; omega
  | succ N ihN =>
    intro a b ha hN
    have hsl : a.len ≤ a.sz := Nat.le_trans (L.len_cnt a) (L.cnt_sz a)
    have h27 : PureW TS 27 [.sl a.av 0, .sl b.av 0, .f 28 []] (.b (decide (a = b))) := by
      unfold PureW
      refine callW_of ft27 rfl (Nat.le_of_ble_eq_true rfl) ?_
      have hf : Fresh St.start := Fresh.start
      generalize St.start = σ at hf
      by_cases hl : a.len = b.len
      · simp only [↓cw_skip, ↓cw_seq, ↓cw_block, ↓cw_cond, ↓cw_region, ↓then_normal, ↓draw_false, ↓ow_nil, ↓ow_cons, ↓contO_eq, ↓op_move, ↓op_assign, ↓op_binOp, ↓op_call, ↓force_DC, vW_some, pW_some, bW_false, ifW_some, setD_some, on2_some, biV_eq, arg_blt, opd, opds, ofConst, leaf, pureV, rd_set, rd_nil, Fr.ofList, binV, intV, isConst, bltV, lenV, undF, Nat.reduceEqDiff, Nat.reduceAdd, reduceIte, reduceCtorEq, Bool.or_false, List.length_cons, List.length_nil, Nat.zero_add, St.bump, Nat.add_assoc, List.size_toArray, L.len_av, hl, bne_self_eq_false]
        refine loop27 a b N (fun a' b' h' => ihN a' b' h' (by omega)) _ hl (by omega) (by omega) (fun e fr σ => ?_) (fun e fr σ r6 => ?_) a b 0 _ _ ?_ rfl rfl (by omega) hl (by omega) .rfl ?_ ?_ ?_ ?_ ?_
        · simp only [↓cw_ret, ↓cw_seq, ↓cw_region, ↓then_normal, ↓draw_false, ↓ow_nil, ↓ow_cons, ↓contO_eq, ↓op_assign, ↓ret_ret, ↓force_DQ, block_exit, vW_some, bW_true, setD_some, resW, nbeq, opd, ofConst, leaf, rd_set, resV, reduceIte, List.length_cons, List.length_nil, beq_self_eq_true, Nat.zero_add, List.size_toArray, Tryd.f27]
          exact ⟨by simp [untok, AV.strip, e], rfl⟩
        · simp only [↓then_ret, ↓block_ret, ↓ret_ret, resW, resV, Tryd.f27, r6]
          exact ⟨by simp [untok, AV.strip, e], rfl⟩
        · first | exact Fresh.of (by repeat (first | exact (Fresh.freeH hf (by omega)) | refine FreeH.set ?_ (by omega))) (by repeat (first | exact (Fresh.freeT hf (by omega)) | refine FreeT.set ?_ (by omega)))
        all_goals simp only [rd_set, rd_nil, Nat.reduceEqDiff, reduceIte, reduceCtorEq, hl]
        all_goals rfl
      · have h1 : ((a.len : Int) != b.len) = true := by simp; omega
        simp only [↓cw_ret, ↓cw_seq, ↓cw_cond, ↓cw_region, ↓then_normal, ↓then_ret, ↓draw_false, ↓ow_nil, ↓ow_cons, ↓contO_eq, ↓op_move, ↓op_assign, ↓op_binOp, ↓op_call, ↓ret_ret, ↓force_DC, vW_some, pW_some, bW_true, ifW_some, setD_some, on2_some, biV_eq, arg_blt, resW, opd, opds, ofConst, leaf, pureV, rd_set, rd_nil, Fr.ofList, binV, intV, isConst, bltV, lenV, undF, resV, Nat.reduceEqDiff, Nat.reduceAdd, reduceIte, reduceCtorEq, Bool.or_false, List.length_cons, List.length_nil, Nat.zero_add, St.bump, Nat.add_assoc, List.size_toArray, L.len_av, h1, Tryd.f27]
        exact ⟨by simp [untok, AV.strip]; intro e; exact hl (by rw [e]), rfl⟩
    unfold PureW
    refine callW_of ft16 rfl (Nat.le_of_ble_eq_true rfl) ?_
    generalize St.start = σ
    simp only [↓cw_seq, ↓cw_region, ↓then_normal, ↓draw_false, ↓ow_nil, ↓ow_cons, ↓contO_eq, ↓op_move, ↓op_assign, ↓op_call, vW_some, setD_some, callV_some, arg_val, opd, opds, ofConst, leaf, rd_set, rd_nil, Fr.ofList, Nat.reduceEqDiff, Nat.reduceAdd, reduceIte, reduceCtorEq, List.length_cons, List.length_nil, List.append_nil, Nat.zero_add, St.bump, List.size_toArray]
    refine pc27.call ?_ h27 ?_
    · simp [untok, AV.strip, Go.Pv.goods, Go.Pv.good, L.goods]
    simp only [↓cw_ret, ↓then_normal, ↓draw_false, ↓ow_nil, ↓ow_cons, ↓contO_eq, ↓op_assign, ↓ret_ret, vW_some, setD_some, resW, opd, rd_set, rd_nil, resV, Nat.reduceEqDiff, Nat.reduceAdd, reduceIte, reduceCtorEq, Tryd.f16]
    exact ⟨rfl, rfl⟩

/-- How deep blocks stand in one another. -/
def formN (op : Nat) : Option Nat := match formL[op]? with
  | some 10 => none
  | some f => some f
  | none => none
def formV (op : Nat) : AV := match formN op with
  | some f => .t [.i .i64 f, .ne]
  | none => .t [.i .i64 0, errV 1]
theorem form_prim (op : Nat) (h : op < 256) : pByte gForm [.i .u8 op] = some (formV op) := by
  show (match Nat.ble op 255 with | true => gForm op | false => none) = _
  rw [show Nat.ble op 255 = true from by rw [Nat.ble_eq]; omega]
  simp only
  unfold gForm formV formN
  have hl : op < formL.length := h
  rw [List.getElem?_eq_getElem hl]
  generalize formL[op] = f
  match f with
  | 0 => rfl
  | 1 => rfl
  | 2 => rfl
  | 3 => rfl
  | 4 => rfl
  | 5 => rfl
  | 6 => rfl
  | 7 => rfl
  | 8 => rfl
  | 9 => rfl
  | 10 => rfl
  | _ + 11 => rfl
theorem form_le : ∀ op f, formN op = some f → f ≤ 9 := by
  have : formL.all (fun f => Nat.ble f 10) = true := by decide
  intro op f h
  unfold formN at h
  cases hg : formL[op]? with
  | none => rw [hg] at h; cases h
  | some x =>
    rw [hg] at h
    have hx := List.all_eq_true.1 this x (List.mem_of_getElem? hg)
    rw [Nat.ble_eq] at hx
    split at h
    · cases h
    · rename_i hne hh
      simp only [Option.some.injEq] at h hh
      subst h
      have : x ≠ 10 := fun e => hne (by omega)
      omega
    · cases h

/-- The bounds of the parts. -/
def L.wf : L → Prop
  | .nil => True
  | .cons op n al off res b e ls r => op < 256 ∧ (-9223372036854775808 ≤ n ∧ n ≤ 9223372036854775807) ∧ (0 ≤ al ∧ al ≤ 4294967295) ∧ (0 ≤ off ∧ off ≤ 4294967295) ∧ (0 ≤ res ∧ res ≤ 255) ∧ b.wf ∧ e.wf ∧ (∀ x ∈ ls, 0 ≤ x ∧ x ≤ 4294967295) ∧ r.wf
def isBlk (op : Nat) : Bool := match formN op with
  | some 6 => true
  | some 7 => true
  | _ => false
def L.nest : L → Nat
  | .nil => 0
  | .cons op _ _ _ _ b e _ r => max (if isBlk op then max (1 + b.nest) (1 + e.nest) else 0) r.nest
theorem L.nest_sz : ∀ l : L, l.nest ≤ l.sz
  | .nil => Nat.le_refl _
  | .cons op n al off res b e ls r => by
    have := L.nest_sz b; have := L.nest_sz e; have := L.nest_sz r
    simp only [L.nest, L.sz]
    split <;> omega

noncomputable def K32 : Code := cl (cr (cl (cr (cr (fb Tryd.f32)))))
theorem fw_1add {n : Nat} (h : n < 4611686018427387904) : fw .i64 (1 + (n : Int)) = ((1 + n : Nat) : Int) := by unfold fw; simp only; rw [if_pos (by omega)]; rfl
theorem max_nat (a b : Nat) : (if (b : Int) > (a : Int) then (b : Int) else a) = ((max a b : Nat) : Int) := by split <;> omega
theorem loop32 (l : L) (N : Nat) (H : ∀ l' : L, l'.sz < N → l'.wf → PureW TS 32 [.sl l'.av 0] (.i .i64 l'.nest)) (Q : Ex → Fr → St → Prop) (hN : N < 4611686018427387904) (hb : l.sz ≤ N)
    (hQ : ∀ fr σ, fr.rd 3 = .i .i64 l.nest → Q (.exit 0) fr σ) :
    ∀ (r : L) i (acc : Nat) fr σ, Fresh σ → l.av.drop i = r.av → i + r.len = l.len → max acc r.nest = l.nest → r.wf → r.sz ≤ N → fr.rd 3 = .i .i64 acc → fr.rd 8 = .sl l.av 0 → fr.rd 9 = .i .i64 l.len → fr.rd 10 = .i .i64 i → CodeW TS K32 fr σ Q := by
  have hsl : l.len ≤ l.sz := Nat.le_trans (L.len_cnt l) (L.cnt_sz l)
  intro r
  induction r with
  | nil =>
    intro i acc fr σ hf hd hi ha hw hs r3 r8 r9 r10
    simp only [L.len] at hi
    have hd : decide ((i : Int) < l.len) = false := decide_eq_false (by omega)
    simp only [K32, fb, Tryd.f32, cl, cr, Option.getD]
    rw [cw_loop]
    simp only [↓cw_exit, ↓cw_seq, ↓cw_cond, ↓cw_region, ↓then_normal, ↓then_exit, ↓draw_false, ↓ow_nil, ↓ow_cons, ↓contO_eq, ↓op_binOp, ↓force_DC, vW_some, bW_false, ifW_some, setD_some, on2_some, biV_eq, opd, rd_set, binV, intV, isConst, reduceIte, Bool.or_false, List.length_cons, List.length_nil, Nat.zero_add, St.bump, List.size_toArray, r9, r10, hd]
    refine hQ _ _ ?_
    simp only [L.nest] at ha
    simp only [rd_set, Nat.reduceEqDiff, reduceIte, r3]
    rw [show acc = l.nest from by omega]
  | cons op n al off res b e ls r ihb ihe ih =>
    intro i acc fr σ hf hd hi ha hw hs r3 r8 r9 r10
    obtain ⟨h1, h2, h3⟩ := drop_cons hd
    simp only [L.len] at hi
    simp only [L.sz] at hs
    simp only [L.nest] at ha
    obtain ⟨hop, _, _, _, _, hbw, hew, _, hrw⟩ := hw
    have hlt : decide ((i : Int) < l.len) = true := decide_eq_true (by omega)
    have h0i : (0 : Int) ≤ i := by omega
    simp only [K32, fb, Tryd.f32, cl, cr, Option.getD]
    rw [cw_loop]
    simp only [↓cw_skip, ↓cw_seq, ↓cw_block, ↓cw_cond, ↓cw_region, ↓then_normal, ↓draw_false, ↓ow_nil, ↓ow_cons, ↓contO_eq, ↓op_alloc, ↓op_load, ↓op_store, ↓op_binOp, ↓op_fieldAddr, ↓op_indexAddr, ↓op_call, ↓force_DC, vW_some, pW_some, bW_true, ifW_some, setD_some, setD_none, allocV, on1_some, on2_some, ldV_eq, stV, biV_eq, faV_eq, callV_some, arg_val, opd, opds, rd_set, binV, intV, isConst, idxAddrV, loadV, fieldAddrV, take?, put, flat, AV.cells, undF, aggF, infF, Nat.reduceEqDiff, Nat.reduceAdd, Nat.reduceLeDiff, reduceIte, reduceCtorEq, Bool.or_false, List.length_cons, List.length_nil, List.getElem?_cons_zero, List.append_nil, List.drop_zero, List.take_succ_cons, List.take_zero, List.set_cons_zero, List.set_cons_succ, Nat.add_zero, Nat.zero_add, and_self, newBox, St.bump, storeV, Tr.get_set, Nat.add_assoc, Int.toNat_natCast, boxFree, List.size_toArray, r8, r9, r10, hlt, h0i, h1, iav, hf.hb]
    refine FnW_prim rfl (by kernel_rfl) (p := pByte gForm) (by kernel_rfl) (form_prim op hop) ?_
    have hnb := L.nest_sz b
    have hne := L.nest_sz e
    have hnl := L.nest_sz l
    cases hfn : formN op with
    | none =>
      have hk : isBlk op = false := by unfold isBlk; rw [hfn]
      rw [hk] at ha
      simp only [Bool.false_eq_true, if_false] at ha
      simp only [formV, hfn, errV]
      simp only [↓cw_skip, ↓cw_seq, ↓cw_cond, ↓cw_region, ↓then_normal, ↓block_normal, ↓draw_false, ↓ow_nil, ↓ow_cons, ↓ow_consG, ↓contO_eq, ↓op_move, ↓op_assign, ↓op_binOp, ↓op_extract, ↓op_pick, ↓force_DC, ↓force_DOs, vW_some, bW_false, ifW_some, setD_some, on1_some, on2_some, biV_eq, exV, pkV, opd, ofConst, leaf, rd_set, binV, intV, eqV, isConst, ifaceF, Nat.reduceEqDiff, Nat.reduceAdd, reduceIte, Bool.or_true, List.length_cons, List.length_nil, List.getElem?_cons_zero, List.getElem?_cons_succ, Nat.zero_add, St.bump, wantG, Option.bind, Nat.add_assoc, beqT, List.size_toArray, r10, fw_add1 (n := i) (by omega)]
      refine ih (i + 1) acc _ _ ?_ h2 (by omega) (by omega) hrw (by omega) ?_ ?_ ?_ ?_
      · first | exact Fresh.of (by repeat (first | exact (Fresh.freeH hf (by omega)) | refine FreeH.set ?_ (by omega))) (by repeat (first | exact (Fresh.freeT hf (by omega)) | refine FreeT.set ?_ (by omega)))
      all_goals simp only [rd_set, Nat.reduceEqDiff, reduceIte, r3, r8, r9, r10]
    | some f =>
      simp only [formV, hfn]
      by_cases hf6 : f = 6 ∨ f = 7
      · have hk : isBlk op = true := by unfold isBlk; rw [hfn]; rcases hf6 with rfl | rfl <;> rfl
        rw [hk, if_pos rfl] at ha
        have h7 : ((f : Int) == 7) = true ∨ ((f : Int) == 6) = true := by rcases hf6 with rfl | rfl <;> simp
        rcases hf6 with rfl | rfl
        all_goals
          simp only [↓cw_seq, ↓cw_cond, ↓cw_region, ↓then_normal, ↓draw_false, ↓ow_nil, ↓ow_cons, ↓ow_consG, ↓contO_eq, ↓op_move, ↓op_assign, ↓op_load, ↓op_binOp, ↓op_fieldAddr, ↓op_extract, ↓op_pick, ↓op_call, ↓force_DC, ↓force_DO, ↓force_DOs, vW_some, bW_true, bW_false, ifW_some, setD_some, on1_some, on2_some, ldV_eq, biV_eq, faV_eq, exV, pkV, callV_some, arg_val, opd, opds, ofConst, leaf, rd_set, binV, intV, eqV, isConst, loadV, fieldAddrV, take?, undF, aggF, infF, ifaceF, Nat.reduceEqDiff, Nat.reduceAdd, Nat.reduceLeDiff, reduceIte, reduceCtorEq, Bool.or_true, Bool.and_true, List.length_cons, List.length_nil, List.getElem?_cons_zero, List.getElem?_cons_succ, List.append_nil, List.drop_succ_cons, List.drop_zero, List.take_succ_cons, List.take_zero, Int.reduceBEq, beq_self_eq_true, Nat.zero_add, Bool.not_true, St.bump, Tr.get_set, wantG, Option.bind, Nat.add_assoc, beqF, List.size_toArray, r3, Int.cast_ofNat_Int]
          refine pc32.call (by simp [untok, AV.strip, Go.Pv.goods, Go.Pv.good, L.goods]) (H b (by omega) hbw) ?_
          simp only [↓ow_cons, ↓contO_eq, ↓op_load, ↓op_binOp, ↓op_fieldAddr, ↓op_call, vW_some, setD_some, on1_some, on2_some, ldV_eq, biV_eq, faV_eq, callV_some, arg_val, opd, opds, ofConst, leaf, rd_set, binV, intV, isConst, loadV, fieldAddrV, take?, undF, aggF, infF, Nat.reduceEqDiff, Nat.reduceAdd, Nat.reduceLeDiff, reduceIte, reduceCtorEq, Bool.or_false, List.length_cons, List.length_nil, List.getElem?_cons_zero, List.getElem?_cons_succ, List.append_nil, List.drop_succ_cons, List.drop_zero, List.take_succ_cons, List.take_zero, Nat.zero_add, Tr.get_set]
          refine pc32.call (by simp [untok, AV.strip, Go.Pv.goods, Go.Pv.good, L.goods]) (H e (by omega) hew) ?_
          simp only [↓cw_region, ↓then_normal, ↓block_normal, ↓draw_false, ↓draw_true, ↓ow_nil, ↓ow_cons, ↓contO_eq, ↓op_move, ↓op_assign, ↓op_binOp, ↓op_call, ↓force_DQ, vW_some, pW_some, bW_false, setD_some, on2_some, biV_eq, arg_blt, opd, opds, ofConst, leaf, rd_set, binV, intV, isConst, bltV, hasStore, isStore, Nat.reduceEqDiff, Nat.reduceAdd, reduceIte, Bool.or_false, Bool.or_true, List.any, List.length_cons, List.length_nil, Nat.zero_add, St.bump, Nat.add_assoc, List.size_toArray, r10, fw_1add (n := b.nest) (by omega), fw_1add (n := e.nest) (by omega), maxV, max_nat, fw_add1 (n := i) (by omega)]
          refine ih (i + 1) (max (max acc (1 + b.nest)) (1 + e.nest)) _ _ ?_ h2 (by omega) (by omega) hrw (by omega) ?_ ?_ ?_ ?_
          · first | exact Fresh.of (by repeat (first | exact (Fresh.freeH hf (by omega)) | refine FreeH.set ?_ (by omega))) (by repeat (first | exact (Fresh.freeT hf (by omega)) | refine FreeT.set ?_ (by omega)))
          all_goals simp only [rd_set, Nat.reduceEqDiff, reduceIte, r3, r8, r9, r10]
      · have hk : isBlk op = false := by
          unfold isBlk; rw [hfn]
          split
          · rename_i h; cases h; exact absurd (.inl rfl) hf6
          · rename_i h; cases h; exact absurd (.inr rfl) hf6
          · rfl
        rw [hk] at ha
        simp only [Bool.false_eq_true, if_false] at ha
        have h6 : ((f : Int) == 6) = false := by simp; omega
        have h7 : ((f : Int) == 7) = false := by simp; omega
        simp only [↓cw_skip, ↓cw_seq, ↓cw_cond, ↓cw_region, ↓then_normal, ↓block_normal, ↓draw_false, ↓ow_nil, ↓ow_cons, ↓ow_consG, ↓contO_eq, ↓op_move, ↓op_assign, ↓op_binOp, ↓op_extract, ↓op_pick, ↓force_DC, ↓force_DO, vW_some, bW_true, bW_false, ifW_some, setD_some, on1_some, on2_some, biV_eq, exV, pkV, opd, ofConst, leaf, rd_set, binV, intV, eqV, isConst, ifaceF, Nat.reduceEqDiff, Nat.reduceAdd, reduceIte, Bool.or_true, Bool.and_true, List.length_cons, List.length_nil, List.getElem?_cons_zero, List.getElem?_cons_succ, beq_self_eq_true, Nat.zero_add, St.bump, wantG, Option.bind, Nat.add_assoc, List.size_toArray, r10, h6, h7, fw_add1 (n := i) (by omega)]
        refine ih (i + 1) acc _ _ ?_ h2 (by omega) (by omega) hrw (by omega) ?_ ?_ ?_ ?_
        · first | exact Fresh.of (by repeat (first | exact (Fresh.freeH hf (by omega)) | refine FreeH.set ?_ (by omega))) (by repeat (first | exact (Fresh.freeT hf (by omega)) | refine FreeT.set ?_ (by omega)))
        all_goals simp only [rd_set, Nat.reduceEqDiff, reduceIte, r3, r8, r9, r10]

theorem w_nest : ∀ N (l : L), l.sz < N → N ≤ 4611686018427387904 → l.wf → PureW TS 32 [.sl l.av 0] (.i .i64 l.nest) := by
  intro N
  induction N with
  | zero => intro l h; omega
  | succ N ihN =>
    intro l hl hN hw
    unfold PureW
    refine callW_of ft32 rfl (Nat.le_of_ble_eq_true rfl) ?_
    have hf : Fresh St.start := Fresh.start
    generalize St.start = σ at hf
    simp only [↓cw_seq, ↓cw_block, ↓cw_region, ↓then_normal, ↓draw_false, ↓ow_nil, ↓ow_cons, ↓contO_eq, ↓op_move, ↓op_assign, ↓op_call, vW_some, pW_some, setD_some, arg_blt, opd, opds, ofConst, leaf, pureV, rd_set, rd_nil, Fr.ofList, bltV, lenV, undF, Nat.reduceEqDiff, Nat.reduceAdd, reduceIte, reduceCtorEq, List.length_cons, List.length_nil, Nat.zero_add, St.bump, Nat.add_assoc, List.size_toArray, L.len_av]
    refine loop32 l N (fun l' h' hw' => ihN l' h' (by omega) hw') _ (by omega) (by omega) (fun fr σ r3 => ?_) l 0 0 _ _ ?_ rfl (by omega) (by omega) hw (by omega) ?_ ?_ ?_ ?_
    · simp only [↓cw_ret, ↓cw_seq, ↓cw_region, ↓then_normal, ↓draw_false, ↓ow_nil, ↓ow_cons, ↓contO_eq, ↓op_move, ↓op_assign, ↓ret_ret, ↓force_DQ, block_exit, vW_some, bW_true, setD_some, resW, nbeq, opd, rd_set, resV, Nat.reduceEqDiff, Nat.reduceAdd, reduceIte, List.length_cons, List.length_nil, beq_self_eq_true, Nat.zero_add, List.size_toArray, r3, Tryd.f32]
      exact ⟨rfl, rfl⟩
    · first | exact Fresh.of (by repeat (first | exact (Fresh.freeH hf (by omega)) | refine FreeH.set ?_ (by omega))) (by repeat (first | exact (Fresh.freeT hf (by omega)) | refine FreeT.set ?_ (by omega)))
    all_goals simp only [rd_set, rd_nil, Nat.reduceEqDiff, reduceIte, reduceCtorEq]
    all_goals rfl
end Go.Pv
