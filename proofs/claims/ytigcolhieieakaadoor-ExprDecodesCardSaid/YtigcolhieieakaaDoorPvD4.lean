/- The program's numbers off bytes, whatever the bytes are: check, length, TakeU. (PvZ6) -/
import Derived.Test.YtigcolhieieakaaDoorPvD3
import Derived.Test.YtigcolhieieakaaDoorPvR5
namespace Go.Pv
open Go Go.Proofs Go.RowKit
set_option linter.unusedVariables false
set_option linter.unusedSimpArgs false
set_option maxRecDepth 100000

def nat8 (bs : List Nat) : List AV := u8s (bs.map fun n : Nat => (n : Int))
theorem nat8_len (bs : List Nat) : (nat8 bs).length = bs.length := by simp [nat8, u8s]
theorem nat8_get {bs : List Nat} {i c : Nat} (h : bs[i]? = some c) : (nat8 bs)[i]? = some (.i .u8 (c : Int)) := by simp [nat8, u8s, h]
theorem goods_nat8 (bs : List Nat) : goods (nat8 bs) = true := goods_u8s _
theorem head_nat8 (l : List Nat) : (headSize 1 (nat8 l) = true) = True := by simp [nat8, head_u8s]
theorem nat8_drop (l : List Nat) (n : Nat) : (nat8 l).drop n = nat8 (l.drop n) := by simp [nat8, u8s]

theorem w_width (w : Int) (hw : w = 32 ∨ w = 64) : PureW TS 78 [.i .i64 w] .ne := by
  unfold PureW
  refine callW_of ft78 rfl (Nat.le_of_ble_eq_true rfl) ?_
  generalize St.start = σ
  rcases hw with rfl | rfl <;> simp only [↓cw_skip, ↓cw_ret, ↓cw_seq, ↓cw_cond, ↓cw_region, ↓then_normal, ↓draw_false, ↓ow_nil, ↓ow_cons, ↓ow_consG, ↓contO_eq, ↓op_move, ↓op_assign, ↓op_binOp, ↓op_pick, ↓ret_ret, ↓force_DC, ↓force_DO, vW_some, bW_true, bW_false, ifW_some, setD_some, on2_some, biV_eq, pkV, resW, opd, ofConst, leaf, rd_set, rd_nil, Fr.ofList, binV, intV, isConst, resV, Nat.reduceEqDiff, Nat.reduceAdd, reduceIte, reduceCtorEq, Bool.or_true, List.length_cons, List.length_nil, List.getElem?_cons_zero, List.getElem?_cons_succ, decide_false, Int.reduceLT, Int.reduceGT, beq_self_eq_true, Nat.zero_add, St.bump, wantG, Option.bind, Nat.add_assoc, List.size_toArray, Tryd.f78] <;> exact ⟨rfl, rfl⟩

noncomputable def K79 : Code :=  cl (cr (cl (cr (cr (fb Tryd.f79)))))
theorem loop79 (bs : List Nat) (w : Int) (most : Nat) (Q : Ex → Fr → St → Prop) (hb : bs.length < 4611686018427387904) :
    ∀ (r : List Nat) i fr σ, bs.drop i = r → i ≤ most → fr.rd 0 = .sl (nat8 bs) 0 → fr.rd 6 = .i .i64 most → fr.rd 13 = .sl (nat8 bs) 0 → fr.rd 14 = .i .i64 bs.length → fr.rd 15 = .i .i64 i →
      (∀ l, grp (most - i) r = .ok l → ∀ fr σ, fr.rd 4 = .i .i64 (i + l.length : Nat) → fr.rd 5 = .ne → Q .ret fr σ) →
      (∀ e, grp (most - i) r = .bad e → ∀ fr σ, fr.rd 0 = .sl (nat8 bs) 0 → fr.rd 6 = .i .i64 most → Q (.exit 0) fr σ) → CodeW TS K79 fr σ Q := by
  intro r
  induction r with
  | nil =>
    intro i fr σ hd hi r0 r6 r13 r14 r15 hok hbad
    have h1 := drop_nil hd
    have hlt : decide ((i : Int) < bs.length) = false := decide_eq_false (by omega)
    simp only [K79, fb, Tryd.f79, cl, cr, Option.getD]
    rw [cw_loop]
    simp only [↓cw_exit, ↓cw_seq, ↓cw_cond, ↓cw_region, ↓then_normal, ↓then_exit, ↓draw_false, ↓ow_nil, ↓ow_cons, ↓contO_eq, ↓op_binOp, ↓force_DC, vW_some, bW_false, ifW_some, setD_some, on2_some, biV_eq, opd, rd_set, binV, intV, isConst, reduceIte, Bool.or_false, List.length_cons, List.length_nil, Nat.zero_add, St.bump, List.size_toArray, r14, r15, hlt]
    cases hg : grp (most - i) [] with
    | ok l => exfalso; cases hm : most - i <;> simp [hm, grp] at hg
    | bad e =>
      refine hbad e hg _ _ ?_ ?_
      · simp only [rd_set, reduceIte, reduceCtorEq, r0]
      · simp only [rd_set, Nat.reduceEqDiff, reduceIte, r6]
  | cons c r ih =>
    intro i fr σ hd hi r0 r6 r13 r14 r15 hok hbad
    obtain ⟨h1, h2, h3⟩ := drop_cons hd
    have hlt : decide ((i : Int) < bs.length) = true := decide_eq_true (by omega)
    have h0i : (0 : Int) ≤ i := by omega
    simp only [K79, fb, Tryd.f79, cl, cr, Option.getD]
    rw [cw_loop]
    by_cases him : i = most
    · have he : ((i : Int) == (most : Int)) = true := by rw [him]; simp
      simp only [↓cw_skip, ↓cw_exit, ↓cw_seq, ↓cw_block, ↓cw_cond, ↓cw_region, ↓then_normal, ↓then_exit, ↓draw_false, ↓ow_nil, ↓ow_cons, ↓contO_eq, ↓op_move, ↓op_assign, ↓op_load, ↓op_binOp, ↓op_indexAddr, ↓force_DC, ↓force_DQ, block_exit, vW_some, bW_true, bW_false, ifW_some, setD_some, on1_some, on2_some, ldV_eq, biV_eq, nbeq, opd, rd_set, binV, intV, isConst, idxAddrV, loadV, take?, AV.cells, undF, aggF, infF, Nat.reduceEqDiff, Nat.reduceAdd, Nat.reduceLeDiff, Nat.reduceBEq, reduceIte, reduceCtorEq, Bool.or_false, List.length_cons, List.length_nil, List.getElem?_cons_zero, List.drop_zero, List.take_succ_cons, List.take_zero, Nat.zero_add, St.bump, Nat.add_assoc, Int.toNat_natCast, List.size_toArray, r6, r13, r14, r15, hlt, h0i, nat8_get h1, he]
      cases hg : grp (most - i) (c :: r) with
      | ok l => exfalso; rw [him, Nat.sub_self] at hg; simp [grp] at hg
      | bad e =>
        refine hbad e hg _ _ ?_ ?_
        · simp only [rd_set, reduceIte, reduceCtorEq, r0]
        · simp only [rd_set, Nat.reduceEqDiff, reduceIte, r6]
    · have he : ((i : Int) == (most : Int)) = false := by rw [beq_eq_false_iff_ne]; omega
      obtain ⟨q, hq⟩ : ∃ q, most - i = q + 1 := ⟨most - i - 1, by omega⟩
      have hq' : most - (i + 1) = q := by omega
      rw [hq] at hok hbad
      by_cases hc : c < 128
      · have hc' : decide ((c : Int) < 128) = true := decide_eq_true (by omega)
        simp only [↓cw_skip, ↓cw_ret, ↓cw_seq, ↓cw_block, ↓cw_cond, ↓cw_region, ↓then_normal, ↓then_ret, ↓block_ret, ↓draw_false, ↓ow_nil, ↓ow_cons, ↓contO_eq, ↓op_move, ↓op_assign, ↓op_load, ↓op_binOp, ↓op_indexAddr, ↓force_DC, vW_some, bW_true, bW_false, ifW_some, setD_some, on1_some, on2_some, ldV_eq, biV_eq, opd, ofConst, leaf, rd_set, binV, intV, isConst, idxAddrV, loadV, take?, AV.cells, undF, aggF, infF, Nat.reduceEqDiff, Nat.reduceAdd, Nat.reduceLeDiff, reduceIte, reduceCtorEq, Bool.or_false, Bool.or_true, List.length_cons, List.length_nil, List.getElem?_cons_zero, List.drop_zero, List.take_succ_cons, List.take_zero, Nat.zero_add, St.bump, Nat.add_assoc, Int.toNat_natCast, List.size_toArray, r6, r13, r14, r15, hlt, h0i, nat8_get h1, he, hc', fw_add1 (n := i) (by omega)]
        refine hok [c] (by simp [grp, hc]) _ _ ?_ ?_
        · simp only [rd_set, Nat.reduceEqDiff, reduceIte, List.length_cons, List.length_nil, Nat.zero_add]
        · simp only [rd_set, Nat.reduceEqDiff, reduceIte]
      · have hc' : decide ((c : Int) < 128) = false := decide_eq_false (by omega)
        simp only [↓cw_skip, ↓cw_seq, ↓cw_block, ↓cw_cond, ↓cw_region, ↓then_normal, ↓block_normal, ↓draw_false, ↓ow_nil, ↓ow_cons, ↓contO_eq, ↓op_move, ↓op_assign, ↓op_load, ↓op_binOp, ↓op_indexAddr, ↓force_DC, vW_some, bW_true, bW_false, ifW_some, setD_some, on1_some, on2_some, ldV_eq, biV_eq, opd, ofConst, leaf, rd_set, binV, intV, isConst, idxAddrV, loadV, take?, AV.cells, undF, aggF, infF, Nat.reduceEqDiff, Nat.reduceAdd, Nat.reduceLeDiff, reduceIte, reduceCtorEq, Bool.or_false, Bool.or_true, List.length_cons, List.length_nil, List.getElem?_cons_zero, List.drop_zero, List.take_succ_cons, List.take_zero, Nat.zero_add, St.bump, Nat.add_assoc, Int.toNat_natCast, List.size_toArray, r6, r13, r14, r15, hlt, h0i, nat8_get h1, he, hc', fw_add1 (n := i) (by omega)]
        refine ih (i + 1) _ _ h2 (by omega) ?_ ?_ ?_ ?_ ?_ ?_ ?_
        · simp only [rd_set, reduceIte, reduceCtorEq, r0]
        · simp only [rd_set, Nat.reduceEqDiff, reduceIte, r6]
        · simp only [rd_set, Nat.reduceEqDiff, reduceIte, r13]
        · simp only [rd_set, Nat.reduceEqDiff, reduceIte, r14]
        · simp only [rd_set, Nat.reduceEqDiff, reduceIte]
        · intro l hg fr' σ' q4 q5
          rw [hq'] at hg
          refine hok (c % 128 :: l) (by simp [grp, hc, hg]) fr' σ' ?_ q5
          rw [q4]; congr 1; simp only [List.length_cons]; omega
        · intro e hg fr' σ' q0 q6
          rw [hq'] at hg
          exact hbad e (by simp [grp, hc, hg]) fr' σ' q0 q6

def lenV2 (g : Rg) : AV := match g with
  | .ok l => .t [.i .i64 l.length, .ne]
  | .bad e => .t [.i .i64 0, errV e]
theorem w_length (bs : List Nat) (w : Int) (most : Nat) (hw : w = 32 ∧ most = 5 ∨ w = 64 ∧ most = 10) (hb : bs.length < 4611686018427387904) : PureW TS 79 [.sl (nat8 bs) 0, .i .i64 w] (lenV2 (grp most bs)) := by
  unfold PureW
  refine callW_of ft79 rfl (Nat.le_of_ble_eq_true rfl) ?_
  generalize St.start = σ
  have hm : fw .i64 (Int.tdiv (fw .i64 (fw .i64 (w + 7) - 1)) 7) = (most : Int) := by
    rcases hw with ⟨rfl, rfl⟩ | ⟨rfl, rfl⟩ <;> rfl
  simp only [↓cw_seq, ↓cw_block, ↓cw_region, ↓then_normal, ↓draw_false, ↓ow_nil, ↓ow_cons, ↓contO_eq, ↓op_move, ↓op_assign, ↓op_binOp, ↓op_call, vW_some, pW_some, setD_some, on2_some, biV_eq, arg_blt, opd, opds, ofConst, leaf, pureV, rd_set, rd_nil, Fr.ofList, binV, intV, isConst, bltV, lenV, undF, Nat.reduceEqDiff, Nat.reduceAdd, reduceIte, reduceCtorEq, Bool.or_true, List.length_cons, List.length_nil, Int.reduceEq, Nat.zero_add, St.bump, Nat.add_assoc, List.size_toArray, nat8_len, hm]
  refine loop79 bs w most _ hb bs 0 _ _ rfl (by omega) ?_ ?_ ?_ ?_ ?_ (fun l hg fr σ q4 q5 => ?_) fun e hg fr σ q0 q6 => ?_
  · simp only [rd_set, rd_nil, reduceIte, reduceCtorEq]
  · simp only [rd_set, rd_nil, Nat.reduceEqDiff, reduceIte, reduceCtorEq]
  · simp only [rd_set, rd_nil, Nat.reduceEqDiff, reduceIte, reduceCtorEq]
  · simp only [rd_set, rd_nil, Nat.reduceEqDiff, reduceIte, reduceCtorEq]
  · simp only [rd_set, rd_nil, Nat.reduceEqDiff, reduceIte, reduceCtorEq]
    rfl
  · simp only [↓then_ret, ↓block_ret, ↓ret_ret, resW, resV, Nat.zero_add, q4, q5, Tryd.f79]
    rw [Nat.sub_zero] at hg
    rw [hg]
    exact ⟨by simp [lenV2, untok, AV.strip], rfl⟩
  · rw [Nat.sub_zero] at hg
    rw [hg]
    have h4 := (grp_bad _ _ _ hg).2
    by_cases hl : bs.length < most
    · have hl' : decide ((bs.length : Int) < most) = true := decide_eq_true (by omega)
      simp only [↓cw_ret, ↓cw_seq, ↓cw_cond, ↓cw_region, ↓then_normal, ↓then_ret, ↓draw_false, ↓ow_nil, ↓ow_cons, ↓contO_eq, ↓op_move, ↓op_assign, ↓op_binOp, ↓op_makeInterface, ↓op_call, ↓ret_ret, ↓force_DC, ↓force_DQ, block_exit, vW_some, pW_some, bW_true, ifW_some, setD_some, on2_some, biV_eq, mkI, arg_blt, resW, nbeq, opd, opds, ofConst, leaf, pureV, rd_set, binV, intV, isConst, bltV, lenV, undF, resV, Nat.reduceEqDiff, Nat.reduceAdd, reduceIte, Bool.or_false, List.length_cons, List.length_nil, beq_self_eq_true, Nat.zero_add, St.bump, List.size_toArray, q0, q6, nat8_len, hl', Tryd.f79]
      rw [h4, if_pos hl]
      exact ⟨rfl, rfl⟩
    · have hl' : decide ((bs.length : Int) < most) = false := decide_eq_false (by omega)
      simp only [↓cw_skip, ↓cw_ret, ↓cw_seq, ↓cw_cond, ↓cw_region, ↓then_normal, ↓draw_false, ↓ow_nil, ↓ow_cons, ↓contO_eq, ↓op_move, ↓op_assign, ↓op_binOp, ↓op_makeInterface, ↓op_call, ↓ret_ret, ↓force_DC, ↓force_DQ, block_exit, vW_some, pW_some, bW_true, bW_false, ifW_some, setD_some, on2_some, biV_eq, mkI, arg_blt, resW, nbeq, opd, opds, ofConst, leaf, pureV, rd_set, binV, intV, isConst, bltV, lenV, undF, resV, Nat.reduceEqDiff, Nat.reduceAdd, reduceIte, Bool.or_false, List.length_cons, List.length_nil, beq_self_eq_true, Nat.zero_add, St.bump, List.size_toArray, q0, q6, nat8_len, hl', Tryd.f79]
      rw [h4, if_neg hl]
      exact ⟨rfl, rfl⟩

noncomputable def K74 : Code :=  cl (cr (cl (cr (cr (cr (cr (cr (fb Tryd.f74))))))))
theorem loop74 (bs l : List Nat) (g : GrpOk 5 bs l) (hbb : ∀ c ∈ bs, c < 256) (Q : Ex → Fr → St → Prop) :
    ∀ k fr σ, k ≤ l.length → fr.rd 0 = .sl (nat8 bs) 0 → fr.rd 1 = .i .i64 32 → fr.rd 8 = .i .i64 l.length → fr.rd 10 = .i .u64 (val (l.drop k) : Nat) → fr.rd 11 = .i .i64 ((k : Int) - 1) →
      (∀ fr σ, fr.rd 0 = .sl (nat8 bs) 0 → fr.rd 1 = .i .i64 32 → fr.rd 8 = .i .i64 l.length → fr.rd 10 = .i .u64 (val l : Nat) → Q (.exit 0) fr σ) → CodeW TS K74 fr σ Q := by
  intro k
  induction k with
  | zero =>
    intro fr σ hk r0 r1 r8 r10 r11 hQ
    have hd : decide (((0 : Nat) : Int) - 1 ≥ 0) = false := by decide
    simp only [K74, fb, Tryd.f74, cl, cr, Option.getD]
    rw [cw_loop]
    simp only [↓cw_exit, ↓cw_seq, ↓cw_cond, ↓cw_region, ↓then_normal, ↓then_exit, ↓draw_false, ↓ow_nil, ↓ow_cons, ↓contO_eq, ↓op_move, ↓op_binOp, ↓force_DC, vW_some, bW_false, ifW_some, setD_some, on2_some, biV_eq, opd, ofConst, leaf, rd_set, binV, intV, isConst, Nat.reduceEqDiff, Nat.reduceAdd, reduceIte, Bool.or_true, List.length_cons, List.length_nil, Nat.zero_add, St.bump, List.size_toArray, r11, hd]
    refine hQ _ _ ?_ ?_ ?_ ?_
    · simp only [rd_set, reduceIte, reduceCtorEq, r0]
    · simp only [rd_set, Nat.reduceEqDiff, reduceIte, r1]
    · simp only [rd_set, Nat.reduceEqDiff, reduceIte, r8]
    · simp only [rd_set, Nat.reduceEqDiff, reduceIte, List.drop_zero, r10]
  | succ k ih =>
    intro fr σ hk r0 r1 r8 r10 r11 hQ
    have e : ((k + 1 : Nat) : Int) - 1 = (k : Int) := by omega
    rw [e] at r11
    have hd : decide ((k : Int) ≥ 0) = true := decide_eq_true (by omega)
    have h0i : (0 : Int) ≤ k := by omega
    have hlb := g.len
    obtain ⟨c, hc⟩ : ∃ c, bs[k]? = some c := ⟨_, List.getElem?_eq_getElem (show k < bs.length by omega)⟩
    have hlc := g.get k c hc (by omega)
    have hv := val_drop hlc
    have h256 := hbb c (List.mem_of_getElem? hc)
    have hmost := g.most
    have hlt := val_lt (l.drop k) fun x hx => g.lt x (List.mem_of_mem_drop hx)
    rw [List.length_drop] at hlt
    have hlt2 : val (l.drop k) < 34359738368 := Nat.lt_of_lt_of_le hlt (Nat.le_trans (Nat.pow_le_pow_right (by omega) (show l.length - k ≤ 5 by omega)) (by decide))
    have hs := shl7_u64 (val (l.drop (k + 1))) (by omega)
    have ho := or_u64 (val (l.drop (k + 1))) (c % 128) (by omega) (by omega)
    have hcv : fw .u64 ((c % 128 : Nat) : Int) = ((c % 128 : Nat) : Int) := fw_u64_of _ (by omega)
    have hfs : fw .i64 ((k : Int) - 1) = (k : Int) - 1 := by unfold fw; simp only; rw [if_pos (by omega)]
    simp only [K74, fb, Tryd.f74, cl, cr, Option.getD]
    rw [cw_loop]
    simp only [↓cw_skip, ↓cw_seq, ↓cw_block, ↓cw_cond, ↓cw_region, ↓then_normal, ↓block_normal, ↓draw_false, ↓ow_nil, ↓ow_cons, ↓contO_eq, ↓op_move, ↓op_assign, ↓op_load, ↓op_binOp, ↓op_convert, ↓op_indexAddr, ↓force_DC, vW_some, bW_true, ifW_some, setD_some, on1_some, on2_some, ldV_eq, biV_eq, opd, ofConst, leaf, rd_set, binV, intV, shiftV, convV, isConst, idxAddrV, loadV, take?, AV.cells, undF, aggF, infF, Nat.reduceEqDiff, Nat.reduceAdd, Nat.reduceLeDiff, reduceIte, reduceCtorEq, Bool.or_false, Bool.or_true, List.length_cons, List.length_nil, List.getElem?_cons_zero, List.drop_zero, List.take_succ_cons, List.take_zero, decide_true, Int.reduceLT, Nat.zero_add, St.bump, Nat.add_assoc, Int.toNat_natCast, List.size_toArray, r0, r10, r11, h0i, nat8_get hc, hs, not128_nat c h256, hcv, ho, hfs]
    refine ih _ _ (by omega) ?_ ?_ ?_ ?_ ?_ hQ
    · simp only [rd_set, reduceIte, reduceCtorEq, r0]
    · simp only [rd_set, Nat.reduceEqDiff, reduceIte, r1]
    · simp only [rd_set, Nat.reduceEqDiff, reduceIte, r8]
    · simp only [rd_set, Nat.reduceEqDiff, reduceIte]
      rw [hv]; congr 1; omega
    · simp only [rd_set, Nat.reduceEqDiff, reduceIte]

def takeUV (r : Rv Nat) : AV := match r with
  | .ok v n => .t [.i .u64 v, .i .i64 n, .ne]
  | .bad e => .t [.i .u64 0, .i .i64 0, errV e]
theorem w_takeUA (bs : List Nat) (hbb : ∀ c ∈ bs, c < 256) (hb : bs.length < 4611686018427387904) : PureW TS 74 [.sl (nat8 bs) 0, .i .i64 32] (takeUV (tU bs)) := by
  unfold PureW
  refine callW_of ft74 rfl (Nat.le_of_ble_eq_true rfl) ?_
  generalize St.start = σ
  simp only [↓cw_seq, ↓cw_region, ↓then_normal, ↓draw_false, ↓ow_nil, ↓ow_cons, ↓contO_eq, ↓op_move, ↓op_assign, ↓op_call, vW_some, setD_some, callV_some, arg_val, opd, opds, ofConst, leaf, rd_set, rd_nil, Fr.ofList, Nat.reduceEqDiff, Nat.reduceAdd, reduceIte, reduceCtorEq, List.length_cons, List.length_nil, List.append_nil, Nat.zero_add, St.bump, List.size_toArray]
  refine pc78.call rfl (w_width 32 (.inl rfl)) ?_
  simp only [↓cw_skip, ↓cw_seq, ↓cw_cond, ↓cw_region, ↓then_normal, ↓draw_false, ↓ow_nil, ↓ow_cons, ↓contO_eq, ↓op_move, ↓op_assign, ↓op_binOp, ↓op_call, ↓force_DC, vW_some, bW_false, ifW_some, setD_some, on2_some, biV_eq, callV_some, arg_val, opd, opds, ofConst, leaf, rd_set, rd_nil, binV, eqV, isConst, ifaceF, Nat.reduceEqDiff, Nat.reduceAdd, reduceIte, reduceCtorEq, Bool.or_true, Bool.and_true, List.length_cons, List.length_nil, List.append_nil, Nat.zero_add, Bool.not_true, St.bump, Nat.add_assoc, List.size_toArray]
  refine pc79.call (by simp [untok, AV.strip, Go.Pv.goods, Go.Pv.good, goods_nat8]) (w_length bs 32 5 (.inl ⟨rfl, rfl⟩) hb) ?_
  cases hg : grp 5 bs with
  | bad e =>
    simp only [lenV2, errV]
    simp only [↓cw_ret, ↓cw_seq, ↓cw_cond, ↓cw_region, ↓then_normal, ↓then_ret, ↓draw_false, ↓ow_nil, ↓ow_cons, ↓contO_eq, ↓op_move, ↓op_assign, ↓op_binOp, ↓op_extract, ↓ret_ret, ↓force_DC, vW_some, bW_true, ifW_some, setD_some, on1_some, on2_some, biV_eq, exV, resW, opd, ofConst, leaf, rd_set, rd_nil, binV, eqV, isConst, ifaceF, resV, Nat.reduceEqDiff, Nat.reduceAdd, reduceIte, reduceCtorEq, Bool.or_true, List.length_cons, List.length_nil, List.getElem?_cons_zero, List.getElem?_cons_succ, Nat.zero_add, Bool.not_false, St.bump, Nat.add_assoc, List.size_toArray, Tryd.f74]
    simp only [tU, hg, takeUV]
    exact ⟨rfl, rfl⟩
  | ok l =>
    have g := grp_ok _ _ _ hg
    have hmost := g.most
    have hpos := List.length_pos_iff.2 g.ne
    have h1 : fw .i64 ((l.length : Int) - 1) = ((l.length - 1 : Nat) : Int) := by unfold fw; simp only; rw [if_pos (by omega)]; omega
    simp only [lenV2]
    simp only [↓cw_skip, ↓cw_seq, ↓cw_block, ↓cw_cond, ↓cw_region, ↓then_normal, ↓draw_false, ↓ow_nil, ↓ow_cons, ↓contO_eq, ↓op_move, ↓op_assign, ↓op_binOp, ↓op_extract, ↓force_DC, vW_some, bW_false, ifW_some, setD_some, on1_some, on2_some, biV_eq, exV, opd, ofConst, leaf, rd_set, rd_nil, binV, intV, eqV, isConst, ifaceF, Nat.reduceEqDiff, Nat.reduceAdd, reduceIte, reduceCtorEq, Bool.or_true, Bool.and_true, List.length_cons, List.length_nil, List.getElem?_cons_zero, List.getElem?_cons_succ, Nat.zero_add, Bool.not_true, St.bump, Nat.add_assoc, List.size_toArray, h1]
    refine loop74 bs l g hbb _ l.length _ _ (Nat.le_refl _) ?_ ?_ ?_ ?_ ?_ fun fr σ q0 q1 q8 q10 => ?_
    · simp only [rd_set, rd_nil, reduceIte, reduceCtorEq]
    · simp only [rd_set, rd_nil, Nat.reduceEqDiff, reduceIte, reduceCtorEq]
    · simp only [rd_set, rd_nil, Nat.reduceEqDiff, reduceIte, reduceCtorEq]
    · simp only [rd_set, rd_nil, Nat.reduceEqDiff, reduceIte, reduceCtorEq]
      simp [val]
    · simp only [rd_set, rd_nil, Nat.reduceEqDiff, reduceIte, reduceCtorEq]
      congr 1; omega
    have h2 : fw .i64 (7 * ((l.length - 1 : Nat) : Int)) = 7 * ((l.length - 1 : Nat) : Int) := by unfold fw; simp only; rw [if_pos (by omega)]
    have h3 : fw .i64 (32 - 7 * ((l.length - 1 : Nat) : Int)) = 32 - 7 * ((l.length - 1 : Nat) : Int) := by unfold fw; simp only; rw [if_pos (by omega)]
    have hvl := val_last l g.ne
    have hdl := val_lt l.dropLast fun x hx => g.lt x (List.dropLast_subset l hx)
    rw [List.length_dropLast] at hdl
    by_cases h5 : l.length = 5
    · have hleft : 32 - 7 * ((l.length - 1 : Nat) : Int) = 4 := by omega
      have hlb := g.len
      obtain ⟨c, hc⟩ : ∃ c, bs[l.length - 1]? = some c := ⟨_, List.getElem?_eq_getElem (show l.length - 1 < bs.length by omega)⟩
      have hcl : l.getLast g.ne = c := by
        have h6 := g.get _ c hc (by omega)
        have h7 := g.last _ c hc (by omega)
        rw [Nat.mod_eq_of_lt h7, ← List.getLast?_eq_getElem?, List.getLast?_eq_some_getLast g.ne] at h6
        exact Option.some.inj h6
      have h7 := g.last _ c hc (by omega)
      have h0 : (0 : Int) ≤ ((l.length - 1 : Nat) : Int) := by omega
      rw [hcl, h5] at hvl
      rw [h5] at hdl
      simp only [Nat.reduceSub, Nat.reducePow] at hvl hdl
      have hsh : (c : Int).fdiv ((2 ^ min (Int.toNat 4) (IntKind.bits .u8) : Nat) : Int) = ((c / 16 : Nat) : Int) := by
        rw [show (2 ^ min (Int.toNat 4) (IntKind.bits .u8) : Nat) = 16 from by decide, Int.fdiv_eq_ediv_of_nonneg _ (by omega)]; omega
      by_cases hbig : c < 16
      · have hne : (((c / 16 : Nat) : Int) != 0) = false := by rw [Nat.div_eq_of_lt hbig]; rfl
        simp only [↓cw_skip, ↓cw_ret, ↓cw_seq, ↓cw_cond, ↓cw_region, ↓then_normal, ↓draw_false, ↓ow_nil, ↓ow_cons, ↓ow_consG, ↓contO_eq, ↓op_move, ↓op_assign, ↓op_load, ↓op_binOp, ↓op_indexAddr, ↓op_pick, ↓ret_ret, ↓force_DC, ↓force_DQ, ↓force_DO, block_exit, vW_some, bW_true, bW_false, ifW_some, setD_some, on1_some, on2_some, ldV_eq, biV_eq, pkV, resW, nbeq, opd, ofConst, leaf, rd_set, binV, intV, shiftV, isConst, idxAddrV, loadV, take?, AV.cells, undF, aggF, infF, resV, Nat.reduceEqDiff, Nat.reduceAdd, Nat.reduceLeDiff, reduceIte, reduceCtorEq, Bool.or_false, Bool.or_true, List.length_cons, List.length_nil, List.getElem?_cons_zero, List.getElem?_cons_succ, List.drop_zero, List.take_succ_cons, List.take_zero, decide_true, Int.reduceLT, beq_self_eq_true, Nat.zero_add, St.bump, wantG, Option.bind, Nat.add_assoc, Int.toNat_natCast, List.size_toArray, q0, q1, q8, q10, h1, h2, hleft, show fw .i64 4 = 4 from rfl, nat8_get hc, h0, hsh, hne, Tryd.f74]
        simp only [tU, hg, takeUV]
        rw [if_pos (by omega)]
        exact ⟨rfl, rfl⟩
      · have hne : (((c / 16 : Nat) : Int) != 0) = true := by rw [bne_iff_ne]; omega
        simp only [↓cw_ret, ↓cw_seq, ↓cw_cond, ↓cw_region, ↓then_normal, ↓then_ret, ↓draw_false, ↓ow_nil, ↓ow_cons, ↓ow_consG, ↓contO_eq, ↓op_move, ↓op_assign, ↓op_load, ↓op_binOp, ↓op_makeInterface, ↓op_indexAddr, ↓op_pick, ↓ret_ret, ↓force_DC, ↓force_DQ, ↓force_DO, block_exit, vW_some, bW_true, ifW_some, setD_some, on1_some, on2_some, ldV_eq, biV_eq, mkI, pkV, resW, nbeq, opd, ofConst, leaf, rd_set, binV, intV, shiftV, isConst, idxAddrV, loadV, take?, AV.cells, undF, aggF, infF, resV, Nat.reduceEqDiff, Nat.reduceAdd, Nat.reduceLeDiff, reduceIte, reduceCtorEq, Bool.or_false, Bool.or_true, List.length_cons, List.length_nil, List.getElem?_cons_zero, List.getElem?_cons_succ, List.drop_zero, List.take_succ_cons, List.take_zero, decide_true, Int.reduceLT, beq_self_eq_true, Nat.zero_add, St.bump, wantG, Option.bind, Nat.add_assoc, Int.toNat_natCast, List.size_toArray, q0, q1, q8, h1, h2, hleft, show fw .i64 4 = 4 from rfl, nat8_get hc, h0, hsh, hne, Tryd.f74]
        simp only [tU, hg, takeUV]
        rw [if_neg (by omega)]
        exact ⟨rfl, rfl⟩
    · have hleft : decide (32 - 7 * ((l.length - 1 : Nat) : Int) < 7) = false := decide_eq_false (by omega)
      simp only [↓cw_skip, ↓cw_ret, ↓cw_seq, ↓cw_cond, ↓cw_region, ↓then_normal, ↓draw_false, ↓ow_nil, ↓ow_cons, ↓ow_consG, ↓contO_eq, ↓op_move, ↓op_assign, ↓op_binOp, ↓op_pick, ↓ret_ret, ↓force_DC, ↓force_DQ, ↓force_DOs, block_exit, vW_some, bW_true, bW_false, ifW_some, setD_some, on2_some, biV_eq, pkV, resW, nbeq, opd, ofConst, leaf, rd_set, binV, intV, isConst, resV, Nat.reduceEqDiff, Nat.reduceAdd, reduceIte, Bool.or_false, Bool.or_true, List.length_cons, List.length_nil, List.getElem?_cons_zero, List.getElem?_cons_succ, beq_self_eq_true, Nat.zero_add, St.bump, wantG, Option.bind, Nat.add_assoc, beqT, List.size_toArray, q1, q8, q10, h1, h2, h3, hleft, Tryd.f74]
      have hlt := val_lt l g.lt
      have hlt2 : val l < 268435456 := Nat.lt_of_lt_of_le hlt (Nat.le_trans (Nat.pow_le_pow_right (by omega) (show l.length ≤ 4 by omega)) (by decide))
      simp only [tU, hg, takeUV]
      rw [if_pos (by omega)]
      exact ⟨rfl, rfl⟩
end Go.Pv
