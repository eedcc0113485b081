/- The document's numbers with a sign off bytes, whatever the bytes are: TakeS. (PvZ6) -/
import Derived.Test.YtigcolhieieakaaDoorPvD6
namespace Go.Pv
open Go Go.Proofs Go.RowKit
set_option linter.unusedVariables false
set_option linter.unusedSimpArgs false
set_option maxRecDepth 100000

noncomputable def K75a : Code :=  cl (cr (cl (cr (cr (cr (cr (cr (fb Tryd.f75))))))))
noncomputable def K75b : Code :=  cl (cr (cl (cr (cr (cr (cr (cr (cr (cr (fb Tryd.f75))))))))))
theorem loop75a (l : List Nat) (w : Int) (hl : ∀ c ∈ l, c < 128) (hn : l.length ≤ 10) (below : Bool) (Q : Ex → Fr → St → Prop) :
    ∀ (d k : Nat) fr σ, k + d = max k (7 * l.length) → fr.rd 7 = .sl (nat8 l) 0 → fr.rd 9 = .i .i64 (7 * l.length : Nat) → fr.rd 10 = .b below → fr.rd 11 = .i .i64 k →
      ((∃ q, k ≤ q ∧ q < 7 * l.length ∧ (val l).testBit q ≠ below) → ∀ fr σ, fr.rd 4 = .i .i64 0 → fr.rd 5 = .i .i64 0 → fr.rd 6 = .i .i64 6 → Q .ret fr σ) →
      ((∀ q, k ≤ q → q < 7 * l.length → (val l).testBit q = below) → ∀ fr σ, fr.rd 7 = .sl (nat8 l) 0 → fr.rd 9 = .i .i64 (7 * l.length : Nat) → fr.rd 10 = .b below → Q (.exit 0) fr σ) → CodeW TS K75a fr σ Q := by
  intro d
  induction d with
  | zero =>
    intro k fr σ hk r7 r9 r10 r11 hbad hok
    have hlt : decide ((k : Int) < ((7 * l.length : Nat) : Int)) = false := decide_eq_false (by omega)
    simp only [K75a, fb, Tryd.f75, cl, cr, Option.getD]
    rw [cw_loop]
    simp only [↓cw_exit, ↓cw_seq, ↓cw_cond, ↓cw_region, ↓then_normal, ↓then_exit, ↓draw_false, ↓ow_nil, ↓ow_cons, ↓contO_eq, ↓op_move, ↓op_binOp, ↓force_DC, vW_some, bW_false, ifW_some, setD_some, on2_some, biV_eq, opd, rd_set, binV, intV, isConst, Nat.reduceEqDiff, Nat.reduceAdd, reduceIte, Bool.or_false, List.length_cons, List.length_nil, Nat.zero_add, St.bump, List.size_toArray, r9, r11, hlt]
    refine hok (fun q h1 h2 => by omega) _ _ ?_ ?_ ?_
    · simp only [rd_set, Nat.reduceEqDiff, reduceIte, r7]
    · simp only [rd_set, Nat.reduceEqDiff, reduceIte, r9]
    · simp only [rd_set, Nat.reduceEqDiff, reduceIte, r10]
  | succ d ih =>
    intro k fr σ hk r7 r9 r10 r11 hbad hok
    have hlt : decide ((k : Int) < ((7 * l.length : Nat) : Int)) = true := decide_eq_true (by omega)
    simp only [K75a, fb, Tryd.f75, cl, cr, Option.getD]
    rw [cw_loop]
    simp only [↓cw_skip, ↓cw_seq, ↓cw_block, ↓cw_cond, ↓cw_region, ↓then_normal, ↓draw_false, ↓ow_nil, ↓ow_cons, ↓contO_eq, ↓op_move, ↓op_binOp, ↓op_call, ↓force_DC, vW_some, bW_true, ifW_some, setD_some, on2_some, biV_eq, callV_some, arg_val, opd, opds, rd_set, binV, intV, isConst, Nat.reduceEqDiff, Nat.reduceAdd, reduceIte, Bool.or_false, List.length_cons, List.length_nil, List.append_nil, Nat.zero_add, St.bump, List.size_toArray, r7, r9, r11, hlt]
    refine pc81.call (by simp [untok, AV.strip, Go.Pv.goods, Go.Pv.good, goods_nat8]) (w_bit l k hl hn (by omega)) ?_
    by_cases hb : (val l).testBit k = below
    · have hb' : ((val l).testBit k == below) = true := by rw [hb]; simp
      simp only [↓cw_skip, ↓cw_cond, ↓cw_region, ↓then_normal, ↓block_normal, ↓draw_false, ↓ow_nil, ↓ow_cons, ↓contO_eq, ↓op_move, ↓op_assign, ↓op_binOp, ↓force_DC, vW_some, bW_false, ifW_some, setD_some, on2_some, biV_eq, opd, ofConst, leaf, rd_set, binV, intV, eqV, isConst, boolF, Nat.reduceEqDiff, Nat.reduceAdd, reduceIte, Bool.or_false, Bool.or_true, List.length_cons, List.length_nil, Nat.zero_add, Bool.not_true, St.bump, Nat.add_assoc, List.size_toArray, r10, r11, hb', fw_add1 (n := k) (by omega)]
      refine ih (k + 1) _ _ (by omega) ?_ ?_ ?_ ?_ (fun ⟨q, h1, h2, h3⟩ => hbad ⟨q, by omega, h2, h3⟩) fun h => hok fun q h1 h2 => ?_
      · simp only [rd_set, Nat.reduceEqDiff, reduceIte, r7]
      · simp only [rd_set, Nat.reduceEqDiff, reduceIte, r9]
      · simp only [rd_set, Nat.reduceEqDiff, reduceIte, r10]
      · simp only [rd_set, Nat.reduceEqDiff, reduceIte]
      · rcases Nat.lt_or_ge k q with h' | h'
        · exact h q h' h2
        · rw [show q = k by omega]; exact hb
    · have hb' : ((val l).testBit k == below) = false := beq_false_of_ne hb
      simp only [↓cw_ret, ↓cw_seq, ↓cw_cond, ↓cw_region, ↓then_normal, ↓then_ret, ↓block_ret, ↓draw_false, ↓ow_nil, ↓ow_cons, ↓contO_eq, ↓op_move, ↓op_assign, ↓op_binOp, ↓force_DC, vW_some, bW_true, ifW_some, setD_some, on2_some, biV_eq, opd, ofConst, leaf, rd_set, binV, eqV, isConst, boolF, Nat.reduceEqDiff, Nat.reduceAdd, reduceIte, Bool.or_false, List.length_cons, List.length_nil, Nat.zero_add, Bool.not_false, St.bump, Nat.add_assoc, List.size_toArray, r10, hb']
      refine hbad ⟨k, Nat.le_refl _, by omega, hb⟩ _ _ ?_ ?_ ?_
      · simp only [rd_set, Nat.reduceEqDiff, reduceIte]
      · simp only [rd_set, Nat.reduceEqDiff, reduceIte]
      · simp only [rd_set, Nat.reduceEqDiff, reduceIte]

theorem loop75b (l : List Nat) (hl : ∀ c ∈ l, c < 128) (hn : l.length ≤ 10) (below : Bool) (U : Nat) (hU : U < 18446744073709551616) (hbits : ∀ k, k < 64 → U.testBit k = if k < 7 * l.length then (val l).testBit k else below) (Q : Ex → Fr → St → Prop)
    (hQ : ∀ fr σ, fr.rd 7 = .sl (nat8 l) 0 → fr.rd 12 = .i .i64 (w64 (U : Int)) → Q (.exit 2) fr σ) :
    ∀ (k : Nat) fr σ, k ≤ 64 → fr.rd 7 = .sl (nat8 l) 0 → fr.rd 9 = .i .i64 (7 * l.length : Nat) → fr.rd 10 = .b below → fr.rd 12 = .i .i64 (w64 ((U / 2 ^ k : Nat) : Int)) → fr.rd 13 = .i .i64 ((k : Int) - 1) → CodeW TS K75b fr σ Q := by
  intro k
  induction k with
  | zero =>
    intro fr σ hk r7 r9 r10 r12 r13
    have hd : decide (((0 : Nat) : Int) - 1 ≥ 0) = false := by decide
    simp only [K75b, fb, Tryd.f75, cl, cr, Option.getD]
    rw [cw_loop]
    simp only [↓cw_exit, ↓cw_seq, ↓cw_cond, ↓cw_region, ↓then_normal, ↓then_exit, ↓draw_false, ↓ow_nil, ↓ow_cons, ↓contO_eq, ↓op_move, ↓op_binOp, ↓force_DC, vW_some, bW_false, ifW_some, setD_some, on2_some, biV_eq, opd, ofConst, leaf, rd_set, binV, intV, isConst, Nat.reduceEqDiff, Nat.reduceAdd, reduceIte, Bool.or_true, List.length_cons, List.length_nil, Nat.zero_add, St.bump, List.size_toArray, r13, hd]
    refine hQ _ _ ?_ ?_
    · simp only [rd_set, Nat.reduceEqDiff, reduceIte, r7]
    · simp only [rd_set, Nat.reduceEqDiff, reduceIte, r12]
      simp
  | succ k ih =>
    intro fr σ hk r7 r9 r10 r12 r13
    have e : ((k + 1 : Nat) : Int) - 1 = (k : Int) := by omega
    rw [e] at r13
    have hd : decide ((k : Int) ≥ 0) = true := decide_eq_true (by omega)
    have hfs : fw .i64 ((k : Int) - 1) = (k : Int) - 1 := by unfold fw; simp only; rw [if_pos (by omega)]
    have hb := hbits k (by omega)
    have hh := halves U k
    have ww2 : ∀ y : Int, fw .i64 (2 * w64 y) = w64 (2 * y) := fun y => by rw [fw_i64]; unfold w64; omega
    have ww3 : ∀ y : Int, fw .i64 (w64 y + 1) = w64 (y + 1) := fun y => by rw [fw_i64]; unfold w64; omega
    generalize hy : U / 2 ^ (k + 1) = y at *
    generalize hz : U / 2 ^ k = z at *
    have h2 := ww2 (y : Int)
    have h3 := ww3 (2 * (y : Int))
    have done : ∀ fr σ, fr.rd 7 = .sl (nat8 l) 0 → fr.rd 9 = .i .i64 (7 * l.length : Nat) → fr.rd 10 = .b below → fr.rd 12 = .i .i64 (w64 (2 * (y : Int) + ((U.testBit k).toNat : Int))) → fr.rd 13 = .i .i64 ((k : Int) - 1) → CodeW TS K75b fr σ Q := fun fr σ q7 q9 q10 q12 q13 => by
      refine ih fr σ (by omega) q7 q9 q10 ?_ q13
      rw [q12, show ((z : Nat) : Int) = 2 * (y : Int) + ((U.testBit k).toNat : Int) from by omega]
    simp only [K75b, fb, Tryd.f75, cl, cr, Option.getD]
    rw [cw_loop]
    by_cases hkl : k < 7 * l.length
    · have hlt : decide ((k : Int) < ((7 * l.length : Nat) : Int)) = true := decide_eq_true (by omega)
      have hge : decide ((k : Int) ≥ ((7 * l.length : Nat) : Int)) = false := decide_eq_false (by omega)
      rw [if_pos hkl] at hb
      simp only [↓cw_skip, ↓cw_seq, ↓cw_block, ↓cw_cond, ↓cw_region, ↓then_normal, ↓draw_false, ↓ow_nil, ↓ow_cons, ↓ow_consG, ↓contO_eq, ↓op_move, ↓op_assign, ↓op_binOp, ↓op_call, ↓force_DC, ↓force_DO, vW_some, bW_true, ifW_some, setD_some, on2_some, biV_eq, callV_some, arg_val, opd, opds, ofConst, leaf, rd_set, binV, intV, isConst, Nat.reduceEqDiff, Nat.reduceAdd, reduceIte, Bool.or_false, Bool.or_true, List.length_cons, List.length_nil, List.getElem?_cons_zero, List.getElem?_cons_succ, List.append_nil, beq_self_eq_true, Nat.zero_add, St.bump, wantG, Option.bind, Nat.add_assoc, List.size_toArray, r7, r9, r12, r13, hd, h2, hlt]
      refine pc81.call (by simp [untok, AV.strip, Go.Pv.goods, Go.Pv.good, goods_nat8]) (w_bit l k hl hn (by omega)) ?_
      rw [← hb]
      cases hbv : U.testBit k with
      | true =>
        simp only [↓cw_cond, ↓cw_region, ↓then_normal, ↓block_normal, ↓draw_false, ↓ow_nil, ↓ow_cons, ↓ow_consG, ↓contO_eq, ↓op_move, ↓op_assign, ↓op_binOp, ↓op_pick, ↓force_DC, ↓force_DOs, vW_some, bW_true, bW_false, ifW_some, setD_some, on2_some, biV_eq, pkV, opd, ofConst, leaf, rd_set, binV, intV, isConst, Nat.reduceEqDiff, Nat.reduceAdd, reduceIte, Bool.or_true, List.length_cons, List.length_nil, List.getElem?_cons_zero, List.getElem?_cons_succ, Nat.zero_add, Bool.not_true, St.bump, wantG, Option.bind, Nat.add_assoc, beqF, List.size_toArray, r12, r13, h3, hfs]
        refine done _ _ ?_ ?_ ?_ ?_ ?_
        · simp only [rd_set, Nat.reduceEqDiff, reduceIte, r7]
        · simp only [rd_set, Nat.reduceEqDiff, reduceIte, r9]
        · simp only [rd_set, Nat.reduceEqDiff, reduceIte, r10]
        · simp only [rd_set, Nat.reduceEqDiff, reduceIte]
          rw [hbv]; rfl
        · simp only [rd_set, Nat.reduceEqDiff, reduceIte]
      | false =>
        simp only [↓cw_skip, ↓cw_cond, ↓cw_region, ↓then_normal, ↓block_normal, ↓draw_false, ↓ow_nil, ↓ow_cons, ↓ow_consG, ↓contO_eq, ↓op_move, ↓op_assign, ↓op_binOp, ↓op_pick, ↓force_DC, ↓force_DO, ↓force_DOs, vW_some, bW_true, bW_false, ifW_some, setD_some, on2_some, biV_eq, pkV, opd, ofConst, leaf, rd_set, binV, intV, isConst, Nat.reduceEqDiff, Nat.reduceAdd, reduceIte, Bool.or_false, Bool.or_true, List.length_cons, List.length_nil, List.getElem?_cons_zero, List.getElem?_cons_succ, beq_self_eq_true, Nat.zero_add, St.bump, wantG, Option.bind, Nat.add_assoc, beqT, List.size_toArray, r9, r13, hge, hfs]
        refine done _ _ ?_ ?_ ?_ ?_ ?_
        · simp only [rd_set, Nat.reduceEqDiff, reduceIte, r7]
        · simp only [rd_set, Nat.reduceEqDiff, reduceIte, r9]
        · simp only [rd_set, Nat.reduceEqDiff, reduceIte, r10]
        · simp only [rd_set, Nat.reduceEqDiff, reduceIte]
          rw [hbv]; simp
        · simp only [rd_set, Nat.reduceEqDiff, reduceIte]
    · have hlt : decide ((k : Int) < ((7 * l.length : Nat) : Int)) = false := decide_eq_false (by omega)
      have hge : decide ((k : Int) ≥ ((7 * l.length : Nat) : Int)) = true := decide_eq_true (by omega)
      rw [if_neg hkl] at hb
      cases hbv : below with
      | true =>
        rw [hbv] at r10 hb
        simp only [↓cw_skip, ↓cw_seq, ↓cw_block, ↓cw_cond, ↓cw_region, ↓then_normal, ↓block_normal, ↓draw_false, ↓ow_nil, ↓ow_cons, ↓ow_consG, ↓contO_eq, ↓op_move, ↓op_assign, ↓op_binOp, ↓op_pick, ↓force_DC, ↓force_DO, ↓force_DOs, vW_some, bW_true, bW_false, ifW_some, setD_some, on2_some, biV_eq, pkV, opd, ofConst, leaf, rd_set, binV, intV, isConst, Nat.reduceEqDiff, Nat.reduceAdd, reduceIte, Bool.or_false, Bool.or_true, List.length_cons, List.length_nil, List.getElem?_cons_zero, List.getElem?_cons_succ, beq_self_eq_true, Nat.zero_add, St.bump, wantG, Option.bind, Nat.add_assoc, beqT, List.size_toArray, r9, r10, r12, r13, hd, h2, h3, hlt, hge, hfs]
        refine done _ _ ?_ ?_ ?_ ?_ ?_
        · simp only [rd_set, Nat.reduceEqDiff, reduceIte, r7]
        · simp only [rd_set, Nat.reduceEqDiff, reduceIte, r9]
        · simp only [rd_set, Nat.reduceEqDiff, reduceIte, r10, hbv]
        · simp only [rd_set, Nat.reduceEqDiff, reduceIte]
          rw [hb]; rfl
        · simp only [rd_set, Nat.reduceEqDiff, reduceIte]
      | false =>
        rw [hbv] at r10 hb
        simp only [↓cw_skip, ↓cw_seq, ↓cw_block, ↓cw_cond, ↓cw_region, ↓then_normal, ↓block_normal, ↓draw_false, ↓ow_nil, ↓ow_cons, ↓ow_consG, ↓contO_eq, ↓op_move, ↓op_assign, ↓op_binOp, ↓op_pick, ↓force_DC, ↓force_DO, ↓force_DOs, vW_some, bW_true, bW_false, ifW_some, setD_some, on2_some, biV_eq, pkV, opd, ofConst, leaf, rd_set, binV, intV, isConst, Nat.reduceEqDiff, Nat.reduceAdd, reduceIte, Bool.or_false, Bool.or_true, List.length_cons, List.length_nil, List.getElem?_cons_zero, List.getElem?_cons_succ, beq_self_eq_true, Nat.zero_add, St.bump, wantG, Option.bind, Nat.add_assoc, beqT, List.size_toArray, r9, r10, r12, r13, hd, h2, hlt, hge, hfs]
        refine done _ _ ?_ ?_ ?_ ?_ ?_
        · simp only [rd_set, Nat.reduceEqDiff, reduceIte, r7]
        · simp only [rd_set, Nat.reduceEqDiff, reduceIte, r9]
        · simp only [rd_set, Nat.reduceEqDiff, reduceIte, r10, hbv]
        · simp only [rd_set, Nat.reduceEqDiff, reduceIte]
          rw [hb]; simp
        · simp only [rd_set, Nat.reduceEqDiff, reduceIte]

/-- The bits from the sign's on are all the same: just where the number is in range. -/
theorem last_bits32 : (List.range 128).all (fun c => ((List.range 7).all fun q => Nat.blt q 3 || (c.testBit q == decide (64 ≤ c))) == decide (-8 ≤ sl1 c ∧ sl1 c < 8)) = true := by decide +kernel
theorem last_bits64 : (List.range 128).all (fun c => ((List.range 7).all fun q => Nat.blt q 0 || (c.testBit q == decide (64 ≤ c))) == decide (-1 ≤ sl1 c ∧ sl1 c < 1)) = true := by decide +kernel
theorem lastB {c n : Nat} {p : Prop} [Decidable p] (h : (((List.range 7).all fun q => Nat.blt q n || (c.testBit q == decide (64 ≤ c))) == decide p) = true) : (∀ q, q < 7 → n ≤ q → c.testBit q = decide (64 ≤ c)) ↔ p := by
  rw [beq_iff_eq] at h
  rw [← decide_eq_true_iff (p := p), ← h, List.all_eq_true]
  constructor
  · intro g q hq
    have := List.mem_range.1 hq
    by_cases hn : q < n
    · simp [hn]
    · simp [g q this (by omega)]
  · intro g q q1 q2
    have := g q (List.mem_range.2 q1)
    simp only [Bool.or_eq_true, Nat.blt_eq, beq_iff_eq] at this
    rcases this with h | h
    · omega
    · exact h
theorem last_top : (List.range 128).all (fun c => c.testBit 6 == decide (64 ≤ c)) = true := by decide +kernel
theorem val_top (l : List Nat) (h : l ≠ []) (hl : ∀ x ∈ l, x < 128) (q : Nat) (hq : q < 7) : (val l).testBit (7 * (l.length - 1) + q) = (l.getLast h).testBit q := by
  rw [val_bit l _ hl]
  have h4 : 0 < l.length := List.length_pos_iff.2 h
  rw [show (7 * (l.length - 1) + q) / 7 = l.length - 1 by omega, show (7 * (l.length - 1) + q) % 7 = q by omega, ← List.getLast?_eq_getElem?, List.getLast?_eq_some_getLast h]
theorem bits_rng (l : List Nat) (h : l ≠ []) (hl : ∀ x ∈ l, x < 128) (w most : Nat) (hw : w = 32 ∧ most = 5 ∨ w = 64 ∧ most = 10) (hn : l.length ≤ most) :
    (∀ q, w - 1 ≤ q → q < 7 * l.length → (val l).testBit q = decide (64 ≤ l.getLast h)) ↔ (-(2 ^ (w - 1) : Nat) ≤ sval l ∧ sval l < (2 ^ (w - 1) : Nat)) := by
  have h3 := hl _ (List.getLast_mem h)
  have ht := val_top l h hl
  rcases hw with ⟨rfl, rfl⟩ | ⟨rfl, rfl⟩
  · rw [sval_rng32 l h hl hn]
    have hb := lastB (List.all_eq_true.1 last_bits32 _ (List.mem_range.2 h3))
    constructor
    · intro g h5
      rw [h5] at ht g
      exact hb.1 fun q q1 q2 => by rw [← ht q q1]; exact g _ (by omega) (by omega)
    · intro g q q1 q2
      have h5 : l.length = 5 := by omega
      have := hb.2 (g h5) (q - 28) (by omega) (by omega)
      rw [← ht _ (by omega)] at this
      rw [← this]; congr 1; omega
  · rw [sval_rng64 l h hl hn]
    have hb := lastB (List.all_eq_true.1 last_bits64 _ (List.mem_range.2 h3))
    constructor
    · intro g h5
      rw [h5] at ht g
      exact hb.1 fun q q1 q2 => by rw [← ht q q1]; exact g _ (by omega) (by omega)
    · intro g q q1 q2
      have h5 : l.length = 10 := by omega
      have := hb.2 (g h5) (q - 63) (by omega) (by omega)
      rw [← ht _ (by omega)] at this
      rw [← this]; congr 1; omega

end Go.Pv
