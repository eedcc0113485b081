/- The document's each is the program's: without the program. (For the join: PvE7 will state May.) -/
import Derived.Test.YtigcolhieieakaaDoorPvE5
namespace Go.Pv
open Go Go.Proofs Go.RowKit
set_option linter.unusedVariables false
set_option linter.unusedSimpArgs false
set_option maxRecDepth 100000

theorem i32_round (n : Int) (h : -9223372036854775808 ≤ n ∧ n ≤ 9223372036854775807) : (n == fw .i64 (fw .i32 n)) = (decide (-2147483648 ≤ n) && decide (n < 2147483648)) := by
  have hr : -2147483648 ≤ fw .i32 n ∧ fw .i32 n ≤ 2147483647 := by
    unfold fw
    simp only
    split
    · assumption
    · simp [IntKind.wrap, IntKind.signed, IntKind.bits]; constructor <;> split <;> omega
  have h1 : fw .i64 (fw .i32 n) = fw .i32 n := by
    generalize fw .i32 n = m at hr
    unfold fw; simp only; rw [if_pos (by omega)]
  rw [h1]
  by_cases hn : -2147483648 ≤ n ∧ n ≤ 2147483647
  · have : fw .i32 n = n := by unfold fw; simp only; rw [if_pos hn]
    rw [this]; simp; omega
  · have : n ≠ fw .i32 n := fun e => hn (by rw [e]; exact hr)
    rw [beq_eq_false_iff_ne.2 this]
    symm
    rw [Bool.and_eq_false_iff]
    simp only [decide_eq_false_iff_not]
    omega
theorem u32_round (n : Int) (h : -9223372036854775808 ≤ n ∧ n ≤ 9223372036854775807) : (n == fw .i64 (fw .u32 n)) = (decide (0 ≤ n) && decide (n < 4294967296)) := by
  have hr : 0 ≤ fw .u32 n ∧ fw .u32 n ≤ 4294967295 := by
    unfold fw
    simp only
    split
    · assumption
    · simp [IntKind.wrap, IntKind.signed, IntKind.bits]; omega
  have h1 : fw .i64 (fw .u32 n) = fw .u32 n := by
    generalize fw .u32 n = m at hr
    unfold fw; simp only; rw [if_pos (by omega)]
  rw [h1]
  by_cases hn : 0 ≤ n ∧ n ≤ 4294967295
  · have : fw .u32 n = n := by unfold fw; simp only; rw [if_pos hn]
    rw [this]; simp; omega
  · have : n ≠ fw .u32 n := fun e => hn (by rw [e]; exact hr)
    rw [beq_eq_false_iff_ne.2 this]
    symm
    rw [Bool.and_eq_false_iff]
    simp only [decide_eq_false_iff_not]
    omega

theorem mayR_rng (f : Nat) (n res : Int) (ls : List Int) (h : -9223372036854775808 ≤ n ∧ n ≤ 9223372036854775807) (hb : ¬ (f = 6 ∨ f = 7)) : mayR f n res ls = rngR f n ls := by
  unfold mayR rngR
  by_cases f1 : f = 1
  · rw [if_pos f1, if_pos f1, i32_round n h]
  rw [if_neg f1, if_neg f1]
  by_cases f3 : f = 3 ∨ f = 9
  · rw [if_pos f3, if_pos f3, u32_round n h]
  rw [if_neg f3, if_neg f3, if_neg hb]

theorem reach_eq : ∀ (l : L) (d : Nat), l.wf → d ≤ 64 → l.reach d = (decide (d + l.nest ≤ 64) && l.each)
  | .nil, d, _, hd => by simp [L.reach, L.nest, L.each, hd]
  | .cons op n al off res b e ls r, d, hw, hd => by
    obtain ⟨hop, hn, _, _, _, hbw, hew, _, hrw⟩ := hw
    have ihr := reach_eq r d hrw hd
    simp only [L.reach, L.each, mayI]
    cases hfn : formN op with
    | none => simp
    | some f =>
      simp only
      rw [show decide (ownL f op n al off res b e ls = .cons op n al off res b e ls .nil) = selfI f op n al off res b e ls from rfl]
      by_cases hblk : f = 6 ∨ f = 7
      · have hk : isBlk op = true := by rcases hblk with rfl | rfl <;> simp [isBlk, hfn]
        have hrng : rngR f n ls = true := by rcases hblk with rfl | rfl <;> simp [rngR]
        have hmr : mayR f n res ls = (res == 0 || res == 127 || res == 126) := by rcases hblk with rfl | rfl <;> simp [mayR]
        have hN : (L.cons op n al off res b e ls r).nest = max (max (1 + b.nest) (1 + e.nest)) r.nest := by simp only [L.nest, hk, if_true]
        rw [hN, hrng, hmr, if_pos hblk, ihr]
        by_cases h64 : d < 64
        · rw [reach_eq b (d + 1) hbw (by omega), reach_eq e (d + 1) hew (by omega), decide_eq_true h64, Bool.or_assoc]
          cases selfI f op n al off res b e ls <;> cases (res == 0 || (res == 127 || res == 126)) <;> cases b.each <;> cases e.each <;> cases r.each <;> simp
          rw [Bool.eq_iff_iff]
          simp only [Bool.and_eq_true, decide_eq_true_eq]
          omega
        · rw [decide_eq_false h64, decide_eq_false (show ¬ d + max (max (1 + b.nest) (1 + e.nest)) r.nest ≤ 64 by omega)]
          simp
      · have hk : isBlk op = false := by
          unfold isBlk; rw [hfn]
          split
          · rename_i h; cases h; exact absurd (.inl rfl) hblk
          · rename_i h; cases h; exact absurd (.inr rfl) hblk
          · rfl
        have hN : (L.cons op n al off res b e ls r).nest = r.nest := by simp [L.nest, hk]
        rw [hN, mayR_rng f n res ls hn hblk, if_neg hblk, ihr]
        cases hs : selfI f op n al off res b e ls with
        | false => simp
        | true =>
          have hsp := (selfI_spec f op n al off res b e ls).1 hs
          have hb : b = .nil := (av_nil b).1 (by rcases hsp.2.2.2.2.1 with h | h; exact absurd h hblk; exact h)
          have he : e = .nil := (av_nil e).1 (by rcases hsp.2.2.2.2.2.1 with h | h; exact absurd (.inr h) hblk; exact h)
          subst hb; subst he
          cases rngR f n ls <;> cases r.each <;> simp [L.each]
theorem may_eq (l : L) (hw : l.wf) : (decide (l.cnt ≤ 16384) && l.reach 0) = l.may := by
  rw [reach_eq l 0 hw (by omega), L.may, Nat.zero_add, Bool.and_assoc]
end Go.Pv
