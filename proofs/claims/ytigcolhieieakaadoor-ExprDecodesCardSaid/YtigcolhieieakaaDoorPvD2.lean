/- Numbers off bytes: the plain law. No program in sight. -/
namespace Go.Pv
set_option linter.unusedVariables false
set_option linter.unusedSimpArgs false

inductive Rg where
  | ok (l : List Nat)
  | bad (e : Nat)

/-- The groups of a number: at most so many bytes. -/
def grp : Nat → List Nat → Rg
  | 0, _ => .bad 6
  | _ + 1, [] => .bad 4
  | m + 1, c :: cs => if c < 128 then .ok [c] else match grp m cs with
    | .ok l => .ok (c % 128 :: l)
    | .bad e => .bad e

def val : List Nat → Nat
  | [] => 0
  | c :: cs => c + 128 * val cs

structure GrpOk (m : Nat) (bs l : List Nat) : Prop where
  ne : l ≠ []
  most : l.length ≤ m
  len : l.length ≤ bs.length
  get : ∀ i c, bs[i]? = some c → i < l.length → l[i]? = some (c % 128)
  mid : ∀ i c, bs[i]? = some c → i + 1 < l.length → 128 ≤ c
  last : ∀ i c, bs[i]? = some c → i + 1 = l.length → c < 128
  lt : ∀ c ∈ l, c < 128

theorem grp_ok : ∀ (m : Nat) (bs l : List Nat), grp m bs = .ok l → GrpOk m bs l
  | 0, bs, l, h => by simp [grp] at h
  | m + 1, [], l, h => by simp [grp] at h
  | m + 1, c :: cs, l, h => by
    simp only [grp] at h
    split at h
    · rename_i hc
      injection h with h; subst h
      refine ⟨by simp, by simp, by simp, ?_, ?_, ?_, by simpa using hc⟩
      · intro i d hd hi
        simp at hi; subst hi
        simp at hd; subst hd
        simp [Nat.mod_eq_of_lt hc]
      · intro i d hd hi; simp at hi
      · intro i d hd hi
        simp at hi; subst hi
        simp at hd; subst hd; exact hc
    · rename_i hc
      cases hg : grp m cs with
      | bad e => simp [hg] at h
      | ok l' =>
        simp only [hg] at h
        injection h with h; subst h
        have g := grp_ok m cs l' hg
        refine ⟨by simp, by simp [g.most], by simp [g.len], ?_, ?_, ?_, ?_⟩
        · intro i d hd hi
          cases i with
          | zero => simp at hd; subst hd; simp
          | succ i => simp at hd hi ⊢; exact g.get i d hd hi
        · intro i d hd hi
          cases i with
          | zero => simp at hd; subst hd; omega
          | succ i => simp at hd hi; exact g.mid i d hd (by omega)
        · intro i d hd hi
          cases i with
          | zero =>
            have := g.ne
            cases l' with
            | nil => exact absurd rfl this
            | cons _ _ => simp at hi
          | succ i => simp at hd hi; exact g.last i d hd (by omega)
        · intro x hx
          rcases List.mem_cons.1 hx with rfl | hx
          · omega
          · exact g.lt x hx

theorem grp_bad : ∀ (m : Nat) (bs : List Nat) (e : Nat), grp m bs = .bad e → (∀ i c, bs[i]? = some c → i < m → 128 ≤ c) ∧ (e = if bs.length < m then 4 else 6)
  | 0, bs, e, h => by simp only [grp] at h; injection h with h; exact ⟨fun _ _ _ h => by omega, by simp [← h]⟩
  | m + 1, [], e, h => by simp only [grp] at h; injection h with h; exact ⟨by simp, by simp [← h]⟩
  | m + 1, c :: cs, e, h => by
    simp only [grp] at h
    split at h
    · cases h
    · rename_i hc
      cases hg : grp m cs with
      | ok l' => simp [hg] at h
      | bad e' =>
        simp only [hg] at h
        injection h with h; subst h
        obtain ⟨g1, g2⟩ := grp_bad m cs e' hg
        refine ⟨?_, by rw [g2]; simp⟩
        intro i d hd hi
        cases i with
        | zero => simp at hd; subst hd; omega
        | succ i => simp at hd; exact g1 i d hd (by omega)

theorem val_lt : ∀ (l : List Nat), (∀ c ∈ l, c < 128) → val l < 128 ^ l.length
  | [], _ => by simp [val]
  | c :: cs, h => by
    have h1 := val_lt cs fun x hx => h x (List.mem_cons_of_mem _ hx)
    have h2 := h c (by simp)
    simp only [val, List.length_cons, Nat.pow_succ]; omega

theorem val_bit : ∀ (l : List Nat) (k : Nat), (∀ c ∈ l, c < 128) → (val l).testBit k = match l[k / 7]? with | some c => c.testBit (k % 7) | none => false
  | [], k, _ => by simp [val]
  | c :: cs, k, h => by
    have h2 := h c (by simp)
    have : val (c :: cs) = 2 ^ 7 * val cs + c := by simp only [val]; omega
    rw [this, Nat.testBit_two_pow_mul_add _ h2]
    by_cases hk : k < 7
    · rw [if_pos hk, Nat.div_eq_of_lt hk, Nat.mod_eq_of_lt hk]; rfl
    · rw [if_neg hk, val_bit cs (k - 7) fun x hx => h x (List.mem_cons_of_mem _ hx)]
      have h3 : k / 7 = (k - 7) / 7 + 1 := by omega
      have h4 : k % 7 = (k - 7) % 7 := by omega
      rw [h3, h4]; simp

theorem bit_div (c k : Nat) : ((c / 2 ^ k) % 2 == 1) = c.testBit k := by
  rw [Nat.testBit_eq_decide_div_mod_eq]
  by_cases h : c / 2 ^ k % 2 = 1 <;> simp [h]

/-- A number without a sign, of so many bits. -/
inductive Rv (α : Type) where
  | ok (v : α) (n : Nat)
  | bad (e : Nat)
def tU (bs : List Nat) : Rv Nat := match grp 5 bs with
  | .ok l => if val l < 4294967296 then .ok (val l) l.length else .bad 6
  | .bad e => .bad e
/-- With its sign: the highest bit of the last group. -/
def sval (l : List Nat) : Int := if val l < 64 * 128 ^ (l.length - 1) then (val l : Int) else (val l : Int) - (128 ^ l.length : Nat)
def tS (w : Nat) (bs : List Nat) : Rv Int := match grp ((w + 6) / 7) bs with
  | .ok l => if -(2 ^ (w - 1) : Nat) ≤ sval l ∧ sval l < (2 ^ (w - 1) : Nat) then .ok (sval l) l.length else .bad 6
  | .bad e => .bad e

theorem val_append (a : List Nat) (x : Nat) : val (a ++ [x]) = val a + 128 ^ a.length * x := by
  induction a with
  | nil => simp [val]
  | cons c cs ih => simp only [List.cons_append, val, ih, List.length_cons, Nat.pow_succ]; rw [Nat.mul_add, ← Nat.mul_assoc, Nat.mul_comm 128 (128 ^ cs.length)]; omega
theorem val_drop {l : List Nat} {i c : Nat} (h : l[i]? = some c) : val (l.drop i) = c + 128 * val (l.drop (i + 1)) := by
  have hi : i < l.length := by
    rcases Nat.lt_or_ge i l.length with h' | h'
    · exact h'
    · rw [List.getElem?_eq_none h'] at h; cases h
  rw [List.getElem?_eq_getElem hi] at h
  injection h with h
  rw [List.drop_eq_getElem_cons hi, h, val]
/-- The last group by itself. -/
theorem val_last (l : List Nat) (h : l ≠ []) : val l = val l.dropLast + 128 ^ (l.length - 1) * l.getLast h := by
  have := val_append l.dropLast (l.getLast h)
  rw [List.dropLast_concat_getLast h] at this
  rw [this, List.length_dropLast]
end Go.Pv

namespace Go.Pv
set_option linter.unusedVariables false
set_option linter.unusedSimpArgs false

def sl1 (c : Nat) : Int := if c < 64 then (c : Int) else (c : Int) - 128
theorem sval_one (c : Nat) : sval [c] = sl1 c := by
  unfold sval sl1
  simp only [val, List.length_cons, List.length_nil, Nat.zero_add, Nat.sub_self, Nat.pow_zero, Nat.mul_one, Nat.mul_zero, Nat.add_zero, Nat.pow_one]
  split <;> simp
theorem sval_cons (c : Nat) (hc : c < 128) (d : Nat) (cs : List Nat) (h : ∀ x ∈ d :: cs, x < 128) : sval (c :: d :: cs) = (c : Int) + 128 * sval (d :: cs) := by
  have h1 := val_lt (d :: cs) h
  have e1 : val (c :: d :: cs) = c + 128 * val (d :: cs) := by simp only [val]
  have e2 : (c :: d :: cs).length - 1 = (d :: cs).length - 1 + 1 := by simp
  have e3 : (c :: d :: cs).length = (d :: cs).length + 1 := by simp
  unfold sval
  rw [e1, e2, e3, Nat.pow_succ, Nat.pow_succ]
  generalize val (d :: cs) = v at *
  generalize 128 ^ ((d :: cs).length - 1) = p at *
  generalize 128 ^ (d :: cs).length = q at *
  by_cases hv : v < 64 * p
  · rw [if_pos hv, if_pos (by omega)]; omega
  · rw [if_neg hv, if_neg (by omega)]; omega

theorem sval_last (l : List Nat) (h : l ≠ []) (hl : ∀ x ∈ l, x < 128) : sval l = (val l.dropLast : Int) + (128 ^ (l.length - 1) : Nat) * sl1 (l.getLast h) := by
  have h1 := val_last l h
  have h2 := val_lt l.dropLast fun x hx => hl x (List.dropLast_subset l hx)
  have h3 := hl _ (List.getLast_mem h)
  have h4 : 0 < l.length := List.length_pos_iff.2 h
  rw [List.length_dropLast] at h2
  unfold sval
  rw [h1, show (128 : Nat) ^ l.length = 128 ^ (l.length - 1) * 128 by rw [← Nat.pow_succ]; congr 1; omega]
  generalize val l.dropLast = v at *
  generalize 128 ^ (l.length - 1) = p at *
  generalize l.getLast h = c at *
  unfold sl1
  by_cases hc : c < 64
  · have : p * c + p ≤ p * 64 := by rw [← Nat.mul_succ]; exact Nat.mul_le_mul (Nat.le_refl p) hc
    rw [if_pos hc, if_pos (by omega)]
    simp
  · have : p * 64 ≤ p * c := Nat.mul_le_mul (Nat.le_refl p) (by omega)
    rw [if_neg hc, if_neg (by omega)]
    rw [Int.mul_sub]
    simp; omega

/-- Is it in range? By the last group alone. -/
theorem sval_rng32 (l : List Nat) (h : l ≠ []) (hl : ∀ x ∈ l, x < 128) (hn : l.length ≤ 5) : (-(2 ^ (32 - 1) : Nat) ≤ sval l ∧ sval l < (2 ^ (32 - 1) : Nat)) ↔ (l.length = 5 → -8 ≤ sl1 (l.getLast h) ∧ sl1 (l.getLast h) < 8) := by
  rw [sval_last l h hl]
  have h2 := val_lt l.dropLast fun x hx => hl x (List.dropLast_subset l hx)
  have h3 := hl _ (List.getLast_mem h)
  have h4 : 0 < l.length := List.length_pos_iff.2 h
  rw [List.length_dropLast] at h2
  have h5 : -64 ≤ sl1 (l.getLast h) ∧ sl1 (l.getLast h) < 64 := by unfold sl1; split <;> omega
  generalize sl1 (l.getLast h) = s at *
  generalize val l.dropLast = v at *
  have hc : l.length = 1 ∨ l.length = 2 ∨ l.length = 3 ∨ l.length = 4 ∨ l.length = 5 := by omega
  rcases hc with e | e | e | e | e <;> rw [e] at h2 ⊢ <;> simp only [Nat.sub_self, Nat.reduceSub, Nat.reducePow] at h2 ⊢ <;> constructor <;> intro g <;> first | (intro g2; omega) | (have := g rfl; omega) | (have := g trivial; omega) | omega
theorem sval_rng64 (l : List Nat) (h : l ≠ []) (hl : ∀ x ∈ l, x < 128) (hn : l.length ≤ 10) : (-(2 ^ (64 - 1) : Nat) ≤ sval l ∧ sval l < (2 ^ (64 - 1) : Nat)) ↔ (l.length = 10 → -1 ≤ sl1 (l.getLast h) ∧ sl1 (l.getLast h) < 1) := by
  rw [sval_last l h hl]
  have h2 := val_lt l.dropLast fun x hx => hl x (List.dropLast_subset l hx)
  have h3 := hl _ (List.getLast_mem h)
  have h4 : 0 < l.length := List.length_pos_iff.2 h
  rw [List.length_dropLast] at h2
  have h5 : -64 ≤ sl1 (l.getLast h) ∧ sl1 (l.getLast h) < 64 := by unfold sl1; split <;> omega
  generalize sl1 (l.getLast h) = s at *
  generalize val l.dropLast = v at *
  have hc : l.length = 1 ∨ l.length = 2 ∨ l.length = 3 ∨ l.length = 4 ∨ l.length = 5 ∨ l.length = 6 ∨ l.length = 7 ∨ l.length = 8 ∨ l.length = 9 ∨ l.length = 10 := by omega
  rcases hc with e | e | e | e | e | e | e | e | e | e <;> rw [e] at h2 ⊢ <;> simp only [Nat.sub_self, Nat.reduceSub, Nat.reducePow] at h2 ⊢ <;> constructor <;> intro g <;> first | (intro g2; omega) | (have := g rfl; omega) | (have := g trivial; omega) | omega

/-- The wrap of 64 bits with a sign. -/
def w64 (n : Int) : Int := (n + 9223372036854775808) % 18446744073709551616 - 9223372036854775808
theorem w64_in {n : Int} (h : -9223372036854775808 ≤ n ∧ n ≤ 9223372036854775807) : w64 n = n := by unfold w64; omega
theorem w64_step (t g : Int) (a b : Int) (ha : a = w64 t) (hb : b = w64 (a * 128)) : w64 (b + g) = w64 (g + 128 * t) := by
  subst ha; subst hb
  unfold w64; omega

/-- The pattern of a number with a sign, in 70 bits. -/
def pat (l : List Nat) (neg : Bool) : Nat := if neg then val l + (2 ^ 70 - 2 ^ (7 * l.length)) else val l
theorem pat_bit (l : List Nat) (neg : Bool) (hl : ∀ x ∈ l, x < 128) (hn : l.length ≤ 10) (k : Nat) (hk : k < 70) : (pat l neg).testBit k = if k < 7 * l.length then (val l).testBit k else neg := by
  have h2 : val l < 2 ^ (7 * l.length) := by rw [Nat.pow_mul]; exact val_lt l hl
  unfold pat
  cases neg with
  | true =>
    simp only [if_true]
    have : val l + (2 ^ 70 - 2 ^ (7 * l.length)) = 2 ^ (7 * l.length) * (2 ^ (70 - 7 * l.length) - 1) + val l := by
      rw [Nat.mul_sub, ← Nat.pow_add, show 7 * l.length + (70 - 7 * l.length) = 70 by omega]; omega
    rw [this, Nat.testBit_two_pow_mul_add _ h2]
    split
    · rfl
    · rw [Nat.testBit_two_pow_sub_one]; simp; omega
  | false =>
    simp only [Bool.false_eq_true, if_false]
    split
    · rfl
    · exact Nat.testBit_lt_two_pow (Nat.lt_of_lt_of_le h2 (Nat.pow_le_pow_right (by omega) (by omega)))
theorem pat_w64 (l : List Nat) (h : l ≠ []) (hl : ∀ x ∈ l, x < 128) (hn : l.length ≤ 10) (hr : -9223372036854775808 ≤ sval l ∧ sval l ≤ 9223372036854775807) : w64 ((pat l (decide (64 ≤ l.getLast h)) : Nat) : Int) = sval l := by
  have hs := sval_last l h hl
  have h1 := val_last l h
  have h2 := val_lt l.dropLast fun x hx => hl x (List.dropLast_subset l hx)
  have h3 := hl _ (List.getLast_mem h)
  have h4 : 0 < l.length := List.length_pos_iff.2 h
  rw [List.length_dropLast] at h2
  unfold pat
  rw [h1]
  rw [hs] at hr ⊢
  generalize l.getLast h = c at *
  generalize val l.dropLast = v at *
  have hc : l.length = 1 ∨ l.length = 2 ∨ l.length = 3 ∨ l.length = 4 ∨ l.length = 5 ∨ l.length = 6 ∨ l.length = 7 ∨ l.length = 8 ∨ l.length = 9 ∨ l.length = 10 := by omega
  unfold sl1 at hr ⊢
  by_cases hc64 : 64 ≤ c
  · simp only [if_neg (show ¬ c < 64 by omega), decide_eq_true hc64, if_true] at hr ⊢
    rcases hc with e | e | e | e | e | e | e | e | e | e <;> rw [e] at h2 hr ⊢ <;> simp only [Nat.sub_self, Nat.reduceSub, Nat.reducePow, Nat.reduceMul] at h2 hr ⊢ <;> unfold w64 <;> omega
  · simp only [if_pos (show c < 64 by omega), decide_eq_false hc64, Bool.false_eq_true, if_false] at hr ⊢
    rcases hc with e | e | e | e | e | e | e | e | e | e <;> rw [e] at h2 hr ⊢ <;> simp only [Nat.sub_self, Nat.reduceSub, Nat.reducePow, Nat.reduceMul] at h2 hr ⊢ <;> unfold w64 <;> omega
/-- From bit to bit. -/
theorem halves (x k : Nat) : x / 2 ^ k = 2 * (x / 2 ^ (k + 1)) + (x.testBit k).toNat := by
  rw [Nat.pow_succ, ← Nat.div_div_eq_div_mul, Nat.testBit_eq_decide_div_mod_eq]
  by_cases h : x / 2 ^ k % 2 = 1 <;> simp [h] <;> omega
end Go.Pv
