/- Instructions off bytes: what is read, or where it is wrong: plain. -/
import Derived.Test.YtigcolhieieakaaDoorPvD2
import Derived.Test.YtigcolhieieakaaDoorPvZ5
namespace Go.Pv
open Go
set_option linter.unusedVariables false
set_option linter.unusedSimpArgs false

/-- What is read at a place: the value and the place behind it; or where and which error. -/
inductive Rp (α : Type) where
  | ok (x : α) (a : Nat)
  | bad (w e : Nat)
/-- The same, with how many instructions were read. -/
inductive Rr (α : Type) where
  | ok (x : α) (a m : Nat)
  | bad (w e : Nat)

def rdU (bs : List Nat) (a : Nat) : Rp Nat := match tU (bs.drop a) with
  | .ok v n => .ok v (a + n)
  | .bad e => .bad a e
def rdS (w : Nat) (bs : List Nat) (a : Nat) : Rp Int := match tS w (bs.drop a) with
  | .ok v n => .ok v (a + n)
  | .bad e => .bad a e
def rdZ (bs : List Nat) (a : Nat) : Rp Unit := match bs[a]? with
  | none => .bad a 4
  | some c => if c = 0 then .ok () (a + 1) else .bad a 6
def rdK (bs : List Nat) (a : Nat) : Rp Nat := match bs[a]? with
  | none => .bad a 4
  | some c => if c = 64 then .ok 0 (a + 1) else if c = 127 ∨ c = 126 then .ok c (a + 1) else if c = 125 ∨ c = 124 then .bad a 8 else .bad a 6
/-- So many numbers. -/
def rdN (bs : List Nat) : Nat → Nat → Rp (List Int)
  | 0, a => .ok [] a
  | k + 1, a => match rdU bs a with
    | .bad w e => .bad w e
    | .ok v a1 => match rdN bs k a1 with
      | .bad w e => .bad w e
      | .ok l a2 => .ok ((v : Int) :: l) a2
def rdL (bs : List Nat) (a : Nat) : Rp (List Int) := match rdU bs a with
  | .bad w e => .bad w e
  | .ok n a1 => if n > 256 then .bad a 9 else rdN bs (n + 1) a1

/-- What is behind an instruction's number. -/
structure Ins where
  n : Int := 0
  al : Int := 0
  off : Int := 0
  res : Int := 0
  b : L := .nil
  e : L := .nil
  ls : List Int := []
def Ins.cons (x : Ins) (op : Nat) (l : L) : L := .cons op x.n x.al x.off x.res x.b x.e x.ls l
def Rp.lift {α : Type} (r : Rp α) (m : Nat) (f : α → Ins) : Rr Ins := match r with
  | .ok x a => .ok (f x) a m
  | .bad w e => .bad w e

def rdI (rd : Nat → Nat → Bool → Rr (L × Nat)) (bs : List Nat) (f a m : Nat) : Rr Ins :=
  if f = 1 then (rdS 32 bs a).lift m fun v => { n := v }
  else if f = 2 then (rdS 64 bs a).lift m fun v => { n := v }
  else if f = 3 then (rdU bs a).lift m fun v => { n := (v : Int) }
  else if f = 4 then match rdU bs a with
    | .bad w e => .bad w e
    | .ok v a1 => (rdU bs a1).lift m fun u => { al := (v : Int), off := (u : Int) }
  else if f = 5 then (rdZ bs a).lift m fun _ => {}
  else if f = 8 then (rdL bs a).lift m fun l => { ls := l }
  else if f = 9 then match rdU bs a with
    | .bad w e => .bad w e
    | .ok v a1 => (rdZ bs a1).lift m fun _ => { n := (v : Int) }
  else if f = 6 ∨ f = 7 then match rdK bs a with
    | .bad w e => .bad w e
    | .ok k a1 => match rd a1 m (f == 7) with
      | .bad w e => .bad w e
      | .ok (b, z) a2 m2 => if z = 5 then match rd a2 m2 false with
          | .bad w e => .bad w e
          | .ok (e, _) a3 m3 => .ok { res := (k : Int), b := b, e := e } a3 m3
        else .ok { res := (k : Int), b := b } a2 m2
  else .ok {} a m

def floatN (op : Nat) : Bool := match floatL[op]? with
  | some b => b
  | none => false

def rdList : Nat → List Nat → Nat → Nat → Nat → Bool → Rr (L × Nat)
  | 0, _, _, _, _, _ => .bad 0 0
  | F + 1, bs, a, m, d, o => match bs[a]? with
    | none => .bad a 4
    | some op => if op = 11 ∨ (op = 5 ∧ o = true) then .ok (.nil, op) (a + 1) m
      else if floatN op = true then .bad a 8
      else match formN op with
        | none => .bad a 6
        | some f => if m + 1 > 16384 ∨ (64 ≤ d ∧ (f = 6 ∨ f = 7)) then .bad a 9
          else match rdI (fun a m o => rdList F bs a m (d + 1) o) bs f (a + 1) (m + 1) with
            | .bad w e => .bad w e
            | .ok x a1 m1 => match rdList F bs a1 m1 d o with
              | .bad w e => .bad w e
              | .ok (l, z) a2 m2 => .ok (x.cons op l, z) a2 m2
def rdAll (bs : List Nat) : Rr (L × Nat) := rdList (bs.length + 1) bs 0 0 0 false

/- How far it goes. -/
theorem tU_len {bs : List Nat} {v n : Nat} (h : tU bs = .ok v n) : 1 ≤ n ∧ n ≤ bs.length ∧ v < 4294967296 := by
  unfold tU at h
  split at h
  · rename_i l hg
    split at h
    · injection h with h1 h2
      subst h1; subst h2
      have g := grp_ok _ _ _ hg
      exact ⟨List.length_pos_iff.2 g.ne, g.len, by assumption⟩
    · cases h
  · cases h
theorem tS_len {w : Nat} {bs : List Nat} {v : Int} {n : Nat} (h : tS w bs = .ok v n) : 1 ≤ n ∧ n ≤ bs.length := by
  unfold tS at h
  split at h
  · rename_i l hg
    split at h
    · injection h with h1 h2
      subst h1; subst h2
      have g := grp_ok _ _ _ hg
      exact ⟨List.length_pos_iff.2 g.ne, g.len⟩
    · cases h
  · cases h
theorem rdU_len {bs : List Nat} {a v a1 : Nat} (h : rdU bs a = .ok v a1) : a < a1 ∧ a1 ≤ bs.length ∧ v < 4294967296 := by
  unfold rdU at h
  split at h
  · rename_i v' n ht
    injection h with h1 h2
    have := tU_len ht
    rw [List.length_drop] at this
    subst h1
    omega
  · cases h
theorem rdS_len {w : Nat} {bs : List Nat} {a : Nat} {v : Int} {a1 : Nat} (h : rdS w bs a = .ok v a1) : a < a1 ∧ a1 ≤ bs.length := by
  unfold rdS at h
  split at h
  · rename_i v' n ht
    injection h with h1 h2
    have := tS_len ht
    rw [List.length_drop] at this
    omega
  · cases h
theorem get_lt {α : Type} {l : List α} {i : Nat} {x : α} (h : l[i]? = some x) : i < l.length := by
  rcases Nat.lt_or_ge i l.length with h' | h'
  · exact h'
  · rw [List.getElem?_eq_none h'] at h; cases h
theorem rdZ_len {bs : List Nat} {a a1 : Nat} {u : Unit} (h : rdZ bs a = .ok u a1) : a < a1 ∧ a1 ≤ bs.length := by
  unfold rdZ at h
  split at h
  · cases h
  · rename_i c hc
    have := get_lt hc
    split at h
    · injection h with h1 h2; omega
    · cases h
theorem rdK_len {bs : List Nat} {a k a1 : Nat} (h : rdK bs a = .ok k a1) : a < a1 ∧ a1 ≤ bs.length ∧ (k = 0 ∨ k = 127 ∨ k = 126) := by
  unfold rdK at h
  split at h
  · cases h
  · rename_i c hc
    have := get_lt hc
    (repeat' split at h) <;> first | (injection h with h1 h2; subst h1; omega) | (cases h; done)
theorem rdN_len {bs : List Nat} : ∀ {k a : Nat} {l : List Int} {a1 : Nat}, rdN bs k a = .ok l a1 → a ≤ bs.length → a + k ≤ a1 ∧ a1 ≤ bs.length ∧ l.length = k ∧ ∀ x ∈ l, 0 ≤ x ∧ x ≤ 4294967295
  | 0, a, l, a1, h, ha => by simp only [rdN] at h; injection h with h1 h2; subst h1; subst h2; simp; omega
  | k + 1, a, l, a1, h, ha => by
    simp only [rdN] at h
    split at h
    · cases h
    · rename_i v a2 hu
      have h2 := rdU_len hu
      split at h
      · cases h
      · rename_i l' a3 hn
        injection h with h3 h4
        subst h3; subst h4
        have h5 := rdN_len hn h2.2.1
        refine ⟨by omega, h5.2.1, by simp [h5.2.2.1], fun x hx => ?_⟩
        rcases List.mem_cons.1 hx with rfl | hx
        · omega
        · exact h5.2.2.2 x hx
theorem rdL_len {bs : List Nat} {a : Nat} {l : List Int} {a1 : Nat} (h : rdL bs a = .ok l a1) : a < a1 ∧ a1 ≤ bs.length ∧ 1 ≤ l.length ∧ l.length ≤ 257 ∧ ∀ x ∈ l, 0 ≤ x ∧ x ≤ 4294967295 := by
  unfold rdL at h
  split at h
  · cases h
  · rename_i n a2 hu
    have h2 := rdU_len hu
    split at h
    · cases h
    · have h3 := rdN_len h h2.2.1
      exact ⟨by omega, h3.2.1, by omega, by omega, h3.2.2.2⟩
theorem Rp.lift_ok {α : Type} {r : Rp α} {m : Nat} {f : α → Ins} {x : Ins} {a m1 : Nat} (h : r.lift m f = .ok x a m1) : ∃ y, r = .ok y a ∧ x = f y ∧ m1 = m := by
  unfold Rp.lift at h
  split at h
  · injection h with h1 h2 h3
    subst h1; subst h2; subst h3
    exact ⟨_, rfl, rfl, rfl⟩
  · cases h
theorem rdI_len {rd : Nat → Nat → Bool → Rr (L × Nat)} {bs : List Nat} (hrd : ∀ a m o x a1 m1, rd a m o = .ok x a1 m1 → a ≤ a1 ∧ a1 ≤ bs.length) {f a m : Nat} {x : Ins} {a1 m1 : Nat} (ha : a ≤ bs.length) (h : rdI rd bs f a m = .ok x a1 m1) : a ≤ a1 ∧ a1 ≤ bs.length := by
  unfold rdI at h
  split at h
  · obtain ⟨y, hy, _, _⟩ := Rp.lift_ok h; have := rdS_len hy; omega
  split at h
  · obtain ⟨y, hy, _, _⟩ := Rp.lift_ok h; have := rdS_len hy; omega
  split at h
  · obtain ⟨y, hy, _, _⟩ := Rp.lift_ok h; have := rdU_len hy; omega
  split at h
  · split at h
    · cases h
    · rename_i v a2 hu
      have := rdU_len hu
      obtain ⟨y, hy, _, _⟩ := Rp.lift_ok h; have := rdU_len hy; omega
  split at h
  · obtain ⟨y, hy, _, _⟩ := Rp.lift_ok h; have := rdZ_len hy; omega
  split at h
  · obtain ⟨y, hy, _, _⟩ := Rp.lift_ok h; have := rdL_len hy; omega
  split at h
  · split at h
    · cases h
    · rename_i v a2 hu
      have := rdU_len hu
      obtain ⟨y, hy, _, _⟩ := Rp.lift_ok h; have := rdZ_len hy; omega
  split at h
  · split at h
    · cases h
    · rename_i k a2 hk
      have h2 := rdK_len hk
      split at h
      · cases h
      · rename_i b z a3 m3 hb
        have h3 := hrd _ _ _ _ _ _ hb
        split at h
        · split at h
          · cases h
          · rename_i e z2 a4 m4 he
            have h4 := hrd _ _ _ _ _ _ he
            injection h with q1 q2 q3
            omega
        · injection h with q1 q2 q3
          omega
  · injection h with q1 q2 q3
    omega
theorem rdList_len : ∀ (F : Nat) (bs : List Nat) (a m d : Nat) (o : Bool) (x : L × Nat) (a1 m1 : Nat), rdList F bs a m d o = .ok x a1 m1 → a < a1 ∧ a1 ≤ bs.length
  | 0, bs, a, m, d, o, x, a1, m1, h => by simp [rdList] at h
  | F + 1, bs, a, m, d, o, x, a1, m1, h => by
    simp only [rdList] at h
    split at h
    · cases h
    · rename_i op hop
      have h0 := get_lt hop
      split at h
      · injection h with q1 q2 q3; omega
      split at h
      · cases h
      split at h
      · cases h
      split at h
      · cases h
      · split at h
        · cases h
        · rename_i y a2 m2 hi
          have h1 := rdI_len (fun a m o x a1 m1 h => by have := rdList_len F bs a m (d + 1) o x a1 m1 h; omega) (by omega) hi
          split at h
          · cases h
          · rename_i l z a3 m3 hl
            have h2 := rdList_len F bs _ _ _ _ _ _ _ hl
            injection h with q1 q2 q3
            omega
end Go.Pv
