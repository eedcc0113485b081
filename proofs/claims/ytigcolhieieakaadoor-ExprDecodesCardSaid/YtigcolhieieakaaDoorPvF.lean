/- What a value of the plain evaluator stands for in a world, and what stays true as the world grows. -/
import Derived.Test.YtigcolhieieakaaDoorPvA
import Derived.Laws.IdiomCopy
import Derived.IntWalk
import Derived.Laws.BytesArg
import Derived.Lib.Strings
namespace Go.Pv
open Go Go.RowKit
set_option linter.unusedVariables false
set_option linter.unusedSimpArgs false

structure Gh where
  ι : Nat → Option Nat
  mem : Nat → Nat → Option Value
  τ : Nat → Option (Addr × Nat × Nat)
  old : Nat → Nat → Option Value

structure Gh.le (G G' : Gh) : Prop where
  ι : ∀ l B, G.ι l = some B → G'.ι l = some B
  mem : ∀ b o v, G.mem b o = some v → G'.mem b o = some v
  τ : ∀ k x, G.τ k = some x → G'.τ k = some x
  old : G'.old = G.old

theorem Gh.le.refl (G : Gh) : G.le G := ⟨fun _ _ h => h, fun _ _ _ h => h, fun _ _ h => h, rfl⟩
theorem Gh.le.trans {a b c : Gh} (h : a.le b) (k : b.le c) : a.le c :=
  ⟨fun _ _ x => k.ι _ _ (h.ι _ _ x), fun _ _ _ x => k.mem _ _ _ (h.mem _ _ _ x), fun _ _ x => k.τ _ _ (h.τ _ _ x), k.old.trans h.old⟩

/-- The cells from o on are these. -/
def memAt (G : Gh) (b o : Nat) (l : List Value) : Prop := ∀ (j : Nat) v, l[j]? = some v → G.mem b (o + j) = some v

def cellsOf (vs : List Value) : List Value := vs.flatMap fun v => v.cells.toList

mutual
def rep (G : Gh) : AV → Value → Prop
  | .b x, v => v = .bool x
  | .i k n, v => v = .int k n
  | .s l, v => v = .string ⟨l.toArray⟩
  | .np, v => v = .pointer none
  | .p l o, v => ∃ B, G.ι l = some B ∧ v = .pointer (some ⟨B, o, none⟩)
  | .ip cs, v => ∃ b o l, v = .pointer (some ⟨b, o, none⟩) ∧ repL G cs l ∧ memAt G b o l
  | .sl es k, v => ∃ A c vs, v = .slice A es.length c ∧ es.length ≤ c ∧ (k = 1 → A = none ∧ c = 0) ∧ (2 ≤ k → ∃ a, A = some a ∧ G.τ k = some (a, es.length, c)) ∧
      repL G es vs ∧ (es = [] ∨ ∃ b o sz, A = some ⟨b, o, none⟩ ∧ (∀ v ∈ vs, v.cells.size = sz) ∧ memAt G b o (cellsOf vs))
  | .ne, v => v = .nilIface
  | .e t x, v => ∃ y, v = .iface t y ∧ rep G x y
  | .a cs, v => ∃ l, v = .agg l ∧ repL G cs l.toList
  | .t vs, v => ∃ l, v = .tuple l ∧ repL G vs l.toList
  | .f fn cs, v => ∃ l, v = .func (.func fn) #[] l ∧ repL G cs l.toList
  | .nf, v => v = .nilFunc
def repL (G : Gh) : List AV → List Value → Prop
  | [], l => l = []
  | x :: xs, l => ∃ y ys, l = y :: ys ∧ rep G x y ∧ repL G xs ys
end

theorem memAt.mono {G G' : Gh} (h : G.le G') {b o : Nat} {l : List Value} (m : memAt G b o l) : memAt G' b o l := fun j v hj => h.mem _ _ _ (m j v hj)

mutual
theorem rep.mono {G G' : Gh} (h : G.le G') : ∀ {x : AV} {v : Value}, rep G x v → rep G' x v
  | .b _, _, r => r
  | .i _ _, _, r => r
  | .s _, _, r => r
  | .np, _, r => r
  | .p _ _, _, ⟨B, h1, h2⟩ => ⟨B, h.ι _ _ h1, h2⟩
  | .ip _, _, ⟨b, o, l, h1, h2, h3⟩ => ⟨b, o, l, h1, repL.mono h h2, h3.mono h⟩
  | .sl _ _, _, ⟨A, c, vs, h1, h2, h3, h4, h5, h6⟩ =>
    ⟨A, c, vs, h1, h2, h3, fun hk => let ⟨a, e, t⟩ := h4 hk; ⟨a, e, h.τ _ _ t⟩, repL.mono h h5, h6.imp id fun ⟨b, o, sz, e, s, m⟩ => ⟨b, o, sz, e, s, m.mono h⟩⟩
  | .ne, _, r => r
  | .e _ _, _, ⟨y, h1, h2⟩ => ⟨y, h1, rep.mono h h2⟩
  | .a _, _, ⟨l, h1, h2⟩ => ⟨l, h1, repL.mono h h2⟩
  | .t _, _, ⟨l, h1, h2⟩ => ⟨l, h1, repL.mono h h2⟩
  | .f _ _, _, ⟨l, h1, h2⟩ => ⟨l, h1, repL.mono h h2⟩
  | .nf, _, r => r
theorem repL.mono {G G' : Gh} (h : G.le G') : ∀ {xs : List AV} {vs : List Value}, repL G xs vs → repL G' xs vs
  | [], _, r => r
  | _ :: _, _, ⟨y, ys, e, r1, r2⟩ => ⟨y, ys, e, rep.mono h r1, repL.mono h r2⟩
end

section lists
variable {G : Gh}

theorem repL_nil {l : List Value} : repL G [] l ↔ l = [] := by simp [repL]
theorem repL_cons {x : AV} {xs : List AV} {y : Value} {ys : List Value} : repL G (x :: xs) (y :: ys) ↔ rep G x y ∧ repL G xs ys := by
  simp only [repL]
  exact ⟨fun ⟨_, _, e, h⟩ => by cases e; exact h, fun h => ⟨_, _, rfl, h⟩⟩

theorem repL.length : ∀ {xs : List AV} {vs : List Value}, repL G xs vs → vs.length = xs.length
  | [], _, r => by rw [repL_nil] at r; simp [r]
  | _ :: _, _, ⟨y, ys, e, _, r2⟩ => by rw [e]; simp [repL.length r2]

theorem repL.get : ∀ {xs : List AV} {vs : List Value}, repL G xs vs → ∀ {j : Nat} {x : AV}, xs[j]? = some x → ∃ v, vs[j]? = some v ∧ rep G x v
  | [], _, _, j, x, h => by simp at h
  | y :: ys, _, ⟨z, zs, e, r1, r2⟩, 0, x, h => by subst e; simp at h; subst h; exact ⟨z, rfl, r1⟩
  | y :: ys, _, ⟨z, zs, e, r1, r2⟩, j + 1, x, h => by subst e; simp at h; obtain ⟨v, h1, h2⟩ := repL.get r2 h; exact ⟨v, by simpa using h1, h2⟩

theorem repL.append : ∀ {xs ys : List AV} {vs us : List Value}, repL G xs vs → repL G ys us → repL G (xs ++ ys) (vs ++ us)
  | [], _, _, _, r, s => by rw [repL_nil] at r; subst r; exact s
  | _ :: _, _, _, _, ⟨z, zs, e, r1, r2⟩, s => by subst e; exact repL_cons.2 ⟨r1, repL.append r2 s⟩

theorem repL.take : ∀ {xs : List AV} {vs : List Value} (n : Nat), repL G xs vs → repL G (xs.take n) (vs.take n)
  | _, _, 0, _ => by simp [repL_nil]
  | [], _, n + 1, r => by rw [repL_nil] at r; subst r; simp [repL_nil]
  | _ :: _, _, n + 1, ⟨z, zs, e, r1, r2⟩ => by subst e; exact repL_cons.2 ⟨r1, repL.take n r2⟩

theorem repL.drop : ∀ {xs : List AV} {vs : List Value} (n : Nat), repL G xs vs → repL G (xs.drop n) (vs.drop n)
  | _, _, 0, r => by simpa using r
  | [], _, n + 1, r => by rw [repL_nil] at r; subst r; simp [repL_nil]
  | _ :: _, _, n + 1, ⟨z, zs, e, r1, r2⟩ => by subst e; simpa using repL.drop n r2

theorem repL.set : ∀ {xs : List AV} {vs : List Value} (n : Nat) {x : AV} {v : Value}, repL G xs vs → rep G x v → repL G (xs.set n x) (vs.set n v)
  | [], _, n, _, _, r, _ => by rw [repL_nil] at r; subst r; simp [repL_nil]
  | _ :: _, _, 0, _, _, ⟨z, zs, e, r1, r2⟩, s => by subst e; exact repL_cons.2 ⟨s, r2⟩
  | _ :: _, _, n + 1, _, _, ⟨z, zs, e, r1, r2⟩, s => by subst e; exact repL_cons.2 ⟨r1, repL.set n r2 s⟩

theorem repL.of_get {xs : List AV} {vs : List Value} (hl : vs.length = xs.length) (h : ∀ (j : Nat) x v, xs[j]? = some x → vs[j]? = some v → rep G x v) : repL G xs vs := by
  induction xs generalizing vs with
  | nil => rw [repL_nil]; simpa using hl
  | cons x xs ih =>
    cases vs with
    | nil => simp at hl
    | cons v vs => exact repL_cons.2 ⟨h 0 x v rfl rfl, ih (by simpa using hl) fun j a b ha hb => h (j + 1) a b (by simpa using ha) (by simpa using hb)⟩
end lists

theorem rep.strip0 {G : Gh} : ∀ {x : AV} {v : Value}, rep G x v → rep G x.strip0 v
  | .sl es k, v, r => by
    obtain ⟨A, c, vs, h1, h2, h3, h4, h5, h6⟩ := r
    exact ⟨A, c, vs, h1, h2, fun h => by omega, fun h => by omega, h5, h6⟩
  | .b _, _, r => r
  | .i _ _, _, r => r
  | .s _, _, r => r
  | .np, _, r => r
  | .p _ _, _, r => r
  | .ip _, _, r => r
  | .ne, _, r => r
  | .e _ _, _, r => r
  | .a _, _, r => r
  | .t _, _, r => r
  | .f _ _, _, r => r
  | .nf, _, r => r

theorem repL.strip0 {G : Gh} : ∀ {xs : List AV} {vs : List Value}, repL G xs vs → repL G (xs.map AV.strip0) vs
  | [], _, r => r
  | _ :: _, _, ⟨z, zs, e, r1, r2⟩ => by subst e; exact repL_cons.2 ⟨r1.strip0, repL.strip0 r2⟩

theorem rep.strip {G : Gh} : ∀ {x : AV} {v : Value}, rep G x v → rep G x.strip v
  | .sl es k, v, r => rep.strip0 (x := .sl es k) r
  | .a cs, v, ⟨l, h1, h2⟩ => ⟨l, h1, repL.strip0 h2⟩
  | .b _, _, r => r
  | .i _ _, _, r => r
  | .s _, _, r => r
  | .np, _, r => r
  | .p _ _, _, r => r
  | .ip _, _, r => r
  | .ne, _, r => r
  | .e _ _, _, r => r
  | .t _, _, r => r
  | .f _ _, _, r => r
  | .nf, _, r => r

theorem repL.strip {G : Gh} : ∀ {xs : List AV} {vs : List Value}, repL G xs vs → repL G (xs.map AV.strip) vs
  | [], _, r => r
  | _ :: _, _, ⟨z, zs, e, r1, r2⟩ => by subst e; exact repL_cons.2 ⟨r1.strip, repL.strip r2⟩

/-- A value's cells. -/
theorem rep.cells {G : Gh} : ∀ {x : AV} {v : Value}, rep G x v → repL G x.cells v.cells.toList
  | .a cs, v, ⟨l, h1, h2⟩ => by subst h1; exact h2
  | .b _, _, r => by simp only [rep] at r; subst r; simp [AV.cells, Value.cells, repL, rep]
  | .i _ _, _, r => by simp only [rep] at r; subst r; simp [AV.cells, Value.cells, repL, rep]
  | .s _, _, r => by simp only [rep] at r; subst r; simp [AV.cells, Value.cells, repL, rep]
  | .np, _, r => by simp only [rep] at r; subst r; simp [AV.cells, Value.cells, repL, rep]
  | .ne, _, r => by simp only [rep] at r; subst r; simp [AV.cells, Value.cells, repL, rep]
  | .nf, _, r => by simp only [rep] at r; subst r; simp [AV.cells, Value.cells, repL, rep]
  | .p l o, v, r => by have r' := r; obtain ⟨_, _, e⟩ := r; subst e; exact ⟨_, _, rfl, r', rfl⟩
  | .ip cs, v, r => by have r' := r; obtain ⟨_, _, _, e, _⟩ := r; subst e; exact ⟨_, _, rfl, r', rfl⟩
  | .sl es k, v, r => by have r' := r; obtain ⟨_, _, _, e, _⟩ := r; subst e; exact ⟨_, _, rfl, r', rfl⟩
  | .e t x, v, r => by have r' := r; obtain ⟨_, e, _⟩ := r; subst e; exact ⟨_, _, rfl, r', rfl⟩
  | .t vs, v, r => by have r' := r; obtain ⟨_, e, _⟩ := r; subst e; exact ⟨_, _, rfl, r', rfl⟩
  | .f fn cs, v, r => by have r' := r; obtain ⟨_, e, _⟩ := r; subst e; exact ⟨_, _, rfl, r', rfl⟩

theorem rep.cells_size {G : Gh} {x : AV} {v : Value} (r : rep G x v) : v.cells.size = x.cells.length := by
  have := r.cells.length
  simpa using this

/-- Cells that are flat are cells. -/
theorem repL.oneCell {G : Gh} : ∀ {xs : List AV} {vs : List Value}, repL G xs vs → flat xs = true → ∀ v ∈ vs, v.oneCell' = true
  | [], _, r, _, v, hv => by rw [repL_nil] at r; subst r; simp at hv
  | x :: xs, _, ⟨z, zs, e, r1, r2⟩, hf, v, hv => by
    subst e
    have hx : z.oneCell' = true ∧ flat xs = true := by
      cases x <;> simp only [flat, Bool.false_eq_true] at hf <;> simp only [rep] at r1 <;> refine ⟨?_, hf⟩
      all_goals first
        | (subst r1; rfl)
        | (obtain ⟨_, _, e⟩ := r1; subst e; rfl)
        | (obtain ⟨_, e, _⟩ := r1; subst e; rfl)
        | (obtain ⟨_, _, _, e, _⟩ := r1; subst e; rfl)
    rcases List.mem_cons.1 hv with h | h
    · rw [h]; exact hx.1
    · exact repL.oneCell r2 hx.2 v h

theorem leaf_rep {G : Gh} {v : Value} {x : AV} (h : leaf v = some x) : rep G x v := by
  unfold leaf at h
  split at h <;> simp only [Option.some.injEq, reduceCtorEq] at h <;> subst h
  all_goals first
    | rfl
    | exact ⟨none, 0, [], rfl, Nat.le_refl _, fun _ => ⟨rfl, rfl⟩, fun h => absurd h (by decide), rfl, Or.inl rfl⟩
    | exact ⟨#[], rfl, rfl⟩

theorem leafs_rep {G : Gh} : ∀ {vs : List Value} {xs : List AV}, leafs vs = some xs → repL G xs vs
  | [], xs, h => by simp [leafs] at h; subst h; simp [repL]
  | v :: vs, xs, h => by
    simp only [leafs] at h
    split at h
    · rename_i x hx
      split at h
      · rename_i ys hy
        simp only [Option.some.injEq] at h; subst h
        exact repL_cons.2 ⟨leaf_rep hx, leafs_rep hy⟩
      · simp at h
    · simp at h

theorem ofConst_rep {G : Gh} {v : Value} {x : AV} (h : ofConst v = some x) : rep G x v := by
  unfold ofConst at h
  split at h
  · split at h
    · rename_i l hl
      simp only [Option.some.injEq] at h; subst h
      exact ⟨_, rfl, leafs_rep hl⟩
    · simp at h
  · exact leaf_rep h

/-- The frame. -/
structure FR (N : Nat) (G : Gh) (ρ : Nat → AV) (a : Act) : Prop where
  defers : a.defers = []
  size : a.tmps.size = N
  rd : ∀ j, rep G (ρ j) (a.tmps.getD j undef)

theorem FR.mono {N : Nat} {G G' : Gh} {ρ : Nat → AV} {a : Act} (h : FR N G ρ a) (hg : G.le G') : FR N G' ρ a := ⟨h.defers, h.size, fun j => (h.rd j).mono hg⟩

theorem rep_undef (G : Gh) : rep G .u undef := ⟨#[], rfl, rfl⟩

def upd (ρ : Nat → AV) (d : Nat) (v : AV) : Nat → AV := fun j => if j = d then v else ρ j
def updO (ρ : Nat → AV) (d : Option Nat) (v : AV) : Nat → AV := match d with | some d => upd ρ d v | none => ρ

theorem FR.put {N : Nat} {G : Gh} {ρ : Nat → AV} {a : Act} (h : FR N G ρ a) {d : Option Nat} {x : AV} {v : Value} (hd : ∀ t, d = some t → t < N) (r : rep G x v) : FR N G (updO ρ d x) (a.put d v) := by
  cases d with
  | none => exact h
  | some d =>
    have hlt := hd d rfl
    refine ⟨h.defers, by simp [Act.put, h.size], fun j => ?_⟩
    simp only [updO, upd, Act.put, Array.getD_eq_getD_getElem?]
    by_cases hj : j = d
    · subst hj
      simp [h.size, hlt, r]
    · rw [if_neg hj, Array.getElem?_setIfInBounds_ne (fun e => hj e.symm)]
      simpa using h.rd j

theorem opd_rep {N : Nat} {G : Gh} {ρ : Nat → AV} {a : Act} (h : FR N G ρ a) {x : Operand} {v : AV} (hv : opd ρ x = some v) : rep G v (a.eval x) := by
  cases x with
  | tmp t => simp only [opd, Option.some.injEq] at hv; subst hv; exact h.rd t
  | const c => exact ofConst_rep hv
  | global g => simp [opd] at hv
  | func f => simp only [opd, Option.some.injEq] at hv; subst hv; exact ⟨#[], rfl, rfl⟩

theorem opds_rep {N : Nat} {G : Gh} {ρ : Nat → AV} {a : Act} (h : FR N G ρ a) : ∀ {xs : List Operand} {vs : List AV}, opds ρ xs = some vs → repL G vs (xs.map a.eval)
  | [], vs, hv => by simp [opds] at hv; subst hv; simp [repL]
  | x :: xs, vs, hv => by
    simp only [opds] at hv
    split at hv
    · rename_i v hx
      split at hv
      · rename_i us hu
        simp only [Option.some.injEq] at hv; subst hv
        exact repL_cons.2 ⟨opd_rep h hx, opds_rep h hu⟩
      · simp at hv
    · simp at hv
end Go.Pv

namespace Go.Pv
open Go Go.RowKit
set_option linter.unusedVariables false
set_option linter.unusedSimpArgs false

theorem Tr.get_nil {α : Type} (j : Nat) : Tr.get (.nil : Tr α) j = none := rfl

theorem beq_eq (a b : Nat) : Nat.beq a b = decide (a = b) := by
  cases h : Nat.beq a b
  · exact (decide_eq_false (Nat.ne_of_beq_eq_false h)).symm
  · exact (decide_eq_true (Nat.eq_of_beq_eq_true h)).symm

theorem Tr.get_setF {α : Type} : ∀ (f : Nat) (t : Tr α) (n : Nat) (x : α) (j : Nat), n < f → Tr.get (Tr.setF f t n x) j = if j = n then some x else Tr.get t j
  | 0, _, _, _, _, h => by omega
  | f + 1, t, n, x, j, h => by
    have ih := fun (t : Tr α) (n : Nat) (j : Nat) (hn : n < f) => Tr.get_setF f t n x j hn
    cases n with
    | zero =>
      cases t with
      | nil => cases j with
        | zero => simp [Tr.setF, Tr.get]
        | succ k => simp only [Tr.setF, Tr.get]; split <;> simp
      | node v l r => cases j with
        | zero => simp [Tr.setF, Tr.get]
        | succ k => simp [Tr.setF, Tr.get]
    | succ m =>
      have hm : m / 2 < f := by omega
      cases t with
      | nil =>
        cases j with
        | zero => by_cases h2 : m % 2 = 0 <;> simp [Tr.setF, Tr.get, beq_eq, h2]
        | succ k =>
          by_cases h2 : m % 2 = 0 <;> by_cases h3 : k % 2 = 0 <;> simp [Tr.setF, Tr.get, beq_eq, h2, h3, ih _ _ _ hm, Tr.get_nil]
          all_goals first
            | (by_cases he : k / 2 = m / 2
               · rw [if_pos he, if_pos (by omega)]
               · rw [if_neg he, if_neg (by omega)])
            | omega
      | node v l r =>
        cases j with
        | zero => by_cases h2 : m % 2 = 0 <;> simp [Tr.setF, Tr.get, beq_eq, h2]
        | succ k =>
          by_cases h2 : m % 2 = 0 <;> by_cases h3 : k % 2 = 0 <;> simp [Tr.setF, Tr.get, beq_eq, h2, h3, ih _ _ _ hm]
          all_goals first
            | (by_cases he : k / 2 = m / 2
               · rw [if_pos he, if_pos (by omega)]
               · rw [if_neg he, if_neg (by omega)])
            | (rw [if_neg (by omega)])
            | (intro e; omega)

theorem Tr.get_set {α : Type} (t : Tr α) (n : Nat) (x : α) (j : Nat) : Tr.get (Tr.set t n x) j = if j = n then some x else Tr.get t j :=
  Tr.get_setF _ _ _ _ _ (Nat.lt_succ_self n)

theorem Fr.rd_set (fr : Fr) (d : Nat) (v : AV) : Fr.rd (Tr.set fr d v) = upd fr.rd d v := by
  funext j
  simp only [Fr.rd, Tr.get_set, upd]
  split <;> rfl

theorem Tr.ofList_mem {α : Type} {k : Nat} {v : α} : ∀ {l : List (Nat × α)}, Tr.get (Tr.ofList l) k = some v → (k, v) ∈ l
  | [], h => by simp [Tr.ofList, Tr.get] at h
  | (k', v') :: r, h => by
    simp only [Tr.ofList, Tr.get_set] at h
    split at h
    · rename_i e; simp only [Option.some.injEq] at h; subst e; subst h; exact List.mem_cons_self
    · exact List.mem_cons_of_mem _ (Tr.ofList_mem h)

structure Inv (base : Nat) (w0 : World) (G : Gh) (σ : St) (w : World) : Prop where
  bel : Below base w0 w
  bsz : base ≤ w.heap.size
  mem : ∀ b o v, G.mem b o = some v → w.cell? ⟨b, o, none⟩ = some v
  ιlt : ∀ l B, G.ι l = some B → (Tr.get σ.h l).isSome = true ∧ base ≤ B ∧ B < w.heap.size
  inj : ∀ l l' B, G.ι l = some B → G.ι l' = some B → l = l'
  ιmem : ∀ l B, G.ι l = some B → ∀ o, G.mem B o = none
  box : ∀ l cs, Tr.get σ.h l = some cs → ∃ B vs, G.ι l = some B ∧ repL G cs vs ∧ (∀ (j : Nat) v, vs[j]? = some v → w.cell? ⟨B, j, none⟩ = some v ∧ w.frozen? ⟨B, j, none⟩ = false)
  τlt : ∀ k x, G.τ k = some x → (Tr.get σ.tk k).isSome = true
  tok : ∀ k sz, Tr.get σ.tk k = some sz → sz ≠ 0 → ∃ a n c, G.τ k = some (a, n, c) ∧ a.spot = none ∧ base ≤ a.block ∧ a.block < w.heap.size ∧ n ≤ c ∧ (∀ l, G.ι l ≠ some a.block) ∧
    (∀ j, n * sz ≤ j → j < c * sz → G.mem a.block (a.off + j) = none ∧ (∃ v, w.cell? ⟨a.block, a.off + j, none⟩ = some v) ∧ w.frozen? ⟨a.block, a.off + j, none⟩ = false)
  tdis : ∀ k k' sz sz' a n c a' n' c', Tr.get σ.tk k = some sz → sz ≠ 0 → Tr.get σ.tk k' = some sz' → sz' ≠ 0 → G.τ k = some (a, n, c) → G.τ k' = some (a', n', c') → a.block = a'.block → k = k'
  old : ∀ b o, b < base → G.mem b o = G.old b o

section
variable {base : Nat} {w0 : World} {G : Gh} {σ : St} {w : World}

theorem Inv.drew (h : Inv base w0 G σ w) : Inv base w0 G σ w.drew :=
  ⟨h.bel.drew, h.bsz, h.mem, h.ιlt, h.inj, h.ιmem, h.box, h.τlt, h.tok, h.tdis, h.old⟩

theorem Inv.bump (h : Inv base w0 G σ w) (n : Nat) : Inv base w0 G (σ.bump n) w :=
  ⟨h.bel, h.bsz, h.mem, h.ιlt, h.inj, h.ιmem, h.box, h.τlt, h.tok, h.tdis, h.old⟩

theorem isSome_set {α : Type} (t : Tr α) (n : Nat) (x : α) (j : Nat) (h : (Tr.get t j).isSome = true) : (Tr.get (Tr.set t n x) j).isSome = true := by
  rw [Tr.get_set]; split
  · rfl
  · exact h

theorem Inv.memlt (h : Inv base w0 G σ w) {b o : Nat} {v : Value} (hm : G.mem b o = some v) : b < w.heap.size := World.block_lt_of_cell? _ _ (h.mem _ _ _ hm)

theorem Inv.fresh (h : Inv base w0 G σ w) (o : Nat) : G.mem w.heap.size o = none := by
  cases hm : G.mem w.heap.size o with
  | none => rfl
  | some v => exact absurd (h.memlt hm) (Nat.lt_irrefl _)

/-- A block more. -/
theorem cell_alloc (w : World) (o : Obj) {a : Addr} (ha : a.block < w.heap.size) : (w.alloc o).cell? a = w.cell? a := World.cell?_alloc_lt _ _ _ ha
theorem frozen_alloc (w : World) (o : Obj) {a : Addr} (ha : a.block < w.heap.size) : (w.alloc o).frozen? a = w.frozen? a := World.frozen?_alloc_old _ _ _ (Nat.ne_of_lt ha)

def Gh.addBox (G : Gh) (l B : Nat) : Gh := { G with ι := fun x => if x = l then some B else G.ι x }

theorem Inv.newBox (h : Inv base w0 G σ w) {j : Nat} (hfree : boxFree j σ = true) {cs : List AV} {vs : List Value} (r : repL G cs vs) (t : TypeId) :
    let G' := G.addBox (σ.nb + j) w.heap.size
    G.le G' ∧ Inv base w0 G' (newBox j cs σ).2 (w.alloc (.cells vs.toArray t)) ∧ rep G' (newBox j cs σ).1 (.pointer (some ⟨w.heap.size, 0, none⟩)) := by
  intro G'
  have hget : Tr.get σ.h (σ.nb + j) = none := by
    unfold boxFree at hfree
    split at hfree
    · assumption
    · simp at hfree
  have hn : G.ι (σ.nb + j) = none := by
    cases hq : G.ι (σ.nb + j) with
    | none => rfl
    | some B => have := (h.ιlt _ _ hq).1; rw [hget] at this; simp at this
  have hle : G.le G' := ⟨fun l B hl => by
    show (if l = σ.nb + j then _ else _) = _
    rw [if_neg (fun e => by rw [e, hn] at hl; cases hl)]; exact hl, fun _ _ _ x => x, fun _ _ x => x, rfl⟩
  have ιcase : ∀ l B, G'.ι l = some B → (l = σ.nb + j ∧ B = w.heap.size) ∨ G.ι l = some B := fun l B hl => by
    simp only [G', Gh.addBox] at hl
    split at hl
    · rename_i e; simp only [Option.some.injEq] at hl; exact .inl ⟨e, hl.symm⟩
    · exact .inr hl
  have hsz : (w.alloc (.cells vs.toArray t)).heap.size = w.heap.size + 1 := by simp
  refine ⟨hle, ⟨h.bel.alloc h.bsz _, by rw [hsz]; have := h.bsz; omega, ?_, ?_, ?_, ?_, ?_, h.τlt, ?_, h.tdis, h.old⟩, ⟨w.heap.size, by simp [G', Gh.addBox], rfl⟩⟩
  · exact fun b o v hm => by
      have hm : G.mem b o = some v := hm
      rw [cell_alloc _ _ (a := ⟨b, o, none⟩) (h.memlt hm)]; exact h.mem _ _ _ hm
  · intro l B hl
    rw [hsz]
    rcases ιcase l B hl with ⟨e1, e2⟩ | hl
    · subst e1; subst e2
      exact ⟨by simp [Go.Pv.newBox, Tr.get_set], h.bsz, Nat.lt_succ_self _⟩
    · obtain ⟨h1, h2, h3⟩ := h.ιlt _ _ hl
      exact ⟨isSome_set _ _ _ _ h1, h2, by omega⟩
  · intro l l' B hl hl'
    rcases ιcase l B hl with ⟨e1, e2⟩ | hl <;> rcases ιcase l' B hl' with ⟨e3, e4⟩ | hl'
    · rw [e1, e3]
    · exact absurd (h.ιlt _ _ hl').2.2 (by rw [e2]; exact Nat.lt_irrefl _)
    · exact absurd (h.ιlt _ _ hl).2.2 (by rw [e4]; exact Nat.lt_irrefl _)
    · exact h.inj _ _ _ hl hl'
  · intro l B hl o
    rcases ιcase l B hl with ⟨e1, e2⟩ | hl
    · rw [e2]; exact h.fresh o
    · exact h.ιmem _ _ hl o
  · intro l cs' hl
    simp only [Go.Pv.newBox, Tr.get_set] at hl
    split at hl
    · rename_i e
      simp only [Option.some.injEq] at hl
      subst hl; subst e
      exact ⟨w.heap.size, vs, by simp [G', Gh.addBox], r.mono hle, fun j v hj => ⟨by rw [World.cell?_alloc_new]; simpa using hj, by simp⟩⟩
    · obtain ⟨B, us, h1, h2, h3⟩ := h.box _ _ hl
      have hB := (h.ιlt _ _ h1).2.2
      exact ⟨B, us, hle.ι _ _ h1, h2.mono hle, fun j v hj => by rw [cell_alloc _ _ (a := ⟨B, j, none⟩) hB, frozen_alloc _ _ (a := ⟨B, j, none⟩) hB]; exact h3 j v hj⟩
  · intro k sz hk hs
    obtain ⟨a, n, c, h1, h2, h3, h4, h5, h6, h7⟩ := h.tok k sz hk hs
    refine ⟨a, n, c, h1, h2, h3, by rw [hsz]; omega, h5, fun l hl => ?_, fun j h8 h9 => ?_⟩
    · rcases ιcase l _ hl with ⟨e1, e2⟩ | hl
      · omega
      · exact h6 l hl
    · rw [cell_alloc _ _ (a := ⟨a.block, a.off + j, none⟩) h4, frozen_alloc _ _ (a := ⟨a.block, a.off + j, none⟩) h4]; exact h7 j h8 h9

theorem put_get : ∀ (us : List AV) (cs : List AV) (o : Nat), o + us.length ≤ cs.length → ∀ j, (put cs o us)[j]? = if o ≤ j ∧ j < o + us.length then us[j - o]? else cs[j]?
  | [], cs, o, _, j => by
    simp only [put, List.length_nil]; rw [if_neg (by omega)]
  | u :: us, cs, o, h, j => by
    simp only [put]
    rw [put_get us (cs.set o u) (o + 1) (by simp at h ⊢; omega)]
    simp only [List.length_cons] at h ⊢
    by_cases h1 : j = o
    · subst h1
      rw [if_neg (by omega), if_pos (by omega), Nat.sub_self, List.getElem?_set_self (by omega)]; rfl
    · by_cases h2 : o + 1 ≤ j ∧ j < o + 1 + us.length
      · rw [if_pos h2, if_pos (by omega), show j - o = (j - (o + 1)) + 1 by omega]
        simp
      · rw [if_neg h2, if_neg (by omega), List.getElem?_set_ne (fun e => h1 e.symm)]

theorem put_length : ∀ (us : List AV) (cs : List AV) (o : Nat), (put cs o us).length = cs.length
  | [], cs, o => rfl
  | u :: us, cs, o => by simp [put, put_length us]

/-- The same of values. -/
def putV (cs : List Value) (o : Nat) (us : List Value) : List Value :=
  match us with
  | [] => cs
  | u :: r => putV (cs.set o u) (o + 1) r

theorem putV_get : ∀ (us : List Value) (cs : List Value) (o : Nat), o + us.length ≤ cs.length → ∀ j, (putV cs o us)[j]? = if o ≤ j ∧ j < o + us.length then us[j - o]? else cs[j]?
  | [], cs, o, _, j => by
    simp only [putV, List.length_nil]; rw [if_neg (by omega)]
  | u :: us, cs, o, h, j => by
    simp only [putV]
    rw [putV_get us (cs.set o u) (o + 1) (by simp at h ⊢; omega)]
    simp only [List.length_cons] at h ⊢
    by_cases h1 : j = o
    · subst h1
      rw [if_neg (by omega), if_pos (by omega), Nat.sub_self, List.getElem?_set_self (by omega)]; rfl
    · by_cases h2 : o + 1 ≤ j ∧ j < o + 1 + us.length
      · rw [if_pos h2, if_pos (by omega), show j - o = (j - (o + 1)) + 1 by omega]
        simp
      · rw [if_neg h2, if_neg (by omega), List.getElem?_set_ne (fun e => h1 e.symm)]

theorem repL.put {G : Gh} : ∀ {us : List AV} {us' : List Value} {cs : List AV} {vs : List Value} (o : Nat), repL G cs vs → repL G us us' → repL G (put cs o us) (putV vs o us')
  | [], _, _, _, _, r, s => by rw [repL_nil] at s; subst s; exact r
  | _ :: _, _, _, _, o, r, ⟨z, zs, e, s1, s2⟩ => by subst e; exact repL.put (o + 1) (r.set o s1) s2

theorem putV_length : ∀ (us : List Value) (cs : List Value) (o : Nat), (putV cs o us).length = cs.length
  | [], cs, o => rfl
  | u :: us, cs, o => by simp [putV, putV_length us]

/-- Cells of a block that is the call's own are written; what nobody writes stays. -/
theorem cell_setCells_else (w : World) (B o : Nat) (us : List Value) {a : Addr} (h : a.block ≠ B) : (w.setCells B o us).cell? a = w.cell? a :=
  World.cell?_setCells_out B us o w a fun e => absurd e h

theorem heap_setCells (B : Nat) : ∀ (vs : List Value) (o : Nat) (w : World) (k : Nat), k ≠ B → (w.setCells B o vs).heap[k]? = w.heap[k]?
  | [], _, _, _, _ => rfl
  | v :: r, o, w, k, h => by rw [World.setCells, heap_setCells B r _ _ _ h]; exact Below.heap_setCell _ _ _ _ h

theorem size_setCells (B : Nat) : ∀ (vs : List Value) (o : Nat) (w : World), (w.setCells B o vs).heap.size = w.heap.size
  | [], _, _ => rfl
  | v :: r, o, w => by rw [World.setCells, size_setCells B r]; simp

theorem below_setCells {A : World} (B : Nat) : ∀ (vs : List Value) (o : Nat) (w : World), Below base A w → base ≤ B → Below base A (w.setCells B o vs)
  | [], _, _, h, _ => h
  | v :: r, o, w, h, hb => by rw [World.setCells]; exact below_setCells B r _ _ (h.setCell (p := ⟨B, o, none⟩) hb v) hb

theorem Inv.store (h : Inv base w0 G σ w) {l B o : Nat} {cs us : List AV} {vs : List Value} (hl : Tr.get σ.h l = some cs) (hB : G.ι l = some B) (ho : o + us.length ≤ cs.length) (r : repL G us vs) :
    Inv base w0 G { σ with h := Tr.set σ.h l (put cs o us) } (w.setCells B o vs) ∧
    (∀ (j : Nat), j < vs.length → (w.cell? ⟨B, o + j, none⟩).isSome = true) ∧ (∀ (j : Nat), j < vs.length → w.frozen? ⟨B, o + j, none⟩ = false) := by
  obtain ⟨B', cv, h1, h2, h3⟩ := h.box _ _ hl
  have e : B' = B := by rw [hB] at h1; simpa using h1.symm
  subst e
  have hb := h.ιlt _ _ hB
  have hlen := r.length
  have hcl := h2.length
  have hin : ∀ (j : Nat), j < vs.length → ∃ v, cv[o + j]? = some v := fun j hj => ⟨cv[o + j]'(by omega), by simp⟩
  refine ⟨⟨below_setCells _ _ _ _ h.bel hb.2.1, by rw [size_setCells]; exact h.bsz, ?_, (fun l1 B1 h1 => by rw [size_setCells]; obtain ⟨q1, q2, q3⟩ := h.ιlt l1 B1 h1; exact ⟨isSome_set _ _ _ _ q1, q2, q3⟩), h.inj, h.ιmem, ?_, h.τlt, ?_, h.tdis, h.old⟩, ?_, ?_⟩
  · intro b o' v hm
    have hne : b ≠ B' := fun e => by rw [e, h.ιmem _ _ hB o'] at hm; cases hm
    rw [cell_setCells_else _ _ _ _ (a := ⟨b, o', none⟩) hne]; exact h.mem _ _ _ hm
  · intro l' cs' hl'
    simp only [Tr.get_set] at hl'
    split at hl'
    · rename_i e
      simp only [Option.some.injEq] at hl'
      subst hl'; subst e
      refine ⟨B', putV cv o vs, hB, h2.put o r, fun j v hj => ?_⟩
      rw [putV_get _ _ _ (by omega)] at hj
      rw [World.frozen?_setCells]
      split at hj
      · rename_i hr
        have hj2 : j - o < vs.length := by omega
        have := World.cell?_setCells_in B' vs o w (fun i hi => by obtain ⟨u, hu⟩ := hin i hi; rw [(h3 _ _ hu).1]; rfl) (j - o) hj2
        rw [show o + (j - o) = j by omega] at this
        rw [this]
        rw [List.getElem?_eq_getElem hj2] at hj
        obtain ⟨u, hu⟩ := hin (j - o) hj2
        rw [show o + (j - o) = j by omega] at hu
        exact ⟨hj, (h3 _ _ hu).2⟩
      · rename_i hr
        rw [World.cell?_setCells_out B' vs o w ⟨B', j, none⟩ (fun _ _ => by show j < o ∨ o + vs.length ≤ j; omega)]
        exact h3 j v hj
    · rename_i hne
      obtain ⟨B2, us2, g1, g2, g3⟩ := h.box _ _ hl'
      have hbb : B2 ≠ B' := fun e => hne (h.inj _ _ _ (e ▸ g1) hB)
      exact ⟨B2, us2, g1, g2, fun j v hj => by rw [cell_setCells_else _ _ _ _ (a := ⟨B2, j, none⟩) hbb, World.frozen?_setCells]; exact g3 j v hj⟩
  · intro k sz hk hs
    obtain ⟨a, n, c, g1, g2, g3, g4, g5, g6, g7⟩ := h.tok k sz hk hs
    refine ⟨a, n, c, g1, g2, g3, by rw [size_setCells]; exact g4, g5, g6, fun j g8 g9 => ?_⟩
    have hbb : a.block ≠ B' := fun e => g6 l (e ▸ hB)
    rw [cell_setCells_else _ _ _ _ (a := ⟨a.block, a.off + j, none⟩) hbb, World.frozen?_setCells]; exact g7 j g8 g9
  · intro j hj
    obtain ⟨u, hu⟩ := hin j hj
    rw [(h3 _ _ hu).1]; rfl
  · intro j hj
    obtain ⟨u, hu⟩ := hin j hj
    exact (h3 _ _ hu).2

def Gh.addRow (G : Gh) (b : Nat) (vs : List Value) (k : Nat) (x : Addr × Nat × Nat) : Gh :=
  { ι := G.ι, mem := fun b' o => if b' = b ∧ o < vs.length then vs[o]? else G.mem b' o, τ := fun k' => if k' = k then some x else G.τ k', old := G.old }

/-- A row that is made: its first cells are never written again; what is behind is the token's. -/
theorem tok_none {σ : St} {j : Nat} (h : tokFree j σ = true) : Tr.get σ.tk (σ.nb + j + 2) = none := by
  unfold tokFree at h
  split at h
  · assumption
  · simp at h

theorem Inv.newRow (h : Inv base w0 G σ w) {j : Nat} (hfree : tokFree j σ = true) {vs rest : List Value} {t : TypeId} {n c sz : Nat} (hsz : sz ≠ 0) (hn : vs.length = n * sz) (hc : vs.length + rest.length = c * sz) (hnc : n ≤ c) :
    let k := σ.nb + j + 2
    let G' := G.addRow w.heap.size vs k (⟨w.heap.size, 0, none⟩, n, c)
    G.le G' ∧ Inv base w0 G' (newTok j sz σ).2 (w.alloc (.cells (vs ++ rest).toArray t)) ∧ memAt G' w.heap.size 0 vs ∧ G'.τ k = some (⟨w.heap.size, 0, none⟩, n, c) := by
  intro k G'
  have hτ : G.τ k = none := by
    cases hq : G.τ k with
    | none => rfl
    | some x => have := h.τlt _ _ hq; rw [tok_none hfree] at this; simp at this
  have hle : G.le G' := by
    refine ⟨fun _ _ x => x, fun b o v hm => ?_, fun k' x hk => ?_, rfl⟩
    · show (if b = _ ∧ _ then _ else _) = _
      rw [if_neg (fun e => by rw [e.1, h.fresh] at hm; cases hm)]; exact hm
    · show (if k' = k then _ else _) = _
      rw [if_neg (fun e => by rw [e, hτ] at hk; cases hk)]; exact hk
  have memcase : ∀ b o v, G'.mem b o = some v → (b = w.heap.size ∧ vs[o]? = some v) ∨ (b ≠ w.heap.size ∧ G.mem b o = some v) := fun b o v hm => by
    simp only [G', Gh.addRow] at hm
    split at hm
    · rename_i e; exact .inl ⟨e.1, hm⟩
    · rename_i e; exact .inr ⟨(fun e => by (rw [e, h.fresh] at hm; cases hm)), hm⟩
  have hlt : ∀ k' sz', Tr.get σ.tk k' = some sz' → k' ≠ k := fun k' sz' hk e => by rw [e, tok_none hfree] at hk; cases hk
  have hsize : (w.alloc (.cells (vs ++ rest).toArray t)).heap.size = w.heap.size + 1 := by simp
  refine ⟨hle, ⟨h.bel.alloc h.bsz _, by rw [hsize]; have := h.bsz; omega, ?_, ?_, h.inj, ?_, ?_, ?_, ?_, ?_, fun b o hb => (by
    show (if b = _ ∧ _ then _ else _) = _
    rw [if_neg (fun e => by have := h.bsz; omega)]; exact h.old b o hb)⟩, ?_, ?_⟩
  · intro b o v hm
    rcases memcase b o v hm with ⟨e, hv⟩ | ⟨e, hm⟩
    · subst e
      rw [World.cell?_alloc_new]
      have hlt : o < vs.length := by
        rcases Nat.lt_or_ge o vs.length with h' | h'
        · exact h'
        · simp [List.getElem?_eq_none h'] at hv
      simp [List.getElem?_append_left hlt, hv]
    · rw [cell_alloc _ _ (h.memlt hm)]; exact h.mem _ _ _ hm
  · intro l B hl
    obtain ⟨h1, h2, h3⟩ := h.ιlt _ _ hl
    exact ⟨h1, h2, by rw [hsize]; omega⟩
  · intro l B hl o
    have hB := (h.ιlt _ _ hl).2.2
    show (if B = _ ∧ _ then _ else _) = _
    rw [if_neg (fun e => by omega)]; exact h.ιmem _ _ hl o
  · intro l cs hl
    obtain ⟨B, us, h1, h2, h3⟩ := h.box _ _ hl
    have hB := (h.ιlt _ _ h1).2.2
    exact ⟨B, us, h1, h2.mono hle, fun j v hj => by rw [cell_alloc _ _ (a := ⟨B, j, none⟩) hB, frozen_alloc _ _ (a := ⟨B, j, none⟩) hB]; exact h3 j v hj⟩
  · intro k' x hk
    simp only [G', Gh.addRow] at hk
    split at hk
    · rename_i e; subst e; simp [newTok, Tr.get_set, k]
    · simp only [newTok]; exact isSome_set _ _ _ _ (h.τlt _ _ hk)
  · intro k' sz' hk hs
    simp only [newTok, Tr.get_set] at hk
    split at hk
    · rename_i e
      simp only [Option.some.injEq] at hk
      subst hk; subst e
      refine ⟨⟨w.heap.size, 0, none⟩, n, c, by simp [G', Gh.addRow, k], rfl, h.bsz, by rw [hsize]; exact Nat.lt_succ_self _, hnc, fun l hl => ?_, fun j h8 h9 => ⟨?_, ?_, by simp⟩⟩
      · exact absurd (h.ιlt _ _ hl).2.2 (Nat.lt_irrefl _)
      · show (if _ ∧ _ then _ else _) = _
        rw [if_neg (by simp only [Nat.zero_add]; omega)]; exact h.fresh _
      · rw [World.cell?_alloc_new]
        exact ⟨(vs ++ rest)[0 + j]'(by simp; omega), by simp⟩
    · rename_i hne
      obtain ⟨a, n', c', g1, g2, g3, g4, g5, g6, g7⟩ := h.tok k' sz' hk hs
      refine ⟨a, n', c', hle.τ _ _ g1, g2, g3, by rw [hsize]; omega, g5, g6, fun j g8 g9 => ?_⟩
      rw [cell_alloc _ _ (a := ⟨a.block, a.off + j, none⟩) g4, frozen_alloc _ _ (a := ⟨a.block, a.off + j, none⟩) g4]
      refine ⟨?_, (g7 j g8 g9).2⟩
      show (if _ ∧ _ then _ else _) = _
      rw [if_neg (fun e => by omega)]; exact (g7 j g8 g9).1
  · intro k1 k2 s1 s2 a1 n1 c1 a2 n2 c2 hk1 hs1 hk2 hs2 ht1 ht2 hb
    simp only [newTok, Tr.get_set] at hk1 hk2
    simp only [G', Gh.addRow] at ht1 ht2
    by_cases e1 : k1 = σ.nb + j + 2 <;> by_cases e2 : k2 = σ.nb + j + 2
    · rw [e1, e2]
    · rw [if_neg e2] at hk2
      rw [if_pos (show k1 = k from e1)] at ht1
      rw [if_neg (show ¬ k2 = k from e2)] at ht2
      obtain ⟨a, n', c', g1, g2, g3, g4, _⟩ := h.tok _ _ hk2 hs2
      rw [g1] at ht2
      simp only [Option.some.injEq, Prod.mk.injEq] at ht1 ht2
      obtain ⟨q1, _⟩ := ht1
      obtain ⟨q2, _⟩ := ht2
      rw [← q1, ← q2] at hb
      simp only at hb
      omega
    · rw [if_neg e1] at hk1
      rw [if_pos (show k2 = k from e2)] at ht2
      rw [if_neg (show ¬ k1 = k from e1)] at ht1
      obtain ⟨a, n', c', g1, g2, g3, g4, _⟩ := h.tok _ _ hk1 hs1
      rw [g1] at ht1
      simp only [Option.some.injEq, Prod.mk.injEq] at ht1 ht2
      obtain ⟨q1, _⟩ := ht1
      obtain ⟨q2, _⟩ := ht2
      rw [← q1, ← q2] at hb
      simp only at hb
      omega
    · rw [if_neg e1] at hk1
      rw [if_neg e2] at hk2
      rw [if_neg (show ¬ k1 = k from e1)] at ht1
      rw [if_neg (show ¬ k2 = k from e2)] at ht2
      exact h.tdis _ _ _ _ _ _ _ _ _ _ hk1 hs1 hk2 hs2 ht1 ht2 hb
  · intro j v hj
    have hlt : j < vs.length := by
      rcases Nat.lt_or_ge j vs.length with h' | h'
      · exact h'
      · simp [List.getElem?_eq_none h'] at hj
    show (if _ ∧ _ then _ else _) = _
    rw [Nat.zero_add, if_pos ⟨rfl, hlt⟩]; exact hj
  · simp [G', Gh.addRow]

def Gh.addSpare (G : Gh) (b lo : Nat) (vs : List Value) (k : Nat) (x : Addr × Nat × Nat) : Gh :=
  { ι := G.ι, mem := fun b' o => if b' = b ∧ lo ≤ o ∧ o < lo + vs.length then vs[o - lo]? else G.mem b' o, τ := fun k' => if k' = k then some x else G.τ k', old := G.old }

/-- An append in place: the token's cells are written. -/
theorem Inv.grow (h : Inv base w0 G σ w) {j : Nat} (hfree : tokFree j σ = true) {k sz n c m : Nat} {a : Addr} {vs : List Value} (hk : Tr.get σ.tk k = some sz) (hs : sz ≠ 0) (hτ : G.τ k = some (a, n, c)) (hm : vs.length = m * sz) (hroom : n + m ≤ c) :
    let k' := σ.nb + j + 2
    let G' := G.addSpare a.block (a.off + n * sz) vs k' (a, n + m, c)
    G.le G' ∧ Inv base w0 G' (newTok j sz { σ with tk := Tr.set σ.tk k 0 }).2 (w.setCells a.block (a.off + n * sz) vs) ∧ memAt G' a.block (a.off + n * sz) vs ∧ G'.τ k' = some (a, n + m, c) ∧
    (∀ (j : Nat), j < vs.length → (w.cell? ⟨a.block, a.off + n * sz + j, none⟩).isSome = true) ∧ (∀ (j : Nat), j < vs.length → w.frozen? ⟨a.block, a.off + n * sz + j, none⟩ = false) := by
  intro k' G'
  obtain ⟨a', n', c', g1, g2, g3, g4, g5, g6, g7⟩ := h.tok k sz hk hs
  rw [hτ] at g1
  simp only [Option.some.injEq, Prod.mk.injEq] at g1
  obtain ⟨rfl, rfl, rfl⟩ := g1
  have hmul : (n + m) * sz = n * sz + m * sz := Nat.add_mul _ _ _
  have hle2 : (n + m) * sz ≤ c * sz := Nat.mul_le_mul_right _ hroom
  have hsp : ∀ j, j < vs.length → G.mem a.block (a.off + n * sz + j) = none ∧ (∃ v, w.cell? ⟨a.block, a.off + n * sz + j, none⟩ = some v) ∧ w.frozen? ⟨a.block, a.off + n * sz + j, none⟩ = false := fun j hj => by
    have := g7 (n * sz + j) (by omega) (by omega)
    rwa [← Nat.add_assoc] at this
  have hτn : G.τ k' = none := by
    cases hq : G.τ k' with
    | none => rfl
    | some x => have := h.τlt _ _ hq; rw [tok_none hfree] at this; simp at this
  have hle : G.le G' := by
    refine ⟨fun _ _ x => x, fun b o v hm' => ?_, fun k1 x hk1 => ?_, rfl⟩
    · show (if b = _ ∧ _ then _ else _) = _
      rw [if_neg (fun e => by
        have := (hsp (o - (a.off + n * sz)) (by omega)).1
        rw [show a.off + n * sz + (o - (a.off + n * sz)) = o by omega, ← e.1, hm'] at this
        cases this)]; exact hm'
    · show (if k1 = k' then _ else _) = _
      rw [if_neg (fun e => by rw [e, hτn] at hk1; cases hk1)]; exact hk1
  have hkk : k ≠ k' := fun e => by rw [e, tok_none hfree] at hk; cases hk
  have hget : ∀ k1 s1, Tr.get (newTok j sz { σ with tk := Tr.set σ.tk k 0 }).2.tk k1 = some s1 → s1 ≠ 0 → (k1 = k' ∧ s1 = sz) ∨ (k1 ≠ k' ∧ k1 ≠ k ∧ Tr.get σ.tk k1 = some s1) := fun k1 s1 h1 h2 => by
    simp only [newTok, Tr.get_set] at h1
    split at h1
    · rename_i e; simp only [Option.some.injEq] at h1; exact .inl ⟨e, h1.symm⟩
    · rename_i e
      split at h1
      · simp only [Option.some.injEq] at h1; omega
      · rename_i e2; exact .inr ⟨e, e2, h1⟩
  refine ⟨hle, ⟨below_setCells _ _ _ _ h.bel g3, by rw [size_setCells]; exact h.bsz, ?_, by rw [size_setCells]; exact h.ιlt, h.inj, ?_, ?_, ?_, ?_, ?_, fun b o hb => (by
    show (if b = a.block ∧ _ then _ else _) = _
    rw [if_neg (fun e => by omega)]; exact h.old b o hb)⟩, ?_, ?_, fun j hj => ?_, fun j hj => (hsp j hj).2.2⟩
  · intro b o v hm'
    simp only [G', Gh.addSpare] at hm'
    split at hm'
    · rename_i e
      have hj : o - (a.off + n * sz) < vs.length := by omega
      have := World.cell?_setCells_in a.block vs (a.off + n * sz) w (fun i hi => by obtain ⟨u, hu⟩ := (hsp i hi).2.1; rw [hu]; rfl) _ hj
      rw [show a.off + n * sz + (o - (a.off + n * sz)) = o by omega] at this
      rw [e.1, this]
      rw [List.getElem?_eq_getElem hj] at hm'
      exact hm'
    · rename_i e
      rw [World.cell?_setCells_out a.block vs _ w ⟨b, o, none⟩ (fun e1 _ => by
        show o < _ ∨ _ ≤ o
        have e1 : b = a.block := e1
        rcases Nat.lt_or_ge o (a.off + n * sz) with h1 | h1
        · exact .inl h1
        · rcases Nat.lt_or_ge o (a.off + n * sz + vs.length) with h2 | h2
          · exact absurd ⟨e1, h1, h2⟩ e
          · exact .inr h2)]
      exact h.mem _ _ _ hm'
  · intro l B hl o
    show (if B = a.block ∧ _ then _ else _) = _
    rw [if_neg (fun (e : B = a.block ∧ _) => g6 l (e.1 ▸ hl))]; exact h.ιmem _ _ hl o
  · intro l cs hl
    obtain ⟨B, us, h1, h2, h3⟩ := h.box _ _ hl
    have hbb : B ≠ a.block := fun e => g6 l (e ▸ h1)
    exact ⟨B, us, h1, h2.mono hle, fun j v hj => by rw [cell_setCells_else _ _ _ _ (a := ⟨B, j, none⟩) hbb, World.frozen?_setCells]; exact h3 j v hj⟩
  · intro k1 x hk1
    simp only [G', Gh.addSpare] at hk1
    split at hk1
    · rename_i e; subst e; simp [newTok, Tr.get_set, k']
    · simp only [newTok]; exact isSome_set _ _ _ _ (isSome_set _ _ _ _ (h.τlt _ _ hk1))
  · intro k1 s1 hk1 hs1
    rcases hget k1 s1 hk1 hs1 with ⟨e1, e2⟩ | ⟨e1, e3, hk1'⟩
    · subst e1; subst e2
      refine ⟨a, n + m, c, by simp [G', Gh.addSpare], g2, g3, by rw [size_setCells]; exact g4, hroom, g6, fun j h8 h9 => ?_⟩
      have h10 := g7 j (by omega) h9
      refine ⟨?_, ?_, by rw [World.frozen?_setCells]; exact h10.2.2⟩
      · show (if _ ∧ _ then _ else _) = _
        rw [if_neg (by omega)]; exact h10.1
      · rw [World.cell?_setCells_out a.block vs _ w ⟨a.block, a.off + j, none⟩ (fun _ _ => by show a.off + j < _ ∨ _ ≤ a.off + j; omega)]
        exact h10.2.1
    · obtain ⟨a1, n1, c1, q1, q2, q3, q4, q5, q6, q7⟩ := h.tok k1 s1 hk1' hs1
      have hbb : a1.block ≠ a.block := fun e => e3 (h.tdis _ _ _ _ _ _ _ _ _ _ hk1' hs1 hk hs q1 hτ e)
      refine ⟨a1, n1, c1, hle.τ _ _ q1, q2, q3, by rw [size_setCells]; exact q4, q5, q6, fun j h8 h9 => ?_⟩
      rw [cell_setCells_else _ _ _ _ (a := ⟨a1.block, a1.off + j, none⟩) hbb, World.frozen?_setCells]
      refine ⟨?_, (q7 j h8 h9).2⟩
      show (if _ ∧ _ then _ else _) = _
      rw [if_neg (fun e => hbb e.1)]; exact (q7 j h8 h9).1
  · intro k1 k2 s1 s2 a1 n1 c1 a2 n2 c2 hk1 hs1 hk2 hs2 ht1 ht2 hb
    simp only [G', Gh.addSpare] at ht1 ht2
    rcases hget k1 s1 hk1 hs1 with ⟨e1, e2⟩ | ⟨e1, e3, hk1'⟩ <;> rcases hget k2 s2 hk2 hs2 with ⟨f1, f2⟩ | ⟨f1, f3, hk2'⟩
    · rw [e1, f1]
    · rw [if_pos e1] at ht1
      rw [if_neg f1] at ht2
      simp only [Option.some.injEq, Prod.mk.injEq] at ht1
      exact absurd (h.tdis _ _ _ _ _ _ _ _ _ _ hk2' hs2 hk hs ht2 hτ (by rw [← hb, ← ht1.1])) f3
    · rw [if_pos f1] at ht2
      rw [if_neg e1] at ht1
      simp only [Option.some.injEq, Prod.mk.injEq] at ht2
      exact absurd (h.tdis _ _ _ _ _ _ _ _ _ _ hk1' hs1 hk hs ht1 hτ (by rw [hb, ← ht2.1])) e3
    · rw [if_neg e1] at ht1
      rw [if_neg f1] at ht2
      exact h.tdis _ _ _ _ _ _ _ _ _ _ hk1' hs1 hk2' hs2 ht1 ht2 hb
  · intro j v hj
    have hlt : j < vs.length := by
      rcases Nat.lt_or_ge j vs.length with h' | h'
      · exact h'
      · simp [List.getElem?_eq_none h'] at hj
    show (if _ ∧ _ then _ else _) = _
    rw [if_pos ⟨rfl, by omega, by omega⟩, show a.off + n * sz + j - (a.off + n * sz) = j by omega]; exact hj
  · simp [G', Gh.addSpare]
  · obtain ⟨u, hu⟩ := (hsp j hj).2.1
    rw [hu]; rfl

/-- A token that is spent. -/
theorem Inv.spend (h : Inv base w0 G σ w) (k : Nat) {sz : Nat} (hk : Tr.get σ.tk k = some sz) : Inv base w0 G { σ with tk := Tr.set σ.tk k 0 } w := by
  have hget : ∀ k1 s1, Tr.get (Tr.set σ.tk k 0) k1 = some s1 → s1 ≠ 0 → Tr.get σ.tk k1 = some s1 := fun k1 s1 h1 h2 => by
    rw [Tr.get_set] at h1
    split at h1
    · simp only [Option.some.injEq] at h1; omega
    · exact h1
  refine ⟨h.bel, h.bsz, h.mem, h.ιlt, h.inj, h.ιmem, h.box, fun k1 x h1 => isSome_set _ _ _ _ (h.τlt k1 x h1), fun k1 s1 h1 h2 => h.tok k1 s1 (hget _ _ h1 h2) h2, fun k1 k2 s1 s2 a n c a' n' c' h1 h2 h3 h4 => h.tdis k1 k2 s1 s2 a n c a' n' c' (hget _ _ h1 h2) h2 (hget _ _ h3 h4) h4, h.old⟩
end
end Go.Pv

namespace Go.Pv
open Go Go.RowKit
set_option linter.unusedVariables false
set_option linter.unusedSimpArgs false

structure TabOk (P : Program) (T : Tab) : Prop where
  und : ∀ t d, T.und t = some d → ∃ td, P.underlying t = some td ∧ TD.of td = d
  inf : ∀ t i, T.inf t = some i → ∃ ti, P.info? t = some ti ∧ TI.of ti = some i
  zlen : ∀ t i, T.inf t = some i → i.zero.length = i.size

def Yields (P : Program) (w : World) (G : Gh) (s : Sem Value) (x : AV) : Prop := ∃ v, s.run P w = .ok v w ∧ rep G x v

section
variable {P : Program} {T : Tab} {w : World} {G : Gh}

theorem Yields.pure {v : Value} {x : AV} (r : rep G x v) : Yields P w G (pure v) x := ⟨v, rfl, r⟩

theorem TD.slice_inv {td : TypeDesc} {e : TypeId} (h : TD.of td = .slice e) : td = .slice e := by cases td <;> simp [TD.of] at h; rw [h]
theorem TD.int_inv {td : TypeDesc} {k : IntKind} (h : TD.of td = .int k) : td = .int k := by cases td <;> simp [TD.of] at h; rw [h]
theorem TD.bool_inv {td : TypeDesc} (h : TD.of td = .bool) : td = .bool := by cases td <;> simp [TD.of] at h; rfl
theorem TD.string_inv {td : TypeDesc} (h : TD.of td = .string) : td = .string := by cases td <;> simp [TD.of] at h; rfl
theorem TD.array_inv {td : TypeDesc} {n : Nat} {e : TypeId} (h : TD.of td = .array n e) : td = .array n e := by cases td <;> simp [TD.of] at h; rw [h.1, h.2]
theorem TD.pointer_inv {td : TypeDesc} {e : TypeId} (h : TD.of td = .pointer e) : td = .pointer e := by cases td <;> simp [TD.of] at h; rw [h]
theorem TD.interface_inv {td : TypeDesc} (h : TD.of td = .interface) : ∃ m, td = .interface m := by cases td <;> simp [TD.of] at h; exact ⟨_, rfl⟩
theorem TD.struct_inv {td : TypeDesc} {fs : List (Nat × TypeId)} (h : TD.of td = .struct fs) : ∃ l, td = .struct l ∧ l.toList.map (fun f => (f.offset, f.type)) = fs := by cases td <;> simp [TD.of] at h; exact ⟨_, rfl, by simpa using h⟩

theorem run_und (ok : TabOk P T) {t : TypeId} {d : TD} (h : T.und t = some d) : ∃ td, TD.of td = d ∧ P.underlying t = some td ∧ ∀ w, (underlying t).run P w = .ok td w := by
  obtain ⟨td, h1, h2⟩ := ok.und _ _ h
  exact ⟨td, h2, h1, fun w => by simp [underlying, h1]⟩

theorem run_inf (ok : TabOk P T) {t : TypeId} {i : TI} (h : T.inf t = some i) : ∃ ti, P.info? t = some ti ∧ ti.size = i.size ∧ ti.bytes = i.bytes ∧ (∀ w, (typeInfo t).run P w = .ok ti w) ∧ (∀ w, (sizeOf t).run P w = .ok i.size w) ∧
    ∃ z, ti.zero = some z ∧ (∀ w, (zeroValue t).run P w = .ok z w) ∧ ∀ G, repL G i.zero z.cells.toList := by
  obtain ⟨ti, h1, h2⟩ := ok.inf _ _ h
  unfold TI.of at h2
  split at h2
  · rename_i z hz
    split at h2
    · rename_i l hl
      simp only [Option.some.injEq] at h2
      subst h2
      exact ⟨ti, h1, rfl, rfl, fun w => by simp [typeInfo, h1], fun w => by simp [sizeOf, typeInfo, h1], z, hz, fun w => by simp [zeroValue, typeInfo, h1, hz], fun G => leafs_rep hl⟩
    · simp at h2
  · simp at h2

theorem run_isAgg' (ok : TabOk P T) {t : TypeId} {b : Bool} (h : T.isAgg t = some b) : ∀ w, (isAgg t).run P w = .ok b w := by
  intro w
  unfold Tab.isAgg at h
  split at h
  · rename_i fs hu
    obtain ⟨td, h1, _, h2⟩ := run_und ok hu
    obtain ⟨l, rfl, _⟩ := TD.struct_inv h1
    simp only [Option.some.injEq] at h; subst h
    simp [isAgg, h2]
  · rename_i n e hu
    obtain ⟨td, h1, _, h2⟩ := run_und ok hu
    have := TD.array_inv h1; subst this
    simp only [Option.some.injEq] at h; subst h
    simp [isAgg, h2]
  · rename_i d n1 n2 hu
    obtain ⟨td, h1, _, h2⟩ := run_und ok hu
    simp only [Option.some.injEq] at h; subst h
    cases td <;> simp [isAgg, h2]
    · exact n2 _ _ h1.symm
    · exact n1 _ h1.symm
  · simp at h

theorem wrap_in (k : IntKind) (n : Int) (h : k.min ≤ n) (h' : n ≤ k.max) : k.wrap n = n := by
  cases k <;> simp [IntKind.wrap, IntKind.min, IntKind.max, IntKind.signed, IntKind.bits] at * <;> omega

theorem fw_eq (k : IntKind) (n : Int) : fw k n = k.wrap n := by
  unfold fw
  split <;> first
    | (split
       · rename_i h; rw [wrap_in] <;> simp [IntKind.min, IntKind.max, IntKind.signed, IntKind.bits] <;> omega
       · rfl)
    | rfl

theorem intV_sound {op : BinOp} {k : IntKind} {x y : Int} {t : TypeId} {r : AV} (h : intV op k x y = some r) : Yields P w G (binOp op t (.int k x) (.int k y)) r := by
  cases op <;> simp only [intV, Option.some.injEq, reduceCtorEq] at h
  case add => subst h; exact ⟨.int k (k.wrap (x + y)), by simp [binOp, Op.intArith], by simp [rep, fw_eq]⟩
  case sub => subst h; exact ⟨.int k (k.wrap (x - y)), by simp [binOp, Op.intArith], by simp [rep, fw_eq]⟩
  case mul => subst h; exact ⟨.int k (k.wrap (x * y)), by simp [binOp, Op.intArith], by simp [rep, fw_eq]⟩
  case quo =>
    split at h
    · simp at h
    · rename_i hy; simp only [Option.some.injEq] at h; subst h; exact ⟨.int k (k.wrap (x.tdiv y)), by simp [binOp, Op.intDiv, hy], by simp [rep, fw_eq]⟩
  case rem =>
    split at h
    · simp at h
    · rename_i hy; simp only [Option.some.injEq] at h; subst h; exact ⟨.int k (x.tmod y), by simp [binOp, Op.intDiv, hy], by simp [rep]⟩
  case and => subst h; exact ⟨.int k (k.wrap (BitVec.ofInt k.bits x &&& BitVec.ofInt k.bits y).toNat), by simp [binOp, Op.intBits], rfl⟩
  case or => subst h; exact ⟨.int k (k.wrap (BitVec.ofInt k.bits x ||| BitVec.ofInt k.bits y).toNat), by simp [binOp, Op.intBits], rfl⟩
  case xor => subst h; exact ⟨.int k (k.wrap (BitVec.ofInt k.bits x ^^^ BitVec.ofInt k.bits y).toNat), by simp [binOp, Op.intBits], rfl⟩
  case andNot => subst h; exact ⟨.int k (k.wrap (BitVec.ofInt k.bits x &&& ~~~(BitVec.ofInt k.bits y)).toNat), by simp [binOp, Op.intBits], rfl⟩
  case eql => subst h; exact ⟨.bool (x == y), by simp [binOp, Op.intCmp], rfl⟩
  case neq => subst h; exact ⟨.bool (x != y), by simp [binOp, Op.intCmp], rfl⟩
  case lss => subst h; exact ⟨.bool (decide (x < y)), by simp [binOp, Op.intCmp], rfl⟩
  case leq => subst h; exact ⟨.bool (decide (x ≤ y)), by simp [binOp, Op.intCmp], rfl⟩
  case gtr => subst h; exact ⟨.bool (decide (x > y)), by simp [binOp, Op.intCmp], rfl⟩
  case geq => subst h; exact ⟨.bool (decide (x ≥ y)), by simp [binOp, Op.intCmp], rfl⟩

theorem shiftV_sound {op : BinOp} {k k' : IntKind} {x y : Int} {t : TypeId} {r : AV} (h : shiftV op k x y = some r) : Yields P w G (binOp op t (.int k x) (.int k' y)) r := by
  unfold shiftV at h
  split at h
  · simp at h
  · rename_i hy
    cases op <;> simp only [Option.some.injEq, reduceCtorEq] at h <;> subst h
    · exact ⟨.int k (k.wrap (x * 2 ^ (min y.toNat k.bits))), by simp [binOp, Op.shift, hy], by simp [rep, fw_eq, Int.natCast_pow]⟩
    · exact ⟨.int k (x.fdiv (2 ^ (min y.toNat k.bits))), by simp [binOp, Op.shift, hy], by simp [rep, Int.natCast_pow]⟩

theorem eqV_cases {op : BinOp} {b : Bool} {r : AV} (h : eqV op b = some r) : (op = .eql ∧ r = .b b) ∨ (op = .neq ∧ r = .b (!b)) := by
  cases op <;> simp [eqV] at h <;> simp [h]

/-- An equality that is asked of the type. -/
theorem eq_sound {op : BinOp} {t : TypeId} {x y : Value} {ox oy : Operand} {b : Bool} {r : AV} (h : eqV op b = some r)
    (hg : (eqGuard op t ox oy x y).run P w = .ok () w) (he : (Op.equal t x y).run P w = .ok b w)
    (hb : ∀ o, o = BinOp.eql ∨ o = BinOp.neq → binOp o t x y = (match o with | .eql => (do pure (.bool (← Op.equal t x y))) | _ => (do pure (.bool (!(← Op.equal t x y)))))) :
    Yields P w G (do eqGuard op t ox oy x y; binOp op t x y) r := by
  rcases eqV_cases h with ⟨rfl, rfl⟩ | ⟨rfl, rfl⟩
  · exact ⟨_, by rw [Sem.run_bind, hg, hb _ (.inl rfl)]; simp [he], rfl⟩
  · exact ⟨_, by rw [Sem.run_bind, hg, hb _ (.inr rfl)]; simp [he], rfl⟩

theorem guard_none {op : BinOp} {t : TypeId} {x y : Value} {ox oy : Operand} (h : ∀ cs cs', ¬ (x = .agg cs ∧ y = .agg cs')) (h' : (x = .nilIface ∧ y = .nilIface) → (isConst ox || isConst oy) = true) : (eqGuard op t ox oy x y).run P w = .ok () w := by
  by_cases hn : x = .nilIface ∧ y = .nilIface
  · have hc := h' hn
    obtain ⟨rfl, rfl⟩ := hn
    cases op <;> first
      | rfl
      | (cases ox <;> cases oy <;> first | rfl | (simp [isConst] at hc))
  · have key : ∀ (c : Prop) [Decidable c] (s : Sem Unit), s.run P w = .ok () w → (if c then Pure.pure () else s).run P w = .ok () w := fun c _ s hs => by
      split
      · rfl
      · exact hs
    unfold eqGuard
    refine key _ _ ?_
    cases x <;> try rfl
    · cases y <;> first | rfl | exact absurd ⟨rfl, rfl⟩ hn
    · cases y <;> first | rfl | exact absurd ⟨rfl, rfl⟩ (h _ _)

theorem ba_append (a b : List UInt8) : (⟨a.toArray⟩ : ByteArray) ++ ⟨b.toArray⟩ = ⟨(a ++ b).toArray⟩ := by
  apply ByteArray.ext
  simp

theorem equal_run {t : TypeId} {x y : Value} {td : TypeDesc} {b : Bool} (h2 : (underlying t).run P w = .ok td w)
    (h : (match td, x, y with
      | .bool, .bool a, .bool b => some (a == b)
      | .interface _, .nilIface, .nilIface => some true
      | .interface _, .nilIface, .iface _ _ => some false
      | .interface _, .iface _ _, .nilIface => some false
      | .slice _, .slice none _ _, .slice b _ _ => some b.isNone
      | .slice _, .slice (some _) _ _, .slice none _ _ => some false
      | _, _, _ => none) = some b) : (Op.equal t x y).run P w = .ok b w := by
  show (Op.equalIn (9999 + 1) t x y).run P w = _
  rw [Op.equalIn, Sem.run_bind, h2, Result.andThen_ok]
  split at h <;> simp only [Option.some.injEq, reduceCtorEq] at h <;> subst h <;> rfl

theorem binV_sound (ok : TabOk P T) {op : BinOp} {t : TypeId} {ox oy : Operand} {x y r : AV} {vx vy : Value} (h : binV T op t (isConst ox || isConst oy) x y = some r) (rx : rep G x vx) (ry : rep G y vy) :
    Yields P w G (do eqGuard op t ox oy vx vy; binOp op t vx vy) r := by
  have bind0 : ∀ {a b : Value}, (eqGuard op t ox oy a b).run P w = .ok () w → Yields P w G (binOp op t a b) r → Yields P w G (do eqGuard op t ox oy a b; binOp op t a b) r := fun hg ⟨v, hv, hr⟩ => ⟨v, by rw [Sem.run_bind, hg]; exact hv, hr⟩
  unfold binV at h
  split at h
  · -- whole numbers
    simp only [rep] at rx ry; subst rx; subst ry
    refine bind0 (guard_none (fun _ _ h => by cases h.1) (fun h => by cases h.1)) ?_
    split at h
    · exact shiftV_sound h
    · exact shiftV_sound h
    · split at h
      · rename_i e; subst e; exact intV_sound h
      · simp at h
  · -- strings
    rename_i a b
    simp only [rep] at rx ry; subst rx; subst ry
    refine bind0 (guard_none (fun _ _ h => by cases h.1) (fun h => by cases h.1)) ?_
    cases op <;> simp only [Option.some.injEq, reduceCtorEq] at h
    case add =>
      split at h
      · rename_i hl
        simp only [Option.some.injEq] at h; subst h
        refine ⟨.string ⟨(a ++ b).toArray⟩, ?_, rfl⟩
        have hsz : ((⟨a.toArray⟩ : ByteArray).size + (⟨b.toArray⟩ : ByteArray).size : Nat) = a.length + b.length := by simp [ByteArray.size]
        simp only [binOp, Op.stringOp, hsz]
        rw [if_neg (by simp [IntKind.max, IntKind.signed, IntKind.bits]; omega)]
        simp only [Sem.run_pure]
        rw [ba_append]
      · simp at h
    case eql => subst h; exact ⟨.bool (a == b), by simp [binOp, Op.stringOp], rfl⟩
    case neq => subst h; exact ⟨.bool (!(a == b)), by simp [binOp, Op.stringOp], rfl⟩
    case lss => subst h; exact ⟨.bool (Op.bytesLess a b), by simp [binOp, Op.stringOp], rfl⟩
    case leq => subst h; exact ⟨.bool (Op.bytesLess a b || a == b), by simp [binOp, Op.stringOp], rfl⟩
    case gtr => subst h; exact ⟨.bool (!(Op.bytesLess a b || a == b)), by simp [binOp, Op.stringOp], rfl⟩
    case geq => subst h; exact ⟨.bool (!(Op.bytesLess a b)), by simp [binOp, Op.stringOp], rfl⟩
  · -- bools
    simp only [rep] at rx ry; subst rx; subst ry
    split at h
    · rename_i hb
      unfold Tab.isBool at hb
      split at hb
      · rename_i hu
        obtain ⟨td, h1, _, h2⟩ := run_und ok hu
        have := TD.bool_inv h1; subst this
        exact eq_sound h (guard_none (fun _ _ h => by cases h.1) (fun h => by cases h.1)) (equal_run (h2 w) rfl) (fun o ho => by rcases ho with rfl | rfl <;> rfl)
      · simp at hb
    · simp at h
  · -- nil, nil
    simp only [rep] at rx ry; subst rx; subst ry
    split at h
    · rename_i hb
      simp only [Bool.and_eq_true] at hb
      obtain ⟨hb, hc⟩ := hb
      unfold Tab.isIface at hb
      split at hb
      · rename_i hu
        obtain ⟨td, h1, _, h2⟩ := run_und ok hu
        obtain ⟨m, rfl⟩ := TD.interface_inv h1
        exact eq_sound h (guard_none (fun _ _ h => by cases h.1) (fun _ => by simpa using hc)) (equal_run (h2 w) rfl) (fun o ho => by rcases ho with rfl | rfl <;> rfl)
      · simp at hb
    · simp at h
  · -- nil, a value
    obtain ⟨z, e, _⟩ := ry
    simp only [rep] at rx; subst rx; subst e
    split at h
    · rename_i hb
      unfold Tab.isIface at hb
      split at hb
      · rename_i hu
        obtain ⟨td, h1, _, h2⟩ := run_und ok hu
        obtain ⟨m, rfl⟩ := TD.interface_inv h1
        exact eq_sound h (guard_none (fun _ _ h => by cases h.1) (fun h => by cases h.2)) (equal_run (h2 w) rfl) (fun o ho => by rcases ho with rfl | rfl <;> rfl)
      · simp at hb
    · simp at h
  · obtain ⟨z, e, _⟩ := rx
    simp only [rep] at ry; subst ry; subst e
    split at h
    · rename_i hb
      unfold Tab.isIface at hb
      split at hb
      · rename_i hu
        obtain ⟨td, h1, _, h2⟩ := run_und ok hu
        obtain ⟨m, rfl⟩ := TD.interface_inv h1
        exact eq_sound h (guard_none (fun _ _ h => by cases h.1) (fun h => by cases h.1)) (equal_run (h2 w) rfl) (fun o ho => by rcases ho with rfl | rfl <;> rfl)
      · simp at hb
    · simp at h
  · -- a slice, nil
    obtain ⟨A, c, vs, rfl, _, _, _, r5, r6⟩ := rx
    obtain ⟨A', c', vs', rfl, _, q3, _, _, _⟩ := ry
    obtain ⟨rfl, rfl⟩ := q3 rfl
    rcases r6 with r6 | ⟨b, o, sz, rfl, _⟩
    · cases r6
    split at h
    · rename_i hb
      unfold Tab.isSlice at hb
      split at hb
      · rename_i hu
        obtain ⟨td, h1, _, h2⟩ := run_und ok hu
        have := TD.slice_inv h1; subst this
        exact eq_sound h (guard_none (fun _ _ h => by cases h.1) (fun h => by cases h.1)) (equal_run (h2 w) rfl) (fun o ho => by rcases ho with rfl | rfl <;> rfl)
      · simp at hb
    · simp at h
  · obtain ⟨A, c, vs, rfl, _, q4, _, r5, r6⟩ := rx
    obtain ⟨A', c', vs', rfl, _, q3, _, _, _⟩ := ry
    obtain ⟨rfl, rfl⟩ := q3 rfl
    obtain ⟨rfl, rfl⟩ := q4 rfl
    split at h
    · rename_i hb
      unfold Tab.isSlice at hb
      split at hb
      · rename_i hu
        obtain ⟨td, h1, _, h2⟩ := run_und ok hu
        have := TD.slice_inv h1; subst this
        exact eq_sound h (guard_none (fun _ _ h => by cases h.1) (fun h => by cases h.1)) (equal_run (h2 w) rfl) (fun o ho => by rcases ho with rfl | rfl <;> rfl)
      · simp at hb
    · simp at h
  · obtain ⟨A, c, vs, rfl, _, _, q4, r5, r6⟩ := rx
    obtain ⟨A', c', vs', rfl, _, q3, _, _, _⟩ := ry
    obtain ⟨rfl, rfl⟩ := q3 rfl
    obtain ⟨a, rfl, _⟩ := q4 (by omega)
    split at h
    · rename_i hb
      unfold Tab.isSlice at hb
      split at hb
      · rename_i hu
        obtain ⟨td, h1, _, h2⟩ := run_und ok hu
        have := TD.slice_inv h1; subst this
        exact eq_sound h (guard_none (fun _ _ h => by cases h.1) (fun h => by cases h.1)) (equal_run (h2 w) rfl) (fun o ho => by rcases ho with rfl | rfl <;> rfl)
      · simp at hb
    · simp at h
  · simp at h

theorem unV_sound {op : UnOp} {x r : AV} {v : Value} (h : unV op x = some r) (rx : rep G x v) : Yields P w G (Op.unary op v) r := by
  unfold unV at h
  split at h
  · simp only [rep] at rx; subst rx
    simp only [Option.some.injEq] at h; subst h
    rename_i k n
    exact ⟨.int k (k.wrap (0 - n)), rfl, by simp [rep, fw_eq]⟩
  · simp only [rep] at rx; subst rx
    simp only [intV, Option.some.injEq] at h; subst h
    exact ⟨_, rfl, rfl⟩
  · simp only [rep] at rx; subst rx
    simp only [Option.some.injEq] at h; subst h
    exact ⟨_, rfl, rfl⟩
  · simp at h
end
end Go.Pv

namespace Go.Pv
open Go Go.RowKit
set_option linter.unusedVariables false
set_option linter.unusedSimpArgs false

section
variable {P : Program} {T : Tab} {w : World} {G : Gh} {base : Nat} {w0 : World} {σ : St}

theorem add_plain (b o n : Nat) : (⟨b, o, none⟩ : Addr).add n = ⟨b, o + n, none⟩ := by unfold Addr.add; split <;> simp_all

theorem lt_of_get {α : Type} {l : List α} {j : Nat} {v : α} (h : l[j]? = some v) : j < l.length := by
  rcases Nat.lt_or_ge j l.length with h' | h'
  · exact h'
  · simp [List.getElem?_eq_none h'] at h

theorem cellsOf_cons (v : Value) (vs : List Value) : cellsOf (v :: vs) = v.cells.toList ++ cellsOf vs := rfl
theorem cellsOf_append (a b : List Value) : cellsOf (a ++ b) = cellsOf a ++ cellsOf b := List.flatMap_append

theorem cellsOf_length {sz : Nat} : ∀ {vs : List Value}, (∀ v ∈ vs, v.cells.size = sz) → (cellsOf vs).length = vs.length * sz
  | [], _ => by simp [cellsOf]
  | v :: vs, h => by
    rw [cellsOf_cons, List.length_append, cellsOf_length fun x hx => h x (List.mem_cons_of_mem _ hx)]
    have := h v List.mem_cons_self
    simp only [Array.length_toList, this, List.length_cons, Nat.succ_mul]
    omega

theorem cellsOf_get {sz : Nat} : ∀ {vs : List Value} {i j : Nat} {y c : Value}, (∀ v ∈ vs, v.cells.size = sz) → vs[i]? = some y → y.cells.toList[j]? = some c → (cellsOf vs)[i * sz + j]? = some c
  | [], i, j, y, c, _, h, _ => by simp at h
  | v :: vs, 0, j, y, c, hs, h, hc => by
    simp at h; subst h
    rw [cellsOf_cons, Nat.zero_mul, Nat.zero_add, List.getElem?_append_left (lt_of_get hc)]; exact hc
  | v :: vs, i + 1, j, y, c, hs, h, hc => by
    have hv := hs v List.mem_cons_self
    rw [cellsOf_cons, List.getElem?_append_right (by simp only [Array.length_toList, hv, Nat.succ_mul]; omega)]
    have := cellsOf_get (fun x hx => hs x (List.mem_cons_of_mem _ hx)) (by simpa using h) hc
    rw [show (i + 1) * sz + j - v.cells.toList.length = i * sz + j by simp only [Array.length_toList, hv, Nat.succ_mul]; omega]
    exact this

theorem cellsOf_drop {sz : Nat} : ∀ {vs : List Value} (n : Nat), (∀ v ∈ vs, v.cells.size = sz) → cellsOf (vs.drop n) = (cellsOf vs).drop (n * sz)
  | _, 0, _ => by simp
  | [], n + 1, _ => by simp [cellsOf]
  | v :: vs, n + 1, h => by
    have hv := h v List.mem_cons_self
    have e : v.cells.toList.length = sz := by simpa using hv
    rw [List.drop_succ_cons, cellsOf_drop n fun x hx => h x (List.mem_cons_of_mem _ hx), cellsOf_cons, List.drop_append, e, Nat.succ_mul, List.drop_eq_nil_of_le (as := v.cells.toList) (by rw [e]; omega), List.nil_append]
    congr 1
    omega

theorem cellsOf_take_get {vs : List Value} {n j : Nat} {c : Value} (h : (cellsOf (vs.take n))[j]? = some c) : (cellsOf vs)[j]? = some c := by
  have : cellsOf vs = cellsOf (vs.take n) ++ cellsOf (vs.drop n) := by rw [← cellsOf_append, List.take_append_drop]
  rw [this, List.getElem?_append_left (lt_of_get h)]; exact h

theorem memAt.cell (hi : Inv base w0 G σ w) {b o : Nat} {l : List Value} (m : memAt G b o l) : ∀ (j : Nat) v, l[j]? = some v → w.cell? ⟨b, o + j, none⟩ = some v := fun j v hj => hi.mem _ _ _ (m j v hj)

theorem load_at (ok : TabOk P T) {t : TypeId} {ag : Bool} {ti : TI} {b o : Nat} {cs : List AV} {L : List Value} {r : AV} (ha : T.isAgg t = some ag) (hi : T.inf t = some ti) (hr : repL G cs L)
    (hc : ∀ (j : Nat) v, L[j]? = some v → w.cell? ⟨b, o + j, none⟩ = some v) (h : (if ag then (match take? cs 0 ti.size with | some r => some (.a r) | none => none) else cs[0]?) = some r) :
    Yields P w G (loadVar t ⟨b, o, none⟩) r := by
  have hA := run_isAgg' ok ha w
  obtain ⟨_, _, _, _, _, hS, _⟩ := run_inf ok hi
  cases ag
  · simp only [Bool.false_eq_true, if_false] at h
    obtain ⟨v, hv, hrv⟩ := hr.get h
    have hcell := hc 0 v hv
    rw [Nat.add_zero] at hcell
    exact ⟨v, by simp [loadVar, hA, hcell], hrv⟩
  · simp only [if_true] at h
    split at h
    · rename_i r' ht
      simp only [Option.some.injEq] at h; subst h
      simp only [take?, Nat.zero_add, List.drop_zero] at ht
      split at ht
      · rename_i hle
        simp only [Option.some.injEq] at ht; subst ht
        have hlen := hr.length
        have hl := run_loadCells_list (P := P) w ⟨b, o, none⟩ (L.take ti.size) (fun j v hj => by
          rw [add_plain]
          refine hc j v ?_
          rw [List.getElem?_take] at hj
          split at hj
          · exact hj
          · simp at hj)
        rw [List.length_take, Nat.min_eq_left (by omega)] at hl
        exact ⟨.agg (L.take ti.size).toArray, by simp [loadVar, hA, hS, hl], _, rfl, by simpa using hr.take ti.size⟩
      · simp at ht
    · simp at h

theorem take?_drop {cs : List AV} {o n : Nat} {r : List AV} (h : take? cs o n = some r) : take? (cs.drop o) 0 n = some r := by
  unfold take? at *
  split at h
  · rename_i hl
    rw [if_pos (by simp; omega)]
    simpa using h
  · simp at h

theorem loadV_sound (ok : TabOk P T) (hi : Inv base w0 G σ w) {t : TypeId} {x r : AV} {v : Value} (h : loadV T t x σ = some r) (rx : rep G x v) : Yields P w G (Instr.loadAt t v) r := by
  unfold loadV at h
  split at h
  · rename_i ag ti ha hti
    split at h
    · rename_i l o
      obtain ⟨B, hB, rfl⟩ := rx
      split at h
      · rename_i cs hcs
        obtain ⟨B', vs, h1, h2, h3⟩ := hi.box _ _ hcs
        have e : B' = B := by rw [hB] at h1; simpa using h1.symm
        subst e
        refine load_at (r := r) ok ha hti (h2.drop o) (fun j u hj => ?_) ?_
        · rw [List.getElem?_drop] at hj
          exact (h3 _ _ hj).1
        · cases ag
          · simpa using h
          · simp only [if_true] at h ⊢
            split at h
            · rename_i r' ht; rw [take?_drop ht]; exact h
            · simp at h
      · simp at h
    · obtain ⟨b, o, l, rfl, h2, h3⟩ := rx
      exact load_at ok ha hti h2 (h3.cell hi) h
    · simp at h
  · simp at h

theorem storeV_sound (ok : TabOk P T) (hi : Inv base w0 G σ w) {t : TypeId} {x y : AV} {vx vy : Value} {σ' : St} (h : storeV T t x y σ = some σ') (rx : rep G x vx) (ry : rep G y vy) :
    ∃ w', (Instr.storeAt t vx vy).run P w = .ok () w' ∧ Inv base w0 G σ' w' := by
  unfold storeV at h
  split at h
  · rename_i ti l o hti
    obtain ⟨B, hB, rfl⟩ := rx
    split at h
    · rename_i cs hcs
      simp only at h
      split at h
      · rename_i hc
        obtain ⟨c1, c2, c3⟩ := hc
        simp only [Option.some.injEq] at h; subst h
        obtain ⟨_, _, _, _, _, hS, _⟩ := run_inf ok hti
        obtain ⟨g1, g2, g3⟩ := hi.store hcs hB c2 ry.cells
        refine ⟨_, ?_, g1⟩
        have hst := run_storeCells_cells (P := P) B o vy.cells.toList 0 w (by simpa using g2) (by simpa using g3) (ry.cells.oneCell c3)
        simp only [Instr.storeAt, Instr.sureAddr, storeVar, Sem.run_bind, Sem.run_pure, Result.andThen_ok, hS]
        rw [if_neg (by rw [ry.cells_size, c1]; simp)]
        simpa using hst
      · simp at h
    · simp at h
  · simp at h

theorem bytesOf_inv : ∀ {es : List AV} {l : List UInt8}, bytesOf es = some l → ∃ ns : List Int, es = ns.map (AV.i .u8) ∧ l = ns.map fun n => UInt8.ofNat n.toNat
  | [], l, h => by simp [bytesOf] at h; exact ⟨[], rfl, by simp [h]⟩
  | e :: es, l, h => by
    unfold bytesOf at h
    split at h
    · simp_all
    · rename_i n r heq
      cases heq
      split at h
      · rename_i l' hl
        simp only [Option.some.injEq] at h
        obtain ⟨ns, h1, h2⟩ := bytesOf_inv hl
        exact ⟨n :: ns, by simp [h1], by simp [← h, h2]⟩
      · simp at h
    · simp at h

theorem repL_bytes : ∀ {ns : List Int} {vs : List Value}, repL G (ns.map (AV.i .u8)) vs → vs = ns.map (Value.int .u8)
  | [], vs, r => by simpa [repL] using r
  | n :: ns, vs, ⟨z, zs, e, r1, r2⟩ => by subst e; simp only [rep] at r1; rw [r1, repL_bytes r2]; rfl

theorem cellsOf_ints (k : IntKind) : ∀ (ns : List Int), cellsOf (ns.map (Value.int k)) = ns.map (Value.int k)
  | [] => rfl
  | n :: ns => by rw [List.map_cons, cellsOf_cons, cellsOf_ints k ns]; rfl

theorem convV_sound (ok : TabOk P T) (hi : Inv base w0 G σ w) {s d : TypeId} {x r : AV} {v : Value} (h : convV T s d x = some r) (rx : rep G x v) : Yields P w G (convert s d v) r := by
  unfold convV at h
  split at h
  · rename_i ts k k' n hs hd
    obtain ⟨tds, _, _, h1⟩ := run_und ok hs
    obtain ⟨tdd, h3, _, h2⟩ := run_und ok hd
    have := TD.int_inv h3; subst this
    simp only [rep] at rx; subst rx
    simp only [Option.some.injEq] at h; subst h
    exact ⟨.int k (k.wrap n), by simp [convert, h1, h2, Conv.intToInt], by simp [rep, fw_eq]⟩
  · rename_i l hs hd
    obtain ⟨tds, h0, _, h1⟩ := run_und ok hs
    obtain ⟨tdd, h3, _, h2⟩ := run_und ok hd
    have := TD.string_inv h3; subst this
    have := TD.string_inv h0; subst this
    simp only [rep] at rx; subst rx
    simp only [Option.some.injEq] at h; subst h
    exact ⟨_, by simp [convert, h1, h2], rfl⟩
  · rename_i e es k hs hd
    obtain ⟨tds, h0, u0, h1⟩ := run_und ok hs
    obtain ⟨tdd, h3, u3, h2⟩ := run_und ok hd
    have := TD.string_inv h3; subst this
    have := TD.slice_inv h0; subst this
    split at h
    · rename_i he
      obtain ⟨tde, h4, u4, h5⟩ := run_und ok he
      have := TD.int_inv h4; subst this
      split at h
      · rename_i l hl
        simp only [Option.some.injEq] at h; subst h
        obtain ⟨ns, rfl, rfl⟩ := bytesOf_inv hl
        obtain ⟨A, c, vs, rfl, r1, r2, r3, r4, r5⟩ := rx
        have hvs := repL_bytes r4
        subst hvs
        rcases r5 with r5 | ⟨b, o, sz, rfl, r6, r7⟩
        · have : ns = [] := by simpa using r5
          subst this
          refine ⟨.string ⟨#[]⟩, ?_, rfl⟩
          cases A with
          | none => simp only [List.map_nil, List.length_nil]; rw [run_convert_bytes_nil w s e u0 u4 0 c d u3]; rfl
          | some a =>
            rw [run_convert_bytes_string w s d e _ _ _ u0 u4 u3]
            have := run_bytesToString (P := P) w a 0 c [] (by simpa using run_loadCells_list (P := P) w a [] (by simp))
            simp only [List.map_nil, List.length_nil]
            rw [this]; rfl
        · rw [cellsOf_ints] at r7
          refine ⟨.string (strOfNums ns), ?_, rfl⟩
          rw [List.length_map]
          exact run_convert_bytes_arg w s e u0 u4 b o ns.length c ns rfl (fun i hlt => hi.mem _ _ _ (r7 i _ (by simp [List.getD, List.getElem?_eq_getElem hlt]))) d u3
      · simp at h
    · simp at h
  · simp at h

theorem partV_sound (ok : TabOk P T) {t : TypeId} {cs : List AV} {o : Nat} {r : AV} {l : Array Value} (h : partV T t cs o = some r) (rl : repL G cs l.toList) : Yields P w G (part t l o) r := by
  unfold partV at h
  split at h
  · rename_i ti ha hti
    have hA := run_isAgg' ok ha w
    obtain ⟨_, _, _, _, _, hS, _⟩ := run_inf ok hti
    split at h
    · rename_i r' ht
      simp only [Option.some.injEq] at h; subst h
      unfold take? at ht
      split at ht
      · simp only [Option.some.injEq] at ht; subst ht
        refine ⟨.agg (l.extract o (o + ti.size)), by simp [part, hA, hS], _, rfl, ?_⟩
        have := (rl.drop o).take ti.size
        simpa [Array.toList_extract, List.extract_eq_take_drop] using this
      · simp at ht
    · simp at h
  · rename_i ti ha hti
    have hA := run_isAgg' ok ha w
    obtain ⟨v, hv, hr⟩ := rl.get h
    refine ⟨v, ?_, hr⟩
    have : l[o]? = some v := by simpa using hv
    simp [part, hA, this]
  · simp at h

theorem boundV_sound {x : AV} {v : Value} {y n : Nat} {code : BoundsCode} (h : boundV x y = some n) (rx : rep G x v) : (Instr.sliceBound v y code).run P w = .ok n w ∧ n ≤ y := by
  unfold boundV at h
  split at h
  · rename_i k m
    split at h
    · rename_i hc
      simp only [rep] at rx; subst rx
      simp only [Option.some.injEq] at h; subst h
      exact ⟨by simp [Instr.sliceBound, asIntOf, hc], by omega⟩
    · simp at h
  · simp at h

theorem ba_extract (l : List UInt8) (o h : Nat) : (⟨l.toArray⟩ : ByteArray).extract o h = ⟨((l.drop o).take (h - o)).toArray⟩ := by
  apply ByteArray.ext
  simp [List.extract_eq_take_drop]

def repO (G : Gh) : Option AV → Option Value → Prop
  | none, v => v = none
  | some x, v => ∃ y, v = some y ∧ rep G x y

theorem bounds_sound {isS : Bool} {len cap : Nat} {lo hi : Option AV} {vlo vhi : Option Value} {o h : Nat} (rlo : repO G lo vlo) (rhi : repO G hi vhi) (hcap : len ≤ cap)
    (h1 : hiB hi len = some h) (h2 : loB lo h = some o) :
    (Instr.sliceBounds isS len cap vlo vhi none).run P w = .ok (o, h, cap) w ∧ o ≤ h ∧ h ≤ len := by
  have hh : h ≤ len ∧ ∀ code, (match vhi with | some v => Instr.sliceBound v cap code | none => pure len).run P w = .ok h w := by
    cases hi with
    | none => simp only [repO] at rhi; subst rhi; simp only [hiB, Option.some.injEq] at h1; subst h1; exact ⟨Nat.le_refl _, fun _ => rfl⟩
    | some x =>
      obtain ⟨y, rfl, ry⟩ := rhi
      refine ⟨(boundV_sound (P := P) (w := w) (code := .index) h1 ry).2, fun code => ?_⟩
      simp only [hiB] at h1 ⊢
      unfold boundV at h1
      split at h1
      · rename_i k m
        split at h1
        · rename_i hc
          simp only [rep] at ry; subst ry
          simp only [Option.some.injEq] at h1; subst h1
          have hc' : 0 ≤ m ∧ m ≤ (cap : Int) := by omega
          simp [Instr.sliceBound, asIntOf, hc']
        · simp at h1
      · simp at h1
  have hl : o ≤ h ∧ ∀ code, (match vlo with | some v => Instr.sliceBound v h code | none => pure 0).run P w = .ok o w := by
    cases lo with
    | none => simp only [repO] at rlo; subst rlo; simp only [loB, Option.some.injEq] at h2; subst h2; exact ⟨Nat.zero_le _, fun _ => rfl⟩
    | some x =>
      obtain ⟨y, rfl, ry⟩ := rlo
      exact ⟨(boundV_sound (P := P) (w := w) (code := .index) h2 ry).2, fun code => (boundV_sound h2 ry).1⟩
  refine ⟨?_, hl.1, hh.1⟩
  have e1 := hh.2 (if isS then .sliceAcap else .sliceAlen)
  have e2 := hl.2 .sliceB
  unfold Instr.sliceBounds
  cases vhi <;> cases vlo <;> simp only [Sem.run_bind, Sem.run_pure, Result.andThen_ok] at e1 e2 ⊢ <;> simp_all

theorem allSize_mem {sz : Nat} : ∀ {es : List AV}, allSize sz es = true → ∀ e ∈ es, e.cells.length = sz ∧ flat e.cells = true
  | [], _, e, he => by simp at he
  | x :: es, h, e, he => by
    simp only [allSize, Bool.and_eq_true, beq_eq, decide_eq_true_eq] at h
    rcases List.mem_cons.1 he with rfl | he
    · exact h.1
    · exact allSize_mem h.2 e he

theorem sliceV_sound (ok : TabOk P T) {t : TypeId} {x r : AV} {v : Value} {lo hi : Option AV} {vlo vhi : Option Value} (h : sliceV T t x lo hi = some r) (rx : rep G x v) (rlo : repO G lo vlo) (rhi : repO G hi vhi) :
    Yields P w G (Instr.sliceAt t v vlo vhi none) r := by
  unfold sliceV at h
  split at h
  · rename_i l hu
    obtain ⟨td, h0, u0, h1⟩ := run_und ok hu
    have := TD.string_inv h0; subst this
    simp only [rep] at rx; subst rx
    split at h
    · rename_i hb hhb
      split at h
      · rename_i lb hlb
        simp only [Option.some.injEq] at h; subst h
        have hsz : (⟨l.toArray⟩ : ByteArray).size = l.length := by simp [ByteArray.size]
        obtain ⟨b1, b2, b3⟩ := bounds_sound (P := P) (w := w) (isS := false) (cap := l.length) rlo rhi (Nat.le_refl _) hhb hlb
        exact ⟨.string ⟨((l.drop lb).take (hb - lb)).toArray⟩, by simp [Instr.sliceAt, Instr.slice, h1, hsz, b1, ba_extract], rfl⟩
      · simp at h
    · simp at h
  · rename_i e es k hu
    obtain ⟨td, h0, u0, h1⟩ := run_und ok hu
    have := TD.slice_inv h0; subst this
    obtain ⟨A, c, vs, rfl, r1, r2, r3, r4, r5⟩ := rx
    split at h
    · rename_i hb hhb
      split at h
      · rename_i lb hlb
        split at h
        · rename_i ti hti
          split at h
          · rename_i has
            simp only [Option.some.injEq] at h; subst h
            obtain ⟨_, _, _, _, _, hS, _⟩ := run_inf ok hti
            obtain ⟨b1, b2, b3⟩ := bounds_sound (P := P) (w := w) (isS := true) (cap := c) rlo rhi r1 hhb hlb
            refine ⟨.slice (if c = lb then A else A.map (·.add (lb * ti.size))) (hb - lb) (c - lb), by simp [Instr.sliceAt, Instr.slice, h1, b1, hS], ?_⟩
            have hlen := r4.length
            refine ⟨_, _, (vs.drop lb).take (hb - lb), by rw [List.length_take, List.length_drop, Nat.min_eq_left (by omega)], by rw [List.length_take, List.length_drop, Nat.min_eq_left (by omega)]; omega, fun h => by omega, fun h => by omega, (r4.drop lb).take _, ?_⟩
            by_cases hne : hb - lb = 0
            · left; simp [hne]
            · right
              rcases r5 with r5 | ⟨b, o, sz, rfl, r6, r7⟩
              · subst r5; simp at b3; omega
              · have hsz : sz = ti.size := by
                  cases es with
                  | nil => simp at b3; omega
                  | cons e1 es1 =>
                    cases vs with
                    | nil => simp at hlen
                    | cons v1 vs1 =>
                      have := (repL_cons.1 r4).1.cells_size
                      have h2 : e1.cells.length = ti.size := by simpa [headSize, beq_eq] using has
                      have h3 := r6 v1 List.mem_cons_self
                      omega
                subst hsz
                rw [if_neg (by omega)]
                refine ⟨b, o + lb * ti.size, ti.size, by simp [add_plain], fun v hv => r6 v (List.mem_of_mem_drop (List.mem_of_mem_take hv)), fun j u hj => ?_⟩
                have hj2 := cellsOf_take_get hj
                rw [cellsOf_drop lb r6, List.getElem?_drop] at hj2
                have := r7 _ _ hj2
                rwa [← Nat.add_assoc] at this
          · simp at h
        · simp at h
      · simp at h
    · simp at h
  · simp at h

theorem idxAddrV_sound (ok : TabOk P T) {t : TypeId} {x ix r : AV} {v vi : Value} (h : idxAddrV T t x ix = some r) (rx : rep G x v) (ri : rep G ix vi) : Yields P w G (Instr.indexAt t v vi) r := by
  unfold idxAddrV at h
  split at h
  · rename_i k n
    simp only [rep] at ri; subst ri
    split at h
    · rename_i hn
      split at h
      · rename_i e es k' hu
        obtain ⟨td, h0, u0, h1⟩ := run_und ok hu
        have := TD.slice_inv h0; subst this
        obtain ⟨A, c, vs, rfl, r1, r2, r3, r4, r5⟩ := rx
        split at h
        · rename_i ti y hti hy
          split at h
          · rename_i hsz
            simp only [Option.some.injEq] at h; subst h
            obtain ⟨_, _, _, _, _, hS, _⟩ := run_inf ok hti
            have hlt := lt_of_get hy
            obtain ⟨z, hz, rz⟩ := r4.get hy
            rcases r5 with r5 | ⟨b, o, sz, rfl, r6, r7⟩
            · subst r5; simp at hlt
            · have hzs := r6 z (List.mem_of_getElem? hz)
              rw [rz.cells_size, hsz] at hzs
              subst hzs
              have hc : 0 ≤ n ∧ n < (es.length : Int) := by omega
              refine ⟨.pointer (some ⟨b, o + n.toNat * ti.size, none⟩), by simp [Instr.indexAt, asIntOf, h1, hS, hc, add_plain], b, _, z.cells.toList, rfl, rz.cells, fun j u hj => ?_⟩
              have := r7 _ _ (cellsOf_get r6 hz hj)
              rwa [← Nat.add_assoc] at this
          · simp at h
        · simp at h
      · rename_i len e l o hu
        obtain ⟨td, h0, u0, h1⟩ := run_und ok hu
        have := TD.array_inv h0; subst this
        obtain ⟨B, hB, rfl⟩ := rx
        split at h
        · rename_i ti hti
          split at h
          · rename_i hlt
            simp only [Option.some.injEq] at h; subst h
            obtain ⟨_, _, _, _, _, hS, _⟩ := run_inf ok hti
            have hc : 0 ≤ n ∧ n < (len : Int) := ⟨hn, hlt⟩
            exact ⟨.pointer (some ⟨B, o + n.toNat * ti.size, none⟩), by simp [Instr.indexAt, asIntOf, h1, hS, hc, add_plain, Instr.sureAddr], B, hB, rfl⟩
          · simp at h
        · simp at h
      · simp at h
    · simp at h
  · simp at h

theorem idxV_sound (ok : TabOk P T) {t : TypeId} {x ix r : AV} {v vi : Value} (h : idxV T t x ix = some r) (rx : rep G x v) (ri : rep G ix vi) : Yields P w G (Instr.index t v vi) r := by
  unfold idxV at h
  split at h
  · rename_i k n
    simp only [rep] at ri; subst ri
    split at h
    · rename_i hn
      split at h
      · rename_i len e cs hu
        obtain ⟨td, h0, u0, h1⟩ := run_und ok hu
        have := TD.array_inv h0; subst this
        obtain ⟨l, rfl, rl⟩ := rx
        split at h
        · rename_i ti hti
          split at h
          · rename_i hlt
            obtain ⟨_, _, _, _, _, hS, _⟩ := run_inf ok hti
            have hc : 0 ≤ n ∧ n < (len : Int) := ⟨hn, hlt⟩
            obtain ⟨y, hy, ry⟩ := partV_sound (P := P) (w := w) ok h rl
            exact ⟨y, by simp [Instr.index, asIntOf, h1, hc, hS, hy], ry⟩
          · simp at h
        · simp at h
      · rename_i l hu
        obtain ⟨td, h0, u0, h1⟩ := run_und ok hu
        have := TD.string_inv h0; subst this
        simp only [rep] at rx; subst rx
        split at h
        · rename_i c hc
          simp only [Option.some.injEq] at h; subst h
          have hlt := lt_of_get hc
          have hg : (⟨l.toArray⟩ : ByteArray)[n.toNat]? = some c := by
            rw [getElem?_pos _ _ (by simpa [ByteArray.size] using hlt)]
            rw [List.getElem?_eq_getElem hlt] at hc
            simpa [ByteArray.getElem_eq_getElem_data] using hc
          exact ⟨.int .u8 c.toNat, by simp [Instr.index, asIntOf, h1, hn, hg], rfl⟩
        · simp at h
      · simp at h
    · simp at h
  · simp at h
end
end Go.Pv

namespace Go.Pv
open Go Go.RowKit
set_option linter.unusedVariables false
set_option linter.unusedSimpArgs false

section
variable {P : Program} {T : Tab} {w : World} {G : Gh} {base : Nat} {w0 : World} {σ : St}

/-- An operation that ends in a value, in a world that goes on. -/
def Makes (P : Program) (base : Nat) (w0 w : World) (G : Gh) (s : Sem Value) (x : AV) (σ' : St) : Prop :=
  ∃ v w' G', s.run P w = .ok v w' ∧ G.le G' ∧ Inv base w0 G' σ' w' ∧ rep G' x v

theorem Yields.makes {s : Sem Value} {x : AV} (h : Yields P w G s x) (hi : Inv base w0 G σ w) : Makes P base w0 w G s x σ := by
  obtain ⟨v, h1, h2⟩ := h
  exact ⟨v, w, G, h1, .refl G, hi, h2⟩

theorem field_get {l : Array Field} {fs : List (Nat × TypeId)} (h : l.toList.map (fun f => (f.offset, f.type)) = fs) {j : Nat} {f : Nat × TypeId} (hf : fs[j]? = some f) : ∃ fld, l[j]? = some fld ∧ fld.offset = f.1 ∧ fld.type = f.2 := by
  subst h
  rw [List.getElem?_map] at hf
  cases hq : l[j]? with
  | none => simp [hq] at hf
  | some fld => simp [hq] at hf; exact ⟨fld, rfl, by rw [← hf], by rw [← hf]⟩

theorem fieldAddrV_sound (ok : TabOk P T) {t : TypeId} {x r : AV} {v : Value} {j : Nat} (h : fieldAddrV T t x j = some r) (rx : rep G x v) : Yields P w G (Instr.fieldAt t v j) r := by
  unfold fieldAddrV at h
  split at h
  · rename_i fs hu
    obtain ⟨td, h0, u0, h1⟩ := run_und ok hu
    obtain ⟨l, rfl, hl⟩ := TD.struct_inv h0
    split at h
    · rename_i f hf
      obtain ⟨fld, hfl, e1, e2⟩ := field_get hl hf
      split at h
      · rename_i ti hti
        obtain ⟨_, _, _, _, _, hS, _⟩ := run_inf ok hti
        rw [← e2] at hS
        split at h
        · simp at h
        · rename_i hz
          split at h
          · rename_i l' o
            obtain ⟨B, hB, rfl⟩ := rx
            simp only [Option.some.injEq] at h; subst h
            exact ⟨.pointer (some ⟨B, o + f.1, none⟩), by simp [Instr.fieldAt, h1, hfl, Instr.sureAddr, fieldPlace, hS, hz, add_plain, e1], B, hB, rfl⟩
          · rename_i cs
            obtain ⟨b, o, L, rfl, h2, h3⟩ := rx
            simp only [Option.some.injEq] at h; subst h
            refine ⟨.pointer (some ⟨b, o + f.1, none⟩), by simp [Instr.fieldAt, h1, hfl, Instr.sureAddr, fieldPlace, hS, hz, add_plain, e1], b, _, L.drop f.1, rfl, h2.drop _, fun i u hi => ?_⟩
            rw [List.getElem?_drop] at hi
            have := h3 _ _ hi
            rwa [← Nat.add_assoc] at this
          · simp at h
      · simp at h
    · simp at h
  · simp at h

theorem fieldV_sound (ok : TabOk P T) {t : TypeId} {x r : AV} {v : Value} {j : Nat} (h : fieldV T t x j = some r) (rx : rep G x v) : Yields P w G (Instr.field t v j) r := by
  unfold fieldV at h
  split at h
  · rename_i fs cs hu
    obtain ⟨td, h0, u0, h1⟩ := run_und ok hu
    obtain ⟨l, rfl, hl⟩ := TD.struct_inv h0
    obtain ⟨L, rfl, rl⟩ := rx
    split at h
    · rename_i f hf
      obtain ⟨fld, hfl, e1, e2⟩ := field_get hl hf
      rw [← e1, ← e2] at h
      obtain ⟨y, hy, ry⟩ := partV_sound (P := P) (w := w) ok h rl
      exact ⟨y, by simp [Instr.field, h1, hfl, asAgg, hy], ry⟩
    · simp at h
  · simp at h

theorem run_list_mapM {α β : Type} (f : α → Sem β) (g : α → β) : ∀ (l : List α), (∀ x ∈ l, (f x).run P w = .ok (g x) w) → (l.mapM f).run P w = .ok (l.map g) w
  | [], _ => by simp
  | x :: l, h => by
    have ih := run_list_mapM f g l fun y hy => h y (List.mem_cons_of_mem _ hy)
    simp [List.mapM_cons, h x List.mem_cons_self, ih]

theorem run_array_mapM {α β : Type} (f : α → Sem β) (g : α → β) (l : Array α) (h : ∀ x ∈ l.toList, (f x).run P w = .ok (g x) w) : (l.mapM f).run P w = .ok (l.map g) w := by
  rw [Array.mapM_eq_mapM_toList]
  simp only [Sem.run_map, run_list_mapM f g l.toList h, Result.andThen_ok]
  congr 1
  apply Array.ext'
  simp

theorem foldl_putV (off : Nat) : ∀ (l : List Value) (k : Nat) (cells : Array Value), ((l.zipIdx k).foldl (fun (cs : Array Value) (x : Value × Nat) => cs.setIfInBounds (off + x.2) x.1) cells).toList = putV cells.toList (off + k) l
  | [], k, cells => rfl
  | v :: l, k, cells => by
    rw [List.zipIdx_cons, List.foldl_cons, foldl_putV off l (k + 1)]
    simp only [putV, Array.toList_setIfInBounds]
    rfl

def repP (G : Gh) : List (Nat × AV) → List (Nat × Value) → Prop
  | [], l => l = []
  | (i, x) :: r, l => ∃ y s, l = (i, y) :: s ∧ rep G x y ∧ repP G r s

theorem parts_rep {N : Nat} {ρ : Nat → AV} {a : Act} (h : FR N G ρ a) : ∀ {xs : List (Nat × Operand)} {vs : List (Nat × AV)}, parts ρ xs = some vs → repP G vs (xs.map fun x => (x.1, a.eval x.2))
  | [], vs, hv => by simp [parts] at hv; subst hv; rfl
  | (i, x) :: xs, vs, hv => by
    simp only [parts] at hv
    split at hv
    · rename_i v hx
      split at hv
      · rename_i us hu
        simp only [Option.some.injEq] at hv; subst hv
        exact ⟨_, _, rfl, opd_rep h hx, parts_rep h hu⟩
      · simp at hv
    · simp at hv

theorem fill_sound {place place' : Nat → Option (Nat × Nat)} (hp : ∀ i x, place i = some x → place' i = some x) : ∀ {ps : List (Nat × AV)} {vs : List (Nat × Value)} {cells r : List AV} {cv : Array Value},
    fillV place cells ps = some r → repP G ps vs → repL G cells cv.toList → ∃ rv, Instr.fill place' cv vs = some rv ∧ repL G r rv.toList
  | [], vs, cells, r, cv, h, rp, rc => by
    simp only [repP] at rp; subst rp
    simp only [fillV, Option.some.injEq] at h; subst h
    exact ⟨cv, rfl, rc⟩
  | (i, x) :: ps, vs, cells, r, cv, h, rp, rc => by
    obtain ⟨y, s, rfl, ry, rs⟩ := rp
    simp only [fillV] at h
    split at h
    · simp at h
    · rename_i off size hpl
      split at h
      · rename_i hc
        have hcell := ry.cells
        have hlen := rc.length
        have hsz := ry.cells_size
        have : ∃ cv' : Array Value, (y.cells.zipIdx.foldl (fun cs (c, j) => cs.setIfInBounds (off + j) c) cv) = cv' ∧ cv'.toList = putV cv.toList off y.cells.toList := by
          refine ⟨_, rfl, ?_⟩
          rw [← Array.foldl_toList, Array.toList_zipIdx]
          exact foldl_putV off y.cells.toList 0 cv
        obtain ⟨cv', e1, e2⟩ := this
        obtain ⟨rv, h1, h2⟩ := fill_sound hp (cv := cv') h rs (by rw [e2]; exact rc.put off hcell)
        refine ⟨rv, ?_, h2⟩
        simp only [Instr.fill, hp _ _ hpl]
        have hl2 : cv.size = cells.length := by simpa using hlen
        rw [if_neg (by simp only [hsz, hl2]; simp; omega), e1]
        exact h1
      · simp at h

theorem places_sound (ok : TabOk P T) : ∀ {fs : List Field} {pl : List (Nat × Nat)}, places T (fs.map fun f => (f.offset, f.type)) = some pl → ∃ g : Field → Nat × Nat, (∀ f ∈ fs, (do Pure.pure (f.offset, ← sizeOf f.type) : Sem (Nat × Nat)).run P w = .ok (g f) w) ∧ pl = fs.map g ∧ ∀ f, g f = (f.offset, P.cellsOf f.type)
  | [], pl, h => by simp [places] at h; exact ⟨fun f => (f.offset, P.cellsOf f.type), by simp, by simp [h], fun _ => rfl⟩
  | f :: fs, pl, h => by
    simp only [List.map_cons, places] at h
    split at h
    · rename_i ti hti
      split at h
      · rename_i r hr
        simp only [Option.some.injEq] at h; subst h
        obtain ⟨tinfo, q1, q2, _, _, hS, _⟩ := run_inf ok hti
        obtain ⟨g, g1, g2, g3⟩ := places_sound ok hr
        have hc : P.cellsOf f.type = ti.size := by simp [Program.cellsOf, q1, q2]
        refine ⟨g, fun x hx => ?_, by rw [List.map_cons, g3, hc, g2], g3⟩
        rcases List.mem_cons.1 hx with rfl | hx
        · simp [hS, g3, hc]
        · exact g1 x hx
      · simp at h
    · simp at h

theorem buildV_sound (ok : TabOk P T) {t : TypeId} {ps : List (Nat × AV)} {vs : List (Nat × Value)} {r : AV} (h : buildV T t ps = some r) (rp : repP G ps vs) : Yields P w G (Instr.build t vs.toArray) r := by
  unfold buildV at h
  split at h
  · rename_i fs ti hu hti
    obtain ⟨td, h0, u0, h1⟩ := run_und ok hu
    obtain ⟨l, rfl, hl⟩ := TD.struct_inv h0
    obtain ⟨_, _, _, _, _, _, z, _, hz, rz⟩ := run_inf ok hti
    split at h
    · rename_i pl hpl
      split at h
      · rename_i cs hcs
        simp only [Option.some.injEq] at h; subst h
        rw [← hl] at hpl
        obtain ⟨g, g1, g2, _⟩ := places_sound (w := w) ok hpl
        have hm := run_array_mapM (P := P) (w := w) (fun f : Field => (do Pure.pure (f.offset, ← sizeOf f.type) : Sem (Nat × Nat))) g l g1
        obtain ⟨rv, f1, f2⟩ := fill_sound (place' := fun i => (l.map g)[i]?) (fun i x hx => by rw [g2] at hx; simpa using hx) hcs rp (rz G)
        refine ⟨.agg rv, ?_, rv, rfl, f2⟩
        simp only [Instr.build, Sem.run_bind, hz, Result.andThen_ok, h1, hm, f1]
        rfl
      · simp at h
    · simp at h
  · rename_i n e ti hu hti
    obtain ⟨td, h0, u0, h1⟩ := run_und ok hu
    have := TD.array_inv h0; subst this
    obtain ⟨_, _, _, _, _, _, z, _, hz, rz⟩ := run_inf ok hti
    split at h
    · rename_i te hte
      obtain ⟨_, _, _, _, _, hS, _⟩ := run_inf ok hte
      split at h
      · rename_i cs hcs
        simp only [Option.some.injEq] at h; subst h
        obtain ⟨rv, f1, f2⟩ := fill_sound (place' := fun i => some (i * te.size, te.size)) (fun i x hx => hx) hcs rp (rz G)
        refine ⟨.agg rv, ?_, rv, rfl, f2⟩
        simp only [Instr.build, Sem.run_bind, hz, Result.andThen_ok, h1, hS, f1]
        rfl
      · simp at h
    · simp at h
  · simp at h

theorem flat_cell {x : AV} {xs : List AV} {v : Value} (h : flat (x :: xs) = true) (r : rep G x v) : v.cells = #[v] ∧ flat xs = true := by
  cases x <;> simp only [flat, Bool.false_eq_true] at h <;> refine ⟨?_, h⟩ <;> simp only [rep] at r
  all_goals first
    | (subst r; rfl)
    | (obtain ⟨_, _, e⟩ := r; subst e; rfl)
    | (obtain ⟨_, e, _⟩ := r; subst e; rfl)
    | (obtain ⟨_, _, _, e, _⟩ := r; subst e; rfl)

theorem flat_drop : ∀ (n : Nat) {xs : List AV}, flat xs = true → flat (xs.drop n) = true
  | 0, _, h => h
  | n + 1, [], _ => by simp [flat]
  | n + 1, x :: xs, h => by
    rw [List.drop_succ_cons]
    refine flat_drop n ?_
    cases x <;> simp [flat] at h <;> exact h

theorem chunk_sound {ag : Bool} {sz : Nat} (hag : ag = true ∨ sz = 1) : ∀ (n : Nat) {cs : List AV} {cv : List Value}, repL G cs cv → cs.length = n * sz → flat cs = true →
    ∃ vs, repL G (chunk ag sz n cs) vs ∧ cellsOf vs = cv ∧ (∀ v ∈ vs, v.cells.size = sz) ∧ vs.length = n
  | 0, cs, cv, r, hl, _ => by
    have := r.length
    rw [hl, Nat.zero_mul] at this
    have e : cv = [] := by simpa using this
    exact ⟨[], by simp [chunk, repL], by simp [cellsOf, e], by simp, rfl⟩
  | n + 1, cs, cv, r, hl, hf => by
    have hcl := r.length
    have hm : (n + 1) * sz = sz + n * sz := by rw [Nat.succ_mul]; omega
    obtain ⟨vs, h1, h2, h3, h4⟩ := chunk_sound hag n (r.drop sz) (by rw [List.length_drop, hl, hm]; omega) (flat_drop sz hf)
    cases ag with
    | true =>
      have ht := r.take sz
      refine ⟨.agg (cv.take sz).toArray :: vs, ?_, ?_, ?_, by simp [h4]⟩
      · exact repL_cons.2 ⟨⟨_, rfl, by simpa using ht⟩, h1⟩
      · rw [cellsOf_cons, h2]; simp [Value.cells]
      · intro v hv
        rcases List.mem_cons.1 hv with rfl | hv
        · simp [Value.cells]; omega
        · exact h3 v hv
    | false =>
      have hsz : sz = 1 := hag.resolve_left (by simp)
      subst hsz
      cases cs with
      | nil => simp at hl
      | cons x xs =>
        obtain ⟨y, ys, rfl, r1, r2⟩ := r
        obtain ⟨c1, c2⟩ := flat_cell hf r1
        refine ⟨y :: vs, ?_, ?_, ?_, by simp [h4]⟩
        · exact repL_cons.2 ⟨r1, h1⟩
        · rw [cellsOf_cons, h2, c1]; simp
        · intro v hv
          rcases List.mem_cons.1 hv with rfl | hv
          · rw [c1]; rfl
          · exact h3 v hv

theorem repeatCells_length (z : List AV) : ∀ n, (repeatCells z n).length = n * z.length
  | 0 => by simp [repeatCells]
  | n + 1 => by rw [repeatCells, List.length_append, repeatCells_length z n, Nat.succ_mul]; omega

theorem repeatCells_get (z : List AV) : ∀ (n i : Nat), i < n * z.length → (repeatCells z n)[i]? = z[i % z.length]?
  | 0, i, h => by simp at h
  | n + 1, i, h => by
    rw [repeatCells]
    rcases Nat.lt_or_ge i z.length with h' | h'
    · rw [List.getElem?_append_left h', Nat.mod_eq_of_lt h']
    · rw [List.getElem?_append_right h', repeatCells_get z n (i - z.length) (by rw [Nat.succ_mul] at h; omega)]
      congr 1
      exact (Nat.mod_eq_sub_mod h').symm

theorem repeat_rep {z : List AV} {zv : Array Value} (r : repL G z zv.toList) (n : Nat) : repL G (repeatCells z n) (((Array.range (n * z.length)).map (fun i => zv[i % zv.size]!)).toList) := by
  have hl : zv.size = z.length := by simpa using r.length
  refine repL.of_get (by simp [repeatCells_length]) fun j x v hx hv => ?_
  have hj : j < n * z.length := by have := lt_of_get hx; rwa [repeatCells_length] at this
  rw [repeatCells_get z n j hj] at hx
  obtain ⟨u, hu, ru⟩ := r.get hx
  have : v = u := by
    have hlt := lt_of_get hu
    simp only [Array.length_toList] at hlt
    simp only [Array.toList_map, List.getElem?_map, Array.toList_range, List.getElem?_range hj, Option.map_some, Option.some.injEq] at hv
    subst hv
    rw [hl, getElem!_pos zv _ hlt]
    simpa [hlt] using hu
  rw [this]; exact ru

theorem buildSliceV_sound (ok : TabOk P T) (hi : Inv base w0 G σ w) {t : TypeId} {n : Nat} {ps : List (Nat × AV)} {vs : List (Nat × Value)} {r : AV} {σ' : St} {j : Nat} (h : buildSliceV T j t n ps σ = some (r, σ')) (rp : repP G ps vs) :
    Makes P base w0 w G (Instr.buildSlice t n vs.toArray) r σ' := by
  unfold buildSliceV at h
  split at h
  · rename_i e hu
    obtain ⟨td, h0, u0, h1⟩ := run_und ok hu
    have := TD.slice_inv h0; subst this
    split at h
    · rename_i te ag hte hag
      split at h
      · rename_i hc
        obtain ⟨c1, c2, c3⟩ := hc
        split at h
        · rename_i cs hcs
          split at h
          · rename_i hf
            obtain ⟨hf, hfree⟩ := hf
            simp only [Option.some.injEq, Prod.mk.injEq] at h
            obtain ⟨rfl, rfl⟩ := h
            obtain ⟨_, _, _, _, _, hS, z, _, hz, rz⟩ := run_inf ok hte
            have hzl := ok.zlen _ _ hte
            have hrep := repeat_rep (rz G) n
            rw [hzl] at hrep
            obtain ⟨rv, f1, f2⟩ := fill_sound (place' := fun i => some (i * te.size, te.size)) (fun i x hx => hx) hcs rp hrep
            have hlen : cs.length = n * te.size := by
              have : ∀ {ps : List (Nat × AV)} {a b : List AV}, fillV (fun i => some (i * te.size, te.size)) a ps = some b → b.length = a.length := by
                intro ps
                induction ps with
                | nil => intro a b h; simp [fillV] at h; rw [h]
                | cons p ps ih =>
                  intro a b h
                  obtain ⟨i, x⟩ := p
                  simp only [fillV] at h
                  split at h
                  · rw [ih h, put_length]
                  · simp at h
              rw [this hcs, repeatCells_length, hzl]
            obtain ⟨vs', g1, g2, g3, g4⟩ := chunk_sound c3 n f2 hlen hf
            have hr := hi.newRow hfree (vs := cellsOf vs') (rest := []) (t := e) (n := n) (c := n) c1 (by rw [cellsOf_length g3, g4]) (by rw [cellsOf_length g3, g4]; simp) (Nat.le_refl _)
            obtain ⟨q1, q2, q3, q4⟩ := hr
            rw [List.append_nil] at q2
            have hrv : rv = (cellsOf vs').toArray := by rw [g2]
            subst hrv
            refine ⟨.slice (some ⟨w.heap.size, 0, none⟩) n n, _, _, ?_, q1, q2, ?_⟩
            · have hnle : ¬ n * te.size > 2 ^ 24 := by
                have : (2 : Nat) ^ 24 = 16777216 := by decide
                omega
              simp only [Instr.buildSlice, Sem.run_bind, h1, Result.andThen_ok, hS]
              rw [if_neg hnle]
              by_cases h0 : n * te.size = 0
              · rw [if_pos h0]
                rw [h0] at f1
                simp only [Sem.run_bind, Sem.run_pure, Result.andThen_ok, h0]
                have : (Array.map (fun x => (#[] : Array Value)[x % (#[] : Array Value).size]!) (Array.range 0)) = Array.map (fun i => z.cells[i % z.cells.size]!) (Array.range 0) := by simp
                rw [this, f1]
                rfl
              · rw [if_neg h0]
                simp only [Sem.run_bind, Sem.run_pure, Result.andThen_ok, hz, f1]
                rfl
            · have hcl : ((chunk ag te.size n cs).map AV.strip).length = n := by
                have := g1.length; simp; omega
              refine ⟨_, n, vs', by rw [hcl], by rw [hcl]; exact Nat.le_refl _, fun h => by simp [newTok] at h, fun _ => ⟨_, rfl, by rw [hcl]; exact q4⟩, (g1.strip).mono q1, ?_⟩
              right
              exact ⟨_, _, te.size, rfl, g3, q3⟩
          · simp at h
        · simp at h
      · simp at h
    · simp at h
  · simp at h
end
end Go.Pv
