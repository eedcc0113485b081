/- What a value of the plain evaluator stands for in a world, and what stays true as the world grows. -/
import Derived.Test.YtigcolhieieakaaDoorPvA
import Derived.Laws.IdiomCopy
namespace Go.Pv
open Go Go.RowKit
set_option linter.unusedVariables false
set_option linter.unusedSimpArgs false

structure Gh where
  ι : Nat → Option Nat
  mem : Nat → Nat → Option Value
  τ : Nat → Option (Addr × Nat × Nat)
  old : Nat → Nat → Option Value

structure Gh.le (G G' : Gh) : Prop where
  ι : ∀ l B, G.ι l = some B → G'.ι l = some B
  mem : ∀ b o v, G.mem b o = some v → G'.mem b o = some v
  τ : ∀ k x, G.τ k = some x → G'.τ k = some x
  old : G'.old = G.old

theorem Gh.le.refl (G : Gh) : G.le G := ⟨fun _ _ h => h, fun _ _ _ h => h, fun _ _ h => h, rfl⟩
theorem Gh.le.trans {a b c : Gh} (h : a.le b) (k : b.le c) : a.le c :=
  ⟨fun _ _ x => k.ι _ _ (h.ι _ _ x), fun _ _ _ x => k.mem _ _ _ (h.mem _ _ _ x), fun _ _ x => k.τ _ _ (h.τ _ _ x), k.old.trans h.old⟩

/-- The cells from o on are these. -/
def memAt (G : Gh) (b o : Nat) (l : List Value) : Prop := ∀ (j : Nat) v, l[j]? = some v → G.mem b (o + j) = some v

def cellsOf (vs : List Value) : List Value := vs.flatMap fun v => v.cells.toList

mutual
def rep (G : Gh) : AV → Value → Prop
  | .b x, v => v = .bool x
  | .i k n, v => v = .int k n
  | .s l, v => v = .string ⟨l.toArray⟩
  | .np, v => v = .pointer none
  | .p l o, v => ∃ B, G.ι l = some B ∧ v = .pointer (some ⟨B, o, none⟩)
  | .ip cs, v => ∃ b o l, v = .pointer (some ⟨b, o, none⟩) ∧ repL G cs l ∧ memAt G b o l
  | .sl es k, v => ∃ A c vs, v = .slice A es.length c ∧ es.length ≤ c ∧ (k = 1 → A = none ∧ c = 0) ∧ (2 ≤ k → ∃ a, A = some a ∧ G.τ k = some (a, es.length, c)) ∧
      repL G es vs ∧ (es = [] ∨ ∃ b o sz, A = some ⟨b, o, none⟩ ∧ (∀ v ∈ vs, v.cells.size = sz) ∧ memAt G b o (cellsOf vs))
  | .ne, v => v = .nilIface
  | .e t x, v => ∃ y, v = .iface t y ∧ rep G x y
  | .a cs, v => ∃ l, v = .agg l ∧ repL G cs l.toList
  | .t vs, v => ∃ l, v = .tuple l ∧ repL G vs l.toList
  | .f fn cs, v => ∃ l, v = .func (.func fn) #[] l ∧ repL G cs l.toList
  | .nf, v => v = .nilFunc
def repL (G : Gh) : List AV → List Value → Prop
  | [], l => l = []
  | x :: xs, l => ∃ y ys, l = y :: ys ∧ rep G x y ∧ repL G xs ys
end

theorem memAt.mono {G G' : Gh} (h : G.le G') {b o : Nat} {l : List Value} (m : memAt G b o l) : memAt G' b o l := fun j v hj => h.mem _ _ _ (m j v hj)

mutual
theorem rep.mono {G G' : Gh} (h : G.le G') : ∀ {x : AV} {v : Value}, rep G x v → rep G' x v
  | .b _, _, r => r
  | .i _ _, _, r => r
  | .s _, _, r => r
  | .np, _, r => r
  | .p _ _, _, ⟨B, h1, h2⟩ => ⟨B, h.ι _ _ h1, h2⟩
  | .ip _, _, ⟨b, o, l, h1, h2, h3⟩ => ⟨b, o, l, h1, repL.mono h h2, h3.mono h⟩
  | .sl _ _, _, ⟨A, c, vs, h1, h2, h3, h4, h5, h6⟩ =>
    ⟨A, c, vs, h1, h2, h3, fun hk => let ⟨a, e, t⟩ := h4 hk; ⟨a, e, h.τ _ _ t⟩, repL.mono h h5, h6.imp id fun ⟨b, o, sz, e, s, m⟩ => ⟨b, o, sz, e, s, m.mono h⟩⟩
  | .ne, _, r => r
  | .e _ _, _, ⟨y, h1, h2⟩ => ⟨y, h1, rep.mono h h2⟩
  | .a _, _, ⟨l, h1, h2⟩ => ⟨l, h1, repL.mono h h2⟩
  | .t _, _, ⟨l, h1, h2⟩ => ⟨l, h1, repL.mono h h2⟩
  | .f _ _, _, ⟨l, h1, h2⟩ => ⟨l, h1, repL.mono h h2⟩
  | .nf, _, r => r
theorem repL.mono {G G' : Gh} (h : G.le G') : ∀ {xs : List AV} {vs : List Value}, repL G xs vs → repL G' xs vs
  | [], _, r => r
  | _ :: _, _, ⟨y, ys, e, r1, r2⟩ => ⟨y, ys, e, rep.mono h r1, repL.mono h r2⟩
end

section lists
variable {G : Gh}

theorem repL_nil {l : List Value} : repL G [] l ↔ l = [] := by simp [repL]
theorem repL_cons {x : AV} {xs : List AV} {y : Value} {ys : List Value} : repL G (x :: xs) (y :: ys) ↔ rep G x y ∧ repL G xs ys := by
  simp only [repL]
  exact ⟨fun ⟨_, _, e, h⟩ => by cases e; exact h, fun h => ⟨_, _, rfl, h⟩⟩

theorem repL.length : ∀ {xs : List AV} {vs : List Value}, repL G xs vs → vs.length = xs.length
  | [], _, r => by rw [repL_nil] at r; simp [r]
  | _ :: _, _, ⟨y, ys, e, _, r2⟩ => by rw [e]; simp [repL.length r2]

theorem repL.get : ∀ {xs : List AV} {vs : List Value}, repL G xs vs → ∀ {j : Nat} {x : AV}, xs[j]? = some x → ∃ v, vs[j]? = some v ∧ rep G x v
  | [], _, _, j, x, h => by simp at h
  | y :: ys, _, ⟨z, zs, e, r1, r2⟩, 0, x, h => by subst e; simp at h; subst h; exact ⟨z, rfl, r1⟩
  | y :: ys, _, ⟨z, zs, e, r1, r2⟩, j + 1, x, h => by subst e; simp at h; obtain ⟨v, h1, h2⟩ := repL.get r2 h; exact ⟨v, by simpa using h1, h2⟩

theorem repL.append : ∀ {xs ys : List AV} {vs us : List Value}, repL G xs vs → repL G ys us → repL G (xs ++ ys) (vs ++ us)
  | [], _, _, _, r, s => by rw [repL_nil] at r; subst r; exact s
  | _ :: _, _, _, _, ⟨z, zs, e, r1, r2⟩, s => by subst e; exact repL_cons.2 ⟨r1, repL.append r2 s⟩

theorem repL.take : ∀ {xs : List AV} {vs : List Value} (n : Nat), repL G xs vs → repL G (xs.take n) (vs.take n)
  | _, _, 0, _ => by simp [repL_nil]
  | [], _, n + 1, r => by rw [repL_nil] at r; subst r; simp [repL_nil]
  | _ :: _, _, n + 1, ⟨z, zs, e, r1, r2⟩ => by subst e; exact repL_cons.2 ⟨r1, repL.take n r2⟩

theorem repL.drop : ∀ {xs : List AV} {vs : List Value} (n : Nat), repL G xs vs → repL G (xs.drop n) (vs.drop n)
  | _, _, 0, r => by simpa using r
  | [], _, n + 1, r => by rw [repL_nil] at r; subst r; simp [repL_nil]
  | _ :: _, _, n + 1, ⟨z, zs, e, r1, r2⟩ => by subst e; simpa using repL.drop n r2

theorem repL.set : ∀ {xs : List AV} {vs : List Value} (n : Nat) {x : AV} {v : Value}, repL G xs vs → rep G x v → repL G (xs.set n x) (vs.set n v)
  | [], _, n, _, _, r, _ => by rw [repL_nil] at r; subst r; simp [repL_nil]
  | _ :: _, _, 0, _, _, ⟨z, zs, e, r1, r2⟩, s => by subst e; exact repL_cons.2 ⟨s, r2⟩
  | _ :: _, _, n + 1, _, _, ⟨z, zs, e, r1, r2⟩, s => by subst e; exact repL_cons.2 ⟨r1, repL.set n r2 s⟩

theorem repL.of_get {xs : List AV} {vs : List Value} (hl : vs.length = xs.length) (h : ∀ (j : Nat) x v, xs[j]? = some x → vs[j]? = some v → rep G x v) : repL G xs vs := by
  induction xs generalizing vs with
  | nil => rw [repL_nil]; simpa using hl
  | cons x xs ih =>
    cases vs with
    | nil => simp at hl
    | cons v vs => exact repL_cons.2 ⟨h 0 x v rfl rfl, ih (by simpa using hl) fun j a b ha hb => h (j + 1) a b (by simpa using ha) (by simpa using hb)⟩
end lists

theorem rep.strip0 {G : Gh} : ∀ {x : AV} {v : Value}, rep G x v → rep G x.strip0 v
  | .sl es k, v, r => by
    obtain ⟨A, c, vs, h1, h2, h3, h4, h5, h6⟩ := r
    exact ⟨A, c, vs, h1, h2, fun h => by omega, fun h => by omega, h5, h6⟩
  | .b _, _, r => r
  | .i _ _, _, r => r
  | .s _, _, r => r
  | .np, _, r => r
  | .p _ _, _, r => r
  | .ip _, _, r => r
  | .ne, _, r => r
  | .e _ _, _, r => r
  | .a _, _, r => r
  | .t _, _, r => r
  | .f _ _, _, r => r
  | .nf, _, r => r

theorem repL.strip0 {G : Gh} : ∀ {xs : List AV} {vs : List Value}, repL G xs vs → repL G (xs.map AV.strip0) vs
  | [], _, r => r
  | _ :: _, _, ⟨z, zs, e, r1, r2⟩ => by subst e; exact repL_cons.2 ⟨r1.strip0, repL.strip0 r2⟩

theorem rep.strip {G : Gh} : ∀ {x : AV} {v : Value}, rep G x v → rep G x.strip v
  | .sl es k, v, r => rep.strip0 (x := .sl es k) r
  | .a cs, v, ⟨l, h1, h2⟩ => ⟨l, h1, repL.strip0 h2⟩
  | .b _, _, r => r
  | .i _ _, _, r => r
  | .s _, _, r => r
  | .np, _, r => r
  | .p _ _, _, r => r
  | .ip _, _, r => r
  | .ne, _, r => r
  | .e _ _, _, r => r
  | .t _, _, r => r
  | .f _ _, _, r => r
  | .nf, _, r => r

theorem repL.strip {G : Gh} : ∀ {xs : List AV} {vs : List Value}, repL G xs vs → repL G (xs.map AV.strip) vs
  | [], _, r => r
  | _ :: _, _, ⟨z, zs, e, r1, r2⟩ => by subst e; exact repL_cons.2 ⟨r1.strip, repL.strip r2⟩

/-- A value's cells. -/
theorem rep.cells {G : Gh} : ∀ {x : AV} {v : Value}, rep G x v → repL G x.cells v.cells.toList
  | .a cs, v, ⟨l, h1, h2⟩ => by subst h1; exact h2
  | .b _, _, r => by simp only [rep] at r; subst r; simp [AV.cells, Value.cells, repL, rep]
  | .i _ _, _, r => by simp only [rep] at r; subst r; simp [AV.cells, Value.cells, repL, rep]
  | .s _, _, r => by simp only [rep] at r; subst r; simp [AV.cells, Value.cells, repL, rep]
  | .np, _, r => by simp only [rep] at r; subst r; simp [AV.cells, Value.cells, repL, rep]
  | .ne, _, r => by simp only [rep] at r; subst r; simp [AV.cells, Value.cells, repL, rep]
  | .nf, _, r => by simp only [rep] at r; subst r; simp [AV.cells, Value.cells, repL, rep]
  | .p l o, v, r => by have r' := r; obtain ⟨_, _, e⟩ := r; subst e; exact ⟨_, _, rfl, r', rfl⟩
  | .ip cs, v, r => by have r' := r; obtain ⟨_, _, _, e, _⟩ := r; subst e; exact ⟨_, _, rfl, r', rfl⟩
  | .sl es k, v, r => by have r' := r; obtain ⟨_, _, _, e, _⟩ := r; subst e; exact ⟨_, _, rfl, r', rfl⟩
  | .e t x, v, r => by have r' := r; obtain ⟨_, e, _⟩ := r; subst e; exact ⟨_, _, rfl, r', rfl⟩
  | .t vs, v, r => by have r' := r; obtain ⟨_, e, _⟩ := r; subst e; exact ⟨_, _, rfl, r', rfl⟩
  | .f fn cs, v, r => by have r' := r; obtain ⟨_, e, _⟩ := r; subst e; exact ⟨_, _, rfl, r', rfl⟩

theorem rep.cells_size {G : Gh} {x : AV} {v : Value} (r : rep G x v) : v.cells.size = x.cells.length := by
  have := r.cells.length
  simpa using this

/-- Cells that are flat are cells. -/
theorem repL.oneCell {G : Gh} : ∀ {xs : List AV} {vs : List Value}, repL G xs vs → flat xs = true → ∀ v ∈ vs, v.oneCell' = true
  | [], _, r, _, v, hv => by rw [repL_nil] at r; subst r; simp at hv
  | x :: xs, _, ⟨z, zs, e, r1, r2⟩, hf, v, hv => by
    subst e
    have hx : z.oneCell' = true ∧ flat xs = true := by
      cases x <;> simp only [flat, Bool.false_eq_true] at hf <;> simp only [rep] at r1 <;> refine ⟨?_, hf⟩
      all_goals first
        | (subst r1; rfl)
        | (obtain ⟨_, _, e⟩ := r1; subst e; rfl)
        | (obtain ⟨_, e, _⟩ := r1; subst e; rfl)
        | (obtain ⟨_, _, _, e, _⟩ := r1; subst e; rfl)
    rcases List.mem_cons.1 hv with h | h
    · rw [h]; exact hx.1
    · exact repL.oneCell r2 hx.2 v h

theorem leaf_rep {G : Gh} {v : Value} {x : AV} (h : leaf v = some x) : rep G x v := by
  unfold leaf at h
  split at h <;> simp only [Option.some.injEq, reduceCtorEq] at h <;> subst h
  all_goals first
    | rfl
    | exact ⟨none, 0, [], rfl, Nat.le_refl _, fun _ => ⟨rfl, rfl⟩, fun h => absurd h (by decide), rfl, Or.inl rfl⟩
    | exact ⟨#[], rfl, rfl⟩

theorem leafs_rep {G : Gh} : ∀ {vs : List Value} {xs : List AV}, leafs vs = some xs → repL G xs vs
  | [], xs, h => by simp [leafs] at h; subst h; simp [repL]
  | v :: vs, xs, h => by
    simp only [leafs] at h
    split at h
    · rename_i x hx
      split at h
      · rename_i ys hy
        simp only [Option.some.injEq] at h; subst h
        exact repL_cons.2 ⟨leaf_rep hx, leafs_rep hy⟩
      · simp at h
    · simp at h

theorem ofConst_rep {G : Gh} {v : Value} {x : AV} (h : ofConst v = some x) : rep G x v := by
  unfold ofConst at h
  split at h
  · split at h
    · rename_i l hl
      simp only [Option.some.injEq] at h; subst h
      exact ⟨_, rfl, leafs_rep hl⟩
    · simp at h
  · exact leaf_rep h

/-- The frame. -/
structure FR (N : Nat) (G : Gh) (ρ : Nat → AV) (a : Act) : Prop where
  defers : a.defers = []
  size : a.tmps.size = N
  rd : ∀ j, rep G (ρ j) (a.tmps.getD j undef)

theorem FR.mono {N : Nat} {G G' : Gh} {ρ : Nat → AV} {a : Act} (h : FR N G ρ a) (hg : G.le G') : FR N G' ρ a := ⟨h.defers, h.size, fun j => (h.rd j).mono hg⟩

theorem rep_undef (G : Gh) : rep G .u undef := ⟨#[], rfl, rfl⟩

def upd (ρ : Nat → AV) (d : Nat) (v : AV) : Nat → AV := fun j => if j = d then v else ρ j
def updO (ρ : Nat → AV) (d : Option Nat) (v : AV) : Nat → AV := match d with | some d => upd ρ d v | none => ρ

theorem FR.put {N : Nat} {G : Gh} {ρ : Nat → AV} {a : Act} (h : FR N G ρ a) {d : Option Nat} {x : AV} {v : Value} (hd : ∀ t, d = some t → t < N) (r : rep G x v) : FR N G (updO ρ d x) (a.put d v) := by
  cases d with
  | none => exact h
  | some d =>
    have hlt := hd d rfl
    refine ⟨h.defers, by simp [Act.put, h.size], fun j => ?_⟩
    simp only [updO, upd, Act.put, Array.getD_eq_getD_getElem?]
    by_cases hj : j = d
    · subst hj
      simp [h.size, hlt, r]
    · rw [if_neg hj, Array.getElem?_setIfInBounds_ne (fun e => hj e.symm)]
      simpa using h.rd j

theorem opd_rep {N : Nat} {G : Gh} {ρ : Nat → AV} {a : Act} (h : FR N G ρ a) {x : Operand} {v : AV} (hv : opd ρ x = some v) : rep G v (a.eval x) := by
  cases x with
  | tmp t => simp only [opd, Option.some.injEq] at hv; subst hv; exact h.rd t
  | const c => exact ofConst_rep hv
  | global g => simp [opd] at hv
  | func f => simp only [opd, Option.some.injEq] at hv; subst hv; exact ⟨#[], rfl, rfl⟩

theorem opds_rep {N : Nat} {G : Gh} {ρ : Nat → AV} {a : Act} (h : FR N G ρ a) : ∀ {xs : List Operand} {vs : List AV}, opds ρ xs = some vs → repL G vs (xs.map a.eval)
  | [], vs, hv => by simp [opds] at hv; subst hv; simp [repL]
  | x :: xs, vs, hv => by
    simp only [opds] at hv
    split at hv
    · rename_i v hx
      split at hv
      · rename_i us hu
        simp only [Option.some.injEq] at hv; subst hv
        exact repL_cons.2 ⟨opd_rep h hx, opds_rep h hu⟩
      · simp at hv
    · simp at hv
end Go.Pv
