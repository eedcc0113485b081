/- The tie between the evaluator's state and the world, and how it goes on as memory is made and written. -/
import Derived.Test.YtigcolhieieakaaDoorPvB
namespace Go.Pv
open Go Go.RowKit
set_option linter.unusedVariables false
set_option linter.unusedSimpArgs false

theorem Tr.get_nil {α : Type} (j : Nat) : Tr.get (.nil : Tr α) j = none := rfl

theorem beq_eq (a b : Nat) : Nat.beq a b = decide (a = b) := by
  cases h : Nat.beq a b
  · exact (decide_eq_false (Nat.ne_of_beq_eq_false h)).symm
  · exact (decide_eq_true (Nat.eq_of_beq_eq_true h)).symm

theorem Tr.get_setF {α : Type} : ∀ (f : Nat) (t : Tr α) (n : Nat) (x : α) (j : Nat), n < f → Tr.get (Tr.setF f t n x) j = if j = n then some x else Tr.get t j
  | 0, _, _, _, _, h => by omega
  | f + 1, t, n, x, j, h => by
    have ih := fun (t : Tr α) (n : Nat) (j : Nat) (hn : n < f) => Tr.get_setF f t n x j hn
    cases n with
    | zero =>
      cases t with
      | nil => cases j with
        | zero => simp [Tr.setF, Tr.get]
        | succ k => simp only [Tr.setF, Tr.get]; split <;> simp
      | node v l r => cases j with
        | zero => simp [Tr.setF, Tr.get]
        | succ k => simp [Tr.setF, Tr.get]
    | succ m =>
      have hm : m / 2 < f := by omega
      cases t with
      | nil =>
        cases j with
        | zero => by_cases h2 : m % 2 = 0 <;> simp [Tr.setF, Tr.get, beq_eq, h2]
        | succ k =>
          by_cases h2 : m % 2 = 0 <;> by_cases h3 : k % 2 = 0 <;> simp [Tr.setF, Tr.get, beq_eq, h2, h3, ih _ _ _ hm, Tr.get_nil]
          all_goals first
            | (by_cases he : k / 2 = m / 2
               · rw [if_pos he, if_pos (by omega)]
               · rw [if_neg he, if_neg (by omega)])
            | omega
      | node v l r =>
        cases j with
        | zero => by_cases h2 : m % 2 = 0 <;> simp [Tr.setF, Tr.get, beq_eq, h2]
        | succ k =>
          by_cases h2 : m % 2 = 0 <;> by_cases h3 : k % 2 = 0 <;> simp [Tr.setF, Tr.get, beq_eq, h2, h3, ih _ _ _ hm]
          all_goals first
            | (by_cases he : k / 2 = m / 2
               · rw [if_pos he, if_pos (by omega)]
               · rw [if_neg he, if_neg (by omega)])
            | (rw [if_neg (by omega)])
            | (intro e; omega)

theorem Tr.get_set {α : Type} (t : Tr α) (n : Nat) (x : α) (j : Nat) : Tr.get (Tr.set t n x) j = if j = n then some x else Tr.get t j :=
  Tr.get_setF _ _ _ _ _ (Nat.lt_succ_self n)

theorem Fr.rd_set (fr : Fr) (d : Nat) (v : AV) : Fr.rd (Tr.set fr d v) = upd fr.rd d v := by
  funext j
  simp only [Fr.rd, Tr.get_set, upd]
  split <;> rfl

theorem Tr.ofList_mem {α : Type} {k : Nat} {v : α} : ∀ {l : List (Nat × α)}, Tr.get (Tr.ofList l) k = some v → (k, v) ∈ l
  | [], h => by simp [Tr.ofList, Tr.get] at h
  | (k', v') :: r, h => by
    simp only [Tr.ofList, Tr.get_set] at h
    split at h
    · rename_i e; simp only [Option.some.injEq] at h; subst e; subst h; exact List.mem_cons_self
    · exact List.mem_cons_of_mem _ (Tr.ofList_mem h)

structure Inv (base : Nat) (w0 : World) (G : Gh) (σ : St) (w : World) : Prop where
  bel : Below base w0 w
  bsz : base ≤ w.heap.size
  mem : ∀ b o v, G.mem b o = some v → w.cell? ⟨b, o, none⟩ = some v
  ιlt : ∀ l B, G.ι l = some B → (Tr.get σ.h l).isSome = true ∧ base ≤ B ∧ B < w.heap.size
  inj : ∀ l l' B, G.ι l = some B → G.ι l' = some B → l = l'
  ιmem : ∀ l B, G.ι l = some B → ∀ o, G.mem B o = none
  box : ∀ l cs, Tr.get σ.h l = some cs → ∃ B vs, G.ι l = some B ∧ repL G cs vs ∧ (∀ (j : Nat) v, vs[j]? = some v → w.cell? ⟨B, j, none⟩ = some v ∧ w.frozen? ⟨B, j, none⟩ = false)
  τlt : ∀ k x, G.τ k = some x → (Tr.get σ.tk k).isSome = true
  tok : ∀ k sz, Tr.get σ.tk k = some sz → sz ≠ 0 → ∃ a n c, G.τ k = some (a, n, c) ∧ a.spot = none ∧ base ≤ a.block ∧ a.block < w.heap.size ∧ n ≤ c ∧ (∀ l, G.ι l ≠ some a.block) ∧
    (∀ j, n * sz ≤ j → j < c * sz → G.mem a.block (a.off + j) = none ∧ (∃ v, w.cell? ⟨a.block, a.off + j, none⟩ = some v) ∧ w.frozen? ⟨a.block, a.off + j, none⟩ = false)
  tdis : ∀ k k' sz sz' a n c a' n' c', Tr.get σ.tk k = some sz → sz ≠ 0 → Tr.get σ.tk k' = some sz' → sz' ≠ 0 → G.τ k = some (a, n, c) → G.τ k' = some (a', n', c') → a.block = a'.block → k = k'
  old : ∀ b o, b < base → G.mem b o = G.old b o

section
variable {base : Nat} {w0 : World} {G : Gh} {σ : St} {w : World}

theorem Inv.drew (h : Inv base w0 G σ w) : Inv base w0 G σ w.drew :=
  ⟨h.bel.drew, h.bsz, h.mem, h.ιlt, h.inj, h.ιmem, h.box, h.τlt, h.tok, h.tdis, h.old⟩

theorem Inv.bump (h : Inv base w0 G σ w) (n : Nat) : Inv base w0 G (σ.bump n) w :=
  ⟨h.bel, h.bsz, h.mem, h.ιlt, h.inj, h.ιmem, h.box, h.τlt, h.tok, h.tdis, h.old⟩

theorem isSome_set {α : Type} (t : Tr α) (n : Nat) (x : α) (j : Nat) (h : (Tr.get t j).isSome = true) : (Tr.get (Tr.set t n x) j).isSome = true := by
  rw [Tr.get_set]; split
  · rfl
  · exact h

theorem Inv.memlt (h : Inv base w0 G σ w) {b o : Nat} {v : Value} (hm : G.mem b o = some v) : b < w.heap.size := World.block_lt_of_cell? _ _ (h.mem _ _ _ hm)

theorem Inv.fresh (h : Inv base w0 G σ w) (o : Nat) : G.mem w.heap.size o = none := by
  cases hm : G.mem w.heap.size o with
  | none => rfl
  | some v => exact absurd (h.memlt hm) (Nat.lt_irrefl _)

/-- A block more. -/
theorem cell_alloc (w : World) (o : Obj) {a : Addr} (ha : a.block < w.heap.size) : (w.alloc o).cell? a = w.cell? a := World.cell?_alloc_lt _ _ _ ha
theorem frozen_alloc (w : World) (o : Obj) {a : Addr} (ha : a.block < w.heap.size) : (w.alloc o).frozen? a = w.frozen? a := World.frozen?_alloc_old _ _ _ (Nat.ne_of_lt ha)

def Gh.addBox (G : Gh) (l B : Nat) : Gh := { G with ι := fun x => if x = l then some B else G.ι x }

theorem Inv.newBox (h : Inv base w0 G σ w) {j : Nat} (hfree : boxFree j σ = true) {cs : List AV} {vs : List Value} (r : repL G cs vs) (t : TypeId) :
    let G' := G.addBox (σ.nb + j) w.heap.size
    G.le G' ∧ Inv base w0 G' (newBox j cs σ).2 (w.alloc (.cells vs.toArray t)) ∧ rep G' (newBox j cs σ).1 (.pointer (some ⟨w.heap.size, 0, none⟩)) := by
  intro G'
  have hget : Tr.get σ.h (σ.nb + j) = none := by
    unfold boxFree at hfree
    split at hfree
    · assumption
    · simp at hfree
  have hn : G.ι (σ.nb + j) = none := by
    cases hq : G.ι (σ.nb + j) with
    | none => rfl
    | some B => have := (h.ιlt _ _ hq).1; rw [hget] at this; simp at this
  have hle : G.le G' := ⟨fun l B hl => by
    show (if l = σ.nb + j then _ else _) = _
    rw [if_neg (fun e => by rw [e, hn] at hl; cases hl)]; exact hl, fun _ _ _ x => x, fun _ _ x => x, rfl⟩
  have ιcase : ∀ l B, G'.ι l = some B → (l = σ.nb + j ∧ B = w.heap.size) ∨ G.ι l = some B := fun l B hl => by
    simp only [G', Gh.addBox] at hl
    split at hl
    · rename_i e; simp only [Option.some.injEq] at hl; exact .inl ⟨e, hl.symm⟩
    · exact .inr hl
  have hsz : (w.alloc (.cells vs.toArray t)).heap.size = w.heap.size + 1 := by simp
  refine ⟨hle, ⟨h.bel.alloc h.bsz _, by rw [hsz]; have := h.bsz; omega, ?_, ?_, ?_, ?_, ?_, h.τlt, ?_, h.tdis, h.old⟩, ⟨w.heap.size, by simp [G', Gh.addBox], rfl⟩⟩
  · exact fun b o v hm => by
      have hm : G.mem b o = some v := hm
      rw [cell_alloc _ _ (a := ⟨b, o, none⟩) (h.memlt hm)]; exact h.mem _ _ _ hm
  · intro l B hl
    rw [hsz]
    rcases ιcase l B hl with ⟨e1, e2⟩ | hl
    · subst e1; subst e2
      exact ⟨by simp [Go.Pv.newBox, Tr.get_set], h.bsz, Nat.lt_succ_self _⟩
    · obtain ⟨h1, h2, h3⟩ := h.ιlt _ _ hl
      exact ⟨isSome_set _ _ _ _ h1, h2, by omega⟩
  · intro l l' B hl hl'
    rcases ιcase l B hl with ⟨e1, e2⟩ | hl <;> rcases ιcase l' B hl' with ⟨e3, e4⟩ | hl'
    · rw [e1, e3]
    · exact absurd (h.ιlt _ _ hl').2.2 (by rw [e2]; exact Nat.lt_irrefl _)
    · exact absurd (h.ιlt _ _ hl).2.2 (by rw [e4]; exact Nat.lt_irrefl _)
    · exact h.inj _ _ _ hl hl'
  · intro l B hl o
    rcases ιcase l B hl with ⟨e1, e2⟩ | hl
    · rw [e2]; exact h.fresh o
    · exact h.ιmem _ _ hl o
  · intro l cs' hl
    simp only [Go.Pv.newBox, Tr.get_set] at hl
    split at hl
    · rename_i e
      simp only [Option.some.injEq] at hl
      subst hl; subst e
      exact ⟨w.heap.size, vs, by simp [G', Gh.addBox], r.mono hle, fun j v hj => ⟨by rw [World.cell?_alloc_new]; simpa using hj, by simp⟩⟩
    · obtain ⟨B, us, h1, h2, h3⟩ := h.box _ _ hl
      have hB := (h.ιlt _ _ h1).2.2
      exact ⟨B, us, hle.ι _ _ h1, h2.mono hle, fun j v hj => by rw [cell_alloc _ _ (a := ⟨B, j, none⟩) hB, frozen_alloc _ _ (a := ⟨B, j, none⟩) hB]; exact h3 j v hj⟩
  · intro k sz hk hs
    obtain ⟨a, n, c, h1, h2, h3, h4, h5, h6, h7⟩ := h.tok k sz hk hs
    refine ⟨a, n, c, h1, h2, h3, by rw [hsz]; omega, h5, fun l hl => ?_, fun j h8 h9 => ?_⟩
    · rcases ιcase l _ hl with ⟨e1, e2⟩ | hl
      · omega
      · exact h6 l hl
    · rw [cell_alloc _ _ (a := ⟨a.block, a.off + j, none⟩) h4, frozen_alloc _ _ (a := ⟨a.block, a.off + j, none⟩) h4]; exact h7 j h8 h9

theorem put_get : ∀ (us : List AV) (cs : List AV) (o : Nat), o + us.length ≤ cs.length → ∀ j, (put cs o us)[j]? = if o ≤ j ∧ j < o + us.length then us[j - o]? else cs[j]?
  | [], cs, o, _, j => by
    simp only [put, List.length_nil]; rw [if_neg (by omega)]
  | u :: us, cs, o, h, j => by
    simp only [put]
    rw [put_get us (cs.set o u) (o + 1) (by simp at h ⊢; omega)]
    simp only [List.length_cons] at h ⊢
    by_cases h1 : j = o
    · subst h1
      rw [if_neg (by omega), if_pos (by omega), Nat.sub_self, List.getElem?_set_self (by omega)]; rfl
    · by_cases h2 : o + 1 ≤ j ∧ j < o + 1 + us.length
      · rw [if_pos h2, if_pos (by omega), show j - o = (j - (o + 1)) + 1 by omega]
        simp
      · rw [if_neg h2, if_neg (by omega), List.getElem?_set_ne (fun e => h1 e.symm)]

theorem put_length : ∀ (us : List AV) (cs : List AV) (o : Nat), (put cs o us).length = cs.length
  | [], cs, o => rfl
  | u :: us, cs, o => by simp [put, put_length us]

/-- The same of values. -/
def putV (cs : List Value) (o : Nat) (us : List Value) : List Value :=
  match us with
  | [] => cs
  | u :: r => putV (cs.set o u) (o + 1) r

theorem putV_get : ∀ (us : List Value) (cs : List Value) (o : Nat), o + us.length ≤ cs.length → ∀ j, (putV cs o us)[j]? = if o ≤ j ∧ j < o + us.length then us[j - o]? else cs[j]?
  | [], cs, o, _, j => by
    simp only [putV, List.length_nil]; rw [if_neg (by omega)]
  | u :: us, cs, o, h, j => by
    simp only [putV]
    rw [putV_get us (cs.set o u) (o + 1) (by simp at h ⊢; omega)]
    simp only [List.length_cons] at h ⊢
    by_cases h1 : j = o
    · subst h1
      rw [if_neg (by omega), if_pos (by omega), Nat.sub_self, List.getElem?_set_self (by omega)]; rfl
    · by_cases h2 : o + 1 ≤ j ∧ j < o + 1 + us.length
      · rw [if_pos h2, if_pos (by omega), show j - o = (j - (o + 1)) + 1 by omega]
        simp
      · rw [if_neg h2, if_neg (by omega), List.getElem?_set_ne (fun e => h1 e.symm)]

theorem repL.put {G : Gh} : ∀ {us : List AV} {us' : List Value} {cs : List AV} {vs : List Value} (o : Nat), repL G cs vs → repL G us us' → repL G (put cs o us) (putV vs o us')
  | [], _, _, _, _, r, s => by rw [repL_nil] at s; subst s; exact r
  | _ :: _, _, _, _, o, r, ⟨z, zs, e, s1, s2⟩ => by subst e; exact repL.put (o + 1) (r.set o s1) s2

theorem putV_length : ∀ (us : List Value) (cs : List Value) (o : Nat), (putV cs o us).length = cs.length
  | [], cs, o => rfl
  | u :: us, cs, o => by simp [putV, putV_length us]

/-- Cells of a block that is the call's own are written; what nobody writes stays. -/
theorem cell_setCells_else (w : World) (B o : Nat) (us : List Value) {a : Addr} (h : a.block ≠ B) : (w.setCells B o us).cell? a = w.cell? a :=
  World.cell?_setCells_out B us o w a fun e => absurd e h

theorem heap_setCells (B : Nat) : ∀ (vs : List Value) (o : Nat) (w : World) (k : Nat), k ≠ B → (w.setCells B o vs).heap[k]? = w.heap[k]?
  | [], _, _, _, _ => rfl
  | v :: r, o, w, k, h => by rw [World.setCells, heap_setCells B r _ _ _ h]; exact Below.heap_setCell _ _ _ _ h

theorem size_setCells (B : Nat) : ∀ (vs : List Value) (o : Nat) (w : World), (w.setCells B o vs).heap.size = w.heap.size
  | [], _, _ => rfl
  | v :: r, o, w => by rw [World.setCells, size_setCells B r]; simp

theorem below_setCells {A : World} (B : Nat) : ∀ (vs : List Value) (o : Nat) (w : World), Below base A w → base ≤ B → Below base A (w.setCells B o vs)
  | [], _, _, h, _ => h
  | v :: r, o, w, h, hb => by rw [World.setCells]; exact below_setCells B r _ _ (h.setCell (p := ⟨B, o, none⟩) hb v) hb

theorem Inv.store (h : Inv base w0 G σ w) {l B o : Nat} {cs us : List AV} {vs : List Value} (hl : Tr.get σ.h l = some cs) (hB : G.ι l = some B) (ho : o + us.length ≤ cs.length) (r : repL G us vs) :
    Inv base w0 G { σ with h := Tr.set σ.h l (put cs o us) } (w.setCells B o vs) ∧
    (∀ (j : Nat), j < vs.length → (w.cell? ⟨B, o + j, none⟩).isSome = true) ∧ (∀ (j : Nat), j < vs.length → w.frozen? ⟨B, o + j, none⟩ = false) := by
  obtain ⟨B', cv, h1, h2, h3⟩ := h.box _ _ hl
  have e : B' = B := by rw [hB] at h1; simpa using h1.symm
  subst e
  have hb := h.ιlt _ _ hB
  have hlen := r.length
  have hcl := h2.length
  have hin : ∀ (j : Nat), j < vs.length → ∃ v, cv[o + j]? = some v := fun j hj => ⟨cv[o + j]'(by omega), by simp⟩
  refine ⟨⟨below_setCells _ _ _ _ h.bel hb.2.1, by rw [size_setCells]; exact h.bsz, ?_, (fun l1 B1 h1 => by rw [size_setCells]; obtain ⟨q1, q2, q3⟩ := h.ιlt l1 B1 h1; exact ⟨isSome_set _ _ _ _ q1, q2, q3⟩), h.inj, h.ιmem, ?_, h.τlt, ?_, h.tdis, h.old⟩, ?_, ?_⟩
  · intro b o' v hm
    have hne : b ≠ B' := fun e => by rw [e, h.ιmem _ _ hB o'] at hm; cases hm
    rw [cell_setCells_else _ _ _ _ (a := ⟨b, o', none⟩) hne]; exact h.mem _ _ _ hm
  · intro l' cs' hl'
    simp only [Tr.get_set] at hl'
    split at hl'
    · rename_i e
      simp only [Option.some.injEq] at hl'
      subst hl'; subst e
      refine ⟨B', putV cv o vs, hB, h2.put o r, fun j v hj => ?_⟩
      rw [putV_get _ _ _ (by omega)] at hj
      rw [World.frozen?_setCells]
      split at hj
      · rename_i hr
        have hj2 : j - o < vs.length := by omega
        have := World.cell?_setCells_in B' vs o w (fun i hi => by obtain ⟨u, hu⟩ := hin i hi; rw [(h3 _ _ hu).1]; rfl) (j - o) hj2
        rw [show o + (j - o) = j by omega] at this
        rw [this]
        rw [List.getElem?_eq_getElem hj2] at hj
        obtain ⟨u, hu⟩ := hin (j - o) hj2
        rw [show o + (j - o) = j by omega] at hu
        exact ⟨hj, (h3 _ _ hu).2⟩
      · rename_i hr
        rw [World.cell?_setCells_out B' vs o w ⟨B', j, none⟩ (fun _ _ => by show j < o ∨ o + vs.length ≤ j; omega)]
        exact h3 j v hj
    · rename_i hne
      obtain ⟨B2, us2, g1, g2, g3⟩ := h.box _ _ hl'
      have hbb : B2 ≠ B' := fun e => hne (h.inj _ _ _ (e ▸ g1) hB)
      exact ⟨B2, us2, g1, g2, fun j v hj => by rw [cell_setCells_else _ _ _ _ (a := ⟨B2, j, none⟩) hbb, World.frozen?_setCells]; exact g3 j v hj⟩
  · intro k sz hk hs
    obtain ⟨a, n, c, g1, g2, g3, g4, g5, g6, g7⟩ := h.tok k sz hk hs
    refine ⟨a, n, c, g1, g2, g3, by rw [size_setCells]; exact g4, g5, g6, fun j g8 g9 => ?_⟩
    have hbb : a.block ≠ B' := fun e => g6 l (e ▸ hB)
    rw [cell_setCells_else _ _ _ _ (a := ⟨a.block, a.off + j, none⟩) hbb, World.frozen?_setCells]; exact g7 j g8 g9
  · intro j hj
    obtain ⟨u, hu⟩ := hin j hj
    rw [(h3 _ _ hu).1]; rfl
  · intro j hj
    obtain ⟨u, hu⟩ := hin j hj
    exact (h3 _ _ hu).2

def Gh.addRow (G : Gh) (b : Nat) (vs : List Value) (k : Nat) (x : Addr × Nat × Nat) : Gh :=
  { ι := G.ι, mem := fun b' o => if b' = b ∧ o < vs.length then vs[o]? else G.mem b' o, τ := fun k' => if k' = k then some x else G.τ k', old := G.old }

/-- A row that is made: its first cells are never written again; what is behind is the token's. -/
theorem tok_none {σ : St} {j : Nat} (h : tokFree j σ = true) : Tr.get σ.tk (σ.nb + j + 2) = none := by
  unfold tokFree at h
  split at h
  · assumption
  · simp at h

theorem Inv.newRow (h : Inv base w0 G σ w) {j : Nat} (hfree : tokFree j σ = true) {vs rest : List Value} {t : TypeId} {n c sz : Nat} (hsz : sz ≠ 0) (hn : vs.length = n * sz) (hc : vs.length + rest.length = c * sz) (hnc : n ≤ c) :
    let k := σ.nb + j + 2
    let G' := G.addRow w.heap.size vs k (⟨w.heap.size, 0, none⟩, n, c)
    G.le G' ∧ Inv base w0 G' (newTok j sz σ).2 (w.alloc (.cells (vs ++ rest).toArray t)) ∧ memAt G' w.heap.size 0 vs ∧ G'.τ k = some (⟨w.heap.size, 0, none⟩, n, c) := by
  intro k G'
  have hτ : G.τ k = none := by
    cases hq : G.τ k with
    | none => rfl
    | some x => have := h.τlt _ _ hq; rw [tok_none hfree] at this; simp at this
  have hle : G.le G' := by
    refine ⟨fun _ _ x => x, fun b o v hm => ?_, fun k' x hk => ?_, rfl⟩
    · show (if b = _ ∧ _ then _ else _) = _
      rw [if_neg (fun e => by rw [e.1, h.fresh] at hm; cases hm)]; exact hm
    · show (if k' = k then _ else _) = _
      rw [if_neg (fun e => by rw [e, hτ] at hk; cases hk)]; exact hk
  have memcase : ∀ b o v, G'.mem b o = some v → (b = w.heap.size ∧ vs[o]? = some v) ∨ (b ≠ w.heap.size ∧ G.mem b o = some v) := fun b o v hm => by
    simp only [G', Gh.addRow] at hm
    split at hm
    · rename_i e; exact .inl ⟨e.1, hm⟩
    · rename_i e; exact .inr ⟨(fun e => by (rw [e, h.fresh] at hm; cases hm)), hm⟩
  have hlt : ∀ k' sz', Tr.get σ.tk k' = some sz' → k' ≠ k := fun k' sz' hk e => by rw [e, tok_none hfree] at hk; cases hk
  have hsize : (w.alloc (.cells (vs ++ rest).toArray t)).heap.size = w.heap.size + 1 := by simp
  refine ⟨hle, ⟨h.bel.alloc h.bsz _, by rw [hsize]; have := h.bsz; omega, ?_, ?_, h.inj, ?_, ?_, ?_, ?_, ?_, fun b o hb => (by
    show (if b = _ ∧ _ then _ else _) = _
    rw [if_neg (fun e => by have := h.bsz; omega)]; exact h.old b o hb)⟩, ?_, ?_⟩
  · intro b o v hm
    rcases memcase b o v hm with ⟨e, hv⟩ | ⟨e, hm⟩
    · subst e
      rw [World.cell?_alloc_new]
      have hlt : o < vs.length := by
        rcases Nat.lt_or_ge o vs.length with h' | h'
        · exact h'
        · simp [List.getElem?_eq_none h'] at hv
      simp [List.getElem?_append_left hlt, hv]
    · rw [cell_alloc _ _ (h.memlt hm)]; exact h.mem _ _ _ hm
  · intro l B hl
    obtain ⟨h1, h2, h3⟩ := h.ιlt _ _ hl
    exact ⟨h1, h2, by rw [hsize]; omega⟩
  · intro l B hl o
    have hB := (h.ιlt _ _ hl).2.2
    show (if B = _ ∧ _ then _ else _) = _
    rw [if_neg (fun e => by omega)]; exact h.ιmem _ _ hl o
  · intro l cs hl
    obtain ⟨B, us, h1, h2, h3⟩ := h.box _ _ hl
    have hB := (h.ιlt _ _ h1).2.2
    exact ⟨B, us, h1, h2.mono hle, fun j v hj => by rw [cell_alloc _ _ (a := ⟨B, j, none⟩) hB, frozen_alloc _ _ (a := ⟨B, j, none⟩) hB]; exact h3 j v hj⟩
  · intro k' x hk
    simp only [G', Gh.addRow] at hk
    split at hk
    · rename_i e; subst e; simp [newTok, Tr.get_set, k]
    · simp only [newTok]; exact isSome_set _ _ _ _ (h.τlt _ _ hk)
  · intro k' sz' hk hs
    simp only [newTok, Tr.get_set] at hk
    split at hk
    · rename_i e
      simp only [Option.some.injEq] at hk
      subst hk; subst e
      refine ⟨⟨w.heap.size, 0, none⟩, n, c, by simp [G', Gh.addRow, k], rfl, h.bsz, by rw [hsize]; exact Nat.lt_succ_self _, hnc, fun l hl => ?_, fun j h8 h9 => ⟨?_, ?_, by simp⟩⟩
      · exact absurd (h.ιlt _ _ hl).2.2 (Nat.lt_irrefl _)
      · show (if _ ∧ _ then _ else _) = _
        rw [if_neg (by simp only [Nat.zero_add]; omega)]; exact h.fresh _
      · rw [World.cell?_alloc_new]
        exact ⟨(vs ++ rest)[0 + j]'(by simp; omega), by simp⟩
    · rename_i hne
      obtain ⟨a, n', c', g1, g2, g3, g4, g5, g6, g7⟩ := h.tok k' sz' hk hs
      refine ⟨a, n', c', hle.τ _ _ g1, g2, g3, by rw [hsize]; omega, g5, g6, fun j g8 g9 => ?_⟩
      rw [cell_alloc _ _ (a := ⟨a.block, a.off + j, none⟩) g4, frozen_alloc _ _ (a := ⟨a.block, a.off + j, none⟩) g4]
      refine ⟨?_, (g7 j g8 g9).2⟩
      show (if _ ∧ _ then _ else _) = _
      rw [if_neg (fun e => by omega)]; exact (g7 j g8 g9).1
  · intro k1 k2 s1 s2 a1 n1 c1 a2 n2 c2 hk1 hs1 hk2 hs2 ht1 ht2 hb
    simp only [newTok, Tr.get_set] at hk1 hk2
    simp only [G', Gh.addRow] at ht1 ht2
    by_cases e1 : k1 = σ.nb + j + 2 <;> by_cases e2 : k2 = σ.nb + j + 2
    · rw [e1, e2]
    · rw [if_neg e2] at hk2
      rw [if_pos (show k1 = k from e1)] at ht1
      rw [if_neg (show ¬ k2 = k from e2)] at ht2
      obtain ⟨a, n', c', g1, g2, g3, g4, _⟩ := h.tok _ _ hk2 hs2
      rw [g1] at ht2
      simp only [Option.some.injEq, Prod.mk.injEq] at ht1 ht2
      obtain ⟨q1, _⟩ := ht1
      obtain ⟨q2, _⟩ := ht2
      rw [← q1, ← q2] at hb
      simp only at hb
      omega
    · rw [if_neg e1] at hk1
      rw [if_pos (show k2 = k from e2)] at ht2
      rw [if_neg (show ¬ k1 = k from e1)] at ht1
      obtain ⟨a, n', c', g1, g2, g3, g4, _⟩ := h.tok _ _ hk1 hs1
      rw [g1] at ht1
      simp only [Option.some.injEq, Prod.mk.injEq] at ht1 ht2
      obtain ⟨q1, _⟩ := ht1
      obtain ⟨q2, _⟩ := ht2
      rw [← q1, ← q2] at hb
      simp only at hb
      omega
    · rw [if_neg e1] at hk1
      rw [if_neg e2] at hk2
      rw [if_neg (show ¬ k1 = k from e1)] at ht1
      rw [if_neg (show ¬ k2 = k from e2)] at ht2
      exact h.tdis _ _ _ _ _ _ _ _ _ _ hk1 hs1 hk2 hs2 ht1 ht2 hb
  · intro j v hj
    have hlt : j < vs.length := by
      rcases Nat.lt_or_ge j vs.length with h' | h'
      · exact h'
      · simp [List.getElem?_eq_none h'] at hj
    show (if _ ∧ _ then _ else _) = _
    rw [Nat.zero_add, if_pos ⟨rfl, hlt⟩]; exact hj
  · simp [G', Gh.addRow]

def Gh.addSpare (G : Gh) (b lo : Nat) (vs : List Value) (k : Nat) (x : Addr × Nat × Nat) : Gh :=
  { ι := G.ι, mem := fun b' o => if b' = b ∧ lo ≤ o ∧ o < lo + vs.length then vs[o - lo]? else G.mem b' o, τ := fun k' => if k' = k then some x else G.τ k', old := G.old }

/-- An append in place: the token's cells are written. -/
theorem Inv.grow (h : Inv base w0 G σ w) {j : Nat} (hfree : tokFree j σ = true) {k sz n c m : Nat} {a : Addr} {vs : List Value} (hk : Tr.get σ.tk k = some sz) (hs : sz ≠ 0) (hτ : G.τ k = some (a, n, c)) (hm : vs.length = m * sz) (hroom : n + m ≤ c) :
    let k' := σ.nb + j + 2
    let G' := G.addSpare a.block (a.off + n * sz) vs k' (a, n + m, c)
    G.le G' ∧ Inv base w0 G' (newTok j sz { σ with tk := Tr.set σ.tk k 0 }).2 (w.setCells a.block (a.off + n * sz) vs) ∧ memAt G' a.block (a.off + n * sz) vs ∧ G'.τ k' = some (a, n + m, c) ∧
    (∀ (j : Nat), j < vs.length → (w.cell? ⟨a.block, a.off + n * sz + j, none⟩).isSome = true) ∧ (∀ (j : Nat), j < vs.length → w.frozen? ⟨a.block, a.off + n * sz + j, none⟩ = false) := by
  intro k' G'
  obtain ⟨a', n', c', g1, g2, g3, g4, g5, g6, g7⟩ := h.tok k sz hk hs
  rw [hτ] at g1
  simp only [Option.some.injEq, Prod.mk.injEq] at g1
  obtain ⟨rfl, rfl, rfl⟩ := g1
  have hmul : (n + m) * sz = n * sz + m * sz := Nat.add_mul _ _ _
  have hle2 : (n + m) * sz ≤ c * sz := Nat.mul_le_mul_right _ hroom
  have hsp : ∀ j, j < vs.length → G.mem a.block (a.off + n * sz + j) = none ∧ (∃ v, w.cell? ⟨a.block, a.off + n * sz + j, none⟩ = some v) ∧ w.frozen? ⟨a.block, a.off + n * sz + j, none⟩ = false := fun j hj => by
    have := g7 (n * sz + j) (by omega) (by omega)
    rwa [← Nat.add_assoc] at this
  have hτn : G.τ k' = none := by
    cases hq : G.τ k' with
    | none => rfl
    | some x => have := h.τlt _ _ hq; rw [tok_none hfree] at this; simp at this
  have hle : G.le G' := by
    refine ⟨fun _ _ x => x, fun b o v hm' => ?_, fun k1 x hk1 => ?_, rfl⟩
    · show (if b = _ ∧ _ then _ else _) = _
      rw [if_neg (fun e => by
        have := (hsp (o - (a.off + n * sz)) (by omega)).1
        rw [show a.off + n * sz + (o - (a.off + n * sz)) = o by omega, ← e.1, hm'] at this
        cases this)]; exact hm'
    · show (if k1 = k' then _ else _) = _
      rw [if_neg (fun e => by rw [e, hτn] at hk1; cases hk1)]; exact hk1
  have hkk : k ≠ k' := fun e => by rw [e, tok_none hfree] at hk; cases hk
  have hget : ∀ k1 s1, Tr.get (newTok j sz { σ with tk := Tr.set σ.tk k 0 }).2.tk k1 = some s1 → s1 ≠ 0 → (k1 = k' ∧ s1 = sz) ∨ (k1 ≠ k' ∧ k1 ≠ k ∧ Tr.get σ.tk k1 = some s1) := fun k1 s1 h1 h2 => by
    simp only [newTok, Tr.get_set] at h1
    split at h1
    · rename_i e; simp only [Option.some.injEq] at h1; exact .inl ⟨e, h1.symm⟩
    · rename_i e
      split at h1
      · simp only [Option.some.injEq] at h1; omega
      · rename_i e2; exact .inr ⟨e, e2, h1⟩
  refine ⟨hle, ⟨below_setCells _ _ _ _ h.bel g3, by rw [size_setCells]; exact h.bsz, ?_, by rw [size_setCells]; exact h.ιlt, h.inj, ?_, ?_, ?_, ?_, ?_, fun b o hb => (by
    show (if b = a.block ∧ _ then _ else _) = _
    rw [if_neg (fun e => by omega)]; exact h.old b o hb)⟩, ?_, ?_, fun j hj => ?_, fun j hj => (hsp j hj).2.2⟩
  · intro b o v hm'
    simp only [G', Gh.addSpare] at hm'
    split at hm'
    · rename_i e
      have hj : o - (a.off + n * sz) < vs.length := by omega
      have := World.cell?_setCells_in a.block vs (a.off + n * sz) w (fun i hi => by obtain ⟨u, hu⟩ := (hsp i hi).2.1; rw [hu]; rfl) _ hj
      rw [show a.off + n * sz + (o - (a.off + n * sz)) = o by omega] at this
      rw [e.1, this]
      rw [List.getElem?_eq_getElem hj] at hm'
      exact hm'
    · rename_i e
      rw [World.cell?_setCells_out a.block vs _ w ⟨b, o, none⟩ (fun e1 _ => by
        show o < _ ∨ _ ≤ o
        have e1 : b = a.block := e1
        rcases Nat.lt_or_ge o (a.off + n * sz) with h1 | h1
        · exact .inl h1
        · rcases Nat.lt_or_ge o (a.off + n * sz + vs.length) with h2 | h2
          · exact absurd ⟨e1, h1, h2⟩ e
          · exact .inr h2)]
      exact h.mem _ _ _ hm'
  · intro l B hl o
    show (if B = a.block ∧ _ then _ else _) = _
    rw [if_neg (fun (e : B = a.block ∧ _) => g6 l (e.1 ▸ hl))]; exact h.ιmem _ _ hl o
  · intro l cs hl
    obtain ⟨B, us, h1, h2, h3⟩ := h.box _ _ hl
    have hbb : B ≠ a.block := fun e => g6 l (e ▸ h1)
    exact ⟨B, us, h1, h2.mono hle, fun j v hj => by rw [cell_setCells_else _ _ _ _ (a := ⟨B, j, none⟩) hbb, World.frozen?_setCells]; exact h3 j v hj⟩
  · intro k1 x hk1
    simp only [G', Gh.addSpare] at hk1
    split at hk1
    · rename_i e; subst e; simp [newTok, Tr.get_set, k']
    · simp only [newTok]; exact isSome_set _ _ _ _ (isSome_set _ _ _ _ (h.τlt _ _ hk1))
  · intro k1 s1 hk1 hs1
    rcases hget k1 s1 hk1 hs1 with ⟨e1, e2⟩ | ⟨e1, e3, hk1'⟩
    · subst e1; subst e2
      refine ⟨a, n + m, c, by simp [G', Gh.addSpare], g2, g3, by rw [size_setCells]; exact g4, hroom, g6, fun j h8 h9 => ?_⟩
      have h10 := g7 j (by omega) h9
      refine ⟨?_, ?_, by rw [World.frozen?_setCells]; exact h10.2.2⟩
      · show (if _ ∧ _ then _ else _) = _
        rw [if_neg (by omega)]; exact h10.1
      · rw [World.cell?_setCells_out a.block vs _ w ⟨a.block, a.off + j, none⟩ (fun _ _ => by show a.off + j < _ ∨ _ ≤ a.off + j; omega)]
        exact h10.2.1
    · obtain ⟨a1, n1, c1, q1, q2, q3, q4, q5, q6, q7⟩ := h.tok k1 s1 hk1' hs1
      have hbb : a1.block ≠ a.block := fun e => e3 (h.tdis _ _ _ _ _ _ _ _ _ _ hk1' hs1 hk hs q1 hτ e)
      refine ⟨a1, n1, c1, hle.τ _ _ q1, q2, q3, by rw [size_setCells]; exact q4, q5, q6, fun j h8 h9 => ?_⟩
      rw [cell_setCells_else _ _ _ _ (a := ⟨a1.block, a1.off + j, none⟩) hbb, World.frozen?_setCells]
      refine ⟨?_, (q7 j h8 h9).2⟩
      show (if _ ∧ _ then _ else _) = _
      rw [if_neg (fun e => hbb e.1)]; exact (q7 j h8 h9).1
  · intro k1 k2 s1 s2 a1 n1 c1 a2 n2 c2 hk1 hs1 hk2 hs2 ht1 ht2 hb
    simp only [G', Gh.addSpare] at ht1 ht2
    rcases hget k1 s1 hk1 hs1 with ⟨e1, e2⟩ | ⟨e1, e3, hk1'⟩ <;> rcases hget k2 s2 hk2 hs2 with ⟨f1, f2⟩ | ⟨f1, f3, hk2'⟩
    · rw [e1, f1]
    · rw [if_pos e1] at ht1
      rw [if_neg f1] at ht2
      simp only [Option.some.injEq, Prod.mk.injEq] at ht1
      exact absurd (h.tdis _ _ _ _ _ _ _ _ _ _ hk2' hs2 hk hs ht2 hτ (by rw [← hb, ← ht1.1])) f3
    · rw [if_pos f1] at ht2
      rw [if_neg e1] at ht1
      simp only [Option.some.injEq, Prod.mk.injEq] at ht2
      exact absurd (h.tdis _ _ _ _ _ _ _ _ _ _ hk1' hs1 hk hs ht1 hτ (by rw [hb, ← ht2.1])) e3
    · rw [if_neg e1] at ht1
      rw [if_neg f1] at ht2
      exact h.tdis _ _ _ _ _ _ _ _ _ _ hk1' hs1 hk2' hs2 ht1 ht2 hb
  · intro j v hj
    have hlt : j < vs.length := by
      rcases Nat.lt_or_ge j vs.length with h' | h'
      · exact h'
      · simp [List.getElem?_eq_none h'] at hj
    show (if _ ∧ _ then _ else _) = _
    rw [if_pos ⟨rfl, by omega, by omega⟩, show a.off + n * sz + j - (a.off + n * sz) = j by omega]; exact hj
  · simp [G', Gh.addSpare]
  · obtain ⟨u, hu⟩ := (hsp j hj).2.1
    rw [hu]; rfl

/-- A token that is spent. -/
theorem Inv.spend (h : Inv base w0 G σ w) (k : Nat) {sz : Nat} (hk : Tr.get σ.tk k = some sz) : Inv base w0 G { σ with tk := Tr.set σ.tk k 0 } w := by
  have hget : ∀ k1 s1, Tr.get (Tr.set σ.tk k 0) k1 = some s1 → s1 ≠ 0 → Tr.get σ.tk k1 = some s1 := fun k1 s1 h1 h2 => by
    rw [Tr.get_set] at h1
    split at h1
    · simp only [Option.some.injEq] at h1; omega
    · exact h1
  refine ⟨h.bel, h.bsz, h.mem, h.ιlt, h.inj, h.ιmem, h.box, fun k1 x h1 => isSome_set _ _ _ _ (h.τlt k1 x h1), fun k1 s1 h1 h2 => h.tok k1 s1 (hget _ _ h1 h2) h2, fun k1 k2 s1 s2 a n c a' n' c' h1 h2 h3 h4 => h.tdis k1 k2 s1 s2 a n c a' n' c' (hget _ _ h1 h2) h2 (hget _ _ h3 h4) h4, h.old⟩
end
end Go.Pv
