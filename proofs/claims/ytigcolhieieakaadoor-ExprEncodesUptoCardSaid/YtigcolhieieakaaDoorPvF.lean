/- The evaluator's operations that make memory answer as the machine's. -/
import Derived.Test.YtigcolhieieakaaDoorPvE
namespace Go.Pv
open Go Go.RowKit
set_option linter.unusedVariables false
set_option linter.unusedSimpArgs false

section
variable {P : Program} {T : Tab} {w : World} {G : Gh} {base : Nat} {w0 : World} {σ : St}

/-- An operation that ends in a value, in a world that goes on. -/
def Makes (P : Program) (base : Nat) (w0 w : World) (G : Gh) (s : Sem Value) (x : AV) (σ' : St) : Prop :=
  ∃ v w' G', s.run P w = .ok v w' ∧ G.le G' ∧ Inv base w0 G' σ' w' ∧ rep G' x v

theorem Yields.makes {s : Sem Value} {x : AV} (h : Yields P w G s x) (hi : Inv base w0 G σ w) : Makes P base w0 w G s x σ := by
  obtain ⟨v, h1, h2⟩ := h
  exact ⟨v, w, G, h1, .refl G, hi, h2⟩

theorem field_get {l : Array Field} {fs : List (Nat × TypeId)} (h : l.toList.map (fun f => (f.offset, f.type)) = fs) {j : Nat} {f : Nat × TypeId} (hf : fs[j]? = some f) : ∃ fld, l[j]? = some fld ∧ fld.offset = f.1 ∧ fld.type = f.2 := by
  subst h
  rw [List.getElem?_map] at hf
  cases hq : l[j]? with
  | none => simp [hq] at hf
  | some fld => simp [hq] at hf; exact ⟨fld, rfl, by rw [← hf], by rw [← hf]⟩

theorem fieldAddrV_sound (ok : TabOk P T) {t : TypeId} {x r : AV} {v : Value} {j : Nat} (h : fieldAddrV T t x j = some r) (rx : rep G x v) : Yields P w G (Instr.fieldAt t v j) r := by
  unfold fieldAddrV at h
  split at h
  · rename_i fs hu
    obtain ⟨td, h0, u0, h1⟩ := run_und ok hu
    obtain ⟨l, rfl, hl⟩ := TD.struct_inv h0
    split at h
    · rename_i f hf
      obtain ⟨fld, hfl, e1, e2⟩ := field_get hl hf
      split at h
      · rename_i ti hti
        obtain ⟨_, _, _, _, _, hS, _⟩ := run_inf ok hti
        rw [← e2] at hS
        split at h
        · simp at h
        · rename_i hz
          split at h
          · rename_i l' o
            obtain ⟨B, hB, rfl⟩ := rx
            simp only [Option.some.injEq] at h; subst h
            exact ⟨.pointer (some ⟨B, o + f.1, none⟩), by simp [Instr.fieldAt, h1, hfl, Instr.sureAddr, fieldPlace, hS, hz, add_plain, e1], B, hB, rfl⟩
          · rename_i cs
            obtain ⟨b, o, L, rfl, h2, h3⟩ := rx
            simp only [Option.some.injEq] at h; subst h
            refine ⟨.pointer (some ⟨b, o + f.1, none⟩), by simp [Instr.fieldAt, h1, hfl, Instr.sureAddr, fieldPlace, hS, hz, add_plain, e1], b, _, L.drop f.1, rfl, h2.drop _, fun i u hi => ?_⟩
            rw [List.getElem?_drop] at hi
            have := h3 _ _ hi
            rwa [← Nat.add_assoc] at this
          · simp at h
      · simp at h
    · simp at h
  · simp at h

theorem fieldV_sound (ok : TabOk P T) {t : TypeId} {x r : AV} {v : Value} {j : Nat} (h : fieldV T t x j = some r) (rx : rep G x v) : Yields P w G (Instr.field t v j) r := by
  unfold fieldV at h
  split at h
  · rename_i fs cs hu
    obtain ⟨td, h0, u0, h1⟩ := run_und ok hu
    obtain ⟨l, rfl, hl⟩ := TD.struct_inv h0
    obtain ⟨L, rfl, rl⟩ := rx
    split at h
    · rename_i f hf
      obtain ⟨fld, hfl, e1, e2⟩ := field_get hl hf
      rw [← e1, ← e2] at h
      obtain ⟨y, hy, ry⟩ := partV_sound (P := P) (w := w) ok h rl
      exact ⟨y, by simp [Instr.field, h1, hfl, asAgg, hy], ry⟩
    · simp at h
  · simp at h

theorem run_list_mapM {α β : Type} (f : α → Sem β) (g : α → β) : ∀ (l : List α), (∀ x ∈ l, (f x).run P w = .ok (g x) w) → (l.mapM f).run P w = .ok (l.map g) w
  | [], _ => by simp
  | x :: l, h => by
    have ih := run_list_mapM f g l fun y hy => h y (List.mem_cons_of_mem _ hy)
    simp [List.mapM_cons, h x List.mem_cons_self, ih]

theorem run_array_mapM {α β : Type} (f : α → Sem β) (g : α → β) (l : Array α) (h : ∀ x ∈ l.toList, (f x).run P w = .ok (g x) w) : (l.mapM f).run P w = .ok (l.map g) w := by
  rw [Array.mapM_eq_mapM_toList]
  simp only [Sem.run_map, run_list_mapM f g l.toList h, Result.andThen_ok]
  congr 1
  apply Array.ext'
  simp

theorem foldl_putV (off : Nat) : ∀ (l : List Value) (k : Nat) (cells : Array Value), ((l.zipIdx k).foldl (fun (cs : Array Value) (x : Value × Nat) => cs.setIfInBounds (off + x.2) x.1) cells).toList = putV cells.toList (off + k) l
  | [], k, cells => rfl
  | v :: l, k, cells => by
    rw [List.zipIdx_cons, List.foldl_cons, foldl_putV off l (k + 1)]
    simp only [putV, Array.toList_setIfInBounds]
    rfl

def repP (G : Gh) : List (Nat × AV) → List (Nat × Value) → Prop
  | [], l => l = []
  | (i, x) :: r, l => ∃ y s, l = (i, y) :: s ∧ rep G x y ∧ repP G r s

theorem parts_rep {N : Nat} {ρ : Nat → AV} {a : Act} (h : FR N G ρ a) : ∀ {xs : List (Nat × Operand)} {vs : List (Nat × AV)}, parts ρ xs = some vs → repP G vs (xs.map fun x => (x.1, a.eval x.2))
  | [], vs, hv => by simp [parts] at hv; subst hv; rfl
  | (i, x) :: xs, vs, hv => by
    simp only [parts] at hv
    split at hv
    · rename_i v hx
      split at hv
      · rename_i us hu
        simp only [Option.some.injEq] at hv; subst hv
        exact ⟨_, _, rfl, opd_rep h hx, parts_rep h hu⟩
      · simp at hv
    · simp at hv

theorem fill_sound {place place' : Nat → Option (Nat × Nat)} (hp : ∀ i x, place i = some x → place' i = some x) : ∀ {ps : List (Nat × AV)} {vs : List (Nat × Value)} {cells r : List AV} {cv : Array Value},
    fillV place cells ps = some r → repP G ps vs → repL G cells cv.toList → ∃ rv, Instr.fill place' cv vs = some rv ∧ repL G r rv.toList
  | [], vs, cells, r, cv, h, rp, rc => by
    simp only [repP] at rp; subst rp
    simp only [fillV, Option.some.injEq] at h; subst h
    exact ⟨cv, rfl, rc⟩
  | (i, x) :: ps, vs, cells, r, cv, h, rp, rc => by
    obtain ⟨y, s, rfl, ry, rs⟩ := rp
    simp only [fillV] at h
    split at h
    · simp at h
    · rename_i off size hpl
      split at h
      · rename_i hc
        have hcell := ry.cells
        have hlen := rc.length
        have hsz := ry.cells_size
        have : ∃ cv' : Array Value, (y.cells.zipIdx.foldl (fun cs (c, j) => cs.setIfInBounds (off + j) c) cv) = cv' ∧ cv'.toList = putV cv.toList off y.cells.toList := by
          refine ⟨_, rfl, ?_⟩
          rw [← Array.foldl_toList, Array.toList_zipIdx]
          exact foldl_putV off y.cells.toList 0 cv
        obtain ⟨cv', e1, e2⟩ := this
        obtain ⟨rv, h1, h2⟩ := fill_sound hp (cv := cv') h rs (by rw [e2]; exact rc.put off hcell)
        refine ⟨rv, ?_, h2⟩
        simp only [Instr.fill, hp _ _ hpl]
        have hl2 : cv.size = cells.length := by simpa using hlen
        rw [if_neg (by simp only [hsz, hl2]; simp; omega), e1]
        exact h1
      · simp at h

theorem places_sound (ok : TabOk P T) : ∀ {fs : List Field} {pl : List (Nat × Nat)}, places T (fs.map fun f => (f.offset, f.type)) = some pl → ∃ g : Field → Nat × Nat, (∀ f ∈ fs, (do Pure.pure (f.offset, ← sizeOf f.type) : Sem (Nat × Nat)).run P w = .ok (g f) w) ∧ pl = fs.map g ∧ ∀ f, g f = (f.offset, P.cellsOf f.type)
  | [], pl, h => by simp [places] at h; exact ⟨fun f => (f.offset, P.cellsOf f.type), by simp, by simp [h], fun _ => rfl⟩
  | f :: fs, pl, h => by
    simp only [List.map_cons, places] at h
    split at h
    · rename_i ti hti
      split at h
      · rename_i r hr
        simp only [Option.some.injEq] at h; subst h
        obtain ⟨tinfo, q1, q2, _, _, hS, _⟩ := run_inf ok hti
        obtain ⟨g, g1, g2, g3⟩ := places_sound ok hr
        have hc : P.cellsOf f.type = ti.size := by simp [Program.cellsOf, q1, q2]
        refine ⟨g, fun x hx => ?_, by rw [List.map_cons, g3, hc, g2], g3⟩
        rcases List.mem_cons.1 hx with rfl | hx
        · simp [hS, g3, hc]
        · exact g1 x hx
      · simp at h
    · simp at h

theorem buildV_sound (ok : TabOk P T) {t : TypeId} {ps : List (Nat × AV)} {vs : List (Nat × Value)} {r : AV} (h : buildV T t ps = some r) (rp : repP G ps vs) : Yields P w G (Instr.build t vs.toArray) r := by
  unfold buildV at h
  split at h
  · rename_i fs ti hu hti
    obtain ⟨td, h0, u0, h1⟩ := run_und ok hu
    obtain ⟨l, rfl, hl⟩ := TD.struct_inv h0
    obtain ⟨_, _, _, _, _, _, z, _, hz, rz⟩ := run_inf ok hti
    split at h
    · rename_i pl hpl
      split at h
      · rename_i cs hcs
        simp only [Option.some.injEq] at h; subst h
        rw [← hl] at hpl
        obtain ⟨g, g1, g2, _⟩ := places_sound (w := w) ok hpl
        have hm := run_array_mapM (P := P) (w := w) (fun f : Field => (do Pure.pure (f.offset, ← sizeOf f.type) : Sem (Nat × Nat))) g l g1
        obtain ⟨rv, f1, f2⟩ := fill_sound (place' := fun i => (l.map g)[i]?) (fun i x hx => by rw [g2] at hx; simpa using hx) hcs rp (rz G)
        refine ⟨.agg rv, ?_, rv, rfl, f2⟩
        simp only [Instr.build, Sem.run_bind, hz, Result.andThen_ok, h1, hm, f1]
        rfl
      · simp at h
    · simp at h
  · rename_i n e ti hu hti
    obtain ⟨td, h0, u0, h1⟩ := run_und ok hu
    have := TD.array_inv h0; subst this
    obtain ⟨_, _, _, _, _, _, z, _, hz, rz⟩ := run_inf ok hti
    split at h
    · rename_i te hte
      obtain ⟨_, _, _, _, _, hS, _⟩ := run_inf ok hte
      split at h
      · rename_i cs hcs
        simp only [Option.some.injEq] at h; subst h
        obtain ⟨rv, f1, f2⟩ := fill_sound (place' := fun i => some (i * te.size, te.size)) (fun i x hx => hx) hcs rp (rz G)
        refine ⟨.agg rv, ?_, rv, rfl, f2⟩
        simp only [Instr.build, Sem.run_bind, hz, Result.andThen_ok, h1, hS, f1]
        rfl
      · simp at h
    · simp at h
  · simp at h

theorem flat_cell {x : AV} {xs : List AV} {v : Value} (h : flat (x :: xs) = true) (r : rep G x v) : v.cells = #[v] ∧ flat xs = true := by
  cases x <;> simp only [flat, Bool.false_eq_true] at h <;> refine ⟨?_, h⟩ <;> simp only [rep] at r
  all_goals first
    | (subst r; rfl)
    | (obtain ⟨_, _, e⟩ := r; subst e; rfl)
    | (obtain ⟨_, e, _⟩ := r; subst e; rfl)
    | (obtain ⟨_, _, _, e, _⟩ := r; subst e; rfl)

theorem flat_drop : ∀ (n : Nat) {xs : List AV}, flat xs = true → flat (xs.drop n) = true
  | 0, _, h => h
  | n + 1, [], _ => by simp [flat]
  | n + 1, x :: xs, h => by
    rw [List.drop_succ_cons]
    refine flat_drop n ?_
    cases x <;> simp [flat] at h <;> exact h

theorem chunk_sound {ag : Bool} {sz : Nat} (hag : ag = true ∨ sz = 1) : ∀ (n : Nat) {cs : List AV} {cv : List Value}, repL G cs cv → cs.length = n * sz → flat cs = true →
    ∃ vs, repL G (chunk ag sz n cs) vs ∧ cellsOf vs = cv ∧ (∀ v ∈ vs, v.cells.size = sz) ∧ vs.length = n
  | 0, cs, cv, r, hl, _ => by
    have := r.length
    rw [hl, Nat.zero_mul] at this
    have e : cv = [] := by simpa using this
    exact ⟨[], by simp [chunk, repL], by simp [cellsOf, e], by simp, rfl⟩
  | n + 1, cs, cv, r, hl, hf => by
    have hcl := r.length
    have hm : (n + 1) * sz = sz + n * sz := by rw [Nat.succ_mul]; omega
    obtain ⟨vs, h1, h2, h3, h4⟩ := chunk_sound hag n (r.drop sz) (by rw [List.length_drop, hl, hm]; omega) (flat_drop sz hf)
    cases ag with
    | true =>
      have ht := r.take sz
      refine ⟨.agg (cv.take sz).toArray :: vs, ?_, ?_, ?_, by simp [h4]⟩
      · exact repL_cons.2 ⟨⟨_, rfl, by simpa using ht⟩, h1⟩
      · rw [cellsOf_cons, h2]; simp [Value.cells]
      · intro v hv
        rcases List.mem_cons.1 hv with rfl | hv
        · simp [Value.cells]; omega
        · exact h3 v hv
    | false =>
      have hsz : sz = 1 := hag.resolve_left (by simp)
      subst hsz
      cases cs with
      | nil => simp at hl
      | cons x xs =>
        obtain ⟨y, ys, rfl, r1, r2⟩ := r
        obtain ⟨c1, c2⟩ := flat_cell hf r1
        refine ⟨y :: vs, ?_, ?_, ?_, by simp [h4]⟩
        · exact repL_cons.2 ⟨r1, h1⟩
        · rw [cellsOf_cons, h2, c1]; simp
        · intro v hv
          rcases List.mem_cons.1 hv with rfl | hv
          · rw [c1]; rfl
          · exact h3 v hv

theorem repeatCells_length (z : List AV) : ∀ n, (repeatCells z n).length = n * z.length
  | 0 => by simp [repeatCells]
  | n + 1 => by rw [repeatCells, List.length_append, repeatCells_length z n, Nat.succ_mul]; omega

theorem repeatCells_get (z : List AV) : ∀ (n i : Nat), i < n * z.length → (repeatCells z n)[i]? = z[i % z.length]?
  | 0, i, h => by simp at h
  | n + 1, i, h => by
    rw [repeatCells]
    rcases Nat.lt_or_ge i z.length with h' | h'
    · rw [List.getElem?_append_left h', Nat.mod_eq_of_lt h']
    · rw [List.getElem?_append_right h', repeatCells_get z n (i - z.length) (by rw [Nat.succ_mul] at h; omega)]
      congr 1
      exact (Nat.mod_eq_sub_mod h').symm

theorem repeat_rep {z : List AV} {zv : Array Value} (r : repL G z zv.toList) (n : Nat) : repL G (repeatCells z n) (((Array.range (n * z.length)).map (fun i => zv[i % zv.size]!)).toList) := by
  have hl : zv.size = z.length := by simpa using r.length
  refine repL.of_get (by simp [repeatCells_length]) fun j x v hx hv => ?_
  have hj : j < n * z.length := by have := lt_of_get hx; rwa [repeatCells_length] at this
  rw [repeatCells_get z n j hj] at hx
  obtain ⟨u, hu, ru⟩ := r.get hx
  have : v = u := by
    have hlt := lt_of_get hu
    simp only [Array.length_toList] at hlt
    simp only [Array.toList_map, List.getElem?_map, Array.toList_range, List.getElem?_range hj, Option.map_some, Option.some.injEq] at hv
    subst hv
    rw [hl, getElem!_pos zv _ hlt]
    simpa [hlt] using hu
  rw [this]; exact ru

theorem buildSliceV_sound (ok : TabOk P T) (hi : Inv base w0 G σ w) {t : TypeId} {n : Nat} {ps : List (Nat × AV)} {vs : List (Nat × Value)} {r : AV} {σ' : St} {j : Nat} (h : buildSliceV T j t n ps σ = some (r, σ')) (rp : repP G ps vs) :
    Makes P base w0 w G (Instr.buildSlice t n vs.toArray) r σ' := by
  unfold buildSliceV at h
  split at h
  · rename_i e hu
    obtain ⟨td, h0, u0, h1⟩ := run_und ok hu
    have := TD.slice_inv h0; subst this
    split at h
    · rename_i te ag hte hag
      split at h
      · rename_i hc
        obtain ⟨c1, c2, c3⟩ := hc
        split at h
        · rename_i cs hcs
          split at h
          · rename_i hf
            obtain ⟨hf, hfree⟩ := hf
            simp only [Option.some.injEq, Prod.mk.injEq] at h
            obtain ⟨rfl, rfl⟩ := h
            obtain ⟨_, _, _, _, _, hS, z, _, hz, rz⟩ := run_inf ok hte
            have hzl := ok.zlen _ _ hte
            have hrep := repeat_rep (rz G) n
            rw [hzl] at hrep
            obtain ⟨rv, f1, f2⟩ := fill_sound (place' := fun i => some (i * te.size, te.size)) (fun i x hx => hx) hcs rp hrep
            have hlen : cs.length = n * te.size := by
              have : ∀ {ps : List (Nat × AV)} {a b : List AV}, fillV (fun i => some (i * te.size, te.size)) a ps = some b → b.length = a.length := by
                intro ps
                induction ps with
                | nil => intro a b h; simp [fillV] at h; rw [h]
                | cons p ps ih =>
                  intro a b h
                  obtain ⟨i, x⟩ := p
                  simp only [fillV] at h
                  split at h
                  · rw [ih h, put_length]
                  · simp at h
              rw [this hcs, repeatCells_length, hzl]
            obtain ⟨vs', g1, g2, g3, g4⟩ := chunk_sound c3 n f2 hlen hf
            have hr := hi.newRow hfree (vs := cellsOf vs') (rest := []) (t := e) (n := n) (c := n) c1 (by rw [cellsOf_length g3, g4]) (by rw [cellsOf_length g3, g4]; simp) (Nat.le_refl _)
            obtain ⟨q1, q2, q3, q4⟩ := hr
            rw [List.append_nil] at q2
            have hrv : rv = (cellsOf vs').toArray := by rw [g2]
            subst hrv
            refine ⟨.slice (some ⟨w.heap.size, 0, none⟩) n n, _, _, ?_, q1, q2, ?_⟩
            · have hnle : ¬ n * te.size > 2 ^ 24 := by
                have : (2 : Nat) ^ 24 = 16777216 := by decide
                omega
              simp only [Instr.buildSlice, Sem.run_bind, h1, Result.andThen_ok, hS]
              rw [if_neg hnle]
              by_cases h0 : n * te.size = 0
              · rw [if_pos h0]
                rw [h0] at f1
                simp only [Sem.run_bind, Sem.run_pure, Result.andThen_ok, h0]
                have : (Array.map (fun x => (#[] : Array Value)[x % (#[] : Array Value).size]!) (Array.range 0)) = Array.map (fun i => z.cells[i % z.cells.size]!) (Array.range 0) := by simp
                rw [this, f1]
                rfl
              · rw [if_neg h0]
                simp only [Sem.run_bind, Sem.run_pure, Result.andThen_ok, hz, f1]
                rfl
            · have hcl : ((chunk ag te.size n cs).map AV.strip).length = n := by
                have := g1.length; simp; omega
              refine ⟨_, n, vs', by rw [hcl], by rw [hcl]; exact Nat.le_refl _, fun h => by simp [newTok] at h, fun _ => ⟨_, rfl, by rw [hcl]; exact q4⟩, (g1.strip).mono q1, ?_⟩
              right
              exact ⟨_, _, te.size, rfl, g3, q3⟩
          · simp at h
        · simp at h
      · simp at h
    · simp at h
  · simp at h
end
end Go.Pv
