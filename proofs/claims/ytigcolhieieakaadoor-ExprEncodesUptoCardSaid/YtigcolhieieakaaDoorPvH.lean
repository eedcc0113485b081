/- One operation of the evaluator is one of the machine's. -/
import Derived.Test.YtigcolhieieakaaDoorPvG
namespace Go.Pv
open Go Go.RowKit
set_option linter.unusedVariables false
set_option linter.unusedSimpArgs false

section
variable {P : Program} {T : Tab} {w : World} {G : Gh} {base : Nat} {w0 : World} {σ : St}

theorem pureV_some {o : Option AV} {σ σ' : St} {r : AV} (h : pureV o σ = some (r, σ')) : o = some r ∧ σ' = σ := by
  unfold pureV at h
  split at h
  · simp only [Option.some.injEq, Prod.mk.injEq] at h; exact ⟨by rw [h.1], h.2.symm⟩
  · simp at h

theorem lenV_sound (ok : TabOk P T) {t ty : TypeId} {x : AV} {v : Value} {r : AV} {ats : Array TypeId} {args : Array Value} (ha : ats[0]? = some t) (hb : args[0]? = some v) (rx : rep G x v)
    (h : lenV T t x = some r) : Yields P w G (Builtin.len_ ats ty args) r := by
  unfold lenV at h
  split at h
  · rename_i e es k hu
    obtain ⟨td, h0, _, h1⟩ := run_und ok hu
    have := TD.slice_inv h0; subst this
    obtain ⟨A, c, vs, rfl, _⟩ := rx
    simp only [Option.some.injEq] at h; subst h
    exact ⟨.int .i64 es.length, by simp [Builtin.len_, ha, hb, h1, goInt], rfl⟩
  · rename_i l hu
    obtain ⟨td, h0, _, h1⟩ := run_und ok hu
    have := TD.string_inv h0; subst this
    simp only [rep] at rx; subst rx
    simp only [Option.some.injEq] at h; subst h
    have hsz : (⟨l.toArray⟩ : ByteArray).size = l.length := by simp [ByteArray.size]
    exact ⟨.int .i64 l.length, by simp [Builtin.len_, ha, hb, h1, goInt, hsz], rfl⟩
  · rename_i n e hu
    obtain ⟨td, h0, _, h1⟩ := run_und ok hu
    have := TD.array_inv h0; subst this
    simp only [Option.some.injEq] at h; subst h
    exact ⟨.int .i64 n, by simp [Builtin.len_, ha, hb, h1, goInt], rfl⟩
  · simp at h

theorem maxV_sound : ∀ {xs : List AV} {vs : List Value} {x r : AV} {v : Value}, maxV x xs = some r → rep G x v → repL G xs vs → ∃ u, (vs.foldlM Builtin.max2 v).run P w = .ok u w ∧ rep G r u
  | [], vs, x, r, v, h, rx, rl => by
    rw [repL_nil] at rl; subst rl
    have : r = x := by cases x <;> simp [maxV] at h <;> exact h.symm
    subst this
    exact ⟨v, rfl, rx⟩
  | y :: ys, _, x, r, v, h, rx, ⟨z, zs, e, r1, r2⟩ => by
    subst e
    cases x <;> try (simp [maxV] at h; done)
    rename_i k n
    cases y <;> try (simp [maxV] at h; done)
    rename_i k' m
    simp only [rep] at rx r1; subst rx; subst r1
    simp only [maxV] at h
    obtain ⟨u, h1, h2⟩ := maxV_sound (v := .int k (if m > n then m else n)) h rfl r2
    exact ⟨u, by simpa [Builtin.max2] using h1, h2⟩

theorem minV_sound : ∀ {xs : List AV} {vs : List Value} {x r : AV} {v : Value}, minV x xs = some r → rep G x v → repL G xs vs → ∃ u, (vs.foldlM Builtin.min2 v).run P w = .ok u w ∧ rep G r u
  | [], vs, x, r, v, h, rx, rl => by
    rw [repL_nil] at rl; subst rl
    have : r = x := by cases x <;> simp [minV] at h <;> exact h.symm
    subst this
    exact ⟨v, rfl, rx⟩
  | y :: ys, _, x, r, v, h, rx, ⟨z, zs, e, r1, r2⟩ => by
    subst e
    cases x <;> try (simp [minV] at h; done)
    rename_i k n
    cases y <;> try (simp [minV] at h; done)
    rename_i k' m
    simp only [rep] at rx r1; subst rx; subst r1
    simp only [minV] at h
    obtain ⟨u, h1, h2⟩ := minV_sound (v := .int k (if m < n then m else n)) h rfl r2
    exact ⟨u, by simpa [Builtin.min2] using h1, h2⟩

theorem toList_get {α : Type} {l : Array α} {x : α} {xs : List α} (h : l.toList = x :: xs) : l[0]? = some x := by
  have : l.toList[0]? = some x := by rw [h]; rfl
  simpa using this
theorem toList_get1 {α : Type} {l : Array α} {x y : α} {xs : List α} (h : l.toList = x :: y :: xs) : l[1]? = some y := by
  have : l.toList[1]? = some y := by rw [h]; rfl
  simpa using this

theorem bltV_sound (ok : TabOk P T) (hi : Inv base w0 G σ w) {b : Builtin} {ats : Array TypeId} {ty : TypeId} {vs : List AV} {us : Array Value} {r : AV} {σ' : St} {consts : Array Bool} {j : Nat}
    (h : bltV T j b ats.toList vs σ = some (r, σ')) (rl : repL G vs us.toList) : ∃ v w' G', (builtin b ats ty consts us).run P w = .ok (.value v) w' ∧ G.le G' ∧ Inv base w0 G' σ' w' ∧ rep G' r v := by
  have fin : ∀ {s : Sem Value}, builtin b ats ty consts us = (do pure (.value (← s))) → Makes P base w0 w G s r σ' → ∃ v w' G', (builtin b ats ty consts us).run P w = .ok (.value v) w' ∧ G.le G' ∧ Inv base w0 G' σ' w' ∧ rep G' r v := by
    intro s he ⟨v, w', G', h1, h2⟩
    exact ⟨v, w', G', by rw [he]; simp [h1], h2⟩
  unfold bltV at h
  split at h
  · rename_i t ts x xs hts
    obtain ⟨v, us', hus, r1, r2⟩ := rl
    obtain ⟨h1, rfl⟩ := pureV_some h
    exact fin rfl ((lenV_sound (P := P) (w := w) (ty := ty) ok (toList_get hts) (toList_get hus) r1 h1).makes hi)
  · rename_i t u ts s x xs hts
    obtain ⟨v, us', hus, r1, v2, us2, e, r2, r3⟩ := rl
    subst e
    split at h
    · simp at h
    · rename_i ud hn hud
      exact fin rfl (appV_sound ok hi hud (fun k hk => hn k hk) h r1 r2 #[] ats us (toList_get hts) (toList_get1 hts) (toList_get hus) (toList_get1 hus))
    · simp at h
  · rename_i x xs
    obtain ⟨v, us', hus, r1, r2⟩ := rl
    split at h
    · rename_i k n y hm
      simp only [Option.some.injEq, Prod.mk.injEq] at h
      obtain ⟨rfl, rfl⟩ := h
      obtain ⟨u, h1, h2⟩ := maxV_sound (P := P) (w := w) hm r1 r2
      exact fin rfl ⟨u, w, G, by simp [Builtin.max_, hus, h1], .refl G, hi, h2⟩
    · simp at h
  · rename_i x xs
    obtain ⟨v, us', hus, r1, r2⟩ := rl
    split at h
    · rename_i k n y hm
      simp only [Option.some.injEq, Prod.mk.injEq] at h
      obtain ⟨rfl, rfl⟩ := h
      obtain ⟨u, h1, h2⟩ := minV_sound (P := P) (w := w) hm r1 r2
      exact fin rfl ⟨u, w, G, by simp [Builtin.min_, hus, h1], .refl G, hi, h2⟩
    · simp at h
  · simp at h

/-- What is asked of the functions that are given by a law of their own. -/
def PrimOk (P : Program) (pr : FuncId → Option (List AV → Option AV)) (base : Nat) (w0 : World) : Prop :=
  ∀ f p vs r, pr f = some p → p vs = some r → (∃ fn, P.funcs[f]? = some fn ∧ fn.name ≠ "runtime.NumGoroutine" ∧ fn.body.isSome = true) ∧
    ∀ G σ w us, Inv base w0 G σ w → repL G vs us → Calls P f us.toArray w fun e w' => ∃ v G', e = .returned v ∧ G.le G' ∧ Inv base w0 G' σ w' ∧ rep G' r v

/-- The same of those that make a row, with a new token. -/
def RowOk (P : Program) (pr : FuncId → Option (List AV → Option (List AV × Nat))) (base : Nat) (w0 : World) : Prop :=
  ∀ f p vs es sz, pr f = some p → p vs = some (es, sz) → (∃ fn, P.funcs[f]? = some fn ∧ fn.name ≠ "runtime.NumGoroutine" ∧ fn.body.isSome = true) ∧
    ∀ j G σ w us, tokFree j σ = true → Inv base w0 G σ w → repL G vs us → Calls P f us.toArray w fun e w' => ∃ v G', e = .returned v ∧ G.le G' ∧ Inv base w0 G' (newTok j sz σ).2 w' ∧ rep G' (rowR es (newTok j sz σ).1 sz) v

theorem rowV_some {j : Nat} {o : Option (List AV × Nat)} {σ σ' : St} {r : AV} (h : rowV j o σ = some (r, σ')) : ∃ es sz, o = some (es, sz) ∧ tokFree j σ = true ∧ r = rowR es (newTok j sz σ).1 sz ∧ σ' = (newTok j sz σ).2 := by
  unfold rowV at h
  split at h
  · rename_i es sz
    split at h
    · rename_i hc
      simp only [Option.some.injEq, Prod.mk.injEq] at h
      exact ⟨es, sz, rfl, hc, h.1.symm, h.2.symm⟩
    · simp at h
  · simp at h

/-- What is asked of the calls. -/
def KOk (P : Program) (base : Nat) (w0 : World) (K : CallK) : Prop :=
  ∀ f vs σ r σ', K f vs σ = some (r, σ') → (∃ fn, P.funcs[f]? = some fn ∧ fn.name ≠ "runtime.NumGoroutine" ∧ fn.body.isSome = true) ∧
    ∀ G w us, Inv base w0 G σ w → repL G vs us → Calls P f us.toArray w fun e w' => ∃ v G', e = .returned v ∧ G.le G' ∧ Inv base w0 G' σ' w' ∧ rep G' r v

def OpOk (P : Program) (base : Nat) (w0 w : World) (G : Gh) (o : Oper) (a : Act) (r : AV) (σ' : St) : Prop :=
  ∀ (next : Act → World → Prop) (Q : Exit → Act → World → Prop), (∀ v G' w', G.le G' → Inv base w0 G' σ' w' → rep G' r v → next (a.put o.dst v) w') → o.wp P a w next Q

theorem OpOk.of_makes {o : Oper} {a : Act} {s : Sem Value} {r : AV} {σ' : St} (he : execOp a.eval o = (do pure (.value (← s)))) (h : Makes P base w0 w G s r σ') : OpOk P base w0 w G o a r σ' := by
  intro next Q hn
  obtain ⟨v, w', G', h1, h2, h3, h4⟩ := h
  unfold Oper.wp
  rw [he]
  simp only [Sem.run_bind, h1, Result.andThen_ok, Sem.run_pure, Oper.upon]
  exact hn v G' w' h2 h3 h4

theorem OpOk.of_value {o : Oper} {a : Act} {v : Value} {r : AV} {σ' : St} (he : execOp a.eval o = pure (.value v)) (hi : Inv base w0 G σ' w) (h : rep G r v) : OpOk P base w0 w G o a r σ' :=
  OpOk.of_makes (s := pure v) (by rw [he]; rfl) ⟨v, w, G, rfl, .refl G, hi, h⟩

theorem repL_array {vs : List AV} {xs : Array Operand} {a : Act} (h : repL G vs (xs.toList.map a.eval)) : repL G vs (xs.map a.eval).toList := by simpa using h

theorem evalOp_sound (ok : TabOk P T) {K : CallK} (hK : KOk P base w0 K) {N : Nat} {o : Oper} {ρ : Nat → AV} {a : Act} {r : AV} {σ' : St} {n j : Nat} (pok : PrimOk P (primK T K) base w0) (rok : RowOk P (rowK T K) base w0) (h : evalOp T K n j o ρ σ = some (r, σ')) (hf : FR N G ρ a) (hi : Inv base w0 G σ w) : OpOk P base w0 w G o a r σ' := by
  unfold evalOp at h
  split at h
  · rename_i x ho
    obtain ⟨h1, rfl⟩ := pureV_some h
    exact OpOk.of_value (by simp only [execOp, ho]) hi (opd_rep hf h1)
  · rename_i x ho
    obtain ⟨h1, rfl⟩ := pureV_some h
    exact OpOk.of_value (by simp only [execOp, ho]) hi (opd_rep hf h1)
  · rename_i c x y ho
    split at h
    · rename_i hc
      obtain ⟨h1, rfl⟩ := pureV_some h
      have rc := opd_rep hf hc
      simp only [rep] at rc
      exact OpOk.of_makes (s := do pure (if ← asBool (a.eval c) then a.eval x else a.eval y)) (by simp only [execOp, ho]; simp) ⟨a.eval x, w, G, by simp [rc, asBool], .refl G, hi, opd_rep hf h1⟩
    · rename_i hc
      obtain ⟨h1, rfl⟩ := pureV_some h
      have rc := opd_rep hf hc
      simp only [rep] at rc
      exact OpOk.of_makes (s := do pure (if ← asBool (a.eval c) then a.eval x else a.eval y)) (by simp only [execOp, ho]; simp) ⟨a.eval y, w, G, by simp [rc, asBool], .refl G, hi, opd_rep hf h1⟩
    · simp at h
  · rename_i t ho
    split at h
    · rename_i ti hti
      split at h
      · rename_i hfree
        simp only [Option.some.injEq] at h
        obtain ⟨_, _, _, _, _, _, z, _, hz, rz⟩ := run_inf ok hti
        have hb := hi.newBox hfree (rz G) t
        rw [h] at hb
        obtain ⟨q1, q2, q3⟩ := hb
        exact OpOk.of_makes (s := Instr.alloc t true (.tuple #[])) (by simp only [execOp, ho]) ⟨_, _, _, by simp [Instr.alloc, hz, newVar, newRow], q1, q2, q3⟩
      · simp at h
    · simp at h
  · rename_i t x ho
    split at h
    · rename_i v hv
      split at h
      · rename_i hfl
        simp only [Option.some.injEq] at h
        have hb := hi.newBox hfl.2 (opd_rep hf hv).cells t
        rw [h] at hb
        obtain ⟨q1, q2, q3⟩ := hb
        exact OpOk.of_makes (s := Instr.box t (a.eval x)) (by simp only [execOp, ho]) ⟨_, _, _, by simp [Instr.box, newVar, newRow], q1, q2, q3⟩
      · simp at h
    · simp at h
  · rename_i t ps ho
    split at h
    · rename_i l hl
      obtain ⟨h1, rfl⟩ := pureV_some h
      have hb := buildV_sound (w := w) ok h1 (parts_rep hf hl)
      refine OpOk.of_makes (s := Instr.build t (ps.map fun (x : Nat × Operand) => (x.1, a.eval x.2))) (by simp only [execOp, ho]) (Yields.makes ?_ hi)
      have e : (ps.map fun (x : Nat × Operand) => (x.1, a.eval x.2)) = (ps.toList.map fun x => (x.1, a.eval x.2)).toArray := by apply Array.ext'; simp
      rw [e]; exact hb
    · simp at h
  · rename_i t n ps ho
    split at h
    · rename_i l hl
      have hb := buildSliceV_sound ok hi h (parts_rep hf hl)
      refine OpOk.of_makes (s := Instr.buildSlice t n (ps.map fun (x : Nat × Operand) => (x.1, a.eval x.2))) (by simp only [execOp, ho]) ?_
      have e : (ps.map fun (x : Nat × Operand) => (x.1, a.eval x.2)) = (ps.toList.map fun x => (x.1, a.eval x.2)).toArray := by apply Array.ext'; simp
      rw [e]; exact hb
    · simp at h
  · rename_i t x ho
    split at h
    · rename_i v hv
      obtain ⟨h1, rfl⟩ := pureV_some h
      exact OpOk.of_makes (by simp only [execOp, ho]) ((loadV_sound ok hi h1 (opd_rep hf hv)).makes hi)
    · simp at h
  · rename_i t x y ho
    split at h
    · rename_i v u hv hu
      split at h
      · rename_i σ1 hs
        simp only [Option.some.injEq, Prod.mk.injEq] at h
        obtain ⟨rfl, rfl⟩ := h
        obtain ⟨w', h1, h2⟩ := storeV_sound ok hi hs (opd_rep hf hv) (opd_rep hf hu)
        intro next Q hn
        unfold Oper.wp
        simp only [execOp, ho, Sem.run_bind, h1, Result.andThen_ok, Sem.run_pure, Oper.upon]
        exact hn _ G w' (.refl G) h2 (rep_undef G)
      · simp at h
    · simp at h
  · rename_i x ho
    split at h
    · rename_i l q hv
      simp only [Option.some.injEq, Prod.mk.injEq] at h
      obtain ⟨rfl, rfl⟩ := h
      have rv := opd_rep hf hv
      have rv' := rv
      obtain ⟨B, _, e⟩ := rv'
      exact OpOk.of_value (v := a.eval x) (by simp only [execOp, ho, e]) hi rv
    · rename_i cs hv
      simp only [Option.some.injEq, Prod.mk.injEq] at h
      obtain ⟨rfl, rfl⟩ := h
      have rv := opd_rep hf hv
      have rv' := rv
      obtain ⟨b, q, l, e, _⟩ := rv'
      exact OpOk.of_value (v := a.eval x) (by simp only [execOp, ho, e]) hi rv
    · rename_i fn cs hv
      simp only [Option.some.injEq, Prod.mk.injEq] at h
      obtain ⟨rfl, rfl⟩ := h
      have rv := opd_rep hf hv
      have rv' := rv
      obtain ⟨l, e, _⟩ := rv'
      exact OpOk.of_value (v := a.eval x) (by simp only [execOp, ho, e]) hi rv
    · simp at h
  · rename_i op xt x y yt ho
    split at h
    · rename_i v u hv hu
      obtain ⟨h1, rfl⟩ := pureV_some h
      exact OpOk.of_makes (by simp only [execOp, ho]) ((binV_sound ok h1 (opd_rep hf hv) (opd_rep hf hu)).makes hi)
    · simp at h
  · rename_i op xt x ho
    split at h
    · rename_i v hv
      obtain ⟨h1, rfl⟩ := pureV_some h
      exact OpOk.of_makes (by simp only [execOp, ho]) ((unV_sound h1 (opd_rep hf hv)).makes hi)
    · simp at h
  · rename_i s d x ho
    split at h
    · rename_i v hv
      obtain ⟨h1, rfl⟩ := pureV_some h
      exact OpOk.of_makes (by simp only [execOp, ho]) ((convV_sound ok hi h1 (opd_rep hf hv)).makes hi)
    · simp at h
  · rename_i t x ho
    split at h
    · simp at h
    · rename_i v d hne hv hd
      simp only [Option.some.injEq, Prod.mk.injEq] at h
      obtain ⟨rfl, rfl⟩ := h
      obtain ⟨td, h0, _, h1⟩ := run_und ok hd
      refine OpOk.of_makes (s := Instr.makeInterface t (a.eval x)) (by simp only [execOp, ho]) ⟨.iface t (a.eval x), w, G, ?_, .refl G, hi, _, rfl, opd_rep hf hv⟩
      cases td <;> first
        | (simp [Instr.makeInterface, h1]; done)
        | (simp only [TD.of] at h0; exact absurd h0.symm hne)
    · simp at h
  · rename_i f cs ho
    split at h
    · rename_i vs hv
      simp only [Option.some.injEq, Prod.mk.injEq] at h
      obtain ⟨rfl, rfl⟩ := h
      exact OpOk.of_makes (s := Instr.makeFunc (.func f) (Array.map a.eval ⟨[]⟩) (cs.map a.eval)) (by simp only [execOp, ho]) ⟨_, w, G, rfl, .refl G, hi, cs.map a.eval, by simp, repL_array (opds_rep hf hv)⟩
    · simp at h
  · rename_i t n c ho
    split at h
    · rename_i v u hv hu
      exact OpOk.of_makes (by simp only [execOp, ho]) (makeSliceV_sound ok hi h (opd_rep hf hv) (opd_rep hf hu))
    · simp at h
  · rename_i t x lo hi' ho
    have hopt : ∀ {q : Option Operand} {l : Option AV}, optOpd ρ q = some l → repO G l (q.map a.eval) := by
      intro q l hq
      cases q with
      | none => simp [optOpd] at hq; subst hq; rfl
      | some x =>
        simp only [optOpd] at hq
        split at hq
        · rename_i v hv
          simp only [Option.some.injEq] at hq; subst hq
          exact ⟨_, rfl, opd_rep hf hv⟩
        · simp at hq
    split at h
    · rename_i v l u hv hl hu
      obtain ⟨h1, rfl⟩ := pureV_some h
      exact OpOk.of_makes (s := Instr.sliceAt t (a.eval x) (lo.map a.eval) (hi'.map a.eval) none) (by simp only [execOp, ho, Option.map_none]) ((sliceV_sound ok h1 (opd_rep hf hv) (hopt hl) (hopt hu)).makes hi)
    · simp at h
  · rename_i t x j ho
    split at h
    · rename_i v hv
      obtain ⟨h1, rfl⟩ := pureV_some h
      exact OpOk.of_makes (by simp only [execOp, ho]) ((fieldAddrV_sound ok h1 (opd_rep hf hv)).makes hi)
    · simp at h
  · rename_i t x j ho
    split at h
    · rename_i v hv
      obtain ⟨h1, rfl⟩ := pureV_some h
      exact OpOk.of_makes (by simp only [execOp, ho]) ((fieldV_sound ok h1 (opd_rep hf hv)).makes hi)
    · simp at h
  · rename_i t x ix ho
    split at h
    · rename_i v u hv hu
      obtain ⟨h1, rfl⟩ := pureV_some h
      exact OpOk.of_makes (by simp only [execOp, ho]) ((idxAddrV_sound ok h1 (opd_rep hf hv) (opd_rep hf hu)).makes hi)
    · simp at h
  · rename_i t x ix ho
    split at h
    · rename_i v u hv hu
      obtain ⟨h1, rfl⟩ := pureV_some h
      exact OpOk.of_makes (by simp only [execOp, ho]) ((idxV_sound ok h1 (opd_rep hf hv) (opd_rep hf hu)).makes hi)
    · simp at h
  · rename_i x j ho
    split at h
    · rename_i vs hv
      obtain ⟨h1, rfl⟩ := pureV_some h
      obtain ⟨l, e, rl⟩ := opd_rep hf hv
      obtain ⟨u, hu, ru⟩ := rl.get h1
      have hu' : l[j]? = some u := by simpa using hu
      exact OpOk.of_makes (s := Instr.extract (a.eval x) j) (by simp only [execOp, ho]) ⟨u, w, G, by simp [Instr.extract, e, hu'], .refl G, hi, ru⟩
    · simp at h
  · rename_i c ho
    split at h
    · rename_i vs hv
      have rl := repL_array (opds_rep hf hv)
      split at h
      · rename_i b hb
        obtain ⟨v, w', G', h1, h2, h3, h4⟩ := bltV_sound (ty := o.type) (consts := c.args.map fun | .const _ => true | _ => false) ok hi h rl
        intro next Q hn
        unfold Oper.wp
        simp only [execOp, ho, resolve, hb, Sem.run_bind, Sem.run_pure, Result.andThen_ok, invoke]
        erw [h1]
        exact hn v G' w' h2 h3 h4
      · rename_i fo hc
        split at h
        · rename_i fn cs hfo
          obtain ⟨l, e, rc⟩ := opd_rep hf hfo
          have hboth : (∃ fd, P.funcs[fn]? = some fd ∧ fd.name ≠ "runtime.NumGoroutine" ∧ fd.body.isSome = true) ∧ Calls P fn ((c.args.map a.eval).toList ++ l.toList).toArray w fun e w' => ∃ v G', e = .returned v ∧ G.le G' ∧ Inv base w0 G' σ' w' ∧ rep G' r v := by
            split at h
            · rename_i p hp
              obtain ⟨es, sz, h1, h3, rfl, rfl⟩ := rowV_some h
              obtain ⟨k1, k2⟩ := rok fn p _ es sz hp h1
              exact ⟨k1, k2 j G _ w _ h3 hi (rl.append rc)⟩
            split at h
            · rename_i p hp
              obtain ⟨h1, rfl⟩ := pureV_some h
              obtain ⟨k1, k2⟩ := pok fn p _ r hp h1
              exact ⟨k1, k2 G _ w _ hi (rl.append rc)⟩
            · obtain ⟨k1, k4⟩ := hK _ _ _ _ _ h
              exact ⟨k1, k4 G w _ (hi.bump _) (rl.append rc)⟩
          obtain ⟨⟨fd, k1, k2, k3⟩, hcall⟩ := hboth
          intro next Q hn
          unfold Oper.wp
          have k3' : fd.body.isNone = false := by cases hq : fd.body <;> simp_all
          have k2' : (fd.name == "runtime.NumGoroutine") = false := by simpa using k2
          simp only [execOp, ho, resolve, hc, e, Deferred.ofValue, Sem.run_bind, Sem.run_pure, Result.andThen_ok, invoke, callFunc, run_program, k1, k2', k3', Bool.false_eq_true, if_false, Oper.upon]
          have ea : ((c.args.map a.eval).toList ++ l.toList).toArray = #[] ++ c.args.map a.eval ++ l := by apply Array.ext'; simp
          rw [← ea]
          exact hcall.mono fun e w' ⟨v, G', h1, h2, h3, h4⟩ => by subst h1; exact hn v G' w' h2 h3 h4
        · simp at h
      · simp at h
    · simp at h
  · simp at h
end
end Go.Pv
