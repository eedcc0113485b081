/- Tables made of lists; the start; a function that is given by what it was found to answer. -/
import Derived.Test.YtigcolhieieakaaDoorPvL
namespace Go.Pv
open Go Go.RowKit
set_option linter.unusedVariables false
set_option linter.unusedSimpArgs false

theorem map_mem {α β : Type} {f g : α → β} {l : List α} (h : l.map f = l.map g) {x : α} (hx : x ∈ l) : f x = g x := by
  induction l with
  | nil => cases hx
  | cons y ys ih =>
    simp only [List.map_cons, List.cons.injEq] at h
    rcases List.mem_cons.1 hx with rfl | hx
    · exact h.1
    · exact ih h.2 hx

def goodFn (T : Tab) (x : Nat × Func) : Bool := x.2.name != "runtime.NumGoroutine" && okFn T x.2
theorem cls_prim {T T' : Tab} (h : T.prim = T'.prim ∧ T.pure = T'.pure ∧ T.rprim = T'.rprim ∧ T.row = T'.row) (o : Op) : cls T o = cls T' o := by
  unfold cls
  rw [h.1, h.2.1, h.2.2.1, h.2.2.2]
theorem okPairs_prim {T T' : Tab} (h : T.prim = T'.prim ∧ T.pure = T'.pure ∧ T.rprim = T'.rprim ∧ T.row = T'.row) (ops : Array Oper) (m : List Nat) : ∀ (i : Nat) (os : List Oper), okPairs T ops m i os = okPairs T' ops m i os
  | _, [] => rfl
  | i, o :: os => by simp only [okPairs, okPair, cls_prim h, okPairs_prim h ops m (i + 1) os]
theorem okCode_prim {T T' : Tab} (h : T.prim = T'.prim ∧ T.pure = T'.pure ∧ T.rprim = T'.rprim ∧ T.row = T'.row) (N : Nat) : ∀ (c : Code), okCode T N c = okCode T' N c := by
  intro c
  induction c with
  | region id ops draw => simp only [okCode, okDraw, okPairs_prim h]
  | seq a b iha ihb => simp only [okCode, iha, ihb]
  | cond x a b iha ihb => simp only [okCode, iha, ihb]
  | block id b ih => simp only [okCode, ih]
  | loop b ih => simp only [okCode, ih]
  | _ => simp only [okCode]
theorem goodFn_prim {T T' : Tab} (h : T.prim = T'.prim ∧ T.pure = T'.pure ∧ T.rprim = T'.rprim ∧ T.row = T'.row) : goodFn T = goodFn T' := by
  funext x
  simp only [goodFn, okFn, okCode_prim h]

def goodInf (x : Nat × TI) : Bool := Nat.beq x.2.zero.length x.2.size

theorem Tab.of_ok {P : Program} {fns : List (Nat × Func)} {tys : List (Nat × TD)} {infs : List (Nat × TI)} {prim : Nat → Option (List AV → Option AV)} {pure : Nat → Bool} {rprim : Nat → Option (List AV → Option (List AV × Nat))} {row : Nat → Bool}
    (ht : tys.map (fun x => (P.underlying x.1).map TD.of) = tys.map (fun x => some x.2)) (hi : infs.map (fun x => (P.info? x.1).bind TI.of) = infs.map (fun x => some x.2)) (hz : infs.all goodInf = true) : TabOk P (Tab.of fns tys infs prim pure rprim row) where
  und t d h := by
    have := map_mem ht (Tr.ofList_mem h)
    simp only at this
    cases hq : P.underlying t with
    | none => simp [hq] at this
    | some td => simp [hq] at this; exact ⟨td, rfl, this⟩
  inf t i h := by
    have := map_mem hi (Tr.ofList_mem h)
    simp only at this
    cases hq : P.info? t with
    | none => simp [hq] at this
    | some ti => simp [hq] at this; exact ⟨ti, rfl, this⟩
  zlen t i h := by
    have := List.all_eq_true.1 hz _ (Tr.ofList_mem h)
    simpa [goodInf, beq_eq] using this

theorem Tab.of_fnOk {P : Program} {fns : List (Nat × Func)} {tys : List (Nat × TD)} {infs : List (Nat × TI)} {prim : Nat → Option (List AV → Option AV)} {pure : Nat → Bool} {rprim : Nat → Option (List AV → Option (List AV × Nat))} {row : Nat → Bool}
    (hf : fns.map (fun x => P.funcs[x.1]?) = fns.map (fun x => some x.2)) (hg : fns.all (goodFn (Tab.of fns tys infs prim pure rprim row)) = true) (hm : P.follows .mixedOrders = true) : FnOk P (Tab.of fns tys infs prim pure rprim row) where
  fn f fn h := by
    have hmem := Tr.ofList_mem h
    have h1 := map_mem hf hmem
    have h2 := List.all_eq_true.1 hg _ hmem
    simp only [goodFn, Bool.and_eq_true, bne_iff_ne] at h2
    exact ⟨h1, h2.1, h2.2⟩
  mixed := hm

section
variable {P : Program} {T : Tab} {GL : List (Nat × Nat × Value)}

theorem answers_of_eval (ok : TabOk P T) (fok : FnOk P T) (hkn : ∀ f p, T.prim f = some p → Known P GL f p) (hkr : ∀ f p, T.rprim f = some p → KnownR P GL f p) {f : FuncId} {vs : List AV} {r : AV} {n : Nat} {r0 : AV} {σ1 : St} (h : evalCall T n f vs St.start = some (r0, σ1)) (hu : untok r0 = r) (hg : good r = true) : Answers P GL f vs r :=
  answers_of_K (fun base w0 hb => call_sound ok fok (code_sound ok fok hkn hkr n base w0 hb)) h hu hg

/-- At a call from outside: all old memory stays. -/
theorem Answers.calls {f : FuncId} {vs : List AV} {r : AV} (h : Answers P GL f vs r) {w : World} {us : List Value} (hw : Hw GL w) (rl : repL (Gh.start fun b o => w.cell? ⟨b, o, none⟩) vs us) :
    Calls P f us.toArray w fun e w' => ∃ v m', e = .returned v ∧ Below w.heap.size w w' ∧ rep (Gh.start m') r v :=
  (h _ w us hw (fun _ _ _ x => x) rl).mono fun e w' ⟨v, m', e1, e2, _, _, _, e6⟩ => ⟨v, m', e1, e2, e6⟩
end
end Go.Pv
