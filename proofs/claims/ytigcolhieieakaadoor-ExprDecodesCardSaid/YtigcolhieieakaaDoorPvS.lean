/- This seat: its tables; the number of an error; sure. -/
import Derived.Test.YtigcolhieieakaaDoorPvQ
import Derived.Test.YtigcolhieieakaaDoorPvT
import Derived.Test.YtigcolhieieakaaDoorNumAs
namespace Go.Pv
open Go Go.Proofs Go.RowKit
set_option linter.unusedVariables false
set_option maxRecDepth 100000

theorem infL_good : infL.all goodInf = true := by kernel_rfl
theorem mixed : Tryd.prog.follows .mixedOrders = true := by kernel_rfl

/-- What the package-level variable holds. -/
def GL : List (Nat × Nat × Value) := [(0, 0, .iface 121 (.agg #[.pointer (some ⟨1, 26, none⟩)]))]

/-- What is called with nothing that can be written. -/
def pureL : List Nat := [9, 10, 11, 12, 14, 15, 16, 17, 18, 19, 20, 21, 24, 26, 27, 28, 29, 31, 32, 33, 34, 35, 36, 42, 43, 49, 50, 51, 52, 53, 59, 60, 61, 62, 63, 69, 70, 71, 73, 74, 75, 76, 78, 79, 80, 81]
/-- What makes a row, and leaves its spare room. -/
def rowL : List Nat := [22, 67, 68]
def rowP (n : Nat) : Bool := rowL.any fun m => Nat.beq n m
def pureP (n : Nat) : Bool := pureL.any fun m => Nat.beq n m
/-- The functions whose regions may be evaluated in any order, where some are given. -/
noncomputable def fnP (prim : Nat → Option (List AV → Option AV)) : List (Nat × Func) := fnL.filter (goodFn (Tab.of [] [] [] prim pureP (fun _ => none) rowP))
noncomputable def Tp (prim : Nat → Option (List AV → Option AV)) : Tab := Tab.of (fnP prim) tyL infL prim pureP (fun _ => none) rowP
theorem Tp_row (prim) : ∀ f p, (Tp prim).rprim f = some p → KnownR Tryd.prog GL f p := fun f p h => by cases h
theorem Tp_ok (prim) : TabOk Tryd.prog (Tp prim) := Tab.of_ok tyL_ok infL_ok infL_good
theorem fnP_ok (prim) : (fnP prim).map (fun x => Tryd.prog.funcs[x.1]?) = (fnP prim).map (fun x => some x.2) := by
  refine List.map_congr_left fun x hx => ?_
  exact map_mem fnL_ok (List.mem_filter.1 hx).1
theorem fnP_good (prim) : (fnP prim).all (goodFn (Tp prim)) = true := by
  rw [List.all_eq_true]
  intro x hx
  have := (List.mem_filter.1 hx).2
  rwa [goodFn_prim (T := Tp prim) (T' := Tab.of [] [] [] prim pureP (fun _ => none) rowP) ⟨rfl, rfl, rfl, rfl⟩]
theorem Tp_fnOk (prim) : FnOk Tryd.prog (Tp prim) := Tab.of_fnOk (fnP_ok prim) (fnP_good prim) mixed

def pNum : List AV → Option AV
  | [.ne] => some (.i .i64 0)
  | [.e t (.i k c)] => match Nat.beq t 64, k with
    | true, .i64 => some (.i .i64 c)
    | _, _ => none
  | _ => none

theorem known_num : Known Tryd.prog GL 13 pNum where
  fn := ⟨_, Tryd.func13, by decide, rfl⟩
  ans vs r h := by
    have hb : ∀ {m : Nat → Nat → Option Value} {w w' : World}, (∀ b o v, m b o = some v → w.cell? ⟨b, o, none⟩ = some v) → Below w.heap.size w w' → (∀ b o v, m b o = some v → w'.cell? ⟨b, o, none⟩ = some v) := fun hm hb b o v h => by
      rw [hb.cell (p := ⟨b, o, none⟩) (World.block_lt_of_cell? _ _ (hm b o v h))]; exact hm b o v h
    unfold pNum at h
    split at h
    · simp only [Option.some.injEq] at h; subst h
      refine ⟨rfl, rfl, fun m w us hw hm rl => ?_⟩
      obtain ⟨y, ys, rfl, r1, r2⟩ := rl
      rw [repL_nil] at r2; subst r2
      simp only [rep] at r1; subst r1
      exact (YtigcolhieieakaaDoor.num_nil w).mono fun e w' ⟨h1, h2⟩ => ⟨_, m, h1, h2, hb hm h2, fun _ _ _ h => h, fun _ _ _ => rfl, rfl⟩
    · rename_i t k c
      split at h
      · rename_i ht
        have := Nat.eq_of_beq_eq_true ht
        subst this
        simp only [Option.some.injEq] at h; subst h
        refine ⟨rfl, rfl, fun m w us hw hm rl => ?_⟩
        obtain ⟨y, ys, rfl, r1, r2⟩ := rl
        rw [repL_nil] at r2; subst r2
        obtain ⟨z, rfl, r3⟩ := r1
        simp only [rep] at r3; subst r3
        exact (YtigcolhieieakaaDoor.num_some c w (hw _ (List.mem_singleton.2 rfl))).mono fun e w' ⟨h1, h2⟩ => ⟨_, m, h1, h2, hb hm h2, fun _ _ _ h => h, fun _ _ _ => rfl, rfl⟩
      · exact absurd h (by simp)
    · exact absurd h (by simp)

def prim1 (n : Nat) : Option (List AV → Option AV) := match Nat.beq n 13 with | true => some pNum | false => none
theorem prim1_ok : ∀ f p, (Tp prim1).prim f = some p → Known Tryd.prog GL f p := fun f p h => by
  have h : prim1 f = some p := h
  unfold prim1 at h
  split at h
  · rename_i hf
    have := Nat.eq_of_beq_eq_true hf
    subst this
    cases h
    exact known_num
  · cases h

def isTrue : Option (AV × St) → Bool | some (.b true, _) => true | _ => false
theorem isTrue_spec {o : Option (AV × St)} (h : isTrue o = true) : ∃ σ, o = some (.b true, σ) := by
  unfold isTrue at h
  split at h
  · exact ⟨_, rfl⟩
  · simp at h

theorem sure_eval : isTrue (evalCall (Tp prim1) 100000 9 [] St.start) = true := by kernel_rfl
theorem sure_ans : Answers Tryd.prog GL 9 [] (.b true) := by
  obtain ⟨σ, h⟩ := isTrue_spec sure_eval
  exact answers_of_eval (Tp_ok _) (Tp_fnOk _) prim1_ok (Tp_row _) h rfl rfl
#print axioms sure_ans
end Go.Pv
