/- Written by gen_form.py, a program of this work: what the names, the forms and the float test of layer 4 answer: the program's and the document's. -/
import Derived.Test.YtigcolhieieakaaDoorPvS
import Derived.Test.YtigcolhieieakaaDoorPvQ
namespace Go.Pv
open Go Go.Proofs Go.RowKit
set_option linter.unusedVariables false
set_option maxRecDepth 100000

def namesV : AV := .a [.s [117, 110, 114, 101, 97, 99, 104, 97, 98, 108, 101], .s [110, 111, 112], .s [98, 108, 111, 99, 107], .s [108, 111, 111, 112], .s [105, 102], .s [], .s [], .s [], .s [], .s [], .s [], .s [], .s [98, 114], .s [98, 114, 95, 105, 102], .s [98, 114, 95, 116, 97, 98, 108, 101], .s [114, 101, 116, 117, 114, 110], .s [99, 97, 108, 108], .s [99, 97, 108, 108, 95, 105, 110, 100, 105, 114, 101, 99, 116], .s [], .s [], .s [], .s [], .s [], .s [], .s [], .s [], .s [100, 114, 111, 112], .s [115, 101, 108, 101, 99, 116], .s [], .s [], .s [], .s [], .s [108, 111, 99, 97, 108, 46, 103, 101, 116], .s [108, 111, 99, 97, 108, 46, 115, 101, 116], .s [108, 111, 99, 97, 108, 46, 116, 101, 101], .s [103, 108, 111, 98, 97, 108, 46, 103, 101, 116], .s [103, 108, 111, 98, 97, 108, 46, 115, 101, 116], .s [], .s [], .s [], .s [105, 51, 50, 46, 108, 111, 97, 100], .s [105, 54, 52, 46, 108, 111, 97, 100], .s [], .s [], .s [105, 51, 50, 46, 108, 111, 97, 100, 56, 95, 115], .s [105, 51, 50, 46, 108, 111, 97, 100, 56, 95, 117], .s [105, 51, 50, 46, 108, 111, 97, 100, 49, 54, 95, 115], .s [105, 51, 50, 46, 108, 111, 97, 100, 49, 54, 95, 117], .s [105, 54, 52, 46, 108, 111, 97, 100, 56, 95, 115], .s [105, 54, 52, 46, 108, 111, 97, 100, 56, 95, 117], .s [105, 54, 52, 46, 108, 111, 97, 100, 49, 54, 95, 115], .s [105, 54, 52, 46, 108, 111, 97, 100, 49, 54, 95, 117], .s [105, 54, 52, 46, 108, 111, 97, 100, 51, 50, 95, 115], .s [105, 54, 52, 46, 108, 111, 97, 100, 51, 50, 95, 117], .s [105, 51, 50, 46, 115, 116, 111, 114, 101], .s [105, 54, 52, 46, 115, 116, 111, 114, 101], .s [], .s [], .s [105, 51, 50, 46, 115, 116, 111, 114, 101, 56], .s [105, 51, 50, 46, 115, 116, 111, 114, 101, 49, 54], .s [105, 54, 52, 46, 115, 116, 111, 114, 101, 56], .s [105, 54, 52, 46, 115, 116, 111, 114, 101, 49, 54], .s [105, 54, 52, 46, 115, 116, 111, 114, 101, 51, 50], .s [109, 101, 109, 111, 114, 121, 46, 115, 105, 122, 101], .s [109, 101, 109, 111, 114, 121, 46, 103, 114, 111, 119], .s [105, 51, 50, 46, 99, 111, 110, 115, 116], .s [105, 54, 52, 46, 99, 111, 110, 115, 116], .s [], .s [], .s [105, 51, 50, 46, 101, 113, 122], .s [105, 51, 50, 46, 101, 113], .s [105, 51, 50, 46, 110, 101], .s [105, 51, 50, 46, 108, 116, 95, 115], .s [105, 51, 50, 46, 108, 116, 95, 117], .s [105, 51, 50, 46, 103, 116, 95, 115], .s [105, 51, 50, 46, 103, 116, 95, 117], .s [105, 51, 50, 46, 108, 101, 95, 115], .s [105, 51, 50, 46, 108, 101, 95, 117], .s [105, 51, 50, 46, 103, 101, 95, 115], .s [105, 51, 50, 46, 103, 101, 95, 117], .s [105, 54, 52, 46, 101, 113, 122], .s [105, 54, 52, 46, 101, 113], .s [105, 54, 52, 46, 110, 101], .s [105, 54, 52, 46, 108, 116, 95, 115], .s [105, 54, 52, 46, 108, 116, 95, 117], .s [105, 54, 52, 46, 103, 116, 95, 115], .s [105, 54, 52, 46, 103, 116, 95, 117], .s [105, 54, 52, 46, 108, 101, 95, 115], .s [105, 54, 52, 46, 108, 101, 95, 117], .s [105, 54, 52, 46, 103, 101, 95, 115], .s [105, 54, 52, 46, 103, 101, 95, 117], .s [], .s [], .s [], .s [], .s [], .s [], .s [], .s [], .s [], .s [], .s [], .s [], .s [105, 51, 50, 46, 99, 108, 122], .s [105, 51, 50, 46, 99, 116, 122], .s [105, 51, 50, 46, 112, 111, 112, 99, 110, 116], .s [105, 51, 50, 46, 97, 100, 100], .s [105, 51, 50, 46, 115, 117, 98], .s [105, 51, 50, 46, 109, 117, 108], .s [105, 51, 50, 46, 100, 105, 118, 95, 115], .s [105, 51, 50, 46, 100, 105, 118, 95, 117], .s [105, 51, 50, 46, 114, 101, 109, 95, 115], .s [105, 51, 50, 46, 114, 101, 109, 95, 117], .s [105, 51, 50, 46, 97, 110, 100], .s [105, 51, 50, 46, 111, 114], .s [105, 51, 50, 46, 120, 111, 114], .s [105, 51, 50, 46, 115, 104, 108], .s [105, 51, 50, 46, 115, 104, 114, 95, 115], .s [105, 51, 50, 46, 115, 104, 114, 95, 117], .s [105, 51, 50, 46, 114, 111, 116, 108], .s [105, 51, 50, 46, 114, 111, 116, 114], .s [105, 54, 52, 46, 99, 108, 122], .s [105, 54, 52, 46, 99, 116, 122], .s [105, 54, 52, 46, 112, 111, 112, 99, 110, 116], .s [105, 54, 52, 46, 97, 100, 100], .s [105, 54, 52, 46, 115, 117, 98], .s [105, 54, 52, 46, 109, 117, 108], .s [105, 54, 52, 46, 100, 105, 118, 95, 115], .s [105, 54, 52, 46, 100, 105, 118, 95, 117], .s [105, 54, 52, 46, 114, 101, 109, 95, 115], .s [105, 54, 52, 46, 114, 101, 109, 95, 117], .s [105, 54, 52, 46, 97, 110, 100], .s [105, 54, 52, 46, 111, 114], .s [105, 54, 52, 46, 120, 111, 114], .s [105, 54, 52, 46, 115, 104, 108], .s [105, 54, 52, 46, 115, 104, 114, 95, 115], .s [105, 54, 52, 46, 115, 104, 114, 95, 117], .s [105, 54, 52, 46, 114, 111, 116, 108], .s [105, 54, 52, 46, 114, 111, 116, 114], .s [], .s [], .s [], .s [], .s [], .s [], .s [], .s [], .s [], .s [], .s [], .s [], .s [], .s [], .s [], .s [], .s [], .s [], .s [], .s [], .s [], .s [], .s [], .s [], .s [], .s [], .s [], .s [], .s [105, 51, 50, 46, 119, 114, 97, 112, 95, 105, 54, 52], .s [], .s [], .s [], .s [], .s [105, 54, 52, 46, 101, 120, 116, 101, 110, 100, 95, 105, 51, 50, 95, 115], .s [105, 54, 52, 46, 101, 120, 116, 101, 110, 100, 95, 105, 51, 50, 95, 117]]
/-- Each number's form; 10: none. -/
def formL : List Nat := [0, 0, 6, 6, 7, 10, 10, 10, 10, 10, 10, 10, 3, 3, 8, 0, 3, 9, 10, 10, 10, 10, 10, 10, 10, 10, 0, 0, 10, 10, 10, 10, 3, 3, 3, 3, 3, 10, 10, 10, 4, 4, 10, 10, 4, 4, 4, 4, 4, 4, 4, 4, 4, 4, 4, 4, 10, 10, 4, 4, 4, 4, 4, 5, 5, 1, 2, 10, 10, 0, 0, 0, 0, 0, 0, 0, 0, 0, 0, 0, 0, 0, 0, 0, 0, 0, 0, 0, 0, 0, 0, 10, 10, 10, 10, 10, 10, 10, 10, 10, 10, 10, 10, 0, 0, 0, 0, 0, 0, 0, 0, 0, 0, 0, 0, 0, 0, 0, 0, 0, 0, 0, 0, 0, 0, 0, 0, 0, 0, 0, 0, 0, 0, 0, 0, 0, 0, 0, 0, 10, 10, 10, 10, 10, 10, 10, 10, 10, 10, 10, 10, 10, 10, 10, 10, 10, 10, 10, 10, 10, 10, 10, 10, 10, 10, 10, 10, 0, 10, 10, 10, 10, 0, 0, 10, 10, 10, 10, 10, 10, 10, 10, 10, 10, 10, 10, 10, 10, 10, 10, 10, 10, 10, 10, 10, 10, 10, 10, 10, 10, 10, 10, 10, 10, 10, 10, 10, 10, 10, 10, 10, 10, 10, 10, 10, 10, 10, 10, 10, 10, 10, 10, 10, 10, 10, 10, 10, 10, 10, 10, 10, 10, 10, 10, 10, 10, 10, 10, 10, 10, 10, 10, 10, 10, 10, 10, 10, 10, 10, 10, 10, 10, 10, 10, 10, 10]
def floatL : List Bool := [false, false, false, false, false, false, false, false, false, false, false, false, false, false, false, false, false, false, false, false, false, false, false, false, false, false, false, false, false, false, false, false, false, false, false, false, false, false, false, false, false, false, true, true, false, false, false, false, false, false, false, false, false, false, false, false, true, true, false, false, false, false, false, false, false, false, false, true, true, false, false, false, false, false, false, false, false, false, false, false, false, false, false, false, false, false, false, false, false, false, false, true, true, true, true, true, true, true, true, true, true, true, true, false, false, false, false, false, false, false, false, false, false, false, false, false, false, false, false, false, false, false, false, false, false, false, false, false, false, false, false, false, false, false, false, false, false, false, false, true, true, true, true, true, true, true, true, true, true, true, true, true, true, true, true, true, true, true, true, true, true, true, true, true, true, true, true, false, true, true, true, true, false, false, true, true, true, true, true, true, true, true, true, true, true, true, true, true, true, true, true, true, false, false, false, false, false, false, false, false, false, false, false, false, false, false, false, false, false, false, false, false, false, false, false, false, false, false, false, false, false, false, false, false, false, false, false, false, false, false, false, false, false, false, false, false, false, false, false, false, false, false, false, false, false, false, false, false, false, false, false, false, false, false, false, false]

theorem known_of_all {prim : Nat → Option (List AV → Option AV)} (hkn : ∀ f p, (Tp prim).prim f = some p → Known Tryd.prog GL f p) {f : FuncId} {p : List AV → Option AV} {n : Nat} (hfn : ∃ fn, Tryd.prog.funcs[f]? = some fn ∧ fn.name ≠ "runtime.NumGoroutine" ∧ fn.body.isSome = true)
    (h : ∀ vs r, p vs = some r → goods vs = true ∧ isAns (evalCall (Tp prim) n f vs St.start) r = true) : Known Tryd.prog GL f p where
  fn := hfn
  ans vs r hp := by
    obtain ⟨h1, h2⟩ := h vs r hp
    refine ⟨h1, ?_, answers_of_isAns (Tp_ok _) (Tp_fnOk _) hkn (Tp_row _) h2⟩
    unfold isAns at h2
    split at h2
    · simp only [Bool.and_eq_true] at h2; exact h2.2
    · simp at h2

def pNames : List AV → Option AV
  | [] => some namesV
  | _ => none

theorem known_names : Known Tryd.prog GL 72 pNames :=
  known_of_all prim1_ok (n := 100000) ⟨_, Tryd.func72, by decide, rfl⟩ fun vs r h => by
    unfold pNames at h
    split at h
    · cases h
      exact ⟨rfl, by kernel_rfl⟩
    · cases h

/-- More functions that are given. -/
def prims (l : List (Nat × (List AV → Option AV))) (n : Nat) : Option (List AV → Option AV) := match l with
  | [] => none
  | (k, p) :: r => match Nat.beq n k with
    | true => some p
    | false => prims r n

theorem prims_ok {l : List (Nat × (List AV → Option AV))} (h : ∀ x ∈ l, Known Tryd.prog GL x.1 x.2) : ∀ f p, (Tp (prims l)).prim f = some p → Known Tryd.prog GL f p := by
  have : ∀ f p, prims l f = some p → Known Tryd.prog GL f p := by
    induction l with
    | nil => intro f p h; simp [prims] at h
    | cons x r ih =>
      obtain ⟨k, q⟩ := x
      intro f p hp
      simp only [prims] at hp
      split at hp
      · rename_i hf
        have := Nat.eq_of_beq_eq_true hf
        subst this
        cases hp
        exact h _ List.mem_cons_self
      · exact ih (fun y hy => h y (List.mem_cons_of_mem _ hy)) f p hp
  exact fun f p hp => this f p hp

def L2 : List (Nat × (List AV → Option AV)) := [(13, pNum), (72, pNames)]
theorem L2_ok : ∀ x ∈ L2, Known Tryd.prog GL x.1 x.2 := by
  intro x hx
  simp only [L2, List.mem_cons, List.not_mem_nil, or_false] at hx
  rcases hx with rfl | rfl
  · exact known_num
  · exact known_names

def errV (n : Nat) : AV := .e 64 (.i .i64 n)

/-- What is asked of a number. -/
def pByte (g : Nat → Option AV) : List AV → Option AV
  | [.i .u8 (.ofNat k)] => match Nat.ble k 255 with
    | true => g k
    | false => none
  | _ => none

theorem byte_all {g : Nat → Option AV} {f : FuncId} {T : Tab} (h : (List.range 256).all (fun k => match g k with | some r => isAns (evalCall T 100000 f [.i .u8 (.ofNat k)] St.start) r | none => true) = true) : ∀ vs r, pByte g vs = some r → goods vs = true ∧ isAns (evalCall T 100000 f vs St.start) r = true := by
  intro vs r hp
  unfold pByte at hp
  split at hp
  · rename_i k
    split at hp
    · rename_i hk
      have := List.all_eq_true.1 h k (List.mem_range.2 (by have := Nat.le_of_ble_eq_true hk; omega))
      rw [hp] at this
      exact ⟨rfl, this⟩
    · simp at hp
  · simp at hp

def gForm (k : Nat) : Option AV := match formL[k]? with
  | some 10 => some (.t [.i .i64 0, errV 1])
  | some f => some (.t [.i .i64 f, .ne])
  | none => none
def gFloat (k : Nat) : Option AV := match floatL[k]? with
  | some b => some (.b b)
  | none => none
def gFormR (k : Nat) : Option AV := match formL[k]? with
  | some 10 => some (.t [.i .i64 0, .b false])
  | some f => some (.t [.i .i64 f, .b true])
  | none => none

theorem known_form : Known Tryd.prog GL 38 (pByte gForm) :=
  known_of_all (prims_ok L2_ok) ⟨_, Tryd.func38, by decide, rfl⟩ (byte_all (by kernel_rfl))
theorem known_float : Known Tryd.prog GL 39 (pByte gFloat) :=
  known_of_all (prims_ok L2_ok) ⟨_, Tryd.func39, by decide, rfl⟩ (byte_all (by kernel_rfl))
end Go.Pv
