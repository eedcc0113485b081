/- Whether two plain values are the same. -/
import Derived.Test.YtigcolhieieakaaDoorPvM
namespace Go.Pv
open Go

mutual
def AV.eqb : AV → AV → Bool
  | .b x, .b y => match x, y with
    | true, true => true
    | false, false => true
    | _, _ => false
  | .i k x, .i k' y => decide (k = k') && decide (x = y)
  | .s x, .s y => decide (x = y)
  | .np, .np => true
  | .sl xs k, .sl ys k' => Nat.beq k k' && AV.eqbs xs ys
  | .ne, .ne => true
  | .e ty x, .e ty' y => Nat.beq ty ty' && AV.eqb x y
  | .a xs, .a ys => AV.eqbs xs ys
  | .t xs, .t ys => AV.eqbs xs ys
  | .nf, .nf => true
  | _, _ => false
def AV.eqbs : List AV → List AV → Bool
  | [], [] => true
  | x :: xs, y :: ys => AV.eqb x y && AV.eqbs xs ys
  | _, _ => false
end

mutual
theorem AV.eqb_eq : ∀ {x y : AV}, AV.eqb x y = true → x = y
  | .b x, y, h => by cases y <;> simp [AV.eqb] at h; rename_i z; cases x <;> cases z <;> simp_all
  | .i k n, y, h => by cases y <;> simp [AV.eqb] at h; rw [h.1, h.2]
  | .s l, y, h => by cases y <;> simp [AV.eqb] at h; rw [h]
  | .np, y, h => by cases y <;> simp [AV.eqb] at h; rfl
  | .p l o, y, h => by cases y <;> simp [AV.eqb] at h
  | .ip cs, y, h => by cases y <;> simp [AV.eqb] at h
  | .sl es k, y, h => by
    cases y <;> simp [AV.eqb] at h
    rw [h.1, AV.eqbs_eq h.2]
  | .ne, y, h => by cases y <;> simp [AV.eqb] at h; rfl
  | .e ty v, y, h => by
    cases y <;> simp [AV.eqb] at h
    rw [h.1, AV.eqb_eq h.2]
  | .a cs, y, h => by
    cases y <;> simp [AV.eqb] at h
    rw [AV.eqbs_eq h]
  | .t vs, y, h => by
    cases y <;> simp [AV.eqb] at h
    rw [AV.eqbs_eq h]
  | .f fn cs, y, h => by cases y <;> simp [AV.eqb] at h
  | .nf, y, h => by cases y <;> simp [AV.eqb] at h; rfl
theorem AV.eqbs_eq : ∀ {xs ys : List AV}, AV.eqbs xs ys = true → xs = ys
  | [], ys, h => by cases ys <;> simp [AV.eqbs] at h; rfl
  | x :: xs, ys, h => by
    cases ys <;> simp [AV.eqbs] at h
    rw [AV.eqb_eq h.1, AV.eqbs_eq h.2]
end

/-- Is this what the evaluator answers? -/
def isAns (o : Option (AV × St)) (r : AV) : Bool := match o with
  | some (x, _) => AV.eqb (untok x) r && good r
  | none => false

section
variable {P : Program} {T : Tab} {GL : List (Nat × Nat × Value)}
theorem answers_of_isAns (ok : TabOk P T) (fok : FnOk P T) (hkn : ∀ f p, T.prim f = some p → Known P GL f p) (hkr : ∀ f p, T.rprim f = some p → KnownR P GL f p) {f : FuncId} {vs : List AV} {r : AV} {n : Nat} (h : isAns (evalCall T n f vs St.start) r = true) : Answers P GL f vs r := by
  unfold isAns at h
  split at h
  · rename_i x σ he
    simp only [Bool.and_eq_true] at h
    exact answers_of_eval ok fok hkn hkr he (AV.eqb_eq h.1) h.2
  · simp at h
end
end Go.Pv
