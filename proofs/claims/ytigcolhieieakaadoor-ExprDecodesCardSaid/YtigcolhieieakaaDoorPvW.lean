/- More fuel changes nothing. What the evaluator answers, as conditions: rule by rule. -/
import Derived.Test.YtigcolhieieakaaDoorPvQ
namespace Go.Pv
open Go Go.RowKit
set_option linter.unusedVariables false
set_option linter.unusedSimpArgs false

def Kle (K K' : CallK) : Prop := ∀ f vs σ r, K f vs σ = some r → K' f vs σ = some r

theorem pureK_mono {K K' : CallK} (h : Kle K K') {f : FuncId} {vs : List AV} {r : AV} (e : pureK K f vs = some r) : pureK K' f vs = some r := by
  unfold pureK at e ⊢
  split at e
  · rename_i hg
    cases hk : K f (vs.map untok) St.start with
    | none => rw [hk] at e; cases e
    | some x => rw [hk] at e; rw [h _ _ _ _ hk]; exact e
  · cases e

theorem rowOf_mono {K K' : CallK} (h : Kle K K') {f : FuncId} {vs : List AV} {r : List AV × Nat} (e : rowOf K f vs = some r) : rowOf K' f vs = some r := by
  unfold rowOf at e ⊢
  split at e
  · rename_i hg
    cases hk : K f (vs.map untok) St.start with
    | none => rw [hk] at e; cases e
    | some x => rw [hk] at e; rw [h _ _ _ _ hk]; exact e
  · cases e

theorem evalOp_mono {T : Tab} {K K' : CallK} (h : Kle K K') {n j : Nat} {o : Oper} {ρ : Nat → AV} {σ : St} {r : AV × St} (e : evalOp T K n j o ρ σ = some r) : evalOp T K' n j o ρ σ = some r := by
  cases hop : o.op with
  | call c =>
    simp only [evalOp, hop] at e ⊢
    cases ha : opds ρ c.args.toList with
    | none => rw [ha] at e; cases e
    | some vs =>
      rw [ha] at e
      simp only at e ⊢
      cases hc : c.callee with
      | builtin b => rw [hc] at e; exact e
      | invoke a b => rw [hc] at e; cases e
      | value f =>
        rw [hc] at e
        simp only at e ⊢
        cases hf : opd ρ f with
        | none => rw [hf] at e; cases e
        | some v =>
          rw [hf] at e
          cases v <;> try (cases e; done)
          rename_i fn cs
          simp only at e ⊢
          unfold rowK at e ⊢
          cases hrp : T.rprim fn with
          | some p => rw [hrp] at e; exact e
          | none =>
            rw [hrp] at e
            simp only at e ⊢
            cases hr : T.row fn with
            | true =>
              rw [hr] at e
              simp only at e ⊢
              cases hq : rowOf K fn (vs ++ cs) with
              | none => rw [hq] at e; cases e
              | some x => rw [hq] at e; rw [rowOf_mono h hq]; exact e
            | false =>
              rw [hr] at e
              simp only at e ⊢
              unfold primK at e ⊢
              cases hp : T.prim fn with
              | some p =>
                rw [hp] at e
                simp only at e ⊢
                cases hu : T.pure fn with
                | false => rw [hu] at e; exact e
                | true =>
                  rw [hu] at e
                  simp only at e ⊢
                  cases hq : p (vs ++ cs) with
                  | some r => rw [hq] at e; exact e
                  | none =>
                    rw [hq] at e
                    simp only at e ⊢
                    cases hq : pureK K fn (vs ++ cs) with
                    | none => rw [hq] at e; cases e
                    | some x => rw [hq] at e; rw [pureK_mono h hq]; exact e
              | none =>
                rw [hp] at e
                simp only at e ⊢
                cases hu : T.pure fn with
                | false => rw [hu] at e; exact h _ _ _ _ e
                | true =>
                  rw [hu] at e
                  simp only at e ⊢
                  cases hq : pureK K fn (vs ++ cs) with
                  | none => rw [hq] at e; cases e
                  | some x => rw [hq] at e; rw [pureK_mono h hq]; exact e
  | makeFunc f first cs =>
    simp only [evalOp, hop] at e ⊢
    cases f <;> first | exact e | skip
    obtain ⟨l⟩ := first
    cases l <;> exact e
  | slice t x lo hi mx =>
    simp only [evalOp, hop] at e ⊢
    cases mx <;> exact e
  | _ => simp only [evalOp, hop] at e ⊢; exact e

theorem evalOps_mono {T : Tab} {K K' : CallK} (h : Kle K K') {ops : Array Oper} {n : Nat} : ∀ {os : List Oper} {j : Nat} {fr : Fr} {σ : St} {r : Fr × St}, evalOps T K ops n j os fr σ = some r → evalOps T K' ops n j os fr σ = some r
  | [], j, fr, σ, r, e => e
  | o :: os, j, fr, σ, r, e => by
    simp only [evalOps] at e ⊢
    cases hw : wantV ops o fr.rd with
    | true =>
      rw [hw] at e
      simp only at e ⊢
      cases ho : evalOp T K n j o fr.rd σ with
      | none => rw [ho] at e; cases e
      | some x =>
        rw [ho] at e
        rw [evalOp_mono h ho]
        simp only at e ⊢
        cases hd : o.dst with
        | none => rw [hd] at e; exact evalOps_mono h e
        | some d => rw [hd] at e; exact evalOps_mono h e
    | false =>
      rw [hw] at e
      simp only at e ⊢
      cases hd : o.dst with
      | none => rw [hd] at e; exact evalOps_mono h e
      | some d => rw [hd] at e; exact evalOps_mono h e

theorem callWith_mono {T : Tab} {ev ev' : Code → Fr → St → Option (Ex × Fr × St)} (h : ∀ c fr σ r, ev c fr σ = some r → ev' c fr σ = some r) : Kle (callWith T ev) (callWith T ev') := by
  intro f vs σ r e
  unfold callWith at e ⊢
  cases hf : T.fn f with
  | none => rw [hf] at e; cases e
  | some fn =>
    rw [hf] at e
    simp only at e ⊢
    cases hb : fn.body with
    | none => rw [hb] at e; cases e
    | some c =>
      rw [hb] at e
      simp only at e ⊢
      split at e
      · rename_i hl
        rw [if_pos hl]
        cases hv : ev c (Fr.ofList 0 vs .nil) σ with
        | none => rw [hv] at e; cases e
        | some x => rw [hv] at e; rw [h _ _ _ _ hv]; exact e
      · cases e

section
variable (T : Tab) (n : Nat) (fr : Fr) (σ : St)
theorem ec_region (id : Nat) (ops : Array Oper) (draw : Bool) : evalCode T (n + 1) (.region id ops draw) fr σ = match evalOps T (callWith T (evalCode T n)) ops ops.size 0 ops.toList fr σ with
      | some (fr', σ') => match draw && hasStore ops with
        | true => match okDrawD T ops fr'.rd with
          | true => some (.normal, fr', σ')
          | false => none
        | false => some (.normal, fr', σ')
      | none => none := rfl
theorem ec_seq (x y : Code) : evalCode T (n + 1) (.seq x y) fr σ = match evalCode T n x fr σ with
      | some (.normal, fr', σ') => evalCode T n y fr' σ'
      | r => r := rfl
theorem ec_cond (x : Operand) (y z : Code) : evalCode T (n + 1) (.cond x y z) fr σ = match opd fr.rd x with
      | some (.b true) => evalCode T n y fr σ
      | some (.b false) => evalCode T n z fr σ
      | _ => none := rfl
theorem ec_block (id : Nat) (x : Code) : evalCode T (n + 1) (.block id x) fr σ = match evalCode T n x fr σ with
      | some (.exit id', fr', σ') => if id' = id then some (.normal, fr', σ') else some (.exit id', fr', σ')
      | r => r := rfl
theorem ec_loop (x : Code) : evalCode T (n + 1) (.loop x) fr σ = match evalCode T n x fr σ with
      | some (.normal, fr', σ') => evalCode T n (.loop x) fr' σ'
      | r => r := rfl
end

theorem evalCode_step {T : Tab} : ∀ n c fr σ r, evalCode T n c fr σ = some r → evalCode T (n + 1) c fr σ = some r := by
  intro n
  induction n with
  | zero => intro c fr σ r e; simp [evalCode] at e
  | succ n ih =>
    have hK : Kle (callWith T (evalCode T n)) (callWith T (evalCode T (n + 1))) := callWith_mono ih
    intro c fr σ r e
    cases c with
    | region id ops draw =>
      rw [ec_region] at e ⊢
      cases ho : evalOps T (callWith T (evalCode T n)) ops ops.size 0 ops.toList fr σ with
      | none => rw [ho] at e; cases e
      | some x => rw [ho] at e; rw [evalOps_mono hK ho]; exact e
    | seq a b =>
      rw [ec_seq] at e ⊢
      cases ha : evalCode T n a fr σ with
      | none => rw [ha] at e; cases e
      | some x =>
        rw [ha] at e
        rw [ih _ _ _ _ ha]
        obtain ⟨x, fr', σ'⟩ := x
        cases x with
        | normal => exact ih _ _ _ _ e
        | _ => exact e
    | cond b y z =>
      rw [ec_cond] at e ⊢
      split at e
      · exact ih _ _ _ _ e
      · exact ih _ _ _ _ e
      · cases e
    | block id a =>
      rw [ec_block] at e ⊢
      cases ha : evalCode T n a fr σ with
      | none => rw [ha] at e; cases e
      | some x => rw [ha] at e; rw [ih _ _ _ _ ha]; exact e
    | loop a =>
      rw [ec_loop] at e ⊢
      cases ha : evalCode T n a fr σ with
      | none => rw [ha] at e; cases e
      | some x =>
        rw [ha] at e
        rw [ih _ _ _ _ ha]
        obtain ⟨x, fr', σ'⟩ := x
        cases x with
        | normal => exact ih _ _ _ _ e
        | _ => exact e
    | _ => simp only [evalCode] at e ⊢ <;> exact e

theorem evalCode_mono {T : Tab} {n m : Nat} (h : n ≤ m) {c : Code} {fr : Fr} {σ : St} {r : Ex × Fr × St} (e : evalCode T n c fr σ = some r) : evalCode T m c fr σ = some r := by
  induction h with
  | refl => exact e
  | step _ ih => exact evalCode_step _ _ _ _ _ ih
theorem K_mono {T : Tab} {n m : Nat} (h : n ≤ m) : Kle (callWith T (evalCode T n)) (callWith T (evalCode T m)) := callWith_mono fun _ _ _ _ e => evalCode_mono h e

/- The conditions. What comes behind is kept in constants, never in a lambda: so simp leaves it alone until it is its turn. -/
def CodeW (T : Tab) (c : Code) (fr : Fr) (σ : St) (Q : Ex → Fr → St → Prop) : Prop := ∃ n x fr' σ', evalCode T n c fr σ = some (x, fr', σ') ∧ Q x fr' σ'
def OpsW (T : Tab) (ops : Array Oper) (m j : Nat) (os : List Oper) (fr : Fr) (σ : St) (Q : Fr → St → Prop) : Prop := ∃ n fr' σ', evalOps T (callWith T (evalCode T n)) ops m j os fr σ = some (fr', σ') ∧ Q fr' σ'
def mkO (o : Op) : Oper := { dst := none, op := o, type := 0, pos := "", after := #[], guard := none }
def OpW (T : Tab) (m j : Nat) (o : Op) (ρ : Nat → AV) (σ : St) (Q : AV → St → Prop) : Prop := ∃ n v σ', evalOp T (callWith T (evalCode T n)) m j (mkO o) ρ σ = some (v, σ') ∧ Q v σ'
def CallW (T : Tab) (f : FuncId) (vs : List AV) (σ : St) (Q : AV → St → Prop) : Prop := ∃ n v σ', evalCall T n f vs σ = some (v, σ') ∧ Q v σ'

/-- A value, then on. -/
def vW (o : Option AV) (σ : St) (Q : AV → St → Prop) : Prop := ∃ v, o = some v ∧ Q v σ
/-- A value and a state, then on. -/
def pW (o : Option (AV × St)) (Q : AV → St → Prop) : Prop := ∃ v σ', o = some (v, σ') ∧ Q v σ'
def force (p : Prop) : Prop := p
/-- One of two that are put off. -/
def bW (c : Bool) (a b : Prop) : Prop := (c = true → a) ∧ (c = false → b)
def DC (T : Tab) (c : Code) (fr : Fr) (σ : St) (Q : Ex → Fr → St → Prop) : Prop := CodeW T c fr σ Q
def DQ (Q : Ex → Fr → St → Prop) (x : Ex) (fr : Fr) (σ : St) : Prop := Q x fr σ
def DO (T : Tab) (m j : Nat) (o : Op) (ρ : Nat → AV) (σ : St) (Q : AV → St → Prop) : Prop := OpW T m j o ρ σ Q
def DOs (T : Tab) (ops : Array Oper) (m j : Nat) (os : List Oper) (fr : Fr) (σ : St) (Q : Fr → St → Prop) : Prop := OpsW T ops m j os fr σ Q
theorem force_DC (T : Tab) (c : Code) (fr : Fr) (σ : St) (Q : Ex → Fr → St → Prop) : force (DC T c fr σ Q) = CodeW T c fr σ Q := rfl
theorem force_DQ (Q : Ex → Fr → St → Prop) (x : Ex) (fr : Fr) (σ : St) : force (DQ Q x fr σ) = Q x fr σ := rfl
theorem force_DO (T : Tab) (m j : Nat) (o : Op) (ρ : Nat → AV) (σ : St) (Q : AV → St → Prop) : force (DO T m j o ρ σ Q) = OpW T m j o ρ σ Q := rfl
theorem force_DOs (T : Tab) (ops : Array Oper) (m j : Nat) (os : List Oper) (fr : Fr) (σ : St) (Q : Fr → St → Prop) : force (DOs T ops m j os fr σ Q) = OpsW T ops m j os fr σ Q := rfl

theorem vW_some (v : AV) (σ : St) (Q : AV → St → Prop) : vW (some v) σ Q = Q v σ := by simp [vW]
theorem pW_some (v : AV) (σ : St) (Q : AV → St → Prop) : pW (some (v, σ)) Q = Q v σ := by
  refine propext ⟨fun ⟨a, b, h, q⟩ => ?_, fun q => ⟨_, _, rfl, q⟩⟩
  cases h; exact q
theorem pW_pureV (o : Option AV) (σ : St) (Q : AV → St → Prop) : pW (pureV o σ) Q = vW o σ Q := by
  refine propext ⟨fun ⟨a, b, h, q⟩ => ?_, fun ⟨v, h, q⟩ => ?_⟩
  · cases o with
    | none => cases h
    | some v => cases h; exact ⟨_, rfl, q⟩
  · subst h; exact ⟨_, _, rfl, q⟩
theorem bW_true (a b : Prop) : bW true a b = force a := by simp [bW, force]
theorem bW_false (a b : Prop) : bW false a b = force b := by simp [bW, force]
theorem bW_intro {c : Bool} {a b : Prop} (h1 : c = true → force a) (h2 : c = false → force b) : bW c a b := ⟨h1, h2⟩

variable {T : Tab}
theorem CodeW.mk {c : Code} {fr : Fr} {σ : St} {Q : Ex → Fr → St → Prop} (n : Nat) {x fr' σ'} (h : evalCode T n c fr σ = some (x, fr', σ')) (q : Q x fr' σ') : CodeW T c fr σ Q := ⟨n, x, fr', σ', h, q⟩

theorem cw_skip (fr : Fr) (σ : St) (Q : Ex → Fr → St → Prop) : CodeW T .skip fr σ Q = Q .normal fr σ := by
  refine propext ⟨fun ⟨n, x, fr', σ', h, q⟩ => ?_, fun h => ⟨1, _, _, _, rfl, h⟩⟩
  cases n with
  | zero => simp [evalCode] at h
  | succ n => simp only [evalCode, Option.some.injEq, Prod.mk.injEq] at h; obtain ⟨rfl, rfl, rfl⟩ := h; exact q
theorem cw_ret (fr : Fr) (σ : St) (Q : Ex → Fr → St → Prop) : CodeW T .ret fr σ Q = Q .ret fr σ := by
  refine propext ⟨fun ⟨n, x, fr', σ', h, q⟩ => ?_, fun h => ⟨1, _, _, _, rfl, h⟩⟩
  cases n with
  | zero => simp [evalCode] at h
  | succ n => simp only [evalCode, Option.some.injEq, Prod.mk.injEq] at h; obtain ⟨rfl, rfl, rfl⟩ := h; exact q
theorem cw_exit (id : Nat) (fr : Fr) (σ : St) (Q : Ex → Fr → St → Prop) : CodeW T (.exit id) fr σ Q = Q (.exit id) fr σ := by
  refine propext ⟨fun ⟨n, x, fr', σ', h, q⟩ => ?_, fun h => ⟨1, _, _, _, rfl, h⟩⟩
  cases n with
  | zero => simp [evalCode] at h
  | succ n => simp only [evalCode, Option.some.injEq, Prod.mk.injEq] at h; obtain ⟨rfl, rfl, rfl⟩ := h; exact q

/-- What goes on behind the first half. -/
def thenW (T : Tab) (b : Code) (Q : Ex → Fr → St → Prop) : Ex → Fr → St → Prop
  | .normal, fr, σ => CodeW T b fr σ Q
  | x, fr, σ => Q x fr σ
theorem then_normal (b : Code) (Q : Ex → Fr → St → Prop) (fr : Fr) (σ : St) : thenW T b Q .normal fr σ = CodeW T b fr σ Q := rfl
theorem then_ret (b : Code) (Q : Ex → Fr → St → Prop) (fr : Fr) (σ : St) : thenW T b Q .ret fr σ = Q .ret fr σ := rfl
theorem then_exit (b : Code) (Q : Ex → Fr → St → Prop) (i : Nat) (fr : Fr) (σ : St) : thenW T b Q (.exit i) fr σ = Q (.exit i) fr σ := rfl
def blockW (id : Nat) (Q : Ex → Fr → St → Prop) : Ex → Fr → St → Prop
  | .exit i, fr, σ => bW (Nat.beq i id) (DQ Q .normal fr σ) (DQ Q (.exit i) fr σ)
  | x, fr, σ => Q x fr σ
theorem block_normal (id : Nat) (Q : Ex → Fr → St → Prop) (fr : Fr) (σ : St) : blockW id Q .normal fr σ = Q .normal fr σ := rfl
theorem block_ret (id : Nat) (Q : Ex → Fr → St → Prop) (fr : Fr) (σ : St) : blockW id Q .ret fr σ = Q .ret fr σ := rfl
theorem block_exit (id i : Nat) (Q : Ex → Fr → St → Prop) (fr : Fr) (σ : St) : blockW id Q (.exit i) fr σ = bW (Nat.beq i id) (DQ Q .normal fr σ) (DQ Q (.exit i) fr σ) := rfl

theorem cw_seq (a b : Code) (fr : Fr) (σ : St) (Q : Ex → Fr → St → Prop) : CodeW T (.seq a b) fr σ Q = CodeW T a fr σ (thenW T b Q) := by
  refine propext ⟨fun ⟨n, x, fr', σ', h, q⟩ => ?_, fun ⟨n, x, fr', σ', h, q⟩ => ?_⟩
  · cases n with
    | zero => simp [evalCode] at h
    | succ n =>
      rw [ec_seq] at h
      cases ha : evalCode T n a fr σ with
      | none => rw [ha] at h; cases h
      | some y =>
        rw [ha] at h
        obtain ⟨y, fr1, σ1⟩ := y
        refine ⟨n, _, _, _, ha, ?_⟩
        cases y with
        | normal => exact ⟨n, _, _, _, h, q⟩
        | _ => simp only [Option.some.injEq, Prod.mk.injEq] at h; obtain ⟨rfl, rfl, rfl⟩ := h; exact q
  · cases x with
    | normal =>
      obtain ⟨m, y, fr2, σ2, h2, q2⟩ := q
      refine ⟨max n m + 1, y, fr2, σ2, ?_, q2⟩
      rw [ec_seq]
      rw [evalCode_mono (Nat.le_max_left n m) h]
      exact evalCode_mono (Nat.le_max_right n m) h2
    | ret => exact ⟨n + 1, _, _, _, by rw [ec_seq]; rw [h], q⟩
    | exit i => exact ⟨n + 1, _, _, _, by rw [ec_seq]; rw [h], q⟩
theorem cw_block (id : Nat) (a : Code) (fr : Fr) (σ : St) (Q : Ex → Fr → St → Prop) : CodeW T (.block id a) fr σ Q = CodeW T a fr σ (blockW id Q) := by
  refine propext ⟨fun ⟨n, x, fr', σ', h, q⟩ => ?_, fun ⟨n, x, fr', σ', h, q⟩ => ?_⟩
  · cases n with
    | zero => simp [evalCode] at h
    | succ n =>
      rw [ec_block] at h
      cases ha : evalCode T n a fr σ with
      | none => rw [ha] at h; cases h
      | some y =>
        rw [ha] at h
        obtain ⟨y, fr1, σ1⟩ := y
        refine ⟨n, _, _, _, ha, ?_⟩
        cases y with
        | exit i =>
          simp only at h
          by_cases e : i = id
          · rw [if_pos e] at h
            simp only [Option.some.injEq, Prod.mk.injEq] at h; obtain ⟨rfl, rfl, rfl⟩ := h
            subst e
            exact ⟨fun _ => q, fun e => by simp at e⟩
          · rw [if_neg e] at h
            simp only [Option.some.injEq, Prod.mk.injEq] at h; obtain ⟨rfl, rfl, rfl⟩ := h
            exact ⟨fun e' => absurd (Nat.eq_of_beq_eq_true e') e, fun _ => q⟩
        | _ => simp only [Option.some.injEq, Prod.mk.injEq] at h; obtain ⟨rfl, rfl, rfl⟩ := h; exact q
  · cases x with
    | normal => exact ⟨n + 1, _, _, _, by rw [ec_block]; rw [h], q⟩
    | ret => exact ⟨n + 1, _, _, _, by rw [ec_block]; rw [h], q⟩
    | exit i =>
      by_cases e : i = id
      · subst e
        exact ⟨n + 1, .normal, fr', σ', by rw [ec_block]; rw [h]; simp, q.1 (by simp)⟩
      · refine ⟨n + 1, .exit i, fr', σ', by rw [ec_block]; rw [h]; simp [e], q.2 ?_⟩
        cases hb : Nat.beq i id with
        | false => rfl
        | true => exact absurd (Nat.eq_of_beq_eq_true hb) e

/-- A branch. -/
def ifW (o : Option AV) (a b : Prop) : Prop := ∃ v, o = some v ∧ (match v with | .b c => bW c a b | _ => False)
theorem ifW_some (c : Bool) (a b : Prop) : ifW (some (.b c)) a b = bW c a b := by simp [ifW]

theorem cw_cond (x : Operand) (y z : Code) (fr : Fr) (σ : St) (Q : Ex → Fr → St → Prop) : CodeW T (.cond x y z) fr σ Q = ifW (opd fr.rd x) (DC T y fr σ Q) (DC T z fr σ Q) := by
  refine propext ⟨fun ⟨n, x', fr', σ', h, q⟩ => ?_, fun h => ?_⟩
  · cases n with
    | zero => simp [evalCode] at h
    | succ n =>
      rw [ec_cond] at h
      split at h
      · rename_i hb; rw [hb, ifW_some, bW_true]; exact ⟨n, _, _, _, h, q⟩
      · rename_i hb; rw [hb, ifW_some, bW_false]; exact ⟨n, _, _, _, h, q⟩
      · cases h
  · obtain ⟨v, hv, h⟩ := h
    cases v <;> try (exact h.elim)
    rename_i c
    simp only at h
    cases c with
    | true =>
      rw [bW_true] at h
      obtain ⟨n, x', fr', σ', h, q⟩ := h
      exact ⟨n + 1, _, _, _, by rw [ec_cond]; rw [hv]; exact h, q⟩
    | false =>
      rw [bW_false] at h
      obtain ⟨n, x', fr', σ', h, q⟩ := h
      exact ⟨n + 1, _, _, _, by rw [ec_cond]; rw [hv]; exact h, q⟩

/-- Behind a region: where it stores, and is drawn, the look at the addresses. -/
def DD (T : Tab) (ops : Array Oper) (Q : Ex → Fr → St → Prop) (fr : Fr) (σ : St) : Prop := okDrawD T ops fr.rd = true ∧ Q .normal fr σ
theorem force_DD (ops : Array Oper) (Q : Ex → Fr → St → Prop) (fr : Fr) (σ : St) : force (DD T ops Q fr σ) = (okDrawD T ops fr.rd = true ∧ Q .normal fr σ) := rfl
def drawW (T : Tab) (ops : Array Oper) (draw : Bool) (Q : Ex → Fr → St → Prop) (fr : Fr) (σ : St) : Prop := bW (draw && hasStore ops) (DD T ops Q fr σ) (DQ Q .normal fr σ)
theorem draw_false (ops : Array Oper) (Q : Ex → Fr → St → Prop) (fr : Fr) (σ : St) : drawW T ops false Q fr σ = Q .normal fr σ := by
  unfold drawW; rw [show (false && hasStore ops) = false from rfl, bW_false]; rfl
theorem draw_true (ops : Array Oper) (Q : Ex → Fr → St → Prop) (fr : Fr) (σ : St) : drawW T ops true Q fr σ = bW (hasStore ops) (DD T ops Q fr σ) (DQ Q .normal fr σ) := by
  unfold drawW; rw [show (true && hasStore ops) = hasStore ops from by simp]

theorem cw_region (id : Nat) (ops : Array Oper) (draw : Bool) (fr : Fr) (σ : St) (Q : Ex → Fr → St → Prop) : CodeW T (.region id ops draw) fr σ Q = OpsW T ops ops.size 0 ops.toList fr σ (drawW T ops draw Q) := by
  refine propext ⟨fun ⟨n, x, fr', σ', h, q⟩ => ?_, fun ⟨n, fr', σ', h, q⟩ => ?_⟩
  · cases n with
    | zero => simp [evalCode] at h
    | succ n =>
      rw [ec_region] at h
      split at h
      · rename_i fr1 σ1 he
        refine ⟨n, fr1, σ1, he, ?_⟩
        split at h
        · rename_i hd
          unfold drawW
          rw [hd, bW_true]
          show _ ∧ _
          split at h
          · rename_i ho
            simp only [Option.some.injEq, Prod.mk.injEq] at h; obtain ⟨rfl, rfl, rfl⟩ := h; exact ⟨ho, q⟩
          · cases h
        · rename_i hd
          unfold drawW
          rw [hd, bW_false]
          simp only [Option.some.injEq, Prod.mk.injEq] at h; obtain ⟨rfl, rfl, rfl⟩ := h; exact q
      · cases h
  · unfold drawW at q
    cases hd : draw && hasStore ops with
    | true =>
      rw [hd, bW_true] at q
      exact ⟨n + 1, .normal, fr', σ', by rw [ec_region]; rw [h, hd]; simp only; rw [q.1], q.2⟩
    | false =>
      rw [hd, bW_false] at q
      exact ⟨n + 1, .normal, fr', σ', by rw [ec_region]; rw [h, hd], q⟩

def setD (fr : Fr) : Option Nat → AV → Fr
  | some d, v => Tr.set fr d v
  | none, _ => fr
theorem setD_some (fr : Fr) (d : Nat) (v : AV) : setD fr (some d) v = Tr.set fr d v := rfl
theorem setD_none (fr : Fr) (v : AV) : setD fr none v = fr := rfl

theorem ow_nil (ops : Array Oper) (m j : Nat) (fr : Fr) (σ : St) (Q : Fr → St → Prop) : OpsW T ops m j [] fr σ Q = Q fr (σ.bump m) := by
  refine propext ⟨fun ⟨n, fr', σ', h, q⟩ => ?_, fun h => ⟨0, _, _, rfl, h⟩⟩
  simp only [evalOps, Option.some.injEq, Prod.mk.injEq] at h; obtain ⟨rfl, rfl⟩ := h; exact q

/-- The other operations. -/
def contO (T : Tab) (ops : Array Oper) (m j : Nat) (os : List Oper) (fr : Fr) (dst : Option Nat) (Q : Fr → St → Prop) (v : AV) (σ : St) : Prop := OpsW T ops m (j + 1) os (setD fr dst v) σ Q
theorem contO_eq (ops : Array Oper) (m j : Nat) (os : List Oper) (fr : Fr) (dst : Option Nat) (Q : Fr → St → Prop) (v : AV) (σ : St) : contO T ops m j os fr dst Q v σ = OpsW T ops m (j + 1) os (setD fr dst v) σ Q := rfl
theorem evalOp_mkO {K : CallK} {m j : Nat} {o : Oper} {ρ : Nat → AV} {σ : St} : evalOp T K m j o ρ σ = evalOp T K m j (mkO o.op) ρ σ := rfl

theorem ow_consA (ops : Array Oper) (m j : Nat) (o : Oper) (os : List Oper) (fr : Fr) (σ : St) (Q : Fr → St → Prop) : OpsW T ops m j (o :: os) fr σ Q =
    bW (wantV ops o fr.rd) (DO T m j o.op fr.rd σ (contO T ops m j os fr o.dst Q)) (DOs T ops m (j + 1) os (setD fr o.dst .u) σ Q) := by
  refine propext ⟨fun ⟨n, fr', σ', h, q⟩ => ?_, fun h => ?_⟩
  · simp only [evalOps] at h
    cases hw : wantV ops o fr.rd with
    | true =>
      rw [bW_true]
      rw [hw] at h
      simp only at h
      split at h
      · rename_i v σ1 hv
        refine ⟨n, v, σ1, hv, ?_⟩
        show OpsW _ _ _ _ _ _ _ _
        split at h
        · rename_i d hd; rw [hd]; exact ⟨n, _, _, h, q⟩
        · rename_i hd; rw [hd]; exact ⟨n, _, _, h, q⟩
      · cases h
    | false =>
      rw [bW_false]
      show OpsW _ _ _ _ _ _ _ _
      rw [hw] at h
      simp only at h
      split at h
      · rename_i d hd; rw [hd]; exact ⟨n, _, _, h, q⟩
      · rename_i hd; rw [hd]; exact ⟨n, _, _, h, q⟩
  · cases hw : wantV ops o fr.rd with
    | true =>
      rw [hw, bW_true] at h
      obtain ⟨n, v, σ1, hv, n2, fr2, σ2, h2, q2⟩ := h
      have hv : evalOp T (callWith T (evalCode T n)) m j o fr.rd σ = some (v, σ1) := hv
      refine ⟨max n n2, fr2, σ2, ?_, q2⟩
      simp only [evalOps]
      rw [hw]
      simp only
      rw [evalOp_mono (K_mono (Nat.le_max_left n n2)) hv]
      cases hd : o.dst with
      | none => rw [hd] at h2; exact evalOps_mono (K_mono (Nat.le_max_right n n2)) h2
      | some d => rw [hd] at h2; exact evalOps_mono (K_mono (Nat.le_max_right n n2)) h2
    | false =>
      rw [hw, bW_false] at h
      obtain ⟨n2, fr2, σ2, h2, q2⟩ := h
      refine ⟨n2, fr2, σ2, ?_, q2⟩
      simp only [evalOps]
      rw [hw]
      simp only
      cases hd : o.dst with
      | none => rw [hd] at h2; exact h2
      | some d => rw [hd] at h2; exact h2

theorem ow_cons (ops : Array Oper) (m j : Nat) (dst : Option Nat) (op : Op) (ty : TypeId) (pos : String) (after : Array Edge) (os : List Oper) (fr : Fr) (σ : St) (Q : Fr → St → Prop) : OpsW T ops m j (⟨dst, op, ty, pos, after, none⟩ :: os) fr σ Q = OpW T m j op fr.rd σ (contO T ops m j os fr dst Q) := by
  rw [ow_consA, show wantV ops ⟨dst, op, ty, pos, after, none⟩ fr.rd = true from rfl, bW_true]; rfl
def wantG (ops : Array Oper) (i : Nat) (want : Bool) (ρ : Nat → AV) : Bool := match (ops.toList[i]?).bind (·.dst) with
    | some d => match ρ d with
      | .b x => x == want
      | _ => false
    | none => false
theorem ow_consG (ops : Array Oper) (m j : Nat) (dst : Option Nat) (op : Op) (ty : TypeId) (pos : String) (after : Array Edge) (i : Nat) (want : Bool) (os : List Oper) (fr : Fr) (σ : St) (Q : Fr → St → Prop) : OpsW T ops m j (⟨dst, op, ty, pos, after, some (i, want)⟩ :: os) fr σ Q =
    bW (wantG ops i want fr.rd) (DO T m j op fr.rd σ (contO T ops m j os fr dst Q)) (DOs T ops m (j + 1) os (setD fr dst .u) σ Q) := by
  rw [ow_consA]
  have : wantV ops ⟨dst, op, ty, pos, after, some (i, want)⟩ fr.rd = wantG ops i want fr.rd := by
    unfold wantV wantG
    simp only [Array.getElem?_toList]
    generalize (ops[i]?.bind fun x => x.dst) = o
    cases o with
    | none => rfl
    | some d => simp only; cases fr.rd d <;> rfl
  rw [this]

theorem opw_of {m j : Nat} {o : Op} {ρ : Nat → AV} {σ : St} {Q : AV → St → Prop} {x : Option (AV × St)} (he : ∀ K, evalOp T K m j (mkO o) ρ σ = x) : OpW T m j o ρ σ Q = pW x Q := by
  unfold OpW
  simp only [he]
  exact propext ⟨fun ⟨_, v, σ', h1, h2⟩ => ⟨v, σ', h1, h2⟩, fun ⟨v, σ', h1, h2⟩ => ⟨0, v, σ', h1, h2⟩⟩
section
variable (m j : Nat) (ρ : Nat → AV) (σ : St) (Q : AV → St → Prop)
theorem op_move (x : Operand) : OpW T m j (.move x) ρ σ Q = vW (opd ρ x) σ Q := by rw [← pW_pureV]; exact opw_of fun _ => rfl
theorem op_assign (x : Operand) : OpW T m j (.assign x) ρ σ Q = vW (opd ρ x) σ Q := by rw [← pW_pureV]; exact opw_of fun _ => rfl
def allocV (T : Tab) (j : Nat) (σ : St) : Option TI → Option (AV × St)
  | some ti => if boxFree j σ = true then some (newBox j ti.zero σ) else none
  | none => none
theorem op_alloc (t : TypeId) : OpW T m j (.alloc t) ρ σ Q = pW (allocV T j σ (T.inf t)) Q := opw_of fun _ => by cases h : T.inf t <;> simp only [evalOp, mkO, h, allocV]
def boxV (j : Nat) (σ : St) : Option AV → Option (AV × St)
  | some v => if flat v.cells = true ∧ boxFree j σ = true then some (newBox j v.cells σ) else none
  | none => none
theorem op_box (t : TypeId) (x : Operand) : OpW T m j (.box t x) ρ σ Q = pW (boxV j σ (opd ρ x)) Q := opw_of fun _ => by cases h : opd ρ x <;> simp only [evalOp, mkO, h, boxV]
def bldV (T : Tab) (t : TypeId) : Option (List (Nat × AV)) → Option AV
  | some l => buildV T t l
  | none => none
theorem op_build (t : TypeId) (ps : Array (Nat × Operand)) : OpW T m j (.build t ps) ρ σ Q = vW (bldV T t (parts ρ ps.toList)) σ Q := by
  rw [← pW_pureV]; exact opw_of fun _ => by cases h : parts ρ ps.toList <;> simp only [evalOp, mkO, h, bldV, pureV]
def bldS (T : Tab) (j : Nat) (t : TypeId) (n : Nat) (σ : St) : Option (List (Nat × AV)) → Option (AV × St)
  | some l => buildSliceV T j t n l σ
  | none => none
theorem op_buildSlice (t : TypeId) (n : Nat) (ps : Array (Nat × Operand)) : OpW T m j (.buildSlice t n ps) ρ σ Q = pW (bldS T j t n σ (parts ρ ps.toList)) Q := opw_of fun _ => by cases h : parts ρ ps.toList <;> simp only [evalOp, mkO, h, bldS]
/-- Of one value; of two. -/
def on1 (f : AV → Option AV) : Option AV → Option AV
  | some v => f v
  | none => none
def on2 (f : AV → AV → Option AV) : Option AV → Option AV → Option AV
  | some v, some u => f v u
  | _, _ => none
theorem on1_some (f : AV → Option AV) (v : AV) : on1 f (some v) = f v := rfl
theorem on2_some (f : AV → AV → Option AV) (v u : AV) : on2 f (some v) (some u) = f v u := rfl
def ldV (T : Tab) (t : TypeId) (σ : St) : AV → Option AV := fun v => loadV T t v σ
theorem ldV_eq (t : TypeId) (v : AV) : ldV T t σ v = loadV T t v σ := rfl
theorem op_load (t : TypeId) (x : Operand) : OpW T m j (.load t x) ρ σ Q = vW (on1 (ldV T t σ) (opd ρ x)) σ Q := by
  rw [← pW_pureV]; exact opw_of fun _ => by cases h : opd ρ x <;> simp only [evalOp, mkO, h, on1, ldV, pureV]
def stV (T : Tab) (t : TypeId) (σ : St) : Option AV → Option AV → Option (AV × St)
  | some v, some u => match storeV T t v u σ with
      | some σ' => some (.u, σ')
      | none => none
  | _, _ => none
theorem op_store (t : TypeId) (x y : Operand) : OpW T m j (.store t x y) ρ σ Q = pW (stV T t σ (opd ρ x) (opd ρ y)) Q := opw_of fun _ => by
  cases h : opd ρ x <;> cases h' : opd ρ y <;> simp only [evalOp, mkO, h, h', stV]
  rename_i v u
  cases storeV T t v u σ <;> rfl
def nilV : AV → Option AV
  | .p l o => some (.p l o)
  | .ip cs => some (.ip cs)
  | .f fn cs => some (.f fn cs)
  | _ => none
theorem op_nilCheck (x : Operand) : OpW T m j (.nilCheck x) ρ σ Q = vW (on1 nilV (opd ρ x)) σ Q := by
  rw [← pW_pureV]; exact opw_of fun _ => by
    simp only [evalOp, mkO]
    cases h : opd ρ x with
    | none => rfl
    | some v => cases v <;> rfl
def biV (T : Tab) (op : BinOp) (xt : TypeId) (c : Bool) : AV → AV → Option AV := fun v u => binV T op xt c v u
theorem biV_eq (op : BinOp) (xt : TypeId) (c : Bool) (v u : AV) : biV T op xt c v u = binV T op xt c v u := rfl
theorem op_binOp (op : BinOp) (xt : TypeId) (x y : Operand) (t : TypeId) : OpW T m j (.binOp op xt x y t) ρ σ Q = vW (on2 (biV T op xt (isConst x || isConst y)) (opd ρ x) (opd ρ y)) σ Q := by
  rw [← pW_pureV]; exact opw_of fun _ => by cases h : opd ρ x <;> cases h' : opd ρ y <;> simp only [evalOp, mkO, h, h', on2, biV, pureV]
theorem op_unOp (op : UnOp) (t : TypeId) (x : Operand) : OpW T m j (.unOp op t x) ρ σ Q = vW (on1 (unV op) (opd ρ x)) σ Q := by
  rw [← pW_pureV]; exact opw_of fun _ => by cases h : opd ρ x <;> simp only [evalOp, mkO, h, on1, pureV]
theorem op_convert (s d : TypeId) (x : Operand) : OpW T m j (.convert s d x) ρ σ Q = vW (on1 (convV T s d) (opd ρ x)) σ Q := by
  rw [← pW_pureV]; exact opw_of fun _ => by cases h : opd ρ x <;> simp only [evalOp, mkO, h, on1, pureV]
def mkI (t : TypeId) : Option AV → Option TD → Option AV
  | some v, some .interface => none
  | some v, some _ => some (.e t v)
  | _, _ => none
theorem op_makeInterface (t : TypeId) (x : Operand) : OpW T m j (.makeInterface t x) ρ σ Q = vW (mkI t (opd ρ x) (T.und t)) σ Q := by
  rw [← pW_pureV]; exact opw_of fun _ => by
    cases h : opd ρ x with
    | none => simp only [evalOp, mkO, h, mkI, pureV]
    | some v => cases h' : T.und t with
      | none => simp only [evalOp, mkO, h, h', mkI, pureV]
      | some d => cases d <;> simp only [evalOp, mkO, h, h', mkI, pureV]
def slV (T : Tab) (t : TypeId) : Option AV → Option (Option AV) → Option (Option AV) → Option AV
  | some v, some l, some h => sliceV T t v l h
  | _, _, _ => none
theorem op_slice (t : TypeId) (x : Operand) (lo hi : Option Operand) : OpW T m j (.slice t x lo hi none) ρ σ Q = vW (slV T t (opd ρ x) (optOpd ρ lo) (optOpd ρ hi)) σ Q := by
  rw [← pW_pureV]; exact opw_of fun _ => by
    cases h : opd ρ x <;> cases h' : optOpd ρ lo <;> cases h'' : optOpd ρ hi <;> simp only [evalOp, mkO, h, h', h'', slV, pureV]
def faV (T : Tab) (t : TypeId) (i : Nat) : AV → Option AV := fun v => fieldAddrV T t v i
theorem faV_eq (t : TypeId) (i : Nat) (v : AV) : faV T t i v = fieldAddrV T t v i := rfl
theorem op_fieldAddr (t : TypeId) (x : Operand) (i : Nat) : OpW T m j (.fieldAddr t x i) ρ σ Q = vW (on1 (faV T t i) (opd ρ x)) σ Q := by
  rw [← pW_pureV]; exact opw_of fun _ => by cases h : opd ρ x <;> simp only [evalOp, mkO, h, on1, faV, pureV]
def fldV (T : Tab) (t : TypeId) (i : Nat) : AV → Option AV := fun v => fieldV T t v i
theorem fldV_eq (t : TypeId) (i : Nat) (v : AV) : fldV T t i v = fieldV T t v i := rfl
theorem op_field (t : TypeId) (x : Operand) (i : Nat) : OpW T m j (.field t x i) ρ σ Q = vW (on1 (fldV T t i) (opd ρ x)) σ Q := by
  rw [← pW_pureV]; exact opw_of fun _ => by cases h : opd ρ x <;> simp only [evalOp, mkO, h, on1, fldV, pureV]
theorem op_indexAddr (t : TypeId) (x ix : Operand) : OpW T m j (.indexAddr t x ix) ρ σ Q = vW (on2 (idxAddrV T t) (opd ρ x) (opd ρ ix)) σ Q := by
  rw [← pW_pureV]; exact opw_of fun _ => by cases h : opd ρ x <;> cases h' : opd ρ ix <;> simp only [evalOp, mkO, h, h', on2, pureV]
theorem op_index (t : TypeId) (x ix : Operand) : OpW T m j (.index t x ix) ρ σ Q = vW (on2 (idxV T t) (opd ρ x) (opd ρ ix)) σ Q := by
  rw [← pW_pureV]; exact opw_of fun _ => by cases h : opd ρ x <;> cases h' : opd ρ ix <;> simp only [evalOp, mkO, h, h', on2, pureV]
def exV (i : Nat) : AV → Option AV
  | .t vs => vs[i]?
  | _ => none
theorem op_extract (x : Operand) (i : Nat) : OpW T m j (.extract x i) ρ σ Q = vW (on1 (exV i) (opd ρ x)) σ Q := by
  rw [← pW_pureV]; exact opw_of fun _ => by
    simp only [evalOp, mkO]
    cases h : opd ρ x with
    | none => rfl
    | some v => cases v <;> rfl
def mfV (f : FuncId) : Option (List AV) → Option AV
  | some vs => some (.f f vs)
  | none => none
theorem op_makeFunc (f : FuncId) (cs : Array Operand) : OpW T m j (.makeFunc (.func f) ⟨[]⟩ cs) ρ σ Q = vW (mfV f (opds ρ cs.toList)) σ Q := by
  rw [← pW_pureV]; exact opw_of fun _ => by cases h : opds ρ cs.toList <;> simp only [evalOp, mkO, h, mfV, pureV]
def msV (T : Tab) (j : Nat) (t : TypeId) (σ : St) : Option AV → Option AV → Option (AV × St)
  | some v, some u => makeSliceV T j t v u σ
  | _, _ => none
theorem op_makeSlice (t : TypeId) (n c : Operand) : OpW T m j (.makeSlice t n c) ρ σ Q = pW (msV T j t σ (opd ρ n) (opd ρ c)) Q := opw_of fun _ => by
  cases h : opd ρ n <;> cases h' : opd ρ c <;> simp only [evalOp, mkO, h, h', msV]
def pkV : Option AV → Option AV → Option AV → Option AV
  | some (.b true), x, _ => x
  | some (.b false), _, y => y
  | _, _, _ => none
theorem op_pick (c x y : Operand) : OpW T m j (.pick c x y) ρ σ Q = vW (pkV (opd ρ c) (opd ρ x) (opd ρ y)) σ Q := by
  rw [← pW_pureV]; exact opw_of fun _ => by
    simp only [evalOp, mkO]
    cases h : opd ρ c with
    | none => rfl
    | some v =>
      cases v <;> first | rfl | skip
      rename_i b; cases b <;> rfl
end

/-- A call of a function. -/
def FnW (T : Tab) (m j : Nat) (fn : FuncId) (vs : List AV) (σ : St) (Q : AV → St → Prop) : Prop := ∃ n v σ', (match rowK T (callWith T (evalCode T n)) fn with
  | some p => rowV j (p vs) σ
  | none => match primK T (callWith T (evalCode T n)) fn with
    | some p => pureV (p vs) σ
    | none => callWith T (evalCode T n) fn vs (σ.bump m)) = some (v, σ') ∧ Q v σ'

def callV (T : Tab) (m j : Nat) (vs : List AV) (σ : St) (Q : AV → St → Prop) : Option AV → Prop
  | some (.f fn cs) => FnW T m j fn (vs ++ cs) σ Q
  | _ => False
theorem callV_some (m j : Nat) (vs : List AV) (σ : St) (Q : AV → St → Prop) (fn : FuncId) (cs : List AV) : callV T m j vs σ Q (some (.f fn cs)) = FnW T m j fn (vs ++ cs) σ Q := rfl
def argW (T : Tab) (m j : Nat) (ρ : Nat → AV) (ts : List TypeId) (σ : St) (Q : AV → St → Prop) : Callee → Option (List AV) → Prop
  | .builtin b, some vs => pW (bltV T j b ts vs σ) Q
  | .value f, some vs => callV T m j vs σ Q (opd ρ f)
  | _, _ => False
theorem arg_blt (m j : Nat) (ρ : Nat → AV) (ts : List TypeId) (σ : St) (Q : AV → St → Prop) (b : Builtin) (vs : List AV) : argW T m j ρ ts σ Q (.builtin b) (some vs) = pW (bltV T j b ts vs σ) Q := rfl
theorem arg_val (m j : Nat) (ρ : Nat → AV) (ts : List TypeId) (σ : St) (Q : AV → St → Prop) (f : Operand) (vs : List AV) : argW T m j ρ ts σ Q (.value f) (some vs) = callV T m j vs σ Q (opd ρ f) := rfl

theorem op_call (m j : Nat) (c : Callee) (as : Array Operand) (ts : Array TypeId) (ρ : Nat → AV) (σ : St) (Q : AV → St → Prop) :
    OpW T m j (.call ⟨c, as, ts⟩) ρ σ Q = argW T m j ρ ts.toList σ Q c (opds ρ as.toList) := by
  unfold OpW
  simp only [evalOp, mkO]
  cases ha : opds ρ as.toList with
  | none => cases c <;> simp [argW]
  | some vs =>
    cases c with
    | builtin b => exact propext ⟨fun ⟨_, v, σ', h1, h2⟩ => ⟨v, σ', h1, h2⟩, fun ⟨v, σ', h1, h2⟩ => ⟨0, v, σ', h1, h2⟩⟩
    | invoke a b => simp [argW]
    | value f =>
      simp only [argW]
      cases hf : opd ρ f with
      | none => simp [callV]
      | some v => cases v <;> first | rfl | simp [callV]

theorem FnW_prim {m j : Nat} {fn : FuncId} {vs : List AV} {σ : St} {Q : AV → St → Prop} {p r} (h1 : T.rprim fn = none) (h2 : T.row fn = false) (h3 : T.prim fn = some p) (h4 : p vs = some r) (q : Q r σ) : FnW T m j fn vs σ Q := by
  refine ⟨0, r, σ, ?_, q⟩
  unfold rowK primK
  rw [h1, h2, h3]
  simp only
  cases T.pure fn <;> simp only [h4, pureV]

/-- What is answered to what cannot be written. -/
def PureW (T : Tab) (fn : FuncId) (vs : List AV) (r : AV) : Prop := CallW T fn vs St.start fun v _ => untok v = r ∧ good r = true

theorem FnW_pure {m j : Nat} {fn : FuncId} {vs : List AV} {σ : St} {Q : AV → St → Prop} {r} (h1 : T.rprim fn = none) (h2 : T.row fn = false) (h3 : T.prim fn = none) (h4 : T.pure fn = true) (hg : goods (vs.map untok) = true) (h : PureW T fn (vs.map untok) r) (q : Q r σ) : FnW T m j fn vs σ Q := by
  obtain ⟨n, v, σ1, he, rfl, hr⟩ := h
  refine ⟨n, untok v, σ, ?_, q⟩
  unfold rowK primK
  rw [h1, h2, h3, h4]
  simp only
  unfold pureK
  have he' : callWith T (evalCode T n) fn (vs.map untok) St.start = some (v, σ1) := he
  rw [hg]; simp only; rw [he']; simp only; rw [hr]; rfl

theorem FnW_call {m j : Nat} {fn : FuncId} {vs : List AV} {σ : St} {Q : AV → St → Prop} (h1 : T.rprim fn = none) (h2 : T.row fn = false) (h3 : T.prim fn = none) (h4 : T.pure fn = false) (h : CallW T fn vs (σ.bump m) Q) : FnW T m j fn vs σ Q := by
  obtain ⟨n, v, σ1, he, q⟩ := h
  refine ⟨n, v, σ1, ?_, q⟩
  unfold rowK primK
  rw [h1, h2, h3, h4]
  exact he

def resW (Q : AV → St → Prop) (σ : St) : Option (List AV) → Prop
  | some [v] => Q v σ
  | some l => Q (.t l) σ
  | none => False
def retW (T : Tab) (rs : List ResultVar) (Q : AV → St → Prop) : Ex → Fr → St → Prop
  | .exit _, _, _ => False
  | _, fr, σ => resW Q σ (resV T fr σ rs)
theorem ret_ret (rs : List ResultVar) (Q : AV → St → Prop) (fr : Fr) (σ : St) : retW T rs Q .ret fr σ = resW Q σ (resV T fr σ rs) := rfl
theorem ret_normal (rs : List ResultVar) (Q : AV → St → Prop) (fr : Fr) (σ : St) : retW T rs Q .normal fr σ = resW Q σ (resV T fr σ rs) := rfl

theorem callW_of {f : FuncId} {fn : Func} {c : Code} {vs : List AV} {σ : St} {Q : AV → St → Prop} (h1 : T.fn f = some fn) (h2 : fn.body = some c) (h3 : vs.length ≤ fn.ntmps) (h : CodeW T c (Fr.ofList 0 vs .nil) σ (retW T fn.results.toList Q)) : CallW T f vs σ Q := by
  obtain ⟨n, x, fr', σ', he, q⟩ := h
  unfold CallW evalCall callWith
  rw [h1]; simp only; rw [h2]; simp only [h3, if_true]
  have fin : ∀ (q : resW Q σ' (resV T fr' σ' fn.results.toList)), ∃ v σ1, (match resV T fr' σ' fn.results.toList with | some [v] => some (v, σ') | some l => some (.t l, σ') | none => none) = some (v, σ1) ∧ Q v σ1 := fun q => by
    cases hl : resV T fr' σ' fn.results.toList with
    | none => rw [hl] at q; exact q.elim
    | some l =>
      rw [hl] at q
      cases l with
      | nil => exact ⟨_, _, rfl, q⟩
      | cons a l => cases l with
        | nil => exact ⟨_, _, rfl, q⟩
        | cons b l => exact ⟨_, _, rfl, q⟩
  cases x with
  | exit i => exact q.elim
  | normal => refine ⟨n, ?_⟩; rw [he]; exact fin q
  | ret => refine ⟨n, ?_⟩; rw [he]; exact fin q

/-- One round of a loop. -/
theorem cw_loop (c : Code) (fr : Fr) (σ : St) (Q : Ex → Fr → St → Prop) : CodeW T (.loop c) fr σ Q = CodeW T c fr σ (thenW T (.loop c) Q) := by
  refine propext ⟨fun ⟨n, x, fr', σ', h, q⟩ => ?_, fun ⟨n, x, fr', σ', h, q⟩ => ?_⟩
  · cases n with
    | zero => simp [evalCode] at h
    | succ n =>
      rw [ec_loop] at h
      cases ha : evalCode T n c fr σ with
      | none => rw [ha] at h; cases h
      | some y =>
        rw [ha] at h
        obtain ⟨y, fr1, σ1⟩ := y
        refine ⟨n, _, _, _, ha, ?_⟩
        cases y with
        | normal => exact ⟨n, _, _, _, h, q⟩
        | _ => simp only [Option.some.injEq, Prod.mk.injEq] at h; obtain ⟨rfl, rfl, rfl⟩ := h; exact q
  · cases x with
    | normal =>
      obtain ⟨m, y, fr2, σ2, h2, q2⟩ := q
      refine ⟨max n m + 1, y, fr2, σ2, ?_, q2⟩
      rw [ec_loop]
      rw [evalCode_mono (Nat.le_max_left n m) h]
      exact evalCode_mono (Nat.le_max_right n m) h2
    | ret => exact ⟨n + 1, _, _, _, by rw [ec_loop]; rw [h], q⟩
    | exit i => exact ⟨n + 1, _, _, _, by rw [ec_loop]; rw [h], q⟩

theorem rd_set (fr : Fr) (d m : Nat) (v : AV) : Fr.rd (Tr.set fr d v) m = if m = d then v else Fr.rd fr m := by
  unfold Fr.rd; rw [Tr.get_set]; split <;> rfl
theorem rd_nil (m : Nat) : Fr.rd .nil m = .u := rfl
/-- A function of which nothing is written, by all signs of the table. -/
structure PureC (T : Tab) (fn : FuncId) : Prop where
  rprim : T.rprim fn = none
  row : T.row fn = false
  prim : T.prim fn = none
  pure : T.pure fn = true
theorem PureC.call {m j : Nat} {fn : FuncId} {vs : List AV} {σ : St} {Q : AV → St → Prop} {r : AV} (h : PureC T fn) (hg : goods (vs.map untok) = true) (hw : PureW T fn (vs.map untok) r) (q : Q r σ) : FnW T m j fn vs σ Q := FnW_pure h.1 h.2 h.3 h.4 hg hw q

/-- No names of the coming ones are taken. -/
structure Fresh (σ : St) : Prop where
  h : ∀ k, σ.nb ≤ k → Tr.get σ.h k = none
  tk : ∀ k, σ.nb + 2 ≤ k → Tr.get σ.tk k = none
theorem Fresh.start : Fresh St.start := ⟨fun _ _ => rfl, fun _ _ => rfl⟩
theorem Fresh.hb {σ : St} (f : Fresh σ) (j : Nat) : Tr.get σ.h (σ.nb + j) = none := f.h _ (by omega)
theorem Fresh.h0 {σ : St} (f : Fresh σ) : Tr.get σ.h σ.nb = none := f.h _ (by omega)
theorem Fresh.tb {σ : St} (f : Fresh σ) (j : Nat) : Tr.get σ.tk (σ.nb + (j + 2)) = none := f.tk _ (by omega)
theorem Fresh.bump {σ : St} (f : Fresh σ) (j : Nat) : Fresh (σ.bump j) := ⟨fun k hk => f.h k (by simp only [St.bump] at hk; omega), fun k hk => f.tk k (by simp only [St.bump] at hk; omega)⟩
def FreeH (h : Tr (List AV)) (n : Nat) : Prop := ∀ k, n ≤ k → Tr.get h k = none
def FreeT (h : Tr Nat) (n : Nat) : Prop := ∀ k, n + 2 ≤ k → Tr.get h k = none
theorem FreeH.set {h : Tr (List AV)} {n a : Nat} {v : List AV} (f : FreeH h n) (l : a < n) : FreeH (Tr.set h a v) n := fun k hk => by rw [Tr.get_set, if_neg (by omega)]; exact f k hk
theorem FreeT.set {h : Tr Nat} {n a : Nat} {v : Nat} (f : FreeT h n) (l : a < n + 2) : FreeT (Tr.set h a v) n := fun k hk => by rw [Tr.get_set, if_neg (by omega)]; exact f k hk
theorem Fresh.freeH {σ : St} (f : Fresh σ) {n : Nat} (l : σ.nb ≤ n) : FreeH σ.h n := fun k hk => f.h k (by omega)
theorem Fresh.freeT {σ : St} (f : Fresh σ) {n : Nat} (l : σ.nb ≤ n) : FreeT σ.tk n := fun k hk => f.tk k (by omega)
theorem Fresh.of {h : Tr (List AV)} {tk : Tr Nat} {nb : Nat} (h1 : FreeH h nb) (h2 : FreeT tk nb) : Fresh ⟨h, tk, nb⟩ := ⟨h1, h2⟩
theorem Fresh.box {σ : St} (f : Fresh σ) (j : Nat) : boxFree j σ = true := by unfold boxFree; rw [f.h _ (by omega)]
theorem Fresh.tok {σ : St} (f : Fresh σ) (j : Nat) : tokFree j σ = true := by unfold tokFree; rw [f.tk _ (by omega)]
theorem Fresh.mk' {h : Tr (List AV)} {tk : Tr Nat} {nb : Nat} (h1 : ∀ k, nb ≤ k → Tr.get h k = none) (h2 : ∀ k, nb + 2 ≤ k → Tr.get tk k = none) : Fresh ⟨h, tk, nb⟩ := ⟨h1, h2⟩

theorem drop_cons {α : Type} {l : List α} {i : Nat} {x : α} {r : List α} (h : l.drop i = x :: r) : l[i]? = some x ∧ l.drop (i + 1) = r ∧ i < l.length := by
  have hl : i < l.length := by
    rcases Nat.lt_or_ge i l.length with h' | h'
    · exact h'
    · rw [List.drop_of_length_le h'] at h; cases h
  rw [List.drop_eq_getElem_cons hl] at h
  injection h with h1 h2
  exact ⟨by rw [List.getElem?_eq_getElem hl, h1], h2, hl⟩
theorem drop_nil {α : Type} {l : List α} {i : Nat} (h : l.drop i = []) : l.length ≤ i := by simpa using h

theorem beqT (x : Bool) : (x == true) = x := by cases x <;> rfl
theorem beqF (x : Bool) : (x == false) = !x := by cases x <;> rfl
theorem get_nil {α : Type} (k : Nat) : Tr.get (.nil : Tr α) k = none := rfl
theorem nbeq (a b : Nat) : Nat.beq a b = (a == b) := by
  by_cases h : a = b
  · subst h; simp
  · rw [beq_false_of_ne h]
    cases hb : Nat.beq a b with
    | false => rfl
    | true => exact absurd (Nat.eq_of_beq_eq_true hb) h
def cl : Code → Code | .seq a _ => a | .cond _ a _ => a | .block _ a => a | .loop a => a | c => c
def cr : Code → Code | .seq _ b => b | .cond _ _ b => b | c => c
noncomputable def fb (f : Func) : Code := f.body.getD .skip
theorem fw_add1 {n : Nat} (h : n < 4611686018427387904) : fw .i64 ((n : Int) + 1) = ((n + 1 : Nat) : Int) := by unfold fw; simp only; rw [if_pos (by omega)]; rfl
end Go.Pv
namespace Go.Pv
open Go
variable {T : Tab}
/-- A call that makes a row. -/
def RowW (T : Tab) (fn : FuncId) (vs es : List AV) (sz : Nat) : Prop := CallW T fn vs St.start fun v σ1 => ∃ k, v = .sl es k ∧ 2 ≤ k ∧ goods es = true ∧ Tr.get σ1.tk k = some sz
theorem FnW_row {m j : Nat} {fn : FuncId} {vs es : List AV} {sz : Nat} {σ : St} {Q : AV → St → Prop} (h1 : T.rprim fn = none) (h2 : T.row fn = true) (hg : goods (vs.map untok) = true) (h : RowW T fn (vs.map untok) es sz) (hsz : sz ≠ 0) (hfree : tokFree j σ = true) (q : Q (.sl es (σ.nb + j + 2)) { σ with tk := Tr.set σ.tk (σ.nb + j + 2) sz }) : FnW T m j fn vs σ Q := by
  obtain ⟨n, v, σ1, he, k, rfl, hk, hes, hget⟩ := h
  obtain ⟨sz, rfl⟩ : ∃ s, sz = s + 1 := ⟨sz - 1, by omega⟩
  refine ⟨n, .sl es (σ.nb + j + 2), _, ?_, q⟩
  unfold rowK
  rw [h1, h2]
  simp only
  unfold rowOf
  have he' : callWith T (evalCode T n) fn (vs.map untok) St.start = some (.sl es k, σ1) := he
  rw [hg]; simp only; rw [he']; simp only
  rw [show (Nat.ble 2 k && goods es) = true from by rw [hes, Bool.and_true, Nat.ble_eq]; exact hk]
  simp only; rw [hget]; simp only [rowV]
  rw [if_pos hfree]; rfl
/-- A call that makes no row. -/
theorem FnW_row0 {m j : Nat} {fn : FuncId} {vs : List AV} {σ : St} {Q : AV → St → Prop} (h1 : T.rprim fn = none) (h2 : T.row fn = true) (hg : goods (vs.map untok) = true) (h : CallW T fn (vs.map untok) St.start fun v _ => v = .sl [] 1) (hfree : tokFree j σ = true) (q : Q (.sl [] 1) { σ with tk := Tr.set σ.tk (σ.nb + j + 2) 0 }) : FnW T m j fn vs σ Q := by
  obtain ⟨n, v, σ1, he, rfl⟩ := h
  refine ⟨n, .sl [] 1, _, ?_, q⟩
  unfold rowK
  rw [h1, h2]
  simp only
  unfold rowOf
  have he' : callWith T (evalCode T n) fn (vs.map untok) St.start = some (.sl [] 1, σ1) := he
  rw [hg]; simp only; rw [he']; simp only
  rw [show (Nat.ble 2 1 && goods []) = false from rfl]
  simp only [rowV]
  rw [if_pos hfree]; rfl
theorem FreeT.via {a b : Tr Nat} {κ n : Nat} (h : ∀ n, FreeT a n → κ < n + 2 → FreeT b n) (f : FreeT a n) (l : κ < n + 2) : FreeT b n := h n f l
theorem tokFree_of {h : Tr (List AV)} {tk : Tr Nat} {nb j : Nat} (f : FreeT tk (nb + j)) : tokFree j ⟨h, tk, nb⟩ = true := by
  unfold tokFree; rw [f _ (by simp only; omega)]
/-- What lies below stays. -/
structure Ext (σ σ' : St) : Prop where
  nb : σ.nb ≤ σ'.nb
  fresh : Fresh σ'
  h : ∀ l, l < σ.nb → Tr.get σ'.h l = Tr.get σ.h l
theorem Ext.trans {a b c : St} (h1 : Ext a b) (h2 : Ext b c) : Ext a c := ⟨Nat.le_trans h1.nb h2.nb, h2.fresh, fun l hl => by rw [h2.h l (Nat.lt_of_lt_of_le hl h1.nb), h1.h l hl]⟩
end Go.Pv
