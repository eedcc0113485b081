/- Regions: in order, and in any order that is open. -/
import Derived.Test.YtigcolhieieakaaDoorPvH
namespace Go.Pv
open Go Go.RowKit
set_option linter.unusedVariables false
set_option linter.unusedSimpArgs false

def okDst (N : Nat) (o : Oper) : Bool := match o.dst with | some d => Nat.blt d N | none => true
def okOps (N : Nat) (ops : Array Oper) : Bool := ops.toList.all (okDst N)

def okCode (T : Tab) (N : Nat) : Code → Bool
  | .region _ ops draw => okOps N ops && (!draw || hasStore ops || okDraw T ops)
  | .seq a b => okCode T N a && okCode T N b
  | .cond _ a b => okCode T N a && okCode T N b
  | .block _ b => okCode T N b
  | .loop b => okCode T N b
  | _ => true

def okFn (T : Tab) (fn : Func) : Bool := match fn.body with | some c => okCode T fn.ntmps c | none => true

section
variable {P : Program} {T : Tab} {w : World} {G : Gh} {base : Nat} {w0 : World} {σ : St} {K : CallK} {ops : Array Oper}

def stepV (T : Tab) (K : CallK) (ops : Array Oper) (j : Nat) (o : Oper) (ρ : Nat → AV) (σ : St) : Option ((Nat → AV) × St) :=
  match wantV ops o ρ with
  | true => match evalOp T K ops.size j o ρ σ with
    | some (v, σ') => some (updO ρ o.dst v, σ')
    | none => none
  | false => some (updO ρ o.dst .u, σ)

def stepsV (T : Tab) (K : CallK) (ops : Array Oper) : List (Nat × Oper) → (Nat → AV) → St → Option ((Nat → AV) × St)
  | [], ρ, σ => some (ρ, σ)
  | (j, o) :: rest, ρ, σ => match stepV T K ops j o ρ σ with
    | some (ρ', σ') => stepsV T K ops rest ρ' σ'
    | none => none

/-- Operations with their places. -/
def placed : Nat → List Oper → List (Nat × Oper)
  | _, [] => []
  | j, o :: os => (j, o) :: placed (j + 1) os

theorem evalOps_steps : ∀ {rest : List Oper} {j : Nat} {fr fr' : Fr} {σ σ' : St}, evalOps T K ops ops.size j rest fr σ = some (fr', σ') → ∃ σ1, stepsV T K ops (placed j rest) fr.rd σ = some (fr'.rd, σ1) ∧ σ' = σ1.bump ops.size
  | [], j, fr, fr', σ, σ', h => by
    simp only [evalOps, Option.some.injEq, Prod.mk.injEq] at h
    obtain ⟨rfl, rfl⟩ := h
    exact ⟨σ, rfl, rfl⟩
  | o :: rest, j, fr, fr', σ, σ', h => by
    simp only [evalOps] at h
    simp only [placed, stepsV, stepV]
    split at h
    · rename_i hw
      rw [hw]
      split at h
      · rename_i v σ1 he
        rw [he]
        split at h
        · rename_i d hd
          obtain ⟨σ2, h1, h2⟩ := evalOps_steps h
          rw [Fr.rd_set] at h1
          exact ⟨σ2, by simpa [hd, updO] using h1, h2⟩
        · rename_i hd
          obtain ⟨σ2, h1, h2⟩ := evalOps_steps h
          exact ⟨σ2, by simpa [hd, updO] using h1, h2⟩
      · simp at h
    · rename_i hw
      rw [hw]
      split at h
      · rename_i d hd
        obtain ⟨σ2, h1, h2⟩ := evalOps_steps h
        rw [Fr.rd_set] at h1
        exact ⟨σ2, by simpa [hd, updO] using h1, h2⟩
      · rename_i hd
        obtain ⟨σ2, h1, h2⟩ := evalOps_steps h
        exact ⟨σ2, by simpa [hd, updO] using h1, h2⟩

theorem rep_bool {x : AV} {b : Bool} (h : rep G x (.bool b)) : x = .b b := by
  cases x <;> simp [rep] at h
  rw [h]

theorem want_eq {N : Nat} {ρ : Nat → AV} {a : Act} (hf : FR N G ρ a) (o : Oper) : Region.wanted o (yielded ops a.tmps) = wantV ops o ρ := by
  unfold Region.wanted wantV
  split
  · rename_i h; simp [h]
  · rename_i j want h
    simp only [h]
    unfold yielded
    cases hd : (ops[j]?).bind (·.dst) with
    | none => simp
    | some d =>
      simp only [Option.bind_some]
      have hr := hf.rd d
      rw [Array.getD_eq_getD_getElem?] at hr
      cases ht : a.tmps[d]? with
      | none =>
        rw [ht] at hr
        have : ∀ b, ρ d ≠ .b b := fun b e => by rw [e] at hr; simp [rep, undef] at hr
        split
        · rename_i h'; exact absurd h' (by simp)
        · split
          · rename_i x hx; exact absurd hx (this _)
          · simp
      | some v =>
        rw [ht] at hr
        simp only [Option.getD_some] at hr
        split
        · rename_i b hb
          simp only [Option.some.injEq] at hb
          subst hb
          rw [rep_bool hr]
          simp
        · rename_i hne
          split
          · rename_i x hx
            rw [hx] at hr
            simp only [rep] at hr
            exact absurd (by rw [hr]) (hne x)
          · simp

/-- One operation of a region. -/
theorem wpOp_of_step (ok : TabOk P T) (hK : KOk P base w0 K) (pok : PrimOk P (primK T K) base w0) (rok : RowOk P (rowK T K) base w0) {N i j : Nat} {o : Oper} {ρ ρ' : Nat → AV} {σ' : St} {a : Act} {K' : Act → World → Prop} {Q : Exit → Act → World → Prop}
    (ho : ops[i]? = some o) (hd : okDst N o = true) (hf : FR N G ρ a) (hi : Inv base w0 G σ w) (h : stepV T K ops j o ρ σ = some (ρ', σ'))
    (hk : ∀ G' a' w', G.le G' → Inv base w0 G' σ' w' → FR N G' ρ' a' → K' a' w') : wpOp P ops Q i K' a w := by
  have hdst : ∀ t, o.dst = some t → t < N := fun t ht => by
    unfold okDst at hd
    rw [ht] at hd
    exact Nat.le_of_ble_eq_true hd
  unfold wpOp
  simp only [ho]
  rw [want_eq hf o]
  unfold stepV at h
  split at h
  · rename_i hw
    rw [if_pos hw]
    split at h
    · rename_i v σ1 he
      simp only [Option.some.injEq, Prod.mk.injEq] at h
      obtain ⟨rfl, rfl⟩ := h
      exact .inl (evalOp_sound ok hK pok rok he hf hi K' Q fun u G' w' h1 h2 h3 => hk G' _ w' h1 h2 ((hf.mono h1).put hdst h3))
    · simp at h
  · rename_i hw
    simp only [Option.some.injEq, Prod.mk.injEq] at h
    obtain ⟨rfl, rfl⟩ := h
    rw [if_neg (by simp [hw])]
    exact hk G _ w (.refl G) hi (hf.put hdst (rep_undef G))

theorem wpOps_of_steps (ok : TabOk P T) (hK : KOk P base w0 K) (pok : PrimOk P (primK T K) base w0) (rok : RowOk P (rowK T K) base w0) {N : Nat} {Q : Exit → Act → World → Prop} (hd : okOps N ops = true) : ∀ (rest : List Oper) (i : Nat) {ρ ρ' : Nat → AV} {σ σ' : St} {G : Gh} {a : Act} {w : World},
    ops.toList.drop i = rest → FR N G ρ a → Inv base w0 G σ w → stepsV T K ops (placed i rest) ρ σ = some (ρ', σ') → (∀ G' a' w', G.le G' → Inv base w0 G' σ' w' → FR N G' ρ' a' → Q .normal a' w') →
    wpOps P ops Q (List.range' i rest.length) a w
  | [], i, ρ, ρ', σ, σ', G, a, w, _, hf, hi, h, hq => by
    simp only [placed, stepsV, Option.some.injEq, Prod.mk.injEq] at h
    obtain ⟨rfl, rfl⟩ := h
    exact hq G a w (.refl G) hi hf
  | o :: rest, i, ρ, ρ', σ, σ', G, a, w, hr, hf, hi, h, hq => by
    simp only [placed, stepsV] at h
    split at h
    · rename_i ρ1 σ1 h1
      have hget : ops.toList[i]? = some o := by
        have : (ops.toList.drop i)[0]? = some o := by rw [hr]; rfl
        rwa [List.getElem?_drop, Nat.add_zero] at this
      have hdo : okDst N o = true := List.all_eq_true.1 hd o (List.mem_of_getElem? hget)
      rw [List.length_cons, List.range'_succ, wpOps_cons]
      refine wpOp_of_step ok hK pok rok (by simpa using hget) hdo hf hi h1 fun G' a' w' g1 g2 g3 => ?_
      refine wpOps_of_steps ok hK pok rok hd rest (i + 1) ?_ g3 g2 h fun G2 a2 w2 q1 q2 q3 => hq G2 a2 w2 (g1.trans q1) q2 q3
      rw [← List.drop_drop, hr]; rfl
    · simp at h

theorem region_sound (ok : TabOk P T) (hK : KOk P base w0 K) (pok : PrimOk P (primK T K) base w0) (rok : RowOk P (rowK T K) base w0) {N : Nat} {Q : Exit → Act → World → Prop} (hd : okOps N ops = true) {ρ ρ' : Nat → AV} {σ' : St} {a : Act} {id : Nat}
    (hf : FR N G ρ a) (hi : Inv base w0 G σ w) (h : stepsV T K ops (placed 0 ops.toList) ρ σ = some (ρ', σ')) (hq : ∀ G' a' w', G.le G' → Inv base w0 G' σ' w' → FR N G' ρ' a' → Q .normal a' w') : (Code.region id ops false).wp P Q a w := by
  refine wp_region ?_
  have := wpOps_of_steps (Q := Q) ok hK pok rok hd ops.toList 0 rfl hf hi h hq
  rwa [Array.length_toList, ← List.range_eq_range'] at this

/-! ### an order that is open -/

theorem opd_upd {ρ : Nat → AV} {d : Option Nat} {v : AV} {x : Operand} (h : ∀ t, d = some t → x ≠ .tmp t) : opd (updO ρ d v) x = opd ρ x := by
  cases d with
  | none => rfl
  | some t =>
    cases x with
    | tmp u =>
      simp only [opd, updO, upd]
      rw [if_neg (fun e => h t rfl (by rw [e]))]
    | const c => rfl
    | global g => rfl
    | func f => rfl

theorem opds_congr {ρ ρ' : Nat → AV} : ∀ {xs : List Operand}, (∀ x ∈ xs, opd ρ x = opd ρ' x) → opds ρ xs = opds ρ' xs
  | [], _ => rfl
  | x :: xs, h => by simp only [opds, h x List.mem_cons_self, opds_congr fun y hy => h y (List.mem_cons_of_mem _ hy)]

theorem parts_congr {ρ ρ' : Nat → AV} : ∀ {xs : List (Nat × Operand)}, (∀ x ∈ xs.map (·.2), opd ρ x = opd ρ' x) → parts ρ xs = parts ρ' xs
  | [], _ => rfl
  | (i, x) :: xs, h => by simp only [parts, h x List.mem_cons_self, parts_congr fun y hy => h y (List.mem_cons_of_mem _ hy)]

theorem optOpd_congr {ρ ρ' : Nat → AV} {x : Option Operand} (h : ∀ y ∈ x.toArray.toList, opd ρ y = opd ρ' y) : optOpd ρ x = optOpd ρ' x := by
  cases x with
  | none => rfl
  | some y => simp only [optOpd, h y (by simp)]

theorem evalOp_congr {n j : Nat} {o : Oper} {ρ ρ' : Nat → AV} (h : ∀ x ∈ o.op.operands.toList, opd ρ x = opd ρ' x) : evalOp T K n j o ρ σ = evalOp T K n j o ρ' σ := by
  unfold evalOp
  cases ho : o.op <;> simp only [ho, Op.operands, List.mem_cons, List.not_mem_nil, or_false, forall_eq_or_imp, forall_eq] at h ⊢ <;> try rfl
  case move x => rw [h]
  case assign x => rw [h]
  case pick c x y => rw [h.1, h.2.1, h.2.2]
  case box t x => rw [h]
  case build t ps => rw [parts_congr (by simpa using h)]
  case buildSlice t n ps => rw [parts_congr (by simpa using h)]
  case load t x => rw [h]
  case store t x y => rw [h.1, h.2]
  case nilCheck x => rw [h]
  case binOp op t x y t' => rw [h.1, h.2]
  case unOp op t x => rw [h]
  case convert s d x => rw [h]
  case makeInterface t x => rw [h]
  case makeFunc f a b =>
    have hb : opds ρ b.toList = opds ρ' b.toList := opds_congr fun x hx => h x (by simp at hx ⊢; exact .inr hx)
    split <;> simp_all
  case makeSlice t x y => rw [h.1, h.2]
  case slice t x lo hi mx =>
    have h1 : opd ρ x = opd ρ' x := h x (by simp)
    have h2 : optOpd ρ lo = optOpd ρ' lo := optOpd_congr fun y hy => h y (by simp at hy ⊢; simp [hy])
    have h3 : optOpd ρ hi = optOpd ρ' hi := optOpd_congr fun y hy => h y (by simp at hy ⊢; simp [hy])
    split <;> simp_all
  case fieldAddr t x j => rw [h]
  case field t x j => rw [h]
  case indexAddr t x y => rw [h.1, h.2]
  case index t x y => rw [h.1, h.2]
  case extract x j => rw [h]
  case call c =>
    have h1 : opds ρ c.args.toList = opds ρ' c.args.toList := opds_congr fun x hx => h x (by simp only [Call.operands, Array.toList_append, List.mem_append]; exact .inr hx)
    rw [h1]
    split
    · split
      · rfl
      · rename_i f hf
        have := h f (by simp [Call.operands, hf])
        rw [this]
      · rfl
    · rfl

theorem pureV_state {o : Option AV} {σ σ' : St} {r : AV} (h : pureV o σ = some (r, σ')) : σ' = σ ∧ ∀ σ2, pureV o σ2 = some (r, σ2) := by
  obtain ⟨h1, h2⟩ := pureV_some h
  exact ⟨h2, fun σ2 => by rw [h1]; rfl⟩

/-- An operation that doesn't look at the state. -/
theorem silent {n j : Nat} {o : Oper} {ρ : Nat → AV} {σ' : St} {r : AV} (hc : cls T o.op = 0) (h : evalOp T K n j o ρ σ = some (r, σ')) : σ' = σ ∧ ∀ σ2, evalOp T K n j o ρ σ2 = some (r, σ2) := by
  unfold evalOp at h ⊢
  cases ho : o.op <;> simp only [ho, cls] at h hc ⊢ <;> try (simp at hc; done)
  case move x => exact pureV_state h
  case assign x => exact pureV_state h
  case pick c x y =>
    split at h
    · exact pureV_state h
    · exact pureV_state h
    · simp at h
  case build t ps =>
    split at h
    · exact pureV_state h
    · simp at h
  case nilCheck x =>
    split at h <;> simp only [Option.some.injEq, Prod.mk.injEq, reduceCtorEq] at h
    all_goals
      obtain ⟨rfl, rfl⟩ := h
      exact ⟨rfl, fun _ => rfl⟩
  case binOp op t x y t' =>
    split at h
    · exact pureV_state h
    · simp at h
  case unOp op t x =>
    split at h
    · exact pureV_state h
    · simp at h
  case convert a b x =>
    split at h
    · exact pureV_state h
    · simp at h
  case makeInterface t x =>
    split at h <;> simp only [Option.some.injEq, Prod.mk.injEq, reduceCtorEq] at h
    obtain ⟨rfl, rfl⟩ := h
    exact ⟨rfl, fun _ => rfl⟩
  case makeFunc f a b =>
    cases f <;> try (simp at h; done)
    rcases a with ⟨l⟩
    cases l <;> try (simp at h; done)
    simp only at h ⊢
    split at h <;> simp only [Option.some.injEq, Prod.mk.injEq, reduceCtorEq] at h
    obtain ⟨rfl, rfl⟩ := h
    exact ⟨rfl, fun _ => rfl⟩
  case slice t x lo hi mx =>
    cases mx <;> try (simp at h; done)
    simp only at h ⊢
    split at h
    · exact pureV_state h
    · simp at h
  case fieldAddr t x j =>
    split at h
    · exact pureV_state h
    · simp at h
  case field t x j =>
    split at h
    · exact pureV_state h
    · simp at h
  case indexAddr t x y =>
    split at h
    · exact pureV_state h
    · simp at h
  case index t x y =>
    split at h
    · exact pureV_state h
    · simp at h
  case extract x j =>
    split at h
    · exact pureV_state h
    · simp at h
  case call c =>
    split at h
    · rename_i vs hv
      split at h
      · rename_i b hb
        simp only [hb] at hc
        have hb' : b = .len ∨ b = .max ∨ b = .min := by
          cases b <;> simp at hc <;> simp
        unfold bltV at h
        rcases hb' with rfl | rfl | rfl
        · split at h <;> try (simp at h; done)
          all_goals simp_all [bltV]
          exact pureV_state h
        · split at h <;> try (simp at h; done)
          all_goals simp_all [bltV]
          split at h <;> simp_all
        · split at h <;> try (simp at h; done)
          all_goals simp_all [bltV]
          split at h <;> simp_all
      · rename_i f hf
        simp only [hf] at hc
        cases f <;> try (simp at hc; done)
        rename_i fn
        simp only [opd] at h ⊢
        simp only at hc
        have hr : T.rprim fn = none ∧ T.row fn = false := by
          cases hq : T.rprim fn <;> cases hs : T.row fn <;> simp [hq, hs] at hc ⊢
        rw [hr.1, hr.2] at hc
        simp only [Option.isSome_none, Bool.or_self] at hc
        simp only [primK, rowK, hr.1, hr.2] at h ⊢
        cases hp : T.prim fn with
        | none =>
          cases hq : T.pure fn with
          | false => simp [hp, hq] at hc
          | true =>
            simp only [hp, hq] at h ⊢
            exact pureV_state h
        | some p =>
          cases hq : T.pure fn with
          | false =>
            simp only [hp, hq] at h ⊢
            exact pureV_state h
          | true =>
            simp only [hp, hq] at h ⊢
            exact pureV_state h
      · simp at h
    · simp at h
end
end Go.Pv
