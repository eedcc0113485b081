/- From what the evaluator answers to a row, for arguments that are data (numbers, bools, strings, slices, structs): for any law that returns true and leaves its arguments. -/
import Derived.Test.YtigcolhieieakaaDoorPvArg
import Derived.Test.YtigcolhieieakaaDoorPvX
import Derived.Test.YtigcolhieieakaaDoorTie
import Derived.Test.YtigcolhieieakaaDoorCards
import Derived.ChangeSame
import Derived.ChangeVars
import Derived.JoinedOf
import Derived.RowKit
import Derived.RowKitTokens
import Derived.ProofKit
import Derived.OpenShut
import Derived.Deep.DeepHandedRow
import Derived.Lib.LaidTab
import Derived.LaidLaws
import Derived.LaidHandle
import Derived.Stop.Joined
import Derived.SevenTiedAt
namespace Go.Pv
open Go Go.RowKit Go.ChangeShapes Go.WideShapes Go.Proofs
set_option maxRecDepth 100000
set_option linter.unusedVariables false
set_option linter.unusedSimpArgs false
open Go.Proofs.YtigcolhieieakaaDoor.Rows (uptoBulk uptoBulkAll)

/-- A value of a type, in one piece. -/
def TypedV (T : Tab) (t : TypeId) (a : AV) : Prop := ∃ n, match T.isAgg t with
  | some true => ∃ xs, a = .a xs ∧ Typed T n t xs
  | _ => Typed T n t [a]
def TypedVs (T : Tab) : List TypeId → List AV → Prop
  | [], [] => True
  | t :: ts, a :: al => TypedV T t a ∧ TypedVs T ts al
  | _, _ => False

section
variable {H : Type} {enc : TypeId × Value → H} {P : Program} {T : Tab} {W : World} {base : Nat}

theorem open_value (ok : TabOk P T) {ts : List TypeId} (hts : closedT T ts = true) {t : TypeId} (ht : t ∈ ts) {b0 : Nat} {v : Value} {d : DataW H} {p : List MemPlace} (hval : Value.okWide P W .any b0 t v) (h : DataW.Trod enc P W 0 (fun _ => true) true t v d p) :
    ∃ a, rep (Gw W) a v ∧ TypedV T t a ∧ bulk a ≤ uptoBulk d := by
  obtain ⟨n, h⟩ := h
  obtain ⟨avs, r1, r2, r3⟩ := open_plain ok hts n t _ d p ht h
  have hok := List.all_eq_true.1 hts _ ht
  unfold okT at hok
  cases hi : T.inf t with
  | none => simp [hi] at hok
  | some ti =>
    cases hu : T.und t with
    | none => simp [hi, hu] at hok
    | some u =>
      obtain ⟨td, hP, htd⟩ := ok.und _ _ hu
      have one : (∃ x, v.cells.toList = [x] ∧ x = v) → T.isAgg t = some false → ∃ a, rep (Gw W) a v ∧ TypedV T t a ∧ bulk a ≤ uptoBulk d := fun ⟨x, hx, e⟩ hag => by
        subst e
        rw [hx] at r1
        obtain ⟨a, rfl⟩ : ∃ a, avs = [a] := List.length_eq_one_iff.1 (by have := r1.length; simpa using this.symm)
        refine ⟨a, (repL_cons.1 r1).1, ⟨n, by rw [hag]; exact r2⟩, by simpa [bulkL] using r3⟩
      cases u with
      | bool =>
        have hP' : P.underlying t = some .bool := by rw [hP]; cases td <;> simp [TD.of] at htd; rfl
        obtain ⟨b, rfl⟩ := okWide_bool hP' hval
        exact one ⟨_, rfl, rfl⟩ (by unfold Tab.isAgg; rw [hu])
      | int k =>
        have hP' : P.underlying t = some (.int k) := by rw [hP]; cases td <;> simp [TD.of] at htd; rw [htd]
        obtain ⟨b, rfl⟩ := okWide_int hP' hval
        exact one ⟨_, rfl, rfl⟩ (by unfold Tab.isAgg; rw [hu])
      | string =>
        have hP' : P.underlying t = some .string := by rw [hP]; cases td <;> simp [TD.of] at htd; rfl
        obtain ⟨b, rfl⟩ := okWide_string hP' hval
        exact one ⟨_, rfl, rfl⟩ (by unfold Tab.isAgg; rw [hu])
      | slice e =>
        have hP' : P.underlying t = some (.slice e) := by rw [hP]; cases td <;> simp [TD.of] at htd; rw [htd]
        obtain ⟨a, l, c, rfl⟩ := okWide_slice hP' hval
        exact one ⟨_, rfl, rfl⟩ (by unfold Tab.isAgg; rw [hu])
      | struct fs =>
        obtain ⟨fl, hP', hfl⟩ : ∃ fl, P.underlying t = some (.struct fl) ∧ fl.toList.map (fun f => (f.offset, f.type)) = fs := by
          rw [hP]; cases td <;> simp [TD.of] at htd
          exact ⟨_, rfl, htd⟩
        obtain ⟨cs, rfl, _⟩ := okWide_struct hP' hval
        refine ⟨.a avs, ⟨cs, rfl, r1⟩, ⟨n, ?_⟩, by simpa [bulk] using r3⟩
        rw [show T.isAgg t = some true from by unfold Tab.isAgg; rw [hu]]
        exact ⟨avs, rfl, r2⟩
      | _ => simp [hi, hu] at hok

theorem open_values (ok : TabOk P T) {ts : List TypeId} (hts : closedT T ts = true) {b0 : Nat} : ∀ {ps : List TypeId} {vs : List Value} {ds : List (DataW H)} {p : List MemPlace}, (∀ t ∈ ps, t ∈ ts) → (∀ (j : Nat) t v, ps[j]? = some t → vs[j]? = some v → Value.okWide P W .any b0 t v) →
    DataW.TrodAll enc P W 0 (fun _ => true) true ps vs ds p → ∃ avs, repL (Gw W) avs vs ∧ TypedVs T ps avs ∧ bulkL avs ≤ uptoBulkAll ds
  | [], vs, ds, p, hm, hv, h => by
    cases vs <;> cases ds <;> simp [DataW.TrodAll] at h
    exact ⟨[], rfl, trivial, by simp [bulkL]⟩
  | t :: ps, vs, ds, p, hm, hv, h => by
    cases vs <;> cases ds <;> simp only [DataW.TrodAll] at h
    rename_i v vs d ds
    obtain ⟨p0, q0, h0, h1, rfl⟩ := h
    obtain ⟨a, r1, r2, r3⟩ := open_value ok hts (hm t (by simp)) (hv 0 t v rfl rfl) h0
    obtain ⟨al, s1, s2, s3⟩ := open_values ok hts (fun u hu => hm u (List.mem_cons_of_mem _ hu)) (fun j u w h2 h3 => hv (j + 1) u w (by simpa using h2) (by simpa using h3)) h1
    exact ⟨a :: al, repL_cons.2 ⟨r1, s1⟩, ⟨r2, s2⟩, by simp only [bulkL, uptoBulkAll_cons]; omega⟩

theorem again_values (hl : laidOutB P = true) {W' : World} (hb : Below W.heap.size W W') : ∀ {ps : List TypeId} {vs : List Value} {ds : List (DataW H)} {p : List MemPlace}, (ps.all fun t => P.readableRec t && decide (t < P.types.size)) = true → (∀ x ∈ p, x.block < W.heap.size) →
    DataW.TrodAll enc P W 0 (fun _ => true) true ps vs ds p → DataW.TrodAll enc P W' 0 (fun b => decide (b < W.heap.size)) true ps vs ds p
  | [], vs, ds, p, _, _, h => by cases vs <;> cases ds <;> simp [DataW.TrodAll] at h ⊢; exact h
  | t :: ps, vs, ds, p, hr, hlt, h => by
    cases vs <;> cases ds <;> simp only [DataW.TrodAll] at h ⊢
    rename_i v vs d ds
    obtain ⟨p0, q0, h0, h1, rfl⟩ := h
    simp only [List.all_cons, Bool.and_eq_true, decide_eq_true_eq] at hr
    exact ⟨p0, q0, Below.trod hl hr.1.1 hr.1.2 h0 hb (fun x hx => hlt x (List.mem_append.2 (.inl hx))), again_values hl hb hr.2 (fun x hx => hlt x (List.mem_append.2 (.inr hx))) h1, rfl⟩
end

theorem own0 : ownKnob Tryd.prog.godebug = none := by kernel_rfl
theorem et0 : Tryd.prog.globalNamed "errors.errorType" = some 0 := by kernel_rfl
theorem rt0 : (Tryd.prog.cutTypes.find? (·.1 == "internal/reflectlite.rtype")).map (·.2) = some 121 := by kernel_rfl
theorem size0 : Tryd.prog.types.size = 187 := by kernel_rfl
theorem oneRow0 : ((List.range 187).filter fun t => Tryd.prog.rowNamed t [101, 114, 114, 111, 114]) = [26] := by kernel_rfl
theorem laidOut0 : laidOutB Tryd.prog = true := by kernel_rfl

theorem handle_of_laid {W : World} (h : laidMetH Tryd.prog [("errors.errorType", YtigcolhieieakaaDoor.Rows.laid_errors_errorType)] W) : W.cell? ⟨0, 0, none⟩ = some (.iface 121 (.agg #[.pointer (some ⟨1, 26, none⟩)])) := by
  have h' : laidMet Tryd.prog [] W ∧ handlesMet Tryd.prog [("errors.errorType", YtigcolhieieakaaDoor.Rows.laid_errors_errorType)] W := h
  obtain ⟨name, u, ty, e1, e2, e3, e4, e5⟩ := h'.2 _ (List.mem_singleton.2 rfl)
  have en : name = [101, 114, 114, 111, 114] := (Option.some.inj e1).symm
  subst en
  obtain rfl := Option.some.inj (rt0.symm.trans e2)
  have hm : ty ∈ (List.range 187).filter fun t => Tryd.prog.rowNamed t [101, 114, 114, 111, 114] := List.mem_filter.2 ⟨List.mem_range.2 (by rw [← size0]; exact e3), e4⟩
  rw [oneRow0] at hm
  obtain rfl := List.mem_singleton.1 hm
  have hh : typeHandle Tryd.prog 26 = .pointer (some ⟨1, 26, none⟩) := by kernel_rfl
  rw [hh] at e5
  simpa using World.var?_cell et0 e5 0

noncomputable def laidWorld (os : Os) : World :=
  let w0 := World.holding Tryd.prog os ⟨#[], #[], []⟩
  { w0 with heap := w0.heap.modify 0 fun
      | .cells _ t frozen => .cells #[.iface 121 (.agg #[.pointer (some ⟨1, 26, none⟩)])] t frozen
      | o => o }
theorem laidWorld_met (os : Os) (args : Array Value) : laidMetH Tryd.prog [("errors.errorType", YtigcolhieieakaaDoor.Rows.laid_errors_errorType)] ((laidWorld os).forCall (fun _ _ => 0) ⟨#[], args, []⟩).memory :=
  laidMetH_of_parts (laidMet_nil _ _) (by kernel_rfl)

/-- The contract of a law that returns true and leaves its arguments. -/
theorem contract_of {H : Type} {enc : TypeId × Value → H} {f : FuncId} {fn : Func} {s : ChangeSpec} {ts : List TypeId} {B : Nat} (hvars : s.vars = []) (hts : closedT TS ts = true) (hps : ∀ t ∈ fn.params.toList, t ∈ ts) (hres : fn.resultTypes = #[4])
    (hread : (fn.params.toList.all fun t => Tryd.prog.readableRec t && decide (t < Tryd.prog.types.size)) = true)
    (heval : ∀ avs, TypedVs TS fn.params.toList avs → bulkL avs ≤ B → PureW TS f avs (.b true))
    {W : World} {base : Nat} {args : Array Value} {ds gs : List (DataW H)} {before : List MemPlace}
    (hval : ∀ (j : Nat) t v, fn.params[j]? = some t → args[j]? = some v → Value.okWide Tryd.prog W .any base t v)
    (hW : DataW.Whole enc Tryd.prog fn.params.toList s.vars false W args.toList ds gs before)
    (hfn : s.fn H (ds ++ gs) = { results := [.lit (.bool true)], args := ds }) (hB : uptoBulkAll ds ≤ B)
    (hg : W.cell? ⟨0, 0, none⟩ = some (.iface 121 (.agg #[.pointer (some ⟨1, 26, none⟩)]))) :
    Calls Tryd.prog f args W fun e W' => ∃ v, e = .returned v ∧ s.post enc Tryd.prog fn false true false false W args v W' := by
  have hW' := hW
  obtain ⟨p, q, hA, hV, rfl, hfz, hnd⟩ := hW
  rw [hvars] at hV
  obtain ⟨rfl, rfl⟩ : gs = [] ∧ q = [] := by
    cases gs with
    | nil => exact ⟨rfl, hV⟩
    | cons g r => exact absurd hV (by intro h; cases h)
  have hlt : ∀ x ∈ p, x.block < W.heap.size := fun x hx => by simpa using hW'.lt x (List.mem_append.2 (.inl hx))
  obtain ⟨avs, r1, r2, r3⟩ := open_values TS_ok hts hps (fun j t v h1 h2 => hval j t v (by simpa using h1) (by simpa using h2)) hA
  obtain ⟨k, v, σ, he, hu, hgd⟩ := heval avs r2 (by omega)
  have ha := Pv.answers_of_eval TS_ok TS_fnOk TS_prim TS_row he hu hgd
  have hc := ha.calls (w := W) (us := args.toList) (fun x hx => by
    obtain rfl := List.mem_singleton.1 hx
    exact hg) r1
  rw [Array.toArray_toList] at hc
  refine hc.mono fun e W' ⟨v, m', e1, e2, e3⟩ => ?_
  subst e1
  refine ⟨v, rfl, _, _, _, [], p, [], hW', ?_, ?_, ?_, e2.frame _, fun h => by cases h⟩
  · rw [hfn, show v = .bool true from e3, hres]; exact trodAll_mk1 (shut_bool Tryd.underlying4 true)
  · rw [hfn]; exact again_values laidOut0 e2 hread hlt hA
  · rw [hfn, hvars]; rfl
end Go.Pv
