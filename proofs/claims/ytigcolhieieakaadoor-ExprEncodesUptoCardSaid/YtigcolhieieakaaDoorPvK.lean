/- Regions whose order is open; code; calls. -/
import Derived.Test.YtigcolhieieakaaDoorPvJ
namespace Go.Pv
open Go Go.RowKit
set_option linter.unusedVariables false
set_option linter.unusedSimpArgs false

section
variable {P : Program} {T : Tab} {w : World} {G : Gh} {base : Nat} {w0 : World} {σ : St} {K : CallK} {ops : Array Oper}

theorem getD_lt {l : Array Bool} {i : Nat} (h : i < l.size) (a b : Bool) : l.getD i a = l.getD i b := by
  simp [Array.getD_eq_getD_getElem?, Array.getElem?_eq_getElem h]

theorem ready_mem {listed : Array Bool} {i : Nat} : i ∈ Region.ready .any ops listed ↔ i < ops.size ∧ listed.getD i true = false ∧ ∃ o, ops[i]? = some o ∧ ∀ e ∈ o.after.toList, Region.binds .any e = true → listed.getD e.on false = true := by
  unfold Region.ready
  rw [List.mem_filter, List.mem_range]
  constructor
  · rintro ⟨h1, h2⟩
    simp only [Bool.and_eq_true, Bool.not_eq_true'] at h2
    obtain ⟨h2, h3⟩ := h2
    refine ⟨h1, h2, ops[i], by simp [h1], fun e he hb => ?_⟩
    simp only [Array.getElem?_eq_getElem h1, Option.map_some, Option.getD_some] at h3
    have := Array.all_eq_true'.1 h3 e (Array.mem_toList_iff.1 he)
    simpa [hb] using this
  · rintro ⟨h1, h2, o, ho, h3⟩
    refine ⟨h1, ?_⟩
    simp only [h2, ho, Bool.not_false, Bool.true_and, Option.map_some, Option.getD_some]
    refine Array.all_eq_true'.2 fun e he => ?_
    cases hb : Region.binds .any e with
    | false => rfl
    | true => simpa using h3 e (Array.mem_toList_iff.2 he) hb

def remF (ops : Array Oper) (listed : Array Bool) (i : Nat) : Option (Nat × Oper) := if listed.getD i true then none else ops[i]?.map fun o => (i, o)

theorem remaining_split {listed : Array Bool} {i : Nat} (hi : i < ops.size) : remaining ops listed = (List.range i).filterMap (remF ops listed) ++ (remF ops listed i).toList ++ (List.range' (i + 1) (ops.size - i - 1)).filterMap (remF ops listed) := by
  have : List.range ops.size = List.range i ++ [i] ++ List.range' (i + 1) (ops.size - i - 1) := by
    rw [List.range_eq_range', List.range_eq_range']
    have h1 : List.range' 0 i ++ [i] = List.range' 0 (i + 1) := by rw [List.range'_1_concat]; simp
    rw [h1]
    have := List.range'_append_1 (s := 0) (m := i + 1) (n := ops.size - i - 1)
    rw [Nat.zero_add] at this
    rw [this]
    congr 1
    omega
  unfold remaining
  rw [this, List.filterMap_append, List.filterMap_append]
  have : [i].filterMap (fun i => if listed.getD i true then none else ops[i]?.map fun o => (i, o)) = (remF ops listed i).toList := by
    have h1 : ∀ {f : Nat → Option (Nat × Oper)}, [i].filterMap f = (f i).toList := fun {f} => by
      rw [List.filterMap_cons]
      cases f i <;> rfl
    rw [h1]; rfl
  rw [this]
  rfl

theorem filterMap_congr' {α β : Type} {f g : α → Option β} {l : List α} (h : ∀ x ∈ l, f x = g x) : l.filterMap f = l.filterMap g := by
  induction l with
  | nil => rfl
  | cons x xs ih => simp only [List.filterMap_cons, h x List.mem_cons_self, ih fun y hy => h y (List.mem_cons_of_mem _ hy)]

theorem any_sound (ok : TabOk P T) (hK : KOk P base w0 K) (pok : PrimOk P (primK T K) base w0) (rok : RowOk P (rowK T K) base w0) {N : Nat} (hd : okOps N ops = true) {Q : Exit → Act → World → Prop} {ρ' : Nat → AV} (hm : okDrawD T ops ρ' = true) : ∀ (fuel : Nat) (listed : Array Bool) {ρ : Nat → AV} {σ σ' : St} {G : Gh} {a : Act} {w : World},
    listed.size = ops.size → Closed ops listed → (remaining ops listed).length ≤ fuel → stepsV T K ops (remaining ops listed) ρ σ = some (ρ', σ') → FR N G ρ a → Inv base w0 G σ w →
    (∀ G' a' w', G.le G' → Inv base w0 G' σ' w' → FR N G' ρ' a' → Q .normal a' w') → wpAny P .any ops Q fuel listed a w := by
  -- nothing is ready: nothing is left
  have hnone : ∀ (listed : Array Bool), listed.size = ops.size → Region.ready .any ops listed = [] → remaining ops listed = [] := by
    intro listed hs hr
    have hall : ∀ i, i < ops.size → listed.getD i true = true := by
      intro i
      induction i using Nat.strongRecOn with
      | _ i ih =>
        intro hi
        cases hl : listed.getD i true with
        | true => rfl
        | false =>
          have hsp := (okPairsD_spec ops.toList 0 rfl hm i ops[i] (by simp [hi])).1
          rw [Nat.zero_add] at hsp
          have : i ∈ Region.ready .any ops listed := ready_mem.2 ⟨hi, hl, ops[i], by simp [hi], fun e he hb => by
            have := List.all_eq_true.1 hsp e he
            rw [hb] at this
            have hlt : e.on < i := by simpa [Nat.blt_eq] using this
            rw [← getD_lt (by omega) true false]
            exact ih e.on hlt (by omega)⟩
          rw [hr] at this
          cases this
    unfold remaining
    rw [List.filterMap_eq_nil_iff]
    intro i hi
    rw [if_pos (hall i (List.mem_range.1 hi))]
  have hend : ∀ {listed : Array Bool} {ρ : Nat → AV} {σ σ' : St} {G : Gh} {a : Act} {w : World}, listed.size = ops.size → stepsV T K ops (remaining ops listed) ρ σ = some (ρ', σ') → FR N G ρ a → Inv base w0 G σ w →
      (∀ G' a' w', G.le G' → Inv base w0 G' σ' w' → FR N G' ρ' a' → Q .normal a' w') → Region.ready .any ops listed = [] → Q .normal a w := by
    intro listed ρ σ σ' G a w hs h hf hi hq hr
    rw [hnone listed hs hr] at h
    simp only [stepsV, Option.some.injEq, Prod.mk.injEq] at h
    obtain ⟨rfl, rfl⟩ := h
    exact hq G a w (.refl G) hi hf
  intro fuel
  induction fuel with
  | zero =>
    intro listed ρ σ σ' G a w hs hcl hlen h hf hi hq
    have hrem : remaining ops listed = [] := List.eq_nil_of_length_eq_zero (by omega)
    have hr : Region.ready .any ops listed = [] := by
      rw [List.eq_nil_iff_forall_not_mem]
      intro i hmem
      obtain ⟨h1, h2, o, ho, _⟩ := ready_mem.1 hmem
      have hin : (i, o) ∈ remaining ops listed := by
        unfold remaining
        refine List.mem_filterMap.2 ⟨i, List.mem_range.2 h1, ?_⟩
        rw [if_neg (by simp [h2]), ho]; rfl
      rw [hrem] at hin; cases hin
    exact ⟨hr, hend hs h hf hi hq hr⟩
  | succ fuel ih =>
    intro listed ρ σ σ' G a w hs hcl hlen h hf hi hq
    refine ⟨fun hr => hend hs h hf hi hq hr, fun i hmem => ?_⟩
    obtain ⟨h1, h2, o, ho, h3⟩ := ready_mem.1 hmem
    have hsp := remaining_split (listed := listed) h1
    have hoi : remF ops listed i = some (i, o) := by unfold remF; rw [if_neg (by simp [h2]), ho]; rfl
    rw [hoi] at hsp
    -- behind it
    have hs' : (listed.setIfInBounds i true).size = ops.size := by simp [hs]
    have hgetne : ∀ (k : Nat) (b : Bool), k ≠ i → (listed.setIfInBounds i true).getD k b = listed.getD k b := fun k b hk => by
      simp only [Array.getD_eq_getD_getElem?]
      rw [Array.getElem?_setIfInBounds_ne (fun e => hk e.symm)]
    have hgeteq : ∀ b, (listed.setIfInBounds i true).getD i b = true := fun b => by
      simp [Array.getD_eq_getD_getElem?, hs, h1]
    have hmono : ∀ (k : Nat) (b : Bool), listed.getD k b = true → (listed.setIfInBounds i true).getD k b = true := fun k b hk => by
      by_cases e : k = i
      · rw [e]; exact hgeteq b
      · rw [hgetne k b e]; exact hk
    have hsp' := remaining_split (listed := listed.setIfInBounds i true) h1
    have hoi' : remF ops (listed.setIfInBounds i true) i = none := by unfold remF; rw [if_pos (hgeteq true)]
    rw [hoi'] at hsp'
    have hx1 : (List.range i).filterMap (remF ops (listed.setIfInBounds i true)) = (List.range i).filterMap (remF ops listed) := filterMap_congr' fun k hk => by
      have := List.mem_range.1 hk
      unfold remF; rw [hgetne k true (by omega)]
    have hx2 : (List.range' (i + 1) (ops.size - i - 1)).filterMap (remF ops (listed.setIfInBounds i true)) = (List.range' (i + 1) (ops.size - i - 1)).filterMap (remF ops listed) := filterMap_congr' fun k hk => by
      have := List.mem_range'_1.1 hk
      unfold remF; rw [hgetne k true (by omega)]
    rw [hx1, hx2] at hsp'
    simp only [Option.toList_none, List.append_nil, Option.toList_some, List.append_assoc, List.singleton_append] at hsp hsp'
    -- what is left of it: each at its place, in the text's order
    have hrem : ∀ y ∈ remaining ops listed, ops[y.1]? = some y.2 ∧ listed.getD y.1 true = false := by
      intro y hy
      obtain ⟨x, hx, hxq⟩ := List.mem_filterMap.1 hy
      split at hxq
      · simp at hxq
      · rename_i hl
        obtain ⟨q', hq', rfl⟩ := Option.map_eq_some_iff.1 hxq
        exact ⟨hq', by simpa using hl⟩
    have hsort : (remaining ops listed).Pairwise fun a b => a.1 < b.1 := by
      unfold remaining
      refine List.Pairwise.filterMap (R := fun (a b : Nat) => a < b) _ (fun a a' hlt b hb b' hb' => ?_) List.pairwise_lt_range
      split at hb
      · simp at hb
      · split at hb'
        · simp at hb'
        · obtain ⟨q, _, rfl⟩ := Option.map_eq_some_iff.1 hb
          obtain ⟨q', _, rfl⟩ := Option.map_eq_some_iff.1 hb'
          exact hlt
    have hnei : ∀ x ∈ (List.range i).filterMap (remF ops listed), x.1 ≠ i := by
      intro q hq
      obtain ⟨x, hx, hxq⟩ := List.mem_filterMap.1 hq
      have hlt := List.mem_range.1 hx
      unfold remF at hxq
      split at hxq
      · simp at hxq
      · obtain ⟨q', hq', rfl⟩ := Option.map_eq_some_iff.1 hxq
        simp only; omega
    -- each one ahead may stand beside it
    have hpairs : ∀ pre x post, (List.range i).filterMap (remF ops listed) = pre ++ x :: post → okPair T ops x.2 o = true ∨ (okDyn ops ρ' x.2 o = true ∧ (∀ a, addrT x.2.op = some a → Quiet a (x :: (post ++ (i, o) :: (List.range' (i + 1) (ops.size - i - 1)).filterMap (remF ops listed)))) ∧ (∀ b, addrT o.op = some b → Quiet b (x :: (post ++ (i, o) :: (List.range' (i + 1) (ops.size - i - 1)).filterMap (remF ops listed))))) := by
      intro pre q post hq
      have hsp2 : remaining ops listed = pre ++ q :: (post ++ (i, o) :: (List.range' (i + 1) (ops.size - i - 1)).filterMap (remF ops listed)) := by rw [hsp, hq]; simp
      have hin : q ∈ (List.range i).filterMap (remF ops listed) := by rw [hq]; simp
      obtain ⟨x, hx, hxq⟩ := List.mem_filterMap.1 hin
      have hlt := List.mem_range.1 hx
      unfold remF at hxq
      split at hxq
      · simp at hxq
      · rename_i hl
        obtain ⟨q', hq', rfl⟩ := Option.map_eq_some_iff.1 hxq
        have hspec := (okPairsD_spec ops.toList 0 rfl hm i o (by simpa using ho)).2 x q' hq' (by omega)
        rw [Nat.zero_add] at hspec
        rcases hspec with hb | hb | ⟨hb, hs1, hs2⟩
        · have := ahead_listed hs hcl i o ho h3 x hb
          rw [getD_lt (by omega) false true] at this
          exact absurd this hl
        · exact .inl hb
        · refine .inr ⟨hb, fun a ha y hy hd => ?_, fun b hb' y hy hd => ?_⟩
          · have hyr : y ∈ remaining ops listed := by rw [hsp2]; exact List.mem_append_right _ hy
            have hyo := (hrem y hyr).1
            have hle : x ≤ y.1 := by
              rcases List.mem_cons.1 hy with rfl | hy'
              · exact Nat.le_refl _
              · rw [hsp2] at hsort
                have := (List.pairwise_append.1 hsort).2.1
                exact Nat.le_of_lt ((List.pairwise_cons.1 this).1 y hy')
            have := (stab_quiet hs1 ha hyo hd).1
            omega
          · have hyr : y ∈ remaining ops listed := by rw [hsp2]; exact List.mem_append_right _ hy
            obtain ⟨hyo, hyl⟩ := hrem y hyr
            have hbit := stab_quiet hs2 hb' hyo hd
            have := ahead_listed hs hcl i o ho h3 y.1 hbit.2
            have hysz : y.1 < listed.size := by
              rcases Nat.lt_or_ge y.1 ops.size with h | h
              · omega
              · simp [Array.getElem?_eq_none h] at hyo
            rw [getD_lt hysz false true, hyl] at this
            simp at this
    rw [hsp] at h
    obtain ⟨ρ1, σ1, g1, g2⟩ := first _ hnei hpairs h
    rw [← hsp'] at g2
    have hdo : okDst N o = true := List.all_eq_true.1 hd o (by rw [Array.mem_toList_iff]; exact Array.mem_of_getElem? ho)
    refine wpOp_of_step ok hK pok rok ho hdo hf hi g1 fun G' a' w' q1 q2 q3 => ?_
    refine ih (listed.setIfInBounds i true) hs' ?_ ?_ g2 q3 q2 fun G2 a2 w2 p1 p2 p3 => hq G2 a2 w2 (q1.trans p1) p2 p3
    · intro j oj hj hlj e he hb
      by_cases hji : j = i
      · subst hji
        rw [ho] at hj
        simp only [Option.some.injEq] at hj; subst hj
        exact hmono _ _ (h3 e he hb)
      · rw [hgetne j true hji] at hlj
        exact hmono _ _ (hcl j oj hj hlj e he hb)
    · rw [hsp] at hlen
      rw [hsp']
      simp only [List.length_append, List.length_cons] at hlen ⊢
      omega

theorem placed_length : ∀ (l : List Oper) (s : Nat), (placed s l).length = l.length
  | [], _ => rfl
  | _ :: l, s => by simp [placed, placed_length l (s + 1)]

theorem draw_sound (ok : TabOk P T) (hK : KOk P base w0 K) (pok : PrimOk P (primK T K) base w0) (rok : RowOk P (rowK T K) base w0) {N : Nat} (hmx : P.follows .mixedOrders = true) (hd : okOps N ops = true) {Q : Exit → Act → World → Prop} {ρ ρ' : Nat → AV} (hm : okDrawD T ops ρ' = true) {σ' : St} {a : Act} {id : Nat}
    (hf : FR N G ρ a) (hi : Inv base w0 G σ w) (h : stepsV T K ops (placed 0 ops.toList) ρ σ = some (ρ', σ')) (hq : ∀ G' a' w', G.le G' → Inv base w0 G' σ' w' → FR N G' ρ' a' → Q .normal a' w') : (Code.region id ops true).wp P Q a w := by
  refine wp_region_any hmx ?_
  have hrem : remaining ops (Array.replicate ops.size false) = placed 0 ops.toList := by
    unfold remaining
    have : (List.range ops.size).filterMap (fun i => if (Array.replicate ops.size false).getD i true then none else ops[i]?.map fun o => (i, o)) = (List.range ops.size).filterMap (fun i => ops.toList[i]?.map fun o => (i, o)) := filterMap_congr' fun k hk => by
      have := List.mem_range.1 hk
      rw [if_neg (by simp [Array.getD_eq_getD_getElem?, this])]
      simp
    rw [this]
    have h2 : ∀ (l : List Oper) (s : Nat) (f : Nat → Option Oper), (∀ j, j < l.length → f (s + j) = l[j]?) → (List.range' s l.length).filterMap (fun i => (f i).map fun o => (i, o)) = placed s l := by
      intro l
      induction l with
      | nil => intro s f hf; rfl
      | cons x xs ih =>
        intro s f hf
        have h0 := hf 0 (by simp)
        rw [Nat.add_zero, List.getElem?_cons_zero] at h0
        rw [List.length_cons, List.range'_succ, List.filterMap_cons, h0]
        simp only [Option.map_some, placed]
        rw [ih (s + 1) f fun j hj => by rw [show s + 1 + j = s + (j + 1) by omega, hf (j + 1) (by simp; omega)]; simp]
    have h3 := h2 ops.toList 0 (fun i => ops.toList[i]?) fun j hj => by rw [Nat.zero_add]
    rw [List.range_eq_range']
    simpa using h3
  refine any_sound ok hK pok rok hd hm ops.size _ (by simp) ?_ (by rw [hrem, placed_length]; simp) (by rw [hrem]; exact h) hf (show Inv base w0 G σ w.drew from hi.drew) hq
  intro j o ho hl
  have hj : j < ops.size := by
    rcases Nat.lt_or_ge j ops.size with h | h
    · exact h
    · simp [Array.getElem?_eq_none h] at ho
  simp [Array.getD_eq_getD_getElem?, hj] at hl
end
end Go.Pv
