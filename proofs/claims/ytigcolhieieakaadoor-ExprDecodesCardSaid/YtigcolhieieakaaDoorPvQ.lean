/- Regions whose order is open; code; calls. -/
import Derived.Test.YtigcolhieieakaaDoorPvJ
namespace Go.Pv
open Go Go.RowKit
set_option linter.unusedVariables false
set_option linter.unusedSimpArgs false

section
variable {P : Program} {T : Tab} {w : World} {G : Gh} {base : Nat} {w0 : World} {σ : St} {K : CallK} {ops : Array Oper}

theorem getD_lt {l : Array Bool} {i : Nat} (h : i < l.size) (a b : Bool) : l.getD i a = l.getD i b := by
  simp [Array.getD_eq_getD_getElem?, Array.getElem?_eq_getElem h]

theorem ready_mem {listed : Array Bool} {i : Nat} : i ∈ Region.ready .any ops listed ↔ i < ops.size ∧ listed.getD i true = false ∧ ∃ o, ops[i]? = some o ∧ ∀ e ∈ o.after.toList, Region.binds .any e = true → listed.getD e.on false = true := by
  unfold Region.ready
  rw [List.mem_filter, List.mem_range]
  constructor
  · rintro ⟨h1, h2⟩
    simp only [Bool.and_eq_true, Bool.not_eq_true'] at h2
    obtain ⟨h2, h3⟩ := h2
    refine ⟨h1, h2, ops[i], by simp [h1], fun e he hb => ?_⟩
    simp only [Array.getElem?_eq_getElem h1, Option.map_some, Option.getD_some] at h3
    have := Array.all_eq_true'.1 h3 e (Array.mem_toList_iff.1 he)
    simpa [hb] using this
  · rintro ⟨h1, h2, o, ho, h3⟩
    refine ⟨h1, ?_⟩
    simp only [h2, ho, Bool.not_false, Bool.true_and, Option.map_some, Option.getD_some]
    refine Array.all_eq_true'.2 fun e he => ?_
    cases hb : Region.binds .any e with
    | false => rfl
    | true => simpa using h3 e (Array.mem_toList_iff.2 he) hb

def remF (ops : Array Oper) (listed : Array Bool) (i : Nat) : Option (Nat × Oper) := if listed.getD i true then none else ops[i]?.map fun o => (i, o)

theorem remaining_split {listed : Array Bool} {i : Nat} (hi : i < ops.size) : remaining ops listed = (List.range i).filterMap (remF ops listed) ++ (remF ops listed i).toList ++ (List.range' (i + 1) (ops.size - i - 1)).filterMap (remF ops listed) := by
  have : List.range ops.size = List.range i ++ [i] ++ List.range' (i + 1) (ops.size - i - 1) := by
    rw [List.range_eq_range', List.range_eq_range']
    have h1 : List.range' 0 i ++ [i] = List.range' 0 (i + 1) := by rw [List.range'_1_concat]; simp
    rw [h1]
    have := List.range'_append_1 (s := 0) (m := i + 1) (n := ops.size - i - 1)
    rw [Nat.zero_add] at this
    rw [this]
    congr 1
    omega
  unfold remaining
  rw [this, List.filterMap_append, List.filterMap_append]
  have : [i].filterMap (fun i => if listed.getD i true then none else ops[i]?.map fun o => (i, o)) = (remF ops listed i).toList := by
    have h1 : ∀ {f : Nat → Option (Nat × Oper)}, [i].filterMap f = (f i).toList := fun {f} => by
      rw [List.filterMap_cons]
      cases f i <;> rfl
    rw [h1]; rfl
  rw [this]
  rfl

theorem filterMap_congr' {α β : Type} {f g : α → Option β} {l : List α} (h : ∀ x ∈ l, f x = g x) : l.filterMap f = l.filterMap g := by
  induction l with
  | nil => rfl
  | cons x xs ih => simp only [List.filterMap_cons, h x List.mem_cons_self, ih fun y hy => h y (List.mem_cons_of_mem _ hy)]

theorem any_sound (ok : TabOk P T) (hK : KOk P base w0 K) (pok : PrimOk P (primK T K) base w0) (rok : RowOk P (rowK T K) base w0) {N : Nat} (hd : okOps N ops = true) {Q : Exit → Act → World → Prop} {ρ' : Nat → AV} (hm : okDrawD T ops ρ' = true) : ∀ (fuel : Nat) (listed : Array Bool) {ρ : Nat → AV} {σ σ' : St} {G : Gh} {a : Act} {w : World},
    listed.size = ops.size → Closed ops listed → (remaining ops listed).length ≤ fuel → stepsV T K ops (remaining ops listed) ρ σ = some (ρ', σ') → FR N G ρ a → Inv base w0 G σ w →
    (∀ G' a' w', G.le G' → Inv base w0 G' σ' w' → FR N G' ρ' a' → Q .normal a' w') → wpAny P .any ops Q fuel listed a w := by
  -- nothing is ready: nothing is left
  have hnone : ∀ (listed : Array Bool), listed.size = ops.size → Region.ready .any ops listed = [] → remaining ops listed = [] := by
    intro listed hs hr
    have hall : ∀ i, i < ops.size → listed.getD i true = true := by
      intro i
      induction i using Nat.strongRecOn with
      | _ i ih =>
        intro hi
        cases hl : listed.getD i true with
        | true => rfl
        | false =>
          have hsp := (okPairsD_spec ops.toList 0 rfl hm i ops[i] (by simp [hi])).1
          rw [Nat.zero_add] at hsp
          have : i ∈ Region.ready .any ops listed := ready_mem.2 ⟨hi, hl, ops[i], by simp [hi], fun e he hb => by
            have := List.all_eq_true.1 hsp e he
            rw [hb] at this
            have hlt : e.on < i := by simpa [Nat.blt_eq] using this
            rw [← getD_lt (by omega) true false]
            exact ih e.on hlt (by omega)⟩
          rw [hr] at this
          cases this
    unfold remaining
    rw [List.filterMap_eq_nil_iff]
    intro i hi
    rw [if_pos (hall i (List.mem_range.1 hi))]
  have hend : ∀ {listed : Array Bool} {ρ : Nat → AV} {σ σ' : St} {G : Gh} {a : Act} {w : World}, listed.size = ops.size → stepsV T K ops (remaining ops listed) ρ σ = some (ρ', σ') → FR N G ρ a → Inv base w0 G σ w →
      (∀ G' a' w', G.le G' → Inv base w0 G' σ' w' → FR N G' ρ' a' → Q .normal a' w') → Region.ready .any ops listed = [] → Q .normal a w := by
    intro listed ρ σ σ' G a w hs h hf hi hq hr
    rw [hnone listed hs hr] at h
    simp only [stepsV, Option.some.injEq, Prod.mk.injEq] at h
    obtain ⟨rfl, rfl⟩ := h
    exact hq G a w (.refl G) hi hf
  intro fuel
  induction fuel with
  | zero =>
    intro listed ρ σ σ' G a w hs hcl hlen h hf hi hq
    have hrem : remaining ops listed = [] := List.eq_nil_of_length_eq_zero (by omega)
    have hr : Region.ready .any ops listed = [] := by
      rw [List.eq_nil_iff_forall_not_mem]
      intro i hmem
      obtain ⟨h1, h2, o, ho, _⟩ := ready_mem.1 hmem
      have hin : (i, o) ∈ remaining ops listed := by
        unfold remaining
        refine List.mem_filterMap.2 ⟨i, List.mem_range.2 h1, ?_⟩
        rw [if_neg (by simp [h2]), ho]; rfl
      rw [hrem] at hin; cases hin
    exact ⟨hr, hend hs h hf hi hq hr⟩
  | succ fuel ih =>
    intro listed ρ σ σ' G a w hs hcl hlen h hf hi hq
    refine ⟨fun hr => hend hs h hf hi hq hr, fun i hmem => ?_⟩
    obtain ⟨h1, h2, o, ho, h3⟩ := ready_mem.1 hmem
    have hsp := remaining_split (listed := listed) h1
    have hoi : remF ops listed i = some (i, o) := by unfold remF; rw [if_neg (by simp [h2]), ho]; rfl
    rw [hoi] at hsp
    -- behind it
    have hs' : (listed.setIfInBounds i true).size = ops.size := by simp [hs]
    have hgetne : ∀ (k : Nat) (b : Bool), k ≠ i → (listed.setIfInBounds i true).getD k b = listed.getD k b := fun k b hk => by
      simp only [Array.getD_eq_getD_getElem?]
      rw [Array.getElem?_setIfInBounds_ne (fun e => hk e.symm)]
    have hgeteq : ∀ b, (listed.setIfInBounds i true).getD i b = true := fun b => by
      simp [Array.getD_eq_getD_getElem?, hs, h1]
    have hmono : ∀ (k : Nat) (b : Bool), listed.getD k b = true → (listed.setIfInBounds i true).getD k b = true := fun k b hk => by
      by_cases e : k = i
      · rw [e]; exact hgeteq b
      · rw [hgetne k b e]; exact hk
    have hsp' := remaining_split (listed := listed.setIfInBounds i true) h1
    have hoi' : remF ops (listed.setIfInBounds i true) i = none := by unfold remF; rw [if_pos (hgeteq true)]
    rw [hoi'] at hsp'
    have hx1 : (List.range i).filterMap (remF ops (listed.setIfInBounds i true)) = (List.range i).filterMap (remF ops listed) := filterMap_congr' fun k hk => by
      have := List.mem_range.1 hk
      unfold remF; rw [hgetne k true (by omega)]
    have hx2 : (List.range' (i + 1) (ops.size - i - 1)).filterMap (remF ops (listed.setIfInBounds i true)) = (List.range' (i + 1) (ops.size - i - 1)).filterMap (remF ops listed) := filterMap_congr' fun k hk => by
      have := List.mem_range'_1.1 hk
      unfold remF; rw [hgetne k true (by omega)]
    rw [hx1, hx2] at hsp'
    simp only [Option.toList_none, List.append_nil, Option.toList_some, List.append_assoc, List.singleton_append] at hsp hsp'
    -- what is left of it: each at its place, in the text's order
    have hrem : ∀ y ∈ remaining ops listed, ops[y.1]? = some y.2 ∧ listed.getD y.1 true = false := by
      intro y hy
      obtain ⟨x, hx, hxq⟩ := List.mem_filterMap.1 hy
      split at hxq
      · simp at hxq
      · rename_i hl
        obtain ⟨q', hq', rfl⟩ := Option.map_eq_some_iff.1 hxq
        exact ⟨hq', by simpa using hl⟩
    have hsort : (remaining ops listed).Pairwise fun a b => a.1 < b.1 := by
      unfold remaining
      refine List.Pairwise.filterMap (R := fun (a b : Nat) => a < b) _ (fun a a' hlt b hb b' hb' => ?_) List.pairwise_lt_range
      split at hb
      · simp at hb
      · split at hb'
        · simp at hb'
        · obtain ⟨q, _, rfl⟩ := Option.map_eq_some_iff.1 hb
          obtain ⟨q', _, rfl⟩ := Option.map_eq_some_iff.1 hb'
          exact hlt
    have hnei : ∀ x ∈ (List.range i).filterMap (remF ops listed), x.1 ≠ i := by
      intro q hq
      obtain ⟨x, hx, hxq⟩ := List.mem_filterMap.1 hq
      have hlt := List.mem_range.1 hx
      unfold remF at hxq
      split at hxq
      · simp at hxq
      · obtain ⟨q', hq', rfl⟩ := Option.map_eq_some_iff.1 hxq
        simp only; omega
    -- each one ahead may stand beside it
    have hpairs : ∀ pre x post, (List.range i).filterMap (remF ops listed) = pre ++ x :: post → okPair T ops x.2 o = true ∨ (okDyn ops ρ' x.2 o = true ∧ (∀ a, addrT x.2.op = some a → Quiet a (x :: (post ++ (i, o) :: (List.range' (i + 1) (ops.size - i - 1)).filterMap (remF ops listed)))) ∧ (∀ b, addrT o.op = some b → Quiet b (x :: (post ++ (i, o) :: (List.range' (i + 1) (ops.size - i - 1)).filterMap (remF ops listed))))) := by
      intro pre q post hq
      have hsp2 : remaining ops listed = pre ++ q :: (post ++ (i, o) :: (List.range' (i + 1) (ops.size - i - 1)).filterMap (remF ops listed)) := by rw [hsp, hq]; simp
      have hin : q ∈ (List.range i).filterMap (remF ops listed) := by rw [hq]; simp
      obtain ⟨x, hx, hxq⟩ := List.mem_filterMap.1 hin
      have hlt := List.mem_range.1 hx
      unfold remF at hxq
      split at hxq
      · simp at hxq
      · rename_i hl
        obtain ⟨q', hq', rfl⟩ := Option.map_eq_some_iff.1 hxq
        have hspec := (okPairsD_spec ops.toList 0 rfl hm i o (by simpa using ho)).2 x q' hq' (by omega)
        rw [Nat.zero_add] at hspec
        rcases hspec with hb | hb | ⟨hb, hs1, hs2⟩
        · have := ahead_listed hs hcl i o ho h3 x hb
          rw [getD_lt (by omega) false true] at this
          exact absurd this hl
        · exact .inl hb
        · refine .inr ⟨hb, fun a ha y hy hd => ?_, fun b hb' y hy hd => ?_⟩
          · have hyr : y ∈ remaining ops listed := by rw [hsp2]; exact List.mem_append_right _ hy
            have hyo := (hrem y hyr).1
            have hle : x ≤ y.1 := by
              rcases List.mem_cons.1 hy with rfl | hy'
              · exact Nat.le_refl _
              · rw [hsp2] at hsort
                have := (List.pairwise_append.1 hsort).2.1
                exact Nat.le_of_lt ((List.pairwise_cons.1 this).1 y hy')
            have := (stab_quiet hs1 ha hyo hd).1
            omega
          · have hyr : y ∈ remaining ops listed := by rw [hsp2]; exact List.mem_append_right _ hy
            obtain ⟨hyo, hyl⟩ := hrem y hyr
            have hbit := stab_quiet hs2 hb' hyo hd
            have := ahead_listed hs hcl i o ho h3 y.1 hbit.2
            have hysz : y.1 < listed.size := by
              rcases Nat.lt_or_ge y.1 ops.size with h | h
              · omega
              · simp [Array.getElem?_eq_none h] at hyo
            rw [getD_lt hysz false true, hyl] at this
            simp at this
    rw [hsp] at h
    obtain ⟨ρ1, σ1, g1, g2⟩ := first _ hnei hpairs h
    rw [← hsp'] at g2
    have hdo : okDst N o = true := List.all_eq_true.1 hd o (by rw [Array.mem_toList_iff]; exact Array.mem_of_getElem? ho)
    refine wpOp_of_step ok hK pok rok ho hdo hf hi g1 fun G' a' w' q1 q2 q3 => ?_
    refine ih (listed.setIfInBounds i true) hs' ?_ ?_ g2 q3 q2 fun G2 a2 w2 p1 p2 p3 => hq G2 a2 w2 (q1.trans p1) p2 p3
    · intro j oj hj hlj e he hb
      by_cases hji : j = i
      · subst hji
        rw [ho] at hj
        simp only [Option.some.injEq] at hj; subst hj
        exact hmono _ _ (h3 e he hb)
      · rw [hgetne j true hji] at hlj
        exact hmono _ _ (hcl j oj hj hlj e he hb)
    · rw [hsp] at hlen
      rw [hsp']
      simp only [List.length_append, List.length_cons] at hlen ⊢
      omega

theorem placed_length : ∀ (l : List Oper) (s : Nat), (placed s l).length = l.length
  | [], _ => rfl
  | _ :: l, s => by simp [placed, placed_length l (s + 1)]

theorem draw_sound (ok : TabOk P T) (hK : KOk P base w0 K) (pok : PrimOk P (primK T K) base w0) (rok : RowOk P (rowK T K) base w0) {N : Nat} (hmx : P.follows .mixedOrders = true) (hd : okOps N ops = true) {Q : Exit → Act → World → Prop} {ρ ρ' : Nat → AV} (hm : okDrawD T ops ρ' = true) {σ' : St} {a : Act} {id : Nat}
    (hf : FR N G ρ a) (hi : Inv base w0 G σ w) (h : stepsV T K ops (placed 0 ops.toList) ρ σ = some (ρ', σ')) (hq : ∀ G' a' w', G.le G' → Inv base w0 G' σ' w' → FR N G' ρ' a' → Q .normal a' w') : (Code.region id ops true).wp P Q a w := by
  refine wp_region_any hmx ?_
  have hrem : remaining ops (Array.replicate ops.size false) = placed 0 ops.toList := by
    unfold remaining
    have : (List.range ops.size).filterMap (fun i => if (Array.replicate ops.size false).getD i true then none else ops[i]?.map fun o => (i, o)) = (List.range ops.size).filterMap (fun i => ops.toList[i]?.map fun o => (i, o)) := filterMap_congr' fun k hk => by
      have := List.mem_range.1 hk
      rw [if_neg (by simp [Array.getD_eq_getD_getElem?, this])]
      simp
    rw [this]
    have h2 : ∀ (l : List Oper) (s : Nat) (f : Nat → Option Oper), (∀ j, j < l.length → f (s + j) = l[j]?) → (List.range' s l.length).filterMap (fun i => (f i).map fun o => (i, o)) = placed s l := by
      intro l
      induction l with
      | nil => intro s f hf; rfl
      | cons x xs ih =>
        intro s f hf
        have h0 := hf 0 (by simp)
        rw [Nat.add_zero, List.getElem?_cons_zero] at h0
        rw [List.length_cons, List.range'_succ, List.filterMap_cons, h0]
        simp only [Option.map_some, placed]
        rw [ih (s + 1) f fun j hj => by rw [show s + 1 + j = s + (j + 1) by omega, hf (j + 1) (by simp; omega)]; simp]
    have h3 := h2 ops.toList 0 (fun i => ops.toList[i]?) fun j hj => by rw [Nat.zero_add]
    rw [List.range_eq_range']
    simpa using h3
  refine any_sound ok hK pok rok hd hm ops.size _ (by simp) ?_ (by rw [hrem, placed_length]; simp) (by rw [hrem]; exact h) hf (show Inv base w0 G σ w.drew from hi.drew) hq
  intro j o ho hl
  have hj : j < ops.size := by
    rcases Nat.lt_or_ge j ops.size with h | h
    · exact h
    · simp [Array.getElem?_eq_none h] at ho
  simp [Array.getD_eq_getD_getElem?, hj] at hl
end
end Go.Pv

namespace Go.Pv
open Go Go.RowKit
set_option linter.unusedVariables false
set_option linter.unusedSimpArgs false

mutual
theorem good_rep {G G' : Gh} (h : ∀ b o v, G.mem b o = some v → G'.mem b o = some v) : ∀ {x : AV} {v : Value}, good x = true → rep G x v → rep G' x v
  | .b _, _, _, r => r
  | .i _ _, _, _, r => r
  | .s _, _, _, r => r
  | .np, _, _, r => r
  | .p _ _, _, g, _ => by simp [good] at g
  | .ip _, _, g, ⟨b, o, l, h1, h2, h3⟩ => ⟨b, o, l, h1, goods_rep h (by simpa [good] using g) h2, fun j v hj => h _ _ _ (h3 j v hj)⟩
  | .sl _ k, _, g, ⟨A, c, vs, h1, h2, h3, h4, h5, h6⟩ => by
    simp only [good, Bool.and_eq_true, Nat.ble_eq] at g
    exact ⟨A, c, vs, h1, h2, h3, fun hk => by omega, goods_rep h g.2 h5, h6.imp id fun ⟨b, o, sz, e, s, m⟩ => ⟨b, o, sz, e, s, fun j v hj => h _ _ _ (m j v hj)⟩⟩
  | .ne, _, _, r => r
  | .e _ _, _, g, ⟨y, h1, h2⟩ => ⟨y, h1, good_rep h (by simpa [good] using g) h2⟩
  | .a _, _, g, ⟨l, h1, h2⟩ => ⟨l, h1, goods_rep h (by simpa [good] using g) h2⟩
  | .t _, _, g, ⟨l, h1, h2⟩ => ⟨l, h1, goods_rep h (by simpa [good] using g) h2⟩
  | .f _ _, _, g, ⟨l, h1, h2⟩ => ⟨l, h1, goods_rep h (by simpa [good] using g) h2⟩
  | .nf, _, _, r => r
theorem goods_rep {G G' : Gh} (h : ∀ b o v, G.mem b o = some v → G'.mem b o = some v) : ∀ {xs : List AV} {vs : List Value}, goods xs = true → repL G xs vs → repL G' xs vs
  | [], _, _, r => r
  | _ :: _, _, g, ⟨y, ys, e, r1, r2⟩ => by
    simp only [goods, Bool.and_eq_true] at g
    exact ⟨y, ys, e, good_rep h g.1 r1, goods_rep h g.2 r2⟩
end

theorem rep.untok {G : Gh} : ∀ {x : AV} {v : Value}, rep G x v → rep G (untok x) v
  | .t vs, v, ⟨l, h1, h2⟩ => ⟨l, h1, repL.strip h2⟩
  | .b _, _, r => r
  | .i _ _, _, r => r
  | .s _, _, r => r
  | .np, _, r => r
  | .p _ _, _, r => r
  | .ip _, _, r => r
  | .sl es k, _, r => rep.strip (x := .sl es k) r
  | .ne, _, r => r
  | .e _ _, _, r => r
  | .a cs, _, r => rep.strip (x := .a cs) r
  | .f _ _, _, r => r
  | .nf, _, r => r

/-- The package-level variables that are read: what they hold. -/
def Hw (GL : List (Nat × Nat × Value)) (w : World) : Prop := ∀ x ∈ GL, w.cell? ⟨x.1, x.2.1, none⟩ = some x.2.2
def Hb (GL : List (Nat × Nat × Value)) (base : Nat) (w0 : World) : Prop := Hw GL w0 ∧ ∀ x ∈ GL, x.1 < base

theorem Hb.now {GL : List (Nat × Nat × Value)} {base : Nat} {w0 w : World} (h : Hb GL base w0) (b : Below base w0 w) : Hw GL w := fun x hx => by
  rw [b.cell (p := ⟨x.1, x.2.1, none⟩) (h.2 x hx)]; exact h.1 x hx

theorem Hw.start {GL : List (Nat × Nat × Value)} {w : World} (h : Hw GL w) : Hb GL w.heap.size w := ⟨h, fun x hx => World.block_lt_of_cell? _ _ (h x hx)⟩

section
variable {P : Program} {T : Tab} {GL : List (Nat × Nat × Value)}

/-- The start: all that is protected stays so. -/
def Gh.start (m : Nat → Nat → Option Value) : Gh := { ι := fun _ => none, mem := m, τ := fun _ => none, old := m }

theorem Inv.start {w : World} {m : Nat → Nat → Option Value} (hm : ∀ b o v, m b o = some v → w.cell? ⟨b, o, none⟩ = some v) : Inv w.heap.size w (Gh.start m) St.start w where
  bel := Below.refl _ _
  bsz := Nat.le_refl _
  mem := hm
  ιlt l B h := by simp [Gh.start] at h
  inj l l' B h := by simp [Gh.start] at h
  ιmem l B h := by simp [Gh.start] at h
  box l cs h := by simp [St.start, Tr.get] at h
  τlt k x h := by simp [Gh.start] at h
  tok k sz h := by simp [St.start, Tr.get] at h
  tdis k k' sz sz' a n c a' n' c' h := by simp [St.start, Tr.get] at h
  old _ _ _ := rfl

/-- What one call answers, whatever the world. -/
def Answers (P : Program) (GL : List (Nat × Nat × Value)) (f : FuncId) (vs : List AV) (r : AV) : Prop :=
  ∀ (m : Nat → Nat → Option Value) (w : World) us, Hw GL w → (∀ b o v, m b o = some v → w.cell? ⟨b, o, none⟩ = some v) → repL (Gh.start m) vs us →
    Calls P f us.toArray w fun e w' => ∃ v m', e = .returned v ∧ Below w.heap.size w w' ∧ (∀ b o v, m' b o = some v → w'.cell? ⟨b, o, none⟩ = some v) ∧ (∀ b o v, m b o = some v → m' b o = some v) ∧ (∀ b o, b < w.heap.size → m' b o = m b o) ∧ rep (Gh.start m') r v

/-- A function that is given by its answers. -/
theorem primOk_of_answers {base : Nat} {w0 : World} {f : FuncId} {vs : List AV} {r : AV} (hb : Hb GL base w0) (h : Answers P GL f vs r) (hv : goods vs = true) (hr : good r = true) {G : Gh} {σ : St} {w : World} {us : List Value} (hi : Inv base w0 G σ w) (rl : repL G vs us) :
    Calls P f us.toArray w fun e w' => ∃ v G', e = .returned v ∧ G.le G' ∧ Inv base w0 G' σ w' ∧ rep G' r v := by
  refine (h G.mem w us (hb.now hi.bel) hi.mem (goods_rep (G := G) (G' := Gh.start G.mem) (fun _ _ _ x => x) hv rl)).mono fun e w' ⟨v, m', e1, e2, e3, e4, e5, e6⟩ => ?_
  let G' : Gh := { G with mem := m' }
  have hle : G.le G' := ⟨fun _ _ x => x, e4, fun _ _ x => x, rfl⟩
  have hcell : ∀ (a : Addr), a.block < w.heap.size → w'.cell? a = w.cell? a := fun a ha => e2.cell ha
  have hfro : ∀ (a : Addr), a.block < w.heap.size → w'.frozen? a = w.frozen? a := fun a ha => e2.frozen ha
  refine ⟨v, G', e1, hle, ?_, good_rep (G := Gh.start m') (G' := G') (fun _ _ _ x => x) hr e6⟩
  refine ⟨hi.bel.trans (e2.mono hi.bsz), Nat.le_trans hi.bsz e2.size, e3, fun l B hl => ?_, hi.inj, fun l B hl o => ?_, fun l cs hl => ?_, hi.τlt, fun k sz hk hs => ?_, hi.tdis, fun b o hb => ?_⟩
  · obtain ⟨h1, h2, h3⟩ := hi.ιlt l B hl
    exact ⟨h1, h2, Nat.lt_of_lt_of_le h3 e2.size⟩
  · obtain ⟨h1, h2, h3⟩ := hi.ιlt l B hl
    show m' B o = none
    rw [e5 B o h3]; exact hi.ιmem l B hl o
  · obtain ⟨B, us, h1, h2, h3⟩ := hi.box l cs hl
    have hB := (hi.ιlt _ _ h1).2.2
    exact ⟨B, us, h1, h2.mono hle, fun j v hj => by rw [hcell ⟨B, j, none⟩ hB, hfro ⟨B, j, none⟩ hB]; exact h3 j v hj⟩
  · obtain ⟨a, n, c, h1, h2, h3, h4, h5, h6, h7⟩ := hi.tok k sz hk hs
    refine ⟨a, n, c, h1, h2, h3, Nat.lt_of_lt_of_le h4 e2.size, h5, h6, fun j h8 h9 => ?_⟩
    rw [hcell ⟨a.block, a.off + j, none⟩ h4, hfro ⟨a.block, a.off + j, none⟩ h4]
    exact ⟨by show m' _ _ = none; rw [e5 _ _ h4]; exact (h7 j h8 h9).1, (h7 j h8 h9).2⟩
  · show m' b o = G.old b o
    have := hi.bsz
    rw [e5 b o (by omega)]; exact hi.old b o hb

/-- What one call answers that makes a row, and what it leaves of spare room. -/
def AnswersR (P : Program) (GL : List (Nat × Nat × Value)) (f : FuncId) (vs : List AV) (es : List AV) (sz : Nat) : Prop :=
  ∀ (m : Nat → Nat → Option Value) (w : World) us, Hw GL w → (∀ b o v, m b o = some v → w.cell? ⟨b, o, none⟩ = some v) → repL (Gh.start m) vs us →
    Calls P f us.toArray w fun e w' => ∃ a c m', e = .returned (.slice (some a) es.length c) ∧ Below w.heap.size w w' ∧ (∀ b o v, m' b o = some v → w'.cell? ⟨b, o, none⟩ = some v) ∧ (∀ b o v, m b o = some v → m' b o = some v) ∧ (∀ b o, b < w.heap.size → m' b o = m b o) ∧ rep (Gh.start m') (.sl es 0) (.slice (some a) es.length c) ∧
      a.spot = none ∧ w.heap.size ≤ a.block ∧ a.block < w'.heap.size ∧ es.length ≤ c ∧
      ∀ j, es.length * sz ≤ j → j < c * sz → m' a.block (a.off + j) = none ∧ (∃ v, w'.cell? ⟨a.block, a.off + j, none⟩ = some v) ∧ w'.frozen? ⟨a.block, a.off + j, none⟩ = false

theorem rowOk_of_answers {base : Nat} {w0 : World} {f : FuncId} {vs es : List AV} {sz : Nat} (hb : Hb GL base w0) (h : AnswersR P GL f vs es sz) (hv : goods vs = true) (hr : goods es = true) {j : Nat} {G : Gh} {σ : St} {w : World} {us : List Value} (hsz : sz ≠ 0) (hfree : tokFree j σ = true) (hi : Inv base w0 G σ w) (rl : repL G vs us) :
    Calls P f us.toArray w fun e w' => ∃ v G', e = .returned v ∧ G.le G' ∧ Inv base w0 G' (newTok j sz σ).2 w' ∧ rep G' (rowR es (newTok j sz σ).1 sz) v := by
  obtain ⟨sz', rfl⟩ : ∃ s, sz = s + 1 := ⟨sz - 1, by omega⟩
  show Calls P f us.toArray w fun e w' => ∃ v G', e = .returned v ∧ G.le G' ∧ Inv base w0 G' (newTok j (sz' + 1) σ).2 w' ∧ rep G' (.sl es (newTok j (sz' + 1) σ).1) v
  generalize hszz : sz' + 1 = sz at *
  refine (h G.mem w us (hb.now hi.bel) hi.mem (goods_rep (G := G) (G' := Gh.start G.mem) (fun _ _ _ x => x) hv rl)).mono fun e w' ⟨a, c, m', e1, e2, e3, e4, e5, e6, e7, e8, e9, e10, e11⟩ => ?_
  let k := σ.nb + j + 2
  let G' : Gh := { G with mem := m', τ := fun k' => if k' = k then some (a, es.length, c) else G.τ k' }
  have hτ : G.τ k = none := by
    cases hq : G.τ k with
    | none => rfl
    | some x => have := hi.τlt _ _ hq; rw [tok_none hfree] at this; simp at this
  have hle : G.le G' := ⟨fun _ _ x => x, e4, fun k' x hk => by
    show (if k' = k then _ else _) = _
    rw [if_neg (fun e => by rw [e, hτ] at hk; cases hk)]; exact hk, rfl⟩
  have hcell : ∀ (a : Addr), a.block < w.heap.size → w'.cell? a = w.cell? a := fun a ha => e2.cell ha
  have hfro : ∀ (a : Addr), a.block < w.heap.size → w'.frozen? a = w.frozen? a := fun a ha => e2.frozen ha
  have hget : ∀ k1 s1, Tr.get (newTok j sz σ).2.tk k1 = some s1 → (k1 = k ∧ s1 = sz) ∨ (k1 ≠ k ∧ Tr.get σ.tk k1 = some s1) := fun k1 s1 h1 => by
    simp only [newTok, Tr.get_set] at h1
    split at h1
    · rename_i e; simp only [Option.some.injEq] at h1; exact .inl ⟨e, h1.symm⟩
    · rename_i e; exact .inr ⟨e, h1⟩
  have hmem : ∀ {x : AV} {v : Value}, good x = true → rep (Gh.start m') x v → rep G' x v := fun hg r => good_rep (G := Gh.start m') (G' := G') (fun _ _ _ x => x) hg r
  refine ⟨_, G', e1, hle, ?_, ?_⟩
  · refine ⟨hi.bel.trans (e2.mono hi.bsz), Nat.le_trans hi.bsz e2.size, e3, fun l B hl => ?_, hi.inj, fun l B hl o => ?_, fun l cs hl => ?_, fun k1 x hk1 => ?_, fun k1 s1 hk1 hs1 => ?_, fun k1 k2 s1 s2 a1 n1 c1 a2 n2 c2 hk1 hs1 hk2 hs2 ht1 ht2 hbb => ?_, fun b o hb => ?_⟩
    · obtain ⟨h1, h2, h3⟩ := hi.ιlt l B hl
      exact ⟨h1, h2, Nat.lt_of_lt_of_le h3 e2.size⟩
    · obtain ⟨h1, h2, h3⟩ := hi.ιlt l B hl
      show m' B o = none
      rw [e5 B o h3]; exact hi.ιmem l B hl o
    · obtain ⟨B, us, h1, h2, h3⟩ := hi.box l cs hl
      have hB := (hi.ιlt _ _ h1).2.2
      exact ⟨B, us, h1, h2.mono hle, fun j v hj => by rw [hcell ⟨B, j, none⟩ hB, hfro ⟨B, j, none⟩ hB]; exact h3 j v hj⟩
    · simp only [G'] at hk1
      split at hk1
      · rename_i e; subst e; simp [newTok, Tr.get_set, k]
      · simp only [newTok]; exact isSome_set _ _ _ _ (hi.τlt _ _ hk1)
    · rcases hget k1 s1 hk1 with ⟨q1, q2⟩ | ⟨q1, q2⟩
      · subst q1; subst q2
        refine ⟨a, es.length, c, by simp [G'], e7, Nat.le_trans hi.bsz e8, e9, e10, fun l hl => ?_, e11⟩
        have := (hi.ιlt _ _ hl).2.2
        omega
      · obtain ⟨a1, n1, c1, h1, h2, h3, h4, h5, h6, h7⟩ := hi.tok k1 s1 q2 hs1
        refine ⟨a1, n1, c1, hle.τ _ _ h1, h2, h3, Nat.lt_of_lt_of_le h4 e2.size, h5, h6, fun j h8 h9 => ?_⟩
        rw [hcell ⟨a1.block, a1.off + j, none⟩ h4, hfro ⟨a1.block, a1.off + j, none⟩ h4]
        exact ⟨by show m' _ _ = none; rw [e5 _ _ h4]; exact (h7 j h8 h9).1, (h7 j h8 h9).2⟩
    · have hblk : ∀ k1 s1 a1 n1 c1, Tr.get σ.tk k1 = some s1 → s1 ≠ 0 → G.τ k1 = some (a1, n1, c1) → a1.block < w.heap.size := fun k1 s1 a1 n1 c1 q1 q2 q3 => by
        obtain ⟨a', n', c', h1, _, _, h4, _⟩ := hi.tok k1 s1 q1 q2
        rw [q3] at h1
        simp only [Option.some.injEq, Prod.mk.injEq] at h1
        rw [h1.1]; exact h4
      simp only [G'] at ht1 ht2
      rcases hget k1 s1 hk1 with ⟨q1, q2⟩ | ⟨q1, q2⟩ <;> rcases hget k2 s2 hk2 with ⟨q3, q4⟩ | ⟨q3, q4⟩
      · rw [q1, q3]
      · rw [if_pos q1] at ht1
        rw [if_neg q3] at ht2
        simp only [Option.some.injEq, Prod.mk.injEq] at ht1
        have := hblk _ _ _ _ _ q4 hs2 ht2
        rw [← hbb, ← ht1.1] at this; omega
      · rw [if_neg q1] at ht1
        rw [if_pos q3] at ht2
        simp only [Option.some.injEq, Prod.mk.injEq] at ht2
        have := hblk _ _ _ _ _ q2 hs1 ht1
        rw [hbb, ← ht2.1] at this; omega
      · rw [if_neg q1] at ht1
        rw [if_neg q3] at ht2
        exact hi.tdis _ _ _ _ _ _ _ _ _ _ q2 hs1 q4 hs2 ht1 ht2 hbb
    · show m' b o = G.old b o
      have := hi.bsz
      rw [e5 b o (by omega)]; exact hi.old b o hb
  · have hrep := hmem (x := .sl es 0) (by simp [good, hr]) e6
    obtain ⟨A, c', vs', q1, q2, q3, q4, q5, q6⟩ := hrep
    exact ⟨A, c', vs', q1, q2, fun h => by simp [newTok] at h, fun _ => ⟨a, by simp only [Value.slice.injEq] at q1; exact q1.1.symm, by simp only [Value.slice.injEq] at q1; simp [G', newTok, k, q1.2.2]⟩, q5, q6⟩

/-- No row: the empty slice. -/
theorem rowOk_nil {base : Nat} {w0 : World} {f : FuncId} {vs : List AV} (hb : Hb GL base w0) (h : Answers P GL f vs (.sl [] 1)) (hv : goods vs = true) {j : Nat} {G : Gh} {σ : St} {w : World} {us : List Value} (hfree : tokFree j σ = true) (hi : Inv base w0 G σ w) (rl : repL G vs us) :
    Calls P f us.toArray w fun e w' => ∃ v G', e = .returned v ∧ G.le G' ∧ Inv base w0 G' (newTok j 0 σ).2 w' ∧ rep G' (rowR [] (newTok j 0 σ).1 0) v := by
  refine (primOk_of_answers hb h hv rfl hi rl).mono fun e w' ⟨v, G', e1, e2, e3, e4⟩ => ⟨v, G', e1, e2, ?_, e4⟩
  have hget : ∀ k1 s1, Tr.get (newTok j 0 σ).2.tk k1 = some s1 → s1 ≠ 0 → Tr.get σ.tk k1 = some s1 := fun k1 s1 h1 h2 => by
    simp only [newTok, Tr.get_set] at h1
    split at h1
    · simp only [Option.some.injEq] at h1; omega
    · exact h1
  refine ⟨e3.bel, e3.bsz, e3.mem, e3.ιlt, e3.inj, e3.ιmem, e3.box, fun k1 x hk1 => ?_, fun k1 s1 hk1 hs1 => e3.tok k1 s1 (hget _ _ hk1 hs1) hs1, fun k1 k2 s1 s2 a1 n1 c1 a2 n2 c2 hk1 hs1 hk2 hs2 => e3.tdis k1 k2 s1 s2 a1 n1 c1 a2 n2 c2 (hget _ _ hk1 hs1) hs1 (hget _ _ hk2 hs2) hs2, e3.old⟩
  simp only [newTok]; exact isSome_set _ _ _ _ (e3.τlt _ _ hk1)

/-- Functions whose answers are known. -/
structure Known (P : Program) (GL : List (Nat × Nat × Value)) (f : FuncId) (p : List AV → Option AV) : Prop where
  fn : ∃ fn, P.funcs[f]? = some fn ∧ fn.name ≠ "runtime.NumGoroutine" ∧ fn.body.isSome = true
  ans : ∀ vs r, p vs = some r → goods vs = true ∧ good r = true ∧ Answers P GL f vs r

theorem repL.untok {G : Gh} : ∀ {xs : List AV} {vs : List Value}, repL G xs vs → repL G (xs.map Pv.untok) vs
  | [], _, r => r
  | _ :: _, _, ⟨y, ys, e, r1, r2⟩ => ⟨y, ys, e, r1.untok, repL.untok r2⟩

theorem answers_of_K {K : CallK} (hK : ∀ base w0, Hb GL base w0 → KOk P base w0 K) {f : FuncId} {vs : List AV} {r : AV} {r0 : AV} {σ1 : St} (h : K f vs St.start = some (r0, σ1)) (hu : untok r0 = r) (hg : good r = true) : Answers P GL f vs r := by
  intro m w us hw hm rl
  obtain ⟨_, h2⟩ := hK _ _ hw.start f vs St.start r0 σ1 h
  refine (h2 (Gh.start m) w us (Inv.start hm) rl).mono fun e w' ⟨v, G', e1, e2, e3, e4⟩ => ?_
  refine ⟨v, G'.mem, e1, e3.bel, e3.mem, e2.mem, fun b o hb => ?_, ?_⟩
  · rw [e3.old b o hb, e2.old]; rfl
  · rw [← hu]
    exact good_rep (G := G') (G' := Gh.start G'.mem) (fun _ _ _ x => x) (by rw [hu]; exact hg) e4.untok

theorem answers_of_KT {K : CallK} (hK : ∀ base w0, Hb GL base w0 → KOk P base w0 K) {f : FuncId} {vs : List AV} {σ1 : St} (h : K f vs St.start = some (.sl [] 1, σ1)) : Answers P GL f vs (.sl [] 1) := by
  intro m w us hw hm rl
  obtain ⟨_, h2⟩ := hK _ _ hw.start f vs St.start _ σ1 h
  refine (h2 (Gh.start m) w us (Inv.start hm) rl).mono fun e w' ⟨v, G', e1, e2, e3, e4⟩ => ?_
  refine ⟨v, G'.mem, e1, e3.bel, e3.mem, e2.mem, fun b o hb => ?_, ?_⟩
  · rw [e3.old b o hb, e2.old]; rfl
  · exact good_rep (G := G') (G' := Gh.start G'.mem) (fun _ _ _ x => x) rfl e4

theorem primOk_of_known (h : ∀ f p, T.prim f = some p → Known P GL f p) : ∀ base w0, Hb GL base w0 → PrimOk P T.prim base w0 := fun base w0 hb f p vs r hp hv =>
  ⟨(h f p hp).fn, fun G σ w us hi rl => let ⟨h1, h2, h3⟩ := (h f p hp).ans vs r hv; primOk_of_answers hb h3 h1 h2 hi rl⟩

theorem answersR_of_K {K : CallK} (hK : ∀ base w0, Hb GL base w0 → KOk P base w0 K) {f : FuncId} {vs es : List AV} {k sz : Nat} {σ1 : St} (h : K f vs St.start = some (.sl es k, σ1)) (hk : 2 ≤ k) (hs : Tr.get σ1.tk k = some sz) (hsz : sz ≠ 0) (hg : goods es = true) : AnswersR P GL f vs es sz := by
  intro m w us hw hm rl
  obtain ⟨_, h2⟩ := hK _ _ hw.start f vs St.start _ σ1 h
  refine (h2 (Gh.start m) w us (Inv.start hm) rl).mono fun e w' ⟨v, G', e1, e2, e3, e4⟩ => ?_
  have e4' := e4
  obtain ⟨A, c, vs', q1, q2, q3, q4, q5, q6⟩ := e4'
  obtain ⟨a, rfl, ht⟩ := q4 hk
  obtain ⟨a', n', c', t1, t2, t3, t4, t5, t6, t7⟩ := e3.tok _ _ hs hsz
  rw [ht] at t1
  simp only [Option.some.injEq, Prod.mk.injEq] at t1
  obtain ⟨rfl, rfl, rfl⟩ := t1
  subst q1
  refine ⟨a, c, G'.mem, e1, e3.bel, e3.mem, e2.mem, fun b o hb => ?_, ?_, t2, t3, t4, t5, t7⟩
  · rw [e3.old b o hb, e2.old]; rfl
  · exact good_rep (G := G') (G' := Gh.start G'.mem) (fun _ _ _ x => x) (by simp [good, hg]) (rep.strip0 (x := .sl es k) e4)

/-- Functions that make a row, whose answers are known. -/
structure KnownR (P : Program) (GL : List (Nat × Nat × Value)) (f : FuncId) (p : List AV → Option (List AV × Nat)) : Prop where
  fn : ∃ fn, P.funcs[f]? = some fn ∧ fn.name ≠ "runtime.NumGoroutine" ∧ fn.body.isSome = true
  ans : ∀ vs es sz, p vs = some (es, sz) → goods vs = true ∧ goods es = true ∧ (sz ≠ 0 → AnswersR P GL f vs es sz) ∧ (sz = 0 → Answers P GL f vs (.sl [] 1))

theorem rowOk_K (h : ∀ f p, T.rprim f = some p → KnownR P GL f p) {K : CallK} (hK : ∀ base w0, Hb GL base w0 → KOk P base w0 K) : ∀ base w0, Hb GL base w0 → RowOk P (rowK T K) base w0 := fun base w0 hb f p vs es sz hp hv => by
  unfold rowK at hp
  split at hp
  · rename_i p' hp'
    simp only [Option.some.injEq] at hp; subst hp
    have hk := h f _ hp'
    obtain ⟨h1, h2, h3, h3'⟩ := hk.ans vs es sz hv
    refine ⟨hk.fn, fun j G σ w us h5 hi rl => ?_⟩
    cases sz with
    | zero => exact rowOk_nil hb (h3' rfl) h1 h5 hi rl
    | succ sz => exact rowOk_of_answers hb (h3 (by simp)) h1 h2 (by simp) h5 hi rl
  · split at hp
    · simp only [Option.some.injEq] at hp; subst hp
      unfold rowOf at hv
      split at hv
      · rename_i hg
        split at hv
        · rename_i es' k σ1 he
          split at hv
          · rename_i hr
            simp only [Bool.and_eq_true, Nat.ble_eq] at hr
            split at hv
            · rename_i sz' hsz'
              simp only [Option.some.injEq, Prod.mk.injEq] at hv
              obtain ⟨rfl, rfl⟩ := hv
              exact ⟨(hK base w0 hb f _ _ _ _ he).1, fun j G σ w us h5 hi rl => rowOk_of_answers hb (answersR_of_K hK he hr.1 hsz' (by simp) hr.2) hg hr.2 (by simp) h5 hi rl.untok⟩
            · simp at hv
          · split at hv
            · simp only [Option.some.injEq, Prod.mk.injEq] at hv
              obtain ⟨rfl, rfl⟩ := hv
              exact ⟨(hK base w0 hb f _ _ _ _ he).1, fun j G σ w us h5 hi rl => rowOk_nil hb (answers_of_KT hK he) hg h5 hi rl.untok⟩
            · simp at hv
        · simp at hv
      · simp at hv
    · simp at hp

theorem pureK_ok {K : CallK} (hK : ∀ base w0, Hb GL base w0 → KOk P base w0 K) {base : Nat} {w0 : World} (hb : Hb GL base w0) {f : FuncId} {vs : List AV} {r : AV} (hv : pureK K f vs = some r) : (∃ fn, P.funcs[f]? = some fn ∧ fn.name ≠ "runtime.NumGoroutine" ∧ fn.body.isSome = true) ∧
    ∀ G σ w us, Inv base w0 G σ w → repL G vs us → Calls P f us.toArray w fun e w' => ∃ v G', e = .returned v ∧ G.le G' ∧ Inv base w0 G' σ w' ∧ rep G' r v := by
  unfold pureK at hv
  split at hv
  · rename_i hg
    split at hv
    · rename_i r0 σ1 he
      split at hv
      · rename_i hr
        simp only [Option.some.injEq] at hv; subst hv
        exact ⟨(hK base w0 hb f _ _ _ _ he).1, fun G σ w us hi rl => primOk_of_answers hb (answers_of_K hK he rfl hr) hg hr hi rl.untok⟩
      · simp at hv
    · simp at hv
  · simp at hv

theorem primOk_K (h : ∀ f p, T.prim f = some p → Known P GL f p) {K : CallK} (hK : ∀ base w0, Hb GL base w0 → KOk P base w0 K) : ∀ base w0, Hb GL base w0 → PrimOk P (primK T K) base w0 := fun base w0 hb f p vs r hp hv => by
  unfold primK at hp
  split at hp
  · rename_i p' hp'
    split at hp
    · simp only [Option.some.injEq] at hp; subst hp
      simp only at hv
      split at hv
      · rename_i r' hr'
        simp only [Option.some.injEq] at hv; subst hv
        exact primOk_of_known h base w0 hb f _ vs _ hp' hr'
      · exact pureK_ok hK hb hv
    · simp only [Option.some.injEq] at hp; subst hp
      exact primOk_of_known h base w0 hb f _ vs r hp' hv
  · split at hp
    · simp only [Option.some.injEq] at hp; subst hp
      exact pureK_ok hK hb hv
    · simp at hp

end

section
variable {P : Program} {T : Tab} {base : Nat} {w0 : World}

def Ex.toExit : Ex → Exit
  | .normal => .normal
  | .exit id => .exit id
  | .ret => .ret

/-- What is asked of the tables, beside the types. -/
structure FnOk (P : Program) (T : Tab) : Prop where
  fn : ∀ f fn, T.fn f = some fn → P.funcs[f]? = some fn ∧ fn.name ≠ "runtime.NumGoroutine" ∧ okFn T fn = true
  mixed : P.follows .mixedOrders = true

def CodeOk (P : Program) (T : Tab) (base : Nat) (w0 : World) (n : Nat) : Prop :=
  ∀ c fr σ x fr' σ', evalCode T n c fr σ = some (x, fr', σ') → ∀ N, okCode T N c = true → ∀ G a w (Q : Exit → Act → World → Prop), Inv base w0 G σ w → FR N G fr.rd a →
    (∀ G' a' w', G.le G' → Inv base w0 G' σ' w' → FR N G' fr'.rd a' → Q x.toExit a' w') → c.wp P Q a w

theorem Fr.ofList_rd : ∀ (vs : List AV) (n : Nat) (fr : Fr) (j : Nat), (Fr.ofList n vs fr).rd j = if n ≤ j ∧ j < n + vs.length then vs.getD (j - n) .u else fr.rd j
  | [], n, fr, j => by rw [if_neg (by simp)]; rfl
  | v :: vs, n, fr, j => by
    rw [Fr.ofList, Fr.ofList_rd vs, Fr.rd_set]
    simp only [upd, List.length_cons]
    by_cases h1 : j = n
    · subst h1
      rw [if_neg (by omega), if_pos rfl, if_pos (by omega)]
      simp
    · by_cases h2 : n + 1 ≤ j ∧ j < n + 1 + vs.length
      · rw [if_pos h2, if_pos (by omega), show j - n = (j - (n + 1)) + 1 by omega]
        simp
      · rw [if_neg h2, if_neg h1, if_neg (by omega)]

theorem start_frame {G : Gh} {vs : List AV} {us : List Value} {N : Nat} (r : repL G vs us) (hN : vs.length ≤ N) : FR N G (Fr.ofList 0 vs .nil).rd { tmps := us.toArray ++ Array.replicate (N - us.toArray.size) undef, defers := [] } := by
  have hl := r.length
  refine ⟨rfl, by simp; omega, fun j => ?_⟩
  rw [Fr.ofList_rd]
  simp only [Nat.zero_le, true_and, Nat.zero_add, Nat.sub_zero, Array.getD_eq_getD_getElem?]
  by_cases h : j < vs.length
  · rw [if_pos h]
    obtain ⟨v, hv, rv⟩ := r.get (List.getElem?_eq_getElem h)
    rw [Array.getElem?_append_left (by simp; omega)]
    have e1 : us.toArray[j]? = some v := by simpa using hv
    rw [e1]
    simpa [List.getD, List.getElem?_eq_getElem h] using rv
  · rw [if_neg h]
    have : rep G (Fr.rd .nil j) undef := rep_undef G
    rw [Array.getElem?_append_right (by simp; omega)]
    by_cases h2 : j - us.toArray.size < N - us.toArray.size
    · rw [Array.getElem?_replicate, if_pos h2]; exact this
    · rw [Array.getElem?_replicate, if_neg h2]; exact this

theorem resV_sound (ok : TabOk P T) {G : Gh} {σ : St} {w : World} (hi : Inv base w0 G σ w) {N : Nat} {fr : Fr} {a : Act} (hf : FR N G fr.rd a) : ∀ {rs : List ResultVar} {l : List AV}, resV T fr σ rs = some l →
    ∃ us, (rs.mapM fun | .tmp t => pure (a.tmps.getD t undef) | .cell b t => do loadVar t (← asAddr (a.tmps.getD b undef)) : Sem (List Value)).run P w = .ok us w ∧ repL G l us
  | [], l, h => by simp [resV] at h; subst h; exact ⟨[], by simp, by simp [repL]⟩
  | .tmp t :: rs, l, h => by
    simp only [resV] at h
    split at h
    · rename_i l' hl
      simp only [Option.some.injEq] at h; subst h
      obtain ⟨us, h1, h2⟩ := resV_sound ok hi hf hl
      refine ⟨a.tmps.getD t undef :: us, ?_, repL_cons.2 ⟨hf.rd t, h2⟩⟩
      rw [List.mapM_cons]
      simp only [Sem.run_bind, Sem.run_pure, Result.andThen_ok, h1]
    · simp at h
  | .cell b t :: rs, l, h => by
    simp only [resV] at h
    split at h
    · rename_i l0 o hb
      split at h
      · rename_i v l' hv hl
        simp only [Option.some.injEq] at h; subst h
        obtain ⟨us, h1, h2⟩ := resV_sound ok hi hf hl
        have rb := hf.rd b
        rw [hb] at rb
        have rb' := rb
        obtain ⟨B, hB, e⟩ := rb'
        obtain ⟨u, hu, ru⟩ := loadV_sound (P := P) ok hi hv rb
        have hu' : (loadVar t ⟨B, o, none⟩).run P w = .ok u w := by
          rw [e] at hu
          simpa [Instr.loadAt, Instr.sureAddr] using hu
        refine ⟨u :: us, ?_, repL_cons.2 ⟨ru, h2⟩⟩
        have ha : (asAddr (a.tmps.getD b undef)).run P w = .ok ⟨B, o, none⟩ w := by rw [e]; rfl
        rw [List.mapM_cons]
        simp only [Sem.run_bind, ha, Sem.run_pure, Result.andThen_ok, hu', h1]
      · simp at h
    · simp at h

theorem call_sound (ok : TabOk P T) (fok : FnOk P T) {n : Nat} (hc : CodeOk P T base w0 n) : KOk P base w0 (callWith T (evalCode T n)) := by
  intro f vs σ r σ' h
  unfold callWith at h
  split at h
  · rename_i fn hfn
    obtain ⟨k1, k2, k3⟩ := fok.fn f fn hfn
    split at h
    · rename_i c hb
      refine ⟨⟨fn, k1, k2, by rw [hb]; rfl⟩, fun G w us hi rl => ?_⟩
      split at h
      · rename_i hle
        have hokc : okCode T fn.ntmps c = true := by unfold okFn at k3; rw [hb] at k3; exact k3
        refine calls_of_wp k1 hb ?_
        split at h
        · simp at h
        · rename_i x fr σ1 hnx he
          refine hc c _ σ x fr σ1 he fn.ntmps hokc G _ w _ hi (start_frame rl hle) fun G' a' w' g1 g2 g3 => ?_
          have hres : ∀ l, resV T fr σ1 fn.results.toList = some l → ∃ us : Array Value, (fn.results.mapM fun | .tmp t => pure (a'.tmps.getD t undef) | .cell b t => do loadVar t (← asAddr (a'.tmps.getD b undef)) : Sem (Array Value)).run P w' = .ok us w' ∧ repL G' l us.toList := by
            intro l hl
            obtain ⟨us, h1, h2⟩ := resV_sound ok g2 g3 hl
            refine ⟨us.toArray, ?_, by simpa using h2⟩
            rw [Array.mapM_eq_mapM_toList]
            simp only [Sem.run_map]
            erw [h1]
            rfl
          have hfin : ∃ v, (results fn a'.tmps).run P w' = .ok v w' ∧ (∃ v' G'', Ending.returned v = .returned v' ∧ G.le G'' ∧ Inv base w0 G'' σ' w' ∧ rep G'' r v') := by
            split at h
            · rename_i v hv
              simp only [Option.some.injEq, Prod.mk.injEq] at h
              obtain ⟨rfl, rfl⟩ := h
              obtain ⟨us, h1, h2⟩ := hres _ hv
              obtain ⟨y, ys, e, r1, r2⟩ := h2
              rw [repL_nil] at r2; subst r2
              have hsz : us = #[y] := by apply Array.ext'; simpa using e
              subst hsz
              refine ⟨y, ?_, y, G', rfl, g1, g2, r1⟩
              unfold results
              simp only [Sem.run_bind]
              erw [h1]
              rfl
            · rename_i l hne hl
              simp only [Option.some.injEq, Prod.mk.injEq] at h
              obtain ⟨rfl, rfl⟩ := h
              obtain ⟨us, h1, h2⟩ := hres _ hl
              have hsz : us.size ≠ 1 := fun e => by
                have := h2.length
                simp only [Array.length_toList, e] at this
                cases l with
                | nil => simp at this
                | cons x xs =>
                  cases xs with
                  | nil => exact hne x rfl
                  | cons y ys => simp at this
              refine ⟨.tuple us, ?_, .tuple us, G', rfl, g1, g2, us, rfl, h2⟩
              unfold results
              simp only [Sem.run_bind]
              erw [h1]
              simp [hsz]
            · simp at h
          obtain ⟨v, hv, hR⟩ := hfin
          cases x with
          | normal => exact ⟨g3.defers, v, hv, hR⟩
          | ret => exact ⟨g3.defers, v, hv, hR⟩
          | exit id => exact absurd rfl (hnx id)
        · simp at h
      · simp at h
    · simp at h
  · simp at h

theorem code_sound {GL : List (Nat × Nat × Value)} (ok : TabOk P T) (fok : FnOk P T) (hkn : ∀ f p, T.prim f = some p → Known P GL f p) (hkr : ∀ f p, T.rprim f = some p → KnownR P GL f p) : ∀ n base w0, Hb GL base w0 → CodeOk P T base w0 n := by
  intro n
  induction n using Nat.strongRecOn with
  | _ n ihs =>
    cases n with
    | zero => intro base w0 hb c fr σ x fr' σ' h; simp [evalCode] at h
    | succ n => ?_
    have hKa : ∀ base w0, Hb GL base w0 → KOk P base w0 (callWith T (evalCode T n)) := fun base w0 hb => call_sound ok fok (ihs n (Nat.lt_succ_self n) base w0 hb)
    intro base w0 hb
    have hK := hKa base w0 hb
    have pok := primOk_K hkn hKa base w0 hb
    have rok := rowOk_K hkr hKa base w0 hb
    have ih := ihs n (Nat.lt_succ_self n) base w0 hb
    intro c fr σ x fr' σ' h N hokc G a w Q hi hf hq
    cases c with
    | skip =>
      simp only [evalCode, Option.some.injEq, Prod.mk.injEq] at h
      obtain ⟨rfl, rfl, rfl⟩ := h
      exact wp_skip (hq G a w (.refl G) hi hf)
    | region id ops draw =>
      simp only [evalCode] at h
      split at h
      · rename_i fr1 σ1 he
        have hdyn : (draw && hasStore ops) = true → okDrawD T ops fr1.rd = true := fun e => by
          rw [e] at h
          simp only at h
          split at h
          · assumption
          · simp at h
        have h : some (Ex.normal, fr1, σ1) = some (x, fr', σ') := by
          split at h
          · split at h
            · exact h
            · simp at h
          · exact h
        simp only [Option.some.injEq, Prod.mk.injEq] at h
        obtain ⟨rfl, rfl, rfl⟩ := h
        simp only [okCode, Bool.and_eq_true, Bool.or_eq_true, Bool.not_eq_true'] at hokc
        obtain ⟨σ2, hst, rfl⟩ := evalOps_steps he
        have hq' : ∀ G' a' w', G.le G' → Inv base w0 G' σ2 w' → FR N G' fr1.rd a' → Q .normal a' w' := fun G' a' w' q1 q2 q3 => hq G' a' w' q1 (q2.bump _) q3
        cases draw with
        | false => exact region_sound ok hK pok rok hokc.1 hf hi hst hq'
        | true =>
          have hm : okDrawD T ops fr1.rd = true := by
            rcases hokc.2 with (h1 | h1) | h1
            · simp at h1
            · exact hdyn (by simp [h1])
            · exact okPairsD_of _ _ _ h1
          exact draw_sound ok hK pok rok fok.mixed hokc.1 hm hf hi hst hq'
      · simp at h
    | seq c1 c2 =>
      simp only [okCode, Bool.and_eq_true] at hokc
      simp only [evalCode] at h
      split at h
      · rename_i fr1 σ1 he
        refine wp_seq (ih c1 fr σ .normal fr1 σ1 he N hokc.1 G a w _ hi hf fun G1 a1 w1 g1 g2 g3 => ?_)
        exact ih c2 fr1 σ1 x fr' σ' h N hokc.2 G1 a1 w1 Q g2 g3 fun G2 a2 w2 q1 q2 q3 => hq G2 a2 w2 (g1.trans q1) q2 q3
      · rename_i hne
        refine wp_seq (ih c1 fr σ x fr' σ' h N hokc.1 G a w _ hi hf fun G1 a1 w1 g1 g2 g3 => ?_)
        have := hq G1 a1 w1 g1 g2 g3
        cases x with
        | normal => exact absurd h (hne fr' σ')
        | exit id => exact this
        | ret => exact this
    | cond b c1 c2 =>
      simp only [okCode, Bool.and_eq_true] at hokc
      simp only [evalCode] at h
      split at h
      · rename_i hb
        have rb := opd_rep hf hb
        simp only [rep] at rb
        exact wp_cond rb (ih c1 fr σ x fr' σ' h N hokc.1 G a w Q hi hf hq)
      · rename_i hb
        have rb := opd_rep hf hb
        simp only [rep] at rb
        exact wp_cond rb (ih c2 fr σ x fr' σ' h N hokc.2 G a w Q hi hf hq)
      · simp at h
    | block id c =>
      simp only [okCode] at hokc
      simp only [evalCode] at h
      split at h
      · rename_i id' fr1 σ1 he
        refine wp_block (ih c fr σ (.exit id') fr1 σ1 he N hokc G a w _ hi hf fun G1 a1 w1 g1 g2 g3 => ?_)
        show (if id' = id then _ else _)
        split at h
        · rename_i e
          simp only [Option.some.injEq, Prod.mk.injEq] at h
          obtain ⟨rfl, rfl, rfl⟩ := h
          rw [if_pos e]; exact hq G1 a1 w1 g1 g2 g3
        · rename_i e
          simp only [Option.some.injEq, Prod.mk.injEq] at h
          obtain ⟨rfl, rfl, rfl⟩ := h
          rw [if_neg e]; exact hq G1 a1 w1 g1 g2 g3
      · rename_i hne
        refine wp_block (ih c fr σ x fr' σ' h N hokc G a w _ hi hf fun G1 a1 w1 g1 g2 g3 => ?_)
        have := hq G1 a1 w1 g1 g2 g3
        cases x with
        | normal => exact this
        | exit id' => exact absurd h (hne id' fr' σ')
        | ret => exact this
    | loop c =>
      have hokc' : okCode T N c = true := by simpa only [okCode] using hokc
      -- so many rounds are enough
      let I : Nat → Act → World → Prop := fun m a w => ∃ fr σ G1, m ≤ n + 1 ∧ evalCode T m (.loop c) fr σ = some (x, fr', σ') ∧ G.le G1 ∧ Inv base w0 G1 σ w ∧ FR N G1 fr.rd a
      have ihm : ∀ m, m ≤ n → CodeOk P T base w0 m := fun m hm => ihs m (by omega) base w0 hb
      refine wp_loop_ghost I (n + 1) ⟨fr, σ, G, Nat.le_refl _, h, .refl G, hi, hf⟩ ?_
      intro m a1 w1 hI
      obtain ⟨fr1, σ1, G1, hm, he, hg, hi1, hf1⟩ := hI
      cases m with
      | zero => simp [evalCode] at he
      | succ m =>
        simp only [evalCode] at he
        split at he
        · rename_i fr2 σ2 h2
          refine ihm m (by omega) c fr1 σ1 .normal fr2 σ2 h2 N hokc' G1 a1 w1 _ hi1 hf1 fun G2 a2 w2 g1 g2 g3 => ?_
          exact ⟨m, Nat.lt_succ_self _, fr2, σ2, G2, by omega, he, hg.trans g1, g2, g3⟩
        · rename_i hne
          refine ihm m (by omega) c fr1 σ1 x fr' σ' he N hokc' G1 a1 w1 _ hi1 hf1 fun G2 a2 w2 g1 g2 g3 => ?_
          have := hq G2 a2 w2 (hg.trans g1) g2 g3
          cases x with
          | normal => exact absurd he (hne fr' σ')
          | exit id => exact this
          | ret => exact this
    | exit id =>
      simp only [evalCode, Option.some.injEq, Prod.mk.injEq] at h
      obtain ⟨rfl, rfl, rfl⟩ := h
      exact wp_exit (hq G a w (.refl G) hi hf)
    | ret =>
      simp only [evalCode, Option.some.injEq, Prod.mk.injEq] at h
      obtain ⟨rfl, rfl, rfl⟩ := h
      exact wp_ret (hq G a w (.refl G) hi hf)
    | rangeFunc f ps as b => simp [evalCode] at h
    | scope b => simp [evalCode] at h
    | label l => simp [evalCode] at h
    | goto l => simp [evalCode] at h
    | refuse s => simp [evalCode] at h
end
end Go.Pv

namespace Go.Pv
open Go Go.RowKit
set_option linter.unusedVariables false
set_option linter.unusedSimpArgs false

theorem map_mem {α β : Type} {f g : α → β} {l : List α} (h : l.map f = l.map g) {x : α} (hx : x ∈ l) : f x = g x := by
  induction l with
  | nil => cases hx
  | cons y ys ih =>
    simp only [List.map_cons, List.cons.injEq] at h
    rcases List.mem_cons.1 hx with rfl | hx
    · exact h.1
    · exact ih h.2 hx

def goodFn (T : Tab) (x : Nat × Func) : Bool := x.2.name != "runtime.NumGoroutine" && okFn T x.2
theorem cls_prim {T T' : Tab} (h : T.prim = T'.prim ∧ T.pure = T'.pure ∧ T.rprim = T'.rprim ∧ T.row = T'.row) (o : Op) : cls T o = cls T' o := by
  unfold cls
  rw [h.1, h.2.1, h.2.2.1, h.2.2.2]
theorem okPairs_prim {T T' : Tab} (h : T.prim = T'.prim ∧ T.pure = T'.pure ∧ T.rprim = T'.rprim ∧ T.row = T'.row) (ops : Array Oper) (m : List Nat) : ∀ (i : Nat) (os : List Oper), okPairs T ops m i os = okPairs T' ops m i os
  | _, [] => rfl
  | i, o :: os => by simp only [okPairs, okPair, cls_prim h, okPairs_prim h ops m (i + 1) os]
theorem okCode_prim {T T' : Tab} (h : T.prim = T'.prim ∧ T.pure = T'.pure ∧ T.rprim = T'.rprim ∧ T.row = T'.row) (N : Nat) : ∀ (c : Code), okCode T N c = okCode T' N c := by
  intro c
  induction c with
  | region id ops draw => simp only [okCode, okDraw, okPairs_prim h]
  | seq a b iha ihb => simp only [okCode, iha, ihb]
  | cond x a b iha ihb => simp only [okCode, iha, ihb]
  | block id b ih => simp only [okCode, ih]
  | loop b ih => simp only [okCode, ih]
  | _ => simp only [okCode]
theorem goodFn_prim {T T' : Tab} (h : T.prim = T'.prim ∧ T.pure = T'.pure ∧ T.rprim = T'.rprim ∧ T.row = T'.row) : goodFn T = goodFn T' := by
  funext x
  simp only [goodFn, okFn, okCode_prim h]

def goodInf (x : Nat × TI) : Bool := Nat.beq x.2.zero.length x.2.size

theorem Tab.of_ok {P : Program} {fns : List (Nat × Func)} {tys : List (Nat × TD)} {infs : List (Nat × TI)} {prim : Nat → Option (List AV → Option AV)} {pure : Nat → Bool} {rprim : Nat → Option (List AV → Option (List AV × Nat))} {row : Nat → Bool}
    (ht : tys.map (fun x => (P.underlying x.1).map TD.of) = tys.map (fun x => some x.2)) (hi : infs.map (fun x => (P.info? x.1).bind TI.of) = infs.map (fun x => some x.2)) (hz : infs.all goodInf = true) : TabOk P (Tab.of fns tys infs prim pure rprim row) where
  und t d h := by
    have := map_mem ht (Tr.ofList_mem h)
    simp only at this
    cases hq : P.underlying t with
    | none => simp [hq] at this
    | some td => simp [hq] at this; exact ⟨td, rfl, this⟩
  inf t i h := by
    have := map_mem hi (Tr.ofList_mem h)
    simp only at this
    cases hq : P.info? t with
    | none => simp [hq] at this
    | some ti => simp [hq] at this; exact ⟨ti, rfl, this⟩
  zlen t i h := by
    have := List.all_eq_true.1 hz _ (Tr.ofList_mem h)
    simpa [goodInf, beq_eq] using this

theorem Tab.of_fnOk {P : Program} {fns : List (Nat × Func)} {tys : List (Nat × TD)} {infs : List (Nat × TI)} {prim : Nat → Option (List AV → Option AV)} {pure : Nat → Bool} {rprim : Nat → Option (List AV → Option (List AV × Nat))} {row : Nat → Bool}
    (hf : fns.map (fun x => P.funcs[x.1]?) = fns.map (fun x => some x.2)) (hg : fns.all (goodFn (Tab.of fns tys infs prim pure rprim row)) = true) (hm : P.follows .mixedOrders = true) : FnOk P (Tab.of fns tys infs prim pure rprim row) where
  fn f fn h := by
    have hmem := Tr.ofList_mem h
    have h1 := map_mem hf hmem
    have h2 := List.all_eq_true.1 hg _ hmem
    simp only [goodFn, Bool.and_eq_true, bne_iff_ne] at h2
    exact ⟨h1, h2.1, h2.2⟩
  mixed := hm

section
variable {P : Program} {T : Tab} {GL : List (Nat × Nat × Value)}

theorem answers_of_eval (ok : TabOk P T) (fok : FnOk P T) (hkn : ∀ f p, T.prim f = some p → Known P GL f p) (hkr : ∀ f p, T.rprim f = some p → KnownR P GL f p) {f : FuncId} {vs : List AV} {r : AV} {n : Nat} {r0 : AV} {σ1 : St} (h : evalCall T n f vs St.start = some (r0, σ1)) (hu : untok r0 = r) (hg : good r = true) : Answers P GL f vs r :=
  answers_of_K (fun base w0 hb => call_sound ok fok (code_sound ok fok hkn hkr n base w0 hb)) h hu hg

/-- At a call from outside: all old memory stays. -/
theorem Answers.calls {f : FuncId} {vs : List AV} {r : AV} (h : Answers P GL f vs r) {w : World} {us : List Value} (hw : Hw GL w) (rl : repL (Gh.start fun b o => w.cell? ⟨b, o, none⟩) vs us) :
    Calls P f us.toArray w fun e w' => ∃ v m', e = .returned v ∧ Below w.heap.size w w' ∧ rep (Gh.start m') r v :=
  (h _ w us hw (fun _ _ _ x => x) rl).mono fun e w' ⟨v, m', e1, e2, _, _, _, e6⟩ => ⟨v, m', e1, e2, e6⟩
end
end Go.Pv

namespace Go.Pv
open Go

mutual
def AV.eqb : AV → AV → Bool
  | .b x, .b y => match x, y with
    | true, true => true
    | false, false => true
    | _, _ => false
  | .i k x, .i k' y => decide (k = k') && decide (x = y)
  | .s x, .s y => decide (x = y)
  | .np, .np => true
  | .sl xs k, .sl ys k' => Nat.beq k k' && AV.eqbs xs ys
  | .ne, .ne => true
  | .e ty x, .e ty' y => Nat.beq ty ty' && AV.eqb x y
  | .a xs, .a ys => AV.eqbs xs ys
  | .t xs, .t ys => AV.eqbs xs ys
  | .nf, .nf => true
  | _, _ => false
def AV.eqbs : List AV → List AV → Bool
  | [], [] => true
  | x :: xs, y :: ys => AV.eqb x y && AV.eqbs xs ys
  | _, _ => false
end

mutual
theorem AV.eqb_eq : ∀ {x y : AV}, AV.eqb x y = true → x = y
  | .b x, y, h => by cases y <;> simp [AV.eqb] at h; rename_i z; cases x <;> cases z <;> simp_all
  | .i k n, y, h => by cases y <;> simp [AV.eqb] at h; rw [h.1, h.2]
  | .s l, y, h => by cases y <;> simp [AV.eqb] at h; rw [h]
  | .np, y, h => by cases y <;> simp [AV.eqb] at h; rfl
  | .p l o, y, h => by cases y <;> simp [AV.eqb] at h
  | .ip cs, y, h => by cases y <;> simp [AV.eqb] at h
  | .sl es k, y, h => by
    cases y <;> simp [AV.eqb] at h
    rw [h.1, AV.eqbs_eq h.2]
  | .ne, y, h => by cases y <;> simp [AV.eqb] at h; rfl
  | .e ty v, y, h => by
    cases y <;> simp [AV.eqb] at h
    rw [h.1, AV.eqb_eq h.2]
  | .a cs, y, h => by
    cases y <;> simp [AV.eqb] at h
    rw [AV.eqbs_eq h]
  | .t vs, y, h => by
    cases y <;> simp [AV.eqb] at h
    rw [AV.eqbs_eq h]
  | .f fn cs, y, h => by cases y <;> simp [AV.eqb] at h
  | .nf, y, h => by cases y <;> simp [AV.eqb] at h; rfl
theorem AV.eqbs_eq : ∀ {xs ys : List AV}, AV.eqbs xs ys = true → xs = ys
  | [], ys, h => by cases ys <;> simp [AV.eqbs] at h; rfl
  | x :: xs, ys, h => by
    cases ys <;> simp [AV.eqbs] at h
    rw [AV.eqb_eq h.1, AV.eqbs_eq h.2]
end

/-- Is this what the evaluator answers? -/
def isAns (o : Option (AV × St)) (r : AV) : Bool := match o with
  | some (x, _) => AV.eqb (untok x) r && good r
  | none => false

section
variable {P : Program} {T : Tab} {GL : List (Nat × Nat × Value)}
theorem answers_of_isAns (ok : TabOk P T) (fok : FnOk P T) (hkn : ∀ f p, T.prim f = some p → Known P GL f p) (hkr : ∀ f p, T.rprim f = some p → KnownR P GL f p) {f : FuncId} {vs : List AV} {r : AV} {n : Nat} (h : isAns (evalCall T n f vs St.start) r = true) : Answers P GL f vs r := by
  unfold isAns at h
  split at h
  · rename_i x σ he
    simp only [Bool.and_eq_true] at h
    exact answers_of_eval ok fok hkn hkr he (AV.eqb_eq h.1) h.2
  · simp at h
end
end Go.Pv
