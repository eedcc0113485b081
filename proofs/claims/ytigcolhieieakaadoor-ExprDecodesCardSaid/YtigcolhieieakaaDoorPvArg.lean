/- What is read as data (bools, numbers, strings, slices, structs) is a plain value: for any type made of these. -/
import Derived.Test.YtigcolhieieakaaDoorPvQ
import Derived.ChangeArms
import Derived.Test.YtigcolhieieakaaDoorRows
namespace Go.Pv
open Go Go.RowKit
open Go.Proofs.YtigcolhieieakaaDoor.Rows (uptoBulk uptoBulkAll)
set_option linter.unusedVariables false
set_option linter.unusedSimpArgs false

mutual
/-- How much a value holds. -/
def bulk : AV → Nat
  | .s l => l.length + 1
  | .sl es _ => bulkL es + 1
  | .a cs => bulkL cs
  | _ => 1
def bulkL : List AV → Nat
  | [] => 0
  | x :: xs => bulk x + bulkL xs
end
theorem bulkL_append : ∀ (a b : List AV), bulkL (a ++ b) = bulkL a + bulkL b
  | [], b => by simp [bulkL]
  | x :: xs, b => by simp only [List.cons_append, bulkL, bulkL_append xs b]; omega
def sizeT (T : Tab) (t : TypeId) : Nat := match T.inf t with | some ti => ti.size | none => 0

/-- The cells of a value of a type. -/
def Typed (T : Tab) : Nat → TypeId → List AV → Prop
  | 0, _, _ => False
  | f + 1, t, cs => match T.und t with
    | some .bool => ∃ b, cs = [.b b]
    | some (.int k) => ∃ n, cs = [.i k n] ∧ (Lit.int k n).wf = true
    | some .string => ∃ l, cs = [.s l]
    | some (.slice e) => ∃ es, cs = [.sl es 0] ∧ ∀ x ∈ es, match T.isAgg e with
      | some true => ∃ xs, x = .a xs ∧ Typed T f e xs
      | _ => Typed T f e [x]
    | some (.struct fs) => cs.length = sizeT T t ∧ ∀ g ∈ fs, Typed T f g.2 ((cs.drop g.1).take (sizeT T g.2))
    | _ => False

/-- Fields one behind another. -/
def contig (T : Tab) : Nat → List (Nat × TypeId) → Option Nat
  | o, [] => some o
  | o, f :: fs => match Nat.beq f.1 o with
    | true => contig T (o + sizeT T f.2) fs
    | false => none
def memT (t : TypeId) (ts : List TypeId) : Bool := ts.any fun u => Nat.beq t u
def okT (T : Tab) (ts : List TypeId) (t : TypeId) : Bool := match T.inf t with
  | none => false
  | some _ => match T.und t with
    | some .bool | some (.int _) | some .string => Nat.beq (sizeT T t) 1
    | some (.slice e) => Nat.beq (sizeT T t) 1 && Nat.blt 0 (sizeT T e) && memT e ts
    | some (.struct fs) => (match contig T 0 fs with | some n => Nat.beq n (sizeT T t) | none => false) && fs.all fun f => memT f.2 ts
    | _ => false
def closedT (T : Tab) (ts : List TypeId) : Bool := ts.all (okT T ts)
theorem memT_mem {t : TypeId} {ts : List TypeId} (h : memT t ts = true) : t ∈ ts := by
  unfold memT at h
  rw [List.any_eq_true] at h
  obtain ⟨u, hu, e⟩ := h
  rw [Nat.eq_of_beq_eq_true e]; exact hu

section
variable {H : Type} {enc : TypeId × Value → H} {P : Program} {T : Tab} {w : World} {base : Nat} {sp : Nat → Bool} {held : Bool}

theorem size_of (ok : TabOk P T) {t : TypeId} {i : TI} (h : T.inf t = some i) : P.cellsOf t = sizeT T t := by
  obtain ⟨ti, h1, h2⟩ := ok.inf _ _ h
  unfold Program.cellsOf sizeT
  rw [h1, h]
  unfold TI.of at h2
  cases hz : ti.zero with
  | none => simp [hz] at h2
  | some v =>
    simp only [hz] at h2
    cases hl : leafs v.cells.toList with
    | none => simp [hl] at h2
    | some l => simp [hl] at h2; simp [← h2]

theorem cell_norm {a : Addr} {k : Nat} {v : Value} (h : w.cell? (a.add k) = some v) : w.cell? ⟨a.block, a.off + k, none⟩ = some v ∧ (k = 0 → a.spot = none) := by
  have hs : (a.add k).spot = none := by
    cases hsp : (a.add k).spot with
    | none => rfl
    | some s =>
      simp only [World.cell?] at h
      split at h
      · simp [hsp] at h
      · cases h
  unfold Addr.add at h hs
  by_cases hk : k = 0
  · subst hk
    simp only [if_true] at h hs
    obtain ⟨b, o, s⟩ := a
    simp only at hs
    subst hs
    exact ⟨h, fun _ => rfl⟩
  · simp only [if_neg hk] at h hs
    exact ⟨h, fun h' => absurd h' hk⟩

abbrev Gw (w : World) : Gh := Gh.start fun b o => w.cell? ⟨b, o, none⟩

theorem Typed_len {f : Nat} {t : TypeId} {cs : List AV} {ts : List TypeId} (h : Typed T f t cs) (hk : okT T ts t = true) : cs.length = sizeT T t := by
  cases f with
  | zero => exact h.elim
  | succ f =>
    unfold Typed at h
    unfold okT at hk
    split at hk
    · cases hk
    · split at h
      · rename_i hu; simp only [hu] at hk; obtain ⟨b, rfl⟩ := h; exact (Nat.eq_of_beq_eq_true hk).symm
      · rename_i hu; simp only [hu] at hk; obtain ⟨b, rfl, _⟩ := h; exact (Nat.eq_of_beq_eq_true hk).symm
      · rename_i hu; simp only [hu] at hk; obtain ⟨b, rfl⟩ := h; exact (Nat.eq_of_beq_eq_true hk).symm
      · rename_i hu; simp only [hu, Bool.and_eq_true] at hk; obtain ⟨b, rfl, _⟩ := h; exact (Nat.eq_of_beq_eq_true hk.1.1).symm
      · exact h.1
      · exact h.elim

theorem uptoBulkAll_nil : uptoBulkAll ([] : List (DataW H)) = 0 := by simp [uptoBulkAll]
theorem uptoBulkAll_cons (d : DataW H) (r : List (DataW H)) : uptoBulkAll (d :: r) = uptoBulk d + uptoBulkAll r := by simp [uptoBulkAll]

/-- The claim for a number of rounds. -/
def OpenAt (H : Type) (enc : TypeId × Value → H) (P : Program) (T : Tab) (w : World) (base : Nat) (sp : Nat → Bool) (held : Bool) (ts : List TypeId) (n : Nat) : Prop :=
  ∀ t cs d ps, t ∈ ts → DataW.trod enc P w base sp held n t cs = some (d, ps) → ∃ avs, repL (Gw w) avs cs ∧ Typed T n t avs ∧ bulkL avs ≤ uptoBulk d

theorem open_row_ (ok : TabOk P T) {ts : List TypeId} (hts : closedT T ts = true) {n : Nat} (ih : OpenAt H enc P T w base sp held ts n) {a : Addr} {e : TypeId} (he : e ∈ ts) {sz : Nat} (hsz : sz = sizeT T e) :
    ∀ (elems : List (DataW H × List MemPlace)) (i : Nat), (∀ j, j < elems.length → (w.cells? base (a.add ((i + j) * sz)) sz).bind (DataW.trod enc P w base sp held n e) = elems[j]?) →
      ∃ es vs, es.length = elems.length ∧ repL (Gw w) es vs ∧ (∀ v ∈ vs, v.cells.size = sz) ∧ (∀ j v, (cellsOf vs)[j]? = some v → w.cell? ⟨a.block, a.off + i * sz + j, none⟩ = some v) ∧ (i = 0 → 0 < sz → elems ≠ [] → a.spot = none) ∧
        (∀ x ∈ es, match T.isAgg e with | some true => ∃ xs, x = .a xs ∧ Typed T n e xs | _ => Typed T n e [x]) ∧ bulkL es ≤ uptoBulkAll (elems.map (·.1))
  | [], i, h => ⟨[], [], rfl, rfl, by simp, by simp [cellsOf], by simp, by simp, by simp [bulkL]⟩
  | x :: xs, i, h => by
    obtain ⟨es, vs, h1, h2, h3, h4, _, h5, h6⟩ := open_row_ ok hts ih (a := a) he hsz xs (i + 1) fun j hj => by
      have := h (j + 1) (by simpa using hj)
      rw [show i + (j + 1) = i + 1 + j by omega] at this
      simpa using this
    have hx := h 0 (by simp)
    simp only [Nat.add_zero, List.getElem?_cons_zero] at hx
    obtain ⟨cs', hc, ht⟩ := Option.bind_eq_some_iff.1 hx
    obtain ⟨_, hlen, hcell⟩ := World.cells?_some hc
    obtain ⟨avs, r1, r2, r3⟩ := ih e cs' x.1 x.2 he ht
    have hok : okT T ts e = true := List.all_eq_true.1 hts _ he
    have hal : avs.length = sz := by rw [Typed_len r2 hok, hsz]
    have hcs' : ∀ j v, cs'[j]? = some v → w.cell? ⟨a.block, a.off + i * sz + j, none⟩ = some v := fun j v hj => by
      have hjl : j < sz := by
        rcases Nat.lt_or_ge j sz with h' | h'
        · exact h'
        · rw [List.getElem?_eq_none (by omega)] at hj; cases hj
      have h0 := hcell j hjl
      rw [hj] at h0
      have hadd : (a.add (i * sz)).add j = a.add (i * sz + j) := by
        unfold Addr.add
        by_cases h1 : i * sz = 0 <;> by_cases h2 : j = 0 <;> simp [h1, h2, Nat.add_assoc]
      rw [hadd] at h0
      have := (cell_norm h0).1
      rwa [← Nat.add_assoc] at this
    have hspot : i = 0 → 0 < sz → a.spot = none := fun hi0 hs0 => by
      subst hi0
      obtain ⟨v, hv⟩ : ∃ v, cs'[0]? = some v := ⟨cs'[0]'(by omega), List.getElem?_eq_getElem (by omega)⟩
      have h0 := hcell 0 hs0
      rw [hv, Nat.zero_mul] at h0
      exact (cell_norm (k := 0) (by simpa [Addr.add] using h0)).2 rfl
    -- the element's value
    obtain ⟨y, z, g1, g2, g3, g4⟩ : ∃ (y : AV) (z : Value), rep (Gw w) y z ∧ z.cells.toList = cs' ∧ (match T.isAgg e with | some true => ∃ xs, y = .a xs ∧ Typed T n e xs | _ => Typed T n e [y]) ∧ bulk y ≤ bulkL avs := by
      cases hag : T.isAgg e with
      | some ag =>
        cases ag with
        | true => exact ⟨.a avs, .agg cs'.toArray, ⟨_, rfl, r1⟩, by simp [Value.cells], ⟨avs, rfl, r2⟩, by simp [bulk]⟩
        | false =>
          have : sz = 1 := by
            have hok2 := hok
            unfold okT at hok2
            unfold Tab.isAgg at hag
            rw [hsz]
            cases hi : T.inf e with
            | none => simp [hi] at hok2
            | some ie =>
              cases hu : T.und e with
              | none => simp [hu] at hag
              | some u =>
                simp only [hi, hu] at hok2 hag
                cases u <;> first
                  | (exact Nat.eq_of_beq_eq_true hok2)
                  | (simp only [Bool.and_eq_true] at hok2; exact Nat.eq_of_beq_eq_true hok2.1.1)
                  | (simp at hag; done)
                  | (cases hok2; done)
          obtain ⟨y, rfl⟩ : ∃ y, avs = [y] := List.length_eq_one_iff.1 (by omega)
          obtain ⟨z, rfl⟩ : ∃ z, cs' = [z] := List.length_eq_one_iff.1 (by omega)
          have ryz := (repL_cons.1 r1).1
          refine ⟨y, z, ryz, ?_, r2, by simp [bulkL]⟩
          have hno : ∀ cs, y ≠ .a cs := fun cs hy => by
            subst hy
            cases n with
            | zero => exact r2.elim
            | succ n =>
              unfold Typed at r2
              unfold Tab.isAgg at hag
              cases hu : T.und e with
              | none => simp [hu] at hag
              | some u =>
                simp only [hu] at r2 hag
                cases u <;> first
                  | (simp at hag; done)
                  | (exact r2.elim)
                  | (obtain ⟨_, e, _⟩ := r2; cases e)
                  | (obtain ⟨_, e⟩ := r2; cases e)
          have hc1 := ryz.cells.length
          cases y <;> first
            | (exact absurd rfl (hno _))
            | (simp only [rep] at ryz; first | (subst ryz; rfl) | (obtain ⟨_, _, e⟩ := ryz; subst e; rfl) | (obtain ⟨_, e, _⟩ := ryz; subst e; rfl) | (obtain ⟨_, _, _, e, _⟩ := ryz; subst e; rfl))
      | none =>
        exfalso
        have hok2 := hok
        unfold okT at hok2
        unfold Tab.isAgg at hag
        cases hi : T.inf e with
        | none => simp [hi] at hok2
        | some ie =>
          cases hu : T.und e with
          | none => simp [hi, hu] at hok2
          | some u =>
            simp only [hi, hu] at hok2 hag
            cases u <;> first | (cases hag; done) | (cases hok2; done)
    refine ⟨y :: es, z :: vs, by simp [h1], repL_cons.2 ⟨g1, h2⟩, ?_, ?_, fun hi0 hs0 _ => hspot hi0 hs0, ?_, ?_⟩
    · intro v hv
      rcases List.mem_cons.1 hv with rfl | hv
      · have := congrArg List.length g2; simp only [Array.length_toList] at this; omega
      · exact h3 v hv
    · intro j v hj
      rw [cellsOf_cons, g2] at hj
      by_cases hjl : j < cs'.length
      · rw [List.getElem?_append_left hjl] at hj
        exact hcs' j v hj
      · rw [List.getElem?_append_right (by omega)] at hj
        have := h4 _ _ hj
        rw [hlen, Nat.add_mul, Nat.one_mul] at this
        rw [show a.off + i * sz + j = a.off + (i * sz + sz) + (j - sz) by omega]
        exact this
    · intro q hq
      rcases List.mem_cons.1 hq with rfl | hq
      · exact g3
      · exact h5 q hq
    · simp only [bulkL, List.map_cons, uptoBulkAll_cons]; omega

theorem open_fields_ {ts : List TypeId} (hts : closedT T ts = true) {n : Nat} (ih : OpenAt H enc P T w base sp held ts n) {cs : List Value} {total : Nat} (hcs : cs.length = total) :
    ∀ (fs : List (Nat × TypeId)) (o : Nat) (xs : List (DataW H × List MemPlace)), contig T o fs = some total → (∀ f ∈ fs, f.2 ∈ ts) → xs.length = fs.length →
      (∀ (i : Nat) (f : Nat × TypeId), fs[i]? = some f → DataW.trod enc P w base sp held n f.2 ((cs.drop f.1).take (sizeT T f.2)) = xs[i]?) →
      ∃ avs, repL (Gw w) avs (cs.drop o) ∧ (∀ f ∈ fs, o ≤ f.1 ∧ Typed T n f.2 ((avs.drop (f.1 - o)).take (sizeT T f.2))) ∧ bulkL avs ≤ uptoBulkAll (xs.map (·.1))
  | [], o, xs, hc, hm, hl, h => by
    simp only [contig, Option.some.injEq] at hc
    subst hc
    exact ⟨[], by rw [repL_nil]; exact List.drop_eq_nil_of_le (by omega), by simp, by simp [bulkL]⟩
  | f :: fs, o, xs, hc, hm, hl, h => by
    cases xs with
    | nil => simp at hl
    | cons x xs =>
      unfold contig at hc
      split at hc
      · rename_i ho
        have ho := Nat.eq_of_beq_eq_true ho
        obtain ⟨avs, r1, r2, r3⟩ := open_fields_ hts ih hcs fs (o + sizeT T f.2) xs hc (fun g hg => hm g (List.mem_cons_of_mem _ hg)) (by simpa using hl) fun i g hg => by
          have := h (i + 1) g (by simpa using hg)
          simpa using this
        have hx := h 0 f rfl
        simp only [List.getElem?_cons_zero] at hx
        obtain ⟨av, q1, q2, q3⟩ := ih f.2 _ x.1 x.2 (hm f (by simp)) hx
        have hal := Typed_len q2 (List.all_eq_true.1 hts _ (hm f (by simp)))
        refine ⟨av ++ avs, ?_, ?_, ?_⟩
        · have : cs.drop o = (cs.drop f.1).take (sizeT T f.2) ++ cs.drop (o + sizeT T f.2) := by
            rw [ho, ← List.drop_drop, List.take_append_drop]
          rw [this]
          exact q1.append r1
        · intro g hg
          rcases List.mem_cons.1 hg with rfl | hg
          · refine ⟨by omega, ?_⟩
            rw [show g.1 - o = 0 by omega, List.drop_zero, List.take_append_of_le_length (by omega), List.take_of_length_le (by omega)]
            exact q2
          · obtain ⟨k1, k2⟩ := r2 g hg
            refine ⟨by omega, ?_⟩
            rw [show g.1 - o = av.length + (g.1 - (o + sizeT T f.2)) by omega, List.drop_append, List.drop_eq_nil_of_le (by omega), List.nil_append, show av.length + (g.1 - (o + sizeT T f.2)) - av.length = g.1 - (o + sizeT T f.2) by omega]
            exact k2
        · rw [bulkL_append]
          simp only [List.map_cons, uptoBulkAll_cons]; omega
      · cases hc

theorem open_plain (ok : TabOk P T) {ts : List TypeId} (hts : closedT T ts = true) : ∀ n, OpenAt H enc P T w base sp held ts n := by
  intro n
  induction n with
  | zero => intro t cs d ps _ h; simp [DataW.trod] at h
  | succ n ih =>
    intro t cs d ps ht h
    have hok : okT T ts t = true := List.all_eq_true.1 hts _ ht
    have hok2 := hok
    unfold okT at hok2
    cases hinf : T.inf t with
    | none => simp [hinf] at hok2
    | some ti =>
      simp only [hinf] at hok2
      cases hu : T.und t with
      | none => simp [hu] at hok2
      | some u =>
        simp only [hu] at hok2
        obtain ⟨td, hP, htd⟩ := ok.und _ _ hu
        unfold Typed
        simp only [hu]
        cases u with
        | bool =>
          have hP' : P.underlying t = some .bool := by rw [hP]; cases td <;> simp [TD.of] at htd; rfl
          obtain ⟨b, rfl, e⟩ := DataW.trod_bool hP' h
          cases e
          exact ⟨[.b b], repL_cons.2 ⟨rfl, rfl⟩, ⟨b, rfl⟩, by simp [bulkL, bulk, uptoBulk]⟩
        | int k =>
          have hP' : P.underlying t = some (.int k) := by rw [hP]; cases td <;> simp [TD.of] at htd; rw [htd]
          obtain ⟨m, rfl, e, hwf⟩ := DataW.trod_int hP' h
          cases e
          exact ⟨[.i k m], repL_cons.2 ⟨rfl, rfl⟩, ⟨m, rfl, hwf⟩, by simp [bulkL, bulk, uptoBulk]⟩
        | string =>
          have hP' : P.underlying t = some .string := by rw [hP]; cases td <;> simp [TD.of] at htd; rfl
          obtain ⟨s, rfl, e, hwf⟩ := DataW.trod_string hP' h
          cases e
          exact ⟨[.s s.data.toList], repL_cons.2 ⟨by simp [rep], rfl⟩, ⟨_, rfl⟩, by simp [bulkL, bulk, uptoBulk]⟩
        | slice e =>
          have hP' : P.underlying t = some (.slice e) := by rw [hP]; cases td <;> simp [TD.of] at htd; rw [htd]
          simp only [Bool.and_eq_true] at hok2
          have hsz0 : 0 < sizeT T e := by simpa using hok2.1.2
          have het := memT_mem hok2.2
          have hce : P.cellsOf e = sizeT T e := by
            have := List.all_eq_true.1 hts _ het
            unfold okT at this
            cases hie : T.inf e with
            | none => simp [hie] at this
            | some i => exact size_of ok hie
          rcases DataW.trod_slice hP' h with ⟨rfl, e0⟩ | ⟨a, len, cap, elems, rest, m, hm, rfl, e0, hb, hlc, hcap, hel, hall, _, _⟩
          · cases e0
            refine ⟨[.sl [] 0], repL_cons.2 ⟨⟨none, 0, [], rfl, Nat.le_refl _, fun h => by omega, fun h => by omega, rfl, .inl rfl⟩, rfl⟩, ⟨[], rfl, by simp⟩, by simp [bulkL, bulk, uptoBulk]⟩
          · cases e0
            obtain rfl : m = n := by omega
            rw [hce] at hall
            obtain ⟨es, vs, h1, h2, h3, h4, h5, h6, h7⟩ := open_row_ ok hts ih (a := a) het rfl elems 0 fun j hj => by rw [Nat.zero_add]; exact hall j (by omega)
            have hvl := h2.length
            refine ⟨[.sl es 0], repL_cons.2 ⟨⟨some a, cap, vs, by rw [h1, hel], by omega, fun h => by omega, fun h => by omega, h2, ?_⟩, rfl⟩, ⟨es, rfl, h6⟩, ?_⟩
            · cases elems with
              | nil => left; exact List.length_eq_zero_iff.1 (by simpa using h1)
              | cons x xs =>
                right
                have hsp := h5 rfl hsz0 (by simp)
                obtain ⟨b, o, s⟩ := a
                simp only at hsp
                subst hsp
                refine ⟨b, o, _, rfl, h3, fun j v hj => ?_⟩
                have := h4 j v hj
                rw [Nat.zero_mul, Nat.add_zero] at this
                exact this
            · simp only [bulkL, bulk, uptoBulk, Nat.add_zero]; omega
        | struct fs =>
          obtain ⟨fl, hP', hfl⟩ : ∃ fl, P.underlying t = some (.struct fl) ∧ fl.toList.map (fun f => (f.offset, f.type)) = fs := by
            rw [hP]; cases td <;> simp [TD.of] at htd
            exact ⟨_, rfl, htd⟩
          simp only [Bool.and_eq_true] at hok2
          have hct : P.cellsOf t = sizeT T t := size_of ok hinf
          obtain ⟨xs, m, hm, e0, hcl, hxl, hall⟩ := DataW.trod_struct hP' h
          cases e0
          obtain rfl : m = n := by omega
          have hcon : contig T 0 fs = some (sizeT T t) := by
            have := hok2.1
            split at this
            · rename_i k hk; rw [hk, Nat.eq_of_beq_eq_true this]
            · cases this
          have hmem : ∀ f ∈ fs, f.2 ∈ ts := fun f hf => memT_mem (List.all_eq_true.1 hok2.2 f hf)
          obtain ⟨avs, r1, r2, r3⟩ := open_fields_ hts ih (by rw [hcl, hct]) fs 0 xs hcon hmem (by rw [hxl, ← hfl]; simp) fun i f hf => by
            rw [← hfl, List.getElem?_map] at hf
            obtain ⟨g, hg, rfl⟩ := Option.map_eq_some_iff.1 hf
            have := hall i g (by simpa using hg)
            have hgt : g.type ∈ ts := hmem (g.offset, g.type) (by rw [← hfl]; exact List.mem_map.2 ⟨g, List.mem_of_getElem? hg, rfl⟩)
            have hcg : P.cellsOf g.type = sizeT T g.type := by
              have := List.all_eq_true.1 hts _ hgt
              unfold okT at this
              cases hie : T.inf g.type with
              | none => simp [hie] at this
              | some i => exact size_of ok hie
            rw [hcg] at this
            exact this
          rw [List.drop_zero] at r1
          refine ⟨avs, r1, ⟨by have := r1.length; omega, fun g hg => ?_⟩, by simp only [uptoBulk]; omega⟩
          have := (r2 g hg).2
          rwa [Nat.sub_zero] at this
        | _ => simp at hok2
end
end Go.Pv
