/- A slice of instructions that is read as data is a list of instructions. -/
import Derived.Test.YtigcolhieieakaaDoorPvRow
import Derived.Test.YtigcolhieieakaaDoorPvZ3
namespace Go.Pv
open Go Go.Proofs Go.RowKit
set_option linter.unusedVariables false
set_option linter.unusedSimpArgs false
set_option maxRecDepth 100000

theorem typed_int {n : Nat} {t : TypeId} {k : IntKind} {x : AV} (hu : TS.und t = some (.int k)) (h : Typed TS n t [x]) : ∃ i, x = .i k i ∧ (Lit.int k i).wf = true := by
  cases n with
  | zero => exact h.elim
  | succ n =>
    unfold Typed at h
    rw [hu] at h
    obtain ⟨i, e, hw⟩ := h
    exact ⟨i, by simpa using e, hw⟩
theorem typed_slice {n : Nat} {t e : TypeId} {x : AV} (hu : TS.und t = some (.slice e)) (h : Typed TS n t [x]) : ∃ m es, n = m + 1 ∧ x = .sl es 0 ∧ ∀ y ∈ es, match TS.isAgg e with
      | some true => ∃ xs, y = .a xs ∧ Typed TS m e xs
      | _ => Typed TS m e [y] := by
  cases n with
  | zero => exact h.elim
  | succ n =>
    unfold Typed at h
    rw [hu] at h
    obtain ⟨es, e, hw⟩ := h
    exact ⟨n, es, rfl, by simpa using e, hw⟩
theorem wf_u8 {i : Int} (h : (Lit.int .u8 i).wf = true) : 0 ≤ i ∧ i ≤ 255 := by simpa [Lit.wf, IntKind.min, IntKind.max, IntKind.signed, IntKind.bits] using h
theorem wf_u32 {i : Int} (h : (Lit.int .u32 i).wf = true) : 0 ≤ i ∧ i ≤ 4294967295 := by simpa [Lit.wf, IntKind.min, IntKind.max, IntKind.signed, IntKind.bits] using h
theorem wf_i64 {i : Int} (h : (Lit.int .i64 i).wf = true) : -9223372036854775808 ≤ i ∧ i ≤ 9223372036854775807 := by simpa [Lit.wf, IntKind.min, IntKind.max, IntKind.signed, IntKind.bits] using h

theorem u32s_of_typed {n : Nat} : ∀ (es : List AV), (∀ y ∈ es, Typed TS n 38 [y]) → ∃ ls, es = u32s ls ∧ (∀ x ∈ ls, 0 ≤ x ∧ x ≤ 4294967295) ∧ ls.length ≤ bulkL es
  | [], _ => ⟨[], rfl, by simp, by simp⟩
  | y :: es, h => by
    obtain ⟨ls, rfl, h1, h2⟩ := u32s_of_typed es fun z hz => h z (List.mem_cons_of_mem _ hz)
    obtain ⟨i, rfl, hw⟩ := typed_int (k := .u32) (by simp only [undF]) (h y (by simp))
    refine ⟨i :: ls, rfl, ?_, by simp only [bulkL, bulk, List.length_cons]; omega⟩
    intro x hx
    rcases List.mem_cons.1 hx with rfl | hx
    · exact wf_u32 hw
    · exact h1 x hx

theorem L_of_typed : ∀ (N n : Nat), n < N → ∀ (es : List AV), (∀ y ∈ es, ∃ xs, y = .a xs ∧ Typed TS n 63 xs) → ∃ l : L, l.wf ∧ l.av = es ∧ l.sz ≤ bulkL es := by
  intro N
  induction N with
  | zero => intro n h; omega
  | succ N ihN =>
    intro n hn es
    induction es with
    | nil => intro _; exact ⟨.nil, trivial, rfl, by simp [L.sz]⟩
    | cons y es ihe =>
      intro h
      obtain ⟨r, hrw, hra, hrs⟩ := ihe fun z hz => h z (List.mem_cons_of_mem _ hz)
      obtain ⟨xs, rfl, ht⟩ := h y (by simp)
      cases n with
      | zero => exact ht.elim
      | succ n =>
        unfold Typed at ht
        simp only [undF, sizeT, infF] at ht
        obtain ⟨hl, hf⟩ := ht
        obtain ⟨x0, x1, x2, x3, x4, x5, x6, x7, rfl⟩ : ∃ x0 x1 x2 x3 x4 x5 x6 x7, xs = [x0, x1, x2, x3, x4, x5, x6, x7] := by
          match xs, hl with
          | [a, b, c, d, e, f, g, h], _ => exact ⟨_, _, _, _, _, _, _, _, rfl⟩
        have f0 := hf (0, 5) (by simp)
        have f1 := hf (1, 2) (by simp)
        have f2 := hf (2, 38) (by simp)
        have f3 := hf (3, 38) (by simp)
        have f4 := hf (4, 5) (by simp)
        have f5 := hf (5, 29) (by simp)
        have f6 := hf (6, 29) (by simp)
        have f7 := hf (7, 40) (by simp)
        simp only [infF, List.drop_zero, List.drop_succ_cons, List.take_succ_cons, List.take_zero] at f0 f1 f2 f3 f4 f5 f6 f7
        obtain ⟨i0, rfl, w0⟩ := typed_int (k := .u8) (by simp only [undF]) f0
        obtain ⟨i1, rfl, w1⟩ := typed_int (k := .i64) (by simp only [undF]) f1
        obtain ⟨i2, rfl, w2⟩ := typed_int (k := .u32) (by simp only [undF]) f2
        obtain ⟨i3, rfl, w3⟩ := typed_int (k := .u32) (by simp only [undF]) f3
        obtain ⟨i4, rfl, w4⟩ := typed_int (k := .u8) (by simp only [undF]) f4
        obtain ⟨m5, e5, hm5, rfl, g5⟩ := typed_slice (e := 63) (by simp only [undF]) f5
        obtain ⟨m6, e6, hm6, rfl, g6⟩ := typed_slice (e := 63) (by simp only [undF]) f6
        obtain ⟨m7, e7, hm7, rfl, g7⟩ := typed_slice (e := 38) (by simp only [undF]) f7
        simp only [aggF] at g5 g6 g7
        obtain ⟨b, hb1, hb2, hb3⟩ := ihN m5 (by omega) e5 g5
        obtain ⟨e, he1, he2, he3⟩ := ihN m6 (by omega) e6 g6
        obtain ⟨ls, rfl, hl1, hl2⟩ := u32s_of_typed e7 g7
        have b0 := wf_u8 w0
        refine ⟨.cons i0.toNat i1 i2 i3 i4 b e ls r, ⟨by omega, wf_i64 w1, wf_u32 w2, wf_u32 w3, wf_u8 w4, hb1, he1, hl1, hrw⟩, ?_, ?_⟩
        · simp only [L.av, iav, hb2, he2, hra, show ((i0.toNat : Nat) : Int) = i0 by omega]
        · simp only [L.sz, bulkL, bulk]; omega

/-- The argument of a law. -/
theorem L_of_typedV {a : AV} (h : TypedV TS 29 a) : ∃ l : L, l.wf ∧ a = .sl l.av 0 ∧ l.sz + 1 ≤ bulk a := by
  obtain ⟨n, h⟩ := h
  simp only [aggF] at h
  obtain ⟨m, es, rfl, rfl, g⟩ := typed_slice (e := 63) (by simp only [undF]) h
  simp only [aggF] at g
  obtain ⟨l, h1, h2, h3⟩ := L_of_typed (m + 1) m (by omega) es g
  exact ⟨l, h1, by rw [h2], by simp only [bulk]; omega⟩
end Go.Pv
