/- The evaluator's reads, stores and parts answer as the machine's. -/
import Derived.Test.YtigcolhieieakaaDoorPvD
import Derived.Laws.BytesArg
import Derived.Lib.Strings
namespace Go.Pv
open Go Go.RowKit
set_option linter.unusedVariables false
set_option linter.unusedSimpArgs false

section
variable {P : Program} {T : Tab} {w : World} {G : Gh} {base : Nat} {w0 : World} {σ : St}

theorem add_plain (b o n : Nat) : (⟨b, o, none⟩ : Addr).add n = ⟨b, o + n, none⟩ := by unfold Addr.add; split <;> simp_all

theorem lt_of_get {α : Type} {l : List α} {j : Nat} {v : α} (h : l[j]? = some v) : j < l.length := by
  rcases Nat.lt_or_ge j l.length with h' | h'
  · exact h'
  · simp [List.getElem?_eq_none h'] at h

theorem cellsOf_cons (v : Value) (vs : List Value) : cellsOf (v :: vs) = v.cells.toList ++ cellsOf vs := rfl
theorem cellsOf_append (a b : List Value) : cellsOf (a ++ b) = cellsOf a ++ cellsOf b := List.flatMap_append

theorem cellsOf_length {sz : Nat} : ∀ {vs : List Value}, (∀ v ∈ vs, v.cells.size = sz) → (cellsOf vs).length = vs.length * sz
  | [], _ => by simp [cellsOf]
  | v :: vs, h => by
    rw [cellsOf_cons, List.length_append, cellsOf_length fun x hx => h x (List.mem_cons_of_mem _ hx)]
    have := h v List.mem_cons_self
    simp only [Array.length_toList, this, List.length_cons, Nat.succ_mul]
    omega

theorem cellsOf_get {sz : Nat} : ∀ {vs : List Value} {i j : Nat} {y c : Value}, (∀ v ∈ vs, v.cells.size = sz) → vs[i]? = some y → y.cells.toList[j]? = some c → (cellsOf vs)[i * sz + j]? = some c
  | [], i, j, y, c, _, h, _ => by simp at h
  | v :: vs, 0, j, y, c, hs, h, hc => by
    simp at h; subst h
    rw [cellsOf_cons, Nat.zero_mul, Nat.zero_add, List.getElem?_append_left (lt_of_get hc)]; exact hc
  | v :: vs, i + 1, j, y, c, hs, h, hc => by
    have hv := hs v List.mem_cons_self
    rw [cellsOf_cons, List.getElem?_append_right (by simp only [Array.length_toList, hv, Nat.succ_mul]; omega)]
    have := cellsOf_get (fun x hx => hs x (List.mem_cons_of_mem _ hx)) (by simpa using h) hc
    rw [show (i + 1) * sz + j - v.cells.toList.length = i * sz + j by simp only [Array.length_toList, hv, Nat.succ_mul]; omega]
    exact this

theorem cellsOf_drop {sz : Nat} : ∀ {vs : List Value} (n : Nat), (∀ v ∈ vs, v.cells.size = sz) → cellsOf (vs.drop n) = (cellsOf vs).drop (n * sz)
  | _, 0, _ => by simp
  | [], n + 1, _ => by simp [cellsOf]
  | v :: vs, n + 1, h => by
    have hv := h v List.mem_cons_self
    have e : v.cells.toList.length = sz := by simpa using hv
    rw [List.drop_succ_cons, cellsOf_drop n fun x hx => h x (List.mem_cons_of_mem _ hx), cellsOf_cons, List.drop_append, e, Nat.succ_mul, List.drop_eq_nil_of_le (as := v.cells.toList) (by rw [e]; omega), List.nil_append]
    congr 1
    omega

theorem cellsOf_take_get {vs : List Value} {n j : Nat} {c : Value} (h : (cellsOf (vs.take n))[j]? = some c) : (cellsOf vs)[j]? = some c := by
  have : cellsOf vs = cellsOf (vs.take n) ++ cellsOf (vs.drop n) := by rw [← cellsOf_append, List.take_append_drop]
  rw [this, List.getElem?_append_left (lt_of_get h)]; exact h

theorem memAt.cell (hi : Inv base w0 G σ w) {b o : Nat} {l : List Value} (m : memAt G b o l) : ∀ (j : Nat) v, l[j]? = some v → w.cell? ⟨b, o + j, none⟩ = some v := fun j v hj => hi.mem _ _ _ (m j v hj)

theorem load_at (ok : TabOk P T) {t : TypeId} {ag : Bool} {ti : TI} {b o : Nat} {cs : List AV} {L : List Value} {r : AV} (ha : T.isAgg t = some ag) (hi : T.inf t = some ti) (hr : repL G cs L)
    (hc : ∀ (j : Nat) v, L[j]? = some v → w.cell? ⟨b, o + j, none⟩ = some v) (h : (if ag then (match take? cs 0 ti.size with | some r => some (.a r) | none => none) else cs[0]?) = some r) :
    Yields P w G (loadVar t ⟨b, o, none⟩) r := by
  have hA := run_isAgg' ok ha w
  obtain ⟨_, _, _, _, _, hS, _⟩ := run_inf ok hi
  cases ag
  · simp only [Bool.false_eq_true, if_false] at h
    obtain ⟨v, hv, hrv⟩ := hr.get h
    have hcell := hc 0 v hv
    rw [Nat.add_zero] at hcell
    exact ⟨v, by simp [loadVar, hA, hcell], hrv⟩
  · simp only [if_true] at h
    split at h
    · rename_i r' ht
      simp only [Option.some.injEq] at h; subst h
      simp only [take?, Nat.zero_add, List.drop_zero] at ht
      split at ht
      · rename_i hle
        simp only [Option.some.injEq] at ht; subst ht
        have hlen := hr.length
        have hl := run_loadCells_list (P := P) w ⟨b, o, none⟩ (L.take ti.size) (fun j v hj => by
          rw [add_plain]
          refine hc j v ?_
          rw [List.getElem?_take] at hj
          split at hj
          · exact hj
          · simp at hj)
        rw [List.length_take, Nat.min_eq_left (by omega)] at hl
        exact ⟨.agg (L.take ti.size).toArray, by simp [loadVar, hA, hS, hl], _, rfl, by simpa using hr.take ti.size⟩
      · simp at ht
    · simp at h

theorem take?_drop {cs : List AV} {o n : Nat} {r : List AV} (h : take? cs o n = some r) : take? (cs.drop o) 0 n = some r := by
  unfold take? at *
  split at h
  · rename_i hl
    rw [if_pos (by simp; omega)]
    simpa using h
  · simp at h

theorem loadV_sound (ok : TabOk P T) (hi : Inv base w0 G σ w) {t : TypeId} {x r : AV} {v : Value} (h : loadV T t x σ = some r) (rx : rep G x v) : Yields P w G (Instr.loadAt t v) r := by
  unfold loadV at h
  split at h
  · rename_i ag ti ha hti
    split at h
    · rename_i l o
      obtain ⟨B, hB, rfl⟩ := rx
      split at h
      · rename_i cs hcs
        obtain ⟨B', vs, h1, h2, h3⟩ := hi.box _ _ hcs
        have e : B' = B := by rw [hB] at h1; simpa using h1.symm
        subst e
        refine load_at (r := r) ok ha hti (h2.drop o) (fun j u hj => ?_) ?_
        · rw [List.getElem?_drop] at hj
          exact (h3 _ _ hj).1
        · cases ag
          · simpa using h
          · simp only [if_true] at h ⊢
            split at h
            · rename_i r' ht; rw [take?_drop ht]; exact h
            · simp at h
      · simp at h
    · obtain ⟨b, o, l, rfl, h2, h3⟩ := rx
      exact load_at ok ha hti h2 (h3.cell hi) h
    · simp at h
  · simp at h

theorem storeV_sound (ok : TabOk P T) (hi : Inv base w0 G σ w) {t : TypeId} {x y : AV} {vx vy : Value} {σ' : St} (h : storeV T t x y σ = some σ') (rx : rep G x vx) (ry : rep G y vy) :
    ∃ w', (Instr.storeAt t vx vy).run P w = .ok () w' ∧ Inv base w0 G σ' w' := by
  unfold storeV at h
  split at h
  · rename_i ti l o hti
    obtain ⟨B, hB, rfl⟩ := rx
    split at h
    · rename_i cs hcs
      simp only at h
      split at h
      · rename_i hc
        obtain ⟨c1, c2, c3⟩ := hc
        simp only [Option.some.injEq] at h; subst h
        obtain ⟨_, _, _, _, _, hS, _⟩ := run_inf ok hti
        obtain ⟨g1, g2, g3⟩ := hi.store hcs hB c2 ry.cells
        refine ⟨_, ?_, g1⟩
        have hst := run_storeCells_cells (P := P) B o vy.cells.toList 0 w (by simpa using g2) (by simpa using g3) (ry.cells.oneCell c3)
        simp only [Instr.storeAt, Instr.sureAddr, storeVar, Sem.run_bind, Sem.run_pure, Result.andThen_ok, hS]
        rw [if_neg (by rw [ry.cells_size, c1]; simp)]
        simpa using hst
      · simp at h
    · simp at h
  · simp at h

theorem bytesOf_inv : ∀ {es : List AV} {l : List UInt8}, bytesOf es = some l → ∃ ns : List Int, es = ns.map (AV.i .u8) ∧ l = ns.map fun n => UInt8.ofNat n.toNat
  | [], l, h => by simp [bytesOf] at h; exact ⟨[], rfl, by simp [h]⟩
  | e :: es, l, h => by
    unfold bytesOf at h
    split at h
    · simp_all
    · rename_i n r heq
      cases heq
      split at h
      · rename_i l' hl
        simp only [Option.some.injEq] at h
        obtain ⟨ns, h1, h2⟩ := bytesOf_inv hl
        exact ⟨n :: ns, by simp [h1], by simp [← h, h2]⟩
      · simp at h
    · simp at h

theorem repL_bytes : ∀ {ns : List Int} {vs : List Value}, repL G (ns.map (AV.i .u8)) vs → vs = ns.map (Value.int .u8)
  | [], vs, r => by simpa [repL] using r
  | n :: ns, vs, ⟨z, zs, e, r1, r2⟩ => by subst e; simp only [rep] at r1; rw [r1, repL_bytes r2]; rfl

theorem cellsOf_ints (k : IntKind) : ∀ (ns : List Int), cellsOf (ns.map (Value.int k)) = ns.map (Value.int k)
  | [] => rfl
  | n :: ns => by rw [List.map_cons, cellsOf_cons, cellsOf_ints k ns]; rfl

theorem convV_sound (ok : TabOk P T) (hi : Inv base w0 G σ w) {s d : TypeId} {x r : AV} {v : Value} (h : convV T s d x = some r) (rx : rep G x v) : Yields P w G (convert s d v) r := by
  unfold convV at h
  split at h
  · rename_i ts k k' n hs hd
    obtain ⟨tds, _, _, h1⟩ := run_und ok hs
    obtain ⟨tdd, h3, _, h2⟩ := run_und ok hd
    have := TD.int_inv h3; subst this
    simp only [rep] at rx; subst rx
    simp only [Option.some.injEq] at h; subst h
    exact ⟨.int k (k.wrap n), by simp [convert, h1, h2, Conv.intToInt], by simp [rep, fw_eq]⟩
  · rename_i l hs hd
    obtain ⟨tds, h0, _, h1⟩ := run_und ok hs
    obtain ⟨tdd, h3, _, h2⟩ := run_und ok hd
    have := TD.string_inv h3; subst this
    have := TD.string_inv h0; subst this
    simp only [rep] at rx; subst rx
    simp only [Option.some.injEq] at h; subst h
    exact ⟨_, by simp [convert, h1, h2], rfl⟩
  · rename_i e es k hs hd
    obtain ⟨tds, h0, u0, h1⟩ := run_und ok hs
    obtain ⟨tdd, h3, u3, h2⟩ := run_und ok hd
    have := TD.string_inv h3; subst this
    have := TD.slice_inv h0; subst this
    split at h
    · rename_i he
      obtain ⟨tde, h4, u4, h5⟩ := run_und ok he
      have := TD.int_inv h4; subst this
      split at h
      · rename_i l hl
        simp only [Option.some.injEq] at h; subst h
        obtain ⟨ns, rfl, rfl⟩ := bytesOf_inv hl
        obtain ⟨A, c, vs, rfl, r1, r2, r3, r4, r5⟩ := rx
        have hvs := repL_bytes r4
        subst hvs
        rcases r5 with r5 | ⟨b, o, sz, rfl, r6, r7⟩
        · have : ns = [] := by simpa using r5
          subst this
          refine ⟨.string ⟨#[]⟩, ?_, rfl⟩
          cases A with
          | none => simp only [List.map_nil, List.length_nil]; rw [run_convert_bytes_nil w s e u0 u4 0 c d u3]; rfl
          | some a =>
            rw [run_convert_bytes_string w s d e _ _ _ u0 u4 u3]
            have := run_bytesToString (P := P) w a 0 c [] (by simpa using run_loadCells_list (P := P) w a [] (by simp))
            simp only [List.map_nil, List.length_nil]
            rw [this]; rfl
        · rw [cellsOf_ints] at r7
          refine ⟨.string (strOfNums ns), ?_, rfl⟩
          rw [List.length_map]
          exact run_convert_bytes_arg w s e u0 u4 b o ns.length c ns rfl (fun i hlt => hi.mem _ _ _ (r7 i _ (by simp [List.getD, List.getElem?_eq_getElem hlt]))) d u3
      · simp at h
    · simp at h
  · simp at h

theorem partV_sound (ok : TabOk P T) {t : TypeId} {cs : List AV} {o : Nat} {r : AV} {l : Array Value} (h : partV T t cs o = some r) (rl : repL G cs l.toList) : Yields P w G (part t l o) r := by
  unfold partV at h
  split at h
  · rename_i ti ha hti
    have hA := run_isAgg' ok ha w
    obtain ⟨_, _, _, _, _, hS, _⟩ := run_inf ok hti
    split at h
    · rename_i r' ht
      simp only [Option.some.injEq] at h; subst h
      unfold take? at ht
      split at ht
      · simp only [Option.some.injEq] at ht; subst ht
        refine ⟨.agg (l.extract o (o + ti.size)), by simp [part, hA, hS], _, rfl, ?_⟩
        have := (rl.drop o).take ti.size
        simpa [Array.toList_extract, List.extract_eq_take_drop] using this
      · simp at ht
    · simp at h
  · rename_i ti ha hti
    have hA := run_isAgg' ok ha w
    obtain ⟨v, hv, hr⟩ := rl.get h
    refine ⟨v, ?_, hr⟩
    have : l[o]? = some v := by simpa using hv
    simp [part, hA, this]
  · simp at h

theorem boundV_sound {x : AV} {v : Value} {y n : Nat} {code : BoundsCode} (h : boundV x y = some n) (rx : rep G x v) : (Instr.sliceBound v y code).run P w = .ok n w ∧ n ≤ y := by
  unfold boundV at h
  split at h
  · rename_i k m
    split at h
    · rename_i hc
      simp only [rep] at rx; subst rx
      simp only [Option.some.injEq] at h; subst h
      exact ⟨by simp [Instr.sliceBound, asIntOf, hc], by omega⟩
    · simp at h
  · simp at h

theorem ba_extract (l : List UInt8) (o h : Nat) : (⟨l.toArray⟩ : ByteArray).extract o h = ⟨((l.drop o).take (h - o)).toArray⟩ := by
  apply ByteArray.ext
  simp [List.extract_eq_take_drop]

def repO (G : Gh) : Option AV → Option Value → Prop
  | none, v => v = none
  | some x, v => ∃ y, v = some y ∧ rep G x y

theorem bounds_sound {isS : Bool} {len cap : Nat} {lo hi : Option AV} {vlo vhi : Option Value} {o h : Nat} (rlo : repO G lo vlo) (rhi : repO G hi vhi) (hcap : len ≤ cap)
    (h1 : hiB hi len = some h) (h2 : loB lo h = some o) :
    (Instr.sliceBounds isS len cap vlo vhi none).run P w = .ok (o, h, cap) w ∧ o ≤ h ∧ h ≤ len := by
  have hh : h ≤ len ∧ ∀ code, (match vhi with | some v => Instr.sliceBound v cap code | none => pure len).run P w = .ok h w := by
    cases hi with
    | none => simp only [repO] at rhi; subst rhi; simp only [hiB, Option.some.injEq] at h1; subst h1; exact ⟨Nat.le_refl _, fun _ => rfl⟩
    | some x =>
      obtain ⟨y, rfl, ry⟩ := rhi
      refine ⟨(boundV_sound (P := P) (w := w) (code := .index) h1 ry).2, fun code => ?_⟩
      simp only [hiB] at h1 ⊢
      unfold boundV at h1
      split at h1
      · rename_i k m
        split at h1
        · rename_i hc
          simp only [rep] at ry; subst ry
          simp only [Option.some.injEq] at h1; subst h1
          have hc' : 0 ≤ m ∧ m ≤ (cap : Int) := by omega
          simp [Instr.sliceBound, asIntOf, hc']
        · simp at h1
      · simp at h1
  have hl : o ≤ h ∧ ∀ code, (match vlo with | some v => Instr.sliceBound v h code | none => pure 0).run P w = .ok o w := by
    cases lo with
    | none => simp only [repO] at rlo; subst rlo; simp only [loB, Option.some.injEq] at h2; subst h2; exact ⟨Nat.zero_le _, fun _ => rfl⟩
    | some x =>
      obtain ⟨y, rfl, ry⟩ := rlo
      exact ⟨(boundV_sound (P := P) (w := w) (code := .index) h2 ry).2, fun code => (boundV_sound h2 ry).1⟩
  refine ⟨?_, hl.1, hh.1⟩
  have e1 := hh.2 (if isS then .sliceAcap else .sliceAlen)
  have e2 := hl.2 .sliceB
  unfold Instr.sliceBounds
  cases vhi <;> cases vlo <;> simp only [Sem.run_bind, Sem.run_pure, Result.andThen_ok] at e1 e2 ⊢ <;> simp_all

theorem allSize_mem {sz : Nat} : ∀ {es : List AV}, allSize sz es = true → ∀ e ∈ es, e.cells.length = sz ∧ flat e.cells = true
  | [], _, e, he => by simp at he
  | x :: es, h, e, he => by
    simp only [allSize, Bool.and_eq_true, beq_eq, decide_eq_true_eq] at h
    rcases List.mem_cons.1 he with rfl | he
    · exact h.1
    · exact allSize_mem h.2 e he

theorem sliceV_sound (ok : TabOk P T) {t : TypeId} {x r : AV} {v : Value} {lo hi : Option AV} {vlo vhi : Option Value} (h : sliceV T t x lo hi = some r) (rx : rep G x v) (rlo : repO G lo vlo) (rhi : repO G hi vhi) :
    Yields P w G (Instr.sliceAt t v vlo vhi none) r := by
  unfold sliceV at h
  split at h
  · rename_i l hu
    obtain ⟨td, h0, u0, h1⟩ := run_und ok hu
    have := TD.string_inv h0; subst this
    simp only [rep] at rx; subst rx
    split at h
    · rename_i hb hhb
      split at h
      · rename_i lb hlb
        simp only [Option.some.injEq] at h; subst h
        have hsz : (⟨l.toArray⟩ : ByteArray).size = l.length := by simp [ByteArray.size]
        obtain ⟨b1, b2, b3⟩ := bounds_sound (P := P) (w := w) (isS := false) (cap := l.length) rlo rhi (Nat.le_refl _) hhb hlb
        exact ⟨.string ⟨((l.drop lb).take (hb - lb)).toArray⟩, by simp [Instr.sliceAt, Instr.slice, h1, hsz, b1, ba_extract], rfl⟩
      · simp at h
    · simp at h
  · rename_i e es k hu
    obtain ⟨td, h0, u0, h1⟩ := run_und ok hu
    have := TD.slice_inv h0; subst this
    obtain ⟨A, c, vs, rfl, r1, r2, r3, r4, r5⟩ := rx
    split at h
    · rename_i hb hhb
      split at h
      · rename_i lb hlb
        split at h
        · rename_i ti hti
          split at h
          · rename_i has
            simp only [Option.some.injEq] at h; subst h
            obtain ⟨_, _, _, _, _, hS, _⟩ := run_inf ok hti
            obtain ⟨b1, b2, b3⟩ := bounds_sound (P := P) (w := w) (isS := true) (cap := c) rlo rhi r1 hhb hlb
            refine ⟨.slice (if c = lb then A else A.map (·.add (lb * ti.size))) (hb - lb) (c - lb), by simp [Instr.sliceAt, Instr.slice, h1, b1, hS], ?_⟩
            have hlen := r4.length
            refine ⟨_, _, (vs.drop lb).take (hb - lb), by rw [List.length_take, List.length_drop, Nat.min_eq_left (by omega)], by rw [List.length_take, List.length_drop, Nat.min_eq_left (by omega)]; omega, fun h => by omega, fun h => by omega, (r4.drop lb).take _, ?_⟩
            by_cases hne : hb - lb = 0
            · left; simp [hne]
            · right
              rcases r5 with r5 | ⟨b, o, sz, rfl, r6, r7⟩
              · subst r5; simp at b3; omega
              · have hsz : sz = ti.size := by
                  cases es with
                  | nil => simp at b3; omega
                  | cons e1 es1 =>
                    cases vs with
                    | nil => simp at hlen
                    | cons v1 vs1 =>
                      have := (repL_cons.1 r4).1.cells_size
                      have h2 : e1.cells.length = ti.size := by simpa [headSize, beq_eq] using has
                      have h3 := r6 v1 List.mem_cons_self
                      omega
                subst hsz
                rw [if_neg (by omega)]
                refine ⟨b, o + lb * ti.size, ti.size, by simp [add_plain], fun v hv => r6 v (List.mem_of_mem_drop (List.mem_of_mem_take hv)), fun j u hj => ?_⟩
                have hj2 := cellsOf_take_get hj
                rw [cellsOf_drop lb r6, List.getElem?_drop] at hj2
                have := r7 _ _ hj2
                rwa [← Nat.add_assoc] at this
          · simp at h
        · simp at h
      · simp at h
    · simp at h
  · simp at h

theorem idxAddrV_sound (ok : TabOk P T) {t : TypeId} {x ix r : AV} {v vi : Value} (h : idxAddrV T t x ix = some r) (rx : rep G x v) (ri : rep G ix vi) : Yields P w G (Instr.indexAt t v vi) r := by
  unfold idxAddrV at h
  split at h
  · rename_i k n
    simp only [rep] at ri; subst ri
    split at h
    · rename_i hn
      split at h
      · rename_i e es k' hu
        obtain ⟨td, h0, u0, h1⟩ := run_und ok hu
        have := TD.slice_inv h0; subst this
        obtain ⟨A, c, vs, rfl, r1, r2, r3, r4, r5⟩ := rx
        split at h
        · rename_i ti y hti hy
          split at h
          · rename_i hsz
            simp only [Option.some.injEq] at h; subst h
            obtain ⟨_, _, _, _, _, hS, _⟩ := run_inf ok hti
            have hlt := lt_of_get hy
            obtain ⟨z, hz, rz⟩ := r4.get hy
            rcases r5 with r5 | ⟨b, o, sz, rfl, r6, r7⟩
            · subst r5; simp at hlt
            · have hzs := r6 z (List.mem_of_getElem? hz)
              rw [rz.cells_size, hsz] at hzs
              subst hzs
              have hc : 0 ≤ n ∧ n < (es.length : Int) := by omega
              refine ⟨.pointer (some ⟨b, o + n.toNat * ti.size, none⟩), by simp [Instr.indexAt, asIntOf, h1, hS, hc, add_plain], b, _, z.cells.toList, rfl, rz.cells, fun j u hj => ?_⟩
              have := r7 _ _ (cellsOf_get r6 hz hj)
              rwa [← Nat.add_assoc] at this
          · simp at h
        · simp at h
      · rename_i len e l o hu
        obtain ⟨td, h0, u0, h1⟩ := run_und ok hu
        have := TD.array_inv h0; subst this
        obtain ⟨B, hB, rfl⟩ := rx
        split at h
        · rename_i ti hti
          split at h
          · rename_i hlt
            simp only [Option.some.injEq] at h; subst h
            obtain ⟨_, _, _, _, _, hS, _⟩ := run_inf ok hti
            have hc : 0 ≤ n ∧ n < (len : Int) := ⟨hn, hlt⟩
            exact ⟨.pointer (some ⟨B, o + n.toNat * ti.size, none⟩), by simp [Instr.indexAt, asIntOf, h1, hS, hc, add_plain, Instr.sureAddr], B, hB, rfl⟩
          · simp at h
        · simp at h
      · simp at h
    · simp at h
  · simp at h

theorem idxV_sound (ok : TabOk P T) {t : TypeId} {x ix r : AV} {v vi : Value} (h : idxV T t x ix = some r) (rx : rep G x v) (ri : rep G ix vi) : Yields P w G (Instr.index t v vi) r := by
  unfold idxV at h
  split at h
  · rename_i k n
    simp only [rep] at ri; subst ri
    split at h
    · rename_i hn
      split at h
      · rename_i len e cs hu
        obtain ⟨td, h0, u0, h1⟩ := run_und ok hu
        have := TD.array_inv h0; subst this
        obtain ⟨l, rfl, rl⟩ := rx
        split at h
        · rename_i ti hti
          split at h
          · rename_i hlt
            obtain ⟨_, _, _, _, _, hS, _⟩ := run_inf ok hti
            have hc : 0 ≤ n ∧ n < (len : Int) := ⟨hn, hlt⟩
            obtain ⟨y, hy, ry⟩ := partV_sound (P := P) (w := w) ok h rl
            exact ⟨y, by simp [Instr.index, asIntOf, h1, hc, hS, hy], ry⟩
          · simp at h
        · simp at h
      · rename_i l hu
        obtain ⟨td, h0, u0, h1⟩ := run_und ok hu
        have := TD.string_inv h0; subst this
        simp only [rep] at rx; subst rx
        split at h
        · rename_i c hc
          simp only [Option.some.injEq] at h; subst h
          have hlt := lt_of_get hc
          have hg : (⟨l.toArray⟩ : ByteArray)[n.toNat]? = some c := by
            rw [getElem?_pos _ _ (by simpa [ByteArray.size] using hlt)]
            rw [List.getElem?_eq_getElem hlt] at hc
            simpa [ByteArray.getElem_eq_getElem_data] using hc
          exact ⟨.int .u8 c.toNat, by simp [Instr.index, asIntOf, h1, hn, hg], rfl⟩
        · simp at h
      · simp at h
    · simp at h
  · simp at h
end
end Go.Pv
