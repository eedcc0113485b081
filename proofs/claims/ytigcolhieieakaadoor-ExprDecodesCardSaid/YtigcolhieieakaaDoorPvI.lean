/- make, append and the other builtins. -/
import Derived.Test.YtigcolhieieakaaDoorPvF
namespace Go.Pv
open Go Go.RowKit
set_option linter.unusedVariables false
set_option linter.unusedSimpArgs false

section
variable {P : Program} {T : Tab} {w : World} {G : Gh} {base : Nat} {w0 : World} {σ : St}

theorem replicate_cells (v : Value) : ∀ n, (cellsOf (List.replicate n v)).length = n * v.cells.size
  | 0 => by simp [cellsOf]
  | n + 1 => by rw [List.replicate_succ, cellsOf_cons, List.length_append, replicate_cells v n, Nat.succ_mul]; simp; omega

theorem replicate_get (v : Value) : ∀ (n i : Nat), i < n * v.cells.size → (cellsOf (List.replicate n v))[i]? = v.cells.toList[i % v.cells.size]?
  | 0, i, h => by simp at h
  | n + 1, i, h => by
    rw [List.replicate_succ, cellsOf_cons]
    rcases Nat.lt_or_ge i v.cells.size with h' | h'
    · rw [List.getElem?_append_left (by simpa using h'), Nat.mod_eq_of_lt h']
    · rw [List.getElem?_append_right (by simpa using h')]
      simp only [Array.length_toList]
      rw [replicate_get v n (i - v.cells.size) (by rw [Nat.succ_mul] at h; omega)]
      congr 1
      exact (Nat.mod_eq_sub_mod h').symm

theorem repL_replicate {x : AV} {v : Value} (r : rep G x v) : ∀ n, repL G (List.replicate n x) (List.replicate n v)
  | 0 => by simp [repL]
  | n + 1 => by rw [List.replicate_succ, List.replicate_succ]; exact repL_cons.2 ⟨r, repL_replicate r n⟩

theorem makeSliceV_sound (ok : TabOk P T) (hi : Inv base w0 G σ w) {t : TypeId} {x y r : AV} {vx vy : Value} {σ' : St} {j : Nat} (h : makeSliceV T j t x y σ = some (r, σ')) (rx : rep G x vx) (ry : rep G y vy) :
    Makes P base w0 w G (Instr.makeSlice t vx vy) r σ' := by
  unfold makeSliceV at h
  split at h
  · rename_i e kn n kc c hu
    obtain ⟨td, h0, u0, h1⟩ := run_und ok hu
    have := TD.slice_inv h0; subst this
    simp only [rep] at rx ry; subst rx; subst ry
    split at h
    · rename_i te ag hte hag
      split at h
      · rename_i hc
        obtain ⟨c1, c2, c3, c4, c5, c6, c7, hfree⟩ := hc
        simp only [Option.some.injEq, Prod.mk.injEq] at h
        obtain ⟨rfl, rfl⟩ := h
        obtain ⟨ti, _, _, hby, hT, hS, z, _, hz, rz⟩ := run_inf ok hte
        have hzl := ok.zlen _ _ hte
        have hzs : z.cells.size = te.size := by have := (rz G).length; simpa [hzl] using this
        obtain ⟨N, rfl⟩ := Int.eq_ofNat_of_zero_le c2
        obtain ⟨C, rfl⟩ := Int.eq_ofNat_of_zero_le (Int.le_trans c2 c3)
        have hNC : N ≤ C := by omega
        -- the zero of an element
        have hzv : ∃ zv : Value, rep G (if ag then (.a (te.zero.map AV.strip0)) else (te.zero.headD .u).strip0) zv ∧ zv.cells = z.cells := by
          cases ag with
          | true => exact ⟨.agg z.cells, ⟨_, rfl, (rz G).strip0⟩, rfl⟩
          | false =>
            have h1s : te.size = 1 := c6.resolve_left (by simp)
            have hl := rz G
            cases hq : te.zero with
            | nil => rw [hq] at hzl; simp at hzl; omega
            | cons a as =>
              rw [hq] at hl c7 hzl
              obtain ⟨y, ys, e1, r1, r2⟩ := hl
              have : ys = [] := by
                have := r2.length
                simp at hzl
                have e2 : as = [] := by
                  cases as with
                  | nil => rfl
                  | cons b bs => simp at hzl; omega
                rw [e2] at this
                exact List.eq_nil_of_length_eq_zero (by simpa using this)
              subst this
              refine ⟨y, by simpa using r1.strip0, ?_⟩
              rw [(flat_cell c7 r1).1]
              apply Array.ext'
              simp [e1]
        obtain ⟨zv, rzv, hzc⟩ := hzv
        have hvs : zv.cells.size = te.size := by rw [hzc, hzs]
        let Z : List Value := ((Array.range (C * te.size)).map (fun i => z.cells[i % z.cells.size]!)).toList
        have hZlen : Z.length = C * te.size := by simp [Z]
        have hZget : ∀ i, i < C * te.size → Z[i]? = z.cells.toList[i % te.size]? := fun i hlt => by
          have hm : i % te.size < z.cells.size := by rw [hzs]; exact Nat.mod_lt _ (by omega)
          simp only [Z, Array.toList_map, List.getElem?_map, Array.toList_range, List.getElem?_range hlt, Option.map_some, hzs]
          rw [getElem!_pos z.cells _ hm]
          simp [hm]
        have hpre : cellsOf (List.replicate N zv) = Z.take (N * te.size) := by
          have hNle : N * te.size ≤ C * te.size := Nat.mul_le_mul_right _ hNC
          apply List.ext_getElem?
          intro i
          rcases Nat.lt_or_ge i (N * te.size) with hlt | hge
          · rw [replicate_get zv N i (by rw [hvs]; exact hlt), hvs, List.getElem?_take, if_pos hlt, hZget i (by omega), hzc]
          · rw [List.getElem?_eq_none (by rw [replicate_cells, hvs]; exact hge), List.getElem?_eq_none (by rw [List.length_take]; omega)]
        have hlen1 : (cellsOf (List.replicate N zv)).length = N * te.size := by rw [replicate_cells, hvs]
        have hr := hi.newRow hfree (vs := cellsOf (List.replicate N zv)) (rest := Z.drop (N * te.size)) (t := e) (n := N) (c := C) c1 hlen1 (by
          rw [hlen1, List.length_drop, hZlen]
          have : N * te.size ≤ C * te.size := Nat.mul_le_mul_right _ hNC
          omega) hNC
        obtain ⟨q1, q2, q3, q4⟩ := hr
        rw [hpre, List.take_append_drop] at q2
        rw [← hpre] at q2
        refine ⟨.slice (some ⟨w.heap.size, 0, none⟩) N C, _, _, ?_, q1, q2, ?_⟩
        · have hw1 : IntKind.i64.wrap (N : Int) = N := IntWalk.i64_in _ (by omega)
          have hw2 : IntKind.i64.wrap (C : Int) = C := IntWalk.i64_in _ (by omega)
          have hbb : ¬ ((te.bytes : Int) * (C : Int) > 2 ^ 48) := by
            have : (2 : Int) ^ 48 = 281474976710656 := by decide
            omega
          have hcn : ¬ ((C : Int) < 0) := by omega
          simp only [Instr.makeSlice, Sem.run_bind, h1, Result.andThen_ok, asInt, asIntOf, Sem.run_pure, hT, hS, hw1, hw2, hby]
          rw [if_neg (by
            have hn2 : ¬ ((N : Int) < 0) := by omega
            have hn3 : ¬ ((N : Int) > (C : Int)) := by omega
            simp only [hcn, hbb, hn2, hn3, decide_false, Bool.or_self, Bool.false_eq_true, not_false_eq_true])]
          simp only [Sem.run_bind, run_askRoom, Result.andThen_ok, hS, Int.toNat_natCast]
          by_cases h0 : C * te.size = 0
          · rw [if_pos h0]
            simp only [Sem.run_bind, Sem.run_pure, Result.andThen_ok, newRow, run_newObj]
            have : Z.toArray = #[] := by
              have : Z = [] := List.eq_nil_of_length_eq_zero (by rw [hZlen, h0])
              rw [this]
            rw [this, h0]
            simp [show Array.range 0 = #[] from rfl]
          · rw [if_neg h0]
            simp only [Sem.run_bind, Sem.run_pure, Result.andThen_ok, hz, newRow, run_newObj]
            rfl
        · have hrl := repL_replicate rzv N
          refine ⟨some ⟨w.heap.size, 0, none⟩, C, List.replicate N zv, by simp, by simpa using hNC, fun h => by simp [newTok] at h, fun _ => ⟨_, rfl, by rw [List.length_replicate]; exact q4⟩, by simpa using hrl.mono q1, ?_⟩
          right
          refine ⟨_, _, te.size, rfl, fun v hv => ?_, q3⟩
          rw [List.eq_of_mem_replicate hv, hvs]
      · simp at h
    · simp at h
  · simp at h

theorem growBy_le (n : Nat) : ∀ (r c : Nat), c < n → Builtin.growBy n r c ≤ 2 * n + 192
  | 0, c, h => by simp only [Builtin.growBy]; omega
  | r + 1, c, h => by
    simp only [Builtin.growBy]
    split
    · omega
    · rcases Nat.lt_or_ge (c + (c + 768) / 4) n with h' | h'
      · exact growBy_le n r _ h'
      · have : Builtin.growBy n r (c + (c + 768) / 4) = c + (c + 768) / 4 := by
          cases r with
          | zero => rfl
          | succ r => simp only [Builtin.growBy]; rw [if_pos h']
        rw [this]; omega

theorem nextcap_le {n c : Nat} (h : c < n) : Builtin.nextslicecap n c ≤ 2 * n + 192 := by
  unfold Builtin.nextslicecap
  split
  · omega
  · split
    · omega
    · exact growBy_le n 4 c h

theorem elems_rep {x : AV} {xs : List AV} {v : Value} (h : elemsV x = some xs) (rx : rep G x v) : ∃ us, repL G xs us ∧ (∀ w, (Builtin.lenOf v).run P w = .ok xs.length w) ∧
    (∀ sz, (∀ u ∈ us, u.cells.size = sz) → xs ≠ [] → Inv base w0 G σ w → ∀ w', (∀ b o c, G.mem b o = some c → w'.cell? ⟨b, o, none⟩ = some c) → (Builtin.firstCells sz xs.length v).run P w' = .ok (cellsOf us).toArray w') ∧
    (xs = [] → ∀ sz w', (Builtin.firstCells sz 0 v).run P w' = .ok #[] w') := by
  unfold elemsV at h
  split at h
  · rename_i es k
    simp only [Option.some.injEq] at h; subst h
    obtain ⟨A, c, vs, rfl, r1, r2, r3, r4, r5⟩ := rx
    refine ⟨vs, r4, fun w => rfl, fun sz hs hne _ w' hw' => ?_, fun he sz w' => ?_⟩
    · rcases r5 with r5 | ⟨b, o, sz', rfl, r6, r7⟩
      · exact absurd r5 hne
      · have hl := run_loadCells_list (P := P) w' ⟨b, o, none⟩ (cellsOf vs) (fun j u hj => by rw [add_plain]; exact hw' _ _ _ (r7 j u hj))
        rw [cellsOf_length hs, r4.length] at hl
        simpa [Builtin.firstCells] using hl
    · cases A with
      | none => rfl
      | some a => simpa [Builtin.firstCells] using run_loadCells_list (P := P) w' a [] (by simp)
  · rename_i l
    simp only [Option.some.injEq] at h; subst h
    simp only [rep] at rx; subst rx
    refine ⟨l.map fun c => .int .u8 (c.toNat : Int), ?_, fun w => ?_, fun sz hs hne _ w' hw' => ?_, fun he sz w' => ?_⟩
    · refine repL.of_get (by simp) fun j a b ha hb => ?_
      rw [List.getElem?_map] at ha hb
      cases hq : l[j]? with
      | none => simp [hq] at ha
      | some c => simp [hq] at ha hb; subst ha; subst hb; rfl
    · simp [Builtin.lenOf, ByteArray.size]
    · simp only [Builtin.firstCells, Sem.run_pure, List.length_map]
      congr 1
      have hc : cellsOf (l.map fun c => Value.int .u8 (c.toNat : Int)) = l.map fun c => Value.int .u8 (c.toNat : Int) := by
        have := cellsOf_ints .u8 (l.map fun c => (c.toNat : Int))
        simpa [List.map_map, Function.comp_def] using this
      rw [hc, ba_extract]
      apply Array.ext'
      simp
    · simp [Builtin.firstCells, ba_extract]
  · simp at h

theorem allSize_cells {sz : Nat} : ∀ {xs : List AV} {us : List Value}, repL G xs us → allSize sz xs = true → (∀ u ∈ us, u.cells.size = sz) ∧ (∀ c ∈ cellsOf us, c.oneCell' = true)
  | [], us, r, _ => by rw [repL_nil] at r; subst r; simp [cellsOf]
  | x :: xs, _, ⟨y, ys, e, r1, r2⟩, h => by
    subst e
    simp only [allSize, Bool.and_eq_true, beq_eq, decide_eq_true_eq] at h
    obtain ⟨h1, h2⟩ := allSize_cells r2 h.2
    refine ⟨fun u hu => ?_, fun c hc => ?_⟩
    · rcases List.mem_cons.1 hu with rfl | hu
      · rw [r1.cells_size]; exact h.1.1
      · exact h1 u hu
    · rw [cellsOf_cons] at hc
      rcases List.mem_append.1 hc with hc | hc
      · exact r1.cells.oneCell h.1.2 c hc
      · exact h2 c hc

theorem zeroCells_size (z : Array Value) (n : Nat) : (Builtin.zeroCells z n).size = n * z.size := by simp [Builtin.zeroCells]

/-- An append that makes a new row. -/
theorem append_new (hi : Inv base w0 G σ w) {j : Nat} (hfree : tokFree j σ = true) {e : TypeId} {es xs : List AV} {vs us : List Value} {sz : Nat} (hsz : sz ≠ 0) (rv : repL G es vs) (ru : repL G xs us) (hv : es = [] ∨ ∀ v ∈ vs, v.cells.size = sz) (hu : ∀ u ∈ us, u.cells.size = sz)
    {rest : List Value} {C : Nat} (hC : es.length + xs.length ≤ C) (hrest : rest.length = (C - (es.length + xs.length)) * sz) :
    ∃ G', G.le G' ∧ Inv base w0 G' (newTok j sz σ).2 (w.drew.alloc (.cells (cellsOf vs ++ cellsOf us ++ rest).toArray e)) ∧
      rep G' (.sl (es ++ xs.map AV.strip) (newTok j sz σ).1) (.slice (some ⟨w.heap.size, 0, none⟩) (es.length + xs.length) C) := by
  have hv' : ∀ v ∈ vs, v.cells.size = sz := by
    rcases hv with rfl | hv
    · rw [repL_nil] at rv; subst rv; simp
    · exact hv
  have hall : ∀ v ∈ vs ++ us, v.cells.size = sz := fun v h => by
    rcases List.mem_append.1 h with h | h
    · exact hv' v h
    · exact hu v h
  have hl1 := rv.length
  have hl2 := ru.length
  have hlen : (cellsOf (vs ++ us)).length = (es.length + xs.length) * sz := by rw [cellsOf_length hall, List.length_append, hl1, hl2]
  have hm : (es.length + xs.length) * sz ≤ C * sz := Nat.mul_le_mul_right _ hC
  obtain ⟨q1, q2, q3, q4⟩ := hi.drew.newRow hfree (vs := cellsOf (vs ++ us)) (rest := rest) (t := e) (n := es.length + xs.length) (c := C) hsz hlen (by rw [hlen, hrest, Nat.mul_sub_right_distrib] <;> omega) hC
  rw [cellsOf_append] at q2
  refine ⟨_, q1, by rw [← cellsOf_append] at q2 ⊢; exact q2, some ⟨w.heap.size, 0, none⟩, C, vs ++ us, by simp, by simpa using hC, fun h => by simp [newTok] at h, fun _ => ⟨_, rfl, by rw [List.length_append, List.length_map]; exact q4⟩, (rv.append ru.strip).mono q1, ?_⟩
  right
  exact ⟨_, _, sz, rfl, hall, q3⟩

theorem appV_sound (ok : TabOk P T) (hi : Inv base w0 G σ w) {t u : TypeId} {ty : TypeId} {s x r : AV} {vs vx : Value} {σ' : St} {ud : TD} (hud : T.und u = some ud) (hni : ∀ k, ud ≠ .int k) {j : Nat} (h : appV T j t s x σ = some (r, σ')) (rs : rep G s vs) (rx : rep G x vx) (more : Array TypeId) :
    ∀ (ats : Array TypeId) (args : Array Value), ats[0]? = some t → ats[1]? = some u → args[0]? = some vs → args[1]? = some vx → Makes P base w0 w G (Builtin.append_ ats ty args) r σ' := by
  intro ats args ha0 ha1 hb0 hb1
  unfold appV at h
  split at h
  · rename_i e hut
    obtain ⟨td, h0, u0, h1⟩ := run_und ok hut
    have := TD.slice_inv h0; subst this
    obtain ⟨tdu, hu0, _, hu1⟩ := run_und ok hud
    have hnz : (match tdu with | .int _ => true | _ => false) = false := by
      cases tdu <;> simp [TD.of] at hu0 ⊢
      exact hni _ hu0.symm
    split at h
    · rename_i te ag hte hag
      obtain ⟨ti, _, _, hby, hT, hS, z, _, hz, rz⟩ := run_inf ok hte
      have hzl := ok.zlen _ _ hte
      have hzs : z.cells.size = te.size := by have := (rz G).length; simpa [hzl] using this
      split at h
      · rename_i es k
        obtain ⟨A, c, evs, rfl, r1, r2, r3, r4, r5⟩ := rs
        have hstart : ∀ (F : Nat → Sem Value), True := fun _ => trivial
        split at h
        · -- nothing is appended
          rename_i hel
          simp only [Option.some.injEq, Prod.mk.injEq] at h
          obtain ⟨rfl, rfl⟩ := h
          obtain ⟨us, e1, e2, _, e4⟩ := elems_rep (base := base) (w0 := w0) (σ := σ) (w := w) (P := P) hel rx
          refine ⟨.slice A es.length c, w, G, ?_, .refl G, hi, A, c, evs, rfl, r1, r2, r3, r4, r5⟩
          have hx := e4 rfl te.size w
          unfold Builtin.append_
          simp only [ha0, ha1, hb0, hb1, Sem.run_bind, h1, Result.andThen_ok, hS, hu1, Sem.run_pure]
          have hl := e2 w
          simp only [List.length_nil] at hl
          cases tdu <;> simp only [Bool.true_eq_false] at hnz
          all_goals
            simp only [Bool.false_eq_true, if_false, Sem.run_bind, hl, Result.andThen_ok, Nat.add_zero, if_pos r1, Bool.not_false, if_true, hx]
            cases A with
            | none => rfl
            | some a => rfl
        · rename_i y ys hel
          split at h
          · rename_i hc
            obtain ⟨c1, c2, c3, c4, c5, hfree⟩ := hc
            obtain ⟨us, e1, e2, e3, _⟩ := elems_rep (base := base) (w0 := w0) (σ := σ) (w := w) (P := P) hel rx
            obtain ⟨hus, huc⟩ := allSize_cells e1 c3
            have hvs : es = [] ∨ ∀ v ∈ evs, v.cells.size = te.size := by
              rcases r5 with r5 | ⟨b, o, sz, _, r6, _⟩
              · exact .inl r5
              · cases es with
                | nil => exact .inl rfl
                | cons x1 xs1 =>
                  obtain ⟨v1, vs1, rfl, q1, q2⟩ := r4
                  have h3 := r6 v1 List.mem_cons_self
                  have h4 : x1.cells.length = te.size := by simpa [headSize, beq_eq] using c4
                  rw [q1.cells_size, h4] at h3
                  exact .inr (by rw [h3]; exact r6)
            have hcell : ∀ w', (∀ b o c, G.mem b o = some c → w'.cell? ⟨b, o, none⟩ = some c) → (Builtin.firstCells te.size (y :: ys).length vx).run P w' = .ok (cellsOf us).toArray w' := fun w' hw' => e3 te.size hus (by simp) hi w' hw'
            have hold : ∀ w', (∀ b o c, G.mem b o = some c → w'.cell? ⟨b, o, none⟩ = some c) → (Builtin.firstCells te.size es.length (.slice A es.length c)).run P w' = .ok (cellsOf evs).toArray w' := fun w' hw' => by
              have rs' : rep G (.sl es k) (.slice A es.length c) := ⟨A, c, evs, rfl, r1, r2, r3, r4, r5⟩
              rcases hvs with he | hvs
              · subst he
                rw [repL_nil] at r4; subst r4
                cases A with
                | none => rfl
                | some a => simpa [Builtin.firstCells, cellsOf] using run_loadCells_list (P := P) w' a [] (by simp)
              · rcases r5 with r5 | ⟨b, o, sz, rfl, r6, r7⟩
                · subst r5
                  rw [repL_nil] at r4; subst r4
                  cases A with
                  | none => rfl
                  | some a => simpa [Builtin.firstCells, cellsOf] using run_loadCells_list (P := P) w' a [] (by simp)
                · have hl := run_loadCells_list (P := P) w' ⟨b, o, none⟩ (cellsOf evs) (fun j u hj => by rw [add_plain]; exact hw' _ _ _ (r7 j u hj))
                  rw [cellsOf_length hvs, r4.length] at hl
                  simpa [Builtin.firstCells] using hl
            have hlx := e2 w
            -- what the machine does: a new row
            have hgrow : c < es.length + (y :: ys).length → ∃ C, es.length + (y :: ys).length ≤ C ∧ (Builtin.append_ ats ty args).run P w = .ok (.slice (some ⟨w.heap.size, 0, none⟩) (es.length + (y :: ys).length) C)
                (w.drew.alloc (.cells ((cellsOf evs).toArray ++ (cellsOf us).toArray ++ Builtin.zeroCells z.cells (C - (es.length + (y :: ys).length))) e)) := by
              intro hlt
              have hcut : es.length + (y :: ys).length ≤ Question.cut (.appendCap (es.length + (y :: ys).length) c e) (w.tape w.drawn (.appendCap (es.length + (y :: ys).length) c e)) := Nat.le_add_right _ _
              refine ⟨_, hcut, ?_⟩
              have hneed : ¬ (Builtin.nextslicecap (es.length + (y :: ys).length) c * ti.bytes > 2 ^ 48) := by
                have h1 := nextcap_le hlt
                have h2 : Builtin.nextslicecap (es.length + (y :: ys).length) c * ti.bytes ≤ (2 * (es.length + (y :: ys).length) + 192) * te.bytes := by rw [hby]; exact Nat.mul_le_mul_right _ h1
                have : (2 : Nat) ^ 48 = 281474976710656 := by decide
                omega
              have hmem : ∀ b o c, G.mem b o = some c → w.drew.cell? ⟨b, o, none⟩ = some c := fun b o c hm => hi.mem _ _ _ hm
              have ho := hold w.drew hmem
              have hn := hcell w.drew hmem
              have hb0' : ti.bytes ≠ 0 := by rw [hby]; exact c2
              unfold Builtin.append_
              simp only [ha0, ha1, hb0, hb1, Sem.run_bind, h1, Result.andThen_ok, hS, hu1, Sem.run_pure]
              cases tdu <;> simp only [Bool.true_eq_false] at hnz
              all_goals
                simp only [Bool.false_eq_true, if_false, Sem.run_bind, hlx, Result.andThen_ok, Nat.not_le.2 hlt, hT, hb0', or_self, and_false, hneed, Bool.not_false, if_true, run_choose, Question.forced, run_askRoom, World.drew_eq, ho, hn, hz, newRow, run_newObj, Sem.run_pure, World.alloc_eq, World.size_drew]
            have hnew : ∀ {σ1 : St}, tokFree j σ1 = true → Inv base w0 G σ1 w → c < es.length + (y :: ys).length → Makes P base w0 w G (Builtin.append_ ats ty args) (.sl (es ++ (y :: ys).map AV.strip) (newTok j te.size σ1).1) (newTok j te.size σ1).2 := by
              intro σ1 hfree1 hi1 hlt
              obtain ⟨C, g1, g2⟩ := hgrow hlt
              obtain ⟨G', q1, q2, q3⟩ := append_new hi1 hfree1 (e := e) c1 r4 e1 hvs hus (rest := (Builtin.zeroCells z.cells (C - (es.length + (y :: ys).length))).toList) (C := C) g1 (by simp [zeroCells_size, hzs])
              refine ⟨_, _, G', g2, q1, ?_, q3⟩
              have : (cellsOf evs ++ cellsOf us ++ (Builtin.zeroCells z.cells (C - (es.length + (y :: ys).length))).toList).toArray = (cellsOf evs).toArray ++ (cellsOf us).toArray ++ Builtin.zeroCells z.cells (C - (es.length + (y :: ys).length)) := by
                apply Array.ext'; simp
              rw [this] at q2
              exact q2
            split at h
            · simp at h
            · simp only [Option.some.injEq, Prod.mk.injEq] at h
              obtain ⟨rfl, rfl⟩ := h
              obtain ⟨rfl, rfl⟩ := r2 rfl
              exact hnew hfree hi (by rw [List.length_cons]; omega)
            · rename_i k
              split at h
              · rename_i sz htk
                split at h
                · rename_i hsz
                  subst hsz
                  simp only [Option.some.injEq, Prod.mk.injEq] at h
                  obtain ⟨rfl, rfl⟩ := h
                  rcases Nat.lt_or_ge c (es.length + (y :: ys).length) with hlt | hle
                  · refine hnew ?_ (hi.spend _ htk) hlt
                    have hne : σ.nb + j + 2 ≠ k + 2 := fun e => by have h1 := tok_none hfree; rw [e, htk] at h1; cases h1
                    unfold tokFree
                    simp only [Tr.get_set, if_neg hne, tok_none hfree]
                  · obtain ⟨a, rfl, hτ⟩ := r3 (by omega)
                    have hul : (cellsOf us).length = (y :: ys).length * te.size := by rw [cellsOf_length hus, e1.length]
                    obtain ⟨_, _, _, t1, t2, _⟩ := hi.tok _ _ htk c1
                    rw [hτ] at t1
                    simp only [Option.some.injEq, Prod.mk.injEq] at t1
                    obtain ⟨rfl, rfl, rfl⟩ := t1
                    obtain ⟨b, o, spot⟩ := a
                    simp only at t2
                    subst t2
                    obtain ⟨q1, q2, q3, q4, q5, q6⟩ := hi.grow hfree (m := (y :: ys).length) htk c1 hτ hul hle
                    refine ⟨.slice (some ⟨b, o, none⟩) (es.length + (y :: ys).length) c, _, _, ?_, q1, q2, ?_⟩
                    · have hst := run_storeCells_cells (P := P) b (o + es.length * te.size) (cellsOf us) 0 w (by simpa using q5) (by simpa using q6) huc
                      rw [Nat.add_zero] at hst
                      have hn := hcell w (fun b o c hm => hi.mem _ _ _ hm)
                      unfold Builtin.append_
                      simp only [ha0, ha1, hb0, hb1, Sem.run_bind, h1, Result.andThen_ok, hS, hu1, Sem.run_pure]
                      cases tdu <;> simp only [Bool.true_eq_false] at hnz
                      all_goals
                        simp only [Bool.false_eq_true, if_false, Sem.run_bind, hlx, Result.andThen_ok, if_pos hle, Bool.not_false, if_true, hn, add_plain, hst, Sem.run_pure]
                    · refine ⟨some ⟨b, o, none⟩, c, evs ++ us, by simp, by simpa using hle, fun h => by simp [newTok] at h, fun _ => ⟨_, rfl, by rw [List.length_append, List.length_map]; exact q4⟩, (r4.append e1.strip).mono q1, ?_⟩
                      right
                      have hall : ∀ v ∈ evs ++ us, v.cells.size = te.size := fun v hv => by
                        rcases List.mem_append.1 hv with hv | hv
                        · rcases hvs with hvs | hvs
                          · subst hvs; rw [repL_nil] at r4; subst r4; simp at hv
                          · exact hvs v hv
                        · exact hus v hv
                      refine ⟨b, o, te.size, rfl, hall, fun j v hj => ?_⟩
                      rw [cellsOf_append] at hj
                      have hel : (cellsOf evs).length = es.length * te.size := by
                        rcases hvs with hvs | hvs
                        · subst hvs; rw [repL_nil] at r4; subst r4; simp [cellsOf]
                        · rw [cellsOf_length hvs, r4.length]
                      rcases Nat.lt_or_ge j (cellsOf evs).length with hj1 | hj1
                      · rw [List.getElem?_append_left hj1] at hj
                        rcases r5 with r5 | ⟨b', o', sz', e5, r6, r7⟩
                        · subst r5; rw [hel] at hj1; simp at hj1
                        · simp only [Option.some.injEq, Addr.mk.injEq, and_true] at e5
                          obtain ⟨rfl, rfl⟩ := e5
                          exact q1.mem _ _ _ (r7 j v hj)
                      · rw [List.getElem?_append_right hj1, hel] at hj
                        have := q3 _ _ hj
                        rw [hel] at hj1
                        rwa [show o + es.length * te.size + (j - es.length * te.size) = o + j by omega] at this
                · simp at h
              · simp at h
          · simp at h
        · simp at h
      · simp at h
    · simp at h
  · simp at h
end
end Go.Pv

namespace Go.Pv
open Go Go.RowKit
set_option linter.unusedVariables false
set_option linter.unusedSimpArgs false

section
variable {P : Program} {T : Tab} {w : World} {G : Gh} {base : Nat} {w0 : World} {σ : St}

theorem pureV_some {o : Option AV} {σ σ' : St} {r : AV} (h : pureV o σ = some (r, σ')) : o = some r ∧ σ' = σ := by
  unfold pureV at h
  split at h
  · simp only [Option.some.injEq, Prod.mk.injEq] at h; exact ⟨by rw [h.1], h.2.symm⟩
  · simp at h

theorem lenV_sound (ok : TabOk P T) {t ty : TypeId} {x : AV} {v : Value} {r : AV} {ats : Array TypeId} {args : Array Value} (ha : ats[0]? = some t) (hb : args[0]? = some v) (rx : rep G x v)
    (h : lenV T t x = some r) : Yields P w G (Builtin.len_ ats ty args) r := by
  unfold lenV at h
  split at h
  · rename_i e es k hu
    obtain ⟨td, h0, _, h1⟩ := run_und ok hu
    have := TD.slice_inv h0; subst this
    obtain ⟨A, c, vs, rfl, _⟩ := rx
    simp only [Option.some.injEq] at h; subst h
    exact ⟨.int .i64 es.length, by simp [Builtin.len_, ha, hb, h1, goInt], rfl⟩
  · rename_i l hu
    obtain ⟨td, h0, _, h1⟩ := run_und ok hu
    have := TD.string_inv h0; subst this
    simp only [rep] at rx; subst rx
    simp only [Option.some.injEq] at h; subst h
    have hsz : (⟨l.toArray⟩ : ByteArray).size = l.length := by simp [ByteArray.size]
    exact ⟨.int .i64 l.length, by simp [Builtin.len_, ha, hb, h1, goInt, hsz], rfl⟩
  · rename_i n e hu
    obtain ⟨td, h0, _, h1⟩ := run_und ok hu
    have := TD.array_inv h0; subst this
    simp only [Option.some.injEq] at h; subst h
    exact ⟨.int .i64 n, by simp [Builtin.len_, ha, hb, h1, goInt], rfl⟩
  · simp at h

theorem maxV_sound : ∀ {xs : List AV} {vs : List Value} {x r : AV} {v : Value}, maxV x xs = some r → rep G x v → repL G xs vs → ∃ u, (vs.foldlM Builtin.max2 v).run P w = .ok u w ∧ rep G r u
  | [], vs, x, r, v, h, rx, rl => by
    rw [repL_nil] at rl; subst rl
    have : r = x := by cases x <;> simp [maxV] at h <;> exact h.symm
    subst this
    exact ⟨v, rfl, rx⟩
  | y :: ys, _, x, r, v, h, rx, ⟨z, zs, e, r1, r2⟩ => by
    subst e
    cases x <;> try (simp [maxV] at h; done)
    rename_i k n
    cases y <;> try (simp [maxV] at h; done)
    rename_i k' m
    simp only [rep] at rx r1; subst rx; subst r1
    simp only [maxV] at h
    obtain ⟨u, h1, h2⟩ := maxV_sound (v := .int k (if m > n then m else n)) h rfl r2
    exact ⟨u, by simpa [Builtin.max2] using h1, h2⟩

theorem minV_sound : ∀ {xs : List AV} {vs : List Value} {x r : AV} {v : Value}, minV x xs = some r → rep G x v → repL G xs vs → ∃ u, (vs.foldlM Builtin.min2 v).run P w = .ok u w ∧ rep G r u
  | [], vs, x, r, v, h, rx, rl => by
    rw [repL_nil] at rl; subst rl
    have : r = x := by cases x <;> simp [minV] at h <;> exact h.symm
    subst this
    exact ⟨v, rfl, rx⟩
  | y :: ys, _, x, r, v, h, rx, ⟨z, zs, e, r1, r2⟩ => by
    subst e
    cases x <;> try (simp [minV] at h; done)
    rename_i k n
    cases y <;> try (simp [minV] at h; done)
    rename_i k' m
    simp only [rep] at rx r1; subst rx; subst r1
    simp only [minV] at h
    obtain ⟨u, h1, h2⟩ := minV_sound (v := .int k (if m < n then m else n)) h rfl r2
    exact ⟨u, by simpa [Builtin.min2] using h1, h2⟩

theorem toList_get {α : Type} {l : Array α} {x : α} {xs : List α} (h : l.toList = x :: xs) : l[0]? = some x := by
  have : l.toList[0]? = some x := by rw [h]; rfl
  simpa using this
theorem toList_get1 {α : Type} {l : Array α} {x y : α} {xs : List α} (h : l.toList = x :: y :: xs) : l[1]? = some y := by
  have : l.toList[1]? = some y := by rw [h]; rfl
  simpa using this

theorem bltV_sound (ok : TabOk P T) (hi : Inv base w0 G σ w) {b : Builtin} {ats : Array TypeId} {ty : TypeId} {vs : List AV} {us : Array Value} {r : AV} {σ' : St} {consts : Array Bool} {j : Nat}
    (h : bltV T j b ats.toList vs σ = some (r, σ')) (rl : repL G vs us.toList) : ∃ v w' G', (builtin b ats ty consts us).run P w = .ok (.value v) w' ∧ G.le G' ∧ Inv base w0 G' σ' w' ∧ rep G' r v := by
  have fin : ∀ {s : Sem Value}, builtin b ats ty consts us = (do pure (.value (← s))) → Makes P base w0 w G s r σ' → ∃ v w' G', (builtin b ats ty consts us).run P w = .ok (.value v) w' ∧ G.le G' ∧ Inv base w0 G' σ' w' ∧ rep G' r v := by
    intro s he ⟨v, w', G', h1, h2⟩
    exact ⟨v, w', G', by rw [he]; simp [h1], h2⟩
  unfold bltV at h
  split at h
  · rename_i t ts x xs hts
    obtain ⟨v, us', hus, r1, r2⟩ := rl
    obtain ⟨h1, rfl⟩ := pureV_some h
    exact fin rfl ((lenV_sound (P := P) (w := w) (ty := ty) ok (toList_get hts) (toList_get hus) r1 h1).makes hi)
  · rename_i t u ts s x xs hts
    obtain ⟨v, us', hus, r1, v2, us2, e, r2, r3⟩ := rl
    subst e
    split at h
    · simp at h
    · rename_i ud hn hud
      exact fin rfl (appV_sound ok hi hud (fun k hk => hn k hk) h r1 r2 #[] ats us (toList_get hts) (toList_get1 hts) (toList_get hus) (toList_get1 hus))
    · simp at h
  · rename_i x xs
    obtain ⟨v, us', hus, r1, r2⟩ := rl
    split at h
    · rename_i k n y hm
      simp only [Option.some.injEq, Prod.mk.injEq] at h
      obtain ⟨rfl, rfl⟩ := h
      obtain ⟨u, h1, h2⟩ := maxV_sound (P := P) (w := w) hm r1 r2
      exact fin rfl ⟨u, w, G, by simp [Builtin.max_, hus, h1], .refl G, hi, h2⟩
    · simp at h
  · rename_i x xs
    obtain ⟨v, us', hus, r1, r2⟩ := rl
    split at h
    · rename_i k n y hm
      simp only [Option.some.injEq, Prod.mk.injEq] at h
      obtain ⟨rfl, rfl⟩ := h
      obtain ⟨u, h1, h2⟩ := minV_sound (P := P) (w := w) hm r1 r2
      exact fin rfl ⟨u, w, G, by simp [Builtin.min_, hus, h1], .refl G, hi, h2⟩
    · simp at h
  · simp at h

/-- What is asked of the functions that are given by a law of their own. -/
def PrimOk (P : Program) (pr : FuncId → Option (List AV → Option AV)) (base : Nat) (w0 : World) : Prop :=
  ∀ f p vs r, pr f = some p → p vs = some r → (∃ fn, P.funcs[f]? = some fn ∧ fn.name ≠ "runtime.NumGoroutine" ∧ fn.body.isSome = true) ∧
    ∀ G σ w us, Inv base w0 G σ w → repL G vs us → Calls P f us.toArray w fun e w' => ∃ v G', e = .returned v ∧ G.le G' ∧ Inv base w0 G' σ w' ∧ rep G' r v

/-- The same of those that make a row, with a new token. -/
def RowOk (P : Program) (pr : FuncId → Option (List AV → Option (List AV × Nat))) (base : Nat) (w0 : World) : Prop :=
  ∀ f p vs es sz, pr f = some p → p vs = some (es, sz) → (∃ fn, P.funcs[f]? = some fn ∧ fn.name ≠ "runtime.NumGoroutine" ∧ fn.body.isSome = true) ∧
    ∀ j G σ w us, tokFree j σ = true → Inv base w0 G σ w → repL G vs us → Calls P f us.toArray w fun e w' => ∃ v G', e = .returned v ∧ G.le G' ∧ Inv base w0 G' (newTok j sz σ).2 w' ∧ rep G' (rowR es (newTok j sz σ).1 sz) v

theorem rowV_some {j : Nat} {o : Option (List AV × Nat)} {σ σ' : St} {r : AV} (h : rowV j o σ = some (r, σ')) : ∃ es sz, o = some (es, sz) ∧ tokFree j σ = true ∧ r = rowR es (newTok j sz σ).1 sz ∧ σ' = (newTok j sz σ).2 := by
  unfold rowV at h
  split at h
  · rename_i es sz
    split at h
    · rename_i hc
      simp only [Option.some.injEq, Prod.mk.injEq] at h
      exact ⟨es, sz, rfl, hc, h.1.symm, h.2.symm⟩
    · simp at h
  · simp at h

/-- What is asked of the calls. -/
def KOk (P : Program) (base : Nat) (w0 : World) (K : CallK) : Prop :=
  ∀ f vs σ r σ', K f vs σ = some (r, σ') → (∃ fn, P.funcs[f]? = some fn ∧ fn.name ≠ "runtime.NumGoroutine" ∧ fn.body.isSome = true) ∧
    ∀ G w us, Inv base w0 G σ w → repL G vs us → Calls P f us.toArray w fun e w' => ∃ v G', e = .returned v ∧ G.le G' ∧ Inv base w0 G' σ' w' ∧ rep G' r v

def OpOk (P : Program) (base : Nat) (w0 w : World) (G : Gh) (o : Oper) (a : Act) (r : AV) (σ' : St) : Prop :=
  ∀ (next : Act → World → Prop) (Q : Exit → Act → World → Prop), (∀ v G' w', G.le G' → Inv base w0 G' σ' w' → rep G' r v → next (a.put o.dst v) w') → o.wp P a w next Q

theorem OpOk.of_makes {o : Oper} {a : Act} {s : Sem Value} {r : AV} {σ' : St} (he : execOp a.eval o = (do pure (.value (← s)))) (h : Makes P base w0 w G s r σ') : OpOk P base w0 w G o a r σ' := by
  intro next Q hn
  obtain ⟨v, w', G', h1, h2, h3, h4⟩ := h
  unfold Oper.wp
  rw [he]
  simp only [Sem.run_bind, h1, Result.andThen_ok, Sem.run_pure, Oper.upon]
  exact hn v G' w' h2 h3 h4

theorem OpOk.of_value {o : Oper} {a : Act} {v : Value} {r : AV} {σ' : St} (he : execOp a.eval o = pure (.value v)) (hi : Inv base w0 G σ' w) (h : rep G r v) : OpOk P base w0 w G o a r σ' :=
  OpOk.of_makes (s := pure v) (by rw [he]; rfl) ⟨v, w, G, rfl, .refl G, hi, h⟩

theorem repL_array {vs : List AV} {xs : Array Operand} {a : Act} (h : repL G vs (xs.toList.map a.eval)) : repL G vs (xs.map a.eval).toList := by simpa using h

theorem evalOp_sound (ok : TabOk P T) {K : CallK} (hK : KOk P base w0 K) {N : Nat} {o : Oper} {ρ : Nat → AV} {a : Act} {r : AV} {σ' : St} {n j : Nat} (pok : PrimOk P (primK T K) base w0) (rok : RowOk P (rowK T K) base w0) (h : evalOp T K n j o ρ σ = some (r, σ')) (hf : FR N G ρ a) (hi : Inv base w0 G σ w) : OpOk P base w0 w G o a r σ' := by
  unfold evalOp at h
  split at h
  · rename_i x ho
    obtain ⟨h1, rfl⟩ := pureV_some h
    exact OpOk.of_value (by simp only [execOp, ho]) hi (opd_rep hf h1)
  · rename_i x ho
    obtain ⟨h1, rfl⟩ := pureV_some h
    exact OpOk.of_value (by simp only [execOp, ho]) hi (opd_rep hf h1)
  · rename_i c x y ho
    split at h
    · rename_i hc
      obtain ⟨h1, rfl⟩ := pureV_some h
      have rc := opd_rep hf hc
      simp only [rep] at rc
      exact OpOk.of_makes (s := do pure (if ← asBool (a.eval c) then a.eval x else a.eval y)) (by simp only [execOp, ho]; simp) ⟨a.eval x, w, G, by simp [rc, asBool], .refl G, hi, opd_rep hf h1⟩
    · rename_i hc
      obtain ⟨h1, rfl⟩ := pureV_some h
      have rc := opd_rep hf hc
      simp only [rep] at rc
      exact OpOk.of_makes (s := do pure (if ← asBool (a.eval c) then a.eval x else a.eval y)) (by simp only [execOp, ho]; simp) ⟨a.eval y, w, G, by simp [rc, asBool], .refl G, hi, opd_rep hf h1⟩
    · simp at h
  · rename_i t ho
    split at h
    · rename_i ti hti
      split at h
      · rename_i hfree
        simp only [Option.some.injEq] at h
        obtain ⟨_, _, _, _, _, _, z, _, hz, rz⟩ := run_inf ok hti
        have hb := hi.newBox hfree (rz G) t
        rw [h] at hb
        obtain ⟨q1, q2, q3⟩ := hb
        exact OpOk.of_makes (s := Instr.alloc t true (.tuple #[])) (by simp only [execOp, ho]) ⟨_, _, _, by simp [Instr.alloc, hz, newVar, newRow], q1, q2, q3⟩
      · simp at h
    · simp at h
  · rename_i t x ho
    split at h
    · rename_i v hv
      split at h
      · rename_i hfl
        simp only [Option.some.injEq] at h
        have hb := hi.newBox hfl.2 (opd_rep hf hv).cells t
        rw [h] at hb
        obtain ⟨q1, q2, q3⟩ := hb
        exact OpOk.of_makes (s := Instr.box t (a.eval x)) (by simp only [execOp, ho]) ⟨_, _, _, by simp [Instr.box, newVar, newRow], q1, q2, q3⟩
      · simp at h
    · simp at h
  · rename_i t ps ho
    split at h
    · rename_i l hl
      obtain ⟨h1, rfl⟩ := pureV_some h
      have hb := buildV_sound (w := w) ok h1 (parts_rep hf hl)
      refine OpOk.of_makes (s := Instr.build t (ps.map fun (x : Nat × Operand) => (x.1, a.eval x.2))) (by simp only [execOp, ho]) (Yields.makes ?_ hi)
      have e : (ps.map fun (x : Nat × Operand) => (x.1, a.eval x.2)) = (ps.toList.map fun x => (x.1, a.eval x.2)).toArray := by apply Array.ext'; simp
      rw [e]; exact hb
    · simp at h
  · rename_i t n ps ho
    split at h
    · rename_i l hl
      have hb := buildSliceV_sound ok hi h (parts_rep hf hl)
      refine OpOk.of_makes (s := Instr.buildSlice t n (ps.map fun (x : Nat × Operand) => (x.1, a.eval x.2))) (by simp only [execOp, ho]) ?_
      have e : (ps.map fun (x : Nat × Operand) => (x.1, a.eval x.2)) = (ps.toList.map fun x => (x.1, a.eval x.2)).toArray := by apply Array.ext'; simp
      rw [e]; exact hb
    · simp at h
  · rename_i t x ho
    split at h
    · rename_i v hv
      obtain ⟨h1, rfl⟩ := pureV_some h
      exact OpOk.of_makes (by simp only [execOp, ho]) ((loadV_sound ok hi h1 (opd_rep hf hv)).makes hi)
    · simp at h
  · rename_i t x y ho
    split at h
    · rename_i v u hv hu
      split at h
      · rename_i σ1 hs
        simp only [Option.some.injEq, Prod.mk.injEq] at h
        obtain ⟨rfl, rfl⟩ := h
        obtain ⟨w', h1, h2⟩ := storeV_sound ok hi hs (opd_rep hf hv) (opd_rep hf hu)
        intro next Q hn
        unfold Oper.wp
        simp only [execOp, ho, Sem.run_bind, h1, Result.andThen_ok, Sem.run_pure, Oper.upon]
        exact hn _ G w' (.refl G) h2 (rep_undef G)
      · simp at h
    · simp at h
  · rename_i x ho
    split at h
    · rename_i l q hv
      simp only [Option.some.injEq, Prod.mk.injEq] at h
      obtain ⟨rfl, rfl⟩ := h
      have rv := opd_rep hf hv
      have rv' := rv
      obtain ⟨B, _, e⟩ := rv'
      exact OpOk.of_value (v := a.eval x) (by simp only [execOp, ho, e]) hi rv
    · rename_i cs hv
      simp only [Option.some.injEq, Prod.mk.injEq] at h
      obtain ⟨rfl, rfl⟩ := h
      have rv := opd_rep hf hv
      have rv' := rv
      obtain ⟨b, q, l, e, _⟩ := rv'
      exact OpOk.of_value (v := a.eval x) (by simp only [execOp, ho, e]) hi rv
    · rename_i fn cs hv
      simp only [Option.some.injEq, Prod.mk.injEq] at h
      obtain ⟨rfl, rfl⟩ := h
      have rv := opd_rep hf hv
      have rv' := rv
      obtain ⟨l, e, _⟩ := rv'
      exact OpOk.of_value (v := a.eval x) (by simp only [execOp, ho, e]) hi rv
    · simp at h
  · rename_i op xt x y yt ho
    split at h
    · rename_i v u hv hu
      obtain ⟨h1, rfl⟩ := pureV_some h
      exact OpOk.of_makes (by simp only [execOp, ho]) ((binV_sound ok h1 (opd_rep hf hv) (opd_rep hf hu)).makes hi)
    · simp at h
  · rename_i op xt x ho
    split at h
    · rename_i v hv
      obtain ⟨h1, rfl⟩ := pureV_some h
      exact OpOk.of_makes (by simp only [execOp, ho]) ((unV_sound h1 (opd_rep hf hv)).makes hi)
    · simp at h
  · rename_i s d x ho
    split at h
    · rename_i v hv
      obtain ⟨h1, rfl⟩ := pureV_some h
      exact OpOk.of_makes (by simp only [execOp, ho]) ((convV_sound ok hi h1 (opd_rep hf hv)).makes hi)
    · simp at h
  · rename_i t x ho
    split at h
    · simp at h
    · rename_i v d hne hv hd
      simp only [Option.some.injEq, Prod.mk.injEq] at h
      obtain ⟨rfl, rfl⟩ := h
      obtain ⟨td, h0, _, h1⟩ := run_und ok hd
      refine OpOk.of_makes (s := Instr.makeInterface t (a.eval x)) (by simp only [execOp, ho]) ⟨.iface t (a.eval x), w, G, ?_, .refl G, hi, _, rfl, opd_rep hf hv⟩
      cases td <;> first
        | (simp [Instr.makeInterface, h1]; done)
        | (simp only [TD.of] at h0; exact absurd h0.symm hne)
    · simp at h
  · rename_i f cs ho
    split at h
    · rename_i vs hv
      simp only [Option.some.injEq, Prod.mk.injEq] at h
      obtain ⟨rfl, rfl⟩ := h
      exact OpOk.of_makes (s := Instr.makeFunc (.func f) (Array.map a.eval ⟨[]⟩) (cs.map a.eval)) (by simp only [execOp, ho]) ⟨_, w, G, rfl, .refl G, hi, cs.map a.eval, by simp, repL_array (opds_rep hf hv)⟩
    · simp at h
  · rename_i t n c ho
    split at h
    · rename_i v u hv hu
      exact OpOk.of_makes (by simp only [execOp, ho]) (makeSliceV_sound ok hi h (opd_rep hf hv) (opd_rep hf hu))
    · simp at h
  · rename_i t x lo hi' ho
    have hopt : ∀ {q : Option Operand} {l : Option AV}, optOpd ρ q = some l → repO G l (q.map a.eval) := by
      intro q l hq
      cases q with
      | none => simp [optOpd] at hq; subst hq; rfl
      | some x =>
        simp only [optOpd] at hq
        split at hq
        · rename_i v hv
          simp only [Option.some.injEq] at hq; subst hq
          exact ⟨_, rfl, opd_rep hf hv⟩
        · simp at hq
    split at h
    · rename_i v l u hv hl hu
      obtain ⟨h1, rfl⟩ := pureV_some h
      exact OpOk.of_makes (s := Instr.sliceAt t (a.eval x) (lo.map a.eval) (hi'.map a.eval) none) (by simp only [execOp, ho, Option.map_none]) ((sliceV_sound ok h1 (opd_rep hf hv) (hopt hl) (hopt hu)).makes hi)
    · simp at h
  · rename_i t x j ho
    split at h
    · rename_i v hv
      obtain ⟨h1, rfl⟩ := pureV_some h
      exact OpOk.of_makes (by simp only [execOp, ho]) ((fieldAddrV_sound ok h1 (opd_rep hf hv)).makes hi)
    · simp at h
  · rename_i t x j ho
    split at h
    · rename_i v hv
      obtain ⟨h1, rfl⟩ := pureV_some h
      exact OpOk.of_makes (by simp only [execOp, ho]) ((fieldV_sound ok h1 (opd_rep hf hv)).makes hi)
    · simp at h
  · rename_i t x ix ho
    split at h
    · rename_i v u hv hu
      obtain ⟨h1, rfl⟩ := pureV_some h
      exact OpOk.of_makes (by simp only [execOp, ho]) ((idxAddrV_sound ok h1 (opd_rep hf hv) (opd_rep hf hu)).makes hi)
    · simp at h
  · rename_i t x ix ho
    split at h
    · rename_i v u hv hu
      obtain ⟨h1, rfl⟩ := pureV_some h
      exact OpOk.of_makes (by simp only [execOp, ho]) ((idxV_sound ok h1 (opd_rep hf hv) (opd_rep hf hu)).makes hi)
    · simp at h
  · rename_i x j ho
    split at h
    · rename_i vs hv
      obtain ⟨h1, rfl⟩ := pureV_some h
      obtain ⟨l, e, rl⟩ := opd_rep hf hv
      obtain ⟨u, hu, ru⟩ := rl.get h1
      have hu' : l[j]? = some u := by simpa using hu
      exact OpOk.of_makes (s := Instr.extract (a.eval x) j) (by simp only [execOp, ho]) ⟨u, w, G, by simp [Instr.extract, e, hu'], .refl G, hi, ru⟩
    · simp at h
  · rename_i c ho
    split at h
    · rename_i vs hv
      have rl := repL_array (opds_rep hf hv)
      split at h
      · rename_i b hb
        obtain ⟨v, w', G', h1, h2, h3, h4⟩ := bltV_sound (ty := o.type) (consts := c.args.map fun | .const _ => true | _ => false) ok hi h rl
        intro next Q hn
        unfold Oper.wp
        simp only [execOp, ho, resolve, hb, Sem.run_bind, Sem.run_pure, Result.andThen_ok, invoke]
        erw [h1]
        exact hn v G' w' h2 h3 h4
      · rename_i fo hc
        split at h
        · rename_i fn cs hfo
          obtain ⟨l, e, rc⟩ := opd_rep hf hfo
          have hboth : (∃ fd, P.funcs[fn]? = some fd ∧ fd.name ≠ "runtime.NumGoroutine" ∧ fd.body.isSome = true) ∧ Calls P fn ((c.args.map a.eval).toList ++ l.toList).toArray w fun e w' => ∃ v G', e = .returned v ∧ G.le G' ∧ Inv base w0 G' σ' w' ∧ rep G' r v := by
            split at h
            · rename_i p hp
              obtain ⟨es, sz, h1, h3, rfl, rfl⟩ := rowV_some h
              obtain ⟨k1, k2⟩ := rok fn p _ es sz hp h1
              exact ⟨k1, k2 j G _ w _ h3 hi (rl.append rc)⟩
            split at h
            · rename_i p hp
              obtain ⟨h1, rfl⟩ := pureV_some h
              obtain ⟨k1, k2⟩ := pok fn p _ r hp h1
              exact ⟨k1, k2 G _ w _ hi (rl.append rc)⟩
            · obtain ⟨k1, k4⟩ := hK _ _ _ _ _ h
              exact ⟨k1, k4 G w _ (hi.bump _) (rl.append rc)⟩
          obtain ⟨⟨fd, k1, k2, k3⟩, hcall⟩ := hboth
          intro next Q hn
          unfold Oper.wp
          have k3' : fd.body.isNone = false := by cases hq : fd.body <;> simp_all
          have k2' : (fd.name == "runtime.NumGoroutine") = false := by simpa using k2
          simp only [execOp, ho, resolve, hc, e, Deferred.ofValue, Sem.run_bind, Sem.run_pure, Result.andThen_ok, invoke, callFunc, run_program, k1, k2', k3', Bool.false_eq_true, if_false, Oper.upon]
          have ea : ((c.args.map a.eval).toList ++ l.toList).toArray = #[] ++ c.args.map a.eval ++ l := by apply Array.ext'; simp
          rw [← ea]
          exact hcall.mono fun e w' ⟨v, G', h1, h2, h3, h4⟩ => by subst h1; exact hn v G' w' h2 h3 h4
        · simp at h
      · simp at h
    · simp at h
  · simp at h
end
end Go.Pv

namespace Go.Pv
open Go Go.RowKit
set_option linter.unusedVariables false
set_option linter.unusedSimpArgs false

def okDst (N : Nat) (o : Oper) : Bool := match o.dst with | some d => Nat.blt d N | none => true
def okOps (N : Nat) (ops : Array Oper) : Bool := ops.toList.all (okDst N)

def okCode (T : Tab) (N : Nat) : Code → Bool
  | .region _ ops draw => okOps N ops && (!draw || hasStore ops || okDraw T ops)
  | .seq a b => okCode T N a && okCode T N b
  | .cond _ a b => okCode T N a && okCode T N b
  | .block _ b => okCode T N b
  | .loop b => okCode T N b
  | _ => true

def okFn (T : Tab) (fn : Func) : Bool := match fn.body with | some c => okCode T fn.ntmps c | none => true

section
variable {P : Program} {T : Tab} {w : World} {G : Gh} {base : Nat} {w0 : World} {σ : St} {K : CallK} {ops : Array Oper}

def stepV (T : Tab) (K : CallK) (ops : Array Oper) (j : Nat) (o : Oper) (ρ : Nat → AV) (σ : St) : Option ((Nat → AV) × St) :=
  match wantV ops o ρ with
  | true => match evalOp T K ops.size j o ρ σ with
    | some (v, σ') => some (updO ρ o.dst v, σ')
    | none => none
  | false => some (updO ρ o.dst .u, σ)

def stepsV (T : Tab) (K : CallK) (ops : Array Oper) : List (Nat × Oper) → (Nat → AV) → St → Option ((Nat → AV) × St)
  | [], ρ, σ => some (ρ, σ)
  | (j, o) :: rest, ρ, σ => match stepV T K ops j o ρ σ with
    | some (ρ', σ') => stepsV T K ops rest ρ' σ'
    | none => none

/-- Operations with their places. -/
def placed : Nat → List Oper → List (Nat × Oper)
  | _, [] => []
  | j, o :: os => (j, o) :: placed (j + 1) os

theorem evalOps_steps : ∀ {rest : List Oper} {j : Nat} {fr fr' : Fr} {σ σ' : St}, evalOps T K ops ops.size j rest fr σ = some (fr', σ') → ∃ σ1, stepsV T K ops (placed j rest) fr.rd σ = some (fr'.rd, σ1) ∧ σ' = σ1.bump ops.size
  | [], j, fr, fr', σ, σ', h => by
    simp only [evalOps, Option.some.injEq, Prod.mk.injEq] at h
    obtain ⟨rfl, rfl⟩ := h
    exact ⟨σ, rfl, rfl⟩
  | o :: rest, j, fr, fr', σ, σ', h => by
    simp only [evalOps] at h
    simp only [placed, stepsV, stepV]
    split at h
    · rename_i hw
      rw [hw]
      split at h
      · rename_i v σ1 he
        rw [he]
        split at h
        · rename_i d hd
          obtain ⟨σ2, h1, h2⟩ := evalOps_steps h
          rw [Fr.rd_set] at h1
          exact ⟨σ2, by simpa [hd, updO] using h1, h2⟩
        · rename_i hd
          obtain ⟨σ2, h1, h2⟩ := evalOps_steps h
          exact ⟨σ2, by simpa [hd, updO] using h1, h2⟩
      · simp at h
    · rename_i hw
      rw [hw]
      split at h
      · rename_i d hd
        obtain ⟨σ2, h1, h2⟩ := evalOps_steps h
        rw [Fr.rd_set] at h1
        exact ⟨σ2, by simpa [hd, updO] using h1, h2⟩
      · rename_i hd
        obtain ⟨σ2, h1, h2⟩ := evalOps_steps h
        exact ⟨σ2, by simpa [hd, updO] using h1, h2⟩

theorem rep_bool {x : AV} {b : Bool} (h : rep G x (.bool b)) : x = .b b := by
  cases x <;> simp [rep] at h
  rw [h]

theorem want_eq {N : Nat} {ρ : Nat → AV} {a : Act} (hf : FR N G ρ a) (o : Oper) : Region.wanted o (yielded ops a.tmps) = wantV ops o ρ := by
  unfold Region.wanted wantV
  split
  · rename_i h; simp [h]
  · rename_i j want h
    simp only [h]
    unfold yielded
    cases hd : (ops[j]?).bind (·.dst) with
    | none => simp
    | some d =>
      simp only [Option.bind_some]
      have hr := hf.rd d
      rw [Array.getD_eq_getD_getElem?] at hr
      cases ht : a.tmps[d]? with
      | none =>
        rw [ht] at hr
        have : ∀ b, ρ d ≠ .b b := fun b e => by rw [e] at hr; simp [rep, undef] at hr
        split
        · rename_i h'; exact absurd h' (by simp)
        · split
          · rename_i x hx; exact absurd hx (this _)
          · simp
      | some v =>
        rw [ht] at hr
        simp only [Option.getD_some] at hr
        split
        · rename_i b hb
          simp only [Option.some.injEq] at hb
          subst hb
          rw [rep_bool hr]
          simp
        · rename_i hne
          split
          · rename_i x hx
            rw [hx] at hr
            simp only [rep] at hr
            exact absurd (by rw [hr]) (hne x)
          · simp

/-- One operation of a region. -/
theorem wpOp_of_step (ok : TabOk P T) (hK : KOk P base w0 K) (pok : PrimOk P (primK T K) base w0) (rok : RowOk P (rowK T K) base w0) {N i j : Nat} {o : Oper} {ρ ρ' : Nat → AV} {σ' : St} {a : Act} {K' : Act → World → Prop} {Q : Exit → Act → World → Prop}
    (ho : ops[i]? = some o) (hd : okDst N o = true) (hf : FR N G ρ a) (hi : Inv base w0 G σ w) (h : stepV T K ops j o ρ σ = some (ρ', σ'))
    (hk : ∀ G' a' w', G.le G' → Inv base w0 G' σ' w' → FR N G' ρ' a' → K' a' w') : wpOp P ops Q i K' a w := by
  have hdst : ∀ t, o.dst = some t → t < N := fun t ht => by
    unfold okDst at hd
    rw [ht] at hd
    exact Nat.le_of_ble_eq_true hd
  unfold wpOp
  simp only [ho]
  rw [want_eq hf o]
  unfold stepV at h
  split at h
  · rename_i hw
    rw [if_pos hw]
    split at h
    · rename_i v σ1 he
      simp only [Option.some.injEq, Prod.mk.injEq] at h
      obtain ⟨rfl, rfl⟩ := h
      exact .inl (evalOp_sound ok hK pok rok he hf hi K' Q fun u G' w' h1 h2 h3 => hk G' _ w' h1 h2 ((hf.mono h1).put hdst h3))
    · simp at h
  · rename_i hw
    simp only [Option.some.injEq, Prod.mk.injEq] at h
    obtain ⟨rfl, rfl⟩ := h
    rw [if_neg (by simp [hw])]
    exact hk G _ w (.refl G) hi (hf.put hdst (rep_undef G))

theorem wpOps_of_steps (ok : TabOk P T) (hK : KOk P base w0 K) (pok : PrimOk P (primK T K) base w0) (rok : RowOk P (rowK T K) base w0) {N : Nat} {Q : Exit → Act → World → Prop} (hd : okOps N ops = true) : ∀ (rest : List Oper) (i : Nat) {ρ ρ' : Nat → AV} {σ σ' : St} {G : Gh} {a : Act} {w : World},
    ops.toList.drop i = rest → FR N G ρ a → Inv base w0 G σ w → stepsV T K ops (placed i rest) ρ σ = some (ρ', σ') → (∀ G' a' w', G.le G' → Inv base w0 G' σ' w' → FR N G' ρ' a' → Q .normal a' w') →
    wpOps P ops Q (List.range' i rest.length) a w
  | [], i, ρ, ρ', σ, σ', G, a, w, _, hf, hi, h, hq => by
    simp only [placed, stepsV, Option.some.injEq, Prod.mk.injEq] at h
    obtain ⟨rfl, rfl⟩ := h
    exact hq G a w (.refl G) hi hf
  | o :: rest, i, ρ, ρ', σ, σ', G, a, w, hr, hf, hi, h, hq => by
    simp only [placed, stepsV] at h
    split at h
    · rename_i ρ1 σ1 h1
      have hget : ops.toList[i]? = some o := by
        have : (ops.toList.drop i)[0]? = some o := by rw [hr]; rfl
        rwa [List.getElem?_drop, Nat.add_zero] at this
      have hdo : okDst N o = true := List.all_eq_true.1 hd o (List.mem_of_getElem? hget)
      rw [List.length_cons, List.range'_succ, wpOps_cons]
      refine wpOp_of_step ok hK pok rok (by simpa using hget) hdo hf hi h1 fun G' a' w' g1 g2 g3 => ?_
      refine wpOps_of_steps ok hK pok rok hd rest (i + 1) ?_ g3 g2 h fun G2 a2 w2 q1 q2 q3 => hq G2 a2 w2 (g1.trans q1) q2 q3
      rw [← List.drop_drop, hr]; rfl
    · simp at h

theorem region_sound (ok : TabOk P T) (hK : KOk P base w0 K) (pok : PrimOk P (primK T K) base w0) (rok : RowOk P (rowK T K) base w0) {N : Nat} {Q : Exit → Act → World → Prop} (hd : okOps N ops = true) {ρ ρ' : Nat → AV} {σ' : St} {a : Act} {id : Nat}
    (hf : FR N G ρ a) (hi : Inv base w0 G σ w) (h : stepsV T K ops (placed 0 ops.toList) ρ σ = some (ρ', σ')) (hq : ∀ G' a' w', G.le G' → Inv base w0 G' σ' w' → FR N G' ρ' a' → Q .normal a' w') : (Code.region id ops false).wp P Q a w := by
  refine wp_region ?_
  have := wpOps_of_steps (Q := Q) ok hK pok rok hd ops.toList 0 rfl hf hi h hq
  rwa [Array.length_toList, ← List.range_eq_range'] at this

/-! ### an order that is open -/

theorem opd_upd {ρ : Nat → AV} {d : Option Nat} {v : AV} {x : Operand} (h : ∀ t, d = some t → x ≠ .tmp t) : opd (updO ρ d v) x = opd ρ x := by
  cases d with
  | none => rfl
  | some t =>
    cases x with
    | tmp u =>
      simp only [opd, updO, upd]
      rw [if_neg (fun e => h t rfl (by rw [e]))]
    | const c => rfl
    | global g => rfl
    | func f => rfl

theorem opds_congr {ρ ρ' : Nat → AV} : ∀ {xs : List Operand}, (∀ x ∈ xs, opd ρ x = opd ρ' x) → opds ρ xs = opds ρ' xs
  | [], _ => rfl
  | x :: xs, h => by simp only [opds, h x List.mem_cons_self, opds_congr fun y hy => h y (List.mem_cons_of_mem _ hy)]

theorem parts_congr {ρ ρ' : Nat → AV} : ∀ {xs : List (Nat × Operand)}, (∀ x ∈ xs.map (·.2), opd ρ x = opd ρ' x) → parts ρ xs = parts ρ' xs
  | [], _ => rfl
  | (i, x) :: xs, h => by simp only [parts, h x List.mem_cons_self, parts_congr fun y hy => h y (List.mem_cons_of_mem _ hy)]

theorem optOpd_congr {ρ ρ' : Nat → AV} {x : Option Operand} (h : ∀ y ∈ x.toArray.toList, opd ρ y = opd ρ' y) : optOpd ρ x = optOpd ρ' x := by
  cases x with
  | none => rfl
  | some y => simp only [optOpd, h y (by simp)]

theorem evalOp_congr {n j : Nat} {o : Oper} {ρ ρ' : Nat → AV} (h : ∀ x ∈ o.op.operands.toList, opd ρ x = opd ρ' x) : evalOp T K n j o ρ σ = evalOp T K n j o ρ' σ := by
  unfold evalOp
  cases ho : o.op <;> simp only [ho, Op.operands, List.mem_cons, List.not_mem_nil, or_false, forall_eq_or_imp, forall_eq] at h ⊢ <;> try rfl
  case move x => rw [h]
  case assign x => rw [h]
  case pick c x y => rw [h.1, h.2.1, h.2.2]
  case box t x => rw [h]
  case build t ps => rw [parts_congr (by simpa using h)]
  case buildSlice t n ps => rw [parts_congr (by simpa using h)]
  case load t x => rw [h]
  case store t x y => rw [h.1, h.2]
  case nilCheck x => rw [h]
  case binOp op t x y t' => rw [h.1, h.2]
  case unOp op t x => rw [h]
  case convert s d x => rw [h]
  case makeInterface t x => rw [h]
  case makeFunc f a b =>
    have hb : opds ρ b.toList = opds ρ' b.toList := opds_congr fun x hx => h x (by simp at hx ⊢; exact .inr hx)
    split <;> simp_all
  case makeSlice t x y => rw [h.1, h.2]
  case slice t x lo hi mx =>
    have h1 : opd ρ x = opd ρ' x := h x (by simp)
    have h2 : optOpd ρ lo = optOpd ρ' lo := optOpd_congr fun y hy => h y (by simp at hy ⊢; simp [hy])
    have h3 : optOpd ρ hi = optOpd ρ' hi := optOpd_congr fun y hy => h y (by simp at hy ⊢; simp [hy])
    split <;> simp_all
  case fieldAddr t x j => rw [h]
  case field t x j => rw [h]
  case indexAddr t x y => rw [h.1, h.2]
  case index t x y => rw [h.1, h.2]
  case extract x j => rw [h]
  case call c =>
    have h1 : opds ρ c.args.toList = opds ρ' c.args.toList := opds_congr fun x hx => h x (by simp only [Call.operands, Array.toList_append, List.mem_append]; exact .inr hx)
    rw [h1]
    split
    · split
      · rfl
      · rename_i f hf
        have := h f (by simp [Call.operands, hf])
        rw [this]
      · rfl
    · rfl

theorem pureV_state {o : Option AV} {σ σ' : St} {r : AV} (h : pureV o σ = some (r, σ')) : σ' = σ ∧ ∀ σ2, pureV o σ2 = some (r, σ2) := by
  obtain ⟨h1, h2⟩ := pureV_some h
  exact ⟨h2, fun σ2 => by rw [h1]; rfl⟩

/-- An operation that doesn't look at the state. -/
theorem silent {n j : Nat} {o : Oper} {ρ : Nat → AV} {σ' : St} {r : AV} (hc : cls T o.op = 0) (h : evalOp T K n j o ρ σ = some (r, σ')) : σ' = σ ∧ ∀ σ2, evalOp T K n j o ρ σ2 = some (r, σ2) := by
  unfold evalOp at h ⊢
  cases ho : o.op <;> simp only [ho, cls] at h hc ⊢ <;> try (simp at hc; done)
  case move x => exact pureV_state h
  case assign x => exact pureV_state h
  case pick c x y =>
    split at h
    · exact pureV_state h
    · exact pureV_state h
    · simp at h
  case build t ps =>
    split at h
    · exact pureV_state h
    · simp at h
  case nilCheck x =>
    split at h <;> simp only [Option.some.injEq, Prod.mk.injEq, reduceCtorEq] at h
    all_goals
      obtain ⟨rfl, rfl⟩ := h
      exact ⟨rfl, fun _ => rfl⟩
  case binOp op t x y t' =>
    split at h
    · exact pureV_state h
    · simp at h
  case unOp op t x =>
    split at h
    · exact pureV_state h
    · simp at h
  case convert a b x =>
    split at h
    · exact pureV_state h
    · simp at h
  case makeInterface t x =>
    split at h <;> simp only [Option.some.injEq, Prod.mk.injEq, reduceCtorEq] at h
    obtain ⟨rfl, rfl⟩ := h
    exact ⟨rfl, fun _ => rfl⟩
  case makeFunc f a b =>
    cases f <;> try (simp at h; done)
    rcases a with ⟨l⟩
    cases l <;> try (simp at h; done)
    simp only at h ⊢
    split at h <;> simp only [Option.some.injEq, Prod.mk.injEq, reduceCtorEq] at h
    obtain ⟨rfl, rfl⟩ := h
    exact ⟨rfl, fun _ => rfl⟩
  case slice t x lo hi mx =>
    cases mx <;> try (simp at h; done)
    simp only at h ⊢
    split at h
    · exact pureV_state h
    · simp at h
  case fieldAddr t x j =>
    split at h
    · exact pureV_state h
    · simp at h
  case field t x j =>
    split at h
    · exact pureV_state h
    · simp at h
  case indexAddr t x y =>
    split at h
    · exact pureV_state h
    · simp at h
  case index t x y =>
    split at h
    · exact pureV_state h
    · simp at h
  case extract x j =>
    split at h
    · exact pureV_state h
    · simp at h
  case call c =>
    split at h
    · rename_i vs hv
      split at h
      · rename_i b hb
        simp only [hb] at hc
        have hb' : b = .len ∨ b = .max ∨ b = .min := by
          cases b <;> simp at hc <;> simp
        unfold bltV at h
        rcases hb' with rfl | rfl | rfl
        · split at h <;> try (simp at h; done)
          all_goals simp_all [bltV]
          exact pureV_state h
        · split at h <;> try (simp at h; done)
          all_goals simp_all [bltV]
          split at h <;> simp_all
        · split at h <;> try (simp at h; done)
          all_goals simp_all [bltV]
          split at h <;> simp_all
      · rename_i f hf
        simp only [hf] at hc
        cases f <;> try (simp at hc; done)
        rename_i fn
        simp only [opd] at h ⊢
        simp only at hc
        have hr : T.rprim fn = none ∧ T.row fn = false := by
          cases hq : T.rprim fn <;> cases hs : T.row fn <;> simp [hq, hs] at hc ⊢
        rw [hr.1, hr.2] at hc
        simp only [Option.isSome_none, Bool.or_self] at hc
        simp only [primK, rowK, hr.1, hr.2] at h ⊢
        cases hp : T.prim fn with
        | none =>
          cases hq : T.pure fn with
          | false => simp [hp, hq] at hc
          | true =>
            simp only [hp, hq] at h ⊢
            exact pureV_state h
        | some p =>
          cases hq : T.pure fn with
          | false =>
            simp only [hp, hq] at h ⊢
            exact pureV_state h
          | true =>
            simp only [hp, hq] at h ⊢
            exact pureV_state h
      · simp at h
    · simp at h
end
end Go.Pv
