/- make, append and the other builtins. -/
import Derived.Test.YtigcolhieieakaaDoorPvF
namespace Go.Pv
open Go Go.RowKit
set_option linter.unusedVariables false
set_option linter.unusedSimpArgs false

section
variable {P : Program} {T : Tab} {w : World} {G : Gh} {base : Nat} {w0 : World} {σ : St}

theorem replicate_cells (v : Value) : ∀ n, (cellsOf (List.replicate n v)).length = n * v.cells.size
  | 0 => by simp [cellsOf]
  | n + 1 => by rw [List.replicate_succ, cellsOf_cons, List.length_append, replicate_cells v n, Nat.succ_mul]; simp; omega

theorem replicate_get (v : Value) : ∀ (n i : Nat), i < n * v.cells.size → (cellsOf (List.replicate n v))[i]? = v.cells.toList[i % v.cells.size]?
  | 0, i, h => by simp at h
  | n + 1, i, h => by
    rw [List.replicate_succ, cellsOf_cons]
    rcases Nat.lt_or_ge i v.cells.size with h' | h'
    · rw [List.getElem?_append_left (by simpa using h'), Nat.mod_eq_of_lt h']
    · rw [List.getElem?_append_right (by simpa using h')]
      simp only [Array.length_toList]
      rw [replicate_get v n (i - v.cells.size) (by rw [Nat.succ_mul] at h; omega)]
      congr 1
      exact (Nat.mod_eq_sub_mod h').symm

theorem repL_replicate {x : AV} {v : Value} (r : rep G x v) : ∀ n, repL G (List.replicate n x) (List.replicate n v)
  | 0 => by simp [repL]
  | n + 1 => by rw [List.replicate_succ, List.replicate_succ]; exact repL_cons.2 ⟨r, repL_replicate r n⟩

theorem makeSliceV_sound (ok : TabOk P T) (hi : Inv base w0 G σ w) {t : TypeId} {x y r : AV} {vx vy : Value} {σ' : St} {j : Nat} (h : makeSliceV T j t x y σ = some (r, σ')) (rx : rep G x vx) (ry : rep G y vy) :
    Makes P base w0 w G (Instr.makeSlice t vx vy) r σ' := by
  unfold makeSliceV at h
  split at h
  · rename_i e kn n kc c hu
    obtain ⟨td, h0, u0, h1⟩ := run_und ok hu
    have := TD.slice_inv h0; subst this
    simp only [rep] at rx ry; subst rx; subst ry
    split at h
    · rename_i te ag hte hag
      split at h
      · rename_i hc
        obtain ⟨c1, c2, c3, c4, c5, c6, c7, hfree⟩ := hc
        simp only [Option.some.injEq, Prod.mk.injEq] at h
        obtain ⟨rfl, rfl⟩ := h
        obtain ⟨ti, _, _, hby, hT, hS, z, _, hz, rz⟩ := run_inf ok hte
        have hzl := ok.zlen _ _ hte
        have hzs : z.cells.size = te.size := by have := (rz G).length; simpa [hzl] using this
        obtain ⟨N, rfl⟩ := Int.eq_ofNat_of_zero_le c2
        obtain ⟨C, rfl⟩ := Int.eq_ofNat_of_zero_le (Int.le_trans c2 c3)
        have hNC : N ≤ C := by omega
        -- the zero of an element
        have hzv : ∃ zv : Value, rep G (if ag then (.a (te.zero.map AV.strip0)) else (te.zero.headD .u).strip0) zv ∧ zv.cells = z.cells := by
          cases ag with
          | true => exact ⟨.agg z.cells, ⟨_, rfl, (rz G).strip0⟩, rfl⟩
          | false =>
            have h1s : te.size = 1 := c6.resolve_left (by simp)
            have hl := rz G
            cases hq : te.zero with
            | nil => rw [hq] at hzl; simp at hzl; omega
            | cons a as =>
              rw [hq] at hl c7 hzl
              obtain ⟨y, ys, e1, r1, r2⟩ := hl
              have : ys = [] := by
                have := r2.length
                simp at hzl
                have e2 : as = [] := by
                  cases as with
                  | nil => rfl
                  | cons b bs => simp at hzl; omega
                rw [e2] at this
                exact List.eq_nil_of_length_eq_zero (by simpa using this)
              subst this
              refine ⟨y, by simpa using r1.strip0, ?_⟩
              rw [(flat_cell c7 r1).1]
              apply Array.ext'
              simp [e1]
        obtain ⟨zv, rzv, hzc⟩ := hzv
        have hvs : zv.cells.size = te.size := by rw [hzc, hzs]
        let Z : List Value := ((Array.range (C * te.size)).map (fun i => z.cells[i % z.cells.size]!)).toList
        have hZlen : Z.length = C * te.size := by simp [Z]
        have hZget : ∀ i, i < C * te.size → Z[i]? = z.cells.toList[i % te.size]? := fun i hlt => by
          have hm : i % te.size < z.cells.size := by rw [hzs]; exact Nat.mod_lt _ (by omega)
          simp only [Z, Array.toList_map, List.getElem?_map, Array.toList_range, List.getElem?_range hlt, Option.map_some, hzs]
          rw [getElem!_pos z.cells _ hm]
          simp [hm]
        have hpre : cellsOf (List.replicate N zv) = Z.take (N * te.size) := by
          have hNle : N * te.size ≤ C * te.size := Nat.mul_le_mul_right _ hNC
          apply List.ext_getElem?
          intro i
          rcases Nat.lt_or_ge i (N * te.size) with hlt | hge
          · rw [replicate_get zv N i (by rw [hvs]; exact hlt), hvs, List.getElem?_take, if_pos hlt, hZget i (by omega), hzc]
          · rw [List.getElem?_eq_none (by rw [replicate_cells, hvs]; exact hge), List.getElem?_eq_none (by rw [List.length_take]; omega)]
        have hlen1 : (cellsOf (List.replicate N zv)).length = N * te.size := by rw [replicate_cells, hvs]
        have hr := hi.newRow hfree (vs := cellsOf (List.replicate N zv)) (rest := Z.drop (N * te.size)) (t := e) (n := N) (c := C) c1 hlen1 (by
          rw [hlen1, List.length_drop, hZlen]
          have : N * te.size ≤ C * te.size := Nat.mul_le_mul_right _ hNC
          omega) hNC
        obtain ⟨q1, q2, q3, q4⟩ := hr
        rw [hpre, List.take_append_drop] at q2
        rw [← hpre] at q2
        refine ⟨.slice (some ⟨w.heap.size, 0, none⟩) N C, _, _, ?_, q1, q2, ?_⟩
        · have hw1 : IntKind.i64.wrap (N : Int) = N := IntWalk.i64_in _ (by omega)
          have hw2 : IntKind.i64.wrap (C : Int) = C := IntWalk.i64_in _ (by omega)
          have hbb : ¬ ((te.bytes : Int) * (C : Int) > 2 ^ 48) := by
            have : (2 : Int) ^ 48 = 281474976710656 := by decide
            omega
          have hcn : ¬ ((C : Int) < 0) := by omega
          simp only [Instr.makeSlice, Sem.run_bind, h1, Result.andThen_ok, asInt, asIntOf, Sem.run_pure, hT, hS, hw1, hw2, hby]
          rw [if_neg (by
            have hn2 : ¬ ((N : Int) < 0) := by omega
            have hn3 : ¬ ((N : Int) > (C : Int)) := by omega
            simp only [hcn, hbb, hn2, hn3, decide_false, Bool.or_self, Bool.false_eq_true, not_false_eq_true])]
          simp only [Sem.run_bind, run_askRoom, Result.andThen_ok, hS, Int.toNat_natCast]
          by_cases h0 : C * te.size = 0
          · rw [if_pos h0]
            simp only [Sem.run_bind, Sem.run_pure, Result.andThen_ok, newRow, run_newObj]
            have : Z.toArray = #[] := by
              have : Z = [] := List.eq_nil_of_length_eq_zero (by rw [hZlen, h0])
              rw [this]
            rw [this, h0]
            simp [show Array.range 0 = #[] from rfl]
          · rw [if_neg h0]
            simp only [Sem.run_bind, Sem.run_pure, Result.andThen_ok, hz, newRow, run_newObj]
            rfl
        · have hrl := repL_replicate rzv N
          refine ⟨some ⟨w.heap.size, 0, none⟩, C, List.replicate N zv, by simp, by simpa using hNC, fun h => by simp [newTok] at h, fun _ => ⟨_, rfl, by rw [List.length_replicate]; exact q4⟩, by simpa using hrl.mono q1, ?_⟩
          right
          refine ⟨_, _, te.size, rfl, fun v hv => ?_, q3⟩
          rw [List.eq_of_mem_replicate hv, hvs]
      · simp at h
    · simp at h
  · simp at h

theorem growBy_le (n : Nat) : ∀ (r c : Nat), c < n → Builtin.growBy n r c ≤ 2 * n + 192
  | 0, c, h => by simp only [Builtin.growBy]; omega
  | r + 1, c, h => by
    simp only [Builtin.growBy]
    split
    · omega
    · rcases Nat.lt_or_ge (c + (c + 768) / 4) n with h' | h'
      · exact growBy_le n r _ h'
      · have : Builtin.growBy n r (c + (c + 768) / 4) = c + (c + 768) / 4 := by
          cases r with
          | zero => rfl
          | succ r => simp only [Builtin.growBy]; rw [if_pos h']
        rw [this]; omega

theorem nextcap_le {n c : Nat} (h : c < n) : Builtin.nextslicecap n c ≤ 2 * n + 192 := by
  unfold Builtin.nextslicecap
  split
  · omega
  · split
    · omega
    · exact growBy_le n 4 c h

theorem elems_rep {x : AV} {xs : List AV} {v : Value} (h : elemsV x = some xs) (rx : rep G x v) : ∃ us, repL G xs us ∧ (∀ w, (Builtin.lenOf v).run P w = .ok xs.length w) ∧
    (∀ sz, (∀ u ∈ us, u.cells.size = sz) → xs ≠ [] → Inv base w0 G σ w → ∀ w', (∀ b o c, G.mem b o = some c → w'.cell? ⟨b, o, none⟩ = some c) → (Builtin.firstCells sz xs.length v).run P w' = .ok (cellsOf us).toArray w') ∧
    (xs = [] → ∀ sz w', (Builtin.firstCells sz 0 v).run P w' = .ok #[] w') := by
  unfold elemsV at h
  split at h
  · rename_i es k
    simp only [Option.some.injEq] at h; subst h
    obtain ⟨A, c, vs, rfl, r1, r2, r3, r4, r5⟩ := rx
    refine ⟨vs, r4, fun w => rfl, fun sz hs hne _ w' hw' => ?_, fun he sz w' => ?_⟩
    · rcases r5 with r5 | ⟨b, o, sz', rfl, r6, r7⟩
      · exact absurd r5 hne
      · have hl := run_loadCells_list (P := P) w' ⟨b, o, none⟩ (cellsOf vs) (fun j u hj => by rw [add_plain]; exact hw' _ _ _ (r7 j u hj))
        rw [cellsOf_length hs, r4.length] at hl
        simpa [Builtin.firstCells] using hl
    · cases A with
      | none => rfl
      | some a => simpa [Builtin.firstCells] using run_loadCells_list (P := P) w' a [] (by simp)
  · rename_i l
    simp only [Option.some.injEq] at h; subst h
    simp only [rep] at rx; subst rx
    refine ⟨l.map fun c => .int .u8 (c.toNat : Int), ?_, fun w => ?_, fun sz hs hne _ w' hw' => ?_, fun he sz w' => ?_⟩
    · refine repL.of_get (by simp) fun j a b ha hb => ?_
      rw [List.getElem?_map] at ha hb
      cases hq : l[j]? with
      | none => simp [hq] at ha
      | some c => simp [hq] at ha hb; subst ha; subst hb; rfl
    · simp [Builtin.lenOf, ByteArray.size]
    · simp only [Builtin.firstCells, Sem.run_pure, List.length_map]
      congr 1
      have hc : cellsOf (l.map fun c => Value.int .u8 (c.toNat : Int)) = l.map fun c => Value.int .u8 (c.toNat : Int) := by
        have := cellsOf_ints .u8 (l.map fun c => (c.toNat : Int))
        simpa [List.map_map, Function.comp_def] using this
      rw [hc, ba_extract]
      apply Array.ext'
      simp
    · simp [Builtin.firstCells, ba_extract]
  · simp at h

theorem allSize_cells {sz : Nat} : ∀ {xs : List AV} {us : List Value}, repL G xs us → allSize sz xs = true → (∀ u ∈ us, u.cells.size = sz) ∧ (∀ c ∈ cellsOf us, c.oneCell' = true)
  | [], us, r, _ => by rw [repL_nil] at r; subst r; simp [cellsOf]
  | x :: xs, _, ⟨y, ys, e, r1, r2⟩, h => by
    subst e
    simp only [allSize, Bool.and_eq_true, beq_eq, decide_eq_true_eq] at h
    obtain ⟨h1, h2⟩ := allSize_cells r2 h.2
    refine ⟨fun u hu => ?_, fun c hc => ?_⟩
    · rcases List.mem_cons.1 hu with rfl | hu
      · rw [r1.cells_size]; exact h.1.1
      · exact h1 u hu
    · rw [cellsOf_cons] at hc
      rcases List.mem_append.1 hc with hc | hc
      · exact r1.cells.oneCell h.1.2 c hc
      · exact h2 c hc

theorem zeroCells_size (z : Array Value) (n : Nat) : (Builtin.zeroCells z n).size = n * z.size := by simp [Builtin.zeroCells]

/-- An append that makes a new row. -/
theorem append_new (hi : Inv base w0 G σ w) {j : Nat} (hfree : tokFree j σ = true) {e : TypeId} {es xs : List AV} {vs us : List Value} {sz : Nat} (hsz : sz ≠ 0) (rv : repL G es vs) (ru : repL G xs us) (hv : es = [] ∨ ∀ v ∈ vs, v.cells.size = sz) (hu : ∀ u ∈ us, u.cells.size = sz)
    {rest : List Value} {C : Nat} (hC : es.length + xs.length ≤ C) (hrest : rest.length = (C - (es.length + xs.length)) * sz) :
    ∃ G', G.le G' ∧ Inv base w0 G' (newTok j sz σ).2 (w.drew.alloc (.cells (cellsOf vs ++ cellsOf us ++ rest).toArray e)) ∧
      rep G' (.sl (es ++ xs.map AV.strip) (newTok j sz σ).1) (.slice (some ⟨w.heap.size, 0, none⟩) (es.length + xs.length) C) := by
  have hv' : ∀ v ∈ vs, v.cells.size = sz := by
    rcases hv with rfl | hv
    · rw [repL_nil] at rv; subst rv; simp
    · exact hv
  have hall : ∀ v ∈ vs ++ us, v.cells.size = sz := fun v h => by
    rcases List.mem_append.1 h with h | h
    · exact hv' v h
    · exact hu v h
  have hl1 := rv.length
  have hl2 := ru.length
  have hlen : (cellsOf (vs ++ us)).length = (es.length + xs.length) * sz := by rw [cellsOf_length hall, List.length_append, hl1, hl2]
  have hm : (es.length + xs.length) * sz ≤ C * sz := Nat.mul_le_mul_right _ hC
  obtain ⟨q1, q2, q3, q4⟩ := hi.drew.newRow hfree (vs := cellsOf (vs ++ us)) (rest := rest) (t := e) (n := es.length + xs.length) (c := C) hsz hlen (by rw [hlen, hrest, Nat.mul_sub_right_distrib] <;> omega) hC
  rw [cellsOf_append] at q2
  refine ⟨_, q1, by rw [← cellsOf_append] at q2 ⊢; exact q2, some ⟨w.heap.size, 0, none⟩, C, vs ++ us, by simp, by simpa using hC, fun h => by simp [newTok] at h, fun _ => ⟨_, rfl, by rw [List.length_append, List.length_map]; exact q4⟩, (rv.append ru.strip).mono q1, ?_⟩
  right
  exact ⟨_, _, sz, rfl, hall, q3⟩

theorem appV_sound (ok : TabOk P T) (hi : Inv base w0 G σ w) {t u : TypeId} {ty : TypeId} {s x r : AV} {vs vx : Value} {σ' : St} {ud : TD} (hud : T.und u = some ud) (hni : ∀ k, ud ≠ .int k) {j : Nat} (h : appV T j t s x σ = some (r, σ')) (rs : rep G s vs) (rx : rep G x vx) (more : Array TypeId) :
    ∀ (ats : Array TypeId) (args : Array Value), ats[0]? = some t → ats[1]? = some u → args[0]? = some vs → args[1]? = some vx → Makes P base w0 w G (Builtin.append_ ats ty args) r σ' := by
  intro ats args ha0 ha1 hb0 hb1
  unfold appV at h
  split at h
  · rename_i e hut
    obtain ⟨td, h0, u0, h1⟩ := run_und ok hut
    have := TD.slice_inv h0; subst this
    obtain ⟨tdu, hu0, _, hu1⟩ := run_und ok hud
    have hnz : (match tdu with | .int _ => true | _ => false) = false := by
      cases tdu <;> simp [TD.of] at hu0 ⊢
      exact hni _ hu0.symm
    split at h
    · rename_i te ag hte hag
      obtain ⟨ti, _, _, hby, hT, hS, z, _, hz, rz⟩ := run_inf ok hte
      have hzl := ok.zlen _ _ hte
      have hzs : z.cells.size = te.size := by have := (rz G).length; simpa [hzl] using this
      split at h
      · rename_i es k
        obtain ⟨A, c, evs, rfl, r1, r2, r3, r4, r5⟩ := rs
        have hstart : ∀ (F : Nat → Sem Value), True := fun _ => trivial
        split at h
        · -- nothing is appended
          rename_i hel
          simp only [Option.some.injEq, Prod.mk.injEq] at h
          obtain ⟨rfl, rfl⟩ := h
          obtain ⟨us, e1, e2, _, e4⟩ := elems_rep (base := base) (w0 := w0) (σ := σ) (w := w) (P := P) hel rx
          refine ⟨.slice A es.length c, w, G, ?_, .refl G, hi, A, c, evs, rfl, r1, r2, r3, r4, r5⟩
          have hx := e4 rfl te.size w
          unfold Builtin.append_
          simp only [ha0, ha1, hb0, hb1, Sem.run_bind, h1, Result.andThen_ok, hS, hu1, Sem.run_pure]
          have hl := e2 w
          simp only [List.length_nil] at hl
          cases tdu <;> simp only [Bool.true_eq_false] at hnz
          all_goals
            simp only [Bool.false_eq_true, if_false, Sem.run_bind, hl, Result.andThen_ok, Nat.add_zero, if_pos r1, Bool.not_false, if_true, hx]
            cases A with
            | none => rfl
            | some a => rfl
        · rename_i y ys hel
          split at h
          · rename_i hc
            obtain ⟨c1, c2, c3, c4, c5, hfree⟩ := hc
            obtain ⟨us, e1, e2, e3, _⟩ := elems_rep (base := base) (w0 := w0) (σ := σ) (w := w) (P := P) hel rx
            obtain ⟨hus, huc⟩ := allSize_cells e1 c3
            have hvs : es = [] ∨ ∀ v ∈ evs, v.cells.size = te.size := by
              rcases r5 with r5 | ⟨b, o, sz, _, r6, _⟩
              · exact .inl r5
              · cases es with
                | nil => exact .inl rfl
                | cons x1 xs1 =>
                  obtain ⟨v1, vs1, rfl, q1, q2⟩ := r4
                  have h3 := r6 v1 List.mem_cons_self
                  have h4 : x1.cells.length = te.size := by simpa [headSize, beq_eq] using c4
                  rw [q1.cells_size, h4] at h3
                  exact .inr (by rw [h3]; exact r6)
            have hcell : ∀ w', (∀ b o c, G.mem b o = some c → w'.cell? ⟨b, o, none⟩ = some c) → (Builtin.firstCells te.size (y :: ys).length vx).run P w' = .ok (cellsOf us).toArray w' := fun w' hw' => e3 te.size hus (by simp) hi w' hw'
            have hold : ∀ w', (∀ b o c, G.mem b o = some c → w'.cell? ⟨b, o, none⟩ = some c) → (Builtin.firstCells te.size es.length (.slice A es.length c)).run P w' = .ok (cellsOf evs).toArray w' := fun w' hw' => by
              have rs' : rep G (.sl es k) (.slice A es.length c) := ⟨A, c, evs, rfl, r1, r2, r3, r4, r5⟩
              rcases hvs with he | hvs
              · subst he
                rw [repL_nil] at r4; subst r4
                cases A with
                | none => rfl
                | some a => simpa [Builtin.firstCells, cellsOf] using run_loadCells_list (P := P) w' a [] (by simp)
              · rcases r5 with r5 | ⟨b, o, sz, rfl, r6, r7⟩
                · subst r5
                  rw [repL_nil] at r4; subst r4
                  cases A with
                  | none => rfl
                  | some a => simpa [Builtin.firstCells, cellsOf] using run_loadCells_list (P := P) w' a [] (by simp)
                · have hl := run_loadCells_list (P := P) w' ⟨b, o, none⟩ (cellsOf evs) (fun j u hj => by rw [add_plain]; exact hw' _ _ _ (r7 j u hj))
                  rw [cellsOf_length hvs, r4.length] at hl
                  simpa [Builtin.firstCells] using hl
            have hlx := e2 w
            -- what the machine does: a new row
            have hgrow : c < es.length + (y :: ys).length → ∃ C, es.length + (y :: ys).length ≤ C ∧ (Builtin.append_ ats ty args).run P w = .ok (.slice (some ⟨w.heap.size, 0, none⟩) (es.length + (y :: ys).length) C)
                (w.drew.alloc (.cells ((cellsOf evs).toArray ++ (cellsOf us).toArray ++ Builtin.zeroCells z.cells (C - (es.length + (y :: ys).length))) e)) := by
              intro hlt
              have hcut : es.length + (y :: ys).length ≤ Question.cut (.appendCap (es.length + (y :: ys).length) c e) (w.tape w.drawn (.appendCap (es.length + (y :: ys).length) c e)) := Nat.le_add_right _ _
              refine ⟨_, hcut, ?_⟩
              have hneed : ¬ (Builtin.nextslicecap (es.length + (y :: ys).length) c * ti.bytes > 2 ^ 48) := by
                have h1 := nextcap_le hlt
                have h2 : Builtin.nextslicecap (es.length + (y :: ys).length) c * ti.bytes ≤ (2 * (es.length + (y :: ys).length) + 192) * te.bytes := by rw [hby]; exact Nat.mul_le_mul_right _ h1
                have : (2 : Nat) ^ 48 = 281474976710656 := by decide
                omega
              have hmem : ∀ b o c, G.mem b o = some c → w.drew.cell? ⟨b, o, none⟩ = some c := fun b o c hm => hi.mem _ _ _ hm
              have ho := hold w.drew hmem
              have hn := hcell w.drew hmem
              have hb0' : ti.bytes ≠ 0 := by rw [hby]; exact c2
              unfold Builtin.append_
              simp only [ha0, ha1, hb0, hb1, Sem.run_bind, h1, Result.andThen_ok, hS, hu1, Sem.run_pure]
              cases tdu <;> simp only [Bool.true_eq_false] at hnz
              all_goals
                simp only [Bool.false_eq_true, if_false, Sem.run_bind, hlx, Result.andThen_ok, Nat.not_le.2 hlt, hT, hb0', or_self, and_false, hneed, Bool.not_false, if_true, run_choose, Question.forced, run_askRoom, World.drew_eq, ho, hn, hz, newRow, run_newObj, Sem.run_pure, World.alloc_eq, World.size_drew]
            have hnew : ∀ {σ1 : St}, tokFree j σ1 = true → Inv base w0 G σ1 w → c < es.length + (y :: ys).length → Makes P base w0 w G (Builtin.append_ ats ty args) (.sl (es ++ (y :: ys).map AV.strip) (newTok j te.size σ1).1) (newTok j te.size σ1).2 := by
              intro σ1 hfree1 hi1 hlt
              obtain ⟨C, g1, g2⟩ := hgrow hlt
              obtain ⟨G', q1, q2, q3⟩ := append_new hi1 hfree1 (e := e) c1 r4 e1 hvs hus (rest := (Builtin.zeroCells z.cells (C - (es.length + (y :: ys).length))).toList) (C := C) g1 (by simp [zeroCells_size, hzs])
              refine ⟨_, _, G', g2, q1, ?_, q3⟩
              have : (cellsOf evs ++ cellsOf us ++ (Builtin.zeroCells z.cells (C - (es.length + (y :: ys).length))).toList).toArray = (cellsOf evs).toArray ++ (cellsOf us).toArray ++ Builtin.zeroCells z.cells (C - (es.length + (y :: ys).length)) := by
                apply Array.ext'; simp
              rw [this] at q2
              exact q2
            split at h
            · simp at h
            · simp only [Option.some.injEq, Prod.mk.injEq] at h
              obtain ⟨rfl, rfl⟩ := h
              obtain ⟨rfl, rfl⟩ := r2 rfl
              exact hnew hfree hi (by rw [List.length_cons]; omega)
            · rename_i k
              split at h
              · rename_i sz htk
                split at h
                · rename_i hsz
                  subst hsz
                  simp only [Option.some.injEq, Prod.mk.injEq] at h
                  obtain ⟨rfl, rfl⟩ := h
                  rcases Nat.lt_or_ge c (es.length + (y :: ys).length) with hlt | hle
                  · refine hnew ?_ (hi.spend _ htk) hlt
                    have hne : σ.nb + j + 2 ≠ k + 2 := fun e => by have h1 := tok_none hfree; rw [e, htk] at h1; cases h1
                    unfold tokFree
                    simp only [Tr.get_set, if_neg hne, tok_none hfree]
                  · obtain ⟨a, rfl, hτ⟩ := r3 (by omega)
                    have hul : (cellsOf us).length = (y :: ys).length * te.size := by rw [cellsOf_length hus, e1.length]
                    obtain ⟨_, _, _, t1, t2, _⟩ := hi.tok _ _ htk c1
                    rw [hτ] at t1
                    simp only [Option.some.injEq, Prod.mk.injEq] at t1
                    obtain ⟨rfl, rfl, rfl⟩ := t1
                    obtain ⟨b, o, spot⟩ := a
                    simp only at t2
                    subst t2
                    obtain ⟨q1, q2, q3, q4, q5, q6⟩ := hi.grow hfree (m := (y :: ys).length) htk c1 hτ hul hle
                    refine ⟨.slice (some ⟨b, o, none⟩) (es.length + (y :: ys).length) c, _, _, ?_, q1, q2, ?_⟩
                    · have hst := run_storeCells_cells (P := P) b (o + es.length * te.size) (cellsOf us) 0 w (by simpa using q5) (by simpa using q6) huc
                      rw [Nat.add_zero] at hst
                      have hn := hcell w (fun b o c hm => hi.mem _ _ _ hm)
                      unfold Builtin.append_
                      simp only [ha0, ha1, hb0, hb1, Sem.run_bind, h1, Result.andThen_ok, hS, hu1, Sem.run_pure]
                      cases tdu <;> simp only [Bool.true_eq_false] at hnz
                      all_goals
                        simp only [Bool.false_eq_true, if_false, Sem.run_bind, hlx, Result.andThen_ok, if_pos hle, Bool.not_false, if_true, hn, add_plain, hst, Sem.run_pure]
                    · refine ⟨some ⟨b, o, none⟩, c, evs ++ us, by simp, by simpa using hle, fun h => by simp [newTok] at h, fun _ => ⟨_, rfl, by rw [List.length_append, List.length_map]; exact q4⟩, (r4.append e1.strip).mono q1, ?_⟩
                      right
                      have hall : ∀ v ∈ evs ++ us, v.cells.size = te.size := fun v hv => by
                        rcases List.mem_append.1 hv with hv | hv
                        · rcases hvs with hvs | hvs
                          · subst hvs; rw [repL_nil] at r4; subst r4; simp at hv
                          · exact hvs v hv
                        · exact hus v hv
                      refine ⟨b, o, te.size, rfl, hall, fun j v hj => ?_⟩
                      rw [cellsOf_append] at hj
                      have hel : (cellsOf evs).length = es.length * te.size := by
                        rcases hvs with hvs | hvs
                        · subst hvs; rw [repL_nil] at r4; subst r4; simp [cellsOf]
                        · rw [cellsOf_length hvs, r4.length]
                      rcases Nat.lt_or_ge j (cellsOf evs).length with hj1 | hj1
                      · rw [List.getElem?_append_left hj1] at hj
                        rcases r5 with r5 | ⟨b', o', sz', e5, r6, r7⟩
                        · subst r5; rw [hel] at hj1; simp at hj1
                        · simp only [Option.some.injEq, Addr.mk.injEq, and_true] at e5
                          obtain ⟨rfl, rfl⟩ := e5
                          exact q1.mem _ _ _ (r7 j v hj)
                      · rw [List.getElem?_append_right hj1, hel] at hj
                        have := q3 _ _ hj
                        rw [hel] at hj1
                        rwa [show o + es.length * te.size + (j - es.length * te.size) = o + j by omega] at this
                · simp at h
              · simp at h
          · simp at h
        · simp at h
      · simp at h
    · simp at h
  · simp at h
end
end Go.Pv
