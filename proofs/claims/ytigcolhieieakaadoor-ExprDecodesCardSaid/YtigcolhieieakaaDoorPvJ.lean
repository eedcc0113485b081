/- A region whose order is open comes to what the text's order comes to. -/
import Derived.Test.YtigcolhieieakaaDoorPvI
namespace Go.Pv
open Go Go.RowKit
set_option linter.unusedVariables false
set_option linter.unusedSimpArgs false

section
variable {P : Program} {T : Tab} {w : World} {G : Gh} {base : Nat} {w0 : World} {σ : St} {K : CallK} {ops : Array Oper}

theorem mem_looks {o : Oper} {t : Tmp} (h : (.tmp t) ∈ o.op.operands.toList) : t ∈ o.looksAt ops := by
  unfold Oper.looksAt
  refine List.mem_append.2 (.inl (List.mem_filterMap.2 ⟨_, h, rfl⟩))

theorem evalOp_upd {n j : Nat} {o : Oper} {ρ : Nat → AV} {d : Option Nat} {v : AV} (h : ∀ t, d = some t → t ∉ o.looksAt ops) : evalOp T K n j o (updO ρ d v) σ = evalOp T K n j o ρ σ :=
  evalOp_congr fun x hx => opd_upd fun t ht e => h t ht (mem_looks (e ▸ hx))

theorem wantV_upd {o : Oper} {ρ : Nat → AV} {d : Option Nat} {v : AV} (h : ∀ t, d = some t → t ∉ o.looksAt ops) : wantV ops o (updO ρ d v) = wantV ops o ρ := by
  unfold wantV
  cases hg : o.guard with
  | none => rfl
  | some g =>
    obtain ⟨j, want⟩ := g
    simp only
    cases hd : (ops[j]?).bind (·.dst) with
    | none => rfl
    | some u =>
      simp only
      have hu : u ∈ o.looksAt ops := by
        unfold Oper.looksAt
        rw [hg]
        exact List.mem_append.2 (.inr (by simp [hd]))
      have : updO ρ d v u = ρ u := by
        cases d with
        | none => rfl
        | some t =>
          simp only [updO, upd]
          rw [if_neg (fun (e : u = t) => h t rfl (by rw [← e]; exact hu))]
      rw [this]

theorem updO_comm {ρ : Nat → AV} {d e : Option Nat} {v u : AV} (h : ∀ t, d = some t → e ≠ some t) : updO (updO ρ d v) e u = updO (updO ρ e u) d v := by
  cases d with
  | none => rfl
  | some d =>
    cases e with
    | none => rfl
    | some e =>
      have hne : e ≠ d := fun h' => h d rfl (by rw [h'])
      funext j
      simp only [updO, upd]
      by_cases h1 : j = e
      · rw [if_pos h1, if_neg (fun h2 => hne (h1.symm.trans h2)), if_pos h1]
      · rw [if_neg h1]
        by_cases h2 : j = d
        · rw [if_pos h2, if_pos h2]
        · rw [if_neg h2, if_neg h2, if_neg h1]

theorem Tr.setF_comm {α : Type} : ∀ (f g : Nat) (t : Tr α) (n m : Nat) (x y : α), n < f → m < g → n ≠ m → Tr.setF g (Tr.setF f t n x) m y = Tr.setF f (Tr.setF g t m y) n x
  | 0, _, _, _, _, _, _, h, _, _ => by omega
  | _ + 1, 0, _, _, _, _, _, _, h, _ => by omega
  | f + 1, g + 1, t, n, m, x, y, h1, h2, h3 => by
    have ih := fun (t : Tr α) (n m : Nat) (a : n < f) (b : m < g) (c : n ≠ m) => Tr.setF_comm f g t n m x y a b c
    cases n with
    | zero =>
      cases m with
      | zero => omega
      | succ m =>
        cases t <;> by_cases hm : m % 2 = 0 <;> simp [Tr.setF, beq_eq, hm]
    | succ n =>
      cases m with
      | zero => cases t <;> by_cases hn : n % 2 = 0 <;> simp [Tr.setF, beq_eq, hn]
      | succ m =>
        cases t with
        | nil =>
          by_cases hn : n % 2 = 0 <;> by_cases hm : m % 2 = 0 <;> simp [Tr.setF, beq_eq, hn, hm]
          · exact ih .nil (n / 2) (m / 2) (by omega) (by omega) (by omega)
          · exact ih .nil (n / 2) (m / 2) (by omega) (by omega) (by omega)
        | node v l r =>
          by_cases hn : n % 2 = 0 <;> by_cases hm : m % 2 = 0 <;> simp [Tr.setF, beq_eq, hn, hm]
          · exact ih l (n / 2) (m / 2) (by omega) (by omega) (by omega)
          · exact ih r (n / 2) (m / 2) (by omega) (by omega) (by omega)

theorem Tr.set_comm {α : Type} (t : Tr α) (n m : Nat) (x y : α) (h : n ≠ m) : (t.set n x).set m y = (t.set m y).set n x :=
  Tr.setF_comm _ _ _ _ _ _ _ (Nat.lt_succ_self _) (Nat.lt_succ_self _) h

/-! ### what each kind of operation does to the state -/

theorem loadV_mono {t : TypeId} {x r : AV} {σ σ2 : St} (hm : ∀ l cs, Tr.get σ.h l = some cs → Tr.get σ2.h l = some cs) (h : loadV T t x σ = some r) : loadV T t x σ2 = some r := by
  unfold loadV at h ⊢
  split at h
  · split at h
    · rename_i l o
      cases hq : Tr.get σ.h l with
      | none => simp [hq] at h
      | some cs => rw [hq] at h; rw [hm l cs hq]; exact h
    · exact h
    · simp at h
  · simp at h

theorem eff1 {n j : Nat} {o : Oper} {ρ : Nat → AV} {σ σ' : St} {r : AV} (hc : cls T o.op = 1) (h : evalOp T K n j o ρ σ = some (r, σ')) :
    σ' = σ ∧ ∀ σ2, (∀ l cs, Tr.get σ.h l = some cs → Tr.get σ2.h l = some cs) → evalOp T K n j o ρ σ2 = some (r, σ2) := by
  unfold evalOp at h ⊢
  cases ho : o.op <;> simp only [ho, cls] at h hc ⊢ <;> try (simp at hc; done)
  · split at h
    · rename_i v hv
      obtain ⟨h1, rfl⟩ := pureV_some h
      exact ⟨rfl, fun σ2 hm => by rw [loadV_mono hm h1]; rfl⟩
    · simp at h
  · rename_i c
    split at hc <;> try (simp at hc; done)
    split at hc <;> try (simp at hc; done)
    split at hc <;> try (simp at hc; done)
    split at hc <;> simp at hc

theorem tokFree_iff {j : Nat} {σ : St} : tokFree j σ = true ↔ Tr.get σ.tk (σ.nb + j + 2) = none := by
  unfold tokFree
  split <;> simp_all
theorem boxFree_iff {j : Nat} {σ : St} : boxFree j σ = true ↔ Tr.get σ.h (σ.nb + j) = none := by
  unfold boxFree
  split <;> simp_all

theorem eff3 {n j : Nat} {o : Oper} {ρ : Nat → AV} {σ σ' : St} {r : AV} (hc : cls T o.op = 3) (h : evalOp T K n j o ρ σ = some (r, σ')) :
    ∃ sz, σ' = { σ with tk := Tr.set σ.tk (σ.nb + j + 2) sz } ∧ Tr.get σ.tk (σ.nb + j + 2) = none ∧ ∀ σ2 : St, σ2.nb = σ.nb → Tr.get σ2.tk (σ.nb + j + 2) = none → evalOp T K n j o ρ σ2 = some (r, { σ2 with tk := Tr.set σ2.tk (σ.nb + j + 2) sz }) := by
  unfold evalOp at h ⊢
  cases ho : o.op <;> simp only [ho, cls] at h hc ⊢ <;> try (simp at hc; done)
  case buildSlice t m ps =>
    split at h
    · rename_i l hl
      unfold buildSliceV at h ⊢
      split at h
      · rename_i e hu
        split at h
        · rename_i te ag hte hag
          split at h
          · rename_i hcond
            split at h
            · rename_i cs hcs
              split at h
              · rename_i hf
                simp only [newTok, Option.some.injEq, Prod.mk.injEq] at h
                obtain ⟨rfl, rfl⟩ := h
                have hn := tokFree_iff.1 hf.2
                refine ⟨te.size, rfl, hn, fun σ2 h1 h2 => ?_⟩
                rw [if_pos hcond, if_pos ⟨hf.1, tokFree_iff.2 (by rw [h1]; exact h2)⟩]
                simp only [newTok, h1]
              · simp at h
            · simp at h
          · simp at h
        · simp at h
      · simp at h
    · simp at h
  case makeSlice t m c =>
    split at h
    · rename_i v u hv hu
      unfold makeSliceV at h ⊢
      split at h
      · rename_i e kn N kc C hud
        split at h
        · rename_i te ag hte hag
          split at h
          · rename_i hcond
            simp only [newTok, Option.some.injEq, Prod.mk.injEq] at h
            obtain ⟨rfl, rfl⟩ := h
            obtain ⟨c1, c2, c3, c4, c5, c6, c7, c8⟩ := hcond
            have hn := tokFree_iff.1 c8
            refine ⟨te.size, rfl, hn, fun σ2 h1 h2 => ?_⟩
            rw [if_pos ⟨c1, c2, c3, c4, c5, c6, c7, tokFree_iff.2 (by rw [h1]; exact h2)⟩]
            simp only [newTok, h1]
          · simp at h
        · simp at h
      · simp at h
    · simp at h
  case call c =>
    split at h
    · rename_i vs hv
      split at h
      · rename_i b hb
        exfalso
        rw [hb] at hc
        (repeat' split at hc) <;> simp_all
      · rename_i f hf
        rw [hf] at hc
        cases f <;> try (simp at hc; done)
        rename_i fn
        simp only [opd] at h ⊢
        simp only at hc
        have hr : ∃ p, rowK T K fn = some p := by
          unfold rowK
          cases hq : T.rprim fn with
          | some p => exact ⟨p, rfl⟩
          | none =>
            cases hs : T.row fn with
            | true => exact ⟨_, rfl⟩
            | false =>
              simp only [hq, hs, Option.isSome_none, Bool.or_self] at hc
              split at hc <;> try (simp at hc; done)
              split at hc <;> simp at hc
        obtain ⟨p, hp⟩ := hr
        simp only [hp] at h ⊢
        obtain ⟨es, sz, h1, h3, rfl, rfl⟩ := rowV_some h
        refine ⟨sz, rfl, tokFree_iff.1 h3, fun σ2 q1 q2 => ?_⟩
        unfold rowV
        rw [h1]
        simp only
        rw [if_pos (tokFree_iff.2 (by rw [q1]; exact q2))]
        simp only [newTok, q1]
      · simp at h
    · simp at h

theorem eff5 {n j : Nat} {o : Oper} {ρ : Nat → AV} {σ σ' : St} {r : AV} (hc : cls T o.op = 5) (h : evalOp T K n j o ρ σ = some (r, σ')) :
    ∃ cs, σ' = { σ with h := Tr.set σ.h (σ.nb + j) cs } ∧ Tr.get σ.h (σ.nb + j) = none ∧ ∀ σ2 : St, σ2.nb = σ.nb → Tr.get σ2.h (σ.nb + j) = none → evalOp T K n j o ρ σ2 = some (r, { σ2 with h := Tr.set σ2.h (σ.nb + j) cs }) := by
  unfold evalOp at h ⊢
  cases ho : o.op <;> simp only [ho, cls] at h hc ⊢ <;> try (simp at hc; done)
  case alloc t =>
    split at h
    · rename_i ti hti
      split at h
      · rename_i hf
        simp only [newBox, Option.some.injEq, Prod.mk.injEq] at h
        obtain ⟨rfl, rfl⟩ := h
        refine ⟨ti.zero, rfl, boxFree_iff.1 hf, fun σ2 h1 h2 => ?_⟩
        rw [if_pos (boxFree_iff.2 (by rw [h1]; exact h2))]
        simp only [newBox, h1]
      · simp at h
    · simp at h
  case box t x =>
    split at h
    · rename_i v hv
      split at h
      · rename_i hf
        simp only [newBox, Option.some.injEq, Prod.mk.injEq] at h
        obtain ⟨rfl, rfl⟩ := h
        refine ⟨v.cells, rfl, boxFree_iff.1 hf.2, fun σ2 h1 h2 => ?_⟩
        rw [if_pos ⟨hf.1, boxFree_iff.2 (by rw [h1]; exact h2)⟩]
        simp only [newBox, h1]
      · simp at h
    · simp at h
  case call c =>
    split at hc <;> try (simp at hc; done)
    split at hc <;> try (simp at hc; done)
    split at hc <;> try (simp at hc; done)
    split at hc <;> simp at hc

theorem eff4 {n j : Nat} {o : Oper} {ρ : Nat → AV} {σ σ' : St} {r : AV} (hc : cls T o.op = 4) (h : evalOp T K n j o ρ σ = some (r, σ')) :
    σ'.h = σ.h ∧ σ'.nb = σ.nb := by
  unfold evalOp at h
  cases ho : o.op <;> simp only [ho, cls] at h hc <;> try (simp at hc; done)
  rename_i c
  split at h
  · rename_i vs hv
    split at h
    · rename_i b hb
      simp only [hb] at hc
      have hb' : b = .append := by cases b <;> simp at hc <;> rfl
      subst hb'
      unfold bltV at h
      split at h <;> try (simp at h; done)
      all_goals simp_all
      rename_i t u ts s x xs hts
      split at h
      · simp at h
      · unfold appV at h
        split at h
        · split at h
          · split at h
            · split at h
              · simp only [Option.some.injEq, Prod.mk.injEq] at h
                obtain ⟨rfl, rfl⟩ := h
                exact ⟨rfl, rfl⟩
              · split at h
                · split at h
                  · simp at h
                  · simp only [newTok, Option.some.injEq, Prod.mk.injEq] at h
                    obtain ⟨rfl, rfl⟩ := h
                    exact ⟨rfl, rfl⟩
                  · split at h
                    · split at h
                      · simp only [newTok, Option.some.injEq, Prod.mk.injEq] at h
                        obtain ⟨rfl, rfl⟩ := h
                        exact ⟨rfl, rfl⟩
                      · simp at h
                    · simp at h
                · simp at h
              · simp at h
            · simp at h
          · simp at h
        · simp at h
      · simp at h
    · rename_i f hf
      exfalso
      rw [hf] at hc
      (repeat' split at hc) <;> simp_all
    · simp at h
  · simp at h

/-- An append again, where a name more is taken. -/
theorem eff4x {n j : Nat} {o : Oper} {ρ : Nat → AV} {σ σ' : St} {r : AV} (hc : cls T o.op = 4) (h : evalOp T K n j o ρ σ = some (r, σ')) :
    ∃ f : Tr Nat → Tr Nat, σ' = { σ with tk := f σ.tk } ∧ (∀ t m s, m ≠ σ.nb + j + 2 → Tr.get σ.tk m = none → f (Tr.set t m s) = Tr.set (f t) m s) ∧ (∀ m, Tr.get (f σ.tk) m = none → Tr.get σ.tk m = none) ∧
      ∀ m s, m ≠ σ.nb + j + 2 → Tr.get σ.tk m = none → evalOp T K n j o ρ { σ with tk := Tr.set σ.tk m s } = some (r, { σ with tk := f (Tr.set σ.tk m s) }) := by
  unfold evalOp at h ⊢
  cases ho : o.op <;> simp only [ho, cls] at h hc ⊢ <;> try (simp at hc; done)
  rename_i c
  split at h
  · rename_i vs hv
    split at h
    · rename_i b hb
      simp only [hb] at hc
      have hb' : b = .append := by cases b <;> simp at hc <;> rfl
      subst hb'
      unfold bltV at h
      split at h <;> try (simp at h; done)
      all_goals simp_all
      rename_i t u ts s x xs hts
      unfold bltV
      simp only
      split at h
      · simp at h
      · rename_i hu1 hu2
        unfold appV at h
        split at h
        · rename_i e hud
          split at h
          · rename_i ti ag hti hag
            split at h
            · rename_i es k
              split at h
              · rename_i hel
                simp only [Option.some.injEq, Prod.mk.injEq] at h
                obtain ⟨rfl, rfl⟩ := h
                refine ⟨id, rfl, fun _ _ _ _ _ => rfl, fun _ h => h, fun m s' _ _ => ?_⟩
                unfold appV
                simp only [hud, hti, hag, hel, id]
              · rename_i y ys hel
                split at h
                · rename_i hcond
                  have hfree := tokFree_iff.1 hcond.2.2.2.2.2
                  split at h
                  · simp at h
                  · simp only [newTok, Option.some.injEq, Prod.mk.injEq] at h
                    obtain ⟨rfl, rfl⟩ := h
                    refine ⟨fun t => Tr.set t (σ.nb + j + 2) ti.size, rfl, fun t m s' h1 h2 => Tr.set_comm _ _ _ _ _ h1, fun m hm => ?_, fun m s' h1 h2 => ?_⟩
                    · rw [Tr.get_set] at hm
                      split at hm
                      · simp at hm
                      · exact hm
                    · skip
                      unfold appV
                      simp only [hud, hti, hag, hel]
                      rw [if_pos ⟨hcond.1, hcond.2.1, hcond.2.2.1, hcond.2.2.2.1, hcond.2.2.2.2.1, tokFree_iff.2 (by simp only; rw [Tr.get_set, if_neg (Ne.symm h1)]; exact hfree)⟩]
                      rfl
                  · rename_i k'
                    split at h
                    · rename_i sz hsz
                      split at h
                      · rename_i hss
                        simp only [newTok, Option.some.injEq, Prod.mk.injEq] at h
                        obtain ⟨rfl, rfl⟩ := h
                        refine ⟨fun t => Tr.set (Tr.set t (k' + 2) 0) (σ.nb + j + 2) ti.size, rfl, fun t m s' h1 h2 => ?_, fun m hm => ?_, fun m s' h1 h2 => ?_⟩
                        · have hne : m ≠ k' + 2 := fun e => by rw [e, hsz] at h2; cases h2
                          simp only
                          rw [Tr.set_comm t m (k' + 2) s' 0 hne, Tr.set_comm _ m (σ.nb + j + 2) s' ti.size h1]
                        · rw [Tr.get_set] at hm
                          split at hm
                          · simp at hm
                          · rw [Tr.get_set] at hm
                            split at hm
                            · simp at hm
                            · exact hm
                        · have hne : m ≠ k' + 2 := fun e => by rw [e, hsz] at h2; cases h2
                          unfold appV
                          simp only [hud, hti, hag, hel]
                          rw [if_pos ⟨hcond.1, hcond.2.1, hcond.2.2.1, hcond.2.2.2.1, hcond.2.2.2.2.1, tokFree_iff.2 (by simp only; rw [Tr.get_set, if_neg (Ne.symm h1)]; exact hfree)⟩]
                          simp only [Tr.get_set, if_neg (Ne.symm hne), hsz, if_pos hss]
                          rfl
                      · simp at h
                    · simp at h
                · simp at h
              · simp at h
            · simp at h
          · simp at h
        · simp at h
      · simp at h
    · rename_i f hf
      exfalso
      rw [hf] at hc
      (repeat' split at hc) <;> simp_all
    · simp at h
  · simp at h

theorem okCls_spec {a b : Nat} (h : okCls a b = true) : a = 0 ∨ b = 0 ∨ (a = 1 ∧ (b = 1 ∨ b = 3 ∨ b = 4 ∨ b = 5)) ∨ (a = 3 ∧ (b = 1 ∨ b = 3)) ∨ (a = 4 ∧ b = 1) ∨ (a = 5 ∧ b = 5) ∨ (a = 4 ∧ b = 3) := by
  unfold okCls at h
  split at h <;> simp_all

theorem swapOp {n jx ji : Nat} (hne : jx ≠ ji) {x i : Oper} {ρ : Nat → AV} {σ σx σi : St} {v u : AV} (hc : okCls (cls T x.op) (cls T i.op) = true) (hex : evalOp T K n jx x ρ σ = some (v, σx)) (hei : evalOp T K n ji i ρ σx = some (u, σi)) :
    ∃ σ', evalOp T K n ji i ρ σ = some (u, σ') ∧ evalOp T K n jx x ρ σ' = some (v, σi) := by
  rcases okCls_spec hc with h | h | ⟨h, h' | h' | h' | h'⟩ | ⟨h, h' | h'⟩ | ⟨h, h'⟩ | ⟨h, h'⟩ | ⟨h, h'⟩
  · obtain ⟨rfl, hs⟩ := silent h hex
    exact ⟨_, hei, hs _⟩
  · obtain ⟨rfl, hs⟩ := silent h hei
    exact ⟨_, hs _, hex⟩
  · obtain ⟨rfl, hs⟩ := eff1 h hex
    obtain ⟨rfl, hs'⟩ := eff1 h' hei
    exact ⟨_, hei, hex⟩
  · obtain ⟨rfl, hs⟩ := eff1 h hex
    obtain ⟨sz, rfl, h1, h2⟩ := eff3 h' hei
    exact ⟨_, hei, hs _ fun l cs hl => hl⟩
  · obtain ⟨rfl, hs⟩ := eff1 h hex
    obtain ⟨h1, h2⟩ := eff4 h' hei
    exact ⟨_, hei, hs _ fun l cs hl => by rw [h1]; exact hl⟩
  · obtain ⟨rfl, hs⟩ := eff1 h hex
    obtain ⟨cs, rfl, h1, h2⟩ := eff5 h' hei
    refine ⟨_, hei, hs _ fun l cs hl => ?_⟩
    rw [Tr.get_set, if_neg (fun e => by rw [e, h1] at hl; simp at hl)]
    exact hl
  · obtain ⟨sz, rfl, h1, h2⟩ := eff3 h hex
    obtain ⟨rfl, hs⟩ := eff1 h' hei
    exact ⟨_, hs _ fun l cs hl => hl, hex⟩
  · obtain ⟨sz, rfl, h1, h2⟩ := eff3 h hex
    obtain ⟨sz', rfl, h3, h4⟩ := eff3 h' hei
    simp only at h3 h4
    rw [Tr.get_set, if_neg (by omega)] at h3
    refine ⟨_, h4 σ rfl h3, ?_⟩
    have hg : Tr.get (Tr.set σ.tk (σ.nb + ji + 2) sz') (σ.nb + jx + 2) = none := by rw [Tr.get_set, if_neg (by omega)]; exact h1
    refine (h2 { σ with tk := Tr.set σ.tk (σ.nb + ji + 2) sz' } rfl hg).trans ?_
    have hcm := Tr.set_comm σ.tk (σ.nb + ji + 2) (σ.nb + jx + 2) sz' sz (by omega)
    simp only [hcm]
  · obtain ⟨h1, h2⟩ := eff4 h hex
    obtain ⟨rfl, hs⟩ := eff1 h' hei
    exact ⟨_, hs _ fun l cs hl => by rw [← h1]; exact hl, hex⟩
  · obtain ⟨cs, rfl, h1, h2⟩ := eff5 h hex
    obtain ⟨cs', rfl, h3, h4⟩ := eff5 h' hei
    simp only at h3 h4
    rw [Tr.get_set, if_neg (by omega)] at h3
    refine ⟨_, h4 σ rfl h3, ?_⟩
    have hg : Tr.get (Tr.set σ.h (σ.nb + ji) cs') (σ.nb + jx) = none := by rw [Tr.get_set, if_neg (by omega)]; exact h1
    refine (h2 { σ with h := Tr.set σ.h (σ.nb + ji) cs' } rfl hg).trans ?_
    have hcm := Tr.set_comm σ.h (σ.nb + ji) (σ.nb + jx) cs' cs (by omega)
    simp only [hcm]
  · obtain ⟨f, rfl, h1, h2, h3⟩ := eff4x h hex
    obtain ⟨sz, rfl, h4, h5⟩ := eff3 h' hei
    simp only at h4 h5
    have h6 := h2 _ h4
    refine ⟨_, h5 σ rfl h6, ?_⟩
    refine (h3 _ sz (by omega) h6).trans ?_
    rw [h1 _ _ _ (by omega) h6]

theorem loadV_local {t : TypeId} {l o : Nat} {r : AV} {σ σ2 : St} (hm : Tr.get σ2.h l = Tr.get σ.h l) (h : loadV T t (.p l o) σ = some r) : loadV T t (.p l o) σ2 = some r := by
  unfold loadV at h ⊢
  split at h
  · simp only [hm]; exact h
  · simp at h

theorem storeV_local {t : TypeId} {l o : Nat} {v : AV} {σ σ' : St} (h : storeV T t (.p l o) v σ = some σ') : ∃ cs, σ' = { σ with h := Tr.set σ.h l cs } ∧ ∀ σ2 : St, Tr.get σ2.h l = Tr.get σ.h l → storeV T t (.p l o) v σ2 = some { σ2 with h := Tr.set σ2.h l cs } := by
  unfold storeV at h ⊢
  split at h
  · rename_i ti l' o' hti heq
    simp only [AV.p.injEq] at heq
    obtain ⟨rfl, rfl⟩ := heq
    split at h
    · rename_i cs hcs
      simp only at h
      split at h
      · rename_i hc
        simp only [Option.some.injEq] at h
        subst h
        refine ⟨_, rfl, fun σ2 h2 => ?_⟩
        rw [h2, hcs]
        simp only
        rw [if_pos hc]
      · simp at h
    · simp at h
  · simp at h

/-- What a load or a store does, at a variable. -/
inductive Ldst (T : Tab) (K : CallK) (n j : Nat) (o : Oper) (ρ : Nat → AV) (σ σ' : St) (r : AV) (l : Nat) : Prop where
  | load : σ' = σ → (∀ σ2 : St, Tr.get σ2.h l = Tr.get σ.h l → evalOp T K n j o ρ σ2 = some (r, σ2)) → Ldst T K n j o ρ σ σ' r l
  | store (cs) : σ' = { σ with h := Tr.set σ.h l cs } → (∀ σ2 : St, Tr.get σ2.h l = Tr.get σ.h l → evalOp T K n j o ρ σ2 = some (r, { σ2 with h := Tr.set σ2.h l cs })) → Ldst T K n j o ρ σ σ' r l

theorem ldst {n j : Nat} {o : Oper} {ρ : Nat → AV} {σ σ' : St} {r : AV} {a l c : Nat} (ha : addrT o.op = some a) (hl : ρ a = .p l c) (h : evalOp T K n j o ρ σ = some (r, σ')) : Ldst T K n j o ρ σ σ' r l := by
  unfold addrT at ha
  split at ha
  · rename_i t a' ho
    simp only [Option.some.injEq] at ha; subst ha
    have h' := h
    unfold evalOp at h'
    simp only [ho, opd, hl] at h'
    obtain ⟨h1, rfl⟩ := pureV_some h'
    refine .load rfl fun σ2 h2 => ?_
    unfold evalOp
    simp only [ho, opd, hl, loadV_local h2 h1]
    rfl
  · rename_i t a' y ho
    simp only [Option.some.injEq] at ha; subst ha
    have h' := h
    unfold evalOp at h'
    simp only [ho, opd, hl] at h'
    split at h'
    · rename_i v u hv hu
      simp only [Option.some.injEq] at hv; subst hv
      split at h'
      · rename_i σ1 hs
        simp only [Option.some.injEq, Prod.mk.injEq] at h'
        obtain ⟨rfl, rfl⟩ := h'
        obtain ⟨cs, e, h2⟩ := storeV_local hs
        refine .store cs e fun σ2 h3 => ?_
        unfold evalOp
        simp only [ho, opd, hl, hu, h2 σ2 h3]
      · simp at h'
    · simp at h'
  · simp at ha

/-- What is read of cells that nobody writes. -/
theorem ldIp {n j : Nat} {o : Oper} {ρ : Nat → AV} {σ σ' : St} {r : AV} {a : Nat} {cs : List AV} (ha : addrT o.op = some a) (hl : ρ a = .ip cs) (h : evalOp T K n j o ρ σ = some (r, σ')) : σ' = σ ∧ ∀ σ2, evalOp T K n j o ρ σ2 = some (r, σ2) := by
  unfold addrT at ha
  split at ha
  · rename_i t a' ho
    simp only [Option.some.injEq] at ha; subst ha
    have h' := h
    unfold evalOp at h'
    simp only [ho, opd, hl] at h'
    obtain ⟨h1, rfl⟩ := pureV_some h'
    refine ⟨rfl, fun σ2 => ?_⟩
    unfold evalOp
    have h2 : loadV T t (.ip cs) σ2 = some r := by unfold loadV at h1 ⊢; exact h1
    simp only [ho, opd, hl, h2]
    rfl
  · rename_i t a' y ho
    simp only [Option.some.injEq] at ha; subst ha
    have h' := h
    unfold evalOp at h'
    simp only [ho, opd, hl] at h'
    split at h'
    · rename_i v u hv hu
      split at h'
      · rename_i σ1 hs
        have hv : AV.ip cs = v := by simpa using hv
        subst hv
        unfold storeV at hs
        split at hs
        · rename_i h3; simp at h3
        · cases hs
      · simp at h'
    · simp at h'
  · simp at ha

theorem swapDyn {n jx ji : Nat} {x i : Oper} {ρ : Nat → AV} {σ σx σi : St} {v u : AV} {a b : Nat} (ha : addrT x.op = some a) (hb : addrT i.op = some b) (hf : farV (ρ a) (ρ b) = true) (hex : evalOp T K n jx x ρ σ = some (v, σx)) (hei : evalOp T K n ji i ρ σx = some (u, σi)) :
    ∃ σ', evalOp T K n ji i ρ σ = some (u, σ') ∧ evalOp T K n jx x ρ σ' = some (v, σi) := by
  have hl : (∃ l c l' c', ρ a = .p l c ∧ ρ b = .p l' c' ∧ l ≠ l') ∨ (∃ cs, ρ a = .ip cs) ∨ (∃ cs, ρ b = .ip cs) := by
    unfold farV at hf
    split at hf
    · rename_i l c l' c' e1 e2
      exact .inl ⟨l, c, l', c', e1, e2, fun e => by subst e; simp [Nat.beq_refl] at hf⟩
    · rename_i e1 e2; exact .inr (.inl ⟨_, e1⟩)
    · rename_i e1 e2; exact .inr (.inr ⟨_, e2⟩)
    · simp at hf
  rcases hl with ⟨l, c, l', c', e1, e2, hne⟩ | ⟨cs, e1⟩ | ⟨cs, e2⟩
  · have hgo : ∀ (t : Tr (List AV)) (cs : List AV), Tr.get (Tr.set t l cs) l' = Tr.get t l' := fun t cs => by rw [Tr.get_set, if_neg (fun e => hne e.symm)]
    have hgo' : ∀ (t : Tr (List AV)) (cs : List AV), Tr.get (Tr.set t l' cs) l = Tr.get t l := fun t cs => by rw [Tr.get_set, if_neg hne]
    rcases ldst ha e1 hex with ⟨rfl, hx⟩ | ⟨cs, rfl, hx⟩ <;> rcases ldst hb e2 hei with ⟨rfl, hi⟩ | ⟨cs', rfl, hi⟩
    · exact ⟨_, hi _ rfl, hx _ rfl⟩
    · refine ⟨_, hi _ rfl, hx _ (hgo' _ _)⟩
    · exact ⟨_, hi σ (hgo _ _).symm, hx _ rfl⟩
    · refine ⟨_, hi σ (hgo _ _).symm, (hx { σ with h := Tr.set σ.h l' cs' } (hgo' _ _)).trans ?_⟩
      have hcm := Tr.set_comm σ.h l' l cs' cs (fun e => hne e.symm)
      simp only [hcm]
  · obtain ⟨rfl, hx⟩ := ldIp ha e1 hex
    exact ⟨_, hei, hx _⟩
  · obtain ⟨rfl, hi⟩ := ldIp hb e2 hei
    exact ⟨_, hi _, hex⟩

theorem swap {jx ji : Nat} {x i : Oper} (hap : x.apart ops i = true) {ρ : Nat → AV} (key : ∀ {σx σi : St} {v u : AV}, evalOp T K ops.size jx x ρ σ = some (v, σx) → evalOp T K ops.size ji i ρ σx = some (u, σi) → ∃ σ', evalOp T K ops.size ji i ρ σ = some (u, σ') ∧ evalOp T K ops.size jx x ρ σ' = some (v, σi)) {ρ1 ρ2 : Nat → AV} {σ1 σ2 : St} (h1 : stepV T K ops jx x ρ σ = some (ρ1, σ1)) (h2 : stepV T K ops ji i ρ1 σ1 = some (ρ2, σ2)) :
    ∃ ρ' σ', stepV T K ops ji i ρ σ = some (ρ', σ') ∧ stepV T K ops jx x ρ' σ' = some (ρ2, σ2) := by
  obtain ⟨a1, a2, a3⟩ := Oper.apart_spec hap
  have hdd : ∀ t, x.dst = some t → i.dst ≠ some t := a2
  have hdd' : ∀ t, i.dst = some t → x.dst ≠ some t := fun t h h' => a2 t h' h
  unfold stepV at h1 h2 ⊢
  -- x first
  cases hwx : wantV ops x ρ with
  | false =>
    rw [hwx] at h1
    simp only [Option.some.injEq, Prod.mk.injEq] at h1
    obtain ⟨rfl, rfl⟩ := h1
    rw [wantV_upd a1, evalOp_upd a1] at h2
    cases hwi : wantV ops i ρ with
    | false =>
      rw [hwi] at h2
      simp only [Option.some.injEq, Prod.mk.injEq] at h2
      obtain ⟨rfl, rfl⟩ := h2
      refine ⟨_, _, rfl, ?_⟩
      rw [wantV_upd a3, hwx]
      simp only [updO_comm hdd]
    | true =>
      rw [hwi] at h2
      simp only at h2 ⊢
      split at h2
      · rename_i v σ' he
        simp only [Option.some.injEq, Prod.mk.injEq] at h2
        obtain ⟨rfl, rfl⟩ := h2
        refine ⟨_, _, rfl, ?_⟩
        rw [wantV_upd a3, hwx]
        simp only [updO_comm hdd]
      · simp at h2
  | true =>
    rw [hwx] at h1
    simp only at h1
    split at h1
    · rename_i v σx hex
      simp only [Option.some.injEq, Prod.mk.injEq] at h1
      obtain ⟨rfl, rfl⟩ := h1
      rw [wantV_upd a1, evalOp_upd a1] at h2
      cases hwi : wantV ops i ρ with
      | false =>
        rw [hwi] at h2
        simp only [Option.some.injEq, Prod.mk.injEq] at h2
        obtain ⟨rfl, rfl⟩ := h2
        refine ⟨_, _, rfl, ?_⟩
        rw [wantV_upd a3, hwx, evalOp_upd a3, hex]
        simp only [updO_comm hdd]
      | true =>
        rw [hwi] at h2
        simp only at h2 ⊢
        split at h2
        · rename_i u σi hei
          simp only [Option.some.injEq, Prod.mk.injEq] at h2
          obtain ⟨rfl, rfl⟩ := h2
          obtain ⟨σ', k1, k2⟩ := key hex hei
          refine ⟨updO ρ i.dst u, σ', by rw [k1], ?_⟩
          rw [wantV_upd a3, hwx, evalOp_upd a3, k2]
          simp only [updO_comm hdd]
        · simp at h2
    · simp at h1

/-- Nothing of a list gives a temporary. -/
def Quiet (a : Nat) (L : List (Nat × Oper)) : Prop := ∀ y ∈ L, y.2.dst ≠ some a

theorem stepV_quiet {j : Nat} {o : Oper} {ρ ρ' : Nat → AV} {σ σ' : St} {a : Nat} (hd : o.dst ≠ some a) (h : stepV T K ops j o ρ σ = some (ρ', σ')) : ρ' a = ρ a := by
  have hu : ∀ v, updO ρ o.dst v a = ρ a := fun v => by
    cases hq : o.dst with
    | none => rfl
    | some d => simp only [updO, upd]; rw [if_neg (fun e => hd (by rw [hq, e]))]
  unfold stepV at h
  split at h
  · split at h
    · simp only [Option.some.injEq, Prod.mk.injEq] at h
      rw [← h.1]; exact hu _
    · simp at h
  · simp only [Option.some.injEq, Prod.mk.injEq] at h
    rw [← h.1]; exact hu _

theorem stepsV_quiet {a : Nat} : ∀ {L : List (Nat × Oper)} {ρ ρ' : Nat → AV} {σ σ' : St}, Quiet a L → stepsV T K ops L ρ σ = some (ρ', σ') → ρ' a = ρ a
  | [], ρ, ρ', σ, σ', _, h => by simp only [stepsV, Option.some.injEq, Prod.mk.injEq] at h; rw [h.1]
  | (j, o) :: L, ρ, ρ', σ, σ', hq, h => by
    simp only [stepsV] at h
    split at h
    · rename_i ρ1 σ1 h1
      rw [stepsV_quiet (fun y hy => hq y (List.mem_cons_of_mem _ hy)) h]
      exact stepV_quiet (hq (j, o) List.mem_cons_self) h1
    · simp at h

/-- Two that may change places, where the frame ends as one. -/
def mayPass (T : Tab) (ops : Array Oper) (ρf : Nat → AV) (x i : Oper) : Prop := okPair T ops x i = true ∨ okDyn ops ρf x i = true

/-- An operation that may stand beside all ahead of it may be taken first. -/
theorem first {ji : Nat} {i : Oper} {ρf : Nat → AV} {σf : St} {ys : List (Nat × Oper)} : ∀ (xs : List (Nat × Oper)) {ρ : Nat → AV} {σ : St}, (∀ x ∈ xs, x.1 ≠ ji) →
    (∀ pre x post, xs = pre ++ x :: post → okPair T ops x.2 i = true ∨ (okDyn ops ρf x.2 i = true ∧ (∀ a, addrT x.2.op = some a → Quiet a (x :: (post ++ (ji, i) :: ys))) ∧ (∀ b, addrT i.op = some b → Quiet b (x :: (post ++ (ji, i) :: ys))))) →
    stepsV T K ops (xs ++ (ji, i) :: ys) ρ σ = some (ρf, σf) →
    ∃ ρ' σ', stepV T K ops ji i ρ σ = some (ρ', σ') ∧ stepsV T K ops (xs ++ ys) ρ' σ' = some (ρf, σf)
  | [], ρ, σ, _, _, h => by
    simp only [List.nil_append, stepsV] at h ⊢
    split at h
    · rename_i ρ1 σ1 h1
      exact ⟨ρ1, σ1, h1, h⟩
    · simp at h
  | (j, x) :: xs, ρ, σ, hn, hx, h => by
    have hall := h
    simp only [List.cons_append, stepsV] at h ⊢
    split at h
    · rename_i ρ1 σ1 h1
      obtain ⟨ρ2, σ2, h2, h3⟩ := first xs (fun y hy => hn y (List.mem_cons_of_mem _ hy)) (fun pre y post e => hx ((j, x) :: pre) y post (by rw [e]; rfl)) h
      have hsw : ∃ ρ' σ', stepV T K ops ji i ρ σ = some (ρ', σ') ∧ stepV T K ops j x ρ' σ' = some (ρ2, σ2) := by
        rcases hx [] (j, x) xs rfl with hp | ⟨hp, hqa, hqb⟩
        · unfold okPair at hp
          simp only [Bool.and_eq_true] at hp
          exact swap hp.1 (fun hex hei => swapOp (hn (j, x) List.mem_cons_self) hp.2 hex hei) h1 h2
        · unfold okDyn at hp
          simp only [Bool.and_eq_true] at hp
          obtain ⟨hap, hp⟩ := hp
          split at hp
          · rename_i a b ha hb
            have e1 := stepsV_quiet (hqa a ha) hall
            have e2 := stepsV_quiet (hqb b hb) hall
            rw [e1, e2] at hp
            exact swap hap (fun hex hei => swapDyn ha hb hp hex hei) h1 h2
          · simp at hp
      obtain ⟨ρ3, σ3, h4, h5⟩ := hsw
      exact ⟨ρ3, σ3, h4, by rw [h5]; exact h3⟩
    · simp at h

theorem masks_get : ∀ (os : List Oper) (acc : List Nat) (j : Nat), j < acc.length → (masks os acc).getD j 0 = acc.getD j 0
  | [], acc, j, _ => rfl
  | o :: os, acc, j, h => by
    rw [masks, masks_get os _ j (by simp; omega)]
    simp [List.getD, List.getElem?_append_left h]

theorem masks_at : ∀ (os : List Oper) (acc : List Nat) (j : Nat) (o : Oper), os[j]? = some o → ∃ acc', (∀ k, k < acc.length + j → acc'.getD k 0 = (masks os acc).getD k 0) ∧ (∀ k, acc.length + j ≤ k → acc'.getD k 0 = 0) ∧ (masks os acc).getD (acc.length + j) 0 = maskOf acc' o
  | [], acc, j, o, h => by simp at h
  | q :: os, acc, 0, o, h => by
    simp at h; subst h
    refine ⟨acc, fun k hk => ?_, fun k hk => ?_, ?_⟩
    · rw [masks, masks_get os _ k (by simp; omega)]
      simp [List.getD, List.getElem?_append_left (show k < acc.length by omega)]
    · simp [List.getD, List.getElem?_eq_none (show acc.length ≤ k by omega)]
    · rw [masks, masks_get os _ _ (by simp)]
      simp [List.getD]
  | q :: os, acc, j + 1, o, h => by
    have h' : os[j]? = some o := by simpa using h
    have hl : (acc ++ [maskOf acc q]).length + j = acc.length + (j + 1) := by simp; omega
    obtain ⟨acc', h1, h2, h3⟩ := masks_at os (acc ++ [maskOf acc q]) j o h'
    rw [hl] at h1 h2 h3
    exact ⟨acc', h1, h2, h3⟩

theorem maskOf_bit {acc : List Nat} {x : Nat} : ∀ (es : List Edge) (s : Nat), (es.foldl (maskStep acc) s).testBit x = true → s.testBit x = true ∨ ∃ e ∈ es, Region.binds .any e = true ∧ (e.on = x ∨ (acc.getD e.on 0).testBit x = true)
  | [], s, h => .inl h
  | e :: es, s, h => by
    rw [List.foldl_cons] at h
    rcases maskOf_bit es _ h with h1 | ⟨e', h1, h2⟩
    · unfold maskStep at h1
      cases hb : Region.binds .any e with
      | false => rw [hb] at h1; exact .inl h1
      | true =>
        rw [hb] at h1
        simp only [Nat.testBit_or, Bool.or_eq_true] at h1
        rcases h1 with h1 | h1 | h1
        · exact .inl h1
        · rw [Nat.testBit_two_pow] at h1
          exact .inr ⟨e, List.mem_cons_self, hb, .inl (by simpa using h1)⟩
        · exact .inr ⟨e, List.mem_cons_self, hb, .inr h1⟩
    · exact .inr ⟨e', List.mem_cons_of_mem _ h1, h2⟩

/-- What has come up is closed: with an operation all that it waits for. -/
def Closed (ops : Array Oper) (listed : Array Bool) : Prop := ∀ (j : Nat) o, ops[j]? = some o → listed.getD j true = true → ∀ e ∈ o.after.toList, Region.binds .any e = true → listed.getD e.on false = true

theorem ahead_listed {listed : Array Bool} (hs : listed.size = ops.size) (hcl : Closed ops listed) : ∀ (j : Nat) (o : Oper), ops[j]? = some o → (∀ e ∈ o.after.toList, Region.binds .any e = true → listed.getD e.on false = true) →
    ∀ x, ((masks ops.toList []).getD j 0).testBit x = true → listed.getD x false = true := by
  intro j
  induction j using Nat.strongRecOn with
  | _ j ih =>
    intro o ho ha x hx
    obtain ⟨acc', h1, h2, h3⟩ := masks_at ops.toList [] j o (by simpa using ho)
    simp only [List.length_nil, Nat.zero_add] at h1 h2 h3
    rw [h3] at hx
    rcases maskOf_bit _ _ hx with hx | ⟨e, he, hb, hx | hx⟩
    · simp at hx
    · subst hx; exact ha e he hb
    · have hl := ha e he hb
      rcases Nat.lt_or_ge e.on j with hlt | hge
      · rw [h1 _ hlt] at hx
        have hsz : e.on < ops.size := by
          rcases Nat.lt_or_ge e.on ops.size with h | h
          · exact h
          · rw [Array.getD_eq_getD_getElem?, Array.getElem?_eq_none (by omega)] at hl; simp at hl
        have hlt' : listed.getD e.on true = true := by
          rw [Array.getD_eq_getD_getElem?] at hl ⊢
          have : e.on < listed.size := by omega
          simpa [Array.getElem?_eq_getElem this] using hl
        exact ih e.on hlt ops[e.on] (by simp [hsz]) (hcl e.on ops[e.on] (by simp [hsz]) hlt') x hx
      · rw [h2 _ hge] at hx; simp at hx

/-- What has not come up yet, in the text's order. -/
def remaining (ops : Array Oper) (listed : Array Bool) : List (Nat × Oper) := (List.range ops.size).filterMap fun i => if listed.getD i true then none else ops[i]?.map fun o => (i, o)

theorem okPairsD_spec {m : List Nat} {ρ : Nat → AV} : ∀ (os : List Oper) (i : Nat), ops.toList.drop i = os → okPairsD T ops m ρ i os = true → ∀ (j : Nat) o, os[j]? = some o → okEdges o (i + j) = true ∧ ∀ x q, ops[x]? = some q → x < i + j → (m.getD (i + j) 0).testBit x = true ∨ okPair T ops q o = true ∨ (okDyn ops ρ q o = true ∧ stab ops m x q = true ∧ stab ops m (i + j) o = true)
  | [], i, _, _, j, o, h => by simp at h
  | p :: os, i, hd, h, j, o, hj => by
    simp only [okPairsD, Bool.and_eq_true] at h
    obtain ⟨⟨h1, h2⟩, h3⟩ := h
    cases j with
    | zero =>
      simp at hj; subst hj
      refine ⟨h1, fun x q hq hlt => ?_⟩
      have hm : (q, x) ∈ (ops.toList.take i).zipIdx := by
        rw [List.mem_zipIdx_iff_getElem?]
        rw [List.getElem?_take, if_pos (by omega)]
        simpa using hq
      have := List.all_eq_true.1 h2 _ hm
      simp only [Bool.or_eq_true, Bool.and_eq_true] at this
      rcases this with (h | h) | ⟨⟨h, h'⟩, h''⟩
      · exact .inl h
      · exact .inr (.inl h)
      · exact .inr (.inr ⟨h, h', h''⟩)
    | succ j =>
      have := okPairsD_spec os (i + 1) (by rw [← List.drop_drop, hd]; rfl) h3 j o (by simpa using hj)
      rw [show i + 1 + j = i + (j + 1) by omega] at this
      exact this

theorem okPairsD_of {m : List Nat} (ρ : Nat → AV) : ∀ (os : List Oper) (i : Nat), okPairs T ops m i os = true → okPairsD T ops m ρ i os = true
  | [], _, _ => rfl
  | o :: os, i, h => by
    simp only [okPairs, okPairsD, Bool.and_eq_true, List.all_eq_true, Bool.or_eq_true] at h ⊢
    exact ⟨⟨h.1.1, fun x hx => .inl (h.1.2 x hx)⟩, okPairsD_of ρ os (i + 1) h.2⟩

theorem stab_quiet {m : List Nat} {j : Nat} {o : Oper} {a : Nat} (h : stab ops m j o = true) (ha : addrT o.op = some a) {k : Nat} {q : Oper} (hq : ops[k]? = some q) (hd : q.dst = some a) : k < j ∧ (m.getD j 0).testBit k = true := by
  unfold stab at h
  rw [ha] at h
  have hm : (q, k) ∈ ops.toList.zipIdx := by
    rw [List.mem_zipIdx_iff_getElem?]; simpa using hq
  have := List.all_eq_true.1 h _ hm
  simp only [hd, Nat.beq_refl, Bool.not_true, Bool.false_or, Bool.and_eq_true] at this
  exact ⟨by simpa [Nat.blt_eq] using this.1, this.2⟩
end
end Go.Pv
