/- The bytes of a string that is made of bytes; bytes appended, of whatever number; how long bytes are. (PvZ6) -/
import Derived.Test.YtigcolhieieakaaDoorPvE8
namespace Go.Pv
open Go Go.Proofs Go.RowKit
set_option linter.unusedVariables false
set_option linter.unusedSimpArgs false
set_option maxRecDepth 100000

theorem bytesOf_u8s : ∀ l : List Int, bytesOf (u8s l) = some (l.map fun n => UInt8.ofNat n.toNat)
  | [] => rfl
  | x :: xs => by
    show (match bytesOf (u8s xs) with | some l => some (UInt8.ofNat x.toNat :: l) | none => none) = _
    rw [bytesOf_u8s xs]; rfl

theorem TokOk.as {h h' : Tr (List AV)} {tk : Tr Nat} {nb nb' κ : Nat} {bs bs' : List Int} (t : TokOk ⟨h, tk, nb⟩ bs κ) (e : bs = bs') : TokOk ⟨h', tk, nb'⟩ bs' κ := e ▸ t

theorem TokOk.as2 {h h' : Tr (List AV)} {tk : Tr Nat} {nb nb' κ a v : Nat} {bs bs' : List Int} (t : TokOk ⟨h, tk, nb⟩ bs κ) (e : bs = bs') (ne : κ ≠ a) : TokOk ⟨h', Tr.set tk a v, nb'⟩ bs' κ := e ▸ t.set ne

/-- Bytes appended, of whatever number: none too. -/
theorem app_any {h : Tr (List AV)} {tk : Tr Nat} {nb : Nat} {j : Nat} {bs zs : List Int} {κ kk : Nat} {Q : AV → St → Prop} (hk : TokOk ⟨h, tk, nb⟩ bs κ) (hκ : κ < nb + j + 2) (hl : bs.length + zs.length < 1099511627776) (hfree : tokFree j ⟨h, tk, nb⟩ = true)
    (q : ∀ κ' tk', TokOk ⟨h, tk', nb⟩ (bs ++ zs) κ' → κ' < nb + j + 3 → (∀ n, FreeT tk n → nb + j + 2 < n + 2 → FreeT tk' n) → Q (.sl (u8s (bs ++ zs)) κ') ⟨h, tk', nb⟩) :
    pW (appV TS j 22 (.sl (u8s bs) κ) (.sl (u8s zs) kk) ⟨h, tk, nb⟩) Q := by
  cases zs with
  | nil =>
    have e : appV TS j 22 (.sl (u8s bs) κ) (.sl (u8s []) kk) ⟨h, tk, nb⟩ = some (.sl (u8s bs) κ, ⟨h, tk, nb⟩) := by
      unfold appV
      simp only [undF, infF, aggF, elemsV]
      rfl
    rw [e, pW_some]
    have := q κ tk (by simpa using hk) (by omega) (fun n hn _ => hn)
    simpa using this
  | cons y ys =>
    rw [app_u8s hk (by simp only [List.length_cons] at hl; omega) hfree, pW_some]
    show Q (.sl (u8s (bs ++ y :: ys)) (nb + j + 2)) ⟨h, Tr.set (if κ = 1 then tk else Tr.set tk κ 0) (nb + j + 2) 1, nb⟩
    refine q _ _ (.here (by omega)) (by omega) (fun n hn h1 => ?_)
    intro k hk1
    rw [Tr.get_set]
    by_cases hk2 : k = nb + j + 2
    · omega
    · rw [if_neg hk2]
      split
      · exact hn k hk1
      · rw [Tr.get_set, if_neg (by omega)]; exact hn k hk1

theorem encU_le : ∀ (k v : Nat), v < 128 ^ (k + 1) → (encU v).length ≤ k + 1
  | 0, v, h => by rw [encU_lt (by simpa using h)]; simp
  | k + 1, v, h => by
    by_cases h1 : v < 128
    · rw [encU_lt h1]; simp
    · rw [encU_ge h1]
      have := encU_le k (v / 128) (by rw [Nat.pow_succ] at h; omega)
      simp only [List.length_cons]; omega
theorem encSF_le : ∀ (f : Nat) (v : Int), (encSF f v).length ≤ f + 1
  | 0, v => by simp [encSF]
  | f + 1, v => by
    have := encSF_le f (v / 128)
    simp only [encSF]
    split <;> simp only [List.length_cons, List.length_nil] <;> omega
theorem encU_10 {v : Nat} (h : v < 18446744073709551616) : (encU v).length ≤ 10 := encU_le 9 v (Nat.lt_of_lt_of_le h (by decide))
theorem encS_10 (v : Int) : (encS v).length ≤ 11 := encSF_le 10 v
theorem flat_le (ls : List Int) (h : ∀ x ∈ ls, 0 ≤ x ∧ x ≤ 4294967295) : (ls.flatMap (fun x => encU x.toNat)).length ≤ 10 * ls.length := by
  induction ls with
  | nil => simp
  | cons x xs ih =>
    have h1 := ih fun y hy => h y (List.mem_cons_of_mem _ hy)
    have h2 := encU_10 (v := x.toNat) (by have := h x (by simp); omega)
    simp only [List.flatMap_cons, List.length_append, List.length_cons]; omega
theorem L.enc_le : ∀ (l : L), l.wf → l.enc.length ≤ 32 * l.sz
  | .nil, _ => by simp [L.enc]
  | .cons op n al off res b e ls r, hw => by
    obtain ⟨_, _, hal, hoff, _, hbw, hew, hls, hrw⟩ := hw
    have h1 := L.enc_le b hbw
    have h2 := L.enc_le e hew
    have h3 := L.enc_le r hrw
    have h4 := flat_le ls hls
    have h5 := encS_10 n
    have h6 := encU_10 (fw_u64_lt n)
    have h7 := encU_10 (v := al.toNat) (by omega)
    have h8 := encU_10 (v := off.toNat) (by omega)
    have h9 := encU_10 (fw_u64_lt (fw .i64 ((ls.length : Int) - 1)))
    simp only [L.enc, L.sz, List.length_append]
    have : (encI op n al off res ls b.enc e.enc e.len).length ≤ 32 + 32 * ls.length + 32 * b.sz + 32 * e.sz := by
      unfold encI
      split
      · simp
      · unfold encF
        simp only [List.length_cons]
        (repeat' split) <;> (try simp only [List.length_append, List.length_cons, List.length_nil]) <;> omega
    omega
end Go.Pv
