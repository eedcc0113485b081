/- The document's reader: list, Decode. (PvZ6) -/
import Derived.Test.YtigcolhieieakaaDoorPvD12
import Derived.Test.YtigcolhieieakaaDoorPvE0
import Derived.Test.YtigcolhieieakaaDoorPvE0b
namespace Go.Pv
open Go Go.Proofs Go.RowKit
set_option linter.unusedVariables false
set_option linter.unusedSimpArgs false
set_option maxRecDepth 100000

theorem u29 : TS.und 29 = some (.slice 63) := by simp only [undF]
theorem i63 : TS.inf 63 = some (⟨8, 104, [.i .u8 0, .i .i64 0, .i .u32 0, .i .u32 0, .i .u8 0, .sl [] 1, .sl [] 1, .sl [] 1]⟩) := by simp only [infF]
theorem a63 : TS.isAgg 63 = some true := by simp only [aggF]

noncomputable def K24 : Code := cl (cr (cr (fb Tryd.f24)))
noncomputable def Y24 : Code := cl (cl (cl (cr (cr (fb Tryd.f24)))))
noncomputable def A24 : Code := cl (cl (cl (cl (cr (cr (fb Tryd.f24))))))
noncomputable def B24 : Code := cl (cr (cl (cl (cl (cr (cr (fb Tryd.f24)))))))
noncomputable def C24 : Code := cl (cr (cr (cl (cl (cl (cr (cr (fb Tryd.f24))))))))
noncomputable def D24 : Code := cl (cr (cr (cr (cl (cl (cl (cr (cr (fb Tryd.f24)))))))))
noncomputable def E24 : Code := cl (cr (cr (cr (cr (cl (cl (cl (cr (cr (fb Tryd.f24))))))))))
noncomputable def F24 : Code := cl (cr (cr (cr (cr (cr (cl (cl (cl (cr (cr (fb Tryd.f24)))))))))))
noncomputable def T24 : Code := cr (cr (cr (cr (cr (cr (cl (cl (cl (cr (cr (fb Tryd.f24)))))))))))
theorem K24_eq : K24 = .loop (.block 1 (.seq A24 (.seq B24 (.seq C24 (.seq D24 (.seq E24 (.seq F24 T24))))))) := by kernel_rfl

theorem rdI_err {rd : Nat → Nat → Bool → Rr (L × Nat)} {bs : List Nat} {f a m w e : Nat} (hrd : ∀ a1 m1 o w e, rd a1 m1 o = .bad w e → a < a1 → a1 ≤ bs.length → e ≠ 0) (hrd2 : ∀ a m o x a1 m1, rd a m o = .ok x a1 m1 → a < a1 ∧ a1 ≤ bs.length) (h : rdI rd bs f a m = .bad w e) : e ≠ 0 := by
  have lift : ∀ {α : Type} {r : Rp α} {m : Nat} {g : α → Ins} {w e : Nat}, r.lift m g = .bad w e → r = .bad w e := fun {α r m g w e} h => by
    unfold Rp.lift at h
    split at h
    · cases h
    · injection h with h1 h2; rw [h1, h2]
  unfold rdI at h
  split at h
  · exact rdS_err (lift h)
  split at h
  · exact rdS_err (lift h)
  split at h
  · exact rdU_err (lift h)
  split at h
  · split at h
    · rename_i hu; injection h with h1 h2; rw [← h2]; exact rdU_err hu
    · exact rdU_err (lift h)
  split at h
  · exact rdZ_err (lift h)
  split at h
  · exact rdL_err (lift h)
  split at h
  · split at h
    · rename_i hu; injection h with h1 h2; rw [← h2]; exact rdU_err hu
    · exact rdZ_err (lift h)
  split at h
  · split at h
    · rename_i hu; injection h with h1 h2; rw [← h2]; exact rdK_err hu
    · rename_i k a1 hk
      have hl := rdK_len hk
      split at h
      · rename_i hb; injection h with h1 h2; rw [← h2]; exact hrd _ _ _ _ _ hb hl.1 hl.2.1
      · rename_i b z a2 m2 hb
        have hl2 := hrd2 _ _ _ _ _ _ hb
        split at h
        · split at h
          · rename_i hb2; injection h with h1 h2; rw [← h2]; exact hrd _ _ _ _ _ hb2 (by omega) hl2.2
          · cases h
        · cases h
  · cases h

set_option maxHeartbeats 2000000 in
theorem tail24 (bs : List Nat) (hb : bs.length < 1000000) (d : Nat) (hd : d < 100000) (o : Bool) (F : Nat) (Q : Ex → Fr → St → Prop) (op f a m : Nat) (hop : op < 256) (hf9 : f ≤ 9) (ha : a < bs.length) (hm : m < 1000000) (ry : Rr Ins) (hR : RestOk op f d bs (a + 1) (m + 1) ry)
    (acc : List AV) (hacc : acc.length < 1000000) (hhead : headSize 8 acc = true) (κ b3 b6 : Nat) (c6 : List AV) (hbb : b3 ≠ b6) (fr : Fr) (σ : St) (hf : Fresh σ) (p3 : b3 < σ.nb) (p6 : b6 < σ.nb) (g3 : Tr.get σ.h b3 = some [.sl (nat8 bs) 0, .i .i64 a, .i .i64 (m + 1 : Nat), .i .i64 (0 : Nat)]) (g6 : Tr.get σ.h b6 = some c6) (h6 : c6.length = 4)
    (ht : TokG σ acc κ 8) (hκ : κ < σ.nb + 2) (r1 : fr.rd 1 = .i .i64 d) (r2 : fr.rd 2 = .b o) (r3 : fr.rd 3 = .p b3 0) (r6 : fr.rd 6 = .p b6 0) (r9 : fr.rd 9 = .sl acc κ) (r10 : fr.rd 10 = .i .u8 op) (r11 : fr.rd 11 = .i .i64 f)
    (hbad : ∀ w e, ry = .bad w e → ∀ m1 fr σ, (Tr.get σ.h b6 = some [.sl (nat8 bs) 0, .i .i64 w, .i .i64 (m1 : Nat), .i .i64 e]) → fr.rd 6 = .p b6 0 → fr.rd 7 = .sl [] 1 → fr.rd 8 = .i .u8 0 → Q .ret fr σ)
    (hok : ∀ x a1 m1, ry = .ok x a1 m1 → ∀ κ' fr σ, Fresh σ → b3 < σ.nb → b6 < σ.nb → Tr.get σ.h b3 = some [.sl (nat8 bs) 0, .i .i64 a1, .i .i64 (m1 : Nat), .i .i64 (0 : Nat)] → (∃ c, Tr.get σ.h b6 = some c ∧ c.length = 4) → TokG σ (acc ++ [x.av op]) κ' 8 → κ' < σ.nb + 2 → fr.rd 1 = .i .i64 d → fr.rd 2 = .b o → fr.rd 3 = .p b3 0 → fr.rd 6 = .p b6 0 → fr.rd 9 = .sl (acc ++ [x.av op]) κ' → Q .normal fr σ) : CodeW TS T24 fr σ Q := by
  obtain ⟨q0, q1, q2, q3, rfl⟩ : ∃ q0 q1 q2 q3, c6 = [q0, q1, q2, q3] := by
    match c6, h6 with
    | [q0, q1, q2, q3], _ => exact ⟨_, _, _, _, rfl⟩
  have hb3x : ∀ j, (b3 = σ.nb + j) = False := fun j => by simp; omega
  have hb3y : (b3 = σ.nb) = False := by simp; omega
  have hb6x : ∀ j, (b6 = σ.nb + j) = False := fun j => by simp; omega
  have hb6y : (b6 = σ.nb) = False := by simp; omega
  have hb3z : ∀ j, (σ.nb + j = b3) = False := fun j => by simp; omega
  have hb3w : (σ.nb = b3) = False := by simp; omega
  have hb6z : ∀ j, (σ.nb + j = b6) = False := fun j => by simp; omega
  have hb6w : (σ.nb = b6) = False := by simp; omega
  have hb36 : (b6 = b3) = False := by simp; omega
  have hb63 : (b3 = b6) = False := by simp; omega
  simp only [T24, fb, Tryd.f24, cl, cr, Option.getD]
  simp only [↓cw_skip, ↓cw_seq, ↓cw_cond, ↓cw_region, ↓then_normal, ↓draw_false, ↓ow_nil, ↓ow_cons, ↓contO_eq, ↓op_move, ↓op_build, ↓op_load, ↓op_store, ↓op_binOp, ↓op_fieldAddr, ↓op_call, ↓force_DC, vW_some, pW_some, bW_false, ifW_some, setD_some, setD_none, bldV, on1_some, on2_some, ldV_eq, stV, biV_eq, faV_eq, callV_some, arg_val, opd, opds, ofConst, leaf, rd_set, binV, intV, isConst, loadV, fieldAddrV, take?, buildV, places, fillV, parts, put, flat, AV.cells, undF, aggF, infF, Nat.reduceEqDiff, Nat.reduceAdd, Nat.reduceLeDiff, reduceIte, reduceCtorEq, Bool.or_true, List.length_cons, List.length_nil, List.getElem?_cons_zero, List.getElem?_cons_succ, List.append_nil, List.drop_succ_cons, List.drop_zero, List.take_succ_cons, List.take_zero, List.set_cons_zero, List.set_cons_succ, Nat.zero_add, and_self, St.bump, storeV, Tr.get_set, Nat.add_assoc, List.size_toArray, r1, r3, r10, r11, g3, show (((0 : Nat) : Int) != 0) = false from rfl, fw_add1 (n := a) (by omega)]
  cases ry with
  | bad w e =>
    simp only [RestOk] at hR
    obtain ⟨he, cs, m1, hcs, hfl, hR⟩ := hR
    have hne : ((e : Int) != 0) = true := by rw [bne_iff_ne]; omega
    simp only [rav, iav] at hR
    refine pc43.call (by simp [untok, AV.strip, AV.strip0, Go.Pv.goods, Go.Pv.good, goods_nat8]) hR ?_
    simp only [↓cw_ret, ↓cw_seq, ↓cw_cond, ↓cw_region, ↓then_normal, ↓then_ret, ↓draw_false, ↓ow_nil, ↓ow_cons, ↓contO_eq, ↓op_move, ↓op_assign, ↓op_alloc, ↓op_load, ↓op_store, ↓op_binOp, ↓op_fieldAddr, ↓op_extract, ↓force_DC, vW_some, pW_some, bW_true, ifW_some, setD_some, setD_none, allocV, on1_some, on2_some, ldV_eq, stV, biV_eq, faV_eq, exV, opd, ofConst, leaf, rd_set, binV, intV, isConst, loadV, fieldAddrV, take?, put, flat, AV.cells, undF, aggF, infF, Nat.reduceEqDiff, Nat.reduceAdd, Nat.reduceLeDiff, reduceIte, reduceCtorEq, Bool.or_true, List.length_cons, List.length_nil, List.getElem?_cons_zero, List.getElem?_cons_succ, List.drop_succ_cons, List.drop_zero, List.take_succ_cons, List.take_zero, List.set_cons_zero, List.set_cons_succ, Nat.zero_add, and_self, newBox, St.bump, storeV, Tr.get_set, Nat.add_assoc, Nat.add_left_cancel_iff, boxFree, List.size_toArray, r6, hf.hb, hb3z, hb6x, hcs, hfl, hne, g6, hb36]
    refine hbad w e rfl m1 _ _ ?_ ?_ ?_ ?_
    · simp only [reduceIte, Tr.get_set]
    · simp only [rd_set, Nat.reduceEqDiff, reduceIte, r6]
    · simp only [rd_set, Nat.reduceEqDiff, reduceIte]
    · simp only [rd_set, Nat.reduceEqDiff, reduceIte]
  | ok x a1 m1 =>
    simp only [RestOk] at hR
    simp only [rav, iav, Ins.av] at hR
    refine pc43.call (by simp [untok, AV.strip, AV.strip0, Go.Pv.goods, Go.Pv.good, goods_nat8]) hR ?_
    simp only [↓cw_skip, ↓cw_seq, ↓cw_cond, ↓cw_region, ↓then_normal, ↓draw_false, ↓ow_nil, ↓ow_cons, ↓contO_eq, ↓op_move, ↓op_alloc, ↓op_buildSlice, ↓op_load, ↓op_store, ↓op_binOp, ↓op_fieldAddr, ↓op_extract, ↓op_call, ↓force_DC, vW_some, pW_some, bW_false, ifW_some, setD_some, setD_none, allocV, bldS, on1_some, on2_some, ldV_eq, stV, biV_eq, faV_eq, exV, arg_blt, opd, opds, ofConst, leaf, rd_set, binV, intV, isConst, bltV, loadV, fieldAddrV, take?, fillV, parts, put, flat, AV.cells, AV.strip, AV.strip0, undF, aggF, infF, Nat.reduceEqDiff, Nat.reduceAdd, Nat.reduceMul, Nat.reduceLeDiff, ne_eq, not_false_eq_true, reduceIte, reduceCtorEq, Bool.or_true, List.length_cons, List.length_nil, List.getElem?_cons_zero, List.getElem?_cons_succ, List.append_nil, List.drop_succ_cons, List.drop_zero, List.take_succ_cons, List.take_zero, List.set_cons_zero, List.set_cons_succ, List.map_cons, List.map_nil, Nat.zero_add, and_self, newBox, newTok, St.bump, storeV, Tr.get_set, Nat.add_assoc, Nat.add_left_cancel_iff, or_false, List.headD_cons, boxFree, tokFree, buildSliceV, repeatCells, chunk, List.size_toArray, r9, hf.hb, hf.tb, hb3z, show (((0 : Nat) : Int) != 0) = false from rfl]
    refine app_gen (es := acc) u29 i63 a63 ?_ (by decide) (by decide) rfl hhead ?_ ?_ fun X hX hX2 => ?_
    · exact TokG.keep (σ := σ) ht (by simp only [Tr.get_set]; rw [if_neg (by omega)])
    · show (2 * (acc.length + 1) + 192) * 104 ≤ _
      omega
    · exact tokFree_of (by repeat (first | exact (Fresh.freeT hf (by omega)) | refine FreeT.set ?_ (by omega) | refine FreeT.via (by assumption) ?_ (by omega)))
    simp only [↓draw_true, ↓ow_nil, ↓ow_cons, ↓contO_eq, ↓op_assign, ↓op_store, vW_some, pW_some, bW_true, setD_some, setD_none, stV, opd, rd_set, put, flat, AV.cells, AV.strip, AV.strip0, hasStore, isStore, infF, Nat.reduceEqDiff, Nat.reduceAdd, Nat.reduceLeDiff, reduceIte, Bool.or_false, Bool.or_true, List.any, List.length_cons, List.length_nil, List.set_cons_zero, List.set_cons_succ, List.map_cons, List.map_nil, Nat.zero_add, and_self, St.bump, storeV, Tr.get_set, Nat.add_assoc, force_DD, r3, g3, hb3x]
    refine ⟨okDrawD_4p 13 14 3 6 (by simp only [rd_set, Nat.reduceEqDiff, reduceIte]; exact rfl) (by simp only [rd_set, Nat.reduceEqDiff, reduceIte]; exact rfl) (by simp only [rd_set, Nat.reduceEqDiff, reduceIte, r3]; exact rfl) (by simp only [rd_set, Nat.reduceEqDiff, reduceIte, r6]; exact rfl) (by omega) (by omega) (by omega) (by omega) (by omega) (by omega) (by kernel_rfl), ?_⟩
    refine hok x a1 m1 rfl (σ.nb + 30) _ _ ?_ ?_ ?_ ?_ ?_ ?_ ?_ ?_ ?_ ?_ ?_ ?_
    · first | exact Fresh.of (by repeat (first | exact (Fresh.freeH hf (by omega)) | refine FreeH.set ?_ (by omega))) (by repeat (first | exact (Fresh.freeT hf (by omega)) | refine FreeT.set ?_ (by omega) | refine FreeT.via (by assumption) ?_ (by omega)))
    · simp only; omega
    · simp only; omega
    · simp only [reduceIte, Tr.get_set, hb3x]
    · refine ⟨_, ?_, h6⟩
      simp only [reduceIte, Tr.get_set, hb6x, hb36]
      exact g6
    · exact .inr ⟨by omega, by simp [Tr.get_set]⟩
    · simp only; omega
    · simp only [rd_set, Nat.reduceEqDiff, reduceIte, r1]
    · simp only [rd_set, Nat.reduceEqDiff, reduceIte, r2]
    · simp only [rd_set, Nat.reduceEqDiff, reduceIte, r3]
    · simp only [rd_set, Nat.reduceEqDiff, reduceIte, r6]
    · simp only [rd_set, Nat.reduceEqDiff, reduceIte, Ins.av, iav]

theorem rdI_m {rd : Nat → Nat → Bool → Rr (L × Nat)} {bs : List Nat} (hrd : ∀ a m o x a1 m1, rd a m o = .ok x a1 m1 → m ≤ 16384 → m1 ≤ 16384) {f a m : Nat} {x : Ins} {a1 m1 : Nat} (hm : m ≤ 16384) (h : rdI rd bs f a m = .ok x a1 m1) : m1 ≤ 16384 := by
  unfold rdI at h
  split at h
  · obtain ⟨y, hy, _, q⟩ := Rp.lift_ok h; omega
  split at h
  · obtain ⟨y, hy, _, q⟩ := Rp.lift_ok h; omega
  split at h
  · obtain ⟨y, hy, _, q⟩ := Rp.lift_ok h; omega
  split at h
  · split at h
    · cases h
    · obtain ⟨y, hy, _, q⟩ := Rp.lift_ok h; omega
  split at h
  · obtain ⟨y, hy, _, q⟩ := Rp.lift_ok h; omega
  split at h
  · obtain ⟨y, hy, _, q⟩ := Rp.lift_ok h; omega
  split at h
  · split at h
    · cases h
    · obtain ⟨y, hy, _, q⟩ := Rp.lift_ok h; omega
  split at h
  · split at h
    · cases h
    · split at h
      · cases h
      · rename_i b z a3 m3 hb
        have h3 := hrd _ _ _ _ _ _ hb hm
        split at h
        · split at h
          · cases h
          · rename_i e z2 a4 m4 he
            have h4 := hrd _ _ _ _ _ _ he h3
            injection h with q1 q2 q3
            omega
        · injection h with q1 q2 q3
          omega
  · injection h with q1 q2 q3
    omega
theorem rdList_m : ∀ (F : Nat) (bs : List Nat) (a m d : Nat) (o : Bool) (x : L × Nat) (a1 m1 : Nat), rdList F bs a m d o = .ok x a1 m1 → m ≤ 16384 → m1 ≤ 16384
  | 0, bs, a, m, d, o, x, a1, m1, h, hm => by simp [rdList] at h
  | F + 1, bs, a, m, d, o, x, a1, m1, h, hm => by
    simp only [rdList] at h
    split at h
    · cases h
    · split at h
      · injection h with q1 q2 q3; omega
      split at h
      · cases h
      split at h
      · cases h
      split at h
      · cases h
      · split at h
        · cases h
        · rename_i y a2 m2 hi
          have h1 := rdI_m (fun a m o x a1 m1 h hm => rdList_m F bs a m (d + 1) o x a1 m1 h hm) (by omega) hi
          split at h
          · cases h
          · rename_i l z a3 m3 hl
            have h2 := rdList_m F bs _ _ _ _ _ _ _ hl h1
            injection h with q1 q2 q3
            omega
/-- The claim for list at a number of rounds. -/
def Loop24 (F : Nat) : Prop := ∀ (bs : List Nat) (hb : bs.length < 1000000) (hbb : ∀ c ∈ bs, c < 256) (d : Nat) (hd : d + F < 90000) (o : Bool) (Q : Ex → Fr → St → Prop) (a m : Nat) (ha : a ≤ bs.length) (haF : bs.length < a + F) (hm : m ≤ 16384)
    (acc : List AV) (hacc : acc.length + F < 1000000) (hhead : headSize 8 acc = true) (κ b3 b6 : Nat) (c6 : List AV) (hbn : b3 ≠ b6) (fr : Fr) (σ : St) (hf : Fresh σ) (p3 : b3 < σ.nb) (p6 : b6 < σ.nb) (g3 : Tr.get σ.h b3 = some [.sl (nat8 bs) 0, .i .i64 a, .i .i64 m, .i .i64 (0 : Nat)]) (g6 : Tr.get σ.h b6 = some c6) (h6 : c6.length = 4)
    (ht : TokG σ acc κ 8) (hκ : κ < σ.nb + 2) (r1 : fr.rd 1 = .i .i64 d) (r2 : fr.rd 2 = .b o) (r3 : fr.rd 3 = .p b3 0) (r6 : fr.rd 6 = .p b6 0) (r9 : fr.rd 9 = .sl acc κ)
    (hbad : ∀ w e, rdList F bs a m d o = .bad w e → ∀ m1 fr σ, (Tr.get σ.h b6 = some [.sl (nat8 bs) 0, .i .i64 w, .i .i64 (m1 : Nat), .i .i64 e]) → fr.rd 6 = .p b6 0 → fr.rd 7 = .sl [] 1 → fr.rd 8 = .i .u8 0 → Q .ret fr σ)
    (hok : ∀ l z a1 m1, rdList F bs a m d o = .ok (l, z) a1 m1 → ∀ κ' fr σ, Tr.get σ.h b6 = some [.sl (nat8 bs) 0, .i .i64 a1, .i .i64 (m1 : Nat), .i .i64 (0 : Nat)] → fr.rd 6 = .p b6 0 → fr.rd 7 = .sl (acc ++ l.av) κ' → fr.rd 8 = .i .u8 z → Q .ret fr σ), CodeW TS K24 fr σ Q

theorem rdList_err : ∀ (F : Nat) (bs : List Nat) (a m d : Nat) (o : Bool) (w e : Nat), rdList F bs a m d o = .bad w e → a ≤ bs.length → bs.length < a + F → e ≠ 0
  | 0, bs, a, m, d, o, w, e, h, ha, hF => by omega
  | F + 1, bs, a, m, d, o, w, e, h, ha, hF => by
    simp only [rdList] at h
    split at h
    · injection h with h1 h2; omega
    · rename_i op hop
      have h0 := get_lt hop
      split at h
      · cases h
      split at h
      · injection h with h1 h2; omega
      split at h
      · injection h with h1 h2; omega
      split at h
      · injection h with h1 h2; omega
      split at h
      · rename_i w' e' hi
        injection h with h1 h2
        rw [← h2]
        exact rdI_err (fun a1 m1 o w e h ha1 ha2 => rdList_err F bs a1 m1 (d + 1) o w e h ha2 (by omega)) (fun a m o x a1 m1 h => rdList_len F bs a m (d + 1) o x a1 m1 h) hi
      · rename_i y a2 m2 hi
        have h1 := rdI_len (fun a m o x a1 m1 h => by have := rdList_len F bs a m (d + 1) o x a1 m1 h; omega) (by omega) hi
        split at h
        · rename_i w' e' hl
          injection h with q1 q2
          rw [← q2]
          exact rdList_err F bs a2 m2 d o w' e' hl (by omega) (by omega)
        · cases h

theorem list_of_loop {F : Nat} (H : Loop24 F) (bs : List Nat) (hb : bs.length < 1000000) (hbb : ∀ c ∈ bs, c < 256) (d : Nat) (hd : d + F < 90000) (hF : F < 900000) (o : Bool) (a m : Nat) (ha : a ≤ bs.length) (haF : bs.length < a + F) (hm : m ≤ 16384) : ListV bs d o a m (rdList F bs a m d o) := by
  have start : ∀ (Q : AV → St → Prop),
      (∀ w e, rdList F bs a m d o = .bad w e → ∀ (m1 : Nat) σ, Q (.t [.a [.sl (nat8 bs) 0, .i .i64 w, .i .i64 (m1 : Nat), .i .i64 e], .sl [] 1, .i .u8 0]) σ) →
      (∀ l z a1 m1, rdList F bs a m d o = .ok (l, z) a1 m1 → ∀ κ σ, Q (.t [.a [.sl (nat8 bs) 0, .i .i64 a1, .i .i64 (m1 : Nat), .i .i64 (0 : Nat)], .sl l.av κ, .i .u8 z]) σ) → CallW TS 24 [rav bs a m 0, .i .i64 d, .b o] St.start Q := fun Q hbad hok => by
    refine callW_of ft24 rfl (Nat.le_of_ble_eq_true rfl) ?_
    have hf : Fresh St.start := Fresh.start
    generalize St.start = σ at hf
    simp only [rav]
    simp only [↓cw_seq, ↓cw_block, ↓cw_region, ↓then_normal, ↓draw_false, ↓ow_nil, ↓ow_cons, ↓contO_eq, ↓op_assign, ↓op_alloc, ↓op_box, vW_some, pW_some, setD_some, allocV, boxV, opd, ofConst, leaf, rd_set, rd_nil, Fr.ofList, flat, AV.cells, infF, Nat.reduceAdd, reduceIte, reduceCtorEq, List.length_cons, List.length_nil, Nat.add_zero, Nat.zero_add, and_self, newBox, St.bump, Tr.get_set, Nat.add_assoc, Nat.add_eq_left, boxFree, List.size_toArray, hf.hb, hf.h0]
    refine H bs hb hbb d hd o _ a m ha haF hm [] (by simp; omega) rfl 1 σ.nb (σ.nb + 1) [.sl [] 1, .i .i64 0, .i .i64 0, .i .i64 0] (by omega) _ _ ?_ ?_ ?_ ?_ ?_ rfl (.inl ⟨rfl, rfl⟩) (by simp only; omega) ?_ ?_ ?_ ?_ ?_ (fun w e hr m1 fr σ2 q1 q2 q3 q4 => ?_) fun l z a1 m1 hr κ fr σ2 q1 q2 q3 q4 => ?_
    · first | exact Fresh.of (by repeat (first | exact (Fresh.freeH hf (by omega)) | refine FreeH.set ?_ (by omega))) (by repeat (first | exact (Fresh.freeT hf (by omega)) | refine FreeT.set ?_ (by omega) | refine FreeT.via (by assumption) ?_ (by omega)))
    · simp only; omega
    · simp only; omega
    · simp only [reduceIte, reduceCtorEq, Tr.get_set, Nat.left_eq_add]
    · simp only [reduceIte, reduceCtorEq, Tr.get_set, Nat.add_eq_left]
    · simp only [rd_set, rd_nil, Nat.reduceEqDiff, reduceIte, reduceCtorEq]
    · simp only [rd_set, rd_nil, Nat.reduceEqDiff, reduceIte, reduceCtorEq]
    · simp only [rd_set, rd_nil, Nat.reduceEqDiff, reduceIte, reduceCtorEq]
    · simp only [rd_set, rd_nil, Nat.reduceEqDiff, reduceIte, reduceCtorEq]
    · simp only [rd_set, rd_nil, Nat.reduceEqDiff, reduceIte, reduceCtorEq]
    · simp only [↓block_ret, ↓ret_ret, resW, loadV, take?, aggF, infF, resV, Nat.reduceAdd, Nat.reduceLeDiff, reduceIte, List.length_cons, List.length_nil, List.getElem?_cons_zero, List.drop_zero, List.take_succ_cons, List.take_zero, Nat.zero_add, q1, q2, q3, q4, Tryd.f24]
      exact hbad w e hr m1 _
    · simp only [↓block_ret, ↓ret_ret, resW, loadV, take?, aggF, infF, resV, Nat.reduceAdd, Nat.reduceLeDiff, reduceIte, List.length_cons, List.length_nil, List.getElem?_cons_zero, List.nil_append, List.drop_zero, List.take_succ_cons, List.take_zero, Nat.zero_add, q1, q2, q3, q4, Tryd.f24]
      exact hok l z a1 m1 hr κ _
  cases hr : rdList F bs a m d o with
  | ok x a1 m1 =>
    obtain ⟨l, z⟩ := x
    simp only [ListV]
    refine pure_of (by simp [rav, Go.Pv.good, Go.Pv.goods, goods_nat8, L.goods]) (start _ (fun w e h => ?_) fun l' z' a1' m1' h κ σ => ?_)
    · rw [hr] at h; cases h
    · rw [hr] at h
      injection h with h1 h2 h3
      injection h1 with h4 h5
      subst h2; subst h3; subst h4; subst h5
      simp [untok, AV.strip, AV.strip0, rav]
  | bad w e =>
    simp only [ListV]
    refine ⟨rdList_err F bs a m d o w e hr ha haF, ?_⟩
    have main : CallW TS 24 [rav bs a m 0, .i .i64 d, .b o] St.start fun v _ => ∃ m1 : Nat, untok v = .t [rav bs w m1 e, .sl [] 0, .i .u8 0] := start _ (fun w' e' h m1 σ => by
      rw [hr] at h
      injection h with h1 h2
      subst h1; subst h2
      exact ⟨m1, by simp [untok, AV.strip, AV.strip0, rav]⟩) (fun l z a1 m1 h => by rw [hr] at h; cases h)
    obtain ⟨n, v, σ', he, m1, hu⟩ := main
    exact ⟨m1, n, v, σ', he, hu, by simp [rav, Go.Pv.good, Go.Pv.goods, goods_nat8]⟩

end Go.Pv
