/- lay, lays, Encode, for all instructions. (PvZ6) -/
import Derived.Test.YtigcolhieieakaaDoorPvZ6
namespace Go.Pv
open Go Go.Proofs Go.RowKit
set_option linter.unusedVariables false
set_option linter.unusedSimpArgs false
set_option maxRecDepth 100000

def encF (f : Nat) (n al off res : Int) (ls : List Int) (be ee : List Int) (elen : Nat) : List Int :=
  if f = 1 ∨ f = 2 then encS n else if f = 3 then encU (fw .u64 n).toNat else if f = 9 then encU (fw .u64 n).toNat ++ [0] else
  if f = 4 then encU al.toNat ++ encU off.toNat else if f = 5 then [0] else
  if f = 8 then encU (fw .u64 (fw .i64 ((ls.length : Int) - 1))).toNat ++ ls.flatMap (fun x => encU x.toNat) else
  if f = 6 ∨ f = 7 then kindB res :: be ++ (if elen = 0 then [] else 5 :: ee) ++ [11] else []
def encI (op : Nat) (n al off res : Int) (ls : List Int) (be ee : List Int) (elen : Nat) : List Int := match formN op with
  | none => []
  | some f => (op : Int) :: encF f n al off res ls be ee elen
def L.enc : L → List Int
  | .nil => []
  | .cons op n al off res b e ls r => encI op n al off res ls b.enc e.enc e.len ++ r.enc

theorem fw_u64_nat (n : Int) : fw .u64 n = ((fw .u64 n).toNat : Int) := by
  have : 0 ≤ fw .u64 n := by
    unfold fw
    simp only
    split
    · omega
    · simp [IntKind.wrap, IntKind.signed, IntKind.bits]; omega
  omega
theorem fw_u64_lt (n : Int) : (fw .u64 n).toNat < 18446744073709551616 := by
  have : fw .u64 n < 18446744073709551616 := by
    unfold fw
    simp only
    split
    · omega
    · simp [IntKind.wrap, IntKind.signed, IntKind.bits]; omega
  have := fw_u64_nat n
  omega
theorem fw_u64_small (n : Int) (h : 0 ≤ n ∧ n ≤ 4294967295) : fw .u64 n = (n.toNat : Int) := by
  unfold fw; simp only; rw [if_pos (by omega)]; omega

theorem put_step {h : Tr (List AV)} {tk : Tr Nat} {nb : Nat} {m j : Nat} {bs : List Int} {κ v : Nat} {w : Int} {Q : AV → St → Prop} (hne : bs ≠ []) (hw : w = (v : Int)) (hv : v < 18446744073709551616) (hl : bs.length + (encU v).length < 1099511620000) (hfree : tokFree j ⟨h, tk, nb⟩ = true)
    (q : Q (.sl (u8s (bs ++ encU v)) (nb + j + 2)) ⟨h, Tr.set tk (nb + j + 2) 1, nb⟩) : FnW TS m j 68 [.sl (u8s bs) κ, .i .u64 w] ⟨h, tk, nb⟩ Q := by
  subst hw
  obtain ⟨b, bs', rfl⟩ : ∃ b bs', bs = b :: bs' := by
    cases bs with
    | nil => exact absurd rfl hne
    | cons b bs' => exact ⟨b, bs', rfl⟩
  simp only [List.length_cons] at hl
  exact FnW_row rfl (by kernel_rfl) (by simp [untok, AV.strip, Go.Pv.goods, Go.Pv.good, goods_u8s]) (w_putU b bs' v hv (by omega)) (by decide) hfree q
theorem putS_step {h : Tr (List AV)} {tk : Tr Nat} {nb : Nat} {m j : Nat} {bs : List Int} {κ : Nat} {v : Int} {Q : AV → St → Prop} (hne : bs ≠ []) (hv : -9223372036854775808 ≤ v ∧ v ≤ 9223372036854775807) (hl : bs.length + (encS v).length < 1099511620000) (hfree : tokFree j ⟨h, tk, nb⟩ = true)
    (q : Q (.sl (u8s (bs ++ encS v)) (nb + j + 2)) ⟨h, Tr.set tk (nb + j + 2) 1, nb⟩) : FnW TS m j 67 [.sl (u8s bs) κ, .i .i64 v] ⟨h, tk, nb⟩ Q := by
  obtain ⟨b, bs', rfl⟩ : ∃ b bs', bs = b :: bs' := by
    cases bs with
    | nil => exact absurd rfl hne
    | cons b bs' => exact ⟨b, bs', rfl⟩
  simp only [List.length_cons] at hl
  exact FnW_row rfl (by kernel_rfl) (by simp [untok, AV.strip, Go.Pv.goods, Go.Pv.good, goods_u8s]) (w_putS b bs' v hv (by omega)) (by decide) hfree q

theorem encU_pos (v : Nat) : 1 ≤ (encU v).length := by
  unfold encU; split <;> simp
theorem flat_len (ls : List Int) : ls.length ≤ (ls.flatMap (fun x => encU x.toNat)).length := by
  induction ls with
  | nil => simp
  | cons x xs ih => have := encU_pos x.toNat; simp only [List.flatMap_cons, List.length_append, List.length_cons]; omega

noncomputable def K48 : Code := cl (cr (cr (cl (cr (cr (cr (cr (cr (cr (cr (cr (cr (cr (cr (cl (cr (cl (cr (cr (cr (cr (fb Tryd.f48))))))))))))))))))))))
theorem loop48 (ls : List Int) (bs0 : List Int) (σ0 : St) (Q : Ex → Fr → St → Prop) (hls : ls.length < 4611686018427387904) :
    ∀ (rs : List Int) i bs κ fr σ, ls.drop i = rs → (∀ x ∈ rs, 0 ≤ x ∧ x ≤ 4294967295) → Fresh σ → σ0.nb ≤ σ.nb → (∀ l, l < σ0.nb → Tr.get σ.h l = Tr.get σ0.h l) → TokOk σ bs κ → κ < σ.nb + 2 → bs ≠ [] → bs.length + (rs.flatMap (fun x => encU x.toNat)).length < 1099511619000 → bs ++ rs.flatMap (fun x => encU x.toNat) = bs0 →
      fr.rd 0 = .sl (u8s bs) κ → fr.rd 73 = .sl (u32s ls) 0 → fr.rd 74 = .i .i64 ls.length → fr.rd 75 = .i .i64 i →
      (∀ κ' fr' σ', Ext σ0 σ' → TokOk σ' bs0 κ' → κ' < σ'.nb + 2 → fr'.rd 0 = .sl (u8s bs0) κ' → Q (.exit 1) fr' σ') → CodeW TS K48 fr σ Q := by
  intro rs
  induction rs with
  | nil =>
    intro i bs κ fr σ hd hrs hf hnb hh hk hkn hne hlen hbs r0 r73 r74 r75 hQ
    have h1 := drop_nil hd
    have hlt : decide ((i : Int) < ls.length) = false := decide_eq_false (by omega)
    simp only [K48, fb, Tryd.f48, cl, cr, Option.getD]
    rw [cw_loop]
    simp only [↓cw_exit, ↓cw_seq, ↓cw_cond, ↓cw_region, ↓then_normal, ↓then_exit, ↓draw_false, ↓ow_nil, ↓ow_cons, ↓contO_eq, ↓op_binOp, ↓force_DC, vW_some, bW_false, ifW_some, setD_some, on2_some, biV_eq, opd, rd_set, binV, intV, isConst, reduceIte, Bool.or_false, List.length_cons, List.length_nil, Nat.zero_add, St.bump, List.size_toArray, r74, r75, hlt]
    simp only [List.flatMap_nil, List.append_nil] at hbs
    refine hQ κ _ _ ⟨by simp only; omega, ?_, fun l hl => hh l hl⟩ (hbs ▸ hk) (by simp only; omega) ?_
    · first | exact Fresh.of (by repeat (first | exact (Fresh.freeH hf (by omega)) | refine FreeH.set ?_ (by omega))) (by repeat (first | exact (Fresh.freeT hf (by omega)) | refine FreeT.set ?_ (by omega) | refine FreeT.via (by assumption) ?_ (by omega)))
    · simp only [rd_set, reduceIte, reduceCtorEq, r0, hbs]
  | cons x rs ih =>
    intro i bs κ fr σ hd hrs hf hnb hh hk hkn hne hlen hbs r0 r73 r74 r75 hQ
    obtain ⟨h1, h2, h3⟩ := drop_cons hd
    have hlt : decide ((i : Int) < ls.length) = true := decide_eq_true (by omega)
    have h0i : (0 : Int) ≤ i := by omega
    have hx := hrs x List.mem_cons_self
    have hg : (u32s ls)[i]? = some (.i .u32 x) := by simp [u32s, h1]
    simp only [List.flatMap_cons, List.length_append] at hlen
    simp only [K48, fb, Tryd.f48, cl, cr, Option.getD]
    rw [cw_loop]
    simp only [↓cw_skip, ↓cw_seq, ↓cw_block, ↓cw_cond, ↓cw_region, ↓then_normal, ↓draw_false, ↓ow_nil, ↓ow_cons, ↓contO_eq, ↓op_move, ↓op_assign, ↓op_load, ↓op_binOp, ↓op_convert, ↓op_indexAddr, ↓op_call, ↓force_DC, vW_some, bW_true, ifW_some, setD_some, on1_some, on2_some, ldV_eq, biV_eq, callV_some, arg_val, opd, opds, rd_set, binV, intV, convV, isConst, idxAddrV, loadV, take?, AV.cells, undF, aggF, infF, Nat.reduceEqDiff, Nat.reduceAdd, Nat.reduceLeDiff, reduceIte, reduceCtorEq, Bool.or_false, List.length_cons, List.length_nil, List.getElem?_cons_zero, List.append_nil, List.drop_zero, List.take_succ_cons, List.take_zero, Nat.zero_add, St.bump, Nat.add_assoc, Int.toNat_natCast, List.size_toArray, r0, r73, r74, r75, hlt, h0i, hg]
    refine put_step hne (fw_u64_small x hx) (by omega) (by omega) ?_ ?_
    · exact tokFree_of (by repeat (first | exact (Fresh.freeT hf (by omega)) | refine FreeT.set ?_ (by omega) | refine FreeT.via (by assumption) ?_ (by omega)))
    simp only [↓cw_region, ↓then_normal, ↓block_normal, ↓draw_false, ↓ow_nil, ↓ow_cons, ↓contO_eq, ↓op_move, ↓op_assign, ↓op_binOp, vW_some, setD_some, on2_some, biV_eq, opd, ofConst, leaf, rd_set, binV, intV, isConst, Nat.reduceEqDiff, Nat.reduceAdd, reduceIte, reduceCtorEq, Bool.or_true, List.length_cons, List.length_nil, Nat.zero_add, St.bump, Nat.add_assoc, List.size_toArray, r75, fw_add1 (n := i) (by omega)]
    refine ih (i + 1) (bs ++ encU x.toNat) (σ.nb + 9) _ _ h2 (fun y hy => hrs y (List.mem_cons_of_mem _ hy)) ?_ ?_ ?_ ?_ ?_ ?_ ?_ ?_ ?_ ?_ ?_ ?_ hQ
    · first | exact Fresh.of (by repeat (first | exact (Fresh.freeH hf (by omega)) | refine FreeH.set ?_ (by omega))) (by repeat (first | exact (Fresh.freeT hf (by omega)) | refine FreeT.set ?_ (by omega) | refine FreeT.via (by assumption) ?_ (by omega)))
    · simp only; omega
    · exact hh
    · exact .inr ⟨by omega, by simp [Tr.get_set]⟩
    · simp only; omega
    · simp [hne]
    · simp only [List.length_append]; omega
    · rw [← hbs]; simp
    all_goals simp only [rd_set, Nat.reduceEqDiff, reduceIte, reduceCtorEq, r0, r73, r74, r75]

/-- What lays answers. -/
def LaysOk (l : L) : Prop := ∀ σ bs κ (Q : AV → St → Prop), Fresh σ → TokOk σ bs κ → κ < σ.nb + 2 → bs.length + l.enc.length < 1099511610000 →
  (∀ κ' σ', Ext σ σ' → TokOk σ' (bs ++ l.enc) κ' → κ' < σ'.nb + 2 → Q (.sl (u8s (bs ++ l.enc)) κ') σ') → CallW TS 30 [.sl (u8s bs) κ, .sl l.av 0] σ Q

theorem w_lay (op : Nat) (hop : op < 256) (n al off res : Int) (b e : L) (ls : List Int) (hn : -9223372036854775808 ≤ n ∧ n ≤ 9223372036854775807) (hal : 0 ≤ al ∧ al ≤ 4294967295) (hoff : 0 ≤ off ∧ off ≤ 4294967295) (hres : 0 ≤ res ∧ res ≤ 255) (hls : ∀ x ∈ ls, 0 ≤ x ∧ x ≤ 4294967295)
    (Hb : LaysOk b) (He : LaysOk e) (σ : St) (bs : List Int) (κ : Nat) (Q : AV → St → Prop) (hf : Fresh σ) (hk : TokOk σ bs κ) (hkn : κ < σ.nb + 2) (hlen : bs.length + (encI op n al off res ls b.enc e.enc e.len).length < 1099511610000)
    (hQ : ∀ κ' σ', Ext σ σ' → TokOk σ' (bs ++ encI op n al off res ls b.enc e.enc e.len) κ' → κ' < σ'.nb + 2 → Q (.sl (u8s (bs ++ encI op n al off res ls b.enc e.enc e.len)) κ') σ') :
    CallW TS 48 [.sl (u8s bs) κ, iav op n al off res b.av e.av (u32s ls)] σ Q := by
  refine callW_of ft48 rfl (Nat.le_of_ble_eq_true rfl) ?_
  simp only [iav]
  simp only [↓cw_seq, ↓cw_region, ↓then_normal, ↓draw_false, ↓ow_nil, ↓ow_cons, ↓contO_eq, ↓op_assign, ↓op_box, ↓op_load, ↓op_fieldAddr, ↓op_call, vW_some, pW_some, setD_some, boxV, on1_some, ldV_eq, faV_eq, callV_some, arg_val, opd, opds, ofConst, leaf, rd_set, rd_nil, Fr.ofList, loadV, fieldAddrV, take?, flat, AV.cells, undF, aggF, infF, Nat.reduceEqDiff, Nat.reduceAdd, Nat.reduceLeDiff, reduceIte, reduceCtorEq, List.length_cons, List.length_nil, List.getElem?_cons_zero, List.append_nil, List.drop_zero, List.take_succ_cons, List.take_zero, Nat.add_zero, Nat.zero_add, and_self, newBox, St.bump, Tr.get_set, boxFree, List.size_toArray, hf.h0]
  refine FnW_prim rfl (by kernel_rfl) (p := pByte gForm) (by kernel_rfl) (form_prim op hop) ?_
  cases hfn : formN op with
  | none =>
    simp only [formV, hfn, errV]
    simp only [↓cw_ret, ↓cw_seq, ↓cw_cond, ↓cw_region, ↓then_normal, ↓then_ret, ↓draw_false, ↓ow_nil, ↓ow_cons, ↓contO_eq, ↓op_move, ↓op_assign, ↓op_binOp, ↓op_extract, ↓ret_ret, ↓force_DC, vW_some, bW_true, ifW_some, setD_some, on1_some, on2_some, biV_eq, exV, resW, opd, ofConst, leaf, rd_set, rd_nil, binV, eqV, isConst, ifaceF, resV, Nat.reduceEqDiff, Nat.reduceAdd, reduceIte, reduceCtorEq, Bool.or_true, List.length_cons, List.length_nil, List.getElem?_cons_zero, List.getElem?_cons_succ, Nat.zero_add, Bool.not_false, St.bump, Nat.add_assoc, List.size_toArray, Tryd.f48]
    simp only [encI, hfn, List.append_nil] at hQ
    refine hQ κ _ ⟨by simp only; omega, ?_, fun l hl => ?_⟩ hk (by simp only; omega)
    · first | exact Fresh.of (by repeat (first | exact (Fresh.freeH hf (by omega)) | refine FreeH.set ?_ (by omega))) (by repeat (first | exact (Fresh.freeT hf (by omega)) | refine FreeT.set ?_ (by omega) | refine FreeT.via (by assumption) ?_ (by omega)))
    · simp only [Tr.get_set]; rw [if_neg (by omega)]
  | some f =>
    have hf9 := form_le _ _ hfn
    simp only [formV, hfn]
    simp only [encI, hfn] at hQ hlen
    simp only [↓cw_skip, ↓cw_seq, ↓cw_cond, ↓cw_region, ↓then_normal, ↓draw_false, ↓ow_nil, ↓ow_cons, ↓contO_eq, ↓op_move, ↓op_assign, ↓op_buildSlice, ↓op_load, ↓op_binOp, ↓op_fieldAddr, ↓op_extract, ↓op_call, ↓force_DC, vW_some, pW_some, bW_false, ifW_some, setD_some, bldS, on1_some, on2_some, ldV_eq, biV_eq, faV_eq, exV, arg_blt, opd, opds, ofConst, leaf, rd_set, rd_nil, binV, eqV, isConst, bltV, loadV, fieldAddrV, take?, fillV, parts, put, flat, AV.cells, AV.strip, undF, aggF, infF, ifaceF, Nat.reduceEqDiff, Nat.reduceAdd, Nat.reduceMul, Nat.reduceLeDiff, ne_eq, not_false_eq_true, reduceIte, reduceCtorEq, Bool.or_true, Bool.and_true, List.length_cons, List.length_nil, List.getElem?_cons_zero, List.getElem?_cons_succ, List.append_nil, List.drop_zero, List.take_succ_cons, List.take_zero, List.set_cons_zero, List.map_cons, List.map_nil, Nat.add_zero, Nat.zero_add, and_self, Bool.not_true, newTok, St.bump, Tr.get_set, Nat.add_assoc, or_true, List.headD_cons, tokFree, buildSliceV, repeatCells, chunk, List.size_toArray, hf.tb]
    refine app_step (y := (op : Int)) (ys := []) (hk.set (by omega)) (by simp at hlen ⊢; omega) ?_ fun X hX => ?_
    · simp only [tokFree, Tr.get_set]; rw [if_neg (by omega), hf.tk _ (by omega)]
    have hXn : ∀ j, Tr.get X (σ.nb + (j + 21)) = none := fun j => hX (σ.nb + 19) ((hf.freeT (by omega)).set (by omega)) (by omega) _ (by omega)
    clear hfn
    have hc : f = 0 ∨ f = 1 ∨ f = 2 ∨ f = 3 ∨ f = 4 ∨ f = 5 ∨ f = 6 ∨ f = 7 ∨ f = 8 ∨ f = 9 := by omega
    rcases hc with rfl | rfl | rfl | rfl | rfl | rfl | rfl | rfl | rfl | rfl
    · simp only [↓cw_skip, ↓cw_ret, ↓cw_seq, ↓cw_block, ↓cw_cond, ↓cw_region, ↓then_normal, ↓block_normal, ↓draw_false, ↓ow_nil, ↓ow_cons, ↓contO_eq, ↓op_move, ↓op_assign, ↓op_binOp, ↓ret_ret, ↓force_DC, vW_some, bW_false, ifW_some, setD_some, on2_some, biV_eq, resW, opd, ofConst, leaf, rd_set, rd_nil, binV, intV, isConst, resV, Nat.reduceEqDiff, Nat.reduceAdd, reduceIte, reduceCtorEq, Bool.or_true, List.length_cons, List.length_nil, Int.reduceBEq, Nat.zero_add, St.bump, Nat.add_assoc, List.size_toArray, Int.cast_ofNat_Int, Tryd.f48]
      refine hQ _ _ ⟨by simp only; omega, ?_, fun l hl => ?_⟩ (.here (by omega)) (by simp only; omega)
      · first | exact Fresh.of (by repeat (first | exact (Fresh.freeH hf (by omega)) | refine FreeH.set ?_ (by omega))) (by repeat (first | exact (Fresh.freeT hf (by omega)) | refine FreeT.set ?_ (by omega) | refine FreeT.via (by assumption) ?_ (by omega)))
      · simp only [Tr.get_set]; rw [if_neg (by omega)]
    · have hE : encF 1 n al off res ls b.enc e.enc e.len = encS n := by simp [encF]
      rw [hE] at hQ hlen
      simp only [↓cw_skip, ↓cw_seq, ↓cw_block, ↓cw_cond, ↓cw_region, ↓then_normal, ↓draw_false, ↓ow_nil, ↓ow_cons, ↓contO_eq, ↓op_move, ↓op_assign, ↓op_load, ↓op_binOp, ↓op_fieldAddr, ↓op_call, ↓force_DC, vW_some, bW_true, ifW_some, setD_some, on1_some, on2_some, ldV_eq, biV_eq, faV_eq, callV_some, arg_val, opd, opds, ofConst, leaf, rd_set, rd_nil, binV, intV, isConst, loadV, fieldAddrV, take?, undF, aggF, infF, Nat.reduceEqDiff, Nat.reduceAdd, Nat.reduceLeDiff, reduceIte, reduceCtorEq, Bool.or_true, List.length_cons, List.length_nil, List.getElem?_cons_zero, List.getElem?_cons_succ, List.append_nil, List.drop_succ_cons, List.drop_zero, List.take_succ_cons, List.take_zero, beq_self_eq_true, Nat.zero_add, St.bump, Tr.get_set, Nat.add_assoc, List.size_toArray, Int.cast_ofNat_Int, Tryd.f48]
      refine putS_step (by simp) hn (by simp at hlen ⊢; omega) ?_ ?_
      · exact tokFree_of (by repeat (first | exact (Fresh.freeT hf (by omega)) | refine FreeT.set ?_ (by omega) | refine FreeT.via (by assumption) ?_ (by omega)))
      simp only [↓cw_ret, ↓cw_seq, ↓cw_region, ↓then_normal, ↓block_normal, ↓draw_false, ↓ow_nil, ↓ow_cons, ↓contO_eq, ↓op_move, ↓op_assign, ↓ret_ret, vW_some, setD_some, resW, opd, rd_set, rd_nil, resV, Nat.reduceEqDiff, Nat.reduceAdd, reduceIte, reduceCtorEq, List.length_cons, List.length_nil, List.cons_append, List.nil_append, Nat.zero_add, St.bump, Nat.add_assoc, List.size_toArray, List.append_assoc]
      refine hQ _ _ ⟨by simp only; omega, ?_, fun l hl => ?_⟩ (.here (by omega)) (by simp only; omega)
      · first | exact Fresh.of (by repeat (first | exact (Fresh.freeH hf (by omega)) | refine FreeH.set ?_ (by omega))) (by repeat (first | exact (Fresh.freeT hf (by omega)) | refine FreeT.set ?_ (by omega) | refine FreeT.via (by assumption) ?_ (by omega)))
      · simp only [Tr.get_set]; rw [if_neg (by omega)]
    · have hE : encF 2 n al off res ls b.enc e.enc e.len = encS n := by simp [encF]
      rw [hE] at hQ hlen
      simp only [↓cw_seq, ↓cw_block, ↓cw_cond, ↓cw_region, ↓then_normal, ↓draw_false, ↓ow_nil, ↓ow_cons, ↓contO_eq, ↓op_move, ↓op_assign, ↓op_load, ↓op_binOp, ↓op_fieldAddr, ↓op_call, ↓force_DC, vW_some, bW_true, bW_false, ifW_some, setD_some, on1_some, on2_some, ldV_eq, biV_eq, faV_eq, callV_some, arg_val, opd, opds, ofConst, leaf, rd_set, rd_nil, binV, intV, isConst, loadV, fieldAddrV, take?, undF, aggF, infF, Nat.reduceEqDiff, Nat.reduceAdd, Nat.reduceLeDiff, reduceIte, reduceCtorEq, Bool.or_true, List.length_cons, List.length_nil, List.getElem?_cons_zero, List.getElem?_cons_succ, List.append_nil, List.drop_succ_cons, List.drop_zero, List.take_succ_cons, List.take_zero, Int.reduceBEq, beq_self_eq_true, Nat.zero_add, St.bump, Tr.get_set, Nat.add_assoc, List.size_toArray, Int.cast_ofNat_Int, Tryd.f48]
      refine putS_step (by simp) hn (by simp at hlen ⊢; omega) ?_ ?_
      · exact tokFree_of (by repeat (first | exact (Fresh.freeT hf (by omega)) | refine FreeT.set ?_ (by omega) | refine FreeT.via (by assumption) ?_ (by omega)))
      simp only [↓cw_ret, ↓cw_seq, ↓cw_region, ↓then_normal, ↓block_normal, ↓draw_false, ↓ow_nil, ↓ow_cons, ↓contO_eq, ↓op_move, ↓op_assign, ↓ret_ret, vW_some, setD_some, resW, opd, rd_set, rd_nil, resV, Nat.reduceEqDiff, Nat.reduceAdd, reduceIte, reduceCtorEq, List.length_cons, List.length_nil, List.cons_append, List.nil_append, Nat.zero_add, St.bump, Nat.add_assoc, List.size_toArray, List.append_assoc]
      refine hQ _ _ ⟨by simp only; omega, ?_, fun l hl => ?_⟩ (.here (by omega)) (by simp only; omega)
      · first | exact Fresh.of (by repeat (first | exact (Fresh.freeH hf (by omega)) | refine FreeH.set ?_ (by omega))) (by repeat (first | exact (Fresh.freeT hf (by omega)) | refine FreeT.set ?_ (by omega) | refine FreeT.via (by assumption) ?_ (by omega)))
      · simp only [Tr.get_set]; rw [if_neg (by omega)]
    · have hE : encF 3 n al off res ls b.enc e.enc e.len = encU (fw .u64 n).toNat := by simp [encF]
      rw [hE] at hQ hlen
      simp only [↓cw_seq, ↓cw_block, ↓cw_cond, ↓cw_region, ↓then_normal, ↓draw_false, ↓ow_nil, ↓ow_cons, ↓contO_eq, ↓op_move, ↓op_assign, ↓op_load, ↓op_binOp, ↓op_convert, ↓op_fieldAddr, ↓op_call, ↓force_DC, vW_some, bW_true, bW_false, ifW_some, setD_some, on1_some, on2_some, ldV_eq, biV_eq, faV_eq, callV_some, arg_val, opd, opds, ofConst, leaf, rd_set, rd_nil, binV, intV, convV, isConst, loadV, fieldAddrV, take?, undF, aggF, infF, Nat.reduceEqDiff, Nat.reduceAdd, Nat.reduceLeDiff, reduceIte, reduceCtorEq, Bool.or_true, List.length_cons, List.length_nil, List.getElem?_cons_zero, List.getElem?_cons_succ, List.append_nil, List.drop_succ_cons, List.drop_zero, List.take_succ_cons, List.take_zero, Int.reduceBEq, beq_self_eq_true, Nat.zero_add, St.bump, Tr.get_set, Nat.add_assoc, List.size_toArray, Int.cast_ofNat_Int, Tryd.f48]
      refine put_step (by simp) (fw_u64_nat n) (fw_u64_lt n) (by simp at hlen ⊢; omega) ?_ ?_
      · exact tokFree_of (by repeat (first | exact (Fresh.freeT hf (by omega)) | refine FreeT.set ?_ (by omega) | refine FreeT.via (by assumption) ?_ (by omega)))
      simp only [↓cw_ret, ↓cw_seq, ↓cw_region, ↓then_normal, ↓block_normal, ↓draw_false, ↓ow_nil, ↓ow_cons, ↓contO_eq, ↓op_move, ↓op_assign, ↓ret_ret, vW_some, setD_some, resW, opd, rd_set, rd_nil, resV, Nat.reduceEqDiff, Nat.reduceAdd, reduceIte, reduceCtorEq, List.length_cons, List.length_nil, List.cons_append, List.nil_append, Nat.zero_add, St.bump, Nat.add_assoc, List.size_toArray, List.append_assoc]
      refine hQ _ _ ⟨by simp only; omega, ?_, fun l hl => ?_⟩ (.here (by omega)) (by simp only; omega)
      · first | exact Fresh.of (by repeat (first | exact (Fresh.freeH hf (by omega)) | refine FreeH.set ?_ (by omega))) (by repeat (first | exact (Fresh.freeT hf (by omega)) | refine FreeT.set ?_ (by omega) | refine FreeT.via (by assumption) ?_ (by omega)))
      · simp only [Tr.get_set]; rw [if_neg (by omega)]
    · have hE : encF 4 n al off res ls b.enc e.enc e.len = encU al.toNat ++ encU off.toNat := by simp [encF]
      rw [hE] at hQ hlen
      simp only [↓cw_seq, ↓cw_block, ↓cw_cond, ↓cw_region, ↓then_normal, ↓draw_false, ↓ow_nil, ↓ow_cons, ↓contO_eq, ↓op_move, ↓op_assign, ↓op_load, ↓op_binOp, ↓op_convert, ↓op_fieldAddr, ↓op_call, ↓force_DC, vW_some, bW_true, bW_false, ifW_some, setD_some, on1_some, on2_some, ldV_eq, biV_eq, faV_eq, callV_some, arg_val, opd, opds, ofConst, leaf, rd_set, rd_nil, binV, intV, convV, isConst, loadV, fieldAddrV, take?, undF, aggF, infF, Nat.reduceEqDiff, Nat.reduceAdd, Nat.reduceLeDiff, reduceIte, reduceCtorEq, Bool.or_true, List.length_cons, List.length_nil, List.getElem?_cons_zero, List.getElem?_cons_succ, List.append_nil, List.drop_succ_cons, List.drop_zero, List.take_succ_cons, List.take_zero, Int.reduceBEq, beq_self_eq_true, Nat.zero_add, St.bump, Tr.get_set, Nat.add_assoc, List.size_toArray, Int.cast_ofNat_Int, Tryd.f48]
      refine put_step (by simp) (fw_u64_small al hal) (by omega) (by simp at hlen ⊢; omega) ?_ ?_
      · exact tokFree_of (by repeat (first | exact (Fresh.freeT hf (by omega)) | refine FreeT.set ?_ (by omega) | refine FreeT.via (by assumption) ?_ (by omega)))
      simp only [↓ow_cons, ↓contO_eq, ↓op_load, ↓op_convert, ↓op_fieldAddr, ↓op_call, vW_some, setD_some, on1_some, ldV_eq, faV_eq, callV_some, arg_val, opd, opds, rd_set, rd_nil, convV, loadV, fieldAddrV, take?, undF, aggF, infF, Nat.reduceEqDiff, Nat.reduceAdd, Nat.reduceLeDiff, reduceIte, reduceCtorEq, List.length_cons, List.length_nil, List.getElem?_cons_zero, List.getElem?_cons_succ, List.cons_append, List.nil_append, List.append_nil, List.drop_succ_cons, List.drop_zero, List.take_succ_cons, List.take_zero, Nat.zero_add, Tr.get_set, Nat.add_assoc, List.append_assoc]
      refine put_step (by simp) (fw_u64_small off hoff) (by omega) (by simp at hlen ⊢; omega) ?_ ?_
      · exact tokFree_of (by repeat (first | exact (Fresh.freeT hf (by omega)) | refine FreeT.set ?_ (by omega) | refine FreeT.via (by assumption) ?_ (by omega)))
      simp only [↓cw_ret, ↓cw_seq, ↓cw_region, ↓then_normal, ↓block_normal, ↓draw_false, ↓draw_true, ↓ow_nil, ↓ow_cons, ↓contO_eq, ↓op_move, ↓op_assign, ↓ret_ret, ↓force_DQ, vW_some, bW_false, setD_some, resW, opd, rd_set, rd_nil, hasStore, isStore, resV, Nat.reduceEqDiff, Nat.reduceAdd, reduceIte, reduceCtorEq, Bool.or_false, List.any, List.length_cons, List.length_nil, List.cons_append, Nat.zero_add, St.bump, Nat.add_assoc, List.size_toArray, List.append_assoc]
      refine hQ _ _ ⟨by simp only; omega, ?_, fun l hl => ?_⟩ (.here (by omega)) (by simp only; omega)
      · first | exact Fresh.of (by repeat (first | exact (Fresh.freeH hf (by omega)) | refine FreeH.set ?_ (by omega))) (by repeat (first | exact (Fresh.freeT hf (by omega)) | refine FreeT.set ?_ (by omega) | refine FreeT.via (by assumption) ?_ (by omega)))
      · simp only [Tr.get_set]; rw [if_neg (by omega)]
    · have hE : encF 5 n al off res ls b.enc e.enc e.len = [0] := by simp [encF]
      rw [hE] at hQ hlen
      simp only [↓cw_seq, ↓cw_block, ↓cw_cond, ↓cw_region, ↓then_normal, ↓draw_false, ↓ow_nil, ↓ow_cons, ↓contO_eq, ↓op_move, ↓op_assign, ↓op_buildSlice, ↓op_binOp, ↓op_call, ↓force_DC, vW_some, pW_some, bW_true, bW_false, ifW_some, setD_some, bldS, on2_some, biV_eq, arg_blt, opd, opds, ofConst, leaf, rd_set, rd_nil, binV, intV, isConst, bltV, fillV, parts, put, flat, AV.cells, AV.strip, undF, aggF, infF, Nat.reduceEqDiff, Nat.reduceAdd, Nat.reduceMul, Nat.reduceLeDiff, ne_eq, not_false_eq_true, reduceIte, reduceCtorEq, Bool.or_true, List.length_cons, List.length_nil, List.append_nil, List.take_succ_cons, List.take_zero, List.set_cons_zero, List.map_cons, List.map_nil, Int.reduceBEq, beq_self_eq_true, Nat.zero_add, and_self, newTok, St.bump, Tr.get_set, Nat.add_assoc, Nat.add_left_cancel_iff, or_true, List.headD_cons, tokFree, buildSliceV, repeatCells, chunk, List.size_toArray, Int.cast_ofNat_Int, Tryd.f48, hXn]
      refine app_step (y := 0) (ys := []) (bs := bs ++ [(op : Int)]) ?_ (by simp at hlen ⊢; omega) ?_ fun Y hY => ?_
      · exact .inr ⟨by omega, by simp [Tr.get_set]⟩
      · exact tokFree_of (by repeat (first | exact (Fresh.freeT hf (by omega)) | refine FreeT.set ?_ (by omega) | refine FreeT.via (by assumption) ?_ (by omega)))
      simp only [↓cw_ret, ↓cw_seq, ↓cw_region, ↓then_normal, ↓block_normal, ↓draw_false, ↓ow_nil, ↓ow_cons, ↓contO_eq, ↓op_move, ↓op_assign, ↓ret_ret, vW_some, setD_some, resW, opd, rd_set, rd_nil, resV, Nat.reduceEqDiff, Nat.reduceAdd, reduceIte, reduceCtorEq, List.length_cons, List.length_nil, List.cons_append, List.nil_append, Nat.zero_add, St.bump, Nat.add_assoc, List.size_toArray, List.append_assoc]
      refine hQ _ _ ⟨by simp only; omega, ?_, fun l hl => ?_⟩ (.here (by omega)) (by simp only; omega)
      · first | exact Fresh.of (by repeat (first | exact (Fresh.freeH hf (by omega)) | refine FreeH.set ?_ (by omega))) (by repeat (first | exact (Fresh.freeT hf (by omega)) | refine FreeT.set ?_ (by omega) | refine FreeT.via (by assumption) ?_ (by omega)))
      · simp only [Tr.get_set]; rw [if_neg (by omega)]
    · have hE : encF 6 n al off res ls b.enc e.enc e.len = kindB res :: b.enc ++ (if e.len = 0 then [] else 5 :: e.enc) ++ [11] := by simp [encF]
      rw [hE] at hQ hlen
      simp only [↓cw_skip, ↓cw_seq, ↓cw_block, ↓cw_cond, ↓cw_region, ↓then_normal, ↓draw_false, ↓ow_nil, ↓ow_cons, ↓contO_eq, ↓op_move, ↓op_assign, ↓op_load, ↓op_binOp, ↓op_fieldAddr, ↓op_call, ↓force_DC, vW_some, bW_true, bW_false, ifW_some, setD_some, on1_some, on2_some, ldV_eq, biV_eq, faV_eq, callV_some, arg_val, opd, opds, ofConst, leaf, rd_set, rd_nil, binV, intV, isConst, loadV, fieldAddrV, take?, undF, aggF, infF, Nat.reduceEqDiff, Nat.reduceAdd, Nat.reduceLeDiff, reduceIte, reduceCtorEq, Bool.or_true, List.length_cons, List.length_nil, List.getElem?_cons_zero, List.getElem?_cons_succ, List.append_nil, List.drop_succ_cons, List.drop_zero, List.take_succ_cons, List.take_zero, Int.reduceBEq, beq_self_eq_true, Nat.zero_add, St.bump, Tr.get_set, Nat.add_assoc, List.size_toArray, Int.cast_ofNat_Int, Tryd.f48]
      refine pc69.call rfl (w_kind res) ?_
      simp only [↓ow_cons, ↓contO_eq, ↓op_buildSlice, ↓op_call, pW_some, setD_some, bldS, arg_blt, opd, opds, rd_set, rd_nil, bltV, fillV, parts, put, flat, AV.cells, AV.strip, undF, aggF, infF, Nat.reduceEqDiff, Nat.reduceAdd, Nat.reduceMul, Nat.reduceLeDiff, ne_eq, not_false_eq_true, reduceIte, reduceCtorEq, List.length_cons, List.length_nil, List.append_nil, List.take_succ_cons, List.take_zero, List.set_cons_zero, List.map_cons, List.map_nil, Nat.zero_add, and_self, newTok, Tr.get_set, Nat.add_assoc, Nat.add_left_cancel_iff, or_true, List.headD_cons, tokFree, buildSliceV, repeatCells, chunk, hXn]
      refine app_step (y := kindB res) (ys := []) (bs := bs ++ [(op : Int)]) ?_ (by simp at hlen ⊢; omega) ?_ fun Y hY => ?_
      · exact .inr ⟨by omega, by simp [Tr.get_set]⟩
      · exact tokFree_of (by repeat (first | exact (Fresh.freeT hf (by omega)) | refine FreeT.set ?_ (by omega) | refine FreeT.via (by assumption) ?_ (by omega)))
      simp only [↓ow_cons, ↓contO_eq, ↓op_load, ↓op_fieldAddr, ↓op_call, vW_some, setD_some, on1_some, ldV_eq, faV_eq, callV_some, arg_val, opd, opds, rd_set, rd_nil, loadV, fieldAddrV, take?, undF, aggF, infF, Nat.reduceEqDiff, Nat.reduceAdd, Nat.reduceLeDiff, reduceIte, reduceCtorEq, List.length_cons, List.length_nil, List.getElem?_cons_zero, List.getElem?_cons_succ, List.cons_append, List.nil_append, List.append_nil, List.drop_succ_cons, List.drop_zero, List.take_succ_cons, List.take_zero, Nat.zero_add, Tr.get_set, Nat.add_assoc, List.append_assoc]
      refine FnW_call rfl (by kernel_rfl) (by kernel_rfl) (by kernel_rfl) (Hb _ (bs ++ [(op : Int), kindB res]) _ _ ?_ ?_ ?_ ?_ fun κ1 σ1 he1 hk1 hkn1 => ?_)
      · simp only [St.bump]
        first | exact Fresh.of (by repeat (first | exact (Fresh.freeH hf (by omega)) | refine FreeH.set ?_ (by omega))) (by repeat (first | exact (Fresh.freeT hf (by omega)) | refine FreeT.set ?_ (by omega) | refine FreeT.via (by assumption) ?_ (by omega)))
      · exact .inr ⟨by omega, by simp [St.bump, Tr.get_set]⟩
      · simp only [St.bump]; omega
      · simp at hlen ⊢; omega
      have hbx := he1.h σ.nb (by simp only [St.bump]; omega)
      simp only [St.bump, Tr.get_set, if_true] at hbx
      have hnb1 : σ.nb + 29 ≤ σ1.nb := by have := he1.nb; simp only [St.bump] at this; omega
      have hlt1 : ∀ l, l < σ.nb → Tr.get σ1.h l = Tr.get σ.h l := fun l hl => by
        have := he1.h l (by simp only [St.bump]; omega)
        simp only [St.bump, Tr.get_set] at this
        rw [if_neg (by omega)] at this; exact this
      have hf1 := he1.fresh
      simp only [↓cw_seq, ↓cw_cond, ↓cw_region, ↓then_normal, ↓draw_false, ↓draw_true, ↓ow_nil, ↓ow_cons, ↓contO_eq, ↓op_assign, ↓op_load, ↓op_binOp, ↓op_fieldAddr, ↓op_call, ↓force_DQ, vW_some, pW_some, bW_false, ifW_some, setD_some, on1_some, on2_some, ldV_eq, biV_eq, faV_eq, arg_blt, opd, opds, ofConst, leaf, pureV, rd_set, rd_nil, binV, intV, isConst, bltV, lenV, loadV, fieldAddrV, take?, hasStore, isStore, undF, aggF, infF, Nat.reduceEqDiff, Nat.reduceAdd, Nat.reduceLeDiff, reduceIte, reduceCtorEq, Bool.or_false, Bool.or_true, List.any, List.length_cons, List.length_nil, List.getElem?_cons_zero, List.getElem?_cons_succ, List.cons_append, List.nil_append, List.drop_succ_cons, List.drop_zero, List.take_succ_cons, List.take_zero, Nat.zero_add, St.bump, Nat.add_assoc, List.size_toArray, List.append_assoc, hbx, L.len_av]
      by_cases hel : e.len = 0
      · have hd : decide ((e.len : Int) > 0) = false := decide_eq_false (by omega)
        rw [if_pos hel] at hQ hlen
        simp only [↓cw_skip, ↓cw_region, ↓then_normal, ↓ow_cons, ↓contO_eq, ↓op_move, ↓op_buildSlice, ↓op_call, ↓force_DC, vW_some, pW_some, bW_false, setD_some, bldS, arg_blt, opd, opds, ofConst, leaf, rd_set, rd_nil, bltV, fillV, parts, put, flat, AV.cells, AV.strip, undF, aggF, infF, Nat.reduceEqDiff, Nat.reduceAdd, Nat.reduceMul, Nat.reduceLeDiff, ne_eq, not_false_eq_true, reduceIte, reduceCtorEq, List.length_cons, List.length_nil, List.append_nil, List.take_succ_cons, List.take_zero, List.set_cons_zero, List.map_cons, List.map_nil, Nat.zero_add, and_self, newTok, Nat.add_assoc, or_true, List.headD_cons, tokFree, buildSliceV, repeatCells, chunk, List.size_toArray, hf1.tb, hd]
        refine app_step (y := 11) (ys := []) (bs := bs ++ (op : Int) :: kindB res :: b.enc) ?_ (by simp at hlen ⊢; omega) ?_ fun Z hZ => ?_
        · exact TokOk.set (σ := σ1) (bs := bs ++ (op : Int) :: kindB res :: b.enc) (by simpa using hk1) (by omega)
        · exact tokFree_of (by repeat (first | exact (Fresh.freeT hf1 (by omega)) | refine FreeT.set ?_ (by omega) | refine FreeT.via (by assumption) ?_ (by omega)))
        simp only [↓cw_ret, ↓cw_seq, ↓cw_region, ↓then_normal, ↓block_normal, ↓draw_false, ↓ow_nil, ↓ow_cons, ↓contO_eq, ↓op_move, ↓op_assign, ↓ret_ret, vW_some, setD_some, resW, opd, rd_set, rd_nil, resV, Nat.reduceEqDiff, Nat.reduceAdd, reduceIte, reduceCtorEq, List.length_cons, List.length_nil, List.cons_append, Nat.zero_add, St.bump, Nat.add_assoc, List.size_toArray, List.append_assoc]
        simp only [List.append_nil, List.cons_append] at hQ ⊢
        refine hQ _ _ ⟨by simp only; omega, ?_, fun l hl => hlt1 l hl⟩ (.here (by omega)) (by simp only; omega)
        first | exact Fresh.of (by repeat (first | exact (Fresh.freeH hf1 (by omega)) | refine FreeH.set ?_ (by omega))) (by repeat (first | exact (Fresh.freeT hf1 (by omega)) | refine FreeT.set ?_ (by omega) | refine FreeT.via (by assumption) ?_ (by omega)))
      · have hd : decide ((e.len : Int) > 0) = true := decide_eq_true (by omega)
        rw [if_neg hel] at hQ hlen
        simp only [↓cw_region, ↓ow_cons, ↓contO_eq, ↓op_move, ↓op_buildSlice, ↓op_call, ↓force_DC, vW_some, pW_some, bW_true, setD_some, bldS, arg_blt, opd, opds, ofConst, leaf, rd_set, rd_nil, bltV, fillV, parts, put, flat, AV.cells, AV.strip, undF, aggF, infF, Nat.reduceEqDiff, Nat.reduceAdd, Nat.reduceMul, Nat.reduceLeDiff, ne_eq, not_false_eq_true, reduceIte, reduceCtorEq, List.length_cons, List.length_nil, List.append_nil, List.take_succ_cons, List.take_zero, List.set_cons_zero, List.map_cons, List.map_nil, Nat.zero_add, and_self, newTok, Nat.add_assoc, or_true, List.headD_cons, tokFree, buildSliceV, repeatCells, chunk, List.size_toArray, hf1.tb, hd]
        refine app_step (y := 5) (ys := []) (bs := bs ++ (op : Int) :: kindB res :: b.enc) ?_ (by simp at hlen ⊢; omega) ?_ fun Z hZ => ?_
        · exact TokOk.set (σ := σ1) (bs := bs ++ (op : Int) :: kindB res :: b.enc) (by simpa using hk1) (by omega)
        · exact tokFree_of (by repeat (first | exact (Fresh.freeT hf1 (by omega)) | refine FreeT.set ?_ (by omega) | refine FreeT.via (by assumption) ?_ (by omega)))
        simp only [↓ow_cons, ↓contO_eq, ↓op_load, ↓op_fieldAddr, ↓op_call, vW_some, setD_some, on1_some, ldV_eq, faV_eq, callV_some, arg_val, opd, opds, rd_set, rd_nil, loadV, fieldAddrV, take?, undF, aggF, infF, Nat.reduceEqDiff, Nat.reduceAdd, Nat.reduceLeDiff, reduceIte, reduceCtorEq, List.length_cons, List.length_nil, List.getElem?_cons_zero, List.getElem?_cons_succ, List.cons_append, List.append_nil, List.drop_succ_cons, List.drop_zero, List.take_succ_cons, List.take_zero, Nat.zero_add, Nat.add_assoc, List.append_assoc, hbx]
        refine FnW_call rfl (by kernel_rfl) (by kernel_rfl) (by kernel_rfl) (He _ (bs ++ (op : Int) :: kindB res :: (b.enc ++ [5])) _ _ ?_ ?_ ?_ ?_ fun κ2 σ2 he2 hk2 hkn2 => ?_)
        · simp only [St.bump]
          first | exact Fresh.of (by repeat (first | exact (Fresh.freeH hf1 (by omega)) | refine FreeH.set ?_ (by omega))) (by repeat (first | exact (Fresh.freeT hf1 (by omega)) | refine FreeT.set ?_ (by omega) | refine FreeT.via (by assumption) ?_ (by omega)))
        · exact .inr ⟨by omega, by simp [St.bump, Tr.get_set]⟩
        · simp only [St.bump]; omega
        · simp at hlen ⊢; omega
        have hnb2 : σ1.nb + 4 ≤ σ2.nb := by have := he2.nb; simp only [St.bump] at this; omega
        have hlt2 : ∀ l, l < σ.nb → Tr.get σ2.h l = Tr.get σ.h l := fun l hl => by
          have := he2.h l (by simp only [St.bump]; omega)
          simp only [St.bump] at this
          rw [this]; exact hlt1 l hl
        have hf2 := he2.fresh
        simp only [↓cw_region, ↓then_normal, ↓draw_true, ↓ow_nil, ↓ow_cons, ↓contO_eq, ↓op_move, ↓op_assign, ↓op_buildSlice, ↓op_call, ↓force_DQ, vW_some, pW_some, bW_false, setD_some, bldS, arg_blt, opd, opds, ofConst, leaf, rd_set, rd_nil, bltV, fillV, parts, put, flat, AV.cells, AV.strip, hasStore, isStore, undF, aggF, infF, Nat.reduceEqDiff, Nat.reduceAdd, Nat.reduceMul, Nat.reduceLeDiff, ne_eq, not_false_eq_true, reduceIte, reduceCtorEq, Bool.or_false, List.any, List.length_cons, List.length_nil, List.cons_append, List.nil_append, List.append_nil, List.take_succ_cons, List.take_zero, List.set_cons_zero, List.map_cons, List.map_nil, Nat.zero_add, and_self, newTok, St.bump, Nat.add_assoc, or_true, List.headD_cons, tokFree, buildSliceV, repeatCells, chunk, List.size_toArray, List.append_assoc, hf2.tb]
        refine app_step (y := 11) (ys := []) (bs := bs ++ (op : Int) :: kindB res :: (b.enc ++ 5 :: e.enc)) ?_ (by simp at hlen ⊢; omega) ?_ fun W hW => ?_
        · exact TokOk.set (σ := σ2) (bs := bs ++ (op : Int) :: kindB res :: (b.enc ++ 5 :: e.enc)) (by simpa using hk2) (by omega)
        · exact tokFree_of (by repeat (first | exact (Fresh.freeT hf2 (by omega)) | refine FreeT.set ?_ (by omega) | refine FreeT.via (by assumption) ?_ (by omega)))
        simp only [↓cw_ret, ↓cw_seq, ↓cw_region, ↓then_normal, ↓block_normal, ↓draw_false, ↓ow_nil, ↓ow_cons, ↓contO_eq, ↓op_move, ↓op_assign, ↓ret_ret, vW_some, setD_some, resW, opd, rd_set, rd_nil, resV, Nat.reduceEqDiff, Nat.reduceAdd, reduceIte, reduceCtorEq, List.length_cons, List.length_nil, List.cons_append, Nat.zero_add, St.bump, Nat.add_assoc, List.size_toArray, List.append_assoc]
        simp only [List.append_assoc, List.cons_append] at hQ ⊢
        refine hQ _ _ ⟨by simp only; omega, ?_, fun l hl => hlt2 l hl⟩ (.here (by omega)) (by simp only; omega)
        first | exact Fresh.of (by repeat (first | exact (Fresh.freeH hf2 (by omega)) | refine FreeH.set ?_ (by omega))) (by repeat (first | exact (Fresh.freeT hf2 (by omega)) | refine FreeT.set ?_ (by omega) | refine FreeT.via (by assumption) ?_ (by omega)))
    · have hE : encF 7 n al off res ls b.enc e.enc e.len = kindB res :: b.enc ++ (if e.len = 0 then [] else 5 :: e.enc) ++ [11] := by simp [encF]
      rw [hE] at hQ hlen
      simp only [↓cw_seq, ↓cw_block, ↓cw_cond, ↓cw_region, ↓then_normal, ↓draw_false, ↓ow_nil, ↓ow_cons, ↓contO_eq, ↓op_move, ↓op_assign, ↓op_load, ↓op_binOp, ↓op_fieldAddr, ↓op_call, ↓force_DC, vW_some, bW_true, bW_false, ifW_some, setD_some, on1_some, on2_some, ldV_eq, biV_eq, faV_eq, callV_some, arg_val, opd, opds, ofConst, leaf, rd_set, rd_nil, binV, intV, isConst, loadV, fieldAddrV, take?, undF, aggF, infF, Nat.reduceEqDiff, Nat.reduceAdd, Nat.reduceLeDiff, reduceIte, reduceCtorEq, Bool.or_true, List.length_cons, List.length_nil, List.getElem?_cons_zero, List.getElem?_cons_succ, List.append_nil, List.drop_succ_cons, List.drop_zero, List.take_succ_cons, List.take_zero, Int.reduceBEq, beq_self_eq_true, Nat.zero_add, St.bump, Tr.get_set, Nat.add_assoc, List.size_toArray, Int.cast_ofNat_Int, Tryd.f48]
      refine pc69.call rfl (w_kind res) ?_
      simp only [↓ow_cons, ↓contO_eq, ↓op_buildSlice, ↓op_call, pW_some, setD_some, bldS, arg_blt, opd, opds, rd_set, rd_nil, bltV, fillV, parts, put, flat, AV.cells, AV.strip, undF, aggF, infF, Nat.reduceEqDiff, Nat.reduceAdd, Nat.reduceMul, Nat.reduceLeDiff, ne_eq, not_false_eq_true, reduceIte, reduceCtorEq, List.length_cons, List.length_nil, List.append_nil, List.take_succ_cons, List.take_zero, List.set_cons_zero, List.map_cons, List.map_nil, Nat.zero_add, and_self, newTok, Tr.get_set, Nat.add_assoc, Nat.add_left_cancel_iff, or_true, List.headD_cons, tokFree, buildSliceV, repeatCells, chunk, hXn]
      refine app_step (y := kindB res) (ys := []) (bs := bs ++ [(op : Int)]) ?_ (by simp at hlen ⊢; omega) ?_ fun Y hY => ?_
      · exact .inr ⟨by omega, by simp [Tr.get_set]⟩
      · exact tokFree_of (by repeat (first | exact (Fresh.freeT hf (by omega)) | refine FreeT.set ?_ (by omega) | refine FreeT.via (by assumption) ?_ (by omega)))
      simp only [↓ow_cons, ↓contO_eq, ↓op_load, ↓op_fieldAddr, ↓op_call, vW_some, setD_some, on1_some, ldV_eq, faV_eq, callV_some, arg_val, opd, opds, rd_set, rd_nil, loadV, fieldAddrV, take?, undF, aggF, infF, Nat.reduceEqDiff, Nat.reduceAdd, Nat.reduceLeDiff, reduceIte, reduceCtorEq, List.length_cons, List.length_nil, List.getElem?_cons_zero, List.getElem?_cons_succ, List.cons_append, List.nil_append, List.append_nil, List.drop_succ_cons, List.drop_zero, List.take_succ_cons, List.take_zero, Nat.zero_add, Tr.get_set, Nat.add_assoc, List.append_assoc]
      refine FnW_call rfl (by kernel_rfl) (by kernel_rfl) (by kernel_rfl) (Hb _ (bs ++ [(op : Int), kindB res]) _ _ ?_ ?_ ?_ ?_ fun κ1 σ1 he1 hk1 hkn1 => ?_)
      · simp only [St.bump]
        first | exact Fresh.of (by repeat (first | exact (Fresh.freeH hf (by omega)) | refine FreeH.set ?_ (by omega))) (by repeat (first | exact (Fresh.freeT hf (by omega)) | refine FreeT.set ?_ (by omega) | refine FreeT.via (by assumption) ?_ (by omega)))
      · exact .inr ⟨by omega, by simp [St.bump, Tr.get_set]⟩
      · simp only [St.bump]; omega
      · simp at hlen ⊢; omega
      have hbx := he1.h σ.nb (by simp only [St.bump]; omega)
      simp only [St.bump, Tr.get_set, if_true] at hbx
      have hnb1 : σ.nb + 29 ≤ σ1.nb := by have := he1.nb; simp only [St.bump] at this; omega
      have hlt1 : ∀ l, l < σ.nb → Tr.get σ1.h l = Tr.get σ.h l := fun l hl => by
        have := he1.h l (by simp only [St.bump]; omega)
        simp only [St.bump, Tr.get_set] at this
        rw [if_neg (by omega)] at this; exact this
      have hf1 := he1.fresh
      simp only [↓cw_seq, ↓cw_cond, ↓cw_region, ↓then_normal, ↓draw_false, ↓draw_true, ↓ow_nil, ↓ow_cons, ↓contO_eq, ↓op_assign, ↓op_load, ↓op_binOp, ↓op_fieldAddr, ↓op_call, ↓force_DQ, vW_some, pW_some, bW_false, ifW_some, setD_some, on1_some, on2_some, ldV_eq, biV_eq, faV_eq, arg_blt, opd, opds, ofConst, leaf, pureV, rd_set, rd_nil, binV, intV, isConst, bltV, lenV, loadV, fieldAddrV, take?, hasStore, isStore, undF, aggF, infF, Nat.reduceEqDiff, Nat.reduceAdd, Nat.reduceLeDiff, reduceIte, reduceCtorEq, Bool.or_false, Bool.or_true, List.any, List.length_cons, List.length_nil, List.getElem?_cons_zero, List.getElem?_cons_succ, List.cons_append, List.nil_append, List.drop_succ_cons, List.drop_zero, List.take_succ_cons, List.take_zero, Nat.zero_add, St.bump, Nat.add_assoc, List.size_toArray, List.append_assoc, hbx, L.len_av]
      by_cases hel : e.len = 0
      · have hd : decide ((e.len : Int) > 0) = false := decide_eq_false (by omega)
        rw [if_pos hel] at hQ hlen
        simp only [↓cw_skip, ↓cw_region, ↓then_normal, ↓ow_cons, ↓contO_eq, ↓op_move, ↓op_buildSlice, ↓op_call, ↓force_DC, vW_some, pW_some, bW_false, setD_some, bldS, arg_blt, opd, opds, ofConst, leaf, rd_set, rd_nil, bltV, fillV, parts, put, flat, AV.cells, AV.strip, undF, aggF, infF, Nat.reduceEqDiff, Nat.reduceAdd, Nat.reduceMul, Nat.reduceLeDiff, ne_eq, not_false_eq_true, reduceIte, reduceCtorEq, List.length_cons, List.length_nil, List.append_nil, List.take_succ_cons, List.take_zero, List.set_cons_zero, List.map_cons, List.map_nil, Nat.zero_add, and_self, newTok, Nat.add_assoc, or_true, List.headD_cons, tokFree, buildSliceV, repeatCells, chunk, List.size_toArray, hf1.tb, hd]
        refine app_step (y := 11) (ys := []) (bs := bs ++ (op : Int) :: kindB res :: b.enc) ?_ (by simp at hlen ⊢; omega) ?_ fun Z hZ => ?_
        · exact TokOk.set (σ := σ1) (bs := bs ++ (op : Int) :: kindB res :: b.enc) (by simpa using hk1) (by omega)
        · exact tokFree_of (by repeat (first | exact (Fresh.freeT hf1 (by omega)) | refine FreeT.set ?_ (by omega) | refine FreeT.via (by assumption) ?_ (by omega)))
        simp only [↓cw_ret, ↓cw_seq, ↓cw_region, ↓then_normal, ↓block_normal, ↓draw_false, ↓ow_nil, ↓ow_cons, ↓contO_eq, ↓op_move, ↓op_assign, ↓ret_ret, vW_some, setD_some, resW, opd, rd_set, rd_nil, resV, Nat.reduceEqDiff, Nat.reduceAdd, reduceIte, reduceCtorEq, List.length_cons, List.length_nil, List.cons_append, Nat.zero_add, St.bump, Nat.add_assoc, List.size_toArray, List.append_assoc]
        simp only [List.append_nil, List.cons_append] at hQ ⊢
        refine hQ _ _ ⟨by simp only; omega, ?_, fun l hl => hlt1 l hl⟩ (.here (by omega)) (by simp only; omega)
        first | exact Fresh.of (by repeat (first | exact (Fresh.freeH hf1 (by omega)) | refine FreeH.set ?_ (by omega))) (by repeat (first | exact (Fresh.freeT hf1 (by omega)) | refine FreeT.set ?_ (by omega) | refine FreeT.via (by assumption) ?_ (by omega)))
      · have hd : decide ((e.len : Int) > 0) = true := decide_eq_true (by omega)
        rw [if_neg hel] at hQ hlen
        simp only [↓cw_region, ↓ow_cons, ↓contO_eq, ↓op_move, ↓op_buildSlice, ↓op_call, ↓force_DC, vW_some, pW_some, bW_true, setD_some, bldS, arg_blt, opd, opds, ofConst, leaf, rd_set, rd_nil, bltV, fillV, parts, put, flat, AV.cells, AV.strip, undF, aggF, infF, Nat.reduceEqDiff, Nat.reduceAdd, Nat.reduceMul, Nat.reduceLeDiff, ne_eq, not_false_eq_true, reduceIte, reduceCtorEq, List.length_cons, List.length_nil, List.append_nil, List.take_succ_cons, List.take_zero, List.set_cons_zero, List.map_cons, List.map_nil, Nat.zero_add, and_self, newTok, Nat.add_assoc, or_true, List.headD_cons, tokFree, buildSliceV, repeatCells, chunk, List.size_toArray, hf1.tb, hd]
        refine app_step (y := 5) (ys := []) (bs := bs ++ (op : Int) :: kindB res :: b.enc) ?_ (by simp at hlen ⊢; omega) ?_ fun Z hZ => ?_
        · exact TokOk.set (σ := σ1) (bs := bs ++ (op : Int) :: kindB res :: b.enc) (by simpa using hk1) (by omega)
        · exact tokFree_of (by repeat (first | exact (Fresh.freeT hf1 (by omega)) | refine FreeT.set ?_ (by omega) | refine FreeT.via (by assumption) ?_ (by omega)))
        simp only [↓ow_cons, ↓contO_eq, ↓op_load, ↓op_fieldAddr, ↓op_call, vW_some, setD_some, on1_some, ldV_eq, faV_eq, callV_some, arg_val, opd, opds, rd_set, rd_nil, loadV, fieldAddrV, take?, undF, aggF, infF, Nat.reduceEqDiff, Nat.reduceAdd, Nat.reduceLeDiff, reduceIte, reduceCtorEq, List.length_cons, List.length_nil, List.getElem?_cons_zero, List.getElem?_cons_succ, List.cons_append, List.append_nil, List.drop_succ_cons, List.drop_zero, List.take_succ_cons, List.take_zero, Nat.zero_add, Nat.add_assoc, List.append_assoc, hbx]
        refine FnW_call rfl (by kernel_rfl) (by kernel_rfl) (by kernel_rfl) (He _ (bs ++ (op : Int) :: kindB res :: (b.enc ++ [5])) _ _ ?_ ?_ ?_ ?_ fun κ2 σ2 he2 hk2 hkn2 => ?_)
        · simp only [St.bump]
          first | exact Fresh.of (by repeat (first | exact (Fresh.freeH hf1 (by omega)) | refine FreeH.set ?_ (by omega))) (by repeat (first | exact (Fresh.freeT hf1 (by omega)) | refine FreeT.set ?_ (by omega) | refine FreeT.via (by assumption) ?_ (by omega)))
        · exact .inr ⟨by omega, by simp [St.bump, Tr.get_set]⟩
        · simp only [St.bump]; omega
        · simp at hlen ⊢; omega
        have hnb2 : σ1.nb + 4 ≤ σ2.nb := by have := he2.nb; simp only [St.bump] at this; omega
        have hlt2 : ∀ l, l < σ.nb → Tr.get σ2.h l = Tr.get σ.h l := fun l hl => by
          have := he2.h l (by simp only [St.bump]; omega)
          simp only [St.bump] at this
          rw [this]; exact hlt1 l hl
        have hf2 := he2.fresh
        simp only [↓cw_region, ↓then_normal, ↓draw_true, ↓ow_nil, ↓ow_cons, ↓contO_eq, ↓op_move, ↓op_assign, ↓op_buildSlice, ↓op_call, ↓force_DQ, vW_some, pW_some, bW_false, setD_some, bldS, arg_blt, opd, opds, ofConst, leaf, rd_set, rd_nil, bltV, fillV, parts, put, flat, AV.cells, AV.strip, hasStore, isStore, undF, aggF, infF, Nat.reduceEqDiff, Nat.reduceAdd, Nat.reduceMul, Nat.reduceLeDiff, ne_eq, not_false_eq_true, reduceIte, reduceCtorEq, Bool.or_false, List.any, List.length_cons, List.length_nil, List.cons_append, List.nil_append, List.append_nil, List.take_succ_cons, List.take_zero, List.set_cons_zero, List.map_cons, List.map_nil, Nat.zero_add, and_self, newTok, St.bump, Nat.add_assoc, or_true, List.headD_cons, tokFree, buildSliceV, repeatCells, chunk, List.size_toArray, List.append_assoc, hf2.tb]
        refine app_step (y := 11) (ys := []) (bs := bs ++ (op : Int) :: kindB res :: (b.enc ++ 5 :: e.enc)) ?_ (by simp at hlen ⊢; omega) ?_ fun W hW => ?_
        · exact TokOk.set (σ := σ2) (bs := bs ++ (op : Int) :: kindB res :: (b.enc ++ 5 :: e.enc)) (by simpa using hk2) (by omega)
        · exact tokFree_of (by repeat (first | exact (Fresh.freeT hf2 (by omega)) | refine FreeT.set ?_ (by omega) | refine FreeT.via (by assumption) ?_ (by omega)))
        simp only [↓cw_ret, ↓cw_seq, ↓cw_region, ↓then_normal, ↓block_normal, ↓draw_false, ↓ow_nil, ↓ow_cons, ↓contO_eq, ↓op_move, ↓op_assign, ↓ret_ret, vW_some, setD_some, resW, opd, rd_set, rd_nil, resV, Nat.reduceEqDiff, Nat.reduceAdd, reduceIte, reduceCtorEq, List.length_cons, List.length_nil, List.cons_append, Nat.zero_add, St.bump, Nat.add_assoc, List.size_toArray, List.append_assoc]
        simp only [List.append_assoc, List.cons_append] at hQ ⊢
        refine hQ _ _ ⟨by simp only; omega, ?_, fun l hl => hlt2 l hl⟩ (.here (by omega)) (by simp only; omega)
        first | exact Fresh.of (by repeat (first | exact (Fresh.freeH hf2 (by omega)) | refine FreeH.set ?_ (by omega))) (by repeat (first | exact (Fresh.freeT hf2 (by omega)) | refine FreeT.set ?_ (by omega) | refine FreeT.via (by assumption) ?_ (by omega)))
    · have hE : encF 8 n al off res ls b.enc e.enc e.len = encU (fw .u64 (fw .i64 ((ls.length : Int) - 1))).toNat ++ ls.flatMap (fun x => encU x.toNat) := by simp [encF]
      rw [hE] at hQ hlen
      have hfl := flat_len ls
      simp only [List.length_cons, List.length_append] at hlen
      simp only [↓cw_seq, ↓cw_block, ↓cw_cond, ↓cw_region, ↓then_normal, ↓draw_false, ↓ow_nil, ↓ow_cons, ↓contO_eq, ↓op_move, ↓op_assign, ↓op_load, ↓op_binOp, ↓op_convert, ↓op_fieldAddr, ↓op_call, ↓force_DC, vW_some, pW_some, bW_true, bW_false, ifW_some, setD_some, on1_some, on2_some, ldV_eq, biV_eq, faV_eq, callV_some, arg_blt, arg_val, opd, opds, ofConst, leaf, pureV, rd_set, rd_nil, binV, intV, convV, isConst, bltV, lenV, loadV, fieldAddrV, take?, undF, aggF, infF, Nat.reduceEqDiff, Nat.reduceAdd, Nat.reduceLeDiff, reduceIte, reduceCtorEq, Bool.or_true, List.length_cons, List.length_nil, List.getElem?_cons_zero, List.getElem?_cons_succ, List.append_nil, List.drop_succ_cons, List.drop_zero, List.take_succ_cons, List.take_zero, Int.reduceBEq, beq_self_eq_true, Nat.zero_add, St.bump, Tr.get_set, Nat.add_assoc, List.size_toArray, Int.cast_ofNat_Int, Tryd.f48, u32s_len]
      refine put_step (by simp) (fw_u64_nat _) (fw_u64_lt _) (by simp; omega) ?_ ?_
      · exact tokFree_of (by repeat (first | exact (Fresh.freeT hf (by omega)) | refine FreeT.set ?_ (by omega) | refine FreeT.via (by assumption) ?_ (by omega)))
      simp only [↓cw_seq, ↓cw_block, ↓cw_region, ↓then_normal, ↓draw_false, ↓ow_nil, ↓ow_cons, ↓contO_eq, ↓op_move, ↓op_assign, ↓op_load, ↓op_fieldAddr, ↓op_call, vW_some, pW_some, setD_some, on1_some, ldV_eq, faV_eq, arg_blt, opd, opds, ofConst, leaf, pureV, rd_set, rd_nil, bltV, lenV, loadV, fieldAddrV, take?, undF, aggF, infF, Nat.reduceEqDiff, Nat.reduceAdd, Nat.reduceLeDiff, reduceIte, reduceCtorEq, List.length_cons, List.length_nil, List.getElem?_cons_zero, List.getElem?_cons_succ, List.cons_append, List.nil_append, List.drop_succ_cons, List.drop_zero, List.take_succ_cons, List.take_zero, Nat.zero_add, St.bump, Tr.get_set, Nat.add_assoc, List.size_toArray, List.append_assoc, u32s_len]
      refine loop48 ls (bs ++ (op : Int) :: (encU (fw .u64 (fw .i64 ((ls.length : Int) - 1))).toNat ++ ls.flatMap (fun x => encU x.toNat))) σ _ (by omega) ls 0 (bs ++ (op : Int) :: encU (fw .u64 (fw .i64 ((ls.length : Int) - 1))).toNat) (σ.nb + 41) _ _ rfl hls ?_ ?_ ?_ ?_ ?_ ?_ ?_ ?_ ?_ ?_ ?_ ?_ fun κ' fr' σ' he hk' hkn' r0 => ?_
      · first | exact Fresh.of (by repeat (first | exact (Fresh.freeH hf (by omega)) | refine FreeH.set ?_ (by omega))) (by repeat (first | exact (Fresh.freeT hf (by omega)) | refine FreeT.set ?_ (by omega) | refine FreeT.via (by assumption) ?_ (by omega)))
      · simp only; omega
      · intro l hl
        simp only [Tr.get_set]; rw [if_neg (by omega)]
      · exact .inr ⟨by omega, by simp [Tr.get_set]⟩
      · simp only; omega
      · simp
      · simp only [List.length_append, List.length_cons]; omega
      · simp
      · simp only [rd_set, rd_nil, reduceIte, reduceCtorEq]
      · simp only [rd_set, rd_nil, Nat.reduceEqDiff, reduceIte, reduceCtorEq]
      · simp only [rd_set, rd_nil, Nat.reduceEqDiff, reduceIte, reduceCtorEq]
      · simp only [rd_set, rd_nil, Nat.reduceEqDiff, reduceIte, reduceCtorEq]
        rfl
      simp only [↓cw_ret, ↓cw_seq, ↓cw_region, ↓then_normal, ↓block_normal, ↓draw_false, ↓ow_nil, ↓ow_cons, ↓contO_eq, ↓op_move, ↓op_assign, ↓ret_ret, ↓force_DQ, block_exit, vW_some, bW_true, setD_some, resW, nbeq, opd, rd_set, resV, Nat.reduceEqDiff, Nat.reduceAdd, reduceIte, List.length_cons, List.length_nil, beq_self_eq_true, Nat.zero_add, St.bump, List.size_toArray, r0]
      refine hQ _ _ ⟨by have := he.nb; simp only; omega, ?_, fun l hl => he.h l hl⟩ hk' (by simp only; omega)
      exact he.fresh.bump 2
    · have hE : encF 9 n al off res ls b.enc e.enc e.len = encU (fw .u64 n).toNat ++ [0] := by simp [encF]
      rw [hE] at hQ hlen
      simp only [↓cw_seq, ↓cw_block, ↓cw_cond, ↓cw_region, ↓then_normal, ↓draw_false, ↓ow_nil, ↓ow_cons, ↓contO_eq, ↓op_move, ↓op_assign, ↓op_load, ↓op_binOp, ↓op_convert, ↓op_fieldAddr, ↓op_call, ↓force_DC, vW_some, bW_true, bW_false, ifW_some, setD_some, on1_some, on2_some, ldV_eq, biV_eq, faV_eq, callV_some, arg_val, opd, opds, ofConst, leaf, rd_set, rd_nil, binV, intV, convV, isConst, loadV, fieldAddrV, take?, undF, aggF, infF, Nat.reduceEqDiff, Nat.reduceAdd, Nat.reduceLeDiff, reduceIte, reduceCtorEq, Bool.or_true, List.length_cons, List.length_nil, List.getElem?_cons_zero, List.getElem?_cons_succ, List.append_nil, List.drop_succ_cons, List.drop_zero, List.take_succ_cons, List.take_zero, Int.reduceBEq, beq_self_eq_true, Nat.zero_add, St.bump, Tr.get_set, Nat.add_assoc, List.size_toArray, Int.cast_ofNat_Int, Tryd.f48]
      refine put_step (by simp) (fw_u64_nat n) (fw_u64_lt n) (by simp at hlen ⊢; omega) ?_ ?_
      · exact tokFree_of (by repeat (first | exact (Fresh.freeT hf (by omega)) | refine FreeT.set ?_ (by omega) | refine FreeT.via (by assumption) ?_ (by omega)))
      simp only [↓ow_cons, ↓contO_eq, ↓op_buildSlice, ↓op_call, pW_some, setD_some, bldS, arg_blt, opd, opds, ofConst, leaf, rd_set, rd_nil, bltV, fillV, parts, put, flat, AV.cells, AV.strip, undF, aggF, infF, Nat.reduceEqDiff, Nat.reduceAdd, Nat.reduceMul, Nat.reduceLeDiff, ne_eq, not_false_eq_true, reduceIte, reduceCtorEq, List.length_cons, List.length_nil, List.cons_append, List.nil_append, List.append_nil, List.take_succ_cons, List.take_zero, List.set_cons_zero, List.map_cons, List.map_nil, Nat.zero_add, and_self, newTok, Tr.get_set, Nat.add_assoc, Nat.add_left_cancel_iff, or_true, List.headD_cons, tokFree, buildSliceV, repeatCells, chunk, List.append_assoc, hXn]
      refine app_step (y := 0) (ys := []) (bs := bs ++ (op : Int) :: encU (fw .u64 n).toNat) ?_ (by simp at hlen ⊢; omega) ?_ fun Y hY => ?_
      · exact .inr ⟨by omega, by simp [Tr.get_set]⟩
      · exact tokFree_of (by repeat (first | exact (Fresh.freeT hf (by omega)) | refine FreeT.set ?_ (by omega) | refine FreeT.via (by assumption) ?_ (by omega)))
      simp only [↓cw_ret, ↓cw_seq, ↓cw_region, ↓then_normal, ↓block_normal, ↓draw_false, ↓ow_nil, ↓ow_cons, ↓contO_eq, ↓op_move, ↓op_assign, ↓ret_ret, vW_some, setD_some, resW, opd, rd_set, rd_nil, resV, Nat.reduceEqDiff, Nat.reduceAdd, reduceIte, reduceCtorEq, List.length_cons, List.length_nil, List.cons_append, Nat.zero_add, St.bump, Nat.add_assoc, List.size_toArray, List.append_assoc]
      refine hQ _ _ ⟨by simp only; omega, ?_, fun l hl => ?_⟩ (.here (by omega)) (by simp only; omega)
      · first | exact Fresh.of (by repeat (first | exact (Fresh.freeH hf (by omega)) | refine FreeH.set ?_ (by omega))) (by repeat (first | exact (Fresh.freeT hf (by omega)) | refine FreeT.set ?_ (by omega) | refine FreeT.via (by assumption) ?_ (by omega)))
      · simp only [Tr.get_set]; rw [if_neg (by omega)]
end Go.Pv
