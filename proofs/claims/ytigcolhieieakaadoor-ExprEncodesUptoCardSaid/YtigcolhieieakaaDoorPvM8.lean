/- ExprMany: the instructions it makes; its walk. (PvZ6) -/
import Derived.Test.YtigcolhieieakaaDoorPvR5
namespace Go.Pv
open Go Go.Proofs Go.RowKit
set_option linter.unusedVariables false
set_option linter.unusedSimpArgs false
set_option maxRecDepth 100000

def nopL : Nat → L
  | 0 => .nil
  | k + 1 => .cons 1 0 0 0 0 .nil .nil [] (nopL k)
def blkL : Nat → L → L
  | 0, l => l
  | d + 1, l => .cons 2 0 0 0 0 (blkL d l) .nil [] .nil
/-- Blocks of both kinds by turns. -/
def bloL : Nat → L
  | 0 => .nil
  | d + 1 => .cons (2 + d % 2) 0 0 0 0 (bloL d) .nil [] .nil

theorem form1 : formN 1 = some 0 := by decide
theorem form2 : formN 2 = some 6 := by decide
theorem form3 : formN 3 = some 6 := by decide
theorem form14 : formN 14 = some 8 := by decide

theorem nop_av (k : Nat) : (nopL k).av = List.replicate k (iav 1 0 0 0 0 [] [] []) := by
  induction k with
  | zero => rfl
  | succ k ih => simp only [nopL, L.av, ih, List.replicate_succ]; rfl
theorem nop_snoc (k : Nat) : (nopL k).av ++ [iav 1 0 0 0 0 [] [] []] = (nopL (k + 1)).av := by rw [nop_av, nop_av, List.replicate_succ']
theorem nop_len (k : Nat) : (nopL k).len = k := by induction k with
  | zero => rfl
  | succ k ih => simp only [nopL, L.len, ih]
theorem nop_cnt (k : Nat) : (nopL k).cnt = k := by induction k with
  | zero => rfl
  | succ k ih => simp only [nopL, L.cnt, ih]; omega
theorem nop_sz (k : Nat) : (nopL k).sz = k := by induction k with
  | zero => rfl
  | succ k ih => simp only [nopL, L.sz, ih, List.length_nil]; omega
theorem nop_nest (k : Nat) : (nopL k).nest = 0 := by induction k with
  | zero => rfl
  | succ k ih => simp only [nopL, L.nest, ih]; decide
theorem nop_wf (k : Nat) : (nopL k).wf := by induction k with
  | zero => trivial
  | succ k ih => exact ⟨by decide, by decide, by decide, by decide, by decide, trivial, trivial, by simp, ih⟩
theorem nop_each (k : Nat) : (nopL k).each = true := by induction k with
  | zero => rfl
  | succ k ih => simp only [nopL, L.each, ih]; decide
theorem nop_enc (k : Nat) : (nopL k).enc.length = k := by induction k with
  | zero => rfl
  | succ k ih => simp only [nopL, L.enc, encI, form1, encF, List.length_append, List.length_cons, ih]; simp; omega
theorem nop_rt (k : Nat) : (nopL k).rt := by induction k with
  | zero => trivial
  | succ k ih => exact ⟨by decide, ⟨0, form1, rfl, rfl, rfl, rfl, .inl ⟨rfl, rfl, rfl, rfl⟩⟩, trivial, ih⟩

theorem blk_cnt (d : Nat) (l : L) : (blkL d l).cnt = d + l.cnt := by induction d with
  | zero => simp [blkL]
  | succ d ih => simp only [blkL, L.cnt, ih]; omega
theorem blk_sz (d : Nat) (l : L) : (blkL d l).sz = d + l.sz := by induction d with
  | zero => simp [blkL]
  | succ d ih => simp only [blkL, L.sz, ih, List.length_nil]; omega
theorem isBlk2 : isBlk 2 = true := by decide
theorem isBlk3 : isBlk 3 = true := by decide
theorem blk_nest (d : Nat) (l : L) : (blkL d l).nest = d + l.nest := by induction d with
  | zero => simp [blkL]
  | succ d ih => simp only [blkL, L.nest, ih, isBlk2, if_true]; omega
theorem blk_wf (d : Nat) (l : L) (h : l.wf) : (blkL d l).wf := by induction d with
  | zero => exact h
  | succ d ih => exact ⟨by decide, by decide, by decide, by decide, by decide, ih, trivial, by simp, trivial⟩
theorem may_blk (b : L) : mayI 2 0 0 0 0 b .nil [] = true := by simp [mayI, form2, ownL, mayR]
theorem may_blk3 (b : L) : mayI 3 0 0 0 0 b .nil [] = true := by simp [mayI, form3, ownL, mayR]
theorem blk_each (d : Nat) (l : L) (h : l.each = true) : (blkL d l).each = true := by induction d with
  | zero => exact h
  | succ d ih => simp only [blkL, L.each, ih, may_blk]; rfl
theorem blk_enc (d : Nat) (l : L) : (blkL d l).enc.length = 3 * d + l.enc.length := by induction d with
  | zero => simp [blkL]
  | succ d ih => simp only [blkL, L.enc, encI, form2, encF, List.length_append, List.length_cons]; simp [L.len]; omega
theorem blk_rt (d : Nat) (l : L) (h : l.rt) : (blkL d l).rt := by induction d with
  | zero => exact h
  | succ d ih => exact ⟨by decide, ⟨6, form2, rfl, rfl, rfl, rfl, .inr (.inl ⟨rfl, .inl rfl, rfl⟩)⟩, ih, trivial⟩

theorem u64_rem (n : Int) (c : Nat) (hc : 0 < c) (hc' : c < 1000000) : fw .i64 (Int.tmod (fw .u64 n) (c : Int)) = (((fw .u64 n).toNat % c : Nat) : Int) := by
  rw [fw_u64_nat n]
  have h1 : Int.tmod (((fw .u64 n).toNat : Nat) : Int) (c : Int) = (((fw .u64 n).toNat % c : Nat) : Int) := by
    rw [Int.ofNat_tmod]
  rw [h1]
  have h2 : (fw .u64 n).toNat % c < c := Nat.mod_lt _ hc
  rw [fw_nat (by omega)]
  rfl
theorem w_sure : PureW TS 9 [] (.b true) := by
  have h : isTrue (evalCall TS 100000 9 [] St.start) = true := by kernel_rfl
  obtain ⟨σ, h⟩ := isTrue_spec h
  exact ⟨100000, _, σ, h, rfl, rfl⟩

theorem fw_natadd (a b : Nat) (h : a + b < 4611686018427387904) : fw .i64 ((a : Int) + (b : Int)) = ((a + b : Nat) : Int) := by unfold fw; simp only; rw [if_pos (by omega)]; omega
theorem fw_nat3 (d : Nat) (h : d < 1000000) : fw .i64 (3 * (d : Int)) = ((3 * d : Nat) : Int) := by unfold fw; simp only; rw [if_pos (by omega)]; omega

noncomputable def K8a : Code := cl (cr (cl (cr (cr (cr (fb Tryd.f8))))))
noncomputable def K8b : Code := cl (cr (cl (cr (cr (cr (cr (fb Tryd.f8)))))))
theorem loop8a (k d : Nat) (Q : Ex → Fr → St → Prop) (hk : k < 200)
    (hQ : ∀ κ fr σ, Fresh σ → fr.rd 5 = .i .i64 k → fr.rd 6 = .i .i64 d → fr.rd 7 = .sl (nopL k).av κ → Q (.exit 0) fr σ) :
    ∀ j i κ fr σ, i + j = k → Fresh σ → TokG σ (nopL i).av κ 8 → κ < σ.nb + 2 → fr.rd 5 = .i .i64 k → fr.rd 6 = .i .i64 d → fr.rd 7 = .sl (nopL i).av κ → fr.rd 8 = .i .i64 i → CodeW TS K8a fr σ Q := by
  intro j
  induction j with
  | zero =>
    intro i κ fr σ hi hf ht hκ r5 r6 r7 r8
    have hlt : decide ((i : Int) < k) = false := decide_eq_false (by omega)
    obtain rfl : i = k := by omega
    simp only [K8a, fb, Tryd.f8, cl, cr, Option.getD]
    rw [cw_loop]
    simp only [↓cw_exit, ↓cw_seq, ↓cw_cond, ↓cw_region, ↓then_normal, ↓then_exit, ↓draw_false, ↓ow_nil, ↓ow_cons, ↓contO_eq, ↓op_move, ↓op_binOp, ↓force_DC, vW_some, bW_false, ifW_some, setD_some, on2_some, biV_eq, opd, rd_set, binV, intV, isConst, Nat.reduceEqDiff, Nat.reduceAdd, reduceIte, Bool.or_false, List.length_cons, List.length_nil, Nat.zero_add, St.bump, List.size_toArray, r5, r8, hlt]
    refine hQ κ _ _ ?_ ?_ ?_ ?_
    · first | exact Fresh.of (by repeat (first | exact (Fresh.freeH hf (by omega)) | refine FreeH.set ?_ (by omega))) (by repeat (first | exact (Fresh.freeT hf (by omega)) | refine FreeT.set ?_ (by omega) | refine FreeT.via (by assumption) ?_ (by omega)))
    all_goals simp only [rd_set, Nat.reduceEqDiff, reduceIte, r5, r6, r7]
  | succ j ih =>
    intro i κ fr σ hi hf ht hκ r5 r6 r7 r8
    have hlt : decide ((i : Int) < k) = true := decide_eq_true (by omega)
    simp only [K8a, fb, Tryd.f8, cl, cr, Option.getD]
    rw [cw_loop]
    simp only [↓cw_skip, ↓cw_seq, ↓cw_block, ↓cw_cond, ↓cw_region, ↓then_normal, ↓draw_false, ↓ow_nil, ↓ow_cons, ↓contO_eq, ↓op_move, ↓op_build, ↓op_buildSlice, ↓op_binOp, ↓op_call, ↓force_DC, vW_some, pW_some, bW_true, ifW_some, setD_some, bldV, bldS, on2_some, biV_eq, arg_blt, opd, opds, ofConst, leaf, rd_set, binV, intV, isConst, bltV, buildV, places, fillV, parts, put, flat, AV.cells, AV.strip, AV.strip0, undF, aggF, infF, Nat.reduceEqDiff, Nat.reduceAdd, Nat.reduceMul, Nat.reduceLeDiff, ne_eq, not_false_eq_true, reduceIte, reduceCtorEq, Bool.or_false, List.length_cons, List.length_nil, List.getElem?_cons_zero, List.append_nil, List.take_succ_cons, List.take_zero, List.set_cons_zero, List.set_cons_succ, List.map_cons, List.map_nil, Nat.zero_add, and_self, newTok, St.bump, Nat.add_assoc, or_false, List.headD_cons, tokFree, buildSliceV, repeatCells, chunk, List.size_toArray, r5, r7, r8, hlt, hf.tb]
    refine app_gen u24 i42 a42 ?_ (by decide) (by decide) rfl ?_ ?_ ?_ fun X hX hX2 => ?_
    · refine TokG.keep (σ := σ) ht ?_
      simp only [Tr.get_set]
      rw [if_neg (by omega)]
    · exact head_iav (r := .nil) (l := nopL i) (by simp [L.av])
    · simp only [nop_av, List.length_replicate]; omega
    · exact tokFree_of (by repeat (first | exact (Fresh.freeT hf (by omega)) | refine FreeT.set ?_ (by omega) | refine FreeT.via (by assumption) ?_ (by omega)))
    simp only [↓cw_region, ↓then_normal, ↓block_normal, ↓draw_false, ↓ow_nil, ↓ow_cons, ↓contO_eq, ↓op_move, ↓op_assign, ↓op_binOp, vW_some, setD_some, on2_some, biV_eq, opd, ofConst, leaf, rd_set, binV, intV, isConst, AV.strip, AV.strip0, Nat.reduceEqDiff, Nat.reduceAdd, reduceIte, Bool.or_true, List.length_cons, List.length_nil, List.map_cons, List.map_nil, Nat.zero_add, St.bump, Nat.add_assoc, List.size_toArray, r8, fw_add1 (n := i) (by omega)]
    have hs := nop_snoc i
    simp only [iav, Int.cast_ofNat_Int] at hs
    refine ih (i + 1) (σ.nb + 8) _ _ (by omega) ?_ ?_ ?_ ?_ ?_ ?_ ?_
    · first | exact Fresh.of (by repeat (first | exact (Fresh.freeH hf (by omega)) | refine FreeH.set ?_ (by omega))) (by repeat (first | exact (Fresh.freeT hf (by omega)) | refine FreeT.set ?_ (by omega) | refine FreeT.via (by assumption) ?_ (by omega)))
    · exact .inr ⟨by omega, by simp [Tr.get_set]⟩
    · simp only; omega
    · simp only [rd_set, Nat.reduceEqDiff, reduceIte, r5]
    · simp only [rd_set, Nat.reduceEqDiff, reduceIte, r6]
    · simp only [rd_set, Nat.reduceEqDiff, reduceIte, hs]
    · simp only [rd_set, Nat.reduceEqDiff, reduceIte]

theorem loop8b (k d : Nat) (l : L) (Q : Ex → Fr → St → Prop) (hd : d < 60)
    (hQ : ∀ κ fr σ, Fresh σ → fr.rd 5 = .i .i64 k → fr.rd 6 = .i .i64 d → fr.rd 7 = .sl (blkL d l).av κ → Q (.exit 2) fr σ) :
    ∀ j i κ fr σ, i + j = d → Fresh σ → fr.rd 5 = .i .i64 k → fr.rd 6 = .i .i64 d → fr.rd 7 = .sl (blkL i l).av κ → fr.rd 9 = .i .i64 i → CodeW TS K8b fr σ Q := by
  intro j
  induction j with
  | zero =>
    intro i κ fr σ hi hf r5 r6 r7 r9
    have hlt : decide ((i : Int) < d) = false := decide_eq_false (by omega)
    obtain rfl : i = d := by omega
    simp only [K8b, fb, Tryd.f8, cl, cr, Option.getD]
    rw [cw_loop]
    simp only [↓cw_exit, ↓cw_seq, ↓cw_cond, ↓cw_region, ↓then_normal, ↓then_exit, ↓draw_false, ↓ow_nil, ↓ow_cons, ↓contO_eq, ↓op_move, ↓op_binOp, ↓force_DC, vW_some, bW_false, ifW_some, setD_some, on2_some, biV_eq, opd, rd_set, binV, intV, isConst, Nat.reduceEqDiff, Nat.reduceAdd, reduceIte, Bool.or_false, List.length_cons, List.length_nil, Nat.zero_add, St.bump, List.size_toArray, r6, r9, hlt]
    refine hQ κ _ _ ?_ ?_ ?_ ?_
    · first | exact Fresh.of (by repeat (first | exact (Fresh.freeH hf (by omega)) | refine FreeH.set ?_ (by omega))) (by repeat (first | exact (Fresh.freeT hf (by omega)) | refine FreeT.set ?_ (by omega) | refine FreeT.via (by assumption) ?_ (by omega)))
    all_goals simp only [rd_set, Nat.reduceEqDiff, reduceIte, r5, r6, r7]
  | succ j ih =>
    intro i κ fr σ hi hf r5 r6 r7 r9
    have hlt : decide ((i : Int) < d) = true := decide_eq_true (by omega)
    simp only [K8b, fb, Tryd.f8, cl, cr, Option.getD]
    rw [cw_loop]
    simp only [↓cw_skip, ↓cw_seq, ↓cw_block, ↓cw_cond, ↓cw_region, ↓then_normal, ↓block_normal, ↓draw_false, ↓ow_nil, ↓ow_cons, ↓contO_eq, ↓op_move, ↓op_assign, ↓op_build, ↓op_buildSlice, ↓op_binOp, ↓force_DC, vW_some, pW_some, bW_true, ifW_some, setD_some, bldV, bldS, on2_some, biV_eq, opd, ofConst, leaf, rd_set, binV, intV, isConst, buildV, places, fillV, parts, put, flat, AV.cells, AV.strip, AV.strip0, undF, aggF, infF, Nat.reduceEqDiff, Nat.reduceAdd, Nat.reduceMul, Nat.reduceLeDiff, ne_eq, not_false_eq_true, reduceIte, reduceCtorEq, Bool.or_false, Bool.or_true, List.length_cons, List.length_nil, List.getElem?_cons_zero, List.getElem?_cons_succ, List.append_nil, List.take_succ_cons, List.take_zero, List.set_cons_zero, List.set_cons_succ, List.map_cons, List.map_nil, Nat.zero_add, and_self, newTok, St.bump, Nat.add_assoc, or_false, List.headD_cons, tokFree, buildSliceV, repeatCells, chunk, List.size_toArray, r6, r7, r9, hlt, hf.tb, fw_add1 (n := i) (by omega)]
    refine ih (i + 1) (σ.nb + 7) _ _ (by omega) ?_ ?_ ?_ ?_ ?_
    · first | exact Fresh.of (by repeat (first | exact (Fresh.freeH hf (by omega)) | refine FreeH.set ?_ (by omega))) (by repeat (first | exact (Fresh.freeT hf (by omega)) | refine FreeT.set ?_ (by omega) | refine FreeT.via (by assumption) ?_ (by omega)))
    · simp only [rd_set, Nat.reduceEqDiff, reduceIte, r5]
    · simp only [rd_set, Nat.reduceEqDiff, reduceIte, r6]
    · simp only [rd_set, Nat.reduceEqDiff, reduceIte]
      rfl
    · simp only [rd_set, Nat.reduceEqDiff, reduceIte]

theorem w_many (n deep : Int) : PureW TS 8 [.i .i64 n, .i .i64 deep] (.b true) := by
  unfold PureW
  refine callW_of ft8 rfl (Nat.le_of_ble_eq_true rfl) ?_
  have hf : Fresh St.start := Fresh.start
  generalize St.start = σ at hf
  have hk := u64_rem n 200 (by omega) (by omega)
  have hd := u64_rem deep 60 (by omega) (by omega)
  have hk' : (fw .u64 n).toNat % 200 < 200 := Nat.mod_lt _ (by omega)
  have hd' : (fw .u64 deep).toNat % 60 < 60 := Nat.mod_lt _ (by omega)
  generalize (fw .u64 n).toNat % 200 = k at hk hk'
  generalize (fw .u64 deep).toNat % 60 = d at hd hd'
  simp only [Int.cast_ofNat_Int] at hk hd
  simp only [↓cw_seq, ↓cw_block, ↓cw_region, ↓then_normal, ↓draw_false, ↓ow_nil, ↓ow_cons, ↓contO_eq, ↓op_move, ↓op_assign, ↓op_binOp, ↓op_convert, vW_some, setD_some, on1_some, on2_some, biV_eq, opd, ofConst, leaf, rd_set, rd_nil, Fr.ofList, binV, intV, convV, isConst, undF, Nat.reduceEqDiff, Nat.reduceAdd, reduceIte, reduceCtorEq, Bool.or_true, List.length_cons, List.length_nil, Int.reduceEq, Nat.zero_add, St.bump, Nat.add_assoc, List.size_toArray, hk, hd]
  refine loop8a k d _ hk' (fun κ fr σ1 hf1 r5 r6 r7 => ?_) k 0 1 _ _ (by omega) ?_ (.inl ⟨rfl, rfl⟩) (by simp only; omega) ?_ ?_ ?_ ?_
  rotate_left
  · first | exact Fresh.of (by repeat (first | exact (Fresh.freeH hf (by omega)) | refine FreeH.set ?_ (by omega))) (by repeat (first | exact (Fresh.freeT hf (by omega)) | refine FreeT.set ?_ (by omega) | refine FreeT.via (by assumption) ?_ (by omega)))
  · simp only [rd_set, rd_nil, Nat.reduceEqDiff, reduceIte, reduceCtorEq]
  · simp only [rd_set, rd_nil, Nat.reduceEqDiff, reduceIte, reduceCtorEq]
  · simp only [rd_set, rd_nil, Nat.reduceEqDiff, reduceIte, reduceCtorEq]
    rfl
  · simp only [rd_set, rd_nil, Nat.reduceEqDiff, reduceIte, reduceCtorEq]
    rfl
  simp only [↓cw_seq, ↓cw_block, ↓cw_region, ↓then_normal, ↓draw_false, ↓ow_nil, ↓ow_cons, ↓contO_eq, ↓op_assign, ↓force_DQ, block_exit, vW_some, bW_true, setD_some, nbeq, opd, ofConst, leaf, List.length_cons, List.length_nil, beq_self_eq_true, Nat.zero_add, St.bump, List.size_toArray]
  refine loop8b k d (nopL k) _ hd' (fun κ fr σ2 hf2 r5 r6 r7 => ?_) d 0 κ _ _ (by omega) ?_ ?_ ?_ ?_ ?_
  rotate_left
  · exact hf1.bump 1
  · simp only [rd_set, Nat.reduceEqDiff, reduceIte, r5]
  · simp only [rd_set, Nat.reduceEqDiff, reduceIte, r6]
  · simp only [rd_set, Nat.reduceEqDiff, reduceIte, r7]
    rfl
  · simp only [rd_set, reduceIte]
    rfl
  have hsz : (blkL d (nopL k)).sz = d + k := by rw [blk_sz, nop_sz]
  have hcnt : (blkL d (nopL k)).cnt = d + k := by rw [blk_cnt, nop_cnt]
  have hnest : (blkL d (nopL k)).nest = d := by rw [blk_nest, nop_nest]; rfl
  have hmay : (blkL d (nopL k)).may = true := by
    simp only [L.may, hcnt, hnest, blk_each _ _ (nop_each k), Bool.and_true, Bool.and_eq_true, decide_eq_true_eq]
    omega
  have hen : (blkL d (nopL k)).enc.length = 3 * d + k := by rw [blk_enc, nop_enc]
  have e1 := w_encode (blkL d (nopL k)) (by omega) (blk_wf d _ (nop_wf k)) (by omega)
  rw [if_pos hmay] at e1
  have e2 := w_decode (blkL d (nopL k)) (blk_rt d _ (nop_rt k)) [] (by omega) (by omega) (by simp; omega)
  have e3 := w_count 1000 (blkL d (nopL k)) (by omega) (by omega)
  have e4 := w_same 1000 (blkL d (nopL k)) (blkL d (nopL k)) (by omega) (by omega)
  rw [decide_eq_true rfl] at e4
  rw [hcnt] at e3
  rw [hen] at e2
  have hbl : (u8s ((blkL d (nopL k)).enc ++ [11])).length = 3 * d + k + 1 := by rw [u8s_len, List.length_append, hen]; rfl
  have hb8 : Go.Pv.goods (u8s ((blkL d (nopL k)).enc ++ [11])) = true := goods_u8s _
  have hlg := L.goods (blkL d (nopL k))
  generalize u8s ((blkL d (nopL k)).enc ++ [11]) = B at e1 e2 hbl hb8
  generalize (blkL d (nopL k)).av = V at e1 e2 e3 e4 r7 hlg
  clear hmay hen hsz hcnt hnest
  simp only [↓cw_seq, ↓cw_region, ↓then_normal, ↓ow_cons, ↓contO_eq, ↓op_move, ↓op_call, ↓force_DQ, block_exit, vW_some, bW_true, setD_some, callV_some, arg_val, nbeq, opd, opds, rd_set, Nat.reduceAdd, reduceIte, List.length_cons, List.length_nil, List.append_nil, beq_self_eq_true, Nat.zero_add, List.size_toArray, r7]
  refine pc17.call (by simp [untok, AV.strip, Go.Pv.goods, Go.Pv.good, hlg]) e1 ?_
  simp only [↓cw_seq, ↓cw_region, ↓then_normal, ↓draw_false, ↓ow_nil, ↓ow_cons, ↓contO_eq, ↓op_move, ↓op_assign, ↓op_extract, ↓op_call, vW_some, setD_some, on1_some, exV, callV_some, arg_val, opd, opds, rd_set, Nat.reduceEqDiff, Nat.reduceAdd, reduceIte, List.length_cons, List.length_nil, List.getElem?_cons_zero, List.getElem?_cons_succ, List.append_nil, Nat.zero_add, St.bump, List.size_toArray]
  refine pc10.call (by simp [untok, AV.strip, Go.Pv.goods, Go.Pv.good, hb8]) e2 ?_
  simp only [↓cw_seq, ↓cw_region, ↓then_normal, ↓draw_false, ↓ow_nil, ↓ow_cons, ↓ow_consG, ↓contO_eq, ↓op_move, ↓op_assign, ↓op_binOp, ↓op_extract, ↓op_pick, ↓op_call, ↓force_DO, vW_some, bW_true, setD_some, on1_some, on2_some, biV_eq, exV, pkV, callV_some, arg_val, opd, opds, ofConst, leaf, rd_set, binV, eqV, isConst, ifaceF, Nat.reduceEqDiff, Nat.reduceAdd, reduceIte, Bool.or_true, Bool.and_true, List.length_cons, List.length_nil, List.getElem?_cons_zero, List.getElem?_cons_succ, List.append_nil, beq_self_eq_true, Nat.zero_add, St.bump, wantG, Option.bind, Nat.add_assoc, List.size_toArray, r7]
  refine pc18.call (by simp [untok, AV.strip, Go.Pv.goods, Go.Pv.good, hlg]) e3 ?_
  have c1 : (((d + k : Nat) : Int) == ((k + d : Nat) : Int)) = true := by simp; omega
  have c2 : (((3 * d + (k + 1) : Nat) : Int) == ((k + (3 * d + 1) : Nat) : Int)) = true := by simp; omega
  simp only [↓ow_cons, ↓ow_consG, ↓contO_eq, ↓op_move, ↓op_binOp, ↓op_pick, ↓op_call, ↓force_DO, vW_some, pW_some, bW_true, setD_some, on2_some, biV_eq, pkV, callV_some, arg_blt, arg_val, opd, opds, ofConst, leaf, pureV, rd_set, binV, intV, isConst, bltV, lenV, undF, Nat.reduceEqDiff, Nat.reduceAdd, reduceIte, Bool.or_false, Bool.or_true, List.getElem?_cons_zero, List.getElem?_cons_succ, List.append_nil, beq_self_eq_true, wantG, Option.bind, Nat.add_assoc, r5, r6, r7, fw_natadd k d (by omega), fw_nat3 d (by omega), fw_natadd k (3 * d) (by omega), fw_add1 (n := k + 3 * d) (by omega), c1, hbl, c2]
  refine pc16.call (by simp [untok, AV.strip, Go.Pv.goods, Go.Pv.good, hlg]) e4 ?_
  simp only [↓ow_cons, ↓ow_consG, ↓contO_eq, ↓op_move, ↓op_pick, ↓op_call, ↓force_DO, vW_some, bW_true, setD_some, pkV, callV_some, arg_val, opd, opds, ofConst, leaf, rd_set, Nat.reduceEqDiff, Nat.reduceAdd, reduceIte, List.getElem?_cons_zero, List.getElem?_cons_succ, List.append_nil, beq_self_eq_true, wantG, Option.bind]
  refine pc9.call rfl w_sure ?_
  simp only [↓cw_ret, ↓then_normal, ↓draw_false, ↓ow_nil, ↓ow_cons, ↓contO_eq, ↓op_assign, ↓op_pick, ↓ret_ret, vW_some, setD_some, pkV, resW, opd, ofConst, leaf, rd_set, resV, Nat.reduceEqDiff, Nat.reduceAdd, reduceIte, Tryd.f8]
  exact ⟨rfl, rfl⟩
end Go.Pv
