/- Numbers as bytes. -/
import Derived.Test.YtigcolhieieakaaDoorPvZ5
namespace Go.Pv
open Go Go.Proofs Go.RowKit
set_option linter.unusedVariables false
set_option linter.unusedSimpArgs false
set_option maxRecDepth 100000

def u8s (l : List Int) : List AV := l.map (.i .u8)
theorem u8s_len (l : List Int) : (u8s l).length = l.length := by simp [u8s]
theorem goods_u8s (l : List Int) : goods (u8s l) = true := by
  induction l with
  | nil => rfl
  | cons x xs ih => exact ih
theorem u8s_app (a b : List Int) : u8s a ++ u8s b = u8s (a ++ b) := by simp [u8s]
theorem u8s_snoc (a : List Int) (x : Int) : u8s a ++ [.i .u8 x] = u8s (a ++ [x]) := by simp [u8s]
theorem head_u8s (l : List Int) : headSize 1 (u8s l) = true := by cases l <;> rfl
/-- A row of bytes that may be appended to. -/
def TokOk (σ : St) (bs : List Int) (κ : Nat) : Prop := (κ = 1 ∧ bs = []) ∨ (2 ≤ κ ∧ Tr.get σ.tk κ = some 1)

theorem allSize_u8s (l : List Int) : allSize 1 (u8s l) = true := by
  induction l with
  | nil => rfl
  | cons x xs ih => exact ih
theorem strip_u8s (l : List Int) : (u8s l).map AV.strip = u8s l := by simp [u8s, AV.strip]
theorem app_u8s {σ : St} {j : Nat} {bs : List Int} {κ kk : Nat} {y : Int} {ys : List Int} (hk : TokOk σ bs κ) (hl : bs.length + (ys.length + 1) < 1099511627776) (hfree : tokFree j σ = true) :
    appV TS j 22 (.sl (u8s bs) κ) (.sl (u8s (y :: ys)) kk) σ = some (.sl (u8s (bs ++ y :: ys)) (σ.nb + j + 2), { σ with tk := Tr.set (if κ = 1 then σ.tk else Tr.set σ.tk κ 0) (σ.nb + j + 2) 1 }) := by
  unfold appV
  simp only [undF, infF, aggF, elemsV]
  rw [show u8s (y :: ys) = .i .u8 y :: u8s ys from rfl]
  simp only
  rw [if_pos ⟨by decide, by decide, allSize_u8s (y :: ys), head_u8s bs, by simp only [u8s_len, List.length_cons]; omega, hfree⟩]
  rw [← u8s_app, show (AV.i .u8 y :: u8s ys).map AV.strip = u8s (y :: ys) from strip_u8s (y :: ys)]
  rcases hk with ⟨rfl, rfl⟩ | ⟨h2, hk⟩
  · rfl
  · obtain ⟨k, rfl⟩ : ∃ k, κ = k + 2 := ⟨κ - 2, by omega⟩
    simp only [hk, if_true]
    rw [if_neg (by omega)]
    rfl

theorem app_step {h : Tr (List AV)} {tk : Tr Nat} {nb : Nat} {j : Nat} {bs : List Int} {κ kk : Nat} {y : Int} {ys : List Int} {Q : AV → St → Prop} (hk : TokOk ⟨h, tk, nb⟩ bs κ) (hl : bs.length + (ys.length + 1) < 1099511627776) (hfree : tokFree j ⟨h, tk, nb⟩ = true)
    (q : ∀ X, (∀ n, FreeT tk n → κ < n + 2 → FreeT X n) → Q (.sl (u8s (bs ++ y :: ys)) (nb + j + 2)) ⟨h, Tr.set X (nb + j + 2) 1, nb⟩) :
    pW (appV TS j 22 (.sl (u8s bs) κ) (.sl (u8s (y :: ys)) kk) ⟨h, tk, nb⟩) Q := by
  rw [app_u8s hk hl hfree, pW_some]
  refine q _ fun n hn hl => ?_
  split
  · exact hn
  · exact hn.set hl

theorem w_clone (b : Int) (bs : List Int) (k0 : Nat) (σ : St) (hf : Fresh σ) (hl : bs.length < 1099511627000) (Q : AV → St → Prop)
    (q : ∀ κ σ', Ext σ σ' → TokOk σ' (b :: bs) κ → κ < σ'.nb + 2 → Q (.sl (u8s (b :: bs)) κ) σ') : CallW TS 77 [.sl (u8s (b :: bs)) k0] σ Q := by
  refine callW_of ft77 rfl (Nat.le_of_ble_eq_true rfl) ?_
  rw [show u8s (b :: bs) = .i .u8 b :: u8s bs from rfl]
  simp only [↓cw_skip, ↓cw_seq, ↓cw_cond, ↓cw_region, ↓then_normal, ↓draw_false, ↓ow_nil, ↓ow_cons, ↓contO_eq, ↓op_move, ↓op_assign, ↓op_buildSlice, ↓op_binOp, ↓op_call, ↓force_DC, vW_some, pW_some, bW_false, ifW_some, setD_some, bldS, on2_some, biV_eq, arg_blt, opd, opds, ofConst, leaf, rd_set, rd_nil, Fr.ofList, binV, eqV, isConst, bltV, fillV, parts, flat, undF, aggF, infF, sliceF, Nat.reduceEqDiff, Nat.reduceAdd, Nat.reduceMul, Nat.reduceLeDiff, ne_eq, not_false_eq_true, reduceIte, reduceCtorEq, Bool.or_true, List.length_cons, List.length_nil, List.map_nil, Nat.add_zero, Nat.zero_add, and_self, newTok, St.bump, Nat.add_assoc, or_true, tokFree, buildSliceV, repeatCells, chunk, List.size_toArray, hf.tb]
  rw [show AV.i .u8 b :: u8s bs = u8s (b :: bs) from rfl]
  refine app_step (bs := []) (.inr ⟨by omega, by simp [Tr.get_set]⟩) (by simp; omega) ?_ fun X hX => ?_
  · simp only [tokFree, Tr.get_set]; rw [if_neg (by omega), hf.tk _ (by omega)]
  · simp only [↓cw_ret, ↓then_normal, ↓draw_false, ↓ow_nil, ↓ow_cons, ↓contO_eq, ↓op_assign, ↓ret_ret, vW_some, setD_some, resW, opd, rd_set, rd_nil, resV, Nat.reduceEqDiff, Nat.reduceAdd, reduceIte, reduceCtorEq, List.nil_append, St.bump, Nat.add_assoc, Tryd.f77]
    refine q _ _ ⟨by simp only; omega, ?_, fun l hl => rfl⟩ (.inr ⟨by omega, by simp [Tr.get_set]⟩) (by simp only; omega)
    first | exact Fresh.of (by repeat (first | exact (Fresh.freeH hf (by omega)) | refine FreeH.set ?_ (by omega))) (by repeat (first | exact (Fresh.freeT hf (by omega)) | refine FreeT.set ?_ (by omega) | refine FreeT.via (by assumption) ?_ (by omega)))

def encU (v : Nat) : List Int := if v < 128 then [(v : Int)] else ((v % 128 + 128 : Nat) : Int) :: encU (v / 128)
theorem encU_lt {v : Nat} (h : v < 128) : encU v = [(v : Int)] := by rw [encU, if_pos h]
theorem encU_ge {v : Nat} (h : ¬ v < 128) : encU v = ((v % 128 + 128 : Nat) : Int) :: encU (v / 128) := by rw [encU, if_neg h]

theorem fw_u8 (v : Nat) : fw .u8 (v : Int) = ((v % 256 : Nat) : Int) := by
  unfold fw
  simp only
  split
  · omega
  · simp [IntKind.wrap, IntKind.signed, IntKind.bits]
theorem or128_lt : (List.range 256).all (fun x => IntKind.wrap .u8 ((BitVec.ofInt IntKind.u8.bits (x : Int) ||| BitVec.ofInt IntKind.u8.bits 128).toNat : Int) == ((x % 128 + 128 : Nat) : Int)) = true := by decide +kernel
theorem or128 (v : Nat) : IntKind.wrap .u8 ((BitVec.ofInt IntKind.u8.bits (fw .u8 (v : Int)) ||| BitVec.ofInt IntKind.u8.bits 128).toNat : Int) = ((v % 128 + 128 : Nat) : Int) := by
  rw [fw_u8]
  have := List.all_eq_true.1 or128_lt (v % 256) (List.mem_range.2 (by omega))
  rw [beq_iff_eq] at this
  rw [this]
  omega
theorem shr7 (v : Nat) : Int.fdiv (v : Int) ((2 ^ min (Int.toNat 7) (IntKind.bits .u64) : Nat) : Int) = ((v / 128 : Nat) : Int) := by
  have : (2 ^ min (Int.toNat 7) (IntKind.bits .u64) : Nat) = 128 := by decide
  rw [this]
  rw [Int.fdiv_eq_ediv_of_nonneg _ (by omega)]
  omega

theorem TokOk.set {σ : St} {bs : List Int} {κ : Nat} (h : TokOk σ bs κ) {hh : Tr (List AV)} {nb a v : Nat} (ne : κ ≠ a) : TokOk ⟨hh, Tr.set σ.tk a v, nb⟩ bs κ := by
  rcases h with h | ⟨h1, h2⟩
  · exact .inl h
  · exact .inr ⟨h1, by simp only [Tr.get_set, if_neg ne]; exact h2⟩
theorem TokOk.here {h : Tr (List AV)} {X : Tr Nat} {nb κ : Nat} {bs : List Int} (h2 : 2 ≤ κ) : TokOk ⟨h, Tr.set X κ 1, nb⟩ bs κ := .inr ⟨h2, by simp [Tr.get_set]⟩

noncomputable def K68 : Code := cl (cl (cr (cr (fb Tryd.f68))))
theorem loop68 (bs0 : List Int) (Q : Ex → Fr → St → Prop) :
    ∀ (V v : Nat) bs κ fr σ, v < V → v < 18446744073709551616 → Fresh σ → TokOk σ bs κ → κ < σ.nb + 2 → bs.length + (encU v).length < 1099511627000 → bs ++ encU v = bs0 → fr.rd 5 = .sl (u8s bs) κ → fr.rd 1 = .i .u64 (v : Int) →
      (∀ bs' κ' (v' : Nat) fr' σ', v' < 128 → bs' ++ [(v' : Int)] = bs0 → Fresh σ' → TokOk σ' bs' κ' → κ' < σ'.nb + 2 → bs'.length < 1099511627000 → fr'.rd 5 = .sl (u8s bs') κ' → fr'.rd 1 = .i .u64 (v' : Int) → Q (.exit 0) fr' σ') → CodeW TS K68 fr σ Q := by
  intro V
  induction V with
  | zero => intro v bs κ fr σ h; omega
  | succ V ih =>
    intro v bs κ fr σ hV hv hf hk hkn hlen hbs r5 r1 hQ
    by_cases h : v < 128
    · have hd : decide ((v : Int) ≥ 128) = false := decide_eq_false (by omega)
      rw [encU_lt h] at hbs hlen
      simp only [K68, fb, Tryd.f68, cl, cr, Option.getD]
      rw [cw_loop]
      simp only [↓cw_exit, ↓cw_seq, ↓cw_cond, ↓cw_region, ↓then_normal, ↓then_exit, ↓draw_false, ↓ow_nil, ↓ow_cons, ↓contO_eq, ↓op_move, ↓op_binOp, ↓force_DC, vW_some, bW_false, ifW_some, setD_some, on2_some, biV_eq, opd, ofConst, leaf, rd_set, binV, intV, isConst, Nat.reduceEqDiff, Nat.reduceAdd, reduceIte, Bool.or_true, List.length_cons, List.length_nil, Nat.zero_add, St.bump, List.size_toArray, r1, hd]
      refine hQ bs κ v _ _ h hbs ?_ ?_ ?_ (by simp at hlen; omega) ?_ ?_
      · first | exact Fresh.of (by repeat (first | exact (Fresh.freeH hf (by omega)) | refine FreeH.set ?_ (by omega))) (by repeat (first | exact (Fresh.freeT hf (by omega)) | refine FreeT.set ?_ (by omega) | refine FreeT.via (by assumption) ?_ (by omega)))
      · exact hk
      · simp only; omega
      · simp only [rd_set, Nat.reduceEqDiff, reduceIte, r5]
      · simp only [rd_set, Nat.reduceEqDiff, reduceIte, r1]
    · have hd : decide ((v : Int) ≥ 128) = true := decide_eq_true (by omega)
      rw [encU_ge h] at hbs hlen
      simp only [List.length_cons] at hlen
      simp only [K68, fb, Tryd.f68, cl, cr, Option.getD]
      rw [cw_loop]
      simp only [↓cw_skip, ↓cw_seq, ↓cw_block, ↓cw_cond, ↓cw_region, ↓then_normal, ↓draw_false, ↓ow_nil, ↓ow_cons, ↓contO_eq, ↓op_move, ↓op_buildSlice, ↓op_binOp, ↓op_convert, ↓op_call, ↓force_DC, vW_some, pW_some, bW_true, ifW_some, setD_some, bldS, on1_some, on2_some, biV_eq, arg_blt, opd, opds, ofConst, leaf, rd_set, binV, intV, convV, isConst, bltV, fillV, parts, put, flat, AV.cells, AV.strip, undF, aggF, infF, Nat.reduceEqDiff, Nat.reduceAdd, Nat.reduceMul, Nat.reduceLeDiff, ne_eq, not_false_eq_true, reduceIte, reduceCtorEq, Bool.or_true, List.length_cons, List.length_nil, List.append_nil, List.take_succ_cons, List.take_zero, List.set_cons_zero, List.map_cons, List.map_nil, Nat.zero_add, and_self, newTok, St.bump, Nat.add_assoc, or_true, List.headD_cons, tokFree, buildSliceV, repeatCells, chunk, List.size_toArray, r5, r1, hd, or128, hf.tb]
      refine app_step (y := ((v % 128 + 128 : Nat) : Int)) (ys := []) (hk.set (by omega)) (by simp; omega) ?_ fun X hX => ?_
      · simp only [tokFree, Tr.get_set]; rw [if_neg (by omega), hf.tk _ (by omega)]
      simp only [↓cw_region, ↓then_normal, ↓block_normal, ↓draw_false, ↓ow_nil, ↓ow_cons, ↓contO_eq, ↓op_move, ↓op_assign, ↓op_binOp, vW_some, setD_some, on2_some, biV_eq, opd, ofConst, leaf, rd_set, binV, shiftV, isConst, Nat.reduceEqDiff, Nat.reduceAdd, reduceIte, Bool.or_true, List.length_cons, List.length_nil, Int.reduceLT, Nat.zero_add, St.bump, Nat.add_assoc, List.size_toArray, r1, shr7]
      refine ih (v / 128) (bs ++ [((v % 128 + 128 : Nat) : Int)]) _ _ _ (by omega) (by omega) ?_ (.here (by omega)) (by simp only; omega) (by simp; omega) (by rw [List.append_assoc]; exact hbs) ?_ ?_ hQ
      · first | exact Fresh.of (by repeat (first | exact (Fresh.freeH hf (by omega)) | refine FreeH.set ?_ (by omega))) (by repeat (first | exact (Fresh.freeT hf (by omega)) | refine FreeT.set ?_ (by omega) | refine FreeT.via (by assumption) ?_ (by omega)))
      · simp only [rd_set, Nat.reduceEqDiff, reduceIte, r5]
      · simp only [rd_set, Nat.reduceEqDiff, reduceIte, r1]

theorem w_putU (b : Int) (bs : List Int) (v : Nat) (hv : v < 18446744073709551616) (hl : bs.length + (encU v).length < 1099511620000) :
    RowW TS 68 [.sl (u8s (b :: bs)) 0, .i .u64 (v : Int)] (u8s (b :: bs ++ encU v)) 1 := by
  unfold RowW
  refine callW_of ft68 rfl (Nat.le_of_ble_eq_true rfl) ?_
  have hf : Fresh St.start := Fresh.start
  generalize St.start = σ at hf
  simp only [↓cw_seq, ↓cw_region, ↓then_normal, ↓draw_false, ↓ow_nil, ↓ow_cons, ↓contO_eq, ↓op_move, ↓op_assign, ↓op_call, vW_some, setD_some, callV_some, arg_val, opd, opds, ofConst, leaf, rd_set, rd_nil, Fr.ofList, Nat.reduceEqDiff, Nat.reduceAdd, reduceIte, reduceCtorEq, List.length_cons, List.length_nil, List.cons_append, List.append_nil, Nat.zero_add, St.bump, List.size_toArray]
  refine FnW_call rfl (by kernel_rfl) (by kernel_rfl) (by kernel_rfl) (w_clone b bs 0 _ ?_ (by omega) _ fun κ σ' he hk hkn => ?_)
  · exact (hf.bump 1).bump 3
  simp only [↓cw_seq, ↓cw_block, ↓then_normal, ↓draw_false, ↓ow_nil, ↓ow_cons, ↓contO_eq, ↓op_assign, vW_some, setD_some, opd, rd_set, rd_nil, Nat.reduceEqDiff, Nat.reduceAdd, reduceIte, reduceCtorEq, St.bump]
  refine loop68 (b :: bs ++ encU v) _ (v + 1) v (b :: bs) κ _ _ (by omega) hv ?_ ?_ ?_ ?_ rfl ?_ ?_ fun bs' κ' v' fr' σ1 hv' hbs' hf' hk' hkn' hl' r5 r1 => ?_
  · exact he.fresh.bump 3
  · exact hk
  · simp only; omega
  · simp; omega
  · simp only [rd_set, rd_nil, Nat.reduceEqDiff, reduceIte, reduceCtorEq]
  · simp only [rd_set, rd_nil, Nat.reduceEqDiff, reduceIte, reduceCtorEq]
  have hfv : fw .u8 (v' : Int) = (v' : Int) := by rw [fw_u8]; omega
  simp only [↓cw_seq, ↓cw_region, ↓then_normal, ↓ow_cons, ↓contO_eq, ↓op_move, ↓op_buildSlice, ↓op_convert, ↓op_call, ↓force_DQ, block_exit, vW_some, pW_some, bW_true, setD_some, bldS, on1_some, arg_blt, nbeq, opd, opds, rd_set, convV, bltV, fillV, parts, put, flat, AV.cells, AV.strip, undF, aggF, infF, Nat.reduceEqDiff, Nat.reduceAdd, Nat.reduceMul, Nat.reduceLeDiff, ne_eq, not_false_eq_true, reduceIte, reduceCtorEq, List.length_cons, List.length_nil, List.append_nil, List.take_succ_cons, List.take_zero, List.set_cons_zero, List.map_cons, List.map_nil, beq_self_eq_true, Nat.zero_add, and_self, newTok, Nat.add_assoc, or_true, List.headD_cons, tokFree, buildSliceV, repeatCells, chunk, List.size_toArray, r5, r1, hfv, hf'.tb]
  refine app_step (y := (v' : Int)) (ys := []) (hk'.set (by omega)) (by simp; omega) ?_ fun X hX => ?_
  · simp only [tokFree, Tr.get_set]; rw [if_neg (by omega), hf'.tk _ (by omega)]
  simp only [↓cw_ret, ↓then_normal, ↓draw_false, ↓ow_nil, ↓ow_cons, ↓contO_eq, ↓op_assign, ↓ret_ret, vW_some, setD_some, resW, opd, rd_set, resV, Nat.reduceEqDiff, Nat.reduceAdd, reduceIte, St.bump, Tr.get_set, Nat.add_assoc, Tryd.f68]
  refine ⟨σ1.nb + 6, by rw [hbs']; rfl, by omega, goods_u8s _, ?_⟩
  rw [if_pos rfl]

/-- With a sign. -/
def small (v : Int) : Bool := decide (-64 ≤ v) && decide (v < 64)
def encSF : Nat → Int → List Int
  | 0, v => [v % 128]
  | f + 1, v => if small v then [v % 128] else (v % 128 + 128) :: encSF f (v / 128)
def encS (v : Int) : List Int := encSF 10 v

theorem fw_u8i (v : Int) : fw .u8 v = v % 256 := by
  unfold fw
  simp only
  split
  · omega
  · simp [IntKind.wrap, IntKind.signed, IntKind.bits]
theorem or128i (v : Int) : IntKind.wrap .u8 ((BitVec.ofInt IntKind.u8.bits (fw .u8 v) ||| BitVec.ofInt IntKind.u8.bits 128).toNat : Int) = v % 128 + 128 := by
  rw [fw_u8i]
  obtain ⟨n, hn⟩ : ∃ n : Nat, v % 256 = n := ⟨(v % 256).toNat, by omega⟩
  have := List.all_eq_true.1 or128_lt n (List.mem_range.2 (by omega))
  rw [beq_iff_eq] at this
  rw [hn, this]
  omega
theorem not128_lt : (List.range 256).all (fun x => IntKind.wrap .u8 ((BitVec.ofInt IntKind.u8.bits (x : Int) &&& ~~~BitVec.ofInt IntKind.u8.bits 128).toNat : Int) == ((x % 128 : Nat) : Int)) = true := by decide +kernel
theorem not128i (v : Int) : IntKind.wrap .u8 ((BitVec.ofInt IntKind.u8.bits (fw .u8 v) &&& ~~~BitVec.ofInt IntKind.u8.bits 128).toNat : Int) = v % 128 := by
  rw [fw_u8i]
  obtain ⟨n, hn⟩ : ∃ n : Nat, v % 256 = n := ⟨(v % 256).toNat, by omega⟩
  have := List.all_eq_true.1 not128_lt n (List.mem_range.2 (by omega))
  rw [beq_iff_eq] at this
  rw [hn, this]
  omega
theorem shr7i (v : Int) : Int.fdiv v ((2 ^ min (Int.toNat 7) (IntKind.bits .i64) : Nat) : Int) = v / 128 := by
  have : (2 ^ min (Int.toNat 7) (IntKind.bits .i64) : Nat) = 128 := by decide
  rw [this]
  exact Int.fdiv_eq_ediv_of_nonneg _ (by omega)

/-- So many rounds are enough. -/
def rangeS : Nat → Int → Prop
  | 0, v => -64 ≤ v ∧ v < 64
  | f + 1, v => rangeS f (v / 128)
theorem rangeS_small {f : Nat} {v : Int} (h : -64 ≤ v ∧ v < 64) : rangeS f v := by
  induction f generalizing v with
  | zero => exact h
  | succ f ih => exact ih (by omega)

noncomputable def K67 : Code := cl (cl (cr (cr (fb Tryd.f67))))
theorem loop67 (bs0 : List Int) (Q : Ex → Fr → St → Prop) :
    ∀ (f : Nat) (v : Int) bs κ fr σ, rangeS f v → Fresh σ → TokOk σ bs κ → κ < σ.nb + 2 → bs.length + (encSF f v).length < 1099511627000 → bs ++ encSF f v = bs0 → fr.rd 5 = .sl (u8s bs) κ → fr.rd 1 = .i .i64 v →
      (∀ bs' κ' (v' : Int) fr' σ', bs' ++ [v' % 128] = bs0 → Fresh σ' → TokOk σ' bs' κ' → κ' < σ'.nb + 2 → bs'.length < 1099511627000 → fr'.rd 5 = .sl (u8s bs') κ' → fr'.rd 1 = .i .i64 v' → Q (.exit 0) fr' σ') → CodeW TS K67 fr σ Q := by
  have done : ∀ (v : Int) bs κ fr σ, small v = true → Fresh σ → TokOk σ bs κ → κ < σ.nb + 2 → bs.length + 1 < 1099511627000 → bs ++ [v % 128] = bs0 → fr.rd 5 = .sl (u8s bs) κ → fr.rd 1 = .i .i64 v →
      (∀ bs' κ' (v' : Int) fr' σ', bs' ++ [v' % 128] = bs0 → Fresh σ' → TokOk σ' bs' κ' → κ' < σ'.nb + 2 → bs'.length < 1099511627000 → fr'.rd 5 = .sl (u8s bs') κ' → fr'.rd 1 = .i .i64 v' → Q (.exit 0) fr' σ') → CodeW TS K67 fr σ Q := by
    intro v bs κ fr σ hs hf hk hkn hlen hbs r5 r1 hQ
    simp only [small, Bool.and_eq_true, decide_eq_true_eq] at hs
    have h1 : decide (v < -64) = false := decide_eq_false (by omega)
    have h2 : decide (v ≥ 64) = false := decide_eq_false (by omega)
    simp only [K67, fb, Tryd.f67, cl, cr, Option.getD]
    rw [cw_loop]
    simp only [↓cw_exit, ↓cw_seq, ↓cw_cond, ↓cw_region, ↓then_normal, ↓then_exit, ↓draw_false, ↓ow_nil, ↓ow_cons, ↓ow_consG, ↓contO_eq, ↓op_move, ↓op_binOp, ↓op_pick, ↓force_DC, ↓force_DO, vW_some, bW_true, bW_false, ifW_some, setD_some, on2_some, biV_eq, pkV, opd, ofConst, leaf, rd_set, binV, intV, isConst, Nat.reduceEqDiff, Nat.reduceAdd, reduceIte, Bool.or_true, List.length_cons, List.length_nil, List.getElem?_cons_zero, List.getElem?_cons_succ, beq_self_eq_true, Nat.zero_add, St.bump, wantG, Option.bind, List.size_toArray, r1, h1, h2]
    refine hQ bs κ v _ _ hbs ?_ ?_ ?_ (by omega) ?_ ?_
    · first | exact Fresh.of (by repeat (first | exact (Fresh.freeH hf (by omega)) | refine FreeH.set ?_ (by omega))) (by repeat (first | exact (Fresh.freeT hf (by omega)) | refine FreeT.set ?_ (by omega) | refine FreeT.via (by assumption) ?_ (by omega)))
    · exact hk
    · simp only; omega
    · simp only [rd_set, Nat.reduceEqDiff, reduceIte, r5]
    · simp only [rd_set, Nat.reduceEqDiff, reduceIte, r1]
  intro f
  induction f with
  | zero =>
    intro v bs κ fr σ hr hf hk hkn hlen hbs r5 r1 hQ
    simp only [encSF, List.length_cons, List.length_nil] at hlen hbs
    exact done v bs κ fr σ (by simp only [rangeS] at hr; simp [small, hr]) hf hk hkn (by omega) hbs r5 r1 hQ
  | succ f ih =>
    intro v bs κ fr σ hr hf hk hkn hlen hbs r5 r1 hQ
    cases hs : small v with
    | true =>
      simp only [encSF, hs, if_true, List.length_cons, List.length_nil] at hlen hbs
      exact done v bs κ fr σ hs hf hk hkn (by omega) hbs r5 r1 hQ
    | false =>
      simp only [encSF, hs, Bool.false_eq_true, if_false, List.length_cons] at hlen hbs
      simp only [K67, fb, Tryd.f67, cl, cr, Option.getD]
      rw [cw_loop]
      have key : ∀ h1, decide (v < -64) = h1 → (h1 = true ∨ decide (v ≥ 64) = true) → True := fun _ _ _ => trivial
      have hstep : ∀ (h1 : decide (v < -64) = true ∨ (decide (v < -64) = false ∧ decide (v ≥ 64) = true)), True := fun _ => trivial
      have hcase : decide (v < -64) = true ∨ (decide (v < -64) = false ∧ decide (v ≥ 64) = true) := by
        simp only [small, Bool.and_eq_false_iff, decide_eq_false_iff_not] at hs
        simp only [decide_eq_true_eq, decide_eq_false_iff_not]
        omega
      rcases hcase with h1 | ⟨h1, h2⟩
      · simp only [↓cw_skip, ↓cw_seq, ↓cw_block, ↓cw_cond, ↓cw_region, ↓then_normal, ↓draw_false, ↓ow_nil, ↓ow_cons, ↓ow_consG, ↓contO_eq, ↓op_move, ↓op_buildSlice, ↓op_binOp, ↓op_convert, ↓op_pick, ↓op_call, ↓force_DC, ↓force_DOs, vW_some, pW_some, bW_true, bW_false, ifW_some, setD_some, bldS, on1_some, on2_some, biV_eq, pkV, arg_blt, opd, opds, ofConst, leaf, rd_set, binV, intV, convV, isConst, bltV, fillV, parts, put, flat, AV.cells, AV.strip, undF, aggF, infF, Nat.reduceEqDiff, Nat.reduceAdd, Nat.reduceMul, Nat.reduceLeDiff, ne_eq, not_false_eq_true, reduceIte, reduceCtorEq, Bool.or_true, List.length_cons, List.length_nil, List.getElem?_cons_zero, List.getElem?_cons_succ, List.append_nil, List.take_succ_cons, List.take_zero, List.set_cons_zero, List.map_cons, List.map_nil, Nat.zero_add, and_self, Bool.not_true, newTok, St.bump, wantG, Option.bind, Nat.add_assoc, or_true, List.headD_cons, tokFree, buildSliceV, repeatCells, chunk, beqF, List.size_toArray, r5, r1, h1, or128i, hf.tb]
        refine app_step (y := v % 128 + 128) (ys := []) (hk.set (by omega)) (by simp; omega) ?_ fun X hX => ?_
        · simp only [tokFree, Tr.get_set]; rw [if_neg (by omega), hf.tk _ (by omega)]
        simp only [↓cw_region, ↓then_normal, ↓block_normal, ↓draw_false, ↓ow_nil, ↓ow_cons, ↓contO_eq, ↓op_move, ↓op_assign, ↓op_binOp, vW_some, setD_some, on2_some, biV_eq, opd, ofConst, leaf, rd_set, binV, shiftV, isConst, Nat.reduceEqDiff, Nat.reduceAdd, reduceIte, Bool.or_true, List.length_cons, List.length_nil, Int.reduceLT, Nat.zero_add, St.bump, Nat.add_assoc, List.size_toArray, r1, shr7i]
        refine ih (v / 128) (bs ++ [v % 128 + 128]) _ _ _ hr ?_ (.here (by omega)) (by simp only; omega) (by simp; omega) (by rw [List.append_assoc]; exact hbs) ?_ ?_ hQ
        · first | exact Fresh.of (by repeat (first | exact (Fresh.freeH hf (by omega)) | refine FreeH.set ?_ (by omega))) (by repeat (first | exact (Fresh.freeT hf (by omega)) | refine FreeT.set ?_ (by omega) | refine FreeT.via (by assumption) ?_ (by omega)))
        · simp only [rd_set, Nat.reduceEqDiff, reduceIte, r5]
        · simp only [rd_set, Nat.reduceEqDiff, reduceIte, r1]
      · simp only [↓cw_skip, ↓cw_seq, ↓cw_block, ↓cw_cond, ↓cw_region, ↓then_normal, ↓draw_false, ↓ow_nil, ↓ow_cons, ↓ow_consG, ↓contO_eq, ↓op_move, ↓op_buildSlice, ↓op_binOp, ↓op_convert, ↓op_pick, ↓op_call, ↓force_DC, ↓force_DO, vW_some, pW_some, bW_true, ifW_some, setD_some, bldS, on1_some, on2_some, biV_eq, pkV, arg_blt, opd, opds, ofConst, leaf, rd_set, binV, intV, convV, isConst, bltV, fillV, parts, put, flat, AV.cells, AV.strip, undF, aggF, infF, Nat.reduceEqDiff, Nat.reduceAdd, Nat.reduceMul, Nat.reduceLeDiff, ne_eq, not_false_eq_true, reduceIte, reduceCtorEq, Bool.or_true, List.length_cons, List.length_nil, List.getElem?_cons_zero, List.getElem?_cons_succ, List.append_nil, List.take_succ_cons, List.take_zero, List.set_cons_zero, List.map_cons, List.map_nil, beq_self_eq_true, Nat.zero_add, and_self, newTok, St.bump, wantG, Option.bind, Nat.add_assoc, or_true, List.headD_cons, tokFree, buildSliceV, repeatCells, chunk, List.size_toArray, r5, r1, h1, h2, or128i, hf.tb]
        refine app_step (y := v % 128 + 128) (ys := []) (hk.set (by omega)) (by simp; omega) ?_ fun X hX => ?_
        · simp only [tokFree, Tr.get_set]; rw [if_neg (by omega), hf.tk _ (by omega)]
        simp only [↓cw_region, ↓then_normal, ↓block_normal, ↓draw_false, ↓ow_nil, ↓ow_cons, ↓contO_eq, ↓op_move, ↓op_assign, ↓op_binOp, vW_some, setD_some, on2_some, biV_eq, opd, ofConst, leaf, rd_set, binV, shiftV, isConst, Nat.reduceEqDiff, Nat.reduceAdd, reduceIte, Bool.or_true, List.length_cons, List.length_nil, Int.reduceLT, Nat.zero_add, St.bump, Nat.add_assoc, List.size_toArray, r1, shr7i]
        refine ih (v / 128) (bs ++ [v % 128 + 128]) _ _ _ hr ?_ (.here (by omega)) (by simp only; omega) (by simp; omega) (by rw [List.append_assoc]; exact hbs) ?_ ?_ hQ
        · first | exact Fresh.of (by repeat (first | exact (Fresh.freeH hf (by omega)) | refine FreeH.set ?_ (by omega))) (by repeat (first | exact (Fresh.freeT hf (by omega)) | refine FreeT.set ?_ (by omega) | refine FreeT.via (by assumption) ?_ (by omega)))
        · simp only [rd_set, Nat.reduceEqDiff, reduceIte, r5]
        · simp only [rd_set, Nat.reduceEqDiff, reduceIte, r1]

theorem w_putS (b : Int) (bs : List Int) (v : Int) (hv : -9223372036854775808 ≤ v ∧ v ≤ 9223372036854775807) (hl : bs.length + (encS v).length < 1099511620000) :
    RowW TS 67 [.sl (u8s (b :: bs)) 0, .i .i64 v] (u8s (b :: bs ++ encS v)) 1 := by
  unfold RowW
  refine callW_of ft67 rfl (Nat.le_of_ble_eq_true rfl) ?_
  have hf : Fresh St.start := Fresh.start
  generalize St.start = σ at hf
  simp only [↓cw_seq, ↓cw_region, ↓then_normal, ↓draw_false, ↓ow_nil, ↓ow_cons, ↓contO_eq, ↓op_move, ↓op_assign, ↓op_call, vW_some, setD_some, callV_some, arg_val, opd, opds, ofConst, leaf, rd_set, rd_nil, Fr.ofList, Nat.reduceEqDiff, Nat.reduceAdd, reduceIte, reduceCtorEq, List.length_cons, List.length_nil, List.cons_append, List.append_nil, Nat.zero_add, St.bump, List.size_toArray]
  refine FnW_call rfl (by kernel_rfl) (by kernel_rfl) (by kernel_rfl) (w_clone b bs 0 _ ?_ (by omega) _ fun κ σ' he hk hkn => ?_)
  · exact (hf.bump 1).bump 3
  simp only [↓cw_seq, ↓cw_block, ↓then_normal, ↓draw_false, ↓ow_nil, ↓ow_cons, ↓contO_eq, ↓op_assign, vW_some, setD_some, opd, rd_set, rd_nil, Nat.reduceEqDiff, Nat.reduceAdd, reduceIte, reduceCtorEq, St.bump]
  refine loop67 (b :: bs ++ encS v) _ 10 v (b :: bs) κ _ _ ?_ ?_ ?_ ?_ ?_ rfl ?_ ?_ fun bs' κ' v' fr' σ1 hbs' hf' hk' hkn' hl' r5 r1 => ?_
  · simp only [rangeS]; omega
  · exact he.fresh.bump 3
  · exact hk
  · simp only; omega
  · simp only [encS] at hl; simp; omega
  · simp only [rd_set, rd_nil, Nat.reduceEqDiff, reduceIte, reduceCtorEq]
  · simp only [rd_set, rd_nil, Nat.reduceEqDiff, reduceIte, reduceCtorEq]
  simp only [↓cw_seq, ↓cw_region, ↓then_normal, ↓ow_cons, ↓contO_eq, ↓op_move, ↓op_buildSlice, ↓op_binOp, ↓op_convert, ↓op_call, ↓force_DQ, block_exit, vW_some, pW_some, bW_true, setD_some, bldS, on1_some, on2_some, biV_eq, arg_blt, nbeq, opd, opds, ofConst, leaf, rd_set, binV, intV, convV, isConst, bltV, fillV, parts, put, flat, AV.cells, AV.strip, undF, aggF, infF, Nat.reduceEqDiff, Nat.reduceAdd, Nat.reduceMul, Nat.reduceLeDiff, ne_eq, not_false_eq_true, reduceIte, reduceCtorEq, Bool.or_true, List.length_cons, List.length_nil, List.append_nil, List.take_succ_cons, List.take_zero, List.set_cons_zero, List.map_cons, List.map_nil, beq_self_eq_true, Nat.zero_add, and_self, newTok, Nat.add_assoc, or_true, List.headD_cons, tokFree, buildSliceV, repeatCells, chunk, List.size_toArray, r5, r1, not128i, hf'.tb]
  refine app_step (y := v' % 128) (ys := []) (hk'.set (by omega)) (by simp; omega) ?_ fun X hX => ?_
  · simp only [tokFree, Tr.get_set]; rw [if_neg (by omega), hf'.tk _ (by omega)]
  simp only [↓cw_ret, ↓then_normal, ↓draw_false, ↓ow_nil, ↓ow_cons, ↓contO_eq, ↓op_assign, ↓ret_ret, vW_some, setD_some, resW, opd, rd_set, resV, Nat.reduceEqDiff, Nat.reduceAdd, reduceIte, St.bump, Tr.get_set, Nat.add_assoc, Tryd.f67]
  refine ⟨σ1.nb + 7, by rw [hbs']; rfl, by omega, goods_u8s _, ?_⟩
  rw [if_pos rfl]
end Go.Pv
