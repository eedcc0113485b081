/- The document's numbers off bytes, whatever the bytes are: group, bit, TakeU. (PvZ6) -/
import Derived.Test.YtigcolhieieakaaDoorPvD5
namespace Go.Pv
open Go Go.Proofs Go.RowKit
set_option linter.unusedVariables false
set_option linter.unusedSimpArgs false
set_option maxRecDepth 100000

theorem tmod_nat (v k : Nat) : Int.tmod (v : Int) (k : Int) = ((v % k : Nat) : Int) := by rw [Int.tmod_eq_emod_of_nonneg (by omega)]; omega
theorem tdiv_nat (v k : Nat) : Int.tdiv (v : Int) (k : Int) = ((v / k : Nat) : Int) := by rw [Int.tdiv_eq_ediv_of_nonneg (by omega)]; omega
theorem nat8_app (a : List Nat) (c : Nat) : nat8 (a ++ [c]) = u8s (a.map (fun n : Nat => (n : Int)) ++ [(c : Int)]) := by simp [nat8]
theorem nat8_eq (a : List Nat) : nat8 a = u8s (a.map (fun n : Nat => (n : Int))) := rfl

noncomputable def K80 : Code :=  cl (cr (cl (cr (cr (cr (cr (fb Tryd.f80)))))))
theorem loop80 (bs : List Nat) (most : Nat) (hm : most ≤ 10) (res : List Nat) (Q : Ex → Fr → St → Prop) (hb : bs.length < 4611686018427387904) :
    ∀ (r : List Nat) i acc κ fr σ, bs.drop i = r → i ≤ most → acc.length = i → Fresh σ → TokOk σ (acc.map fun n : Nat => (n : Int)) κ → κ < σ.nb + 2 → fr.rd 0 = .sl (nat8 bs) 0 → fr.rd 6 = .i .i64 most → fr.rd 7 = .sl (nat8 acc) κ → fr.rd 8 = .i .i64 i →
      (∀ l, grp (most - i) r = .ok l → ∀ κ' fr σ, fr.rd 4 = .sl (nat8 (acc ++ l)) κ' → fr.rd 5 = .i .i64 0 → Q .ret fr σ) →
      (grp (most - i) r = .bad 4 → ∀ fr σ, fr.rd 4 = .sl [] 1 → fr.rd 5 = .i .i64 4 → Q .ret fr σ) →
      (grp (most - i) r = .bad 6 → ∀ fr σ, Q (.exit 0) fr σ) → CodeW TS K80 fr σ Q := by
  intro r
  induction r with
  | nil =>
    intro i acc κ fr σ hd hi ha hf hk hkn r0 r6 r7 r8 hok h4 h6
    have h1 := drop_nil hd
    by_cases him : i = most
    · have hlt : decide ((i : Int) < most) = false := decide_eq_false (by omega)
      simp only [K80, fb, Tryd.f80, cl, cr, Option.getD]
      rw [cw_loop]
      simp only [↓cw_exit, ↓cw_seq, ↓cw_cond, ↓cw_region, ↓then_normal, ↓then_exit, ↓draw_false, ↓ow_nil, ↓ow_cons, ↓contO_eq, ↓op_move, ↓op_binOp, ↓force_DC, vW_some, bW_false, ifW_some, setD_some, on2_some, biV_eq, opd, rd_set, binV, intV, isConst, Nat.reduceEqDiff, Nat.reduceAdd, reduceIte, Bool.or_false, List.length_cons, List.length_nil, Nat.zero_add, St.bump, List.size_toArray, r6, r8, hlt]
      exact h6 (by rw [him, Nat.sub_self]; rfl) _ _
    · have hlt : decide ((i : Int) < most) = true := decide_eq_true (by omega)
      have hge : decide ((i : Int) ≥ bs.length) = true := decide_eq_true (by omega)
      simp only [K80, fb, Tryd.f80, cl, cr, Option.getD]
      rw [cw_loop]
      simp only [↓cw_skip, ↓cw_ret, ↓cw_seq, ↓cw_block, ↓cw_cond, ↓cw_region, ↓then_normal, ↓then_ret, ↓block_ret, ↓draw_false, ↓ow_nil, ↓ow_cons, ↓contO_eq, ↓op_move, ↓op_assign, ↓op_binOp, ↓op_call, ↓force_DC, vW_some, pW_some, bW_true, ifW_some, setD_some, on2_some, biV_eq, arg_blt, opd, opds, ofConst, leaf, pureV, rd_set, binV, intV, isConst, bltV, lenV, undF, Nat.reduceEqDiff, Nat.reduceAdd, reduceIte, reduceCtorEq, Bool.or_false, List.length_cons, List.length_nil, Nat.zero_add, St.bump, Nat.add_assoc, List.size_toArray, r0, r6, r8, hlt, hge, nat8_len]
      obtain ⟨q, hq⟩ : ∃ q, most - i = q + 1 := ⟨most - i - 1, by omega⟩
      refine h4 (by rw [hq]; rfl) _ _ ?_ ?_
      · simp only [rd_set, Nat.reduceEqDiff, reduceIte]
      · simp only [rd_set, Nat.reduceEqDiff, reduceIte]
  | cons c r ih =>
    intro i acc κ fr σ hd hi ha hf hk hkn r0 r6 r7 r8 hok h4 h6
    obtain ⟨h1, h2, h3⟩ := drop_cons hd
    have h0i : (0 : Int) ≤ i := by omega
    by_cases him : i = most
    · have hlt : decide ((i : Int) < most) = false := decide_eq_false (by omega)
      simp only [K80, fb, Tryd.f80, cl, cr, Option.getD]
      rw [cw_loop]
      simp only [↓cw_exit, ↓cw_seq, ↓cw_cond, ↓cw_region, ↓then_normal, ↓then_exit, ↓draw_false, ↓ow_nil, ↓ow_cons, ↓contO_eq, ↓op_move, ↓op_binOp, ↓force_DC, vW_some, bW_false, ifW_some, setD_some, on2_some, biV_eq, opd, rd_set, binV, intV, isConst, Nat.reduceEqDiff, Nat.reduceAdd, reduceIte, Bool.or_false, List.length_cons, List.length_nil, Nat.zero_add, St.bump, List.size_toArray, r6, r8, hlt]
      exact h6 (by rw [him, Nat.sub_self]; rfl) _ _
    · have hlt : decide ((i : Int) < most) = true := decide_eq_true (by omega)
      have hge : decide ((i : Int) ≥ bs.length) = false := decide_eq_false (by omega)
      obtain ⟨q, hq⟩ : ∃ q, most - i = q + 1 := ⟨most - i - 1, by omega⟩
      have hq' : most - (i + 1) = q := by omega
      rw [hq] at hok h4 h6
      have htm : Int.tmod (c : Int) 128 = ((c % 128 : Nat) : Int) := tmod_nat c 128
      simp only [K80, fb, Tryd.f80, cl, cr, Option.getD]
      rw [cw_loop]
      simp only [↓cw_skip, ↓cw_seq, ↓cw_block, ↓cw_cond, ↓cw_region, ↓then_normal, ↓draw_false, ↓ow_nil, ↓ow_cons, ↓contO_eq, ↓op_move, ↓op_buildSlice, ↓op_load, ↓op_binOp, ↓op_indexAddr, ↓op_call, ↓force_DC, vW_some, pW_some, bW_true, bW_false, ifW_some, setD_some, bldS, on1_some, on2_some, ldV_eq, biV_eq, arg_blt, opd, opds, ofConst, leaf, pureV, rd_set, binV, intV, isConst, bltV, lenV, idxAddrV, loadV, take?, fillV, parts, put, flat, AV.cells, AV.strip, undF, aggF, infF, Nat.reduceEqDiff, Nat.reduceAdd, Nat.reduceMul, Nat.reduceLeDiff, ne_eq, not_false_eq_true, reduceIte, reduceCtorEq, Bool.or_false, Bool.or_true, List.length_cons, List.length_nil, List.getElem?_cons_zero, List.append_nil, List.drop_zero, List.take_succ_cons, List.take_zero, List.set_cons_zero, List.map_cons, List.map_nil, Int.reduceEq, Nat.zero_add, and_self, newTok, St.bump, Nat.add_assoc, Int.toNat_natCast, or_true, List.headD_cons, tokFree, buildSliceV, repeatCells, chunk, List.size_toArray, r0, r6, r7, r8, hlt, hge, nat8_len, h0i, nat8_get h1, htm, hf.tb]
      rw [nat8_eq acc]
      refine app_step (y := ((c % 128 : Nat) : Int)) (ys := []) (hk.set (by omega)) (by simp; omega) ?_ fun X hX => ?_
      · exact tokFree_of (by repeat (first | exact (Fresh.freeT hf (by omega)) | refine FreeT.set ?_ (by omega) | refine FreeT.via (by assumption) ?_ (by omega)))
      rw [← nat8_app]
      by_cases hc : c < 128
      · have hc' : decide ((c : Int) < 128) = true := decide_eq_true (by omega)
        simp only [↓cw_ret, ↓cw_seq, ↓cw_cond, ↓cw_region, ↓then_normal, ↓then_ret, ↓block_ret, ↓draw_false, ↓ow_nil, ↓ow_cons, ↓contO_eq, ↓op_move, ↓op_assign, ↓op_load, ↓op_binOp, ↓op_indexAddr, ↓force_DC, vW_some, bW_true, ifW_some, setD_some, on1_some, on2_some, ldV_eq, biV_eq, opd, ofConst, leaf, rd_set, binV, intV, isConst, idxAddrV, loadV, take?, AV.cells, undF, aggF, infF, Nat.reduceEqDiff, Nat.reduceAdd, Nat.reduceLeDiff, reduceIte, reduceCtorEq, Bool.or_true, List.length_cons, List.length_nil, List.getElem?_cons_zero, List.drop_zero, List.take_succ_cons, List.take_zero, Nat.zero_add, St.bump, Nat.add_assoc, Int.toNat_natCast, List.size_toArray, r0, r7, r8, h0i, nat8_get h1, hc']
        refine hok [c] (by simp [grp, hc]) (σ.nb + 16) _ _ ?_ ?_
        · simp only [rd_set, Nat.reduceEqDiff, reduceIte, Nat.mod_eq_of_lt hc]
        · simp only [rd_set, Nat.reduceEqDiff, reduceIte]
      · have hc' : decide ((c : Int) < 128) = false := decide_eq_false (by omega)
        simp only [↓cw_skip, ↓cw_seq, ↓cw_cond, ↓cw_region, ↓then_normal, ↓block_normal, ↓draw_false, ↓ow_nil, ↓ow_cons, ↓contO_eq, ↓op_move, ↓op_assign, ↓op_load, ↓op_binOp, ↓op_indexAddr, ↓force_DC, vW_some, bW_false, ifW_some, setD_some, on1_some, on2_some, ldV_eq, biV_eq, opd, ofConst, leaf, rd_set, binV, intV, isConst, idxAddrV, loadV, take?, AV.cells, undF, aggF, infF, Nat.reduceEqDiff, Nat.reduceAdd, Nat.reduceLeDiff, reduceIte, reduceCtorEq, Bool.or_true, List.length_cons, List.length_nil, List.getElem?_cons_zero, List.drop_zero, List.take_succ_cons, List.take_zero, Nat.zero_add, St.bump, Nat.add_assoc, Int.toNat_natCast, List.size_toArray, r0, r8, h0i, nat8_get h1, hc', fw_add1 (n := i) (by omega)]
        refine ih (i + 1) (acc ++ [c % 128]) (σ.nb + 16) _ _ h2 (by omega) (by simp [ha]) ?_ ?_ ?_ ?_ ?_ ?_ ?_ ?_ ?_ ?_
        · first | exact Fresh.of (by repeat (first | exact (Fresh.freeH hf (by omega)) | refine FreeH.set ?_ (by omega))) (by repeat (first | exact (Fresh.freeT hf (by omega)) | refine FreeT.set ?_ (by omega) | refine FreeT.via (by assumption) ?_ (by omega)))
        · exact .inr ⟨by omega, by simp [Tr.get_set]⟩
        · simp only; omega
        · simp only [rd_set, reduceIte, reduceCtorEq, r0]
        · simp only [rd_set, Nat.reduceEqDiff, reduceIte, r6]
        · simp only [rd_set, Nat.reduceEqDiff, reduceIte]
        · simp only [rd_set, Nat.reduceEqDiff, reduceIte]
        · intro l hg κ' fr' σ' q4 q5
          rw [hq'] at hg
          exact hok (c % 128 :: l) (by simp [grp, hc, hg]) κ' fr' σ' (by rw [q4]; simp) q5
        · intro hg
          rw [hq'] at hg
          exact h4 (by simp [grp, hc, hg])
        · intro hg
          rw [hq'] at hg
          exact h6 (by simp [grp, hc, hg])

def groupV (g : Rg) : AV := match g with
  | .ok l => .t [.sl (nat8 l) 0, .i .i64 0]
  | .bad e => .t [.sl [] 0, .i .i64 e]
theorem w_group (bs : List Nat) (w : Int) (most : Nat) (hw : w = 32 ∧ most = 5 ∨ w = 64 ∧ most = 10) (hb : bs.length < 4611686018427387904) : PureW TS 80 [.sl (nat8 bs) 0, .i .i64 w] (groupV (grp most bs)) := by
  unfold PureW
  refine callW_of ft80 rfl (Nat.le_of_ble_eq_true rfl) ?_
  have hf : Fresh St.start := Fresh.start
  generalize St.start = σ at hf
  have hm : Int.tdiv (fw .i64 (w + 6)) 7 = (most : Int) := by
    rcases hw with ⟨rfl, rfl⟩ | ⟨rfl, rfl⟩ <;> rfl
  have hfm : fw .i64 (most : Int) = (most : Int) := fw_nat (by omega)
  have hw1 : decide (w < 1) = false := decide_eq_false (by omega)
  have hw2 : decide (w > 64) = false := decide_eq_false (by omega)
  simp only [↓cw_skip, ↓cw_seq, ↓cw_block, ↓cw_cond, ↓cw_region, ↓then_normal, ↓draw_false, ↓ow_nil, ↓ow_cons, ↓ow_consG, ↓contO_eq, ↓op_move, ↓op_assign, ↓op_binOp, ↓op_pick, ↓force_DC, ↓force_DO, vW_some, bW_true, bW_false, ifW_some, setD_some, on2_some, biV_eq, pkV, opd, ofConst, leaf, rd_set, rd_nil, Fr.ofList, binV, intV, isConst, Nat.reduceEqDiff, Nat.reduceAdd, reduceIte, reduceCtorEq, Bool.or_true, List.length_cons, List.length_nil, List.getElem?_cons_zero, List.getElem?_cons_succ, Int.reduceEq, beq_self_eq_true, Nat.zero_add, St.bump, wantG, Option.bind, Nat.add_assoc, List.size_toArray, hm, hfm, hw1, hw2]
  refine loop80 bs most (by omega) [] _ hb bs 0 [] 1 _ _ rfl (by omega) rfl ?_ (.inl ⟨rfl, rfl⟩) (by simp only; omega) ?_ ?_ ?_ ?_ (fun l hg κ' fr σ q4 q5 => ?_) (fun hg fr σ q4 q5 => ?_) fun hg fr σ => ?_
  · first | exact Fresh.of (by repeat (first | exact (Fresh.freeH hf (by omega)) | refine FreeH.set ?_ (by omega))) (by repeat (first | exact (Fresh.freeT hf (by omega)) | refine FreeT.set ?_ (by omega) | refine FreeT.via (by assumption) ?_ (by omega)))
  · simp only [rd_set, rd_nil, reduceIte, reduceCtorEq]
  · simp only [rd_set, rd_nil, Nat.reduceEqDiff, reduceIte, reduceCtorEq]
  · simp only [rd_set, rd_nil, Nat.reduceEqDiff, reduceIte, reduceCtorEq]
    rfl
  · simp only [rd_set, rd_nil, Nat.reduceEqDiff, reduceIte, reduceCtorEq]
    rfl
  · simp only [↓then_ret, ↓block_ret, ↓ret_ret, resW, resV, List.nil_append, q4, q5, Tryd.f80]
    rw [Nat.sub_zero] at hg
    rw [hg]
    exact ⟨by simp [groupV, untok, AV.strip], by simp [groupV, Go.Pv.good, Go.Pv.goods, goods_nat8]⟩
  · simp only [↓then_ret, ↓block_ret, ↓ret_ret, resW, resV, q4, q5, Tryd.f80]
    rw [Nat.sub_zero] at hg
    rw [hg]
    exact ⟨by simp [groupV, untok, AV.strip], rfl⟩
  · simp only [↓cw_ret, ↓cw_seq, ↓cw_region, ↓then_normal, ↓draw_false, ↓ow_nil, ↓ow_cons, ↓contO_eq, ↓op_assign, ↓ret_ret, ↓force_DQ, block_exit, vW_some, bW_true, setD_some, resW, nbeq, opd, ofConst, leaf, rd_set, resV, Nat.reduceEqDiff, Nat.reduceAdd, reduceIte, List.length_cons, List.length_nil, beq_self_eq_true, Nat.zero_add, List.size_toArray, Tryd.f80]
    rw [Nat.sub_zero] at hg
    rw [hg]
    exact ⟨by simp [groupV, untok, AV.strip], rfl⟩

theorem w_bit (l : List Nat) (k : Nat) (hl : ∀ c ∈ l, c < 128) (hn : l.length ≤ 10) (hk : k < 100) : PureW TS 81 [.sl (nat8 l) 0, .i .i64 (k : Int)] (.b ((val l).testBit k)) := by
  unfold PureW
  refine callW_of ft81 rfl (Nat.le_of_ble_eq_true rfl) ?_
  generalize St.start = σ
  have h1 : Int.tdiv (k : Int) 7 = ((k / 7 : Nat) : Int) := tdiv_nat k 7
  have h2 : Int.tmod (k : Int) 7 = ((k % 7 : Nat) : Int) := tmod_nat k 7
  have hfk : fw .i64 ((k / 7 : Nat) : Int) = ((k / 7 : Nat) : Int) := fw_nat (by omega)
  rw [val_bit l k hl]
  by_cases h : l.length ≤ k / 7
  · have hge : decide (((k / 7 : Nat) : Int) ≥ l.length) = true := decide_eq_true (by omega)
    simp only [↓cw_ret, ↓cw_seq, ↓cw_cond, ↓cw_region, ↓then_normal, ↓then_ret, ↓draw_false, ↓ow_nil, ↓ow_cons, ↓contO_eq, ↓op_move, ↓op_assign, ↓op_binOp, ↓op_call, ↓ret_ret, ↓force_DC, vW_some, pW_some, bW_true, ifW_some, setD_some, on2_some, biV_eq, arg_blt, resW, opd, opds, ofConst, leaf, pureV, rd_set, rd_nil, Fr.ofList, binV, intV, isConst, bltV, lenV, undF, resV, Nat.reduceEqDiff, Nat.reduceAdd, reduceIte, reduceCtorEq, Bool.or_false, Bool.or_true, List.length_cons, List.length_nil, Int.reduceEq, Nat.zero_add, St.bump, Nat.add_assoc, List.size_toArray, h1, hfk, nat8_len, hge, Tryd.f81]
    rw [List.getElem?_eq_none h]
    exact ⟨rfl, rfl⟩
  · have hge : decide (((k / 7 : Nat) : Int) ≥ l.length) = false := decide_eq_false (by omega)
    obtain ⟨c, hc⟩ : ∃ c, l[k / 7]? = some c := ⟨_, List.getElem?_eq_getElem (show k / 7 < l.length by omega)⟩
    have h128 := hl c (List.mem_of_getElem? hc)
    have h0 : (0 : Int) ≤ ((k / 7 : Nat) : Int) := by omega
    have hn0 : ¬ (((k % 7 : Nat) : Int) < 0) := by omega
    have hsh : (c : Int).fdiv ((2 ^ min (k % 7) (IntKind.bits .u8) : Nat) : Int) = ((c / 2 ^ (k % 7) : Nat) : Int) := by
      have : min (k % 7) (IntKind.bits .u8) = k % 7 := Nat.min_eq_left (by show k % 7 ≤ 8; omega)
      rw [this, Int.fdiv_eq_ediv_of_nonneg _ (Int.natCast_nonneg _)]; rfl
    have h3 : Int.tmod ((c / 2 ^ (k % 7) : Nat) : Int) 2 = ((c / 2 ^ (k % 7) % 2 : Nat) : Int) := tmod_nat _ 2
    have hb : ((((c / 2 ^ (k % 7)) % 2 : Nat) : Int) == 1) = c.testBit (k % 7) := by
      rw [← bit_div]
      by_cases h : c / 2 ^ (k % 7) % 2 = 1
      · rw [h]; rfl
      · rw [beq_false_of_ne h, beq_eq_false_iff_ne]; omega
    simp only [↓cw_skip, ↓cw_ret, ↓cw_seq, ↓cw_cond, ↓cw_region, ↓then_normal, ↓draw_false, ↓ow_nil, ↓ow_cons, ↓contO_eq, ↓op_move, ↓op_assign, ↓op_load, ↓op_binOp, ↓op_indexAddr, ↓op_call, ↓ret_ret, ↓force_DC, vW_some, pW_some, bW_false, ifW_some, setD_some, on1_some, on2_some, ldV_eq, biV_eq, arg_blt, resW, opd, opds, ofConst, leaf, pureV, rd_set, rd_nil, Fr.ofList, binV, intV, shiftV, isConst, bltV, lenV, idxAddrV, loadV, take?, AV.cells, undF, aggF, infF, resV, Nat.reduceEqDiff, Nat.reduceAdd, Nat.reduceLeDiff, reduceIte, reduceCtorEq, Bool.or_false, Bool.or_true, List.length_cons, List.length_nil, List.getElem?_cons_zero, List.drop_zero, List.take_succ_cons, List.take_zero, Int.reduceEq, Nat.zero_add, St.bump, Nat.add_assoc, Int.toNat_natCast, List.size_toArray, h1, h2, hfk, nat8_len, hge, h0, nat8_get hc, hn0, hsh, h3, hb, Tryd.f81]
    rw [hc]
    exact ⟨rfl, rfl⟩

theorem mod_bit (x k : Nat) : x % 2 ^ (k + 1) = x % 2 ^ k + if x.testBit k then 2 ^ k else 0 := by
  rw [Nat.mod_pow_succ, Nat.testBit_eq_decide_div_mod_eq]
  by_cases h : x / 2 ^ k % 2 = 1
  · simp [h]
  · have : x / 2 ^ k % 2 = 0 := by omega
    simp [this]

noncomputable def K76 : Code :=  cl (cr (cl (cr (cr (cr (cr (cr (fb Tryd.f76))))))))
theorem loop76 (l : List Nat) (hl : ∀ c ∈ l, c < 128) (hn : l.length ≤ 5) (Q : Ex → Fr → St → Prop) 
    (hbad : 4294967296 ≤ val l → ∀ fr σ, fr.rd 4 = .i .u64 0 → fr.rd 5 = .i .i64 0 → fr.rd 6 = .i .i64 6 → Q .ret fr σ)
    (hok : val l < 4294967296 → ∀ fr σ, fr.rd 7 = .sl (nat8 l) 0 → fr.rd 9 = .i .u64 (val l : Nat) → Q (.exit 0) fr σ) :
    ∀ (d k : Nat) fr σ, k + d = 7 * l.length → (32 ≤ k → val l % 2 ^ k < 4294967296) → fr.rd 1 = .i .i64 32 → fr.rd 7 = .sl (nat8 l) 0 → fr.rd 9 = .i .u64 (val l % 2 ^ k : Nat) → fr.rd 10 = .i .u64 (2 ^ k : Nat) → fr.rd 11 = .i .i64 k → CodeW TS K76 fr σ Q := by
  have hv : val l < 2 ^ (7 * l.length) := by rw [Nat.pow_mul]; exact val_lt l hl
  have hfn : fw .i64 (7 * (l.length : Int)) = ((7 * l.length : Nat) : Int) := by unfold fw; simp only; rw [if_pos (by omega)]; omega
  intro d
  induction d with
  | zero =>
    intro k fr σ hk hi r1 r7 r9 r10 r11
    have hlt : decide ((k : Int) < ((7 * l.length : Nat) : Int)) = false := decide_eq_false (by omega)
    simp only [K76, fb, Tryd.f76, cl, cr, Option.getD]
    rw [cw_loop]
    simp only [↓cw_exit, ↓cw_seq, ↓cw_cond, ↓cw_region, ↓then_normal, ↓then_exit, ↓draw_false, ↓ow_nil, ↓ow_cons, ↓contO_eq, ↓op_move, ↓op_binOp, ↓op_call, ↓force_DC, vW_some, pW_some, bW_false, ifW_some, setD_some, on2_some, biV_eq, arg_blt, opd, opds, ofConst, leaf, pureV, rd_set, binV, intV, isConst, bltV, lenV, undF, Nat.reduceEqDiff, Nat.reduceAdd, reduceIte, Bool.or_false, List.length_cons, List.length_nil, Nat.zero_add, St.bump, List.size_toArray, r7, r11, nat8_len, hfn, hlt]
    have hkv : val l % 2 ^ k = val l := Nat.mod_eq_of_lt (by rw [show k = 7 * l.length by omega]; exact hv)
    rw [hkv] at hi r9
    refine hok ?_ _ _ ?_ ?_
    · by_cases h32 : 32 ≤ k
      · exact hi h32
      · exact Nat.lt_of_lt_of_le hv (Nat.le_trans (Nat.pow_le_pow_right (by omega) (show 7 * l.length ≤ 32 by omega)) (by decide))
    · simp only [rd_set, Nat.reduceEqDiff, reduceIte, r7]
    · simp only [rd_set, Nat.reduceEqDiff, reduceIte, r9]
  | succ d ih =>
    intro k fr σ hk hi r1 r7 r9 r10 r11
    have hlt : decide ((k : Int) < ((7 * l.length : Nat) : Int)) = true := decide_eq_true (by omega)
    have hp : 2 ^ k < 68719476736 := Nat.lt_of_le_of_lt (Nat.pow_le_pow_right (by omega) (show k ≤ 35 by omega)) (by decide)
    have hmb := mod_bit (val l) k
    have hmk : val l % 2 ^ k < 2 ^ k := Nat.mod_lt _ (Nat.pow_pos (by omega))
    have hp2 : fw .u64 (2 * ((2 ^ k : Nat) : Int)) = ((2 ^ (k + 1) : Nat) : Int) := by
      rw [Nat.pow_succ]; unfold fw; simp only; rw [if_pos (by omega)]; omega
    have hadd : fw .u64 (((val l % 2 ^ k : Nat) : Int) + ((2 ^ k : Nat) : Int)) = ((val l % 2 ^ k + 2 ^ k : Nat) : Int) := by
      unfold fw; simp only; rw [if_pos (by omega)]; omega
    simp only [K76, fb, Tryd.f76, cl, cr, Option.getD]
    rw [cw_loop]
    simp only [↓cw_skip, ↓cw_seq, ↓cw_block, ↓cw_cond, ↓cw_region, ↓then_normal, ↓draw_false, ↓ow_nil, ↓ow_cons, ↓contO_eq, ↓op_move, ↓op_binOp, ↓op_call, ↓force_DC, vW_some, pW_some, bW_true, ifW_some, setD_some, on2_some, biV_eq, callV_some, arg_blt, arg_val, opd, opds, ofConst, leaf, pureV, rd_set, binV, intV, isConst, bltV, lenV, undF, Nat.reduceEqDiff, Nat.reduceAdd, reduceIte, Bool.or_false, List.length_cons, List.length_nil, List.append_nil, Nat.zero_add, St.bump, List.size_toArray, r7, r11, nat8_len, hfn, hlt]
    refine pc81.call (by simp [untok, AV.strip, Go.Pv.goods, Go.Pv.good, goods_nat8]) (w_bit l k hl (by omega) (by omega)) ?_
    cases hb : (val l).testBit k with
    | true =>
      rw [hb, if_pos rfl] at hmb
      by_cases h32 : 32 ≤ k
      · have hge : decide ((k : Int) ≥ 32) = true := decide_eq_true (by omega)
        simp only [↓cw_ret, ↓cw_seq, ↓cw_cond, ↓cw_region, ↓then_normal, ↓then_ret, ↓block_ret, ↓draw_false, ↓ow_nil, ↓ow_cons, ↓ow_consG, ↓contO_eq, ↓op_move, ↓op_assign, ↓op_binOp, ↓op_pick, ↓force_DC, ↓force_DO, vW_some, bW_true, ifW_some, setD_some, on2_some, biV_eq, pkV, opd, ofConst, leaf, rd_set, binV, intV, isConst, Nat.reduceEqDiff, Nat.reduceAdd, reduceIte, Bool.or_false, List.length_cons, List.length_nil, List.getElem?_cons_zero, List.getElem?_cons_succ, beq_self_eq_true, Nat.zero_add, St.bump, wantG, Option.bind, Nat.add_assoc, List.size_toArray, r1, r11, hge]
        refine hbad ?_ _ _ ?_ ?_ ?_
        · have h1 : 2 ^ 32 ≤ 2 ^ k := Nat.pow_le_pow_right (by omega) h32
          have h2 : val l % 2 ^ (k + 1) ≤ val l := Nat.mod_le _ _
          omega
        · simp only [rd_set, Nat.reduceEqDiff, reduceIte]
        · simp only [rd_set, Nat.reduceEqDiff, reduceIte]
        · simp only [rd_set, Nat.reduceEqDiff, reduceIte]
      · have hge : decide ((k : Int) ≥ 32) = false := decide_eq_false (by omega)
        simp only [↓cw_skip, ↓cw_seq, ↓cw_cond, ↓cw_region, ↓then_normal, ↓draw_false, ↓ow_nil, ↓ow_cons, ↓ow_consG, ↓contO_eq, ↓op_move, ↓op_binOp, ↓op_pick, ↓op_call, ↓force_DC, ↓force_DO, vW_some, bW_true, bW_false, ifW_some, setD_some, on2_some, biV_eq, pkV, callV_some, arg_val, opd, opds, ofConst, leaf, rd_set, binV, intV, isConst, Nat.reduceEqDiff, Nat.reduceAdd, reduceIte, Bool.or_false, List.length_cons, List.length_nil, List.getElem?_cons_zero, List.getElem?_cons_succ, List.append_nil, beq_self_eq_true, Nat.zero_add, St.bump, wantG, Option.bind, Nat.add_assoc, List.size_toArray, r1, r7, r11, hge]
        refine pc81.call (by simp [untok, AV.strip, Go.Pv.goods, Go.Pv.good, goods_nat8]) (w_bit l k hl (by omega) (by omega)) ?_
        rw [hb]
        simp only [↓cw_cond, ↓cw_region, ↓then_normal, ↓block_normal, ↓draw_false, ↓ow_nil, ↓ow_cons, ↓contO_eq, ↓op_move, ↓op_assign, ↓op_binOp, ↓force_DC, vW_some, bW_true, ifW_some, setD_some, on2_some, biV_eq, opd, ofConst, leaf, rd_set, binV, intV, isConst, Nat.reduceEqDiff, Nat.reduceAdd, reduceIte, Bool.or_false, Bool.or_true, List.length_cons, List.length_nil, Nat.zero_add, St.bump, Nat.add_assoc, List.size_toArray, r9, r10, r11, hadd, hp2, fw_add1 (n := k) (by omega)]
        refine ih (k + 1) _ _ (by omega) (fun h => ?_) ?_ ?_ ?_ ?_ ?_
        · rw [hmb]
          have h1 : 2 ^ k ≤ 2 ^ 31 := Nat.pow_le_pow_right (by omega) (by omega)
          omega
        · simp only [rd_set, Nat.reduceEqDiff, reduceIte, r1]
        · simp only [rd_set, Nat.reduceEqDiff, reduceIte, r7]
        · simp only [rd_set, Nat.reduceEqDiff, reduceIte, hmb]
        · simp only [rd_set, Nat.reduceEqDiff, reduceIte]
        · simp only [rd_set, Nat.reduceEqDiff, reduceIte]
    | false =>
      rw [hb, if_neg (by simp)] at hmb
      simp only [↓cw_skip, ↓cw_seq, ↓cw_cond, ↓cw_region, ↓then_normal, ↓draw_false, ↓ow_nil, ↓ow_cons, ↓ow_consG, ↓contO_eq, ↓op_move, ↓op_pick, ↓op_call, ↓force_DC, ↓force_DOs, vW_some, bW_false, ifW_some, setD_some, pkV, callV_some, arg_val, opd, opds, ofConst, leaf, rd_set, Nat.reduceEqDiff, Nat.reduceAdd, reduceIte, List.length_cons, List.length_nil, List.getElem?_cons_zero, List.getElem?_cons_succ, List.append_nil, Nat.zero_add, St.bump, wantG, Option.bind, Nat.add_assoc, beqT, List.size_toArray, r7, r11]
      refine pc81.call (by simp [untok, AV.strip, Go.Pv.goods, Go.Pv.good, goods_nat8]) (w_bit l k hl (by omega) (by omega)) ?_
      rw [hb]
      simp only [↓cw_skip, ↓cw_cond, ↓cw_region, ↓then_normal, ↓block_normal, ↓draw_false, ↓ow_nil, ↓ow_cons, ↓contO_eq, ↓op_move, ↓op_assign, ↓op_binOp, ↓force_DC, vW_some, bW_false, ifW_some, setD_some, on2_some, biV_eq, opd, ofConst, leaf, rd_set, binV, intV, isConst, Nat.reduceEqDiff, Nat.reduceAdd, reduceIte, Bool.or_false, Bool.or_true, List.length_cons, List.length_nil, Nat.zero_add, St.bump, Nat.add_assoc, List.size_toArray, r10, r11, hp2, fw_add1 (n := k) (by omega)]
      refine ih (k + 1) _ _ (by omega) (fun h => ?_) ?_ ?_ ?_ ?_ ?_
      · rw [hmb]
        by_cases h32 : 32 ≤ k
        · exact hi h32
        · have h1 : 2 ^ k ≤ 2 ^ 31 := Nat.pow_le_pow_right (by omega) (by omega)
          omega
      · simp only [rd_set, Nat.reduceEqDiff, reduceIte, r1]
      · simp only [rd_set, Nat.reduceEqDiff, reduceIte, r7]
      · simp only [rd_set, Nat.reduceEqDiff, reduceIte, Nat.add_zero, hmb, r9]
      · simp only [rd_set, Nat.reduceEqDiff, reduceIte]
      · simp only [rd_set, Nat.reduceEqDiff, reduceIte]

def refUV (r : Rv Nat) : AV := match r with
  | .ok v n => .t [.i .u64 v, .i .i64 n, .i .i64 0]
  | .bad e => .t [.i .u64 0, .i .i64 0, .i .i64 e]
theorem w_rtakeU (bs : List Nat) (hb : bs.length < 4611686018427387904) : PureW TS 76 [.sl (nat8 bs) 0, .i .i64 32] (refUV (tU bs)) := by
  unfold PureW
  refine callW_of ft76 rfl (Nat.le_of_ble_eq_true rfl) ?_
  generalize St.start = σ
  simp only [↓cw_seq, ↓cw_region, ↓then_normal, ↓draw_false, ↓ow_nil, ↓ow_cons, ↓contO_eq, ↓op_move, ↓op_assign, ↓op_call, vW_some, setD_some, callV_some, arg_val, opd, opds, ofConst, leaf, rd_set, rd_nil, Fr.ofList, Nat.reduceEqDiff, Nat.reduceAdd, reduceIte, reduceCtorEq, List.length_cons, List.length_nil, List.append_nil, Nat.zero_add, St.bump, List.size_toArray]
  refine pc80.call (by simp [untok, AV.strip, Go.Pv.goods, Go.Pv.good, goods_nat8]) (w_group bs 32 5 (.inl ⟨rfl, rfl⟩) hb) ?_
  cases hg : grp 5 bs with
  | bad e =>
    have he : ((e : Int) != 0) = true := by
      have := (grp_bad _ _ _ hg).2
      rw [bne_iff_ne]; split at this <;> omega
    simp only [groupV]
    simp only [↓cw_ret, ↓cw_seq, ↓cw_cond, ↓cw_region, ↓then_normal, ↓then_ret, ↓draw_false, ↓ow_nil, ↓ow_cons, ↓contO_eq, ↓op_move, ↓op_assign, ↓op_binOp, ↓op_extract, ↓ret_ret, ↓force_DC, vW_some, bW_true, ifW_some, setD_some, on1_some, on2_some, biV_eq, exV, resW, opd, ofConst, leaf, rd_set, rd_nil, binV, intV, isConst, resV, Nat.reduceEqDiff, Nat.reduceAdd, reduceIte, reduceCtorEq, Bool.or_true, List.length_cons, List.length_nil, List.getElem?_cons_zero, List.getElem?_cons_succ, Nat.zero_add, St.bump, Nat.add_assoc, List.size_toArray, he, Tryd.f76]
    simp only [tU, hg, refUV]
    exact ⟨rfl, rfl⟩
  | ok l =>
    have g := grp_ok _ _ _ hg
    simp only [groupV]
    simp only [↓cw_skip, ↓cw_seq, ↓cw_block, ↓cw_cond, ↓cw_region, ↓then_normal, ↓draw_false, ↓ow_nil, ↓ow_cons, ↓contO_eq, ↓op_move, ↓op_assign, ↓op_binOp, ↓op_extract, ↓force_DC, vW_some, bW_false, ifW_some, setD_some, on1_some, on2_some, biV_eq, exV, opd, ofConst, leaf, rd_set, rd_nil, binV, intV, isConst, Nat.reduceEqDiff, Nat.reduceAdd, reduceIte, reduceCtorEq, Bool.or_true, List.length_cons, List.length_nil, List.getElem?_cons_zero, List.getElem?_cons_succ, Nat.zero_add, St.bump, Nat.add_assoc, List.size_toArray, show ((0 : Int) != 0) = false from rfl]
    refine loop76 l g.lt g.most _ (fun h fr σ q4 q5 q6 => ?_) (fun h fr σ q7 q9 => ?_) (7 * l.length) 0 _ _ (by omega) (by omega) ?_ ?_ ?_ ?_ ?_
    · simp only [↓then_ret, ↓block_ret, ↓ret_ret, resW, resV, q4, q5, q6, Tryd.f76]
      simp only [tU, hg, refUV]
      rw [if_neg (by omega)]
      exact ⟨rfl, rfl⟩
    · simp only [↓cw_ret, ↓cw_seq, ↓cw_region, ↓then_normal, ↓draw_false, ↓ow_nil, ↓ow_cons, ↓contO_eq, ↓op_move, ↓op_assign, ↓op_call, ↓ret_ret, ↓force_DQ, block_exit, vW_some, pW_some, bW_true, setD_some, arg_blt, resW, nbeq, opd, opds, ofConst, leaf, pureV, rd_set, bltV, lenV, undF, resV, Nat.reduceEqDiff, Nat.reduceAdd, reduceIte, List.length_cons, List.length_nil, beq_self_eq_true, Nat.zero_add, List.size_toArray, q7, q9, nat8_len, Tryd.f76]
      simp only [tU, hg, refUV]
      rw [if_pos h]
      exact ⟨rfl, rfl⟩
    · simp only [rd_set, rd_nil, Nat.reduceEqDiff, reduceIte, reduceCtorEq]
    · simp only [rd_set, rd_nil, Nat.reduceEqDiff, reduceIte, reduceCtorEq]
    · simp only [rd_set, rd_nil, Nat.reduceEqDiff, reduceIte, reduceCtorEq]
      simp [Nat.mod_one]
    · simp only [rd_set, rd_nil, Nat.reduceEqDiff, reduceIte, reduceCtorEq]
      rfl
    · simp only [rd_set, rd_nil, Nat.reduceEqDiff, reduceIte, reduceCtorEq]
      rfl
end Go.Pv
