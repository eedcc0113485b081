/- The reader, where all is well: byte, kind, whole. (PvZ6) -/
import Derived.Test.YtigcolhieieakaaDoorPvZ8
namespace Go.Pv
open Go Go.Proofs Go.RowKit
set_option linter.unusedVariables false
set_option linter.unusedSimpArgs false
set_option maxRecDepth 100000

/-- A reader with no error. -/
def RS (σ : St) (p : Nat) (bs : List Int) (a m : Nat) : Prop := Tr.get σ.h p = some [.sl (u8s bs) 0, .i .i64 a, .i .i64 m, .ne, .i .i64 0]
structure ExtR (p : Nat) (σ σ' : St) : Prop where
  nb : σ.nb ≤ σ'.nb
  fresh : Fresh σ'
  h : ∀ l, l < σ.nb → l ≠ p → Tr.get σ'.h l = Tr.get σ.h l
  tk : ∀ k, k < σ.nb + 2 → Tr.get σ'.tk k = Tr.get σ.tk k
theorem ExtR.trans {p : Nat} {a b c : St} (h1 : ExtR p a b) (h2 : ExtR p b c) : ExtR p a c :=
  ⟨Nat.le_trans h1.nb h2.nb, h2.fresh, fun l hl hp => by rw [h2.h l (Nat.lt_of_lt_of_le hl h1.nb) hp, h1.h l hl hp], fun k hk => by rw [h2.tk k (by have := h1.nb; omega), h1.tk k hk]⟩

theorem u8s_get {l : List Int} {i : Nat} {x : Int} (h : l[i]? = some x) : (u8s l)[i]? = some (.i .u8 x) := by simp [u8s, h]
theorem fw_sub1 {n : Nat} (h : n < 4611686018427387904) : fw .i64 (((n + 1 : Nat) : Int) - 1) = (n : Int) := by unfold fw; simp only; rw [if_pos (by omega)]; omega

theorem w_byte (σ : St) (p : Nat) (bs : List Int) (a m : Nat) (x : Int) (Q : AV → St → Prop) (hf : Fresh σ) (hp : p < σ.nb) (hr : RS σ p bs a m) (hx : bs[a]? = some x) (ha : a < 4611686018427387904)
    (hQ : ∀ σ', ExtR p σ σ' → RS σ' p bs (a + 1) m → Q (.t [.i .u8 x, .b true]) σ') : CallW TS 37 [.p p 0] σ Q := by
  unfold RS at hr
  have hlt : a < bs.length := by
    rcases Nat.lt_or_ge a bs.length with h | h
    · exact h
    · rw [List.getElem?_eq_none h] at hx; cases hx
  have hd : decide ((a : Int) ≥ bs.length) = false := decide_eq_false (by omega)
  have h0 : (0 : Int) ≤ a := by omega
  refine callW_of ft37 rfl (Nat.le_of_ble_eq_true rfl) ?_
  simp only [↓cw_skip, ↓cw_ret, ↓cw_seq, ↓cw_cond, ↓cw_region, ↓then_normal, ↓draw_false, ↓draw_true, ↓ow_nil, ↓ow_cons, ↓ow_consG, ↓contO_eq, ↓op_move, ↓op_assign, ↓op_load, ↓op_store, ↓op_nilCheck, ↓op_binOp, ↓op_fieldAddr, ↓op_indexAddr, ↓op_pick, ↓op_call, ↓ret_ret, ↓force_DC, ↓force_DQ, ↓force_DO, vW_some, pW_some, bW_true, bW_false, ifW_some, setD_some, setD_none, on1_some, on2_some, ldV_eq, stV, nilV, biV_eq, faV_eq, pkV, arg_blt, resW, opd, opds, ofConst, leaf, pureV, rd_set, rd_nil, Fr.ofList, binV, intV, eqV, isConst, bltV, lenV, idxAddrV, loadV, fieldAddrV, take?, put, flat, AV.cells, hasStore, isStore, undF, aggF, infF, ifaceF, resV, Nat.reduceEqDiff, Nat.reduceAdd, Nat.reduceLeDiff, reduceIte, reduceCtorEq, Bool.or_false, Bool.or_true, Bool.and_true, List.any, List.length_cons, List.length_nil, List.getElem?_cons_zero, List.getElem?_cons_succ, List.drop_succ_cons, List.drop_zero, List.take_succ_cons, List.take_zero, List.set_cons_zero, List.set_cons_succ, beq_self_eq_true, Nat.add_zero, Nat.zero_add, and_self, Bool.not_true, St.bump, storeV, Tr.get_set, wantG, Option.bind, Nat.add_assoc, Int.toNat_natCast, List.size_toArray, hr, u8s_len, hd, fw_add1 ha, fw_sub1 ha, u8s_get hx, h0, Tryd.f37]
  refine hQ _ ⟨by simp only; omega, ?_, fun l hl hne => ?_, fun k hk => rfl⟩ ?_
  · first | exact Fresh.of (by repeat (first | exact (Fresh.freeH hf (by omega)) | refine FreeH.set ?_ (by omega))) (by repeat (first | exact (Fresh.freeT hf (by omega)) | refine FreeT.set ?_ (by omega) | refine FreeT.via (by assumption) ?_ (by omega)))
  · simp only [Tr.get_set]; rw [if_neg hne]
  · simp only [RS, Tr.get_set, if_true]

/-- The state behind a call, where only so many names are used up. -/
theorem ExtR.bump {p : Nat} {σ σ' : St} (h : ExtR p σ σ') (n : Nat) : ExtR p σ (σ'.bump n) := ⟨by have := h.nb; simp only [St.bump]; omega, h.fresh.bump n, h.h, h.tk⟩
theorem ExtR.of_bump {p m : Nat} {σ σ' : St} (h : ExtR p (σ.bump m) σ') : ExtR p σ σ' :=
  ⟨by have := h.nb; simp only [St.bump] at this; omega, h.fresh, fun l hl hp => h.h l (by simp only [St.bump]; omega) hp, fun k hk => h.tk k (by simp only [St.bump]; omega)⟩

/-- A kind's byte. -/
theorem w_rkind (σ : St) (p : Nat) (bs : List Int) (a m : Nat) (res : Int) (Q : AV → St → Prop) (hf : Fresh σ) (hp : p < σ.nb) (hr : RS σ p bs a m) (hres : res = 0 ∨ res = 127 ∨ res = 126) (hx : bs[a]? = some (kindB res)) (ha : a < 4611686018427387904)
    (hQ : ∀ σ', ExtR p σ σ' → RS σ' p bs (a + 1) m → Q (.i .u8 res) σ') : CallW TS 58 [.p p 0] σ Q := by
  refine callW_of ft58 rfl (Nat.le_of_ble_eq_true rfl) ?_
  simp only [↓cw_seq, ↓cw_region, ↓then_normal, ↓draw_false, ↓ow_nil, ↓ow_cons, ↓contO_eq, ↓op_move, ↓op_assign, ↓op_call, vW_some, setD_some, callV_some, arg_val, opd, opds, ofConst, leaf, rd_set, rd_nil, Fr.ofList, Nat.reduceEqDiff, Nat.reduceAdd, reduceIte, reduceCtorEq, List.length_cons, List.length_nil, List.append_nil, Nat.zero_add, St.bump, List.size_toArray]
  refine FnW_call rfl (by kernel_rfl) (by kernel_rfl) (by kernel_rfl) (w_byte _ p bs a m (kindB res) _ ?_ ?_ ?_ hx ha fun σ1 he hr1 => ?_)
  · exact (hf.bump 1).bump 7
  · simp only [St.bump]; omega
  · exact hr
  have he' : ExtR p σ σ1 := (he.of_bump : ExtR p (σ.bump 1) σ1).of_bump
  rcases hres with rfl | rfl | rfl
  · simp only [show kindB 0 = 64 from rfl]
    simp only [↓cw_skip, ↓cw_ret, ↓cw_seq, ↓cw_block, ↓cw_cond, ↓cw_region, ↓then_normal, ↓block_normal, ↓draw_false, ↓ow_nil, ↓ow_cons, ↓ow_consG, ↓contO_eq, ↓op_move, ↓op_assign, ↓op_binOp, ↓op_unOp, ↓op_extract, ↓op_pick, ↓ret_ret, ↓force_DC, ↓force_DO, vW_some, bW_true, ifW_some, setD_some, on1_some, on2_some, biV_eq, exV, pkV, resW, opd, ofConst, leaf, rd_set, rd_nil, binV, intV, unV, isConst, resV, Nat.reduceEqDiff, Nat.reduceAdd, reduceIte, reduceCtorEq, Bool.or_true, List.length_cons, List.length_nil, List.getElem?_cons_zero, List.getElem?_cons_succ, beq_self_eq_true, Nat.zero_add, Bool.not_true, St.bump, wantG, Option.bind, Nat.add_assoc, List.size_toArray, Tryd.f58]
    exact hQ _ (he'.bump _) hr1
  · simp only [show kindB 127 = 127 from rfl]
    simp only [↓cw_ret, ↓cw_seq, ↓cw_block, ↓cw_cond, ↓cw_region, ↓then_normal, ↓then_ret, ↓block_ret, ↓draw_false, ↓ow_nil, ↓ow_cons, ↓ow_consG, ↓contO_eq, ↓op_move, ↓op_assign, ↓op_binOp, ↓op_unOp, ↓op_extract, ↓op_pick, ↓ret_ret, ↓force_DC, ↓force_DO, ↓force_DOs, vW_some, bW_true, bW_false, ifW_some, setD_some, on1_some, on2_some, biV_eq, exV, pkV, resW, opd, ofConst, leaf, rd_set, rd_nil, binV, intV, unV, isConst, resV, Nat.reduceEqDiff, Nat.reduceAdd, reduceIte, reduceCtorEq, Bool.or_true, List.length_cons, List.length_nil, List.getElem?_cons_zero, List.getElem?_cons_succ, Int.reduceBEq, beq_self_eq_true, Nat.zero_add, Bool.not_true, St.bump, wantG, Option.bind, Nat.add_assoc, beqF, List.size_toArray, Tryd.f58]
    exact hQ _ (he'.bump _) hr1
  · simp only [show kindB 126 = 126 from rfl]
    simp only [↓cw_ret, ↓cw_seq, ↓cw_block, ↓cw_cond, ↓cw_region, ↓then_normal, ↓then_ret, ↓block_ret, ↓draw_false, ↓ow_nil, ↓ow_cons, ↓ow_consG, ↓contO_eq, ↓op_move, ↓op_assign, ↓op_binOp, ↓op_unOp, ↓op_extract, ↓op_pick, ↓ret_ret, ↓force_DC, ↓force_DO, vW_some, bW_true, bW_false, ifW_some, setD_some, on1_some, on2_some, biV_eq, exV, pkV, resW, opd, ofConst, leaf, rd_set, rd_nil, binV, intV, unV, isConst, resV, Nat.reduceEqDiff, Nat.reduceAdd, reduceIte, reduceCtorEq, Bool.or_true, List.length_cons, List.length_nil, List.getElem?_cons_zero, List.getElem?_cons_succ, Int.reduceBEq, beq_self_eq_true, Nat.zero_add, Bool.not_true, St.bump, wantG, Option.bind, Nat.add_assoc, List.size_toArray, Tryd.f58]
    exact hQ _ (he'.bump _) hr1

theorem not128_nat (v : Nat) (h : v < 256) : IntKind.wrap .u8 ((BitVec.ofInt IntKind.u8.bits (v : Int) &&& ~~~BitVec.ofInt IntKind.u8.bits 128).toNat : Int) = ((v % 128 : Nat) : Int) := by
  have := List.all_eq_true.1 not128_lt v (List.mem_range.2 h)
  rw [beq_iff_eq] at this
  exact this
theorem shl7_u64 (q : Nat) (h : q * 128 < 18446744073709551616) : fw .u64 ((q : Int) * ((2 ^ min (Int.toNat 7) (IntKind.bits .u64) : Nat) : Int)) = ((q * 128 : Nat) : Int) := by
  have : (2 ^ min (Int.toNat 7) (IntKind.bits .u64) : Nat) = 128 := by decide
  rw [this]
  unfold fw; simp only; rw [if_pos (by omega)]; omega
theorem or_u64 (q b : Nat) (hb : b < 128) (hq : q * 128 + b < 18446744073709551616) : IntKind.wrap .u64 ((BitVec.ofInt IntKind.u64.bits ((q * 128 : Nat) : Int) ||| BitVec.ofInt IntKind.u64.bits (b : Int)).toNat : Int) = ((q * 128 + b : Nat) : Int) := by
  have h1 : (BitVec.ofInt IntKind.u64.bits ((q * 128 : Nat) : Int) ||| BitVec.ofInt IntKind.u64.bits (b : Int)).toNat = q * 128 + b := by
    rw [BitVec.toNat_or, BitVec.ofInt_natCast, BitVec.ofInt_natCast, BitVec.toNat_ofNat, BitVec.toNat_ofNat]
    rw [Nat.mod_eq_of_lt (show q * 128 < 2 ^ IntKind.u64.bits from by show _ < 2 ^ 64; omega), Nat.mod_eq_of_lt (show b < 2 ^ IntKind.u64.bits from by show _ < 2 ^ 64; omega)]
    have := Nat.shiftLeft_add_eq_or_of_lt (i := 7) (b := b) hb q
    rw [Nat.shiftLeft_eq] at this
    exact this.symm
  rw [h1]
  simp [IntKind.wrap, IntKind.signed, IntKind.bits]
  omega
theorem fw_u64_of (v : Nat) (h : v < 18446744073709551616) : fw .u64 (v : Int) = (v : Int) := by unfold fw; simp only; rw [if_pos (by omega)]

/-- A number of one byte, or two. -/
theorem get_app1 (x : Int) (r : List Int) : (u8s (x :: r))[0]? = some (.i .u8 x) := rfl
theorem w_takeU1 (v : Nat) (rest : List Int) (hv : v < 128) (hl : rest.length < 4611686018427387903) : PureW TS 74 [.sl (u8s ((v : Int) :: rest)) 0, .i .i64 32] (.t [.i .u64 v, .i .i64 1, .ne]) := by
  unfold PureW
  refine callW_of ft74 rfl (Nat.le_of_ble_eq_true rfl) ?_
  generalize St.start = σ
  have h78 : PureW TS 78 [.i .i64 32] .ne := by
    unfold PureW
    refine callW_of ft78 rfl (Nat.le_of_ble_eq_true rfl) ?_
    generalize St.start = σ
    simp only [↓cw_skip, ↓cw_ret, ↓cw_seq, ↓cw_cond, ↓cw_region, ↓then_normal, ↓draw_false, ↓ow_nil, ↓ow_cons, ↓ow_consG, ↓contO_eq, ↓op_move, ↓op_assign, ↓op_binOp, ↓op_pick, ↓ret_ret, ↓force_DC, ↓force_DO, vW_some, bW_true, bW_false, ifW_some, setD_some, on2_some, biV_eq, pkV, resW, opd, ofConst, leaf, rd_set, rd_nil, Fr.ofList, binV, intV, isConst, resV, Nat.reduceEqDiff, Nat.reduceAdd, reduceIte, reduceCtorEq, Bool.or_true, List.length_cons, List.length_nil, List.getElem?_cons_zero, List.getElem?_cons_succ, decide_false, Int.reduceLT, Int.reduceGT, beq_self_eq_true, Nat.zero_add, St.bump, wantG, Option.bind, Nat.add_assoc, List.size_toArray, Tryd.f78]
    exact ⟨rfl, rfl⟩
  have hlt : decide ((0 : Int) < ((rest.length + 1 : Nat) : Int)) = true := decide_eq_true (by omega)
  have hv1 : decide ((v : Int) < 128) = true := decide_eq_true (by omega)
  have h79 : PureW TS 79 [.sl (u8s ((v : Int) :: rest)) 0, .i .i64 32] (.t [.i .i64 1, .ne]) := by
    unfold PureW
    refine callW_of ft79 rfl (Nat.le_of_ble_eq_true rfl) ?_
    generalize St.start = σ
    simp only [↓cw_seq, ↓cw_block, ↓cw_region, ↓then_normal, ↓draw_false, ↓ow_nil, ↓ow_cons, ↓contO_eq, ↓op_move, ↓op_assign, ↓op_binOp, ↓op_call, vW_some, pW_some, setD_some, on2_some, biV_eq, arg_blt, opd, opds, ofConst, leaf, pureV, rd_set, rd_nil, Fr.ofList, binV, intV, isConst, bltV, lenV, undF, Nat.reduceEqDiff, Nat.reduceAdd, reduceIte, reduceCtorEq, Bool.or_true, List.length_cons, List.length_nil, Int.reduceEq, Nat.zero_add, St.bump, Nat.add_assoc, List.size_toArray, u8s_len]
    rw [cw_loop]
    simp only [↓cw_skip, ↓cw_ret, ↓cw_seq, ↓cw_block, ↓cw_cond, ↓cw_region, ↓then_normal, ↓then_ret, ↓block_ret, ↓draw_false, ↓ow_nil, ↓ow_cons, ↓contO_eq, ↓op_move, ↓op_assign, ↓op_load, ↓op_binOp, ↓op_indexAddr, ↓ret_ret, ↓force_DC, vW_some, bW_true, bW_false, ifW_some, setD_some, on1_some, on2_some, ldV_eq, biV_eq, resW, opd, ofConst, leaf, rd_set, rd_nil, binV, intV, isConst, idxAddrV, loadV, take?, AV.cells, undF, aggF, infF, resV, Nat.reduceEqDiff, Nat.reduceAdd, Nat.reduceLeDiff, reduceIte, reduceCtorEq, Bool.or_false, Bool.or_true, List.length_cons, List.length_nil, List.getElem?_cons_zero, List.drop_zero, List.take_succ_cons, List.take_zero, Int.reduceBEq, Nat.zero_add, St.bump, Nat.add_assoc, List.size_toArray, hlt, get_app1, show Int.toNat 0 = 0 from rfl, hv1, Int.le_refl, show fw .i64 (32 + 7) = 39 from rfl, show fw .i64 (39 - 1) = 38 from rfl, show fw .i64 (Int.tdiv 38 7) = 5 from rfl, show fw .i64 (0 + 1) = 1 from rfl, Tryd.f79]
    exact ⟨rfl, rfl⟩
  simp only [↓cw_seq, ↓cw_region, ↓then_normal, ↓draw_false, ↓ow_nil, ↓ow_cons, ↓contO_eq, ↓op_move, ↓op_assign, ↓op_call, vW_some, setD_some, callV_some, arg_val, opd, opds, ofConst, leaf, rd_set, rd_nil, Fr.ofList, Nat.reduceEqDiff, Nat.reduceAdd, reduceIte, reduceCtorEq, List.length_cons, List.length_nil, List.append_nil, Nat.zero_add, St.bump, List.size_toArray]
  refine pc78.call rfl h78 ?_
  simp only [↓cw_skip, ↓cw_seq, ↓cw_cond, ↓cw_region, ↓then_normal, ↓draw_false, ↓ow_nil, ↓ow_cons, ↓contO_eq, ↓op_move, ↓op_assign, ↓op_binOp, ↓op_call, ↓force_DC, vW_some, bW_false, ifW_some, setD_some, on2_some, biV_eq, callV_some, arg_val, opd, opds, ofConst, leaf, rd_set, rd_nil, binV, eqV, isConst, ifaceF, Nat.reduceEqDiff, Nat.reduceAdd, reduceIte, reduceCtorEq, Bool.or_true, Bool.and_true, List.length_cons, List.length_nil, List.append_nil, Nat.zero_add, Bool.not_true, St.bump, Nat.add_assoc, List.size_toArray]
  refine pc79.call (by simp [untok, AV.strip, Go.Pv.goods, Go.Pv.good, goods_u8s]) h79 ?_
  simp only [↓cw_skip, ↓cw_seq, ↓cw_block, ↓cw_cond, ↓cw_region, ↓then_normal, ↓draw_false, ↓ow_nil, ↓ow_cons, ↓contO_eq, ↓op_move, ↓op_assign, ↓op_binOp, ↓op_extract, ↓force_DC, vW_some, bW_false, ifW_some, setD_some, on1_some, on2_some, biV_eq, exV, opd, ofConst, leaf, rd_set, rd_nil, binV, intV, eqV, isConst, ifaceF, Nat.reduceEqDiff, Nat.reduceAdd, reduceIte, reduceCtorEq, Bool.or_true, Bool.and_true, List.length_cons, List.length_nil, List.getElem?_cons_zero, List.getElem?_cons_succ, Nat.zero_add, Bool.not_true, St.bump, Nat.add_assoc, List.size_toArray, show fw .i64 (1 - 1) = 0 from rfl]
  rw [cw_loop]
  have hs := shl7_u64 0 (by decide)
  have ho := or_u64 0 v hv (by omega)
  simp only [Nat.zero_mul, Nat.zero_add, Int.natCast_zero] at hs ho
  simp only [↓cw_skip, ↓cw_seq, ↓cw_block, ↓cw_cond, ↓cw_region, ↓then_normal, ↓block_normal, ↓draw_false, ↓ow_nil, ↓ow_cons, ↓contO_eq, ↓op_move, ↓op_assign, ↓op_load, ↓op_binOp, ↓op_convert, ↓op_indexAddr, ↓force_DC, vW_some, bW_true, ifW_some, setD_some, on1_some, on2_some, ldV_eq, biV_eq, opd, ofConst, leaf, rd_set, rd_nil, binV, intV, shiftV, convV, isConst, idxAddrV, loadV, take?, AV.cells, undF, aggF, infF, Nat.reduceEqDiff, Nat.reduceAdd, Nat.reduceLeDiff, reduceIte, reduceCtorEq, Bool.or_false, Bool.or_true, List.length_cons, List.length_nil, List.getElem?_cons_zero, List.drop_zero, List.take_succ_cons, List.take_zero, decide_true, Int.reduceLT, Nat.zero_add, St.bump, Nat.add_assoc, List.size_toArray, show Int.toNat 0 = 0 from rfl, Int.le_refl, get_app1, hs, not128_nat v (by omega), Nat.mod_eq_of_lt hv, fw_u64_of v (by omega), ho, show fw .i64 (0 - 1) = -1 from rfl]
  rw [cw_loop]
  simp only [↓cw_skip, ↓cw_ret, ↓cw_exit, ↓cw_seq, ↓cw_cond, ↓cw_region, ↓then_normal, ↓then_exit, ↓draw_false, ↓ow_nil, ↓ow_cons, ↓ow_consG, ↓contO_eq, ↓op_move, ↓op_assign, ↓op_binOp, ↓op_pick, ↓ret_ret, ↓force_DC, ↓force_DQ, ↓force_DOs, block_exit, vW_some, bW_true, bW_false, ifW_some, setD_some, on2_some, biV_eq, pkV, resW, nbeq, opd, ofConst, leaf, rd_set, rd_nil, binV, intV, isConst, resV, Nat.reduceEqDiff, Nat.reduceAdd, reduceIte, reduceCtorEq, Bool.or_false, Bool.or_true, List.length_cons, List.length_nil, List.getElem?_cons_zero, List.getElem?_cons_succ, decide_false, Int.reduceLT, Int.reduceGE, beq_self_eq_true, Nat.zero_add, St.bump, wantG, Option.bind, Nat.add_assoc, beqT, List.size_toArray, show fw .i64 (1 - 1) = 0 from rfl, show fw .i64 (7 * 0) = 0 from rfl, show fw .i64 (32 - 0) = 32 from rfl, Tryd.f74]
  exact ⟨rfl, rfl⟩
end Go.Pv

namespace Go.Pv
open Go Go.Proofs Go.RowKit
set_option linter.unusedVariables false
set_option linter.unusedSimpArgs false
set_option maxRecDepth 100000

theorem get_app2 (x y : Int) (r : List Int) : (u8s (x :: y :: r))[1]? = some (.i .u8 y) := rfl
theorem w_check64 : PureW TS 78 [.i .i64 32] .ne := by
  unfold PureW
  refine callW_of ft78 rfl (Nat.le_of_ble_eq_true rfl) ?_
  generalize St.start = σ
  simp only [↓cw_skip, ↓cw_ret, ↓cw_seq, ↓cw_cond, ↓cw_region, ↓then_normal, ↓draw_false, ↓ow_nil, ↓ow_cons, ↓ow_consG, ↓contO_eq, ↓op_move, ↓op_assign, ↓op_binOp, ↓op_pick, ↓ret_ret, ↓force_DC, ↓force_DO, vW_some, bW_true, bW_false, ifW_some, setD_some, on2_some, biV_eq, pkV, resW, opd, ofConst, leaf, rd_set, rd_nil, Fr.ofList, binV, intV, isConst, resV, Nat.reduceEqDiff, Nat.reduceAdd, reduceIte, reduceCtorEq, Bool.or_true, List.length_cons, List.length_nil, List.getElem?_cons_zero, List.getElem?_cons_succ, decide_false, Int.reduceLT, Int.reduceGT, beq_self_eq_true, Nat.zero_add, St.bump, wantG, Option.bind, Nat.add_assoc, List.size_toArray, Tryd.f78]
  exact ⟨rfl, rfl⟩

theorem w_takeU2 (v : Nat) (rest : List Int) (hv : 128 ≤ v) (hv2 : v < 16384) (hl : rest.length < 4611686018427387902) : PureW TS 74 [.sl (u8s (((v % 128 + 128 : Nat) : Int) :: ((v / 128 : Nat) : Int) :: rest)) 0, .i .i64 32] (.t [.i .u64 v, .i .i64 2, .ne]) := by
  unfold PureW
  refine callW_of ft74 rfl (Nat.le_of_ble_eq_true rfl) ?_
  generalize St.start = σ
  have hlt : decide ((0 : Int) < ((rest.length + (1 + 1) : Nat) : Int)) = true := decide_eq_true (by omega)
  have hlt1 : decide ((1 : Int) < ((rest.length + (1 + 1) : Nat) : Int)) = true := decide_eq_true (by omega)
  have hv1 : decide (((v % 128 + 128 : Nat) : Int) < 128) = false := decide_eq_false (by omega)
  have hv2' : decide (((v / 128 : Nat) : Int) < 128) = true := decide_eq_true (by omega)
  have h79 : PureW TS 79 [.sl (u8s (((v % 128 + 128 : Nat) : Int) :: ((v / 128 : Nat) : Int) :: rest)) 0, .i .i64 32] (.t [.i .i64 2, .ne]) := by
    unfold PureW
    refine callW_of ft79 rfl (Nat.le_of_ble_eq_true rfl) ?_
    generalize St.start = σ
    simp only [↓cw_seq, ↓cw_block, ↓cw_region, ↓then_normal, ↓draw_false, ↓ow_nil, ↓ow_cons, ↓contO_eq, ↓op_move, ↓op_assign, ↓op_binOp, ↓op_call, vW_some, pW_some, setD_some, on2_some, biV_eq, arg_blt, opd, opds, ofConst, leaf, pureV, rd_set, rd_nil, Fr.ofList, binV, intV, isConst, bltV, lenV, undF, Nat.reduceEqDiff, Nat.reduceAdd, reduceIte, reduceCtorEq, Bool.or_true, List.length_cons, List.length_nil, Int.reduceEq, Nat.zero_add, St.bump, Nat.add_assoc, List.size_toArray, u8s_len]
    simp only [Nat.reduceAdd] at hlt hlt1
    rw [cw_loop]
    simp only [↓cw_skip, ↓cw_seq, ↓cw_block, ↓cw_cond, ↓cw_region, ↓then_normal, ↓block_normal, ↓draw_false, ↓ow_nil, ↓ow_cons, ↓contO_eq, ↓op_move, ↓op_assign, ↓op_load, ↓op_binOp, ↓op_indexAddr, ↓force_DC, vW_some, bW_true, bW_false, ifW_some, setD_some, on1_some, on2_some, ldV_eq, biV_eq, opd, ofConst, leaf, rd_set, rd_nil, binV, intV, isConst, idxAddrV, loadV, take?, AV.cells, undF, aggF, infF, Nat.reduceEqDiff, Nat.reduceAdd, Nat.reduceLeDiff, reduceIte, reduceCtorEq, Bool.or_false, Bool.or_true, List.length_cons, List.length_nil, List.getElem?_cons_zero, List.drop_zero, List.take_succ_cons, List.take_zero, Int.reduceBEq, Nat.zero_add, St.bump, Nat.add_assoc, List.size_toArray, hlt, get_app1, show Int.toNat 0 = 0 from rfl, hv1, Int.le_refl, show fw .i64 (32 + 7) = 39 from rfl, show fw .i64 (39 - 1) = 38 from rfl, show fw .i64 (Int.tdiv 38 7) = 5 from rfl, show fw .i64 (0 + 1) = 1 from rfl]
    rw [cw_loop]
    simp only [↓cw_skip, ↓cw_ret, ↓cw_seq, ↓cw_block, ↓cw_cond, ↓cw_region, ↓then_normal, ↓then_ret, ↓block_ret, ↓draw_false, ↓ow_nil, ↓ow_cons, ↓contO_eq, ↓op_move, ↓op_assign, ↓op_load, ↓op_binOp, ↓op_indexAddr, ↓ret_ret, ↓force_DC, vW_some, bW_true, bW_false, ifW_some, setD_some, on1_some, on2_some, ldV_eq, biV_eq, resW, opd, ofConst, leaf, rd_set, rd_nil, binV, intV, isConst, idxAddrV, loadV, take?, AV.cells, undF, aggF, infF, resV, Nat.reduceEqDiff, Nat.reduceAdd, Nat.reduceLeDiff, reduceIte, reduceCtorEq, Bool.or_false, Bool.or_true, List.length_cons, List.length_nil, List.getElem?_cons_zero, List.drop_zero, List.take_succ_cons, List.take_zero, Int.reduceLE, Int.reduceBEq, Nat.zero_add, St.bump, Nat.add_assoc, List.size_toArray, hlt1, get_app2, show Int.toNat 1 = 1 from rfl, hv2', show fw .i64 (1 + 1) = 2 from rfl, Tryd.f79]
    exact ⟨rfl, rfl⟩
  simp only [↓cw_seq, ↓cw_region, ↓then_normal, ↓draw_false, ↓ow_nil, ↓ow_cons, ↓contO_eq, ↓op_move, ↓op_assign, ↓op_call, vW_some, setD_some, callV_some, arg_val, opd, opds, ofConst, leaf, rd_set, rd_nil, Fr.ofList, Nat.reduceEqDiff, Nat.reduceAdd, reduceIte, reduceCtorEq, List.length_cons, List.length_nil, List.append_nil, Nat.zero_add, St.bump, List.size_toArray]
  refine pc78.call rfl w_check64 ?_
  simp only [↓cw_skip, ↓cw_seq, ↓cw_cond, ↓cw_region, ↓then_normal, ↓draw_false, ↓ow_nil, ↓ow_cons, ↓contO_eq, ↓op_move, ↓op_assign, ↓op_binOp, ↓op_call, ↓force_DC, vW_some, bW_false, ifW_some, setD_some, on2_some, biV_eq, callV_some, arg_val, opd, opds, ofConst, leaf, rd_set, rd_nil, binV, eqV, isConst, ifaceF, Nat.reduceEqDiff, Nat.reduceAdd, reduceIte, reduceCtorEq, Bool.or_true, Bool.and_true, List.length_cons, List.length_nil, List.append_nil, Nat.zero_add, Bool.not_true, St.bump, Nat.add_assoc, List.size_toArray]
  refine pc79.call (by simp [untok, AV.strip, Go.Pv.goods, Go.Pv.good, goods_u8s]) h79 ?_
  simp only [↓cw_skip, ↓cw_seq, ↓cw_block, ↓cw_cond, ↓cw_region, ↓then_normal, ↓draw_false, ↓ow_nil, ↓ow_cons, ↓contO_eq, ↓op_move, ↓op_assign, ↓op_binOp, ↓op_extract, ↓force_DC, vW_some, bW_false, ifW_some, setD_some, on1_some, on2_some, biV_eq, exV, opd, ofConst, leaf, rd_set, rd_nil, binV, intV, eqV, isConst, ifaceF, Nat.reduceEqDiff, Nat.reduceAdd, reduceIte, reduceCtorEq, Bool.or_true, Bool.and_true, List.length_cons, List.length_nil, List.getElem?_cons_zero, List.getElem?_cons_succ, Nat.zero_add, Bool.not_true, St.bump, Nat.add_assoc, List.size_toArray, show fw .i64 (2 - 1) = 1 from rfl]
  rw [cw_loop]
  have hs := shl7_u64 0 (by decide)
  have ho := or_u64 0 (v / 128) (by omega) (by omega)
  have hs' := shl7_u64 (v / 128) (by omega)
  have ho' := or_u64 (v / 128) (v % 128) (by omega) (by omega)
  have hvv : v / 128 * 128 + v % 128 = v := by omega
  rw [hvv] at ho'
  simp only [Nat.zero_mul, Nat.zero_add, Int.natCast_zero] at hs ho
  have hm1 := not128_nat (v % 128 + 128) (by omega)
  rw [show (v % 128 + 128) % 128 = v % 128 from by omega] at hm1
  have hm2 := not128_nat (v / 128) (by omega)
  rw [show v / 128 % 128 = v / 128 from by omega] at hm2
  simp only [↓cw_skip, ↓cw_seq, ↓cw_block, ↓cw_cond, ↓cw_region, ↓then_normal, ↓block_normal, ↓draw_false, ↓ow_nil, ↓ow_cons, ↓contO_eq, ↓op_move, ↓op_assign, ↓op_load, ↓op_binOp, ↓op_convert, ↓op_indexAddr, ↓force_DC, vW_some, bW_true, ifW_some, setD_some, on1_some, on2_some, ldV_eq, biV_eq, opd, ofConst, leaf, rd_set, rd_nil, binV, intV, shiftV, convV, isConst, idxAddrV, loadV, take?, AV.cells, undF, aggF, infF, Nat.reduceEqDiff, Nat.reduceAdd, Nat.reduceLeDiff, reduceIte, reduceCtorEq, Bool.or_false, Bool.or_true, List.length_cons, List.length_nil, List.getElem?_cons_zero, List.drop_zero, List.take_succ_cons, List.take_zero, decide_true, Int.reduceLE, Int.reduceLT, Int.reduceGE, Nat.zero_add, St.bump, Nat.add_assoc, List.size_toArray, show Int.toNat 1 = 1 from rfl, get_app2, hs, hm2, fw_u64_of (v / 128) (by omega), ho, show fw .i64 (1 - 1) = 0 from rfl]
  rw [cw_loop]
  simp only [↓cw_skip, ↓cw_seq, ↓cw_block, ↓cw_cond, ↓cw_region, ↓then_normal, ↓block_normal, ↓draw_false, ↓ow_nil, ↓ow_cons, ↓contO_eq, ↓op_move, ↓op_assign, ↓op_load, ↓op_binOp, ↓op_convert, ↓op_indexAddr, ↓force_DC, vW_some, bW_true, ifW_some, setD_some, on1_some, on2_some, ldV_eq, biV_eq, opd, ofConst, leaf, rd_set, rd_nil, binV, intV, shiftV, convV, isConst, idxAddrV, loadV, take?, AV.cells, undF, aggF, infF, Nat.reduceEqDiff, Nat.reduceAdd, Nat.reduceLeDiff, reduceIte, reduceCtorEq, Bool.or_false, Bool.or_true, List.length_cons, List.length_nil, List.getElem?_cons_zero, List.drop_zero, List.take_succ_cons, List.take_zero, decide_true, Int.reduceLT, Nat.zero_add, St.bump, Nat.add_assoc, List.size_toArray, show Int.toNat 0 = 0 from rfl, Int.le_refl, get_app1, hs', hm1, fw_u64_of (v % 128) (by omega), ho', show fw .i64 (0 - 1) = -1 from rfl]
  rw [cw_loop]
  simp only [↓cw_skip, ↓cw_ret, ↓cw_exit, ↓cw_seq, ↓cw_cond, ↓cw_region, ↓then_normal, ↓then_exit, ↓draw_false, ↓ow_nil, ↓ow_cons, ↓ow_consG, ↓contO_eq, ↓op_move, ↓op_assign, ↓op_binOp, ↓op_pick, ↓ret_ret, ↓force_DC, ↓force_DQ, ↓force_DOs, block_exit, vW_some, bW_true, bW_false, ifW_some, setD_some, on2_some, biV_eq, pkV, resW, nbeq, opd, ofConst, leaf, rd_set, rd_nil, binV, intV, isConst, resV, Nat.reduceEqDiff, Nat.reduceAdd, reduceIte, reduceCtorEq, Bool.or_false, Bool.or_true, List.length_cons, List.length_nil, List.getElem?_cons_zero, List.getElem?_cons_succ, decide_false, Int.reduceLT, Int.reduceGE, beq_self_eq_true, Nat.zero_add, St.bump, wantG, Option.bind, Nat.add_assoc, beqT, List.size_toArray, show fw .i64 (2 - 1) = 1 from rfl, show fw .i64 (7 * 1) = 7 from rfl, show fw .i64 (32 - 7) = 25 from rfl, Tryd.f74]
  exact ⟨rfl, rfl⟩

theorem w_takeU (v : Nat) (rest : List Int) (hv2 : v < 16384) (hl : rest.length < 4611686018427387902) : PureW TS 74 [.sl (u8s (encU v ++ rest)) 0, .i .i64 32] (.t [.i .u64 v, .i .i64 (encU v).length, .ne]) := by
  by_cases h : v < 128
  · rw [encU_lt h]
    exact w_takeU1 v rest h (by omega)
  · rw [encU_ge h, encU_lt (show v / 128 < 128 by omega)]
    exact w_takeU2 v rest (by omega) hv2 hl

theorem drop_u8s (l : List Int) (n : Nat) : (u8s l).drop n = u8s (l.drop n) := by simp [u8s]
theorem head8 (l : List Int) : (headSize 1 (u8s l) = true) = True := by simp [head_u8s]

theorem w_whole (σ : St) (p : Nat) (bs rest : List Int) (a m v : Nat) (Q : AV → St → Prop) (hf : Fresh σ) (hp : p < σ.nb) (hr : RS σ p bs a m) (hv : v < 16384) (hx : bs.drop a = encU v ++ rest) (hb : bs.length < 1152921504606846976)
    (hQ : ∀ σ', ExtR p σ σ' → RS σ' p bs (a + (encU v).length) m → Q (.i .u32 v) σ') : CallW TS 55 [.p p 0] σ Q := by
  unfold RS at hr
  have hlen : (encU v).length + rest.length = bs.length - a := by rw [← List.length_append, ← hx, List.length_drop]
  have hal : a < bs.length := by have := encU_pos v; omega
  have h0 : (0 : Int) ≤ a := by omega
  have hle : (a : Int) ≤ bs.length := by omega
  have htk : List.take (bs.length - a) (u8s (bs.drop a)) = u8s (encU v ++ rest) := by
    rw [hx, List.take_of_length_le (by rw [u8s_len, List.length_append]; omega)]
  refine callW_of ft55 rfl (Nat.le_of_ble_eq_true rfl) ?_
  simp only [↓cw_skip, ↓cw_seq, ↓cw_cond, ↓cw_region, ↓then_normal, ↓draw_false, ↓ow_nil, ↓ow_cons, ↓contO_eq, ↓op_move, ↓op_assign, ↓op_load, ↓op_nilCheck, ↓op_binOp, ↓op_slice, ↓op_fieldAddr, ↓op_call, ↓force_DC, vW_some, bW_false, ifW_some, setD_some, on1_some, on2_some, ldV_eq, nilV, biV_eq, slV, faV_eq, callV_some, arg_val, opd, opds, optOpd, ofConst, leaf, rd_set, rd_nil, Fr.ofList, binV, eqV, isConst, loadV, fieldAddrV, take?, hiB, loB, boundV, sliceV, undF, aggF, infF, ifaceF, Nat.reduceEqDiff, Nat.reduceAdd, Nat.reduceLeDiff, reduceIte, reduceCtorEq, Bool.or_true, Bool.and_true, List.length_cons, List.length_nil, List.getElem?_cons_zero, List.getElem?_cons_succ, List.append_nil, List.drop_succ_cons, List.drop_zero, List.take_succ_cons, List.take_zero, Nat.add_zero, Nat.zero_add, and_self, Bool.not_true, St.bump, Nat.add_assoc, Int.toNat_natCast, List.size_toArray, hr, u8s_len, h0, hle, drop_u8s, head8, htk]
  refine pc74.call (by simp [untok, AV.strip, Go.Pv.goods, Go.Pv.good, goods_u8s]) (w_takeU v rest hv (by omega)) ?_
  have hfv : fw .u32 (v : Int) = (v : Int) := by unfold fw; simp only; rw [if_pos (by omega)]
  have hfa : fw .i64 ((a : Int) + ((encU v).length : Int)) = ((a + (encU v).length : Nat) : Int) := by unfold fw; simp only; rw [if_pos (by omega)]; omega
  simp only [↓cw_skip, ↓cw_ret, ↓cw_seq, ↓cw_cond, ↓cw_region, ↓then_normal, ↓draw_false, ↓draw_true, ↓ow_nil, ↓ow_cons, ↓contO_eq, ↓op_move, ↓op_assign, ↓op_load, ↓op_store, ↓op_nilCheck, ↓op_binOp, ↓op_convert, ↓op_fieldAddr, ↓op_extract, ↓ret_ret, ↓force_DC, ↓force_DQ, vW_some, pW_some, bW_false, ifW_some, setD_some, setD_none, on1_some, on2_some, ldV_eq, stV, nilV, biV_eq, faV_eq, exV, resW, opd, ofConst, leaf, rd_set, rd_nil, binV, intV, eqV, convV, isConst, loadV, fieldAddrV, take?, put, flat, AV.cells, hasStore, isStore, undF, aggF, infF, ifaceF, resV, Nat.reduceEqDiff, Nat.reduceAdd, Nat.reduceLeDiff, reduceIte, reduceCtorEq, Bool.or_false, Bool.or_true, Bool.and_true, List.any, List.length_cons, List.length_nil, List.getElem?_cons_zero, List.getElem?_cons_succ, List.drop_succ_cons, List.drop_zero, List.take_succ_cons, List.take_zero, List.set_cons_zero, List.set_cons_succ, Nat.zero_add, and_self, Bool.not_true, St.bump, storeV, Nat.add_assoc, List.size_toArray, hr, hfv, hfa, Tryd.f55]
  refine hQ _ ⟨by simp only; omega, ?_, fun l hl hne => ?_, fun k hk => rfl⟩ ?_
  · first | exact Fresh.of (by repeat (first | exact (Fresh.freeH hf (by omega)) | refine FreeH.set ?_ (by omega))) (by repeat (first | exact (Fresh.freeT hf (by omega)) | refine FreeT.set ?_ (by omega) | refine FreeT.via (by assumption) ?_ (by omega)))
  · simp only [Tr.get_set]; rw [if_neg hne]
  · simp only [RS, Tr.get_set, if_true]
end Go.Pv

namespace Go.Pv
open Go Go.Proofs Go.RowKit
set_option linter.unusedVariables false
set_option linter.unusedSimpArgs false
set_option maxRecDepth 100000

/-- A row that may be appended to. -/
def TokG (σ : St) (es : List AV) (κ sz : Nat) : Prop := (κ = 1 ∧ es = []) ∨ (2 ≤ κ ∧ Tr.get σ.tk κ = some sz)
theorem TokG.keep {σ σ' : St} {es : List AV} {κ sz : Nat} (h : TokG σ es κ sz) (e : Tr.get σ'.tk κ = Tr.get σ.tk κ) : TokG σ' es κ sz := by
  rcases h with h | ⟨h1, h2⟩
  · exact .inl h
  · exact .inr ⟨h1, by rw [e]; exact h2⟩
theorem app_gen {t e : TypeId} {ti : TI} {ag : Bool} {h : Tr (List AV)} {tk : Tr Nat} {nb j : Nat} {es : List AV} {κ kk : Nat} {y : AV} {Q : AV → St → Prop}
    (hu : TS.und t = some (.slice e)) (hi : TS.inf e = some ti) (ha : TS.isAgg e = some ag) (hk : TokG ⟨h, tk, nb⟩ es κ ti.size) (hs : ti.size ≠ 0) (hb : ti.bytes ≠ 0) (hy : allSize ti.size [y] = true) (he : headSize ti.size es = true)
    (hl : (2 * (es.length + 1) + 192) * ti.bytes ≤ 140737488355328) (hfree : tokFree j ⟨h, tk, nb⟩ = true)
    (q : ∀ X, (∀ n, FreeT tk n → κ < n + 2 → FreeT X n) → (∀ k, k ≠ κ ∨ κ = 1 → Tr.get X k = Tr.get tk k) → Q (.sl (es ++ [AV.strip y]) (nb + j + 2)) ⟨h, Tr.set X (nb + j + 2) ti.size, nb⟩) :
    pW (appV TS j t (.sl es κ) (.sl [y] kk) ⟨h, tk, nb⟩) Q := by
  unfold appV
  simp only [hu, hi, ha, elemsV]
  rw [if_pos ⟨hs, hb, hy, he, by simpa using hl, hfree⟩]
  rcases hk with ⟨rfl, rfl⟩ | ⟨h2, hk⟩
  · simp only
    rw [show ([] ++ List.map AV.strip [y] : List AV) = [] ++ [AV.strip y] from rfl, pW_some]
    exact q tk (fun n hn _ => hn) (fun _ _ => rfl)
  · obtain ⟨k, rfl⟩ : ∃ k, κ = k + 2 := ⟨κ - 2, by omega⟩
    simp only at hk
    simp only [hk, if_true]
    rw [show (es ++ List.map AV.strip [y] : List AV) = es ++ [AV.strip y] from rfl]
    simp only [newTok, pW_some]
    exact q _ (fun n hn hl => hn.set hl) (fun k' hk' => by rw [Tr.get_set, if_neg (by omega)])

theorem ExtR.from {p : Nat} {σ τ σ1 : St} (h : ExtR p τ σ1) (hn : σ.nb ≤ τ.nb) (hh : ∀ l, l < σ.nb → l ≠ p → Tr.get τ.h l = Tr.get σ.h l) (ht : ∀ k, k < σ.nb + 2 → Tr.get τ.tk k = Tr.get σ.tk k) : ExtR p σ σ1 :=
  ⟨Nat.le_trans hn h.nb, h.fresh, fun l hl hne => by rw [h.h l (by omega) hne, hh l hl hne], fun k hk => by rw [h.tk k (by omega), ht k hk]⟩
theorem u40 : TS.und 40 = some (.slice 38) := by simp only [undF]
theorem i38 : TS.inf 38 = some ⟨1, 4, [.i .u32 0]⟩ := by simp only [infF]
theorem a38 : TS.isAgg 38 = some false := by simp only [aggF]
theorem u32s_snoc (a : List Int) (x : Int) : u32s a ++ [.i .u32 x] = u32s (a ++ [x]) := by simp [u32s]
theorem head_u32s (l : List Int) : headSize 1 (u32s l) = true := by cases l <;> rfl

noncomputable def K57 : Code := cl (cr (cl (cr (cr (cr (cr (cr (fb Tryd.f57))))))))
theorem loop57 (ls : List Int) (p : Nat) (bs rest : List Int) (m : Nat) (σ0 : St) (Q : Ex → Fr → St → Prop) (h1 : 1 ≤ ls.length) (h2 : ls.length ≤ 257) (hls : ∀ x ∈ ls, 0 ≤ x ∧ x < 16384) (hp : p < σ0.nb) (hb : bs.length < 1152921504606846976) :
    ∀ (rs : List Int) i a κ fr σ, ls.drop i = rs → i ≤ ls.length → ExtR p σ0 σ → RS σ p bs a m → bs.drop a = rs.flatMap (fun x => encU x.toNat) ++ rest → TokG σ (u32s (ls.take i)) κ 1 → κ < σ.nb + 2 → (κ = 1 ∨ σ0.nb + 2 ≤ κ) →
      fr.rd 0 = .p p 0 → fr.rd 4 = .i .u32 ((ls.length - 1 : Nat) : Int) → fr.rd 5 = .sl (u32s (ls.take i)) κ → fr.rd 6 = .i .u32 (i : Int) →
      (∀ κ' fr' σ', ExtR p σ0 σ' → RS σ' p bs (a + (rs.flatMap (fun x => encU x.toNat)).length) m → fr'.rd 5 = .sl (u32s ls) κ' → Q (.exit 0) fr' σ') → CodeW TS K57 fr σ Q := by
  intro rs
  induction rs with
  | nil =>
    intro i a κ fr σ hd hil he hr hx hk hkn hκ r0 r4 r5 r6 hQ
    have h1' := drop_nil hd
    have hi : i = ls.length := by omega
    have hlt : decide ((i : Int) ≤ ((ls.length - 1 : Nat) : Int)) = false := decide_eq_false (by omega)
    simp only [K57, fb, Tryd.f57, cl, cr, Option.getD]
    rw [cw_loop]
    simp only [↓cw_exit, ↓cw_seq, ↓cw_cond, ↓cw_region, ↓then_normal, ↓then_exit, ↓draw_false, ↓ow_nil, ↓ow_cons, ↓ow_consG, ↓contO_eq, ↓op_move, ↓op_binOp, ↓op_pick, ↓force_DC, ↓force_DOs, vW_some, bW_false, ifW_some, setD_some, on2_some, biV_eq, pkV, opd, ofConst, leaf, rd_set, binV, intV, isConst, Nat.reduceEqDiff, Nat.reduceAdd, reduceIte, Bool.or_false, List.length_cons, List.length_nil, List.getElem?_cons_zero, List.getElem?_cons_succ, Nat.zero_add, St.bump, wantG, Option.bind, beqT, List.size_toArray, r4, r6, hlt]
    refine hQ κ _ _ (he.bump _) ?_ ?_
    · simpa [RS] using hr
    · simp only [rd_set, Nat.reduceEqDiff, reduceIte, r5]
      rw [hi, List.take_length]
  | cons x rs ih =>
    intro i a κ fr σ hd hil he hr hx hk hkn hκ r0 r4 r5 r6 hQ
    obtain ⟨h1', h2', h3⟩ := drop_cons hd
    have hf := he.fresh
    have hxx := hls x (List.mem_of_getElem? h1')
    have hlt : decide ((i : Int) ≤ ((ls.length - 1 : Nat) : Int)) = true := decide_eq_true (by omega)
    have hr' := hr
    unfold RS at hr'
    simp only [K57, fb, Tryd.f57, cl, cr, Option.getD]
    rw [cw_loop]
    simp only [↓cw_skip, ↓cw_seq, ↓cw_block, ↓cw_cond, ↓cw_region, ↓then_normal, ↓draw_false, ↓ow_nil, ↓ow_cons, ↓ow_consG, ↓contO_eq, ↓op_move, ↓op_load, ↓op_nilCheck, ↓op_binOp, ↓op_fieldAddr, ↓op_pick, ↓op_call, ↓force_DC, ↓force_DO, vW_some, bW_true, ifW_some, setD_some, on1_some, on2_some, ldV_eq, nilV, biV_eq, faV_eq, pkV, callV_some, arg_val, opd, opds, ofConst, leaf, rd_set, binV, intV, eqV, isConst, loadV, fieldAddrV, take?, undF, aggF, infF, ifaceF, Nat.reduceEqDiff, Nat.reduceAdd, Nat.reduceLeDiff, reduceIte, reduceCtorEq, Bool.or_false, Bool.or_true, Bool.and_true, List.length_cons, List.length_nil, List.getElem?_cons_zero, List.getElem?_cons_succ, List.append_nil, List.drop_succ_cons, List.drop_zero, List.take_succ_cons, List.take_zero, beq_self_eq_true, Nat.zero_add, St.bump, wantG, Option.bind, List.size_toArray, r0, r4, r5, r6, hlt, hr']
    refine FnW_call rfl (by kernel_rfl) (by kernel_rfl) (by kernel_rfl) (w_whole _ p bs (rs.flatMap (fun x => encU x.toNat) ++ rest) a m x.toNat _ ?_ ?_ ?_ (by omega) ?_ hb fun σ1 he1 hr1 => ?_)
    · simp only [St.bump]; first | exact Fresh.of (by repeat (first | exact (Fresh.freeH hf (by omega)) | refine FreeH.set ?_ (by omega))) (by repeat (first | exact (Fresh.freeT hf (by omega)) | refine FreeT.set ?_ (by omega) | refine FreeT.via (by assumption) ?_ (by omega)))
    · have := he.nb; simp only [St.bump]; omega
    · exact hr
    · rw [hx]; simp
    have he1' : ExtR p σ σ1 := he1.from (by simp only [St.bump]; omega) (fun _ _ _ => rfl) (fun _ _ => rfl)
    have hf1 := he1.fresh
    have hnb1 : σ.nb + 16 ≤ σ1.nb := by have := he1.nb; simp only [St.bump] at this; omega
    have hxn : ((x.toNat : Nat) : Int) = x := by omega
    have htk1 : Tr.get σ1.tk κ = Tr.get σ.tk κ := he1'.tk κ hkn
    simp only [↓ow_cons, ↓contO_eq, ↓op_buildSlice, ↓op_call, pW_some, setD_some, bldS, arg_blt, opd, opds, rd_set, bltV, fillV, parts, put, flat, AV.cells, AV.strip, undF, aggF, infF, Nat.reduceEqDiff, Nat.reduceAdd, Nat.reduceMul, Nat.reduceLeDiff, ne_eq, not_false_eq_true, reduceIte, reduceCtorEq, List.length_cons, List.length_nil, List.append_nil, List.take_succ_cons, List.take_zero, List.set_cons_zero, List.map_cons, List.map_nil, Nat.zero_add, and_self, newTok, Nat.add_assoc, or_true, List.headD_cons, tokFree, buildSliceV, repeatCells, chunk, hf1.tb, hxn]
    refine app_gen (es := u32s (ls.take i)) u40 i38 a38 ?_ (by decide) (by decide) rfl (head_u32s _) ?_ ?_ fun X hX hX2 => ?_
    · refine TokG.keep (σ := σ) hk ?_
      simp only [Tr.get_set]
      rw [if_neg (by omega), htk1]
    · simp only [u32s_len, List.length_take]; omega
    · exact tokFree_of (by repeat (first | exact (Fresh.freeT hf1 (by omega)) | refine FreeT.set ?_ (by omega) | refine FreeT.via (by assumption) ?_ (by omega)))
    have hfi : fw .u32 ((i : Int) + 1) = ((i + 1 : Nat) : Int) := by unfold fw; simp only; rw [if_pos (by omega)]; rfl
    have hts : ls.take i ++ [x] = ls.take (i + 1) := by rw [List.take_add_one, h1']; rfl
    simp only [↓cw_region, ↓then_normal, ↓block_normal, ↓draw_false, ↓ow_nil, ↓ow_cons, ↓contO_eq, ↓op_move, ↓op_assign, ↓op_binOp, vW_some, setD_some, on2_some, biV_eq, opd, ofConst, leaf, rd_set, binV, intV, isConst, AV.strip, Nat.reduceEqDiff, Nat.reduceAdd, reduceIte, Bool.or_true, List.length_cons, List.length_nil, Nat.zero_add, St.bump, Nat.add_assoc, List.size_toArray, r6, hfi]
    simp only [List.flatMap_cons, List.length_append] at hQ
    refine ih (i + 1) (a + (encU x.toNat).length) (σ1.nb + 6) _ _ h2' (Nat.succ_le_of_lt h3) ?_ ?_ ?_ ?_ ?_ ?_ ?_ ?_ ?_ ?_ ?_
    · have hnb := he.nb
      refine ⟨by simp only; omega, ?_, fun l hl hne => ?_, fun k hk => ?_⟩
      · first | exact Fresh.of (by repeat (first | exact (Fresh.freeH hf1 (by omega)) | refine FreeH.set ?_ (by omega))) (by repeat (first | exact (Fresh.freeT hf1 (by omega)) | refine FreeT.set ?_ (by omega) | refine FreeT.via (by assumption) ?_ (by omega)))
      · show Tr.get σ1.h l = _
        rw [he1'.h l (by omega) hne, he.h l hl hne]
      · simp only [Tr.get_set]
        rw [if_neg (by omega), hX2 k (by omega), Tr.get_set, if_neg (by omega), he1'.tk k (by omega), he.tk k hk]
    · exact hr1
    · rw [← List.drop_drop, hx]; simp
    · exact .inr ⟨by omega, by simp [Tr.get_set]⟩
    · simp only; omega
    · have hnb := he.nb; exact .inr (by omega)
    · simp only [rd_set, reduceIte, reduceCtorEq, r0]
    · simp only [rd_set, Nat.reduceEqDiff, reduceIte, r4]
    · simp only [rd_set, Nat.reduceEqDiff, reduceIte, r5]
      rw [← hts, ← u32s_snoc]
    · simp only [rd_set, Nat.reduceEqDiff, reduceIte, r6]
    · rw [← Nat.add_assoc] at hQ
      exact hQ

theorem w_labels (σ : St) (p : Nat) (bs rest : List Int) (a m : Nat) (ls : List Int) (Q : AV → St → Prop) (hf : Fresh σ) (hp : p < σ.nb) (hr : RS σ p bs a m) (h1 : 1 ≤ ls.length) (h2 : ls.length ≤ 257) (hls : ∀ x ∈ ls, 0 ≤ x ∧ x < 16384)
    (hx : bs.drop a = encU (ls.length - 1) ++ ls.flatMap (fun x => encU x.toNat) ++ rest) (hb : bs.length < 1152921504606846976)
    (hQ : ∀ κ σ', ExtR p σ σ' → RS σ' p bs (a + (encU (ls.length - 1) ++ ls.flatMap (fun x => encU x.toNat)).length) m → Q (.sl (u32s ls) κ) σ') : CallW TS 57 [.p p 0] σ Q := by
  have hr' := hr
  unfold RS at hr'
  refine callW_of ft57 rfl (Nat.le_of_ble_eq_true rfl) ?_
  simp only [↓cw_seq, ↓cw_region, ↓then_normal, ↓draw_false, ↓ow_nil, ↓ow_cons, ↓contO_eq, ↓op_move, ↓op_assign, ↓op_load, ↓op_nilCheck, ↓op_fieldAddr, ↓op_call, vW_some, setD_some, on1_some, ldV_eq, nilV, faV_eq, callV_some, arg_val, opd, opds, ofConst, leaf, rd_set, rd_nil, Fr.ofList, loadV, fieldAddrV, take?, undF, aggF, infF, Nat.reduceEqDiff, Nat.reduceAdd, Nat.reduceLeDiff, reduceIte, reduceCtorEq, List.length_cons, List.length_nil, List.getElem?_cons_zero, List.getElem?_cons_succ, List.append_nil, List.drop_succ_cons, List.drop_zero, List.take_succ_cons, List.take_zero, Nat.zero_add, St.bump, Nat.add_assoc, List.size_toArray, hr']
  refine FnW_call rfl (by kernel_rfl) (by kernel_rfl) (by kernel_rfl) (w_whole _ p bs (ls.flatMap (fun x => encU x.toNat) ++ rest) a m (ls.length - 1) _ ?_ ?_ ?_ (by omega) ?_ hb fun σ1 he1 hr1 => ?_)
  · simp only [St.bump]; first | exact Fresh.of (by repeat (first | exact (Fresh.freeH hf (by omega)) | refine FreeH.set ?_ (by omega))) (by repeat (first | exact (Fresh.freeT hf (by omega)) | refine FreeT.set ?_ (by omega) | refine FreeT.via (by assumption) ?_ (by omega)))
  · simp only [St.bump]; omega
  · exact hr
  · rw [hx]; simp
  have he1' : ExtR p σ σ1 := he1.from (by simp only [St.bump]; omega) (fun _ _ _ => rfl) (fun _ _ => rfl)
  have hf1 := he1.fresh
  have hd : decide (((ls.length - 1 : Nat) : Int) > 256) = false := decide_eq_false (by omega)
  simp only [↓cw_skip, ↓cw_seq, ↓cw_block, ↓cw_cond, ↓cw_region, ↓then_normal, ↓draw_false, ↓ow_nil, ↓ow_cons, ↓contO_eq, ↓op_move, ↓op_assign, ↓op_binOp, ↓force_DC, vW_some, bW_false, ifW_some, setD_some, on2_some, biV_eq, opd, ofConst, leaf, rd_set, rd_nil, binV, intV, isConst, Nat.reduceEqDiff, Nat.reduceAdd, reduceIte, reduceCtorEq, Bool.or_true, List.length_cons, List.length_nil, Nat.zero_add, St.bump, Nat.add_assoc, List.size_toArray, hd]
  refine loop57 ls p bs rest m σ _ h1 h2 hls hp hb ls 0 (a + (encU (ls.length - 1)).length) 1 _ _ rfl (by omega) (he1'.bump _) hr1 ?_ (.inl ⟨rfl, rfl⟩) (by omega) (.inl rfl) ?_ ?_ ?_ ?_ fun κ' fr' σ' he' hr2 r5 => ?_
  · rw [← List.drop_drop, hx]; simp
  · simp only [rd_set, rd_nil, reduceIte, reduceCtorEq]
  · simp only [rd_set, rd_nil, Nat.reduceEqDiff, reduceIte, reduceCtorEq]
  · simp only [rd_set, rd_nil, Nat.reduceEqDiff, reduceIte, reduceCtorEq, List.take_zero]
    rfl
  · simp only [rd_set, rd_nil, Nat.reduceEqDiff, reduceIte, reduceCtorEq]
    rfl
  simp only [↓cw_ret, ↓cw_seq, ↓cw_region, ↓then_normal, ↓draw_false, ↓ow_nil, ↓ow_cons, ↓contO_eq, ↓op_move, ↓op_assign, ↓ret_ret, ↓force_DQ, block_exit, vW_some, bW_true, setD_some, resW, nbeq, opd, rd_set, resV, Nat.reduceEqDiff, Nat.reduceAdd, reduceIte, List.length_cons, List.length_nil, beq_self_eq_true, Nat.zero_add, St.bump, List.size_toArray, r5, Tryd.f57]
  refine hQ _ _ (he'.bump _) ?_
  simpa [RS, Nat.add_assoc] using hr2
end Go.Pv

namespace Go.Pv
open Go Go.Proofs Go.RowKit
set_option linter.unusedVariables false
set_option linter.unusedSimpArgs false
set_option maxRecDepth 100000

/-- What list answers, where the bytes are those of instructions. -/
def ListOk (l : L) : Prop := ∀ σ p bs rest a m depth (Q : AV → St → Prop), Fresh σ → p < σ.nb → RS σ p bs a m → bs.drop a = l.enc ++ 11 :: rest → m + l.cnt ≤ 16384 → depth + l.nest ≤ 64 → bs.length < 1152921504606846976 →
  (∀ κ σ', ExtR p σ σ' → RS σ' p bs (a + l.enc.length + 1) (m + l.cnt) → Q (.t [.sl l.av κ, .i .u8 11]) σ') → CallW TS 23 [.p p 0, .i .i64 (depth : Nat), .b false] σ Q

/-- The forms that are gone through here: nothing behind the number, blocks, tables. -/
def rtI (f : Nat) (n al off res : Int) (b e : L) (ls : List Int) : Prop :=
  n = 0 ∧ al = 0 ∧ off = 0 ∧ e = .nil ∧
  ((f = 0 ∧ res = 0 ∧ b = .nil ∧ ls = []) ∨ (f = 6 ∧ (res = 0 ∨ res = 127 ∨ res = 126) ∧ ls = []) ∨ (f = 8 ∧ res = 0 ∧ b = .nil ∧ 1 ≤ ls.length ∧ ls.length ≤ 257 ∧ ∀ x ∈ ls, 0 ≤ x ∧ x < 16384))

theorem w_instr (f op : Nat) (n al off res : Int) (b e : L) (ls : List Int) (h : rtI f n al off res b e ls) (Hb : ListOk b) (σ : St) (p : Nat) (bs rest : List Int) (a m depth : Nat) (Q : AV → St → Prop) (hf : Fresh σ) (hp : p < σ.nb) (hr : RS σ p bs a m)
    (hx : bs.drop a = encF f n al off res ls b.enc e.enc e.len ++ rest) (hm : m + b.cnt ≤ 16384) (hd : f = 6 → depth + 1 + b.nest ≤ 64) (hb : bs.length < 1152921504606846976)
    (hQ : ∀ κ1 κ2 κ3 σ', ExtR p σ σ' → RS σ' p bs (a + (encF f n al off res ls b.enc e.enc e.len).length) (m + b.cnt) →
      Q (.a [.i .u8 op, .i .i64 n, .i .u32 al, .i .u32 off, .i .u8 res, .sl b.av κ1, .sl e.av κ2, .sl (u32s ls) κ3]) σ') :
    CallW TS 41 [.p p 0, .i .u8 op, .i .i64 (f : Nat), .i .i64 (depth : Nat)] σ Q := by
  obtain ⟨rfl, rfl, rfl, rfl, h⟩ := h
  refine callW_of ft41 rfl (Nat.le_of_ble_eq_true rfl) ?_
  have hr' := hr
  unfold RS at hr'
  have hpne : ∀ j, (p = σ.nb + j) = False := fun j => by simp; omega
  have hpne0 : (p = σ.nb) = False := by simp; omega
  rcases h with ⟨rfl, rfl, rfl, rfl⟩ | ⟨rfl, hres, rfl⟩ | ⟨rfl, rfl, rfl, h1, h2, hls⟩
  · simp only [↓cw_skip, ↓cw_ret, ↓cw_seq, ↓cw_block, ↓cw_cond, ↓cw_region, ↓then_normal, ↓block_normal, ↓draw_false, ↓ow_nil, ↓ow_cons, ↓contO_eq, ↓op_move, ↓op_assign, ↓op_alloc, ↓op_build, ↓op_load, ↓op_store, ↓op_binOp, ↓ret_ret, ↓force_DC, vW_some, pW_some, bW_false, ifW_some, setD_some, setD_none, allocV, bldV, on1_some, on2_some, ldV_eq, stV, biV_eq, resW, opd, ofConst, leaf, rd_set, rd_nil, Fr.ofList, binV, intV, isConst, loadV, take?, buildV, places, fillV, parts, put, flat, AV.cells, undF, aggF, infF, resV, Nat.reduceEqDiff, Nat.reduceAdd, Nat.reduceLeDiff, reduceIte, reduceCtorEq, Bool.or_true, List.length_cons, List.length_nil, List.getElem?_cons_zero, List.drop_zero, List.take_succ_cons, List.take_zero, List.set_cons_zero, List.set_cons_succ, Int.reduceBEq, Nat.add_zero, Nat.zero_add, and_self, newBox, St.bump, storeV, Tr.get_set, Nat.add_assoc, Nat.left_eq_add, Nat.add_eq_left, boxFree, List.size_toArray, hf.hb, hf.h0, Int.natCast_zero, Tryd.f41]
    refine hQ 1 1 1 _ ⟨by simp only; omega, ?_, fun l hl hne => ?_, fun k hk => rfl⟩ ?_
    · first | exact Fresh.of (by repeat (first | exact (Fresh.freeH hf (by omega)) | refine FreeH.set ?_ (by omega))) (by repeat (first | exact (Fresh.freeT hf (by omega)) | refine FreeT.set ?_ (by omega) | refine FreeT.via (by assumption) ?_ (by omega)))
    · simp only [Tr.get_set]; (repeat rw [if_neg (by omega)])
    · show Tr.get _ p = _
      simp only [Tr.get_set]; (repeat rw [if_neg (by omega)])
      exact hr
  · have hE : encF 6 0 0 0 res [] b.enc (L.nil).enc (L.nil).len = kindB res :: b.enc ++ [11] := by simp [encF, L.len]
    rw [hE] at hx hQ
    simp only [↓cw_skip, ↓cw_seq, ↓cw_block, ↓cw_cond, ↓cw_region, ↓then_normal, ↓draw_false, ↓ow_nil, ↓ow_cons, ↓contO_eq, ↓op_move, ↓op_assign, ↓op_alloc, ↓op_build, ↓op_store, ↓op_binOp, ↓op_call, ↓force_DC, vW_some, pW_some, bW_true, bW_false, ifW_some, setD_some, setD_none, allocV, bldV, on2_some, stV, biV_eq, callV_some, arg_val, opd, opds, ofConst, leaf, rd_set, rd_nil, Fr.ofList, binV, intV, isConst, buildV, places, fillV, parts, put, flat, AV.cells, undF, infF, Nat.reduceEqDiff, Nat.reduceAdd, Nat.reduceLeDiff, reduceIte, reduceCtorEq, Bool.or_true, List.length_cons, List.length_nil, List.getElem?_cons_zero, List.append_nil, List.set_cons_zero, List.set_cons_succ, Int.reduceBEq, beq_self_eq_true, Nat.add_zero, Nat.zero_add, and_self, newBox, St.bump, storeV, Tr.get_set, Nat.add_assoc, Nat.add_eq_left, boxFree, List.size_toArray, hf.hb, hf.h0, Int.cast_ofNat_Int]
    refine FnW_call rfl (by kernel_rfl) (by kernel_rfl) (by kernel_rfl) (w_rkind _ p bs a m res _ ?_ ?_ ?_ hres ?_ ?_ fun σ1 he1 hr1 => ?_)
    · simp only [St.bump]; first | exact Fresh.of (by repeat (first | exact (Fresh.freeH hf (by omega)) | refine FreeH.set ?_ (by omega))) (by repeat (first | exact (Fresh.freeT hf (by omega)) | refine FreeT.set ?_ (by omega) | refine FreeT.via (by assumption) ?_ (by omega)))
    · simp only [St.bump]; omega
    · show Tr.get _ p = _
      simp only [St.bump, Tr.get_set]; (repeat rw [if_neg (by omega)])
      exact hr
    · have := congrArg (fun l => l[0]?) hx
      simpa using this
    · have := congrArg List.length hx
      simp at this; omega
    have hnb1 : σ.nb + 20 ≤ σ1.nb := by have := he1.nb; simp only [St.bump] at this; omega
    have hf1 := he1.fresh
    have hb0 := he1.h σ.nb (by simp only [St.bump]; omega) (by omega)
    have hb3 := he1.h (σ.nb + 3) (by simp only [St.bump]; omega) (by omega)
    simp only [St.bump, Tr.get_set, if_true] at hb0 hb3
    rw [if_neg (by omega)] at hb0
    have hr1' := hr1
    unfold RS at hr1'
    have hd' := hd rfl
    have hal : a < bs.length := by have := congrArg List.length hx; simp at this; omega
    simp only [↓cw_seq, ↓cw_region, ↓then_normal, ↓draw_false, ↓ow_nil, ↓ow_cons, ↓contO_eq, ↓op_move, ↓op_assign, ↓op_store, ↓op_binOp, ↓op_fieldAddr, ↓op_call, vW_some, pW_some, setD_some, setD_none, on1_some, on2_some, stV, biV_eq, faV_eq, callV_some, arg_val, opd, opds, ofConst, leaf, rd_set, rd_nil, binV, intV, isConst, fieldAddrV, put, flat, AV.cells, undF, infF, Nat.reduceEqDiff, Nat.reduceAdd, Nat.reduceLeDiff, reduceIte, reduceCtorEq, Bool.or_true, List.length_cons, List.length_nil, List.getElem?_cons_zero, List.getElem?_cons_succ, List.append_nil, List.set_cons_zero, List.set_cons_succ, Int.reduceBEq, Nat.zero_add, and_self, St.bump, storeV, Nat.add_assoc, List.size_toArray, hb3, fw_add1 (n := depth) (by omega)]
    refine FnW_call rfl (by kernel_rfl) (by kernel_rfl) (by kernel_rfl) (Hb _ p bs rest (a + 1) m (depth + 1) _ ?_ ?_ ?_ ?_ hm (by omega) hb fun κ σ2 he2 hr2 => ?_)
    · simp only [St.bump]; first | exact Fresh.of (by repeat (first | exact (Fresh.freeH hf1 (by omega)) | refine FreeH.set ?_ (by omega))) (by repeat (first | exact (Fresh.freeT hf1 (by omega)) | refine FreeT.set ?_ (by omega) | refine FreeT.via (by assumption) ?_ (by omega)))
    · simp only [St.bump]; omega
    · show Tr.get _ p = _
      simp only [St.bump, Tr.get_set]; (repeat rw [if_neg (by omega)])
      exact hr1
    · rw [← List.drop_drop, hx]; simp
    have hnb2 : σ1.nb + 17 ≤ σ2.nb := by have := he2.nb; simp only [St.bump] at this; omega
    have hf2 := he2.fresh
    have hc0 := he2.h σ.nb (by simp only [St.bump]; omega) (by omega)
    have hc3 := he2.h (σ.nb + 3) (by simp only [St.bump]; omega) (by omega)
    simp only [St.bump, Tr.get_set, if_true] at hc0 hc3
    rw [if_neg (by omega), hb0] at hc0
    have hr2' := hr2
    unfold RS at hr2'
    simp only [↓cw_skip, ↓cw_ret, ↓cw_seq, ↓cw_cond, ↓cw_region, ↓then_normal, ↓block_normal, ↓draw_false, ↓ow_nil, ↓ow_cons, ↓contO_eq, ↓op_move, ↓op_assign, ↓op_load, ↓op_store, ↓op_binOp, ↓op_fieldAddr, ↓op_extract, ↓ret_ret, ↓force_DC, vW_some, pW_some, bW_false, ifW_some, setD_some, setD_none, on1_some, on2_some, ldV_eq, stV, biV_eq, faV_eq, exV, resW, opd, ofConst, leaf, rd_set, rd_nil, binV, intV, isConst, loadV, fieldAddrV, take?, put, flat, AV.cells, undF, aggF, infF, resV, Nat.reduceEqDiff, Nat.reduceAdd, Nat.reduceLeDiff, reduceIte, reduceCtorEq, Bool.or_true, List.length_cons, List.length_nil, List.getElem?_cons_zero, List.getElem?_cons_succ, List.drop_zero, List.take_succ_cons, List.take_zero, List.set_cons_zero, List.set_cons_succ, Int.reduceBEq, Nat.zero_add, and_self, St.bump, storeV, Tr.get_set, Nat.add_assoc, Nat.left_eq_add, List.size_toArray, hc0, hc3, Tryd.f41]
    refine hQ κ 1 1 _ ⟨by simp only; omega, ?_, fun l hl hne => ?_, fun k hk => ?_⟩ ?_
    · first | exact Fresh.of (by repeat (first | exact (Fresh.freeH hf2 (by omega)) | refine FreeH.set ?_ (by omega))) (by repeat (first | exact (Fresh.freeT hf2 (by omega)) | refine FreeT.set ?_ (by omega) | refine FreeT.via (by assumption) ?_ (by omega)))
    · simp only [Tr.get_set]; (repeat rw [if_neg (by omega)])
      rw [he2.h l (by simp only [St.bump]; omega) hne]
      simp only [St.bump, Tr.get_set]; (repeat rw [if_neg (by omega)])
      rw [he1.h l (by simp only [St.bump]; omega) hne]
      simp only [St.bump, Tr.get_set]; (repeat rw [if_neg (by omega)])
    · simp only
      rw [he2.tk k (by simp only [St.bump]; omega)]
      simp only [St.bump]
      rw [he1.tk k (by simp only [St.bump]; omega)]
      rfl
    · show Tr.get _ p = _
      simp only [Tr.get_set]; (repeat rw [if_neg (by omega)])
      rw [hr2']
      simp [Nat.add_assoc, Nat.add_comm, Nat.add_left_comm]
  · have hE : encF 8 0 0 0 0 ls (L.nil).enc (L.nil).enc (L.nil).len = encU (fw .u64 (fw .i64 ((ls.length : Int) - 1))).toNat ++ ls.flatMap (fun x => encU x.toNat) := by simp [encF]
    have hE2 : (fw .u64 (fw .i64 ((ls.length : Int) - 1))).toNat = ls.length - 1 := by
      obtain ⟨k, hk⟩ : ∃ k, ls.length = k + 1 := ⟨ls.length - 1, by omega⟩
      rw [hk, fw_sub1 (by omega), fw_u64_of k (by omega)]
      omega
    rw [hE, hE2] at hx hQ
    simp only [↓cw_seq, ↓cw_block, ↓cw_cond, ↓cw_region, ↓then_normal, ↓draw_false, ↓ow_nil, ↓ow_cons, ↓contO_eq, ↓op_move, ↓op_assign, ↓op_alloc, ↓op_build, ↓op_store, ↓op_binOp, ↓op_call, ↓force_DC, vW_some, pW_some, bW_true, bW_false, ifW_some, setD_some, setD_none, allocV, bldV, on2_some, stV, biV_eq, callV_some, arg_val, opd, opds, ofConst, leaf, rd_set, rd_nil, Fr.ofList, binV, intV, isConst, buildV, places, fillV, parts, put, flat, AV.cells, undF, infF, Nat.reduceEqDiff, Nat.reduceAdd, Nat.reduceLeDiff, reduceIte, reduceCtorEq, Bool.or_true, List.length_cons, List.length_nil, List.getElem?_cons_zero, List.append_nil, List.set_cons_zero, List.set_cons_succ, Int.reduceBEq, beq_self_eq_true, Nat.add_zero, Nat.zero_add, and_self, newBox, St.bump, storeV, Tr.get_set, Nat.add_assoc, Nat.add_eq_left, boxFree, List.size_toArray, hf.hb, hf.h0, Int.cast_ofNat_Int]
    refine FnW_call rfl (by kernel_rfl) (by kernel_rfl) (by kernel_rfl) (w_labels _ p bs rest a m ls _ ?_ ?_ ?_ h1 h2 hls hx hb fun κ σ1 he1 hr1 => ?_)
    · simp only [St.bump]; first | exact Fresh.of (by repeat (first | exact (Fresh.freeH hf (by omega)) | refine FreeH.set ?_ (by omega))) (by repeat (first | exact (Fresh.freeT hf (by omega)) | refine FreeT.set ?_ (by omega) | refine FreeT.via (by assumption) ?_ (by omega)))
    · simp only [St.bump]; omega
    · show Tr.get _ p = _
      simp only [St.bump, Tr.get_set]; (repeat rw [if_neg (by omega)])
      exact hr
    have hnb1 : σ.nb + 20 ≤ σ1.nb := by have := he1.nb; simp only [St.bump] at this; omega
    have hf1 := he1.fresh
    have hb0 := he1.h σ.nb (by simp only [St.bump]; omega) (by omega)
    have hb3 := he1.h (σ.nb + 3) (by simp only [St.bump]; omega) (by omega)
    simp only [St.bump, Tr.get_set, if_true] at hb0 hb3
    rw [if_neg (by omega)] at hb0
    simp only [↓cw_ret, ↓cw_seq, ↓cw_region, ↓then_normal, ↓block_normal, ↓draw_false, ↓ow_nil, ↓ow_cons, ↓contO_eq, ↓op_load, ↓op_store, ↓op_fieldAddr, ↓ret_ret, vW_some, pW_some, setD_some, setD_none, on1_some, ldV_eq, stV, faV_eq, resW, opd, rd_set, rd_nil, loadV, fieldAddrV, take?, put, flat, AV.cells, undF, aggF, infF, resV, Nat.reduceEqDiff, Nat.reduceAdd, Nat.reduceLeDiff, reduceIte, reduceCtorEq, List.length_cons, List.length_nil, List.getElem?_cons_zero, List.getElem?_cons_succ, List.drop_zero, List.take_succ_cons, List.take_zero, List.set_cons_zero, List.set_cons_succ, Nat.zero_add, and_self, St.bump, storeV, Tr.get_set, Nat.add_assoc, Nat.left_eq_add, List.size_toArray, hb0, hb3, Tryd.f41]
    refine hQ 1 1 κ _ ⟨by simp only; omega, ?_, fun l hl hne => ?_, fun k hk => ?_⟩ ?_
    · first | exact Fresh.of (by repeat (first | exact (Fresh.freeH hf1 (by omega)) | refine FreeH.set ?_ (by omega))) (by repeat (first | exact (Fresh.freeT hf1 (by omega)) | refine FreeT.set ?_ (by omega) | refine FreeT.via (by assumption) ?_ (by omega)))
    · simp only [Tr.get_set]; (repeat rw [if_neg (by omega)])
      rw [he1.h l (by simp only [St.bump]; omega) hne]
      simp only [St.bump, Tr.get_set]; (repeat rw [if_neg (by omega)])
    · simp only
      rw [he1.tk k (by simp only [St.bump]; omega)]
      rfl
    · show Tr.get _ p = _
      simp only [Tr.get_set]; (repeat rw [if_neg (by omega)])
      exact hr1
end Go.Pv

namespace Go.Pv
open Go Go.Proofs Go.RowKit
set_option linter.unusedVariables false
set_option linter.unusedSimpArgs false
set_option maxRecDepth 100000

theorem form_float : (List.range 256).all (fun op => match formN op with | some _ => (match floatL[op]? with | some false => true | _ => false) && !Nat.beq op 5 && !Nat.beq op 11 | none => true) = true := by decide +kernel
theorem form_has {op f : Nat} (hop : op < 256) (h : formN op = some f) : pByte gFloat [.i .u8 (op : Int)] = some (.b false) ∧ op ≠ 5 ∧ op ≠ 11 := by
  have := List.all_eq_true.1 form_float op (List.mem_range.2 hop)
  rw [h] at this
  simp only [Bool.and_eq_true, Bool.not_eq_true'] at this
  refine ⟨?_, fun e => by subst e; simp at this, fun e => by subst e; simp at this⟩
  show (match Nat.ble op 255 with | true => gFloat op | false => none) = _
  rw [show Nat.ble op 255 = true from by rw [Nat.ble_eq]; omega]
  simp only
  unfold gFloat
  have h2 := this.1.1
  split at h2
  · rename_i hh; rw [hh]
  · cases h2

def L.rt : L → Prop
  | .nil => True
  | .cons op n al off res b e ls r => op < 256 ∧ (∃ f, formN op = some f ∧ rtI f n al off res b e ls) ∧ b.rt ∧ r.rt

theorem u24 : TS.und 24 = some (.slice 42) := by simp only [undF]
theorem i42 : TS.inf 42 = some (⟨8, 104, [.i .u8 0, .i .i64 0, .i .u32 0, .i .u32 0, .i .u8 0, .sl [] 1, .sl [] 1, .sl [] 1]⟩) := by simp only [infF]
theorem a42 : TS.isAgg 42 = some true := by simp only [aggF]

theorem head_iav {l r : L} {es : List AV} (h : es ++ r.av = l.av) : headSize 8 es = true := by
  cases es with
  | nil => rfl
  | cons x xs =>
    cases l with
    | nil => cases h
    | cons op n al off res b e ls l =>
      simp only [L.av, List.cons_append] at h
      injection h with h1 h2
      subst h1
      rfl

noncomputable def K23 : Code := cl (cl (cr (cr (fb Tryd.f23))))
theorem loop23 (l : L) (N : Nat) (H : ∀ l' : L, l'.sz < N → l'.rt → ListOk l') (p : Nat) (bs rest : List Int) (depth : Nat) (σ0 : St) (Q : Ex → Fr → St → Prop) (hp : p < σ0.nb) (hb : bs.length < 1152921504606846976) (hl : l.len ≤ 16384) :
    ∀ (r : L) es a m κ fr σ, es ++ r.av = l.av → r.rt → r.sz ≤ N → ExtR p σ0 σ → RS σ p bs a m → bs.drop a = r.enc ++ 11 :: rest → m + r.cnt ≤ 16384 → depth + r.nest ≤ 64 → TokG σ es κ 8 → κ < σ.nb + 2 → (κ = 1 ∨ σ0.nb + 2 ≤ κ) →
      fr.rd 0 = .p p 0 → fr.rd 1 = .i .i64 (depth : Nat) → fr.rd 2 = .b false → fr.rd 8 = .sl es κ →
      (∀ κ' fr' σ', ExtR p σ0 σ' → RS σ' p bs (a + r.enc.length + 1) (m + r.cnt) → fr'.rd 6 = .sl l.av κ' → fr'.rd 7 = .i .u8 11 → Q .ret fr' σ') → CodeW TS K23 fr σ Q := by
  intro r
  induction r with
  | nil =>
    intro es a m κ fr σ hes hrt hsz he hr hx hm hdn hk hkn hκ r0 r1 r2 r8 hQ
    have hf := he.fresh
    have hr' := hr
    unfold RS at hr'
    simp only [L.av, List.append_nil] at hes
    simp only [L.enc, List.nil_append] at hx
    have hal : a < bs.length := by have := congrArg List.length hx; simp at this; omega
    simp only [K23, fb, Tryd.f23, cl, cr, Option.getD]
    rw [cw_loop]
    simp only [↓cw_skip, ↓cw_seq, ↓cw_block, ↓cw_cond, ↓cw_region, ↓then_normal, ↓draw_false, ↓ow_nil, ↓ow_cons, ↓contO_eq, ↓op_move, ↓op_assign, ↓op_load, ↓op_nilCheck, ↓op_binOp, ↓op_fieldAddr, ↓op_call, ↓force_DC, vW_some, bW_true, ifW_some, setD_some, on1_some, on2_some, ldV_eq, nilV, biV_eq, faV_eq, callV_some, arg_val, opd, opds, ofConst, leaf, rd_set, binV, eqV, isConst, loadV, fieldAddrV, take?, undF, aggF, infF, ifaceF, Nat.reduceEqDiff, Nat.reduceAdd, Nat.reduceLeDiff, reduceIte, reduceCtorEq, Bool.or_true, Bool.and_true, List.length_cons, List.length_nil, List.getElem?_cons_zero, List.getElem?_cons_succ, List.append_nil, List.drop_succ_cons, List.drop_zero, List.take_succ_cons, List.take_zero, Nat.zero_add, St.bump, Nat.add_assoc, List.size_toArray, r0, hr']
    refine FnW_call rfl (by kernel_rfl) (by kernel_rfl) (by kernel_rfl) (w_byte _ p bs a m 11 _ ?_ ?_ ?_ ?_ (by omega) fun σ1 he1 hr1 => ?_)
    · simp only [St.bump]; first | exact Fresh.of (by repeat (first | exact (Fresh.freeH hf (by omega)) | refine FreeH.set ?_ (by omega))) (by repeat (first | exact (Fresh.freeT hf (by omega)) | refine FreeT.set ?_ (by omega) | refine FreeT.via (by assumption) ?_ (by omega)))
    · have := he.nb; simp only [St.bump]; omega
    · exact hr
    · have := congrArg (fun l => l[0]?) hx
      simpa using this
    have he1' : ExtR p σ σ1 := he1.from (by simp only [St.bump]; omega) (fun _ _ _ => rfl) (fun _ _ => rfl)
    simp only [↓cw_skip, ↓cw_ret, ↓cw_seq, ↓cw_cond, ↓cw_region, ↓then_normal, ↓then_ret, ↓block_ret, ↓draw_false, ↓ow_nil, ↓ow_cons, ↓ow_consG, ↓contO_eq, ↓op_move, ↓op_assign, ↓op_binOp, ↓op_unOp, ↓op_extract, ↓op_pick, ↓force_DC, ↓force_DOs, vW_some, bW_true, bW_false, ifW_some, setD_some, on1_some, on2_some, biV_eq, exV, pkV, opd, ofConst, leaf, rd_set, binV, intV, unV, isConst, Nat.reduceEqDiff, Nat.reduceAdd, reduceIte, Bool.or_true, List.length_cons, List.length_nil, List.getElem?_cons_zero, List.getElem?_cons_succ, beq_self_eq_true, Nat.zero_add, Bool.not_true, St.bump, wantG, Option.bind, Nat.add_assoc, beqF, List.size_toArray, r8]
    refine hQ κ _ _ ((he.trans he1').bump _) ?_ ?_ ?_
    · simpa [RS, L.enc, L.cnt] using hr1
    · simp only [rd_set, Nat.reduceEqDiff, reduceIte, hes]
    · simp only [rd_set, Nat.reduceEqDiff, reduceIte]
  | cons op n al off res b e ls r ihb ihe ih =>
    intro es a m κ fr σ hes hrt hsz he hr hx hm hdn hk hkn hκ r0 r1 r2 r8 hQ
    have hf := he.fresh
    have hr' := hr
    unfold RS at hr'
    obtain ⟨hop, ⟨f, hfn, hI⟩, hbrt, hrrt⟩ := hrt
    have hee : e.cnt = 0 := by rw [hI.2.2.2.1]; rfl
    obtain ⟨hfl, hn5, hn11⟩ := form_has hop hfn
    have h11 : ((op : Int) == 11) = false := by simp; omega
    have h5 : ((op : Int) == 5) = false := by simp; omega
    simp only [L.enc, encI, hfn] at hx hQ
    simp only [L.cnt, hee] at hm hQ
    simp only [L.nest] at hdn
    simp only [L.sz] at hsz
    simp only [L.av] at hes
    have hal : a < bs.length := by have := congrArg List.length hx; simp at this; omega
    simp only [K23, fb, Tryd.f23, cl, cr, Option.getD]
    rw [cw_loop]
    simp only [↓cw_skip, ↓cw_seq, ↓cw_block, ↓cw_cond, ↓cw_region, ↓then_normal, ↓draw_false, ↓ow_nil, ↓ow_cons, ↓contO_eq, ↓op_move, ↓op_assign, ↓op_load, ↓op_nilCheck, ↓op_binOp, ↓op_fieldAddr, ↓op_call, ↓force_DC, vW_some, bW_true, ifW_some, setD_some, on1_some, on2_some, ldV_eq, nilV, biV_eq, faV_eq, callV_some, arg_val, opd, opds, ofConst, leaf, rd_set, binV, eqV, isConst, loadV, fieldAddrV, take?, undF, aggF, infF, ifaceF, Nat.reduceEqDiff, Nat.reduceAdd, Nat.reduceLeDiff, reduceIte, reduceCtorEq, Bool.or_true, Bool.and_true, List.length_cons, List.length_nil, List.getElem?_cons_zero, List.getElem?_cons_succ, List.append_nil, List.drop_succ_cons, List.drop_zero, List.take_succ_cons, List.take_zero, Nat.zero_add, St.bump, Nat.add_assoc, List.size_toArray, r0, hr']
    refine FnW_call rfl (by kernel_rfl) (by kernel_rfl) (by kernel_rfl) (w_byte _ p bs a m op _ ?_ ?_ ?_ ?_ (by omega) fun σ1 he1 hr1 => ?_)
    · simp only [St.bump]; first | exact Fresh.of (by repeat (first | exact (Fresh.freeH hf (by omega)) | refine FreeH.set ?_ (by omega))) (by repeat (first | exact (Fresh.freeT hf (by omega)) | refine FreeT.set ?_ (by omega) | refine FreeT.via (by assumption) ?_ (by omega)))
    · have := he.nb; simp only [St.bump]; omega
    · exact hr
    · have := congrArg (fun l => l[0]?) hx
      simpa using this
    have he1' : ExtR p σ σ1 := he1.from (by simp only [St.bump]; omega) (fun _ _ _ => rfl) (fun _ _ => rfl)
    have hf1 := he1.fresh
    have hr1' := hr1
    unfold RS at hr1'
    simp only [↓cw_skip, ↓cw_seq, ↓cw_cond, ↓cw_region, ↓then_normal, ↓draw_false, ↓ow_nil, ↓ow_cons, ↓ow_consG, ↓contO_eq, ↓op_move, ↓op_assign, ↓op_binOp, ↓op_unOp, ↓op_extract, ↓op_pick, ↓op_call, ↓force_DC, ↓force_DO, ↓force_DOs, vW_some, bW_true, bW_false, ifW_some, setD_some, on1_some, on2_some, biV_eq, exV, pkV, callV_some, arg_val, opd, opds, ofConst, leaf, rd_set, binV, intV, unV, isConst, Nat.reduceEqDiff, Nat.reduceAdd, reduceIte, Bool.or_true, List.length_cons, List.length_nil, List.getElem?_cons_zero, List.getElem?_cons_succ, List.append_nil, beq_self_eq_true, Nat.zero_add, Bool.not_true, St.bump, wantG, Option.bind, Nat.add_assoc, beqT, List.size_toArray, h11, h5]
    refine FnW_prim rfl (by kernel_rfl) (p := pByte gForm) (by kernel_rfl) (form_prim op hop) ?_
    simp only [formV, hfn]
    simp only [↓cw_seq, ↓cw_block, ↓cw_region, ↓then_normal, ↓draw_false, ↓ow_nil, ↓ow_cons, ↓contO_eq, ↓op_move, ↓op_assign, ↓op_load, ↓op_store, ↓op_nilCheck, ↓op_binOp, ↓op_fieldAddr, ↓op_extract, ↓op_call, vW_some, pW_some, setD_some, setD_none, on1_some, on2_some, ldV_eq, stV, nilV, biV_eq, faV_eq, exV, callV_some, arg_val, opd, opds, ofConst, leaf, rd_set, binV, intV, isConst, loadV, fieldAddrV, take?, put, flat, AV.cells, undF, aggF, infF, Nat.reduceEqDiff, Nat.reduceAdd, Nat.reduceLeDiff, reduceIte, reduceCtorEq, Bool.or_true, List.length_cons, List.length_nil, List.getElem?_cons_zero, List.getElem?_cons_succ, List.append_nil, List.drop_succ_cons, List.drop_zero, List.take_succ_cons, List.take_zero, List.set_cons_zero, List.set_cons_succ, Nat.zero_add, and_self, St.bump, storeV, Nat.add_assoc, List.size_toArray, r0, hr1', fw_add1 (n := m) (by omega)]
    refine FnW_prim rfl (by kernel_rfl) (p := pByte gFloat) (by kernel_rfl) hfl ?_
    have hmm : decide (((m + 1 : Nat) : Int) > 16384) = false := decide_eq_false (by omega)
    simp only [↓cw_seq, ↓cw_cond, ↓cw_region, ↓then_normal, ↓draw_false, ↓ow_nil, ↓ow_cons, ↓ow_consG, ↓contO_eq, ↓op_move, ↓op_assign, ↓op_load, ↓op_nilCheck, ↓op_binOp, ↓op_fieldAddr, ↓force_DC, ↓force_DO, vW_some, bW_true, bW_false, ifW_some, setD_some, on1_some, on2_some, ldV_eq, nilV, biV_eq, faV_eq, opd, ofConst, leaf, rd_set, binV, intV, eqV, isConst, loadV, fieldAddrV, take?, undF, aggF, infF, ifaceF, Nat.reduceEqDiff, Nat.reduceAdd, Nat.reduceLeDiff, reduceIte, reduceCtorEq, Bool.or_true, Bool.and_true, List.length_cons, List.length_nil, List.getElem?_cons_zero, List.getElem?_cons_succ, List.drop_succ_cons, List.drop_zero, List.take_succ_cons, List.take_zero, beq_self_eq_true, Nat.zero_add, Bool.not_true, St.bump, Tr.get_set, wantG, Option.bind, Nat.add_assoc, beqT, List.size_toArray, r0, r1, hr1', hmm]
    have hps : p < σ1.nb := by have := he.nb; have := he1'.nb; omega
    have hcase : decide ((depth : Int) ≥ 64) = false ∨ (decide ((depth : Int) ≥ 64) = true ∧ ((f : Int) == 6) = false ∧ ((f : Int) == 7) = false) := by
      by_cases h64 : depth < 64
      · exact .inl (decide_eq_false (by omega))
      · refine .inr ⟨decide_eq_true (by omega), ?_, ?_⟩
        · rcases hI.2.2.2.2 with h | h | h
          · simp [h.1]
          · have hk : isBlk op = true := by simp [isBlk, hfn, h.1]
            rw [hk, if_pos rfl] at hdn
            omega
          · simp [h.1]
        · rcases hI.2.2.2.2 with h | h | h <;> simp [h.1]
    rcases hcase with h64 | ⟨h64, h6, h7⟩
    · simp only [↓cw_cond, ↓cw_region, ↓then_normal, ↓draw_false, ↓ow_nil, ↓ow_cons, ↓ow_consG, ↓contO_eq, ↓op_move, ↓op_assign, ↓op_pick, ↓op_call, ↓force_DC, ↓force_DO, ↓force_DOs, vW_some, bW_true, bW_false, ifW_some, setD_some, pkV, callV_some, arg_val, opd, opds, ofConst, leaf, rd_set, Nat.reduceEqDiff, Nat.reduceAdd, reduceIte, reduceCtorEq, List.length_cons, List.length_nil, List.getElem?_cons_zero, List.getElem?_cons_succ, List.append_nil, beq_self_eq_true, Nat.zero_add, St.bump, wantG, Option.bind, Nat.add_assoc, beqT, List.size_toArray, r0, r1, r8, h64]
      refine FnW_call rfl (by kernel_rfl) (by kernel_rfl) (by kernel_rfl) (w_instr f op n al off res b e ls hI (H b (by omega) hbrt) _ p bs (r.enc ++ 11 :: rest) (a + 1) (m + 1) depth _ ?_ ?_ ?_ ?_ (by omega) ?_ hb fun κ1 κ2 κ3 σ2 he2 hr2 => ?_)
      · simp only [St.bump]; first | exact Fresh.of (by repeat (first | exact (Fresh.freeH hf1 (by omega)) | refine FreeH.set ?_ (by omega))) (by repeat (first | exact (Fresh.freeT hf1 (by omega)) | refine FreeT.set ?_ (by omega) | refine FreeT.via (by assumption) ?_ (by omega)))
      · have := he.nb; have := he1'.nb; simp only [St.bump]; omega
      · show Tr.get _ p = _
        simp only [St.bump, Tr.get_set, if_true]
      · rw [← List.drop_drop, hx]; simp
      · intro h6; subst h6
        have hk : isBlk op = true := by simp [isBlk, hfn]
        rw [hk, if_pos rfl] at hdn
        omega
      have hnb1 := he1'.nb
      have hnb2 : σ1.nb + 20 ≤ σ2.nb := by have := he2.nb; simp only [St.bump] at this; omega
      have hf2 := he2.fresh
      have htk2 : ∀ k, k < σ.nb + 2 → Tr.get σ2.tk k = Tr.get σ.tk k := fun k hk => by
        rw [he2.tk k (by simp only [St.bump]; omega)]
        exact he1'.tk k hk
      have hlen := congrArg List.length hes
      simp only [List.length_append, List.length_cons, L.len_av] at hlen
      simp only [↓ow_cons, ↓contO_eq, ↓op_buildSlice, ↓op_call, pW_some, setD_some, bldS, arg_blt, opd, opds, rd_set, bltV, fillV, parts, put, flat, AV.cells, AV.strip, AV.strip0, undF, aggF, infF, Nat.reduceEqDiff, Nat.reduceAdd, Nat.reduceMul, Nat.reduceLeDiff, ne_eq, not_false_eq_true, reduceIte, reduceCtorEq, List.length_cons, List.length_nil, List.append_nil, List.take_succ_cons, List.take_zero, List.set_cons_zero, List.set_cons_succ, List.map_cons, List.map_nil, Nat.zero_add, and_self, newTok, Nat.add_assoc, or_false, List.headD_cons, tokFree, buildSliceV, repeatCells, chunk, hf2.tb]
      refine app_gen (es := es) u24 i42 a42 ?_ (by decide) (by decide) rfl ?_ ?_ ?_ fun X hX hX2 => ?_
      · refine TokG.keep (σ := σ) hk ?_
        simp only [Tr.get_set]
        rw [if_neg (by omega), htk2 κ hkn]
      · exact head_iav (r := .cons op n al off res b e ls r) (l := l) hes
      · simp only; omega
      · exact tokFree_of (by repeat (first | exact (Fresh.freeT hf2 (by omega)) | refine FreeT.set ?_ (by omega) | refine FreeT.via (by assumption) ?_ (by omega)))
      simp only [↓then_normal, ↓block_normal, ↓draw_false, ↓ow_nil, ↓ow_cons, ↓contO_eq, ↓op_assign, vW_some, setD_some, opd, rd_set, AV.strip, AV.strip0, Nat.reduceEqDiff, Nat.reduceAdd, reduceIte, List.map_cons, List.map_nil, St.bump, Nat.add_assoc]
      refine ih (es ++ [iav op n al off res b.av e.av (u32s ls)]) (a + 1 + (encF f n al off res ls b.enc e.enc e.len).length) (m + 1 + b.cnt) (σ2.nb + 9) _ _ ?_ hrrt (by omega) ?_ ?_ ?_ (by omega) (by omega) ?_ ?_ ?_ ?_ ?_ ?_ ?_ ?_
      · rw [List.append_assoc]; exact hes
      · have hnb := he.nb
        refine ⟨by simp only; omega, ?_, fun l' hl' hne => ?_, fun k hk' => ?_⟩
        · first | exact Fresh.of (by repeat (first | exact (Fresh.freeH hf2 (by omega)) | refine FreeH.set ?_ (by omega))) (by repeat (first | exact (Fresh.freeT hf2 (by omega)) | refine FreeT.set ?_ (by omega) | refine FreeT.via (by assumption) ?_ (by omega)))
        · show Tr.get σ2.h l' = _
          rw [he2.h l' (by simp only [St.bump]; omega) hne]
          simp only [St.bump, Tr.get_set]
          rw [if_neg hne]
          rw [he1'.h l' (by omega) hne, he.h l' hl' hne]
        · simp only [Tr.get_set]
          rw [if_neg (by omega), hX2 k (by omega), Tr.get_set, if_neg (by omega), htk2 k (by omega), he.tk k hk']
      · exact hr2
      · rw [Nat.add_assoc, ← List.drop_drop, hx]
        rw [show 1 + (encF f n al off res ls b.enc e.enc e.len).length = ((op : Int) :: encF f n al off res ls b.enc e.enc e.len).length from by simp [Nat.add_comm]]
        rw [List.append_assoc, List.drop_left]
      · exact .inr ⟨by omega, by simp [Tr.get_set]⟩
      · simp only; omega
      · have hnb := he.nb; exact .inr (by omega)
      · simp only [rd_set, reduceIte, reduceCtorEq, r0]
      · simp only [rd_set, Nat.reduceEqDiff, reduceIte, r1]
      · simp only [rd_set, Nat.reduceEqDiff, reduceIte, r2]
      · simp only [rd_set, Nat.reduceEqDiff, reduceIte, r8, iav]
      · intro κ' fr' σ' h1 h2 h3 h4
        refine hQ κ' fr' σ' h1 ?_ h3 h4
        have e1 : a + 1 + (encF f n al off res ls b.enc e.enc e.len).length + r.enc.length + 1 = a + (((op : Int) :: encF f n al off res ls b.enc e.enc e.len) ++ r.enc).length + 1 := by simp only [List.length_append, List.length_cons]; omega
        have e2 : m + 1 + b.cnt + r.cnt = m + (1 + b.cnt + 0 + r.cnt) := by omega
        rw [e1, e2] at h2
        exact h2
    · simp only [↓cw_cond, ↓cw_region, ↓then_normal, ↓draw_false, ↓ow_nil, ↓ow_cons, ↓ow_consG, ↓contO_eq, ↓op_move, ↓op_assign, ↓op_binOp, ↓op_pick, ↓op_call, ↓force_DC, ↓force_DO, vW_some, bW_true, bW_false, ifW_some, setD_some, on2_some, biV_eq, pkV, callV_some, arg_val, opd, opds, ofConst, leaf, rd_set, binV, intV, isConst, Nat.reduceEqDiff, Nat.reduceAdd, reduceIte, reduceCtorEq, Bool.or_true, List.length_cons, List.length_nil, List.getElem?_cons_zero, List.getElem?_cons_succ, List.append_nil, beq_self_eq_true, Nat.zero_add, St.bump, wantG, Option.bind, Nat.add_assoc, List.size_toArray, r0, r1, r8, h64, h6, h7]
      refine FnW_call rfl (by kernel_rfl) (by kernel_rfl) (by kernel_rfl) (w_instr f op n al off res b e ls hI (H b (by omega) hbrt) _ p bs (r.enc ++ 11 :: rest) (a + 1) (m + 1) depth _ ?_ ?_ ?_ ?_ (by omega) ?_ hb fun κ1 κ2 κ3 σ2 he2 hr2 => ?_)
      · simp only [St.bump]; first | exact Fresh.of (by repeat (first | exact (Fresh.freeH hf1 (by omega)) | refine FreeH.set ?_ (by omega))) (by repeat (first | exact (Fresh.freeT hf1 (by omega)) | refine FreeT.set ?_ (by omega) | refine FreeT.via (by assumption) ?_ (by omega)))
      · have := he.nb; have := he1'.nb; simp only [St.bump]; omega
      · show Tr.get _ p = _
        simp only [St.bump, Tr.get_set, if_true]
      · rw [← List.drop_drop, hx]; simp
      · intro h6; subst h6
        have hk : isBlk op = true := by simp [isBlk, hfn]
        rw [hk, if_pos rfl] at hdn
        omega
      have hnb1 := he1'.nb
      have hnb2 : σ1.nb + 20 ≤ σ2.nb := by have := he2.nb; simp only [St.bump] at this; omega
      have hf2 := he2.fresh
      have htk2 : ∀ k, k < σ.nb + 2 → Tr.get σ2.tk k = Tr.get σ.tk k := fun k hk => by
        rw [he2.tk k (by simp only [St.bump]; omega)]
        exact he1'.tk k hk
      have hlen := congrArg List.length hes
      simp only [List.length_append, List.length_cons, L.len_av] at hlen
      simp only [↓ow_cons, ↓contO_eq, ↓op_buildSlice, ↓op_call, pW_some, setD_some, bldS, arg_blt, opd, opds, rd_set, bltV, fillV, parts, put, flat, AV.cells, AV.strip, AV.strip0, undF, aggF, infF, Nat.reduceEqDiff, Nat.reduceAdd, Nat.reduceMul, Nat.reduceLeDiff, ne_eq, not_false_eq_true, reduceIte, reduceCtorEq, List.length_cons, List.length_nil, List.append_nil, List.take_succ_cons, List.take_zero, List.set_cons_zero, List.set_cons_succ, List.map_cons, List.map_nil, Nat.zero_add, and_self, newTok, Nat.add_assoc, or_false, List.headD_cons, tokFree, buildSliceV, repeatCells, chunk, hf2.tb]
      refine app_gen (es := es) u24 i42 a42 ?_ (by decide) (by decide) rfl ?_ ?_ ?_ fun X hX hX2 => ?_
      · refine TokG.keep (σ := σ) hk ?_
        simp only [Tr.get_set]
        rw [if_neg (by omega), htk2 κ hkn]
      · exact head_iav (r := .cons op n al off res b e ls r) (l := l) hes
      · simp only; omega
      · exact tokFree_of (by repeat (first | exact (Fresh.freeT hf2 (by omega)) | refine FreeT.set ?_ (by omega) | refine FreeT.via (by assumption) ?_ (by omega)))
      simp only [↓then_normal, ↓block_normal, ↓draw_false, ↓ow_nil, ↓ow_cons, ↓contO_eq, ↓op_assign, vW_some, setD_some, opd, rd_set, AV.strip, AV.strip0, Nat.reduceEqDiff, Nat.reduceAdd, reduceIte, List.map_cons, List.map_nil, St.bump, Nat.add_assoc]
      refine ih (es ++ [iav op n al off res b.av e.av (u32s ls)]) (a + 1 + (encF f n al off res ls b.enc e.enc e.len).length) (m + 1 + b.cnt) (σ2.nb + 9) _ _ ?_ hrrt (by omega) ?_ ?_ ?_ (by omega) (by omega) ?_ ?_ ?_ ?_ ?_ ?_ ?_ ?_
      · rw [List.append_assoc]; exact hes
      · have hnb := he.nb
        refine ⟨by simp only; omega, ?_, fun l' hl' hne => ?_, fun k hk' => ?_⟩
        · first | exact Fresh.of (by repeat (first | exact (Fresh.freeH hf2 (by omega)) | refine FreeH.set ?_ (by omega))) (by repeat (first | exact (Fresh.freeT hf2 (by omega)) | refine FreeT.set ?_ (by omega) | refine FreeT.via (by assumption) ?_ (by omega)))
        · show Tr.get σ2.h l' = _
          rw [he2.h l' (by simp only [St.bump]; omega) hne]
          simp only [St.bump, Tr.get_set]
          rw [if_neg hne]
          rw [he1'.h l' (by omega) hne, he.h l' hl' hne]
        · simp only [Tr.get_set]
          rw [if_neg (by omega), hX2 k (by omega), Tr.get_set, if_neg (by omega), htk2 k (by omega), he.tk k hk']
      · exact hr2
      · rw [Nat.add_assoc, ← List.drop_drop, hx]
        rw [show 1 + (encF f n al off res ls b.enc e.enc e.len).length = ((op : Int) :: encF f n al off res ls b.enc e.enc e.len).length from by simp [Nat.add_comm]]
        rw [List.append_assoc, List.drop_left]
      · exact .inr ⟨by omega, by simp [Tr.get_set]⟩
      · simp only; omega
      · have hnb := he.nb; exact .inr (by omega)
      · simp only [rd_set, reduceIte, reduceCtorEq, r0]
      · simp only [rd_set, Nat.reduceEqDiff, reduceIte, r1]
      · simp only [rd_set, Nat.reduceEqDiff, reduceIte, r2]
      · simp only [rd_set, Nat.reduceEqDiff, reduceIte, r8, iav]
      · intro κ' fr' σ' h1 h2 h3 h4
        refine hQ κ' fr' σ' h1 ?_ h3 h4
        have e1 : a + 1 + (encF f n al off res ls b.enc e.enc e.len).length + r.enc.length + 1 = a + (((op : Int) :: encF f n al off res ls b.enc e.enc e.len) ++ r.enc).length + 1 := by simp only [List.length_append, List.length_cons]; omega
        have e2 : m + 1 + b.cnt + r.cnt = m + (1 + b.cnt + 0 + r.cnt) := by omega
        rw [e1, e2] at h2
        exact h2

theorem w_list : ∀ N (l : L), l.sz < N → l.rt → ListOk l := by
  intro N
  induction N with
  | zero => intro l h; omega
  | succ N ihN =>
    intro l hl hrt σ p bs rest a m depth Q hf hp hr hx hm hdn hb hQ
    refine callW_of ft23 rfl (Nat.le_of_ble_eq_true rfl) ?_
    simp only [↓cw_seq, ↓cw_block, ↓cw_region, ↓then_normal, ↓draw_false, ↓ow_nil, ↓ow_cons, ↓contO_eq, ↓op_assign, vW_some, setD_some, opd, ofConst, leaf, Fr.ofList, Nat.reduceAdd, List.length_cons, List.length_nil, Nat.zero_add, St.bump, Nat.add_assoc, List.size_toArray]
    refine loop23 l N (fun l' h' hw' => ihN l' h' hw') p bs rest depth σ _ hp hb (by have := L.len_cnt l; omega) l [] a m 1 _ _ rfl hrt (by omega) ⟨by simp only; omega, ?_, fun _ _ _ => rfl, fun _ _ => rfl⟩ hr hx hm hdn (.inl ⟨rfl, rfl⟩) (by simp only; omega) (.inl rfl) ?_ ?_ ?_ ?_ fun κ' fr' σ' he' hr' r6 r7 => ?_
    · first | exact Fresh.of (by repeat (first | exact (Fresh.freeH hf (by omega)) | refine FreeH.set ?_ (by omega))) (by repeat (first | exact (Fresh.freeT hf (by omega)) | refine FreeT.set ?_ (by omega) | refine FreeT.via (by assumption) ?_ (by omega)))
    · simp only [rd_set, rd_nil, reduceIte, reduceCtorEq]
    · simp only [rd_set, rd_nil, Nat.reduceEqDiff, reduceIte, reduceCtorEq]
    · simp only [rd_set, rd_nil, Nat.reduceEqDiff, reduceIte, reduceCtorEq]
    · simp only [rd_set, rd_nil, Nat.reduceEqDiff, reduceIte, reduceCtorEq]
    simp only [↓then_ret, ↓block_ret, ↓ret_ret, resW, resV, r6, r7, Tryd.f23]
    exact hQ κ' σ' he' hr'

theorem w_decode (l : L) (hrt : l.rt) (rest : List Int) (hc : l.cnt ≤ 16384) (hn : l.nest ≤ 64) (hb : l.enc.length + rest.length < 1152921504606846000) :
    PureW TS 10 [.sl (u8s (l.enc ++ 11 :: rest)) 0] (.t [.sl l.av 0, .i .i64 ((l.enc.length + 1 : Nat) : Int), .ne]) := by
  unfold PureW
  refine callW_of ft10 rfl (Nat.le_of_ble_eq_true rfl) ?_
  have hf : Fresh St.start := Fresh.start
  generalize St.start = σ at hf
  simp only [↓cw_seq, ↓cw_region, ↓then_normal, ↓draw_false, ↓ow_nil, ↓ow_cons, ↓contO_eq, ↓op_move, ↓op_assign, ↓op_box, ↓op_build, ↓op_call, vW_some, pW_some, setD_some, boxV, bldV, callV_some, arg_val, opd, opds, ofConst, leaf, rd_set, rd_nil, Fr.ofList, buildV, places, fillV, parts, put, flat, AV.cells, undF, infF, Nat.reduceEqDiff, Nat.reduceAdd, Nat.reduceLeDiff, reduceIte, reduceCtorEq, List.length_cons, List.length_nil, List.getElem?_cons_zero, List.append_nil, List.set_cons_zero, Nat.zero_add, and_self, newBox, St.bump, Nat.add_assoc, boxFree, List.size_toArray, hf.hb]
  refine FnW_call rfl (by kernel_rfl) (by kernel_rfl) (by kernel_rfl) (w_list (l.sz + 1) l (by omega) hrt _ (σ.nb + 5) (l.enc ++ 11 :: rest) rest 0 0 0 _ ?_ ?_ ?_ rfl (by omega) (by omega) ?_ fun κ σ1 he1 hr1 => ?_)
  · simp only [St.bump]; first | exact Fresh.of (by repeat (first | exact (Fresh.freeH hf (by omega)) | refine FreeH.set ?_ (by omega))) (by repeat (first | exact (Fresh.freeT hf (by omega)) | refine FreeT.set ?_ (by omega) | refine FreeT.via (by assumption) ?_ (by omega)))
  · simp only [St.bump]; omega
  · simp only [RS, St.bump, Tr.get_set, if_true]
    rfl
  · simp; omega
  have hr1' := hr1
  unfold RS at hr1'
  simp only [↓cw_skip, ↓cw_ret, ↓cw_seq, ↓cw_cond, ↓cw_region, ↓then_normal, ↓draw_false, ↓draw_true, ↓ow_nil, ↓ow_cons, ↓contO_eq, ↓op_move, ↓op_assign, ↓op_load, ↓op_nilCheck, ↓op_binOp, ↓op_fieldAddr, ↓op_extract, ↓ret_ret, ↓force_DC, ↓force_DQ, vW_some, bW_false, ifW_some, setD_some, on1_some, on2_some, ldV_eq, nilV, biV_eq, faV_eq, exV, resW, opd, ofConst, leaf, rd_set, rd_nil, binV, eqV, isConst, loadV, fieldAddrV, take?, hasStore, isStore, undF, aggF, infF, ifaceF, resV, Nat.reduceEqDiff, Nat.reduceAdd, Nat.reduceLeDiff, reduceIte, reduceCtorEq, Bool.or_false, Bool.or_true, Bool.and_true, List.any, List.length_cons, List.length_nil, List.getElem?_cons_zero, List.getElem?_cons_succ, List.drop_succ_cons, List.drop_zero, List.take_succ_cons, List.take_zero, Nat.zero_add, Bool.not_true, St.bump, Nat.add_assoc, List.size_toArray, hr1', Tryd.f10]
  exact ⟨by simp [untok, AV.strip], by simp [Go.Pv.good, Go.Pv.goods, L.goods]⟩
end Go.Pv
