/- The reader, where all is well: byte, kind, whole. (PvZ6) -/
import Derived.Test.YtigcolhieieakaaDoorPvZ8
namespace Go.Pv
open Go Go.Proofs Go.RowKit
set_option linter.unusedVariables false
set_option linter.unusedSimpArgs false
set_option maxRecDepth 100000

/-- A reader with no error. -/
def RS (σ : St) (p : Nat) (bs : List Int) (a m : Nat) : Prop := Tr.get σ.h p = some [.sl (u8s bs) 0, .i .i64 a, .i .i64 m, .ne, .i .i64 0]
structure ExtR (p : Nat) (σ σ' : St) : Prop where
  nb : σ.nb ≤ σ'.nb
  fresh : Fresh σ'
  h : ∀ l, l < σ.nb → l ≠ p → Tr.get σ'.h l = Tr.get σ.h l
  tk : ∀ k, k < σ.nb + 2 → Tr.get σ'.tk k = Tr.get σ.tk k
theorem ExtR.trans {p : Nat} {a b c : St} (h1 : ExtR p a b) (h2 : ExtR p b c) : ExtR p a c :=
  ⟨Nat.le_trans h1.nb h2.nb, h2.fresh, fun l hl hp => by rw [h2.h l (Nat.lt_of_lt_of_le hl h1.nb) hp, h1.h l hl hp], fun k hk => by rw [h2.tk k (by have := h1.nb; omega), h1.tk k hk]⟩

theorem u8s_get {l : List Int} {i : Nat} {x : Int} (h : l[i]? = some x) : (u8s l)[i]? = some (.i .u8 x) := by simp [u8s, h]
theorem fw_sub1 {n : Nat} (h : n < 4611686018427387904) : fw .i64 (((n + 1 : Nat) : Int) - 1) = (n : Int) := by unfold fw; simp only; rw [if_pos (by omega)]; omega

theorem w_byte (σ : St) (p : Nat) (bs : List Int) (a m : Nat) (x : Int) (Q : AV → St → Prop) (hf : Fresh σ) (hp : p < σ.nb) (hr : RS σ p bs a m) (hx : bs[a]? = some x) (ha : a < 4611686018427387904)
    (hQ : ∀ σ', ExtR p σ σ' → RS σ' p bs (a + 1) m → Q (.t [.i .u8 x, .b true]) σ') : CallW TS 37 [.p p 0] σ Q := by
  unfold RS at hr
  have hlt : a < bs.length := by
    rcases Nat.lt_or_ge a bs.length with h | h
    · exact h
    · rw [List.getElem?_eq_none h] at hx; cases hx
  have hd : decide ((a : Int) ≥ bs.length) = false := decide_eq_false (by omega)
  have h0 : (0 : Int) ≤ a := by omega
  refine callW_of ft37 rfl (Nat.le_of_ble_eq_true rfl) ?_
  simp only [↓cw_skip, ↓cw_ret, ↓cw_seq, ↓cw_cond, ↓cw_region, ↓then_normal, ↓draw_false, ↓draw_true, ↓ow_nil, ↓ow_cons, ↓ow_consG, ↓contO_eq, ↓op_move, ↓op_assign, ↓op_load, ↓op_store, ↓op_nilCheck, ↓op_binOp, ↓op_fieldAddr, ↓op_indexAddr, ↓op_pick, ↓op_call, ↓ret_ret, ↓force_DC, ↓force_DQ, ↓force_DO, vW_some, pW_some, bW_true, bW_false, ifW_some, setD_some, setD_none, on1_some, on2_some, ldV_eq, stV, nilV, biV_eq, faV_eq, pkV, arg_blt, resW, opd, opds, ofConst, leaf, pureV, rd_set, rd_nil, Fr.ofList, binV, intV, eqV, isConst, bltV, lenV, idxAddrV, loadV, fieldAddrV, take?, put, flat, AV.cells, hasStore, isStore, undF, aggF, infF, ifaceF, resV, Nat.reduceEqDiff, Nat.reduceAdd, Nat.reduceLeDiff, reduceIte, reduceCtorEq, Bool.or_false, Bool.or_true, Bool.and_true, List.any, List.length_cons, List.length_nil, List.getElem?_cons_zero, List.getElem?_cons_succ, List.drop_succ_cons, List.drop_zero, List.take_succ_cons, List.take_zero, List.set_cons_zero, List.set_cons_succ, beq_self_eq_true, Nat.add_zero, Nat.zero_add, and_self, Bool.not_true, St.bump, storeV, Tr.get_set, wantG, Option.bind, Nat.add_assoc, Int.toNat_natCast, List.size_toArray, hr, u8s_len, hd, fw_add1 ha, fw_sub1 ha, u8s_get hx, h0, Tryd.f37]
  refine hQ _ ⟨by simp only; omega, ?_, fun l hl hne => ?_, fun k hk => rfl⟩ ?_
  · first | exact Fresh.of (by repeat (first | exact (Fresh.freeH hf (by omega)) | refine FreeH.set ?_ (by omega))) (by repeat (first | exact (Fresh.freeT hf (by omega)) | refine FreeT.set ?_ (by omega) | refine FreeT.via (by assumption) ?_ (by omega)))
  · simp only [Tr.get_set]; rw [if_neg hne]
  · simp only [RS, Tr.get_set, if_true]

/-- The state behind a call, where only so many names are used up. -/
theorem ExtR.bump {p : Nat} {σ σ' : St} (h : ExtR p σ σ') (n : Nat) : ExtR p σ (σ'.bump n) := ⟨by have := h.nb; simp only [St.bump]; omega, h.fresh.bump n, h.h, h.tk⟩
theorem ExtR.of_bump {p m : Nat} {σ σ' : St} (h : ExtR p (σ.bump m) σ') : ExtR p σ σ' :=
  ⟨by have := h.nb; simp only [St.bump] at this; omega, h.fresh, fun l hl hp => h.h l (by simp only [St.bump]; omega) hp, fun k hk => h.tk k (by simp only [St.bump]; omega)⟩

/-- A kind's byte. -/
theorem w_rkind (σ : St) (p : Nat) (bs : List Int) (a m : Nat) (res : Int) (Q : AV → St → Prop) (hf : Fresh σ) (hp : p < σ.nb) (hr : RS σ p bs a m) (hres : res = 0 ∨ res = 127 ∨ res = 126) (hx : bs[a]? = some (kindB res)) (ha : a < 4611686018427387904)
    (hQ : ∀ σ', ExtR p σ σ' → RS σ' p bs (a + 1) m → Q (.i .u8 res) σ') : CallW TS 58 [.p p 0] σ Q := by
  refine callW_of ft58 rfl (Nat.le_of_ble_eq_true rfl) ?_
  simp only [↓cw_seq, ↓cw_region, ↓then_normal, ↓draw_false, ↓ow_nil, ↓ow_cons, ↓contO_eq, ↓op_move, ↓op_assign, ↓op_call, vW_some, setD_some, callV_some, arg_val, opd, opds, ofConst, leaf, rd_set, rd_nil, Fr.ofList, Nat.reduceEqDiff, Nat.reduceAdd, reduceIte, reduceCtorEq, List.length_cons, List.length_nil, List.append_nil, Nat.zero_add, St.bump, List.size_toArray]
  refine FnW_call rfl (by kernel_rfl) (by kernel_rfl) (by kernel_rfl) (w_byte _ p bs a m (kindB res) _ ?_ ?_ ?_ hx ha fun σ1 he hr1 => ?_)
  · exact (hf.bump 1).bump 7
  · simp only [St.bump]; omega
  · exact hr
  have he' : ExtR p σ σ1 := (he.of_bump : ExtR p (σ.bump 1) σ1).of_bump
  rcases hres with rfl | rfl | rfl
  · simp only [show kindB 0 = 64 from rfl]
    simp only [↓cw_skip, ↓cw_ret, ↓cw_seq, ↓cw_block, ↓cw_cond, ↓cw_region, ↓then_normal, ↓block_normal, ↓draw_false, ↓ow_nil, ↓ow_cons, ↓ow_consG, ↓contO_eq, ↓op_move, ↓op_assign, ↓op_binOp, ↓op_unOp, ↓op_extract, ↓op_pick, ↓ret_ret, ↓force_DC, ↓force_DO, vW_some, bW_true, ifW_some, setD_some, on1_some, on2_some, biV_eq, exV, pkV, resW, opd, ofConst, leaf, rd_set, rd_nil, binV, intV, unV, isConst, resV, Nat.reduceEqDiff, Nat.reduceAdd, reduceIte, reduceCtorEq, Bool.or_true, List.length_cons, List.length_nil, List.getElem?_cons_zero, List.getElem?_cons_succ, beq_self_eq_true, Nat.zero_add, Bool.not_true, St.bump, wantG, Option.bind, Nat.add_assoc, List.size_toArray, Tryd.f58]
    exact hQ _ (he'.bump _) hr1
  · simp only [show kindB 127 = 127 from rfl]
    simp only [↓cw_ret, ↓cw_seq, ↓cw_block, ↓cw_cond, ↓cw_region, ↓then_normal, ↓then_ret, ↓block_ret, ↓draw_false, ↓ow_nil, ↓ow_cons, ↓ow_consG, ↓contO_eq, ↓op_move, ↓op_assign, ↓op_binOp, ↓op_unOp, ↓op_extract, ↓op_pick, ↓ret_ret, ↓force_DC, ↓force_DO, ↓force_DOs, vW_some, bW_true, bW_false, ifW_some, setD_some, on1_some, on2_some, biV_eq, exV, pkV, resW, opd, ofConst, leaf, rd_set, rd_nil, binV, intV, unV, isConst, resV, Nat.reduceEqDiff, Nat.reduceAdd, reduceIte, reduceCtorEq, Bool.or_true, List.length_cons, List.length_nil, List.getElem?_cons_zero, List.getElem?_cons_succ, Int.reduceBEq, beq_self_eq_true, Nat.zero_add, Bool.not_true, St.bump, wantG, Option.bind, Nat.add_assoc, beqF, List.size_toArray, Tryd.f58]
    exact hQ _ (he'.bump _) hr1
  · simp only [show kindB 126 = 126 from rfl]
    simp only [↓cw_ret, ↓cw_seq, ↓cw_block, ↓cw_cond, ↓cw_region, ↓then_normal, ↓then_ret, ↓block_ret, ↓draw_false, ↓ow_nil, ↓ow_cons, ↓ow_consG, ↓contO_eq, ↓op_move, ↓op_assign, ↓op_binOp, ↓op_unOp, ↓op_extract, ↓op_pick, ↓ret_ret, ↓force_DC, ↓force_DO, vW_some, bW_true, bW_false, ifW_some, setD_some, on1_some, on2_some, biV_eq, exV, pkV, resW, opd, ofConst, leaf, rd_set, rd_nil, binV, intV, unV, isConst, resV, Nat.reduceEqDiff, Nat.reduceAdd, reduceIte, reduceCtorEq, Bool.or_true, List.length_cons, List.length_nil, List.getElem?_cons_zero, List.getElem?_cons_succ, Int.reduceBEq, beq_self_eq_true, Nat.zero_add, Bool.not_true, St.bump, wantG, Option.bind, Nat.add_assoc, List.size_toArray, Tryd.f58]
    exact hQ _ (he'.bump _) hr1

theorem not128_nat (v : Nat) (h : v < 256) : IntKind.wrap .u8 ((BitVec.ofInt IntKind.u8.bits (v : Int) &&& ~~~BitVec.ofInt IntKind.u8.bits 128).toNat : Int) = ((v % 128 : Nat) : Int) := by
  have := List.all_eq_true.1 not128_lt v (List.mem_range.2 h)
  rw [beq_iff_eq] at this
  exact this
theorem shl7_u64 (q : Nat) (h : q * 128 < 18446744073709551616) : fw .u64 ((q : Int) * ((2 ^ min (Int.toNat 7) (IntKind.bits .u64) : Nat) : Int)) = ((q * 128 : Nat) : Int) := by
  have : (2 ^ min (Int.toNat 7) (IntKind.bits .u64) : Nat) = 128 := by decide
  rw [this]
  unfold fw; simp only; rw [if_pos (by omega)]; omega
theorem or_u64 (q b : Nat) (hb : b < 128) (hq : q * 128 + b < 18446744073709551616) : IntKind.wrap .u64 ((BitVec.ofInt IntKind.u64.bits ((q * 128 : Nat) : Int) ||| BitVec.ofInt IntKind.u64.bits (b : Int)).toNat : Int) = ((q * 128 + b : Nat) : Int) := by
  have h1 : (BitVec.ofInt IntKind.u64.bits ((q * 128 : Nat) : Int) ||| BitVec.ofInt IntKind.u64.bits (b : Int)).toNat = q * 128 + b := by
    rw [BitVec.toNat_or, BitVec.ofInt_natCast, BitVec.ofInt_natCast, BitVec.toNat_ofNat, BitVec.toNat_ofNat]
    rw [Nat.mod_eq_of_lt (show q * 128 < 2 ^ IntKind.u64.bits from by show _ < 2 ^ 64; omega), Nat.mod_eq_of_lt (show b < 2 ^ IntKind.u64.bits from by show _ < 2 ^ 64; omega)]
    have := Nat.shiftLeft_add_eq_or_of_lt (i := 7) (b := b) hb q
    rw [Nat.shiftLeft_eq] at this
    exact this.symm
  rw [h1]
  simp [IntKind.wrap, IntKind.signed, IntKind.bits]
  omega
theorem fw_u64_of (v : Nat) (h : v < 18446744073709551616) : fw .u64 (v : Int) = (v : Int) := by unfold fw; simp only; rw [if_pos (by omega)]

/-- A number of one byte, or two. -/
theorem get_app1 (x : Int) (r : List Int) : (u8s (x :: r))[0]? = some (.i .u8 x) := rfl
theorem w_takeU1 (v : Nat) (rest : List Int) (hv : v < 128) (hl : rest.length < 4611686018427387903) : PureW TS 74 [.sl (u8s ((v : Int) :: rest)) 0, .i .i64 32] (.t [.i .u64 v, .i .i64 1, .ne]) := by
  unfold PureW
  refine callW_of ft74 rfl (Nat.le_of_ble_eq_true rfl) ?_
  generalize St.start = σ
  have h78 : PureW TS 78 [.i .i64 32] .ne := by
    unfold PureW
    refine callW_of ft78 rfl (Nat.le_of_ble_eq_true rfl) ?_
    generalize St.start = σ
    simp only [↓cw_skip, ↓cw_ret, ↓cw_seq, ↓cw_cond, ↓cw_region, ↓then_normal, ↓draw_false, ↓ow_nil, ↓ow_cons, ↓ow_consG, ↓contO_eq, ↓op_move, ↓op_assign, ↓op_binOp, ↓op_pick, ↓ret_ret, ↓force_DC, ↓force_DO, vW_some, bW_true, bW_false, ifW_some, setD_some, on2_some, biV_eq, pkV, resW, opd, ofConst, leaf, rd_set, rd_nil, Fr.ofList, binV, intV, isConst, resV, Nat.reduceEqDiff, Nat.reduceAdd, reduceIte, reduceCtorEq, Bool.or_true, List.length_cons, List.length_nil, List.getElem?_cons_zero, List.getElem?_cons_succ, decide_false, Int.reduceLT, Int.reduceGT, beq_self_eq_true, Nat.zero_add, St.bump, wantG, Option.bind, Nat.add_assoc, List.size_toArray, Tryd.f78]
    exact ⟨rfl, rfl⟩
  have hlt : decide ((0 : Int) < ((rest.length + 1 : Nat) : Int)) = true := decide_eq_true (by omega)
  have hv1 : decide ((v : Int) < 128) = true := decide_eq_true (by omega)
  have h79 : PureW TS 79 [.sl (u8s ((v : Int) :: rest)) 0, .i .i64 32] (.t [.i .i64 1, .ne]) := by
    unfold PureW
    refine callW_of ft79 rfl (Nat.le_of_ble_eq_true rfl) ?_
    generalize St.start = σ
    simp only [↓cw_seq, ↓cw_block, ↓cw_region, ↓then_normal, ↓draw_false, ↓ow_nil, ↓ow_cons, ↓contO_eq, ↓op_move, ↓op_assign, ↓op_binOp, ↓op_call, vW_some, pW_some, setD_some, on2_some, biV_eq, arg_blt, opd, opds, ofConst, leaf, pureV, rd_set, rd_nil, Fr.ofList, binV, intV, isConst, bltV, lenV, undF, Nat.reduceEqDiff, Nat.reduceAdd, reduceIte, reduceCtorEq, Bool.or_true, List.length_cons, List.length_nil, Int.reduceEq, Nat.zero_add, St.bump, Nat.add_assoc, List.size_toArray, u8s_len]
    rw [cw_loop]
    simp only [↓cw_skip, ↓cw_ret, ↓cw_seq, ↓cw_block, ↓cw_cond, ↓cw_region, ↓then_normal, ↓then_ret, ↓block_ret, ↓draw_false, ↓ow_nil, ↓ow_cons, ↓contO_eq, ↓op_move, ↓op_assign, ↓op_load, ↓op_binOp, ↓op_indexAddr, ↓ret_ret, ↓force_DC, vW_some, bW_true, bW_false, ifW_some, setD_some, on1_some, on2_some, ldV_eq, biV_eq, resW, opd, ofConst, leaf, rd_set, rd_nil, binV, intV, isConst, idxAddrV, loadV, take?, AV.cells, undF, aggF, infF, resV, Nat.reduceEqDiff, Nat.reduceAdd, Nat.reduceLeDiff, reduceIte, reduceCtorEq, Bool.or_false, Bool.or_true, List.length_cons, List.length_nil, List.getElem?_cons_zero, List.drop_zero, List.take_succ_cons, List.take_zero, Int.reduceBEq, Nat.zero_add, St.bump, Nat.add_assoc, List.size_toArray, hlt, get_app1, show Int.toNat 0 = 0 from rfl, hv1, Int.le_refl, show fw .i64 (32 + 7) = 39 from rfl, show fw .i64 (39 - 1) = 38 from rfl, show fw .i64 (Int.tdiv 38 7) = 5 from rfl, show fw .i64 (0 + 1) = 1 from rfl, Tryd.f79]
    exact ⟨rfl, rfl⟩
  simp only [↓cw_seq, ↓cw_region, ↓then_normal, ↓draw_false, ↓ow_nil, ↓ow_cons, ↓contO_eq, ↓op_move, ↓op_assign, ↓op_call, vW_some, setD_some, callV_some, arg_val, opd, opds, ofConst, leaf, rd_set, rd_nil, Fr.ofList, Nat.reduceEqDiff, Nat.reduceAdd, reduceIte, reduceCtorEq, List.length_cons, List.length_nil, List.append_nil, Nat.zero_add, St.bump, List.size_toArray]
  refine pc78.call rfl h78 ?_
  simp only [↓cw_skip, ↓cw_seq, ↓cw_cond, ↓cw_region, ↓then_normal, ↓draw_false, ↓ow_nil, ↓ow_cons, ↓contO_eq, ↓op_move, ↓op_assign, ↓op_binOp, ↓op_call, ↓force_DC, vW_some, bW_false, ifW_some, setD_some, on2_some, biV_eq, callV_some, arg_val, opd, opds, ofConst, leaf, rd_set, rd_nil, binV, eqV, isConst, ifaceF, Nat.reduceEqDiff, Nat.reduceAdd, reduceIte, reduceCtorEq, Bool.or_true, Bool.and_true, List.length_cons, List.length_nil, List.append_nil, Nat.zero_add, Bool.not_true, St.bump, Nat.add_assoc, List.size_toArray]
  refine pc79.call (by simp [untok, AV.strip, Go.Pv.goods, Go.Pv.good, goods_u8s]) h79 ?_
  simp only [↓cw_skip, ↓cw_seq, ↓cw_block, ↓cw_cond, ↓cw_region, ↓then_normal, ↓draw_false, ↓ow_nil, ↓ow_cons, ↓contO_eq, ↓op_move, ↓op_assign, ↓op_binOp, ↓op_extract, ↓force_DC, vW_some, bW_false, ifW_some, setD_some, on1_some, on2_some, biV_eq, exV, opd, ofConst, leaf, rd_set, rd_nil, binV, intV, eqV, isConst, ifaceF, Nat.reduceEqDiff, Nat.reduceAdd, reduceIte, reduceCtorEq, Bool.or_true, Bool.and_true, List.length_cons, List.length_nil, List.getElem?_cons_zero, List.getElem?_cons_succ, Nat.zero_add, Bool.not_true, St.bump, Nat.add_assoc, List.size_toArray, show fw .i64 (1 - 1) = 0 from rfl]
  rw [cw_loop]
  have hs := shl7_u64 0 (by decide)
  have ho := or_u64 0 v hv (by omega)
  simp only [Nat.zero_mul, Nat.zero_add, Int.natCast_zero] at hs ho
  simp only [↓cw_skip, ↓cw_seq, ↓cw_block, ↓cw_cond, ↓cw_region, ↓then_normal, ↓block_normal, ↓draw_false, ↓ow_nil, ↓ow_cons, ↓contO_eq, ↓op_move, ↓op_assign, ↓op_load, ↓op_binOp, ↓op_convert, ↓op_indexAddr, ↓force_DC, vW_some, bW_true, ifW_some, setD_some, on1_some, on2_some, ldV_eq, biV_eq, opd, ofConst, leaf, rd_set, rd_nil, binV, intV, shiftV, convV, isConst, idxAddrV, loadV, take?, AV.cells, undF, aggF, infF, Nat.reduceEqDiff, Nat.reduceAdd, Nat.reduceLeDiff, reduceIte, reduceCtorEq, Bool.or_false, Bool.or_true, List.length_cons, List.length_nil, List.getElem?_cons_zero, List.drop_zero, List.take_succ_cons, List.take_zero, decide_true, Int.reduceLT, Nat.zero_add, St.bump, Nat.add_assoc, List.size_toArray, show Int.toNat 0 = 0 from rfl, Int.le_refl, get_app1, hs, not128_nat v (by omega), Nat.mod_eq_of_lt hv, fw_u64_of v (by omega), ho, show fw .i64 (0 - 1) = -1 from rfl]
  rw [cw_loop]
  simp only [↓cw_skip, ↓cw_ret, ↓cw_exit, ↓cw_seq, ↓cw_cond, ↓cw_region, ↓then_normal, ↓then_exit, ↓draw_false, ↓ow_nil, ↓ow_cons, ↓ow_consG, ↓contO_eq, ↓op_move, ↓op_assign, ↓op_binOp, ↓op_pick, ↓ret_ret, ↓force_DC, ↓force_DQ, ↓force_DOs, block_exit, vW_some, bW_true, bW_false, ifW_some, setD_some, on2_some, biV_eq, pkV, resW, nbeq, opd, ofConst, leaf, rd_set, rd_nil, binV, intV, isConst, resV, Nat.reduceEqDiff, Nat.reduceAdd, reduceIte, reduceCtorEq, Bool.or_false, Bool.or_true, List.length_cons, List.length_nil, List.getElem?_cons_zero, List.getElem?_cons_succ, decide_false, Int.reduceLT, Int.reduceGE, beq_self_eq_true, Nat.zero_add, St.bump, wantG, Option.bind, Nat.add_assoc, beqT, List.size_toArray, show fw .i64 (1 - 1) = 0 from rfl, show fw .i64 (7 * 0) = 0 from rfl, show fw .i64 (32 - 0) = 32 from rfl, Tryd.f74]
  exact ⟨rfl, rfl⟩
end Go.Pv
