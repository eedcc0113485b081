/- The program's numbers with a sign off bytes, whatever the bytes are: TakeS. (PvZ6) -/
import Derived.Test.YtigcolhieieakaaDoorPvD4
namespace Go.Pv
open Go Go.Proofs Go.RowKit
set_option linter.unusedVariables false
set_option linter.unusedSimpArgs false
set_option maxRecDepth 100000

theorem wrap_i64 (n : Int) : IntKind.wrap .i64 n = w64 n := by
  unfold w64
  simp [IntKind.wrap, IntKind.signed, IntKind.bits]
  split <;> omega
theorem fw_i64 (n : Int) : fw .i64 n = w64 n := by
  unfold fw
  simp only
  split
  · rw [w64_in (by assumption)]
  · exact wrap_i64 n
theorem or_i64 (x : Int) (g : Nat) (h7 : x % 128 = 0) (hg : g < 128) : IntKind.wrap .i64 ((BitVec.ofInt IntKind.i64.bits x ||| BitVec.ofInt IntKind.i64.bits (g : Int)).toNat : Int) = w64 (x + g) := by
  have h1 : (BitVec.ofInt IntKind.i64.bits x ||| BitVec.ofInt IntKind.i64.bits (g : Int)).toNat = (x % 18446744073709551616).toNat + g := by
    rw [BitVec.toNat_or, BitVec.ofInt_natCast, BitVec.toNat_ofNat, BitVec.toNat_ofInt]
    rw [Nat.mod_eq_of_lt (show g < 2 ^ IntKind.i64.bits from by show _ < 2 ^ 64; omega)]
    show (x % (2 ^ 64 : Nat)).toNat ||| g = _
    rw [show ((2 ^ 64 : Nat) : Int) = 18446744073709551616 by decide]
    obtain ⟨q, hq⟩ : ∃ q : Nat, (x % 18446744073709551616).toNat = q * 128 := ⟨(x % 18446744073709551616).toNat / 128, by omega⟩
    rw [hq]
    have := Nat.shiftLeft_add_eq_or_of_lt (i := 7) (b := g) hg q
    rw [Nat.shiftLeft_eq] at this
    exact this.symm
  rw [h1, wrap_i64]
  unfold w64; omega
theorem shl7_i64 (v : Int) : fw .i64 (v * ((2 ^ min (Int.toNat 7) (IntKind.bits .i64) : Nat) : Int)) = w64 (v * 128) := by
  rw [show (2 ^ min (Int.toNat 7) (IntKind.bits .i64) : Nat) = 128 from by decide]
  exact fw_i64 _
theorem w64_mul (v : Int) : w64 (v * 128) % 128 = 0 := by unfold w64; omega

/-- From the top, with the sign. -/
def tsg (neg : Bool) : List Nat → Int
  | [] => if neg then -1 else 0
  | c :: cs => (c : Int) + 128 * tsg neg cs
theorem tsg_val (neg : Bool) : ∀ l : List Nat, tsg neg l = (val l : Int) - (if neg then (128 ^ l.length : Nat) else 0 : Nat)
  | [] => by cases neg <;> simp [tsg, val]
  | c :: cs => by
    simp only [tsg, val, tsg_val neg cs, List.length_cons, Nat.pow_succ]
    cases neg <;> simp <;> omega
theorem sval_tsg (l : List Nat) (h : l ≠ []) (hl : ∀ x ∈ l, x < 128) : sval l = tsg (decide (64 ≤ l.getLast h)) l := by
  have h1 := val_last l h
  have h2 := val_lt l.dropLast fun x hx => hl x (List.dropLast_subset l hx)
  have h3 := hl _ (List.getLast_mem h)
  rw [List.length_dropLast] at h2
  rw [tsg_val]
  unfold sval
  by_cases hc : 64 ≤ l.getLast h
  · have : 128 ^ (l.length - 1) * 64 ≤ 128 ^ (l.length - 1) * l.getLast h := Nat.mul_le_mul (Nat.le_refl _) hc
    rw [if_neg (by omega), decide_eq_true hc, if_pos rfl]
  · have : 128 ^ (l.length - 1) * l.getLast h + 128 ^ (l.length - 1) ≤ 128 ^ (l.length - 1) * 64 := by rw [← Nat.mul_succ]; exact Nat.mul_le_mul (Nat.le_refl _) (by omega)
    rw [if_pos (by omega), decide_eq_false hc]; simp
theorem tsg_drop {l : List Nat} {i c : Nat} (neg : Bool) (h : l[i]? = some c) : tsg neg (l.drop i) = (c : Int) + 128 * tsg neg (l.drop (i + 1)) := by
  have hi := get_lt h
  rw [List.getElem?_eq_getElem hi] at h
  injection h with h
  rw [List.drop_eq_getElem_cons hi, h, tsg]

theorem sign_all : (List.range 128).all (fun c => (IntKind.wrap .u8 ((BitVec.ofInt IntKind.u8.bits (c : Int) &&& BitVec.ofInt IntKind.u8.bits 64).toNat : Int) != 0) == decide (64 ≤ c)) = true := by decide
theorem sign_of (c : Nat) (h : c < 128) : (IntKind.wrap .u8 ((BitVec.ofInt IntKind.u8.bits (c : Int) &&& BitVec.ofInt IntKind.u8.bits 64).toNat : Int) != 0) = decide (64 ≤ c) := by
  have := List.all_eq_true.1 sign_all c (List.mem_range.2 h)
  exact beq_iff_eq.1 this
theorem top_all : (List.range 128).all (fun c => decide ((fw .i8 (fw .u8 ((c : Int) * ((2 ^ min (Int.toNat 1) (IntKind.bits .u8) : Nat) : Int)))).fdiv ((2 ^ min (Int.toNat 1) (IntKind.bits .i8) : Nat) : Int) = sl1 c)) = true := by decide
theorem top_of (c : Nat) (h : c < 128) : (fw .i8 (fw .u8 ((c : Int) * ((2 ^ min (Int.toNat 1) (IntKind.bits .u8) : Nat) : Int)))).fdiv ((2 ^ min (Int.toNat 1) (IntKind.bits .i8) : Nat) : Int) = sl1 c := by
  have := List.all_eq_true.1 top_all c (List.mem_range.2 h)
  exact of_decide_eq_true this

noncomputable def K73 : Code :=  cl (cr (cl (cr (cr (cr (cr (cr (cr (fb Tryd.f73)))))))))
theorem loop73 (bs l : List Nat) (w : Int) (g : GrpOk 10 bs l) (neg : Bool) (hbb : ∀ c ∈ bs, c < 256) (Q : Ex → Fr → St → Prop) :
    ∀ k fr σ, k ≤ l.length → fr.rd 0 = .sl (nat8 bs) 0 → fr.rd 1 = .i .i64 w → fr.rd 8 = .i .i64 l.length → fr.rd 10 = .i .i64 (w64 (tsg neg (l.drop k))) → fr.rd 11 = .i .i64 ((k : Int) - 1) →
      (∀ fr σ, fr.rd 0 = .sl (nat8 bs) 0 → fr.rd 1 = .i .i64 w → fr.rd 8 = .i .i64 l.length → fr.rd 10 = .i .i64 (w64 (tsg neg l)) → Q (.exit 0) fr σ) → CodeW TS K73 fr σ Q := by
  intro k
  induction k with
  | zero =>
    intro fr σ hk r0 r1 r8 r10 r11 hQ
    have hd : decide (((0 : Nat) : Int) - 1 ≥ 0) = false := by decide
    simp only [K73, fb, Tryd.f73, cl, cr, Option.getD]
    rw [cw_loop]
    simp only [↓cw_exit, ↓cw_seq, ↓cw_cond, ↓cw_region, ↓then_normal, ↓then_exit, ↓draw_false, ↓ow_nil, ↓ow_cons, ↓contO_eq, ↓op_move, ↓op_binOp, ↓force_DC, vW_some, bW_false, ifW_some, setD_some, on2_some, biV_eq, opd, ofConst, leaf, rd_set, binV, intV, isConst, Nat.reduceEqDiff, Nat.reduceAdd, reduceIte, Bool.or_true, List.length_cons, List.length_nil, Nat.zero_add, St.bump, List.size_toArray, r11, hd]
    refine hQ _ _ ?_ ?_ ?_ ?_
    · simp only [rd_set, reduceIte, reduceCtorEq, r0]
    · simp only [rd_set, Nat.reduceEqDiff, reduceIte, r1]
    · simp only [rd_set, Nat.reduceEqDiff, reduceIte, r8]
    · simp only [rd_set, Nat.reduceEqDiff, reduceIte, List.drop_zero, r10]
  | succ k ih =>
    intro fr σ hk r0 r1 r8 r10 r11 hQ
    have e : ((k + 1 : Nat) : Int) - 1 = (k : Int) := by omega
    rw [e] at r11
    have hd : decide ((k : Int) ≥ 0) = true := decide_eq_true (by omega)
    have h0i : (0 : Int) ≤ k := by omega
    have hlb := g.len
    obtain ⟨c, hc⟩ : ∃ c, bs[k]? = some c := ⟨_, List.getElem?_eq_getElem (show k < bs.length by omega)⟩
    have hlc := g.get k c hc (by omega)
    have hv := tsg_drop neg hlc
    have h256 := hbb c (List.mem_of_getElem? hc)
    have hmost := g.most
    have hs := shl7_i64 (w64 (tsg neg (l.drop (k + 1))))
    have ho := or_i64 (w64 (w64 (tsg neg (l.drop (k + 1))) * 128)) (c % 128) (w64_mul _) (by omega)
    have hcv : fw .i64 ((c % 128 : Nat) : Int) = ((c % 128 : Nat) : Int) := by unfold fw; simp only; rw [if_pos (by omega)]
    have hfs : fw .i64 ((k : Int) - 1) = (k : Int) - 1 := by unfold fw; simp only; rw [if_pos (by omega)]
    have hst := w64_step (tsg neg (l.drop (k + 1))) ((c % 128 : Nat) : Int) _ _ rfl rfl
    simp only [K73, fb, Tryd.f73, cl, cr, Option.getD]
    rw [cw_loop]
    simp only [↓cw_skip, ↓cw_seq, ↓cw_block, ↓cw_cond, ↓cw_region, ↓then_normal, ↓block_normal, ↓draw_false, ↓ow_nil, ↓ow_cons, ↓contO_eq, ↓op_move, ↓op_assign, ↓op_load, ↓op_binOp, ↓op_convert, ↓op_indexAddr, ↓force_DC, vW_some, bW_true, ifW_some, setD_some, on1_some, on2_some, ldV_eq, biV_eq, opd, ofConst, leaf, rd_set, binV, intV, shiftV, convV, isConst, idxAddrV, loadV, take?, AV.cells, undF, aggF, infF, Nat.reduceEqDiff, Nat.reduceAdd, Nat.reduceLeDiff, reduceIte, reduceCtorEq, Bool.or_false, Bool.or_true, List.length_cons, List.length_nil, List.getElem?_cons_zero, List.drop_zero, List.take_succ_cons, List.take_zero, decide_true, Int.reduceLT, Nat.zero_add, St.bump, Nat.add_assoc, Int.toNat_natCast, List.size_toArray, r0, r10, r11, h0i, nat8_get hc, hs, not128_nat c h256, hcv, ho, hfs, hst]
    refine ih _ _ (by omega) ?_ ?_ ?_ ?_ ?_ hQ
    · simp only [rd_set, reduceIte, reduceCtorEq, r0]
    · simp only [rd_set, Nat.reduceEqDiff, reduceIte, r1]
    · simp only [rd_set, Nat.reduceEqDiff, reduceIte, r8]
    · simp only [rd_set, Nat.reduceEqDiff, reduceIte]
      rw [hv]
    · simp only [rd_set, Nat.reduceEqDiff, reduceIte]

def takeSV (r : Rv Int) : AV := match r with
  | .ok v n => .t [.i .i64 v, .i .i64 n, .ne]
  | .bad e => .t [.i .i64 0, .i .i64 0, errV e]
theorem w_takeSA (bs : List Nat) (w most lf : Nat) (hw : w = 32 ∧ most = 5 ∧ lf = 4 ∨ w = 64 ∧ most = 10 ∧ lf = 1) (hbb : ∀ c ∈ bs, c < 256) (hb : bs.length < 4611686018427387904) : PureW TS 73 [.sl (nat8 bs) 0, .i .i64 (w : Int)] (takeSV (tS w bs)) := by
  unfold PureW
  refine callW_of ft73 rfl (Nat.le_of_ble_eq_true rfl) ?_
  generalize St.start = σ
  have hmw : (w + 6) / 7 = most := by omega
  simp only [↓cw_seq, ↓cw_region, ↓then_normal, ↓draw_false, ↓ow_nil, ↓ow_cons, ↓contO_eq, ↓op_move, ↓op_assign, ↓op_call, vW_some, setD_some, callV_some, arg_val, opd, opds, ofConst, leaf, rd_set, rd_nil, Fr.ofList, Nat.reduceEqDiff, Nat.reduceAdd, reduceIte, reduceCtorEq, List.length_cons, List.length_nil, List.append_nil, Nat.zero_add, St.bump, List.size_toArray]
  refine pc78.call rfl (w_width w (by omega)) ?_
  simp only [↓cw_skip, ↓cw_seq, ↓cw_cond, ↓cw_region, ↓then_normal, ↓draw_false, ↓ow_nil, ↓ow_cons, ↓contO_eq, ↓op_move, ↓op_assign, ↓op_binOp, ↓op_call, ↓force_DC, vW_some, bW_false, ifW_some, setD_some, on2_some, biV_eq, callV_some, arg_val, opd, opds, ofConst, leaf, rd_set, rd_nil, binV, eqV, isConst, ifaceF, Nat.reduceEqDiff, Nat.reduceAdd, reduceIte, reduceCtorEq, Bool.or_true, Bool.and_true, List.length_cons, List.length_nil, List.append_nil, Nat.zero_add, Bool.not_true, St.bump, Nat.add_assoc, List.size_toArray]
  refine pc79.call (by simp [untok, AV.strip, Go.Pv.goods, Go.Pv.good, goods_nat8]) (w_length bs w most (by omega) hb) ?_
  cases hg : grp most bs with
  | bad e =>
    simp only [lenV2, errV]
    simp only [↓cw_ret, ↓cw_seq, ↓cw_cond, ↓cw_region, ↓then_normal, ↓then_ret, ↓draw_false, ↓ow_nil, ↓ow_cons, ↓contO_eq, ↓op_move, ↓op_assign, ↓op_binOp, ↓op_extract, ↓ret_ret, ↓force_DC, vW_some, bW_true, ifW_some, setD_some, on1_some, on2_some, biV_eq, exV, resW, opd, ofConst, leaf, rd_set, rd_nil, binV, eqV, isConst, ifaceF, resV, Nat.reduceEqDiff, Nat.reduceAdd, reduceIte, reduceCtorEq, Bool.or_true, List.length_cons, List.length_nil, List.getElem?_cons_zero, List.getElem?_cons_succ, Nat.zero_add, Bool.not_false, St.bump, Nat.add_assoc, List.size_toArray, Tryd.f73]
    simp only [tS, hmw, hg, takeSV]
    exact ⟨rfl, rfl⟩
  | ok l =>
    have g := grp_ok _ _ _ hg
    have g' : GrpOk 10 bs l := ⟨g.ne, by have := g.most; omega, g.len, g.get, g.mid, g.last, g.lt⟩
    have hmost := g.most
    have hpos := List.length_pos_iff.2 g.ne
    have hlb := g.len
    have h1 : fw .i64 ((l.length : Int) - 1) = ((l.length - 1 : Nat) : Int) := by unfold fw; simp only; rw [if_pos (by omega)]; omega
    obtain ⟨c, hc⟩ : ∃ c, bs[l.length - 1]? = some c := ⟨_, List.getElem?_eq_getElem (show l.length - 1 < bs.length by omega)⟩
    have h7 := g.last _ c hc (by omega)
    have hcl : l.getLast g.ne = c := by
      have h6 := g.get _ c hc (by omega)
      rw [Nat.mod_eq_of_lt h7, ← List.getLast?_eq_getElem?, List.getLast?_eq_some_getLast g.ne] at h6
      exact Option.some.inj h6
    have h0 : (0 : Int) ≤ ((l.length - 1 : Nat) : Int) := by omega
    have hsv := sval_tsg l g.ne g.lt
    rw [hcl] at hsv
    have hstart : ∀ (Q : Ex → Fr → St → Prop) fr σ, fr.rd 0 = .sl (nat8 bs) 0 → fr.rd 1 = .i .i64 (w : Int) → fr.rd 8 = .i .i64 l.length → fr.rd 10 = .i .i64 (if decide (64 ≤ c) = true then -1 else 0) → fr.rd 11 = .i .i64 ((l.length - 1 : Nat) : Int) →
        (∀ fr σ, fr.rd 0 = .sl (nat8 bs) 0 → fr.rd 1 = .i .i64 (w : Int) → fr.rd 8 = .i .i64 l.length → fr.rd 10 = .i .i64 (w64 (sval l)) → Q (.exit 0) fr σ) → CodeW TS K73 fr σ Q := fun Q fr σ q0 q1 q8 q10 q11 hQ => by
      refine loop73 bs l w g' (decide (64 ≤ c)) hbb Q l.length fr σ (Nat.le_refl _) q0 q1 q8 ?_ ?_ fun fr σ q0 q1 q8 q10 => hQ fr σ q0 q1 q8 (by rw [q10, hsv])
      · rw [q10, List.drop_length]; congr 1
        cases decide (64 ≤ c) <;> rfl
      · rw [q11]; congr 1; omega
    have h2 : fw .i64 (7 * ((l.length - 1 : Nat) : Int)) = 7 * ((l.length - 1 : Nat) : Int) := by unfold fw; simp only; rw [if_pos (by omega)]
    have h3 : fw .i64 ((w : Int) - 7 * ((l.length - 1 : Nat) : Int)) = (w : Int) - 7 * ((l.length - 1 : Nat) : Int) := by unfold fw; simp only; rw [if_pos (by omega)]
    have fin : ∀ fr σ, fr.rd 0 = .sl (nat8 bs) 0 → fr.rd 1 = .i .i64 (w : Int) → fr.rd 8 = .i .i64 l.length → fr.rd 10 = .i .i64 (w64 (sval l)) → CodeW TS (cr (cr (cr (cr (cr (cr (cr (fb Tryd.f73)))))))) fr σ (retW TS Tryd.f73.results.toList fun v _ => untok v = takeSV (tS w bs) ∧ good (takeSV (tS w bs)) = true) := fun fr σ q0 q1 q8 q10 => by
      simp only [fb, Tryd.f73, cr, Option.getD]
      have hres : tS w bs = if -(2 ^ (w - 1) : Nat) ≤ sval l ∧ sval l < (2 ^ (w - 1) : Nat) then .ok (sval l) l.length else .bad 6 := by simp only [tS, hmw, hg]
      have hrng : (-(2 ^ (w - 1) : Nat) ≤ sval l ∧ sval l < (2 ^ (w - 1) : Nat)) ↔ (l.length = most → -(if lf = 4 then 8 else 1 : Int) ≤ sl1 c ∧ sl1 c < (if lf = 4 then 8 else 1 : Int)) := by
        rcases hw with ⟨rfl, rfl, rfl⟩ | ⟨rfl, rfl, rfl⟩
        · rw [sval_rng32 l g.ne g.lt hmost, hcl]; rfl
        · rw [sval_rng64 l g.ne g.lt hmost, hcl]; rfl
      have hin : (-(2 ^ (w - 1) : Nat) ≤ sval l ∧ sval l < (2 ^ (w - 1) : Nat)) → w64 (sval l) = sval l := fun h => w64_in (by
        rcases hw with ⟨rfl, rfl, rfl⟩ | ⟨rfl, rfl, rfl⟩ <;> simp only [Nat.reduceSub, Nat.reducePow] at h <;> omega)
      by_cases h5 : l.length = most
      · have hleft : (w : Int) - 7 * ((l.length - 1 : Nat) : Int) = (lf : Int) := by omega
        have hl7 : decide ((lf : Int) < 7) = true := decide_eq_true (by omega)
        have hlf : fw .i64 (lf : Int) = (lf : Int) := fw_nat (by omega)
        have hlf1 : fw .i64 ((lf : Int) - 1) = ((lf - 1 : Nat) : Int) := by unfold fw; simp only; rw [if_pos (by omega)]; omega
        have hlf0 : ¬ (((lf - 1 : Nat) : Int) < 0) := by omega
        have hpow : (2 ^ min (lf - 1) (IntKind.bits .i8) : Nat) = if lf = 4 then 8 else 1 := by rcases hw with ⟨_, _, rfl⟩ | ⟨_, _, rfl⟩ <;> rfl
        have hs5 : -64 ≤ sl1 c ∧ sl1 c < 64 := by unfold sl1; split <;> omega
        have hfd : (sl1 c).fdiv ((2 ^ min (lf - 1) (IntKind.bits .i8) : Nat) : Int) = if lf = 4 then sl1 c / 8 else sl1 c := by
          rw [hpow, Int.fdiv_eq_ediv_of_nonneg _ (by split <;> decide)]
          split <;> simp
        by_cases hok : (if lf = 4 then sl1 c / 8 else sl1 c) = 0 ∨ (if lf = 4 then sl1 c / 8 else sl1 c) = -1
        · have hr : -(2 ^ (w - 1) : Nat) ≤ sval l ∧ sval l < (2 ^ (w - 1) : Nat) := hrng.2 fun _ => by
            rcases hw with ⟨rfl, rfl, rfl⟩ | ⟨rfl, rfl, rfl⟩
            · simp only [if_true] at hok ⊢; omega
            · simp only [Nat.reduceEqDiff, if_false] at hok ⊢; omega
          rw [hres, if_pos hr]
          rw [hin hr] at q10
          rcases hok with h | h
          · have hb1 : ((if lf = 4 then sl1 c / 8 else sl1 c) != 0) = false := by rw [h]; rfl
            simp only [↓cw_skip, ↓cw_ret, ↓cw_seq, ↓cw_cond, ↓cw_region, ↓then_normal, ↓draw_false, ↓ow_nil, ↓ow_cons, ↓ow_consG, ↓contO_eq, ↓op_move, ↓op_assign, ↓op_load, ↓op_binOp, ↓op_convert, ↓op_indexAddr, ↓op_pick, ↓ret_ret, ↓force_DC, ↓force_DOs, vW_some, bW_true, bW_false, ifW_some, setD_some, on1_some, on2_some, ldV_eq, biV_eq, pkV, resW, opd, ofConst, leaf, rd_set, binV, intV, shiftV, convV, isConst, idxAddrV, loadV, take?, AV.cells, undF, aggF, infF, resV, Nat.reduceEqDiff, Nat.reduceAdd, Nat.reduceLeDiff, reduceIte, reduceCtorEq, Bool.or_false, Bool.or_true, List.length_cons, List.length_nil, List.getElem?_cons_zero, List.getElem?_cons_succ, List.drop_zero, List.take_succ_cons, List.take_zero, Int.reduceLT, Nat.zero_add, St.bump, wantG, Option.bind, Nat.add_assoc, Int.toNat_natCast, beqT, List.size_toArray, q0, q1, q8, q10, h1, h2, hleft, hl7, hlf, hlf1, hlf0, nat8_get hc, h0, top_of c h7, hfd, hb1, Int.toNat_natCast]
            exact ⟨rfl, rfl⟩
          · have hb1 : ((if lf = 4 then sl1 c / 8 else sl1 c) != 0) = true := by rw [h]; rfl
            have hb2 : ((if lf = 4 then sl1 c / 8 else sl1 c) != -1) = false := by rw [h]; rfl
            simp only [↓cw_skip, ↓cw_ret, ↓cw_seq, ↓cw_cond, ↓cw_region, ↓then_normal, ↓draw_false, ↓ow_nil, ↓ow_cons, ↓ow_consG, ↓contO_eq, ↓op_move, ↓op_assign, ↓op_load, ↓op_binOp, ↓op_convert, ↓op_indexAddr, ↓op_pick, ↓ret_ret, ↓force_DC, ↓force_DO, vW_some, bW_true, bW_false, ifW_some, setD_some, on1_some, on2_some, ldV_eq, biV_eq, pkV, resW, opd, ofConst, leaf, rd_set, binV, intV, shiftV, convV, isConst, idxAddrV, loadV, take?, AV.cells, undF, aggF, infF, resV, Nat.reduceEqDiff, Nat.reduceAdd, Nat.reduceLeDiff, reduceIte, reduceCtorEq, Bool.or_false, Bool.or_true, List.length_cons, List.length_nil, List.getElem?_cons_zero, List.getElem?_cons_succ, List.drop_zero, List.take_succ_cons, List.take_zero, Int.reduceLT, beq_self_eq_true, Nat.zero_add, St.bump, wantG, Option.bind, Nat.add_assoc, Int.toNat_natCast, List.size_toArray, q0, q1, q8, q10, h1, h2, hleft, hl7, hlf, hlf1, hlf0, nat8_get hc, h0, top_of c h7, hfd, hb1, hb2, Int.toNat_natCast]
            exact ⟨rfl, rfl⟩
        · have hr : ¬ (-(2 ^ (w - 1) : Nat) ≤ sval l ∧ sval l < (2 ^ (w - 1) : Nat)) := fun h => hok (by
            have := hrng.1 h h5
            rcases hw with ⟨rfl, rfl, rfl⟩ | ⟨rfl, rfl, rfl⟩
            · simp only [if_true] at this ⊢; omega
            · simp only [Nat.reduceEqDiff, if_false] at this ⊢; omega)
          rw [hres, if_neg hr]
          have hb1 : ((if lf = 4 then sl1 c / 8 else sl1 c) != 0) = true := by rw [bne_iff_ne]; exact fun h => hok (.inl h)
          have hb2 : ((if lf = 4 then sl1 c / 8 else sl1 c) != -1) = true := by rw [bne_iff_ne]; exact fun h => hok (.inr h)
          simp only [↓cw_ret, ↓cw_seq, ↓cw_cond, ↓cw_region, ↓then_normal, ↓then_ret, ↓draw_false, ↓ow_nil, ↓ow_cons, ↓ow_consG, ↓contO_eq, ↓op_move, ↓op_assign, ↓op_load, ↓op_binOp, ↓op_convert, ↓op_makeInterface, ↓op_indexAddr, ↓op_pick, ↓ret_ret, ↓force_DC, ↓force_DO, vW_some, bW_true, ifW_some, setD_some, on1_some, on2_some, ldV_eq, biV_eq, mkI, pkV, resW, opd, ofConst, leaf, rd_set, binV, intV, shiftV, convV, isConst, idxAddrV, loadV, take?, AV.cells, undF, aggF, infF, resV, Nat.reduceEqDiff, Nat.reduceAdd, Nat.reduceLeDiff, reduceIte, reduceCtorEq, Bool.or_false, Bool.or_true, List.length_cons, List.length_nil, List.getElem?_cons_zero, List.getElem?_cons_succ, List.drop_zero, List.take_succ_cons, List.take_zero, Int.reduceLT, beq_self_eq_true, Nat.zero_add, St.bump, wantG, Option.bind, Nat.add_assoc, Int.toNat_natCast, List.size_toArray, q0, q1, q8, h1, h2, hleft, hl7, hlf, hlf1, hlf0, nat8_get hc, h0, top_of c h7, hfd, hb1, hb2, Int.toNat_natCast]
          exact ⟨rfl, rfl⟩
      · have hr : -(2 ^ (w - 1) : Nat) ≤ sval l ∧ sval l < (2 ^ (w - 1) : Nat) := hrng.2 fun h => absurd h h5
        have hl7 : decide ((w : Int) - 7 * ((l.length - 1 : Nat) : Int) < 7) = false := decide_eq_false (by omega)
        rw [hres, if_pos hr]
        rw [hin hr] at q10
        simp only [↓cw_skip, ↓cw_ret, ↓cw_seq, ↓cw_cond, ↓cw_region, ↓then_normal, ↓draw_false, ↓ow_nil, ↓ow_cons, ↓contO_eq, ↓op_move, ↓op_assign, ↓op_binOp, ↓ret_ret, ↓force_DC, vW_some, bW_false, ifW_some, setD_some, on2_some, biV_eq, resW, opd, ofConst, leaf, rd_set, binV, intV, isConst, resV, Nat.reduceEqDiff, Nat.reduceAdd, reduceIte, Bool.or_false, Bool.or_true, List.length_cons, List.length_nil, Nat.zero_add, St.bump, Nat.add_assoc, List.size_toArray, q1, q8, q10, h1, h2, h3, hl7]
        exact ⟨rfl, rfl⟩
    simp only [lenV2]
    cases hneg : decide (64 ≤ c) with
    | true =>
      simp only [↓cw_skip, ↓cw_seq, ↓cw_block, ↓cw_cond, ↓cw_region, ↓then_normal, ↓draw_false, ↓ow_nil, ↓ow_cons, ↓contO_eq, ↓op_move, ↓op_assign, ↓op_load, ↓op_binOp, ↓op_indexAddr, ↓op_extract, ↓force_DC, vW_some, bW_true, bW_false, ifW_some, setD_some, on1_some, on2_some, ldV_eq, biV_eq, exV, opd, ofConst, leaf, rd_set, rd_nil, binV, intV, eqV, isConst, idxAddrV, loadV, take?, AV.cells, undF, aggF, infF, ifaceF, Nat.reduceEqDiff, Nat.reduceAdd, Nat.reduceLeDiff, reduceIte, reduceCtorEq, Bool.or_true, Bool.and_true, List.length_cons, List.length_nil, List.getElem?_cons_zero, List.getElem?_cons_succ, List.drop_zero, List.take_succ_cons, List.take_zero, Nat.zero_add, Bool.not_true, St.bump, Nat.add_assoc, Int.toNat_natCast, List.size_toArray, h1, nat8_get hc, h0, sign_of c h7, hneg]
      refine hstart _ _ _ ?_ ?_ ?_ ?_ ?_ fun fr σ q0 q1 q8 q10 => ?_
      · simp only [rd_set, rd_nil, reduceIte, reduceCtorEq]
      · simp only [rd_set, rd_nil, Nat.reduceEqDiff, reduceIte, reduceCtorEq]
      · simp only [rd_set, rd_nil, Nat.reduceEqDiff, reduceIte, reduceCtorEq]
      · simp only [rd_set, rd_nil, Nat.reduceEqDiff, reduceIte, reduceCtorEq, hneg]
      · simp only [rd_set, rd_nil, Nat.reduceEqDiff, reduceIte, reduceCtorEq]
      simp only [block_exit, nbeq, beq_self_eq_true, bW_true, force_DQ, then_normal]
      have hfin := fin fr σ q0 q1 q8 q10
      simp only [fb, Tryd.f73, cr, Option.getD] at hfin ⊢
      exact hfin
    | false =>
      simp only [↓cw_skip, ↓cw_seq, ↓cw_block, ↓cw_cond, ↓cw_region, ↓then_normal, ↓draw_false, ↓ow_nil, ↓ow_cons, ↓contO_eq, ↓op_move, ↓op_assign, ↓op_load, ↓op_binOp, ↓op_indexAddr, ↓op_extract, ↓force_DC, vW_some, bW_false, ifW_some, setD_some, on1_some, on2_some, ldV_eq, biV_eq, exV, opd, ofConst, leaf, rd_set, rd_nil, binV, intV, eqV, isConst, idxAddrV, loadV, take?, AV.cells, undF, aggF, infF, ifaceF, Nat.reduceEqDiff, Nat.reduceAdd, Nat.reduceLeDiff, reduceIte, reduceCtorEq, Bool.or_true, Bool.and_true, List.length_cons, List.length_nil, List.getElem?_cons_zero, List.getElem?_cons_succ, List.drop_zero, List.take_succ_cons, List.take_zero, Nat.zero_add, Bool.not_true, St.bump, Nat.add_assoc, Int.toNat_natCast, List.size_toArray, h1, nat8_get hc, h0, sign_of c h7, hneg]
      refine hstart _ _ _ ?_ ?_ ?_ ?_ ?_ fun fr σ q0 q1 q8 q10 => ?_
      · simp only [rd_set, rd_nil, reduceIte, reduceCtorEq]
      · simp only [rd_set, rd_nil, Nat.reduceEqDiff, reduceIte, reduceCtorEq]
      · simp only [rd_set, rd_nil, Nat.reduceEqDiff, reduceIte, reduceCtorEq]
      · simp only [rd_set, rd_nil, Nat.reduceEqDiff, reduceIte, reduceCtorEq, hneg]
      · simp only [rd_set, rd_nil, Nat.reduceEqDiff, reduceIte, reduceCtorEq]
      simp only [block_exit, nbeq, beq_self_eq_true, bW_true, force_DQ, then_normal]
      have hfin := fin fr σ q0 q1 q8 q10
      simp only [fb, Tryd.f73, cr, Option.getD] at hfin ⊢
      exact hfin
end Go.Pv
