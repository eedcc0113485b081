/- Instructions as plain trees; Count. -/
import Derived.Test.YtigcolhieieakaaDoorPvY
namespace Go.Pv
open Go Go.Proofs Go.RowKit
set_option linter.unusedVariables false
set_option linter.unusedSimpArgs false
set_option maxRecDepth 100000

/-- A list of instructions. -/
inductive L where
  | nil
  | cons (op : Nat) (n al off res : Int) (body els : L) (labels : List Int) (rest : L)
  deriving DecidableEq

def iav (op : Nat) (n al off res : Int) (body els labels : List AV) : AV := .a [.i .u8 op, .i .i64 n, .i .u32 al, .i .u32 off, .i .u8 res, .sl body 0, .sl els 0, .sl labels 0]
def L.av : L → List AV
  | .nil => []
  | .cons op n al off res body els labels rest => iav op n al off res body.av els.av (u32s labels) :: rest.av
def L.len : L → Nat
  | .nil => 0
  | .cons _ _ _ _ _ _ _ _ r => r.len + 1
def L.cnt : L → Nat
  | .nil => 0
  | .cons _ _ _ _ _ b e _ r => 1 + b.cnt + e.cnt + r.cnt

/-- With the labels. -/
def L.sz : L → Nat
  | .nil => 0
  | .cons _ _ _ _ _ b e ls r => 1 + ls.length + b.sz + e.sz + r.sz
theorem L.cnt_sz : ∀ l : L, l.cnt ≤ l.sz
  | .nil => Nat.le_refl _
  | .cons op n al off res b e ls r => by
    have := L.cnt_sz b; have := L.cnt_sz e; have := L.cnt_sz r
    simp only [L.cnt, L.sz]; omega

theorem goods_u32s (l : List Int) : goods (u32s l) = true := by
  induction l with
  | nil => rfl
  | cons x xs ih => exact ih
theorem L.goods : ∀ l : L, Go.Pv.goods l.av = true
  | .nil => rfl
  | .cons op n al off res b e ls r => by simp [L.av, iav, Go.Pv.goods, good, L.goods b, L.goods e, L.goods r, goods_u32s]
theorem L.len_av : ∀ l : L, l.av.length = l.len
  | .nil => rfl
  | .cons op n al off res b e ls r => by simp [L.av, L.len, L.len_av r]
theorem L.len_cnt : ∀ l : L, l.len ≤ l.cnt
  | .nil => Nat.le_refl _
  | .cons op n al off res b e ls r => by have := L.len_cnt r; simp only [L.len, L.cnt]; omega

noncomputable def K18 : Code := cl (cr (cl (cr (cr (fb Tryd.f18)))))
theorem fw_nat {n : Nat} (h : n < 4611686018427387904) : fw .i64 (n : Int) = n := by unfold fw; simp only; rw [if_pos (by omega)]

theorem loop18 (l : L) (H : ∀ l' : L, l'.cnt < l.cnt → PureW TS 18 [.sl l'.av 0] (.i .i64 l'.cnt)) (Q : Ex → Fr → St → Prop) (hb : l.cnt < 4611686018427387904)
    (hQ : ∀ fr σ, fr.rd 3 = .i .i64 l.cnt → Q (.exit 0) fr σ) :
    ∀ (r : L) i (acc : Nat) fr σ, Fresh σ → l.av.drop i = r.av → acc + r.cnt = l.cnt + r.len → r.cnt ≤ l.cnt → fr.rd 3 = .i .i64 acc → fr.rd 8 = .sl l.av 0 → fr.rd 9 = .i .i64 l.len → fr.rd 10 = .i .i64 i → CodeW TS K18 fr σ Q := by
  intro r
  induction r with
  | nil =>
    intro i acc fr σ hf hd ha hc r3 r8 r9 r10
    have h1 := drop_nil hd
    rw [L.len_av] at h1
    have hd : decide ((i : Int) < l.len) = false := decide_eq_false (by omega)
    simp only [K18, fb, Tryd.f18, cl, cr, Option.getD]
    rw [cw_loop]
    simp only [↓cw_exit, ↓cw_seq, ↓cw_cond, ↓cw_region, ↓then_normal, ↓then_exit, ↓draw_false, ↓ow_nil, ↓ow_cons, ↓contO_eq, ↓op_binOp, ↓force_DC, vW_some, bW_false, ifW_some, setD_some, on2_some, biV_eq, opd, rd_set, binV, intV, isConst, reduceIte, Bool.or_false, List.length_cons, List.length_nil, Nat.zero_add, St.bump, List.size_toArray, r9, r10, hd]
    refine hQ _ _ ?_
    simp only [L.cnt, L.len] at ha
    simp only [rd_set, Nat.reduceEqDiff, reduceIte, r3]
    rw [show acc = l.cnt from by omega]
  | cons op n al off res b e ls r ihb ihe ih =>
    intro i acc fr σ hf hd ha hc r3 r8 r9 r10
    obtain ⟨h1, h2, h3⟩ := drop_cons hd
    rw [L.len_av] at h3
    have hlt : decide ((i : Int) < l.len) = true := decide_eq_true (by omega)
    have h0i : (0 : Int) ≤ i := by omega
    have hll := L.len_cnt l
    have hrr := L.len_cnt r
    simp only [L.cnt, L.len] at ha hc
    simp only [K18, fb, Tryd.f18, cl, cr, Option.getD]
    rw [cw_loop]
    simp only [↓cw_skip, ↓cw_seq, ↓cw_block, ↓cw_cond, ↓cw_region, ↓then_normal, ↓draw_false, ↓ow_nil, ↓ow_cons, ↓contO_eq, ↓op_move, ↓op_alloc, ↓op_load, ↓op_store, ↓op_binOp, ↓op_fieldAddr, ↓op_indexAddr, ↓op_call, ↓force_DC, vW_some, pW_some, bW_true, ifW_some, setD_some, setD_none, allocV, on1_some, on2_some, ldV_eq, stV, biV_eq, faV_eq, callV_some, arg_val, opd, opds, rd_set, binV, intV, isConst, idxAddrV, loadV, fieldAddrV, take?, put, flat, AV.cells, undF, aggF, infF, Nat.reduceEqDiff, Nat.reduceAdd, Nat.reduceLeDiff, reduceIte, reduceCtorEq, Bool.or_false, List.length_cons, List.length_nil, List.getElem?_cons_zero, List.getElem?_cons_succ, List.append_nil, List.drop_succ_cons, List.drop_zero, List.take_succ_cons, List.take_zero, List.set_cons_zero, List.set_cons_succ, Nat.zero_add, and_self, newBox, St.bump, storeV, Tr.get_set, Nat.add_assoc, Int.toNat_natCast, boxFree, List.size_toArray, r3, r8, r9, r10, hlt, h0i, h1, iav, hf.hb]
    refine pc18.call (by simp [untok, AV.strip, Go.Pv.goods, good, L.goods]) (H b (by omega)) ?_
    simp only [↓ow_cons, ↓contO_eq, ↓op_load, ↓op_fieldAddr, ↓op_call, vW_some, setD_some, on1_some, ldV_eq, faV_eq, callV_some, arg_val, opd, opds, rd_set, loadV, fieldAddrV, take?, undF, aggF, infF, Nat.reduceEqDiff, Nat.reduceAdd, Nat.reduceLeDiff, reduceIte, reduceCtorEq, List.length_cons, List.length_nil, List.getElem?_cons_zero, List.getElem?_cons_succ, List.append_nil, List.drop_succ_cons, List.drop_zero, List.take_succ_cons, List.take_zero, Nat.zero_add, Tr.get_set]
    refine pc18.call (by simp [untok, AV.strip, Go.Pv.goods, good, L.goods]) (H e (by omega)) ?_
    simp only [↓cw_region, ↓then_normal, ↓block_normal, ↓draw_false, ↓draw_true, ↓ow_nil, ↓ow_cons, ↓contO_eq, ↓op_move, ↓op_assign, ↓op_binOp, ↓force_DQ, vW_some, bW_false, setD_some, on2_some, biV_eq, opd, ofConst, leaf, rd_set, binV, intV, isConst, hasStore, isStore, Nat.reduceEqDiff, Nat.reduceAdd, reduceIte, Bool.or_false, Bool.or_true, List.any, List.length_cons, List.length_nil, Nat.zero_add, St.bump, Nat.add_assoc, List.size_toArray, r10, ← Int.natCast_add, fw_nat (n := b.cnt + e.cnt) (by omega), fw_nat (n := acc + (b.cnt + e.cnt)) (by omega), fw_add1 (n := i) (by omega)]
    refine ih (i + 1) (acc + (b.cnt + e.cnt)) _ _ ?_ h2 (by omega) (by omega) ?_ ?_ ?_ ?_
    · first | exact Fresh.of (by repeat (first | exact (Fresh.freeH hf (by omega)) | refine FreeH.set ?_ (by omega))) (by repeat (first | exact (Fresh.freeT hf (by omega)) | refine FreeT.set ?_ (by omega)))
    all_goals simp only [rd_set, Nat.reduceEqDiff, reduceIte, r3, r8, r9, r10]

theorem w_count : ∀ n (l : L), l.cnt < n → n ≤ 4611686018427387904 → PureW TS 18 [.sl l.av 0] (.i .i64 l.cnt) := by
  intro n
  induction n with
  | zero => intro l h; omega
  | succ n ihn =>
    intro l hl hn
    unfold PureW
    refine callW_of ft18 rfl (Nat.le_of_ble_eq_true rfl) ?_
    simp only [↓cw_seq, ↓cw_block, ↓cw_region, ↓then_normal, ↓draw_false, ↓ow_nil, ↓ow_cons, ↓contO_eq, ↓op_move, ↓op_assign, ↓op_call, vW_some, pW_some, setD_some, arg_blt, opd, opds, ofConst, leaf, pureV, rd_set, rd_nil, Fr.ofList, bltV, lenV, undF, Nat.reduceEqDiff, Nat.reduceAdd, reduceIte, reduceCtorEq, List.length_cons, List.length_nil, Nat.zero_add, St.bump, Nat.add_assoc, List.size_toArray, L.len_av]
    refine loop18 l (fun l' h' => ihn l' (by omega) (by omega)) _ (by omega) (fun fr σ r3 => ?_) l 0 l.len _ _ ?_ rfl (by omega) (by omega) ?_ ?_ ?_ ?_
    · simp only [↓cw_ret, ↓cw_seq, ↓cw_region, ↓then_normal, ↓draw_false, ↓ow_nil, ↓ow_cons, ↓contO_eq, ↓op_move, ↓op_assign, ↓ret_ret, ↓force_DQ, block_exit, vW_some, bW_true, setD_some, resW, nbeq, opd, rd_set, resV, Nat.reduceEqDiff, Nat.reduceAdd, reduceIte, List.length_cons, List.length_nil, beq_self_eq_true, Nat.zero_add, List.size_toArray, r3, Tryd.f18]
      exact ⟨rfl, rfl⟩
    · first | exact Fresh.of (by repeat (first | exact (Fresh.freeH Fresh.start (by omega)) | refine FreeH.set ?_ (by omega))) (by repeat (first | exact (Fresh.freeT Fresh.start (by omega)) | refine FreeT.set ?_ (by omega)))
    all_goals simp only [rd_set, rd_nil, Nat.reduceEqDiff, reduceIte, reduceCtorEq]
    all_goals rfl
end Go.Pv
