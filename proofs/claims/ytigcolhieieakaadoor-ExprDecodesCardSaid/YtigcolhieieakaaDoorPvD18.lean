/- The document's reader: list and Decode, whatever the bytes are. (PvZ6) -/
import Derived.Test.YtigcolhieieakaaDoorPvD13b
import Derived.Test.YtigcolhieieakaaDoorPvD17
namespace Go.Pv
open Go Go.Proofs Go.RowKit
set_option linter.unusedVariables false
set_option linter.unusedSimpArgs false
set_option maxRecDepth 100000

theorem ge_t {a n : Nat} (h : n ≤ a) : decide ((a : Int) ≥ (n : Int)) = true := decide_eq_true (by omega)
theorem ge_f {a n : Nat} (h : a < n) : decide ((a : Int) ≥ (n : Int)) = false := decide_eq_false (by omega)
set_option maxHeartbeats 4000000 in
theorem loop24_all : ∀ F, Loop24 F := by
  intro F
  induction F with
  | zero =>
    intro bs hb hbb d hd o Q a m ha haF
    omega
  | succ F ihF =>
    intro bs hb hbb d hd o Q a m ha haF hm acc hacc hhead κ b3 b6 c6 hbn fr σ hf p3 p6 g3 g6 h6 ht hκ r1 r2 r3 r6 r9 hbad hok
    obtain ⟨q0, q1, q2, q3, rfl⟩ : ∃ q0 q1 q2 q3, c6 = [q0, q1, q2, q3] := by
      match c6, h6 with
      | [q0, q1, q2, q3], _ => exact ⟨_, _, _, _, rfl⟩
    have hb36 : (b6 = b3) = False := by simp; omega
    have hb63 : (b3 = b6) = False := by simp; omega
    have h0 : (0 : Int) ≤ a := by omega
    have hd1x : d < 100000 := by omega
    have hdF : d + F < 90000 := by omega
    have hdF1 : d + 1 + F < 90000 := by omega
    have hF9 : F < 900000 := by omega
    have haccb : acc.length < 1000000 := by omega
    have hlenF : acc.length + 1 + F < 1000000 := by omega
    have hfuel : ∀ a1, a + 1 ≤ a1 → bs.length < a1 + F := fun a1 h => by omega
    have hfuel2 : ∀ a1, a + 1 < a1 → bs.length < a1 + F := fun a1 h => by omega
    have hpb3 : ∀ k, b3 < σ.nb + k := fun k => by omega
    have hpb6 : ∀ k, b6 < σ.nb + k := fun k => by omega
    have hkk : ∀ k, κ < σ.nb + k + 2 := fun k => by omega
    have hfa1 : fw .i64 ((a : Int) + 1) = ((a + 1 : Nat) : Int) := fw_add1 (by omega)
    simp only [rdList] at hbad hok
    rw [K24_eq, cw_loop, ← K24_eq, cw_block]
    simp only [A24,B24,C24,fb,Tryd.f24,cl,cr,Option.getD]
    cases hop : bs[a]? with
    | none =>
      have hge : bs.length ≤ a := by rw [List.getElem?_eq_none_iff] at hop; exact hop
      have hd1 := ge_t hge
      simp only [hop] at hbad
      simp only [↓cw_ret,↓cw_seq,↓cw_cond,↓cw_region,↓then_normal,↓then_ret,↓block_ret,↓draw_false,↓ow_nil,↓ow_cons,↓contO_eq,↓op_assign,↓op_load,↓op_store,↓op_binOp,↓op_fieldAddr,↓op_call,↓force_DC,vW_some,pW_some,bW_true,ifW_some,setD_some,setD_none,on1_some,on2_some,ldV_eq,stV,biV_eq,faV_eq,arg_blt,opd,opds,ofConst,leaf,pureV,rd_set,binV,intV,isConst,bltV,lenV,loadV,fieldAddrV,take?,put,flat,AV.cells,undF,aggF,infF,Nat.reduceEqDiff,Nat.reduceAdd,Nat.reduceLeDiff,reduceIte,reduceCtorEq,Bool.or_false,List.length_cons,List.length_nil,List.getElem?_cons_zero,List.getElem?_cons_succ,List.drop_succ_cons,List.drop_zero,List.take_succ_cons,List.take_zero,List.set_cons_zero,List.set_cons_succ,Nat.add_zero,Nat.zero_add,and_self,St.bump,storeV,Tr.get_set,Nat.add_assoc,List.size_toArray,r3,r6,g3,nat8_len,hd1,g6,hb36]
      refine hbad a 4 rfl m _ _ ?_ ?_ ?_ ?_
      · simp only [reduceIte,Tr.get_set]
        rfl
      · simp only [rd_set,Nat.reduceEqDiff,reduceIte,r6]
      · simp only [rd_set,Nat.reduceEqDiff,reduceIte]
      · simp only [rd_set,Nat.reduceEqDiff,reduceIte]
    | some op =>
      have h256 := hbb op (List.mem_of_getElem? hop)
      have hlt := get_lt hop
      have hd1 := ge_f hlt
      simp only [hop] at hbad hok
      by_cases hend : op = 11 ∨ (op = 5 ∧ o = true)
      · rw [if_pos hend] at hok
        have fin : ∀ κ' fr σ, Tr.get σ.h b6 = some [.sl (nat8 bs) 0, .i .i64 (a + 1 : Nat), .i .i64 m, .i .i64 (0 : Nat)] → fr.rd 6 = .p b6 0 → fr.rd 7 = .sl acc κ' → fr.rd 8 = .i .u8 op → Q .ret fr σ := fun κ' fr σ e1 e2 e3 e4 => hok .nil op (a + 1) m rfl κ' fr σ e1 e2 (by rw [e3]; simp [L.av]) e4
        rcases hend with rfl | ⟨rfl, rfl⟩
        · simp only [↓cw_skip,↓cw_ret,↓cw_seq,↓cw_cond,↓cw_region,↓then_normal,↓then_ret,↓block_ret,↓draw_false,↓ow_nil,↓ow_cons,↓ow_consG,↓contO_eq,↓op_move,↓op_assign,↓op_load,↓op_store,↓op_binOp,↓op_fieldAddr,↓op_indexAddr,↓op_pick,↓op_call,↓force_DC,↓force_DOs,vW_some,pW_some,bW_true,bW_false,ifW_some,setD_some,setD_none,on1_some,on2_some,ldV_eq,stV,biV_eq,faV_eq,pkV,arg_blt,opd,opds,ofConst,leaf,pureV,rd_set,binV,intV,isConst,bltV,lenV,idxAddrV,loadV,fieldAddrV,take?,put,flat,AV.cells,undF,aggF,infF,Nat.reduceEqDiff,Nat.reduceAdd,Nat.reduceLeDiff,reduceIte,reduceCtorEq,Bool.or_false,Bool.or_true,List.length_cons,List.length_nil,List.getElem?_cons_zero,List.getElem?_cons_succ,List.drop_succ_cons,List.drop_zero,List.take_succ_cons,List.take_zero,List.set_cons_zero,List.set_cons_succ,beq_self_eq_true,Nat.add_zero,Nat.zero_add,and_self,Bool.not_true,St.bump,storeV,Tr.get_set,wantG,Option.bind,Nat.add_assoc,Int.toNat_natCast,beqF,List.size_toArray,r3,r6,r9,g3,nat8_len,hd1,nat8_get hop,h0,Int.cast_ofNat_Int,hfa1,g6,hb36]
          refine fin κ _ _ ?_ ?_ ?_ ?_
          · simp only [reduceIte,Tr.get_set]
            rfl
          · simp only [rd_set,Nat.reduceEqDiff,reduceIte,r6]
          · simp only [rd_set,Nat.reduceEqDiff,reduceIte]
          · simp only [rd_set,Nat.reduceEqDiff,reduceIte]
            rfl
        · simp only [↓cw_skip,↓cw_ret,↓cw_seq,↓cw_cond,↓cw_region,↓then_normal,↓then_ret,↓block_ret,↓draw_false,↓ow_nil,↓ow_cons,↓ow_consG,↓contO_eq,↓op_move,↓op_assign,↓op_load,↓op_store,↓op_binOp,↓op_fieldAddr,↓op_indexAddr,↓op_pick,↓op_call,↓force_DC,↓force_DO,vW_some,pW_some,bW_true,bW_false,ifW_some,setD_some,setD_none,on1_some,on2_some,ldV_eq,stV,biV_eq,faV_eq,pkV,arg_blt,opd,opds,ofConst,leaf,pureV,rd_set,binV,intV,isConst,bltV,lenV,idxAddrV,loadV,fieldAddrV,take?,put,flat,AV.cells,undF,aggF,infF,Nat.reduceEqDiff,Nat.reduceAdd,Nat.reduceLeDiff,reduceIte,reduceCtorEq,Bool.or_false,Bool.or_true,List.length_cons,List.length_nil,List.getElem?_cons_zero,List.getElem?_cons_succ,List.drop_succ_cons,List.drop_zero,List.take_succ_cons,List.take_zero,List.set_cons_zero,List.set_cons_succ,Int.reduceBEq,beq_self_eq_true,Nat.add_zero,Nat.zero_add,and_self,St.bump,storeV,Tr.get_set,wantG,Option.bind,Nat.add_assoc,Int.toNat_natCast,List.size_toArray,r2,r3,r6,r9,g3,nat8_len,hd1,nat8_get hop,h0,Int.cast_ofNat_Int,hfa1,g6,hb36]
          refine fin κ _ _ ?_ ?_ ?_ ?_
          · simp only [reduceIte,Tr.get_set]
            rfl
          · simp only [rd_set,Nat.reduceEqDiff,reduceIte,r6]
          · simp only [rd_set,Nat.reduceEqDiff,reduceIte]
          · simp only [rd_set,Nat.reduceEqDiff,reduceIte]
            rfl
      rw [if_neg hend] at hbad hok
      have e11 : ((op : Int) == 11) = false := by rw [beq_eq_false_iff_ne]; omega
      have hgo : ∀ (P : Prop), (((op : Int) == 5) = true → o = false → P) → (((op : Int) == 5) = false → P) → P := fun P h1 h2 => by
        by_cases h5 : op = 5
        · refine h1 (by rw [h5]; rfl) ?_
          cases ho : o with
          | false => rfl
          | true => exact absurd (.inr ⟨h5, ho⟩) hend
        · exact h2 (by rw [beq_eq_false_iff_ne]; omega)
      have goon : ∀ fr σ, Fresh σ → b3 < σ.nb → b6 < σ.nb → Tr.get σ.h b3 = some [.sl (nat8 bs) 0, .i .i64 a, .i .i64 m, .i .i64 (0 : Nat)] → Tr.get σ.h b6 = some [q0, q1, q2, q3] → TokG σ acc κ 8 → κ < σ.nb + 2 → fr.rd 1 = .i .i64 d → fr.rd 2 = .b o → fr.rd 3 = .p b3 0 → fr.rd 6 = .p b6 0 → fr.rd 9 = .sl acc κ → fr.rd 10 = .i .u8 op → CodeW TS D24 fr σ (thenW TS (.seq E24 (.seq F24 T24)) (blockW 1 (thenW TS K24 Q))) := fun fr σ hf p3 p6 g3 g6 ht hκ r1 r2 r3 r6 r9 r10 => by
        refine head24 bs hb d hd1x o Q op a m h256 hlt hm (fun a m o => rdList F bs a m (d + 1) o) (fun a1 m1 o h1 h2 h3 => list_of_loop ihF bs hb hbb (d + 1) hdF1 hF9 o a1 m1 h2 (hfuel2 a1 h1) h3) (fun a m o x a1 m1 h hm => ?_) acc haccb hhead κ b3 b6 q0 q1 q2 q3 hbn fr σ hf p3 p6 g3 g6 ht hκ r1 r2 r3 r6 r9 r10 (fun hv m1 fr σ e1 e2 e3 e4 => ?_) (fun hv hn m1 fr σ e1 e2 e3 e4 => ?_) (fun f hv hn hl m1 fr σ e1 e2 e3 e4 => ?_) (fun f hv hn hl w e hx m1 fr σ e1 e2 e3 e4 => ?_) fun f hv hn hl x a1 m1 hx κ' fr σ hf p3 p6 g3 ⟨c6, g6, h6⟩ ht hκ r1 r2 r3 r6 r9 => ?_
        · have q := rdList_len F bs a m (d + 1) o x a1 m1 h
          exact ⟨q.1, q.2, rdList_m F bs a m (d + 1) o x a1 m1 h hm⟩
        · rw [if_pos hv] at hbad
          exact hbad a 8 rfl m1 fr σ e1 e2 e3 e4
        · rw [if_neg (by rw [hv]; simp)] at hbad
          simp only [hn] at hbad
          exact hbad a 6 rfl m1 fr σ e1 e2 e3 e4
        · rw [if_neg (by rw [hv]; simp)] at hbad
          simp only [hn] at hbad
          rw [if_pos hl] at hbad
          exact hbad a 9 rfl m1 fr σ e1 e2 e3 e4
        · rw [if_neg (by rw [hv]; simp)] at hbad
          simp only [hn] at hbad
          rw [if_neg hl, hx] at hbad
          exact hbad w e rfl m1 fr σ e1 e2 e3 e4
        · rw [if_neg (by rw [hv]; simp)] at hbad hok
          simp only [hn] at hbad hok
          rw [if_neg hl, hx] at hbad hok
          have hl1 := rdI_len (fun a m o x a1 m1 h => by have := rdList_len F bs a m (d + 1) o x a1 m1 h; exact ⟨Nat.le_of_lt this.1, this.2⟩) hlt hx
          have hmm := rdI_m (fun a m o x a1 m1 h hm => rdList_m F bs a m (d + 1) o x a1 m1 h hm) (Nat.le_of_not_lt fun h => hl (.inl h)) hx
          refine ihF bs hb hbb d hdF o Q a1 m1 hl1.2 (hfuel a1 hl1.1) hmm (acc ++ [x.av op]) (by simp only [List.length_append,List.length_cons,List.length_nil]; exact hlenF) (by cases acc <;> first | rfl | exact hhead) κ' b3 b6 c6 hbn fr σ hf p3 p6 g3 g6 h6 ht hκ r1 r2 r3 r6 r9 (fun w e hr2 => ?_) fun l z a2 m2 hr2 κ2 fr2 σ2 e1 e2 e3 e4 => ?_
          · simp only [hr2] at hbad
            exact hbad w e rfl
          · simp only [hr2] at hok
            exact hok (x.cons op l) z a2 m2 rfl κ2 fr2 σ2 e1 e2 (by rw [e3]; simp [Ins.cons, L.av, Ins.av]) e4
      refine hgo _ (fun h5 ho => ?_) fun h5 => ?_
      · subst ho
        simp only [↓cw_skip,↓cw_seq,↓cw_cond,↓cw_region,↓then_normal,↓draw_false,↓ow_nil,↓ow_cons,↓ow_consG,↓contO_eq,↓op_move,↓op_assign,↓op_load,↓op_binOp,↓op_fieldAddr,↓op_indexAddr,↓op_pick,↓op_call,↓force_DC,↓force_DO,vW_some,pW_some,bW_true,bW_false,ifW_some,setD_some,on1_some,on2_some,ldV_eq,biV_eq,faV_eq,pkV,arg_blt,opd,opds,ofConst,leaf,pureV,rd_set,binV,intV,isConst,bltV,lenV,idxAddrV,loadV,fieldAddrV,take?,AV.cells,undF,aggF,infF,Nat.reduceEqDiff,Nat.reduceAdd,Nat.reduceLeDiff,reduceIte,reduceCtorEq,Bool.or_false,Bool.or_true,List.length_cons,List.length_nil,List.getElem?_cons_zero,List.getElem?_cons_succ,List.drop_succ_cons,List.drop_zero,List.take_succ_cons,List.take_zero,beq_self_eq_true,Nat.add_zero,Nat.zero_add,St.bump,wantG,Option.bind,Nat.add_assoc,Int.toNat_natCast,List.size_toArray,r2,r3,g3,nat8_len,hd1,nat8_get hop,h0,e11,h5]
        refine goon _ _ ?_ ?_ ?_ g3 g6 ?_ ?_ ?_ ?_ ?_ ?_ ?_ ?_
        · first | exact Fresh.of (by repeat (first | exact (Fresh.freeH hf (by omega)) | refine FreeH.set ?_ (by omega))) (by repeat (first | exact (Fresh.freeT hf (by omega)) | refine FreeT.set ?_ (by omega) | refine FreeT.via (by assumption) ?_ (by omega)))
        · exact hpb3 _
        · exact hpb6 _
        · exact TokG.keep (σ := σ) ht rfl
        · exact hkk _
        · simp only [rd_set,Nat.reduceEqDiff,reduceIte,r1]
        · simp only [rd_set,Nat.reduceEqDiff,reduceIte,r2]
        · simp only [rd_set,Nat.reduceEqDiff,reduceIte,r3]
        · simp only [rd_set,Nat.reduceEqDiff,reduceIte,r6]
        · simp only [rd_set,Nat.reduceEqDiff,reduceIte,r9]
        · simp only [rd_set,Nat.reduceEqDiff,reduceIte]
      · simp only [↓cw_skip,↓cw_seq,↓cw_cond,↓cw_region,↓then_normal,↓draw_false,↓ow_nil,↓ow_cons,↓ow_consG,↓contO_eq,↓op_move,↓op_assign,↓op_load,↓op_binOp,↓op_fieldAddr,↓op_indexAddr,↓op_pick,↓op_call,↓force_DC,↓force_DO,↓force_DOs,vW_some,pW_some,bW_true,bW_false,ifW_some,setD_some,on1_some,on2_some,ldV_eq,biV_eq,faV_eq,pkV,arg_blt,opd,opds,ofConst,leaf,pureV,rd_set,binV,intV,isConst,bltV,lenV,idxAddrV,loadV,fieldAddrV,take?,AV.cells,undF,aggF,infF,Nat.reduceEqDiff,Nat.reduceAdd,Nat.reduceLeDiff,reduceIte,reduceCtorEq,Bool.or_false,Bool.or_true,List.length_cons,List.length_nil,List.getElem?_cons_zero,List.getElem?_cons_succ,List.drop_succ_cons,List.drop_zero,List.take_succ_cons,List.take_zero,beq_self_eq_true,Nat.add_zero,Nat.zero_add,St.bump,wantG,Option.bind,Nat.add_assoc,Int.toNat_natCast,beqT,List.size_toArray,r3,g3,nat8_len,hd1,nat8_get hop,h0,e11,h5]
        refine goon _ _ ?_ ?_ ?_ g3 g6 ?_ ?_ ?_ ?_ ?_ ?_ ?_ ?_
        · first | exact Fresh.of (by repeat (first | exact (Fresh.freeH hf (by omega)) | refine FreeH.set ?_ (by omega))) (by repeat (first | exact (Fresh.freeT hf (by omega)) | refine FreeT.set ?_ (by omega) | refine FreeT.via (by assumption) ?_ (by omega)))
        · exact hpb3 _
        · exact hpb6 _
        · exact TokG.keep (σ := σ) ht rfl
        · exact hkk _
        · simp only [rd_set,Nat.reduceEqDiff,reduceIte,r1]
        · simp only [rd_set,Nat.reduceEqDiff,reduceIte,r2]
        · simp only [rd_set,Nat.reduceEqDiff,reduceIte,r3]
        · simp only [rd_set,Nat.reduceEqDiff,reduceIte,r6]
        · simp only [rd_set,Nat.reduceEqDiff,reduceIte,r9]
        · simp only [rd_set,Nat.reduceEqDiff,reduceIte]

/-- Decode, the document's. -/
def rdecV (r : Rr (L × Nat)) : AV := match r with
  | .ok (l, _) a _ => .t [.sl l.av 0, .i .i64 a, .i .i64 0]
  | .bad w e => .t [.sl [] 0, .i .i64 w, .i .i64 e]
theorem w_rdecode (bs : List Nat) (hb : bs.length ≤ 3000) (hbb : ∀ c ∈ bs, c < 256) : PureW TS 11 [.sl (nat8 bs) 0] (rdecV (rdAll bs)) := by
  have hL : ListV bs 0 false 0 0 (rdAll bs) := list_of_loop (loop24_all (bs.length + 1)) bs (Nat.lt_of_le_of_lt hb (by decide)) hbb 0 (by omega) (by omega) false 0 0 (by omega) (by omega) (by omega)
  have hg : good (rdecV (rdAll bs)) = true := by
    unfold rdecV
    cases rdAll bs with
    | ok x a m => simp [Go.Pv.good, Go.Pv.goods, L.goods]
    | bad w e => rfl
  refine pure_of hg ?_
  refine callW_of ft11 rfl (Nat.le_of_ble_eq_true rfl) ?_
  have hf : Fresh St.start := Fresh.start
  generalize St.start = σ at hf
  cases hr : rdAll bs with
  | ok x a1 m1 =>
    obtain ⟨l, z⟩ := x
    rw [hr] at hL
    simp only [ListV,rav] at hL
    simp only [↓cw_seq,↓cw_region,↓then_normal,↓draw_false,↓ow_nil,↓ow_cons,↓contO_eq,↓op_move,↓op_assign,↓op_build,↓op_call,vW_some,setD_some,bldV,callV_some,arg_val,opd,opds,ofConst,leaf,rd_set,rd_nil,Fr.ofList,buildV,places,fillV,parts,put,flat,AV.cells,undF,infF,Nat.reduceEqDiff,Nat.reduceAdd,Nat.reduceLeDiff,reduceIte,reduceCtorEq,List.length_cons,List.length_nil,List.getElem?_cons_zero,List.append_nil,List.set_cons_zero,Nat.zero_add,and_self,St.bump,List.size_toArray]
    refine pc24.call (by simp [untok, AV.strip, AV.strip0, Go.Pv.goods, Go.Pv.good, goods_nat8]) hL ?_
    simp only [↓cw_skip,↓cw_ret,↓cw_seq,↓cw_cond,↓cw_region,↓then_normal,↓draw_false,↓draw_true,↓ow_nil,↓ow_cons,↓contO_eq,↓op_move,↓op_assign,↓op_alloc,↓op_load,↓op_store,↓op_binOp,↓op_fieldAddr,↓op_extract,↓ret_ret,↓force_DC,↓force_DQ,vW_some,pW_some,bW_false,ifW_some,setD_some,setD_none,allocV,on1_some,on2_some,ldV_eq,stV,biV_eq,faV_eq,exV,resW,opd,ofConst,leaf,rd_set,rd_nil,binV,intV,isConst,loadV,fieldAddrV,take?,put,flat,AV.cells,hasStore,isStore,undF,aggF,infF,resV,Nat.reduceEqDiff,Nat.reduceAdd,Nat.reduceLeDiff,reduceIte,reduceCtorEq,Bool.or_false,Bool.or_true,List.any,List.length_cons,List.length_nil,List.getElem?_cons_zero,List.getElem?_cons_succ,List.drop_succ_cons,List.drop_zero,List.take_succ_cons,List.take_zero,List.set_cons_zero,List.set_cons_succ,Nat.zero_add,and_self,newBox,St.bump,storeV,Tr.get_set,Nat.add_assoc,boxFree,List.size_toArray,hf.hb,show (((0 : Nat) : Int) != 0) = false from rfl,Tryd.f11]
    simp [untok, AV.strip, rdecV]
  | bad w e =>
    rw [hr] at hL
    simp only [ListV,rav] at hL
    obtain ⟨he, m1, hL⟩ := hL
    have hne := ne_int he
    simp only [↓cw_seq,↓cw_region,↓then_normal,↓draw_false,↓ow_nil,↓ow_cons,↓contO_eq,↓op_move,↓op_assign,↓op_build,↓op_call,vW_some,setD_some,bldV,callV_some,arg_val,opd,opds,ofConst,leaf,rd_set,rd_nil,Fr.ofList,buildV,places,fillV,parts,put,flat,AV.cells,undF,infF,Nat.reduceEqDiff,Nat.reduceAdd,Nat.reduceLeDiff,reduceIte,reduceCtorEq,List.length_cons,List.length_nil,List.getElem?_cons_zero,List.append_nil,List.set_cons_zero,Nat.zero_add,and_self,St.bump,List.size_toArray]
    refine pc24.call (by simp [untok, AV.strip, AV.strip0, Go.Pv.goods, Go.Pv.good, goods_nat8]) hL ?_
    simp only [↓cw_ret,↓cw_seq,↓cw_cond,↓cw_region,↓then_normal,↓then_ret,↓draw_false,↓draw_true,↓ow_nil,↓ow_cons,↓contO_eq,↓op_move,↓op_assign,↓op_alloc,↓op_load,↓op_store,↓op_binOp,↓op_fieldAddr,↓op_extract,↓ret_ret,↓force_DC,↓force_DQ,vW_some,pW_some,bW_true,bW_false,ifW_some,setD_some,setD_none,allocV,on1_some,on2_some,ldV_eq,stV,biV_eq,faV_eq,exV,resW,opd,ofConst,leaf,rd_set,rd_nil,binV,intV,isConst,loadV,fieldAddrV,take?,put,flat,AV.cells,hasStore,isStore,undF,aggF,infF,resV,Nat.reduceEqDiff,Nat.reduceAdd,Nat.reduceLeDiff,reduceIte,reduceCtorEq,Bool.or_false,Bool.or_true,List.any,List.length_cons,List.length_nil,List.getElem?_cons_zero,List.getElem?_cons_succ,List.drop_succ_cons,List.drop_zero,List.take_succ_cons,List.take_zero,List.set_cons_zero,List.set_cons_succ,Nat.zero_add,and_self,newBox,St.bump,storeV,Tr.get_set,Nat.add_assoc,boxFree,List.size_toArray,hf.hb,hne,Tryd.f11]
    simp [untok, AV.strip, rdecV]

/-- Decode, the program's. -/
def decV (r : Rr (L × Nat)) : AV := match r with
  | .ok (l, _) a _ => .t [.sl l.av 0, .i .i64 a, .ne]
  | .bad w e => .t [.sl [] 0, .i .i64 w, errV e]
theorem w_decodeA (bs : List Nat) (hb : bs.length ≤ 3000) (hbb : ∀ c ∈ bs, c < 256) : PureW TS 10 [.sl (nat8 bs) 0] (decV (rdAll bs)) := by
  have hP : ListP bs 0 false 0 0 (rdAll bs) := listP_of_loop (loop23_all (bs.length + 1)) bs (Nat.lt_of_le_of_lt hb (by decide)) hbb 0 (by omega) false 0 0 (by omega) (by omega) (by omega)
  have hg : good (decV (rdAll bs)) = true := by
    unfold decV
    cases rdAll bs with
    | ok x a m => simp [Go.Pv.good, Go.Pv.goods, L.goods]
    | bad w e => rfl
  refine pure_of hg ?_
  refine callW_of ft10 rfl (Nat.le_of_ble_eq_true rfl) ?_
  have hf : Fresh St.start := Fresh.start
  generalize St.start = σ at hf
  simp only [↓cw_seq,↓cw_region,↓then_normal,↓draw_false,↓ow_nil,↓ow_cons,↓contO_eq,↓op_move,↓op_assign,↓op_box,↓op_build,↓op_call,vW_some,pW_some,setD_some,boxV,bldV,callV_some,arg_val,opd,opds,ofConst,leaf,rd_set,rd_nil,Fr.ofList,buildV,places,fillV,parts,put,flat,AV.cells,undF,infF,Nat.reduceEqDiff,Nat.reduceAdd,Nat.reduceLeDiff,reduceIte,reduceCtorEq,List.length_cons,List.length_nil,List.getElem?_cons_zero,List.append_nil,List.set_cons_zero,Nat.zero_add,and_self,newBox,St.bump,Nat.add_assoc,boxFree,List.size_toArray,hf.hb]
  refine FnW_call rfl (by kernel_rfl) (by kernel_rfl) (by kernel_rfl) (hP _ (σ.nb + 5) _ ?_ ?_ ?_ (fun l z a1 m1 hr κ σ1 he1 hr1 => ?_) fun w e hr σ1 he1 hr1 => ?_)
  · simp only [St.bump]; first | exact Fresh.of (by repeat (first | exact (Fresh.freeH hf (by omega)) | refine FreeH.set ?_ (by omega))) (by repeat (first | exact (Fresh.freeT hf (by omega)) | refine FreeT.set ?_ (by omega) | refine FreeT.via (by assumption) ?_ (by omega)))
  · simp only [St.bump]; omega
  · show Tr.get _ _ = _
    simp only [Nat.reduceAdd,reduceIte,St.bump,Tr.get_set,Nat.add_assoc]
    rfl
  · have hr2 := hr1
    unfold RN at hr2
    simp only [↓cw_skip,↓cw_ret,↓cw_seq,↓cw_cond,↓cw_region,↓then_normal,↓draw_false,↓draw_true,↓ow_nil,↓ow_cons,↓contO_eq,↓op_move,↓op_assign,↓op_load,↓op_nilCheck,↓op_binOp,↓op_fieldAddr,↓op_extract,↓ret_ret,↓force_DC,↓force_DQ,vW_some,bW_false,ifW_some,setD_some,on1_some,on2_some,ldV_eq,nilV,biV_eq,faV_eq,exV,resW,opd,ofConst,leaf,rd_set,rd_nil,binV,eqV,isConst,loadV,fieldAddrV,take?,hasStore,isStore,undF,aggF,infF,ifaceF,resV,Nat.reduceEqDiff,Nat.reduceAdd,Nat.reduceLeDiff,reduceIte,reduceCtorEq,Bool.or_false,Bool.or_true,Bool.and_true,List.any,List.length_cons,List.length_nil,List.getElem?_cons_zero,List.getElem?_cons_succ,List.drop_succ_cons,List.drop_zero,List.take_succ_cons,List.take_zero,Nat.zero_add,Bool.not_true,St.bump,Nat.add_assoc,List.size_toArray,hr2,Tryd.f10]
    rw [hr]
    simp [untok, AV.strip, decV]
  · obtain ⟨a, m, hr2⟩ := hr1
    simp only [errV] at hr2
    simp only [↓cw_ret,↓cw_seq,↓cw_cond,↓cw_region,↓then_normal,↓then_ret,↓draw_false,↓draw_true,↓ow_nil,↓ow_cons,↓contO_eq,↓op_move,↓op_assign,↓op_load,↓op_nilCheck,↓op_binOp,↓op_fieldAddr,↓op_extract,↓ret_ret,↓force_DC,↓force_DQ,vW_some,bW_true,bW_false,ifW_some,setD_some,on1_some,on2_some,ldV_eq,nilV,biV_eq,faV_eq,exV,resW,opd,ofConst,leaf,rd_set,rd_nil,binV,eqV,isConst,loadV,fieldAddrV,take?,hasStore,isStore,undF,aggF,infF,ifaceF,resV,Nat.reduceEqDiff,Nat.reduceAdd,Nat.reduceLeDiff,reduceIte,reduceCtorEq,Bool.or_false,Bool.or_true,List.any,List.length_cons,List.length_nil,List.getElem?_cons_zero,List.getElem?_cons_succ,List.drop_succ_cons,List.drop_zero,List.take_succ_cons,List.take_zero,Nat.zero_add,Bool.not_false,St.bump,Nat.add_assoc,List.size_toArray,hr2,Tryd.f10]
    rw [hr]
    simp [untok, AV.strip, decV, errV]
end Go.Pv
