/- The program's reader: instr, whatever the bytes are. (PvZ6) (printed by gen_d15.py of this work) -/
import Derived.Test.YtigcolhieieakaaDoorPvD14
namespace Go.Pv
open Go Go.Proofs Go.RowKit
set_option linter.unusedVariables false
set_option linter.unusedSimpArgs false
set_option maxRecDepth 100000

/-- What list answers. -/
def ListP (bs : List Nat) (d : Nat) (o : Bool) (a m : Nat) (r : Rr (L × Nat)) : Prop := ∀ (σ : St) (p : Nat) (Q : AV → St → Prop), Fresh σ → p < σ.nb → RN σ p bs a m →
  (∀ l z a1 m1, r = .ok (l, z) a1 m1 → ∀ κ σ', ExtR p σ σ' → RN σ' p bs a1 m1 → Q (.t [.sl l.av κ, .i .u8 z]) σ') →
  (∀ w e, r = .bad w e → ∀ σ', ExtR p σ σ' → RE σ' p bs w e → Q (.t [.sl [] 1, .i .u8 0]) σ') → CallW TS 23 [.p p 0, .i .i64 d, .b o] σ Q
theorem w_listE (σ : St) (p : Nat) (bs : List Nat) (w e d : Nat) (o : Bool) (Q : AV → St → Prop) (hf : Fresh σ) (hp : p < σ.nb) (hr : RE σ p bs w e)
    (hQ : ∀ σ', ExtR p σ σ' → RE σ' p bs w e → Q (.t [.sl [] 1, .i .u8 0]) σ') : CallW TS 23 [.p p 0, .i .i64 d, .b o] σ Q := by
  have hr0 := hr
  obtain ⟨a, m, hr⟩ := hr
  simp only [errV] at hr
  refine callW_of ft23 rfl (Nat.le_of_ble_eq_true rfl) ?_
  simp only [↓cw_seq,↓cw_block,↓cw_region,↓then_normal,↓draw_false,↓ow_nil,↓ow_cons,↓contO_eq,↓op_assign,vW_some,setD_some,opd,ofConst,leaf,Fr.ofList,Nat.reduceAdd,List.length_cons,List.length_nil,Nat.zero_add,St.bump,Nat.add_assoc,List.size_toArray]
  rw [cw_loop]
  simp only [↓cw_ret,↓cw_exit,↓cw_seq,↓cw_cond,↓cw_region,↓then_normal,↓then_exit,↓draw_false,↓ow_nil,↓ow_cons,↓contO_eq,↓op_move,↓op_assign,↓op_load,↓op_nilCheck,↓op_binOp,↓op_fieldAddr,↓ret_ret,↓force_DC,↓force_DQ,block_exit,vW_some,bW_true,bW_false,ifW_some,setD_some,on1_some,on2_some,ldV_eq,nilV,biV_eq,faV_eq,resW,nbeq,opd,ofConst,leaf,rd_set,rd_nil,binV,eqV,isConst,loadV,fieldAddrV,take?,undF,aggF,infF,ifaceF,resV,Nat.reduceEqDiff,Nat.reduceAdd,Nat.reduceLeDiff,reduceIte,reduceCtorEq,Bool.or_true,List.length_cons,List.length_nil,List.getElem?_cons_zero,List.getElem?_cons_succ,List.drop_succ_cons,List.drop_zero,List.take_succ_cons,List.take_zero,beq_self_eq_true,Nat.zero_add,St.bump,Nat.add_assoc,List.size_toArray,hr,Tryd.f23]
  exact hQ _ (ext_of (by first | exact Fresh.of (by repeat (first | exact (Fresh.freeH hf (by omega)) | refine FreeH.set ?_ (by omega))) (by repeat (first | exact (Fresh.freeT hf (by omega)) | refine FreeT.set ?_ (by omega) | refine FreeT.via (by assumption) ?_ (by omega)))) (by omega) fun _ _ _ => rfl) hr0
theorem RE.keep {σ σ' : St} {p : Nat} {bs : List Nat} {w e : Nat} (h : RE σ p bs w e) (q : Tr.get σ'.h p = Tr.get σ.h p) : RE σ' p bs w e := by
  obtain ⟨a, m, h⟩ := h
  exact ⟨a, m, q.trans h⟩
theorem RN.keep {σ σ' : St} {p : Nat} {bs : List Nat} {a m : Nat} (h : RN σ p bs a m) (q : Tr.get σ'.h p = Tr.get σ.h p) : RN σ' p bs a m := q.trans h

set_option maxHeartbeats 2000000 in
theorem w_instr0 (bs : List Nat) (hb : bs.length < 1000000) (hbb : ∀ c ∈ bs, c < 256) (op a m d : Nat) (ha : a ≤ bs.length) (hd : d < 100000) (hm : m ≤ 16384) (rd : Nat → Nat → Bool → Rr (L × Nat))
    (H : ∀ a1 m1 o, a < a1 → a1 ≤ bs.length → m1 ≤ 16384 → ListP bs (d + 1) o a1 m1 (rd a1 m1 o)) (hrd : ∀ a m o x a1 m1, rd a m o = .ok x a1 m1 → m ≤ 16384 → a < a1 ∧ a1 ≤ bs.length ∧ m1 ≤ 16384)
    (σ : St) (p : Nat) (Q : AV → St → Prop) (hf : Fresh σ) (hp : p < σ.nb) (hr : RN σ p bs a m)
    (hok : ∀ x a1 m1, rdI rd bs 0 a m = .ok x a1 m1 → ∀ κ1 κ2 κ3 σ', ExtR p σ σ' → RN σ' p bs a1 m1 → Q (.a [.i .u8 op, .i .i64 x.n, .i .u32 x.al, .i .u32 x.off, .i .u8 x.res, .sl x.b.av κ1, .sl x.e.av κ2, .sl (u32s x.ls) κ3]) σ')
    (hbad : ∀ w e, rdI rd bs 0 a m = .bad w e → ∀ cs σ', cs.length = 8 → flat cs = true → ExtR p σ σ' → RE σ' p bs w e → Q (.a cs) σ') : CallW TS 41 [.p p 0, .i .u8 op, .i .i64 (0 : Nat), .i .i64 d] σ Q := by
  have hfd : fw .i64 ((d : Int) + 1) = ((d + 1 : Nat) : Int) := fw_add1 (by omega)
  have hpn : ∀ j, p ≠ σ.nb + j := fun j => by omega
  have hpn0 : p ≠ σ.nb := by omega
  have hpl : ∀ j l, l < σ.nb → l ≠ σ.nb + j := fun j l h => by omega
  have hpl0 : ∀ l, l < σ.nb → l ≠ σ.nb := fun l h => by omega
  simp only [rdI,Nat.reduceEqDiff,if_false,or_self] at hok hbad
  refine callW_of ft41 rfl (Nat.le_of_ble_eq_true rfl) ?_
  simp only [↓cw_skip,↓cw_ret,↓cw_seq,↓cw_block,↓cw_cond,↓cw_region,↓then_normal,↓block_normal,↓draw_false,↓ow_nil,↓ow_cons,↓contO_eq,↓op_move,↓op_assign,↓op_alloc,↓op_build,↓op_load,↓op_store,↓op_binOp,↓ret_ret,↓force_DC,vW_some,pW_some,bW_false,ifW_some,setD_some,setD_none,allocV,bldV,on1_some,on2_some,ldV_eq,stV,biV_eq,resW,opd,ofConst,leaf,rd_set,rd_nil,Fr.ofList,binV,intV,isConst,loadV,take?,buildV,places,fillV,parts,put,flat,AV.cells,undF,aggF,infF,resV,Nat.reduceEqDiff,Nat.reduceAdd,Nat.reduceLeDiff,reduceIte,reduceCtorEq,Bool.or_true,List.length_cons,List.length_nil,List.getElem?_cons_zero,List.drop_zero,List.take_succ_cons,List.take_zero,List.set_cons_zero,List.set_cons_succ,Int.reduceBEq,Nat.add_zero,Nat.zero_add,and_self,newBox,St.bump,storeV,Tr.get_set,Nat.add_assoc,Nat.left_eq_add,Nat.add_eq_left,boxFree,List.size_toArray,hf.hb,hf.h0,Int.cast_ofNat_Int,Tryd.f41]
  exact hok {} a m rfl 1 1 1 _ ((ExtR.refl hf).upd (by omega) (by first | exact Fresh.of (by repeat (first | exact (Fresh.freeH hf (by omega)) | refine FreeH.set ?_ (by omega))) (by repeat (first | exact (Fresh.freeT hf (by omega)) | refine FreeT.set ?_ (by omega) | refine FreeT.via (by assumption) ?_ (by omega)))) fun l hl hne => by simp only [Tr.get_set]; simp only [hpl _ l hl,hpl0 l hl,if_false]) (hr.keep (by first | (simp only [Tr.get_set]; simp only [hpn,hpn0,if_false]; done) | (simp only [St.bump,Tr.get_set]; done) | rfl))

set_option maxHeartbeats 2000000 in
theorem w_instr1 (bs : List Nat) (hb : bs.length < 1000000) (hbb : ∀ c ∈ bs, c < 256) (op a m d : Nat) (ha : a ≤ bs.length) (hd : d < 100000) (hm : m ≤ 16384) (rd : Nat → Nat → Bool → Rr (L × Nat))
    (H : ∀ a1 m1 o, a < a1 → a1 ≤ bs.length → m1 ≤ 16384 → ListP bs (d + 1) o a1 m1 (rd a1 m1 o)) (hrd : ∀ a m o x a1 m1, rd a m o = .ok x a1 m1 → m ≤ 16384 → a < a1 ∧ a1 ≤ bs.length ∧ m1 ≤ 16384)
    (σ : St) (p : Nat) (Q : AV → St → Prop) (hf : Fresh σ) (hp : p < σ.nb) (hr : RN σ p bs a m)
    (hok : ∀ x a1 m1, rdI rd bs 1 a m = .ok x a1 m1 → ∀ κ1 κ2 κ3 σ', ExtR p σ σ' → RN σ' p bs a1 m1 → Q (.a [.i .u8 op, .i .i64 x.n, .i .u32 x.al, .i .u32 x.off, .i .u8 x.res, .sl x.b.av κ1, .sl x.e.av κ2, .sl (u32s x.ls) κ3]) σ')
    (hbad : ∀ w e, rdI rd bs 1 a m = .bad w e → ∀ cs σ', cs.length = 8 → flat cs = true → ExtR p σ σ' → RE σ' p bs w e → Q (.a cs) σ') : CallW TS 41 [.p p 0, .i .u8 op, .i .i64 (1 : Nat), .i .i64 d] σ Q := by
  have hfd : fw .i64 ((d : Int) + 1) = ((d + 1 : Nat) : Int) := fw_add1 (by omega)
  have hpn : ∀ j, p ≠ σ.nb + j := fun j => by omega
  have hpn0 : p ≠ σ.nb := by omega
  have hpl : ∀ j l, l < σ.nb → l ≠ σ.nb + j := fun j l h => by omega
  have hpl0 : ∀ l, l < σ.nb → l ≠ σ.nb := fun l h => by omega
  simp only [rdI,Nat.reduceEqDiff,if_true,if_false,or_self] at hok hbad
  refine callW_of ft41 rfl (Nat.le_of_ble_eq_true rfl) ?_
  simp only [↓cw_seq,↓cw_block,↓cw_cond,↓cw_region,↓then_normal,↓draw_false,↓ow_nil,↓ow_cons,↓contO_eq,↓op_move,↓op_assign,↓op_alloc,↓op_build,↓op_store,↓op_binOp,↓op_call,↓force_DC,vW_some,pW_some,bW_true,ifW_some,setD_some,setD_none,allocV,bldV,on2_some,stV,biV_eq,callV_some,arg_val,opd,opds,ofConst,leaf,rd_set,rd_nil,Fr.ofList,binV,intV,isConst,buildV,places,fillV,parts,put,flat,AV.cells,undF,infF,Nat.reduceEqDiff,Nat.reduceAdd,Nat.reduceLeDiff,reduceIte,reduceCtorEq,Bool.or_true,List.length_cons,List.length_nil,List.getElem?_cons_zero,List.append_nil,List.set_cons_zero,List.set_cons_succ,beq_self_eq_true,Nat.add_zero,Nat.zero_add,and_self,newBox,St.bump,storeV,Tr.get_set,Nat.add_assoc,Nat.add_eq_left,boxFree,List.size_toArray,hf.hb,hf.h0,Int.cast_ofNat_Int]
  refine FnW_call rfl (by kernel_rfl) (by kernel_rfl) (by kernel_rfl) (w_signedN _ p bs a m 32 4 (by omega) _ ?_ ?_ ?_ ha hb hbb (fun v a1 hq σ1 he1 hr1 => ?_) fun w e hq σ1 he1 hr1 => ?_)
  · simp only [St.bump]; first | exact Fresh.of (by repeat (first | exact (Fresh.freeH hf (by omega)) | refine FreeH.set ?_ (by omega))) (by repeat (first | exact (Fresh.freeT hf (by omega)) | refine FreeT.set ?_ (by omega) | refine FreeT.via (by assumption) ?_ (by omega)))
  · simp only [St.bump]; omega
  · exact hr.keep (by first | (simp only [St.bump,Tr.get_set]; simp only [hpn,hpn0,if_false]; done) | (simp only [St.bump,Tr.get_set]; done) | rfl)
  · simp only [St.bump] at he1
    have hx1 : ExtR p σ σ1 := he1.back (by omega) (fun l hl hne => by simp only [Tr.get_set]; simp only [hpl _ l hl,hpl0 l hl,if_false]) fun _ _ => rfl
    have hf1 := hx1.fresh
    have hn1 : σ.nb + 8 ≤ σ1.nb := by have h2 := he1.nb; simp only at h2; omega
    have g81 : Tr.get σ1.h σ.nb = some [.i .u8 0, .i .i64 0, .i .u32 0, .i .u32 0, .i .u8 0, .sl [] 1, .sl [] 1, .sl [] 1] := by
      rw [he1.h σ.nb (by simp only; omega) (by omega)]
      simp only [reduceIte,reduceCtorEq,Tr.get_set,Nat.left_eq_add,hf.h0]
    have g91 : Tr.get σ1.h (σ.nb + 3) = some [.i .u8 op, .i .i64 0, .i .u32 0, .i .u32 0, .i .u8 0, .sl [] 1, .sl [] 1, .sl [] 1] := by
      rw [he1.h (σ.nb + 3) (by simp only; omega) (by omega)]
      simp only [reduceIte,reduceCtorEq,Tr.get_set,Nat.add_eq_left,hf.hb]
    simp only [↓cw_ret,↓cw_seq,↓cw_region,↓then_normal,↓block_normal,↓draw_false,↓ow_nil,↓ow_cons,↓contO_eq,↓op_load,↓op_store,↓op_fieldAddr,↓ret_ret,vW_some,pW_some,setD_some,setD_none,on1_some,ldV_eq,stV,faV_eq,resW,opd,rd_set,rd_nil,loadV,fieldAddrV,take?,put,flat,AV.cells,undF,aggF,infF,resV,Nat.reduceEqDiff,Nat.reduceAdd,Nat.reduceLeDiff,reduceIte,reduceCtorEq,List.length_cons,List.length_nil,List.getElem?_cons_zero,List.getElem?_cons_succ,List.drop_zero,List.take_succ_cons,List.take_zero,List.set_cons_zero,List.set_cons_succ,Nat.zero_add,and_self,St.bump,storeV,Tr.get_set,Nat.add_assoc,Nat.left_eq_add,List.size_toArray,g81,g91,Tryd.f41]
    exact hok { n := v } a1 m (by simp only [hq,Rp.lift]) 1 1 1 _ (hx1.upd (by omega) (by first | exact Fresh.of (by repeat (first | exact (Fresh.freeH hf1 (by omega)) | refine FreeH.set ?_ (by omega))) (by repeat (first | exact (Fresh.freeT hf1 (by omega)) | refine FreeT.set ?_ (by omega) | refine FreeT.via (by assumption) ?_ (by omega)))) fun l hl hne => by simp only [Tr.get_set]; simp only [hpl _ l hl,hpl0 l hl,if_false]) (hr1.keep (by first | (simp only [Tr.get_set]; simp only [hpn,hpn0,if_false]; done) | (simp only [St.bump,Tr.get_set]; done) | rfl))
  · simp only [St.bump] at he1
    have hx1 : ExtR p σ σ1 := he1.back (by omega) (fun l hl hne => by simp only [Tr.get_set]; simp only [hpl _ l hl,hpl0 l hl,if_false]) fun _ _ => rfl
    have hf1 := hx1.fresh
    have hn1 : σ.nb + 8 ≤ σ1.nb := by have h2 := he1.nb; simp only at h2; omega
    have g81 : Tr.get σ1.h σ.nb = some [.i .u8 0, .i .i64 0, .i .u32 0, .i .u32 0, .i .u8 0, .sl [] 1, .sl [] 1, .sl [] 1] := by
      rw [he1.h σ.nb (by simp only; omega) (by omega)]
      simp only [reduceIte,reduceCtorEq,Tr.get_set,Nat.left_eq_add,hf.h0]
    have g91 : Tr.get σ1.h (σ.nb + 3) = some [.i .u8 op, .i .i64 0, .i .u32 0, .i .u32 0, .i .u8 0, .sl [] 1, .sl [] 1, .sl [] 1] := by
      rw [he1.h (σ.nb + 3) (by simp only; omega) (by omega)]
      simp only [reduceIte,reduceCtorEq,Tr.get_set,Nat.add_eq_left,hf.hb]
    simp only [↓cw_ret,↓cw_seq,↓cw_region,↓then_normal,↓block_normal,↓draw_false,↓ow_nil,↓ow_cons,↓contO_eq,↓op_load,↓op_store,↓op_fieldAddr,↓ret_ret,vW_some,pW_some,setD_some,setD_none,on1_some,ldV_eq,stV,faV_eq,resW,opd,rd_set,rd_nil,loadV,fieldAddrV,take?,put,flat,AV.cells,undF,aggF,infF,resV,Nat.reduceEqDiff,Nat.reduceAdd,Nat.reduceLeDiff,reduceIte,reduceCtorEq,List.length_cons,List.length_nil,List.getElem?_cons_zero,List.getElem?_cons_succ,List.drop_zero,List.take_succ_cons,List.take_zero,List.set_cons_zero,List.set_cons_succ,Nat.zero_add,and_self,St.bump,storeV,Tr.get_set,Nat.add_assoc,Nat.left_eq_add,List.size_toArray,g81,g91,Tryd.f41]
    exact hbad w e (by simp only [hq,Rp.lift]) _ _ rfl rfl (hx1.upd (by omega) (by first | exact Fresh.of (by repeat (first | exact (Fresh.freeH hf1 (by omega)) | refine FreeH.set ?_ (by omega))) (by repeat (first | exact (Fresh.freeT hf1 (by omega)) | refine FreeT.set ?_ (by omega) | refine FreeT.via (by assumption) ?_ (by omega)))) fun l hl hne => by simp only [Tr.get_set]; simp only [hpl _ l hl,hpl0 l hl,if_false]) (hr1.keep (by first | (simp only [Tr.get_set]; simp only [hpn,hpn0,if_false]; done) | (simp only [St.bump,Tr.get_set]; done) | rfl))

set_option maxHeartbeats 2000000 in
theorem w_instr2 (bs : List Nat) (hb : bs.length < 1000000) (hbb : ∀ c ∈ bs, c < 256) (op a m d : Nat) (ha : a ≤ bs.length) (hd : d < 100000) (hm : m ≤ 16384) (rd : Nat → Nat → Bool → Rr (L × Nat))
    (H : ∀ a1 m1 o, a < a1 → a1 ≤ bs.length → m1 ≤ 16384 → ListP bs (d + 1) o a1 m1 (rd a1 m1 o)) (hrd : ∀ a m o x a1 m1, rd a m o = .ok x a1 m1 → m ≤ 16384 → a < a1 ∧ a1 ≤ bs.length ∧ m1 ≤ 16384)
    (σ : St) (p : Nat) (Q : AV → St → Prop) (hf : Fresh σ) (hp : p < σ.nb) (hr : RN σ p bs a m)
    (hok : ∀ x a1 m1, rdI rd bs 2 a m = .ok x a1 m1 → ∀ κ1 κ2 κ3 σ', ExtR p σ σ' → RN σ' p bs a1 m1 → Q (.a [.i .u8 op, .i .i64 x.n, .i .u32 x.al, .i .u32 x.off, .i .u8 x.res, .sl x.b.av κ1, .sl x.e.av κ2, .sl (u32s x.ls) κ3]) σ')
    (hbad : ∀ w e, rdI rd bs 2 a m = .bad w e → ∀ cs σ', cs.length = 8 → flat cs = true → ExtR p σ σ' → RE σ' p bs w e → Q (.a cs) σ') : CallW TS 41 [.p p 0, .i .u8 op, .i .i64 (2 : Nat), .i .i64 d] σ Q := by
  have hfd : fw .i64 ((d : Int) + 1) = ((d + 1 : Nat) : Int) := fw_add1 (by omega)
  have hpn : ∀ j, p ≠ σ.nb + j := fun j => by omega
  have hpn0 : p ≠ σ.nb := by omega
  have hpl : ∀ j l, l < σ.nb → l ≠ σ.nb + j := fun j l h => by omega
  have hpl0 : ∀ l, l < σ.nb → l ≠ σ.nb := fun l h => by omega
  simp only [rdI,Nat.reduceEqDiff,if_true,if_false,or_self] at hok hbad
  refine callW_of ft41 rfl (Nat.le_of_ble_eq_true rfl) ?_
  simp only [↓cw_seq,↓cw_block,↓cw_cond,↓cw_region,↓then_normal,↓draw_false,↓ow_nil,↓ow_cons,↓contO_eq,↓op_move,↓op_assign,↓op_alloc,↓op_build,↓op_store,↓op_binOp,↓op_call,↓force_DC,vW_some,pW_some,bW_true,bW_false,ifW_some,setD_some,setD_none,allocV,bldV,on2_some,stV,biV_eq,callV_some,arg_val,opd,opds,ofConst,leaf,rd_set,rd_nil,Fr.ofList,binV,intV,isConst,buildV,places,fillV,parts,put,flat,AV.cells,undF,infF,Nat.reduceEqDiff,Nat.reduceAdd,Nat.reduceLeDiff,reduceIte,reduceCtorEq,Bool.or_true,List.length_cons,List.length_nil,List.getElem?_cons_zero,List.append_nil,List.set_cons_zero,List.set_cons_succ,Int.reduceBEq,beq_self_eq_true,Nat.add_zero,Nat.zero_add,and_self,newBox,St.bump,storeV,Tr.get_set,Nat.add_assoc,Nat.add_eq_left,boxFree,List.size_toArray,hf.hb,hf.h0,Int.cast_ofNat_Int]
  refine FnW_call rfl (by kernel_rfl) (by kernel_rfl) (by kernel_rfl) (w_signedN _ p bs a m 64 1 (by omega) _ ?_ ?_ ?_ ha hb hbb (fun v a1 hq σ1 he1 hr1 => ?_) fun w e hq σ1 he1 hr1 => ?_)
  · simp only [St.bump]; first | exact Fresh.of (by repeat (first | exact (Fresh.freeH hf (by omega)) | refine FreeH.set ?_ (by omega))) (by repeat (first | exact (Fresh.freeT hf (by omega)) | refine FreeT.set ?_ (by omega) | refine FreeT.via (by assumption) ?_ (by omega)))
  · simp only [St.bump]; omega
  · exact hr.keep (by first | (simp only [St.bump,Tr.get_set]; simp only [hpn,hpn0,if_false]; done) | (simp only [St.bump,Tr.get_set]; done) | rfl)
  · simp only [St.bump] at he1
    have hx1 : ExtR p σ σ1 := he1.back (by omega) (fun l hl hne => by simp only [Tr.get_set]; simp only [hpl _ l hl,hpl0 l hl,if_false]) fun _ _ => rfl
    have hf1 := hx1.fresh
    have hn1 : σ.nb + 8 ≤ σ1.nb := by have h2 := he1.nb; simp only at h2; omega
    have g81 : Tr.get σ1.h σ.nb = some [.i .u8 0, .i .i64 0, .i .u32 0, .i .u32 0, .i .u8 0, .sl [] 1, .sl [] 1, .sl [] 1] := by
      rw [he1.h σ.nb (by simp only; omega) (by omega)]
      simp only [reduceIte,reduceCtorEq,Tr.get_set,Nat.left_eq_add,hf.h0]
    have g91 : Tr.get σ1.h (σ.nb + 3) = some [.i .u8 op, .i .i64 0, .i .u32 0, .i .u32 0, .i .u8 0, .sl [] 1, .sl [] 1, .sl [] 1] := by
      rw [he1.h (σ.nb + 3) (by simp only; omega) (by omega)]
      simp only [reduceIte,reduceCtorEq,Tr.get_set,Nat.add_eq_left,hf.hb]
    simp only [↓cw_ret,↓cw_seq,↓cw_region,↓then_normal,↓block_normal,↓draw_false,↓ow_nil,↓ow_cons,↓contO_eq,↓op_load,↓op_store,↓op_fieldAddr,↓ret_ret,vW_some,pW_some,setD_some,setD_none,on1_some,ldV_eq,stV,faV_eq,resW,opd,rd_set,rd_nil,loadV,fieldAddrV,take?,put,flat,AV.cells,undF,aggF,infF,resV,Nat.reduceEqDiff,Nat.reduceAdd,Nat.reduceLeDiff,reduceIte,reduceCtorEq,List.length_cons,List.length_nil,List.getElem?_cons_zero,List.getElem?_cons_succ,List.drop_zero,List.take_succ_cons,List.take_zero,List.set_cons_zero,List.set_cons_succ,Nat.zero_add,and_self,St.bump,storeV,Tr.get_set,Nat.add_assoc,Nat.left_eq_add,List.size_toArray,g81,g91,Tryd.f41]
    exact hok { n := v } a1 m (by simp only [hq,Rp.lift]) 1 1 1 _ (hx1.upd (by omega) (by first | exact Fresh.of (by repeat (first | exact (Fresh.freeH hf1 (by omega)) | refine FreeH.set ?_ (by omega))) (by repeat (first | exact (Fresh.freeT hf1 (by omega)) | refine FreeT.set ?_ (by omega) | refine FreeT.via (by assumption) ?_ (by omega)))) fun l hl hne => by simp only [Tr.get_set]; simp only [hpl _ l hl,hpl0 l hl,if_false]) (hr1.keep (by first | (simp only [Tr.get_set]; simp only [hpn,hpn0,if_false]; done) | (simp only [St.bump,Tr.get_set]; done) | rfl))
  · simp only [St.bump] at he1
    have hx1 : ExtR p σ σ1 := he1.back (by omega) (fun l hl hne => by simp only [Tr.get_set]; simp only [hpl _ l hl,hpl0 l hl,if_false]) fun _ _ => rfl
    have hf1 := hx1.fresh
    have hn1 : σ.nb + 8 ≤ σ1.nb := by have h2 := he1.nb; simp only at h2; omega
    have g81 : Tr.get σ1.h σ.nb = some [.i .u8 0, .i .i64 0, .i .u32 0, .i .u32 0, .i .u8 0, .sl [] 1, .sl [] 1, .sl [] 1] := by
      rw [he1.h σ.nb (by simp only; omega) (by omega)]
      simp only [reduceIte,reduceCtorEq,Tr.get_set,Nat.left_eq_add,hf.h0]
    have g91 : Tr.get σ1.h (σ.nb + 3) = some [.i .u8 op, .i .i64 0, .i .u32 0, .i .u32 0, .i .u8 0, .sl [] 1, .sl [] 1, .sl [] 1] := by
      rw [he1.h (σ.nb + 3) (by simp only; omega) (by omega)]
      simp only [reduceIte,reduceCtorEq,Tr.get_set,Nat.add_eq_left,hf.hb]
    simp only [↓cw_ret,↓cw_seq,↓cw_region,↓then_normal,↓block_normal,↓draw_false,↓ow_nil,↓ow_cons,↓contO_eq,↓op_load,↓op_store,↓op_fieldAddr,↓ret_ret,vW_some,pW_some,setD_some,setD_none,on1_some,ldV_eq,stV,faV_eq,resW,opd,rd_set,rd_nil,loadV,fieldAddrV,take?,put,flat,AV.cells,undF,aggF,infF,resV,Nat.reduceEqDiff,Nat.reduceAdd,Nat.reduceLeDiff,reduceIte,reduceCtorEq,List.length_cons,List.length_nil,List.getElem?_cons_zero,List.getElem?_cons_succ,List.drop_zero,List.take_succ_cons,List.take_zero,List.set_cons_zero,List.set_cons_succ,Nat.zero_add,and_self,St.bump,storeV,Tr.get_set,Nat.add_assoc,Nat.left_eq_add,List.size_toArray,g81,g91,Tryd.f41]
    exact hbad w e (by simp only [hq,Rp.lift]) _ _ rfl rfl (hx1.upd (by omega) (by first | exact Fresh.of (by repeat (first | exact (Fresh.freeH hf1 (by omega)) | refine FreeH.set ?_ (by omega))) (by repeat (first | exact (Fresh.freeT hf1 (by omega)) | refine FreeT.set ?_ (by omega) | refine FreeT.via (by assumption) ?_ (by omega)))) fun l hl hne => by simp only [Tr.get_set]; simp only [hpl _ l hl,hpl0 l hl,if_false]) (hr1.keep (by first | (simp only [Tr.get_set]; simp only [hpn,hpn0,if_false]; done) | (simp only [St.bump,Tr.get_set]; done) | rfl))

set_option maxHeartbeats 2000000 in
theorem w_instr3 (bs : List Nat) (hb : bs.length < 1000000) (hbb : ∀ c ∈ bs, c < 256) (op a m d : Nat) (ha : a ≤ bs.length) (hd : d < 100000) (hm : m ≤ 16384) (rd : Nat → Nat → Bool → Rr (L × Nat))
    (H : ∀ a1 m1 o, a < a1 → a1 ≤ bs.length → m1 ≤ 16384 → ListP bs (d + 1) o a1 m1 (rd a1 m1 o)) (hrd : ∀ a m o x a1 m1, rd a m o = .ok x a1 m1 → m ≤ 16384 → a < a1 ∧ a1 ≤ bs.length ∧ m1 ≤ 16384)
    (σ : St) (p : Nat) (Q : AV → St → Prop) (hf : Fresh σ) (hp : p < σ.nb) (hr : RN σ p bs a m)
    (hok : ∀ x a1 m1, rdI rd bs 3 a m = .ok x a1 m1 → ∀ κ1 κ2 κ3 σ', ExtR p σ σ' → RN σ' p bs a1 m1 → Q (.a [.i .u8 op, .i .i64 x.n, .i .u32 x.al, .i .u32 x.off, .i .u8 x.res, .sl x.b.av κ1, .sl x.e.av κ2, .sl (u32s x.ls) κ3]) σ')
    (hbad : ∀ w e, rdI rd bs 3 a m = .bad w e → ∀ cs σ', cs.length = 8 → flat cs = true → ExtR p σ σ' → RE σ' p bs w e → Q (.a cs) σ') : CallW TS 41 [.p p 0, .i .u8 op, .i .i64 (3 : Nat), .i .i64 d] σ Q := by
  have hfd : fw .i64 ((d : Int) + 1) = ((d + 1 : Nat) : Int) := fw_add1 (by omega)
  have hpn : ∀ j, p ≠ σ.nb + j := fun j => by omega
  have hpn0 : p ≠ σ.nb := by omega
  have hpl : ∀ j l, l < σ.nb → l ≠ σ.nb + j := fun j l h => by omega
  have hpl0 : ∀ l, l < σ.nb → l ≠ σ.nb := fun l h => by omega
  simp only [rdI,Nat.reduceEqDiff,if_true,if_false,or_self] at hok hbad
  refine callW_of ft41 rfl (Nat.le_of_ble_eq_true rfl) ?_
  simp only [↓cw_seq,↓cw_block,↓cw_cond,↓cw_region,↓then_normal,↓draw_false,↓ow_nil,↓ow_cons,↓contO_eq,↓op_move,↓op_assign,↓op_alloc,↓op_build,↓op_store,↓op_binOp,↓op_call,↓force_DC,vW_some,pW_some,bW_true,bW_false,ifW_some,setD_some,setD_none,allocV,bldV,on2_some,stV,biV_eq,callV_some,arg_val,opd,opds,ofConst,leaf,rd_set,rd_nil,Fr.ofList,binV,intV,isConst,buildV,places,fillV,parts,put,flat,AV.cells,undF,infF,Nat.reduceEqDiff,Nat.reduceAdd,Nat.reduceLeDiff,reduceIte,reduceCtorEq,Bool.or_true,List.length_cons,List.length_nil,List.getElem?_cons_zero,List.append_nil,List.set_cons_zero,List.set_cons_succ,Int.reduceBEq,beq_self_eq_true,Nat.add_zero,Nat.zero_add,and_self,newBox,St.bump,storeV,Tr.get_set,Nat.add_assoc,Nat.add_eq_left,boxFree,List.size_toArray,hf.hb,hf.h0,Int.cast_ofNat_Int]
  refine FnW_call rfl (by kernel_rfl) (by kernel_rfl) (by kernel_rfl) (w_wholeN _ p bs a m _ ?_ ?_ ?_ ha hb hbb (fun v a1 hq σ1 he1 hr1 => ?_) fun w e hq σ1 he1 hr1 => ?_)
  · simp only [St.bump]; first | exact Fresh.of (by repeat (first | exact (Fresh.freeH hf (by omega)) | refine FreeH.set ?_ (by omega))) (by repeat (first | exact (Fresh.freeT hf (by omega)) | refine FreeT.set ?_ (by omega) | refine FreeT.via (by assumption) ?_ (by omega)))
  · simp only [St.bump]; omega
  · exact hr.keep (by first | (simp only [St.bump,Tr.get_set]; simp only [hpn,hpn0,if_false]; done) | (simp only [St.bump,Tr.get_set]; done) | rfl)
  · simp only [St.bump] at he1
    have hx1 : ExtR p σ σ1 := he1.back (by omega) (fun l hl hne => by simp only [Tr.get_set]; simp only [hpl _ l hl,hpl0 l hl,if_false]) fun _ _ => rfl
    have hf1 := hx1.fresh
    have hn1 : σ.nb + 8 ≤ σ1.nb := by have h2 := he1.nb; simp only at h2; omega
    have g81 : Tr.get σ1.h σ.nb = some [.i .u8 0, .i .i64 0, .i .u32 0, .i .u32 0, .i .u8 0, .sl [] 1, .sl [] 1, .sl [] 1] := by
      rw [he1.h σ.nb (by simp only; omega) (by omega)]
      simp only [reduceIte,reduceCtorEq,Tr.get_set,Nat.left_eq_add,hf.h0]
    have g91 : Tr.get σ1.h (σ.nb + 3) = some [.i .u8 op, .i .i64 0, .i .u32 0, .i .u32 0, .i .u8 0, .sl [] 1, .sl [] 1, .sl [] 1] := by
      rw [he1.h (σ.nb + 3) (by simp only; omega) (by omega)]
      simp only [reduceIte,reduceCtorEq,Tr.get_set,Nat.add_eq_left,hf.hb]
    have hl := rdU_len hq
    have hfv : fw .i64 (v : Int) = (v : Int) := fw_nat (by omega)
    simp only [↓cw_ret,↓cw_seq,↓cw_region,↓then_normal,↓block_normal,↓draw_false,↓ow_nil,↓ow_cons,↓contO_eq,↓op_load,↓op_store,↓op_convert,↓op_fieldAddr,↓ret_ret,vW_some,pW_some,setD_some,setD_none,on1_some,ldV_eq,stV,faV_eq,resW,opd,rd_set,rd_nil,convV,loadV,fieldAddrV,take?,put,flat,AV.cells,undF,aggF,infF,resV,Nat.reduceEqDiff,Nat.reduceAdd,Nat.reduceLeDiff,reduceIte,reduceCtorEq,List.length_cons,List.length_nil,List.getElem?_cons_zero,List.getElem?_cons_succ,List.drop_zero,List.take_succ_cons,List.take_zero,List.set_cons_zero,List.set_cons_succ,Nat.zero_add,and_self,St.bump,storeV,Tr.get_set,Nat.add_assoc,Nat.left_eq_add,List.size_toArray,g81,g91,hfv,Tryd.f41]
    exact hok { n := (v : Int) } a1 m (by simp only [hq,Rp.lift]) 1 1 1 _ (hx1.upd (by omega) (by first | exact Fresh.of (by repeat (first | exact (Fresh.freeH hf1 (by omega)) | refine FreeH.set ?_ (by omega))) (by repeat (first | exact (Fresh.freeT hf1 (by omega)) | refine FreeT.set ?_ (by omega) | refine FreeT.via (by assumption) ?_ (by omega)))) fun l hl hne => by simp only [Tr.get_set]; simp only [hpl _ l hl,hpl0 l hl,if_false]) (hr1.keep (by first | (simp only [Tr.get_set]; simp only [hpn,hpn0,if_false]; done) | (simp only [St.bump,Tr.get_set]; done) | rfl))
  · simp only [St.bump] at he1
    have hx1 : ExtR p σ σ1 := he1.back (by omega) (fun l hl hne => by simp only [Tr.get_set]; simp only [hpl _ l hl,hpl0 l hl,if_false]) fun _ _ => rfl
    have hf1 := hx1.fresh
    have hn1 : σ.nb + 8 ≤ σ1.nb := by have h2 := he1.nb; simp only at h2; omega
    have g81 : Tr.get σ1.h σ.nb = some [.i .u8 0, .i .i64 0, .i .u32 0, .i .u32 0, .i .u8 0, .sl [] 1, .sl [] 1, .sl [] 1] := by
      rw [he1.h σ.nb (by simp only; omega) (by omega)]
      simp only [reduceIte,reduceCtorEq,Tr.get_set,Nat.left_eq_add,hf.h0]
    have g91 : Tr.get σ1.h (σ.nb + 3) = some [.i .u8 op, .i .i64 0, .i .u32 0, .i .u32 0, .i .u8 0, .sl [] 1, .sl [] 1, .sl [] 1] := by
      rw [he1.h (σ.nb + 3) (by simp only; omega) (by omega)]
      simp only [reduceIte,reduceCtorEq,Tr.get_set,Nat.add_eq_left,hf.hb]
    simp only [↓cw_ret,↓cw_seq,↓cw_region,↓then_normal,↓block_normal,↓draw_false,↓ow_nil,↓ow_cons,↓contO_eq,↓op_load,↓op_store,↓op_convert,↓op_fieldAddr,↓ret_ret,vW_some,pW_some,setD_some,setD_none,on1_some,ldV_eq,stV,faV_eq,resW,opd,rd_set,rd_nil,convV,loadV,fieldAddrV,take?,put,flat,AV.cells,undF,aggF,infF,resV,Nat.reduceEqDiff,Nat.reduceAdd,Nat.reduceLeDiff,reduceIte,reduceCtorEq,List.length_cons,List.length_nil,List.getElem?_cons_zero,List.getElem?_cons_succ,List.drop_zero,List.take_succ_cons,List.take_zero,List.set_cons_zero,List.set_cons_succ,Nat.zero_add,and_self,St.bump,storeV,Tr.get_set,Nat.add_assoc,Nat.left_eq_add,List.size_toArray,g81,g91,show fw .i64 0 = 0 from rfl,Tryd.f41]
    exact hbad w e (by simp only [hq,Rp.lift]) _ _ rfl rfl (hx1.upd (by omega) (by first | exact Fresh.of (by repeat (first | exact (Fresh.freeH hf1 (by omega)) | refine FreeH.set ?_ (by omega))) (by repeat (first | exact (Fresh.freeT hf1 (by omega)) | refine FreeT.set ?_ (by omega) | refine FreeT.via (by assumption) ?_ (by omega)))) fun l hl hne => by simp only [Tr.get_set]; simp only [hpl _ l hl,hpl0 l hl,if_false]) (hr1.keep (by first | (simp only [Tr.get_set]; simp only [hpn,hpn0,if_false]; done) | (simp only [St.bump,Tr.get_set]; done) | rfl))

set_option maxHeartbeats 2000000 in
theorem w_instr4 (bs : List Nat) (hb : bs.length < 1000000) (hbb : ∀ c ∈ bs, c < 256) (op a m d : Nat) (ha : a ≤ bs.length) (hd : d < 100000) (hm : m ≤ 16384) (rd : Nat → Nat → Bool → Rr (L × Nat))
    (H : ∀ a1 m1 o, a < a1 → a1 ≤ bs.length → m1 ≤ 16384 → ListP bs (d + 1) o a1 m1 (rd a1 m1 o)) (hrd : ∀ a m o x a1 m1, rd a m o = .ok x a1 m1 → m ≤ 16384 → a < a1 ∧ a1 ≤ bs.length ∧ m1 ≤ 16384)
    (σ : St) (p : Nat) (Q : AV → St → Prop) (hf : Fresh σ) (hp : p < σ.nb) (hr : RN σ p bs a m)
    (hok : ∀ x a1 m1, rdI rd bs 4 a m = .ok x a1 m1 → ∀ κ1 κ2 κ3 σ', ExtR p σ σ' → RN σ' p bs a1 m1 → Q (.a [.i .u8 op, .i .i64 x.n, .i .u32 x.al, .i .u32 x.off, .i .u8 x.res, .sl x.b.av κ1, .sl x.e.av κ2, .sl (u32s x.ls) κ3]) σ')
    (hbad : ∀ w e, rdI rd bs 4 a m = .bad w e → ∀ cs σ', cs.length = 8 → flat cs = true → ExtR p σ σ' → RE σ' p bs w e → Q (.a cs) σ') : CallW TS 41 [.p p 0, .i .u8 op, .i .i64 (4 : Nat), .i .i64 d] σ Q := by
  have hfd : fw .i64 ((d : Int) + 1) = ((d + 1 : Nat) : Int) := fw_add1 (by omega)
  have hpn : ∀ j, p ≠ σ.nb + j := fun j => by omega
  have hpn0 : p ≠ σ.nb := by omega
  have hpl : ∀ j l, l < σ.nb → l ≠ σ.nb + j := fun j l h => by omega
  have hpl0 : ∀ l, l < σ.nb → l ≠ σ.nb := fun l h => by omega
  simp only [rdI,Nat.reduceEqDiff,if_true,if_false,or_self] at hok hbad
  refine callW_of ft41 rfl (Nat.le_of_ble_eq_true rfl) ?_
  simp only [↓cw_seq,↓cw_block,↓cw_cond,↓cw_region,↓then_normal,↓draw_false,↓ow_nil,↓ow_cons,↓contO_eq,↓op_move,↓op_assign,↓op_alloc,↓op_build,↓op_store,↓op_binOp,↓op_call,↓force_DC,vW_some,pW_some,bW_true,bW_false,ifW_some,setD_some,setD_none,allocV,bldV,on2_some,stV,biV_eq,callV_some,arg_val,opd,opds,ofConst,leaf,rd_set,rd_nil,Fr.ofList,binV,intV,isConst,buildV,places,fillV,parts,put,flat,AV.cells,undF,infF,Nat.reduceEqDiff,Nat.reduceAdd,Nat.reduceLeDiff,reduceIte,reduceCtorEq,Bool.or_true,List.length_cons,List.length_nil,List.getElem?_cons_zero,List.append_nil,List.set_cons_zero,List.set_cons_succ,Int.reduceBEq,beq_self_eq_true,Nat.add_zero,Nat.zero_add,and_self,newBox,St.bump,storeV,Tr.get_set,Nat.add_assoc,Nat.add_eq_left,boxFree,List.size_toArray,hf.hb,hf.h0,Int.cast_ofNat_Int]
  refine FnW_call rfl (by kernel_rfl) (by kernel_rfl) (by kernel_rfl) (w_wholeN _ p bs a m _ ?_ ?_ ?_ ha hb hbb (fun v a1 hq σ1 he1 hr1 => ?_) fun w e hq σ1 he1 hr1 => ?_)
  · simp only [St.bump]; first | exact Fresh.of (by repeat (first | exact (Fresh.freeH hf (by omega)) | refine FreeH.set ?_ (by omega))) (by repeat (first | exact (Fresh.freeT hf (by omega)) | refine FreeT.set ?_ (by omega) | refine FreeT.via (by assumption) ?_ (by omega)))
  · simp only [St.bump]; omega
  · exact hr.keep (by first | (simp only [St.bump,Tr.get_set]; simp only [hpn,hpn0,if_false]; done) | (simp only [St.bump,Tr.get_set]; done) | rfl)
  · simp only [St.bump] at he1
    have hx1 : ExtR p σ σ1 := he1.back (by omega) (fun l hl hne => by simp only [Tr.get_set]; simp only [hpl _ l hl,hpl0 l hl,if_false]) fun _ _ => rfl
    have hf1 := hx1.fresh
    have hn1 : σ.nb + 8 ≤ σ1.nb := by have h2 := he1.nb; simp only at h2; omega
    have g81 : Tr.get σ1.h σ.nb = some [.i .u8 0, .i .i64 0, .i .u32 0, .i .u32 0, .i .u8 0, .sl [] 1, .sl [] 1, .sl [] 1] := by
      rw [he1.h σ.nb (by simp only; omega) (by omega)]
      simp only [reduceIte,reduceCtorEq,Tr.get_set,Nat.left_eq_add,hf.h0]
    have g91 : Tr.get σ1.h (σ.nb + 3) = some [.i .u8 op, .i .i64 0, .i .u32 0, .i .u32 0, .i .u8 0, .sl [] 1, .sl [] 1, .sl [] 1] := by
      rw [he1.h (σ.nb + 3) (by simp only; omega) (by omega)]
      simp only [reduceIte,reduceCtorEq,Tr.get_set,Nat.add_eq_left,hf.hb]
    have hl := rdU_len hq
    simp only [↓ow_cons,↓contO_eq,↓op_move,↓op_call,vW_some,setD_some,callV_some,arg_val,opd,opds,rd_set,rd_nil,Nat.reduceEqDiff,Nat.reduceAdd,reduceIte,reduceCtorEq,List.append_nil]
    refine FnW_call rfl (by kernel_rfl) (by kernel_rfl) (by kernel_rfl) (w_wholeN _ p bs a1 m _ ?_ ?_ ?_ hl.2.1 hb hbb (fun u a2 hq2 σ2 he2 hr2 => ?_) fun w e hq2 σ2 he2 hr2 => ?_)
    · simp only [St.bump]; first | exact Fresh.of (by repeat (first | exact (Fresh.freeH hf1 (by omega)) | refine FreeH.set ?_ (by omega))) (by repeat (first | exact (Fresh.freeT hf1 (by omega)) | refine FreeT.set ?_ (by omega) | refine FreeT.via (by assumption) ?_ (by omega)))
    · simp only [St.bump]; omega
    · exact hr1.keep (by first | (simp only [St.bump]; simp only [hpn,hpn0,if_false]; done) | (simp only [St.bump]; done) | rfl)
    · simp only [St.bump] at he2
      
      have hx2 : ExtR p σ σ2 := ⟨by have h1 := hx1.nb; have h2 := he2.nb; simp only at h2; omega, he2.fresh, fun l hl hne => by
          rw [he2.h l (by have h1 := hx1.nb; simp only; omega) hne]; (try simp only []); (try simp only [hpl _ l hl,hpl0 l hl,if_false]); exact hx1.h l hl hne, fun q hq => by
          rw [he2.tk q (by have h1 := hx1.nb; simp only; omega)]; exact hx1.tk q hq⟩
      have hf2 := hx2.fresh
      have hn2 : σ.nb + 8 ≤ σ2.nb := by have h2 := he2.nb; simp only at h2; omega
      have g82 : Tr.get σ2.h σ.nb = some [.i .u8 0, .i .i64 0, .i .u32 0, .i .u32 0, .i .u8 0, .sl [] 1, .sl [] 1, .sl [] 1] := by
        rw [he2.h σ.nb (by simp only; omega) (by omega)]
        simp only [g81]
      have g92 : Tr.get σ2.h (σ.nb + 3) = some [.i .u8 op, .i .i64 0, .i .u32 0, .i .u32 0, .i .u8 0, .sl [] 1, .sl [] 1, .sl [] 1] := by
        rw [he2.h (σ.nb + 3) (by simp only; omega) (by omega)]
        simp only [g91]
      simp only [↓cw_ret,↓cw_seq,↓cw_region,↓then_normal,↓block_normal,↓draw_false,↓ow_nil,↓ow_cons,↓contO_eq,↓op_load,↓op_store,↓op_fieldAddr,↓ret_ret,vW_some,pW_some,setD_some,setD_none,on1_some,ldV_eq,stV,faV_eq,resW,opd,rd_set,rd_nil,loadV,fieldAddrV,take?,put,flat,AV.cells,undF,aggF,infF,resV,Nat.reduceEqDiff,Nat.reduceAdd,Nat.reduceLeDiff,reduceIte,reduceCtorEq,List.length_cons,List.length_nil,List.getElem?_cons_zero,List.getElem?_cons_succ,List.drop_zero,List.take_succ_cons,List.take_zero,List.set_cons_zero,List.set_cons_succ,Nat.zero_add,and_self,St.bump,storeV,Tr.get_set,Nat.add_assoc,Nat.left_eq_add,List.size_toArray,g82,g92,Tryd.f41]
      exact hok { al := (v : Int), off := (u : Int) } a2 m (by simp only [hq,hq2,Rp.lift]) 1 1 1 _ (hx2.upd (by omega) (by first | exact Fresh.of (by repeat (first | exact (Fresh.freeH hf2 (by omega)) | refine FreeH.set ?_ (by omega))) (by repeat (first | exact (Fresh.freeT hf2 (by omega)) | refine FreeT.set ?_ (by omega) | refine FreeT.via (by assumption) ?_ (by omega)))) fun l hl hne => by simp only [Tr.get_set]; simp only [hpl _ l hl,hpl0 l hl,if_false]) (hr2.keep (by first | (simp only [Tr.get_set]; simp only [hpn,hpn0,if_false]; done) | (simp only [St.bump,Tr.get_set]; done) | rfl))
    · simp only [St.bump] at he2
      
      have hx2 : ExtR p σ σ2 := ⟨by have h1 := hx1.nb; have h2 := he2.nb; simp only at h2; omega, he2.fresh, fun l hl hne => by
          rw [he2.h l (by have h1 := hx1.nb; simp only; omega) hne]; (try simp only []); (try simp only [hpl _ l hl,hpl0 l hl,if_false]); exact hx1.h l hl hne, fun q hq => by
          rw [he2.tk q (by have h1 := hx1.nb; simp only; omega)]; exact hx1.tk q hq⟩
      have hf2 := hx2.fresh
      have hn2 : σ.nb + 8 ≤ σ2.nb := by have h2 := he2.nb; simp only at h2; omega
      have g82 : Tr.get σ2.h σ.nb = some [.i .u8 0, .i .i64 0, .i .u32 0, .i .u32 0, .i .u8 0, .sl [] 1, .sl [] 1, .sl [] 1] := by
        rw [he2.h σ.nb (by simp only; omega) (by omega)]
        simp only [g81]
      have g92 : Tr.get σ2.h (σ.nb + 3) = some [.i .u8 op, .i .i64 0, .i .u32 0, .i .u32 0, .i .u8 0, .sl [] 1, .sl [] 1, .sl [] 1] := by
        rw [he2.h (σ.nb + 3) (by simp only; omega) (by omega)]
        simp only [g91]
      simp only [↓cw_ret,↓cw_seq,↓cw_region,↓then_normal,↓block_normal,↓draw_false,↓ow_nil,↓ow_cons,↓contO_eq,↓op_load,↓op_store,↓op_fieldAddr,↓ret_ret,vW_some,pW_some,setD_some,setD_none,on1_some,ldV_eq,stV,faV_eq,resW,opd,rd_set,rd_nil,loadV,fieldAddrV,take?,put,flat,AV.cells,undF,aggF,infF,resV,Nat.reduceEqDiff,Nat.reduceAdd,Nat.reduceLeDiff,reduceIte,reduceCtorEq,List.length_cons,List.length_nil,List.getElem?_cons_zero,List.getElem?_cons_succ,List.drop_zero,List.take_succ_cons,List.take_zero,List.set_cons_zero,List.set_cons_succ,Nat.zero_add,and_self,St.bump,storeV,Tr.get_set,Nat.add_assoc,Nat.left_eq_add,List.size_toArray,g82,g92,Tryd.f41]
      exact hbad w e (by simp only [hq,hq2,Rp.lift]) _ _ rfl rfl (hx2.upd (by omega) (by first | exact Fresh.of (by repeat (first | exact (Fresh.freeH hf2 (by omega)) | refine FreeH.set ?_ (by omega))) (by repeat (first | exact (Fresh.freeT hf2 (by omega)) | refine FreeT.set ?_ (by omega) | refine FreeT.via (by assumption) ?_ (by omega)))) fun l hl hne => by simp only [Tr.get_set]; simp only [hpl _ l hl,hpl0 l hl,if_false]) (hr2.keep (by first | (simp only [Tr.get_set]; simp only [hpn,hpn0,if_false]; done) | (simp only [St.bump,Tr.get_set]; done) | rfl))
  · simp only [St.bump] at he1
    have hx1 : ExtR p σ σ1 := he1.back (by omega) (fun l hl hne => by simp only [Tr.get_set]; simp only [hpl _ l hl,hpl0 l hl,if_false]) fun _ _ => rfl
    have hf1 := hx1.fresh
    have hn1 : σ.nb + 8 ≤ σ1.nb := by have h2 := he1.nb; simp only at h2; omega
    have g81 : Tr.get σ1.h σ.nb = some [.i .u8 0, .i .i64 0, .i .u32 0, .i .u32 0, .i .u8 0, .sl [] 1, .sl [] 1, .sl [] 1] := by
      rw [he1.h σ.nb (by simp only; omega) (by omega)]
      simp only [reduceIte,reduceCtorEq,Tr.get_set,Nat.left_eq_add,hf.h0]
    have g91 : Tr.get σ1.h (σ.nb + 3) = some [.i .u8 op, .i .i64 0, .i .u32 0, .i .u32 0, .i .u8 0, .sl [] 1, .sl [] 1, .sl [] 1] := by
      rw [he1.h (σ.nb + 3) (by simp only; omega) (by omega)]
      simp only [reduceIte,reduceCtorEq,Tr.get_set,Nat.add_eq_left,hf.hb]
    simp only [↓ow_cons,↓contO_eq,↓op_move,↓op_call,vW_some,setD_some,callV_some,arg_val,opd,opds,rd_set,rd_nil,Nat.reduceEqDiff,Nat.reduceAdd,reduceIte,reduceCtorEq,List.append_nil]
    refine FnW_call rfl (by kernel_rfl) (by kernel_rfl) (by kernel_rfl) (w_wholeE _ p bs w e _ ?_ ?_ ?_ fun σ2 he2 hr2 => ?_)
    · simp only [St.bump]; first | exact Fresh.of (by repeat (first | exact (Fresh.freeH hf1 (by omega)) | refine FreeH.set ?_ (by omega))) (by repeat (first | exact (Fresh.freeT hf1 (by omega)) | refine FreeT.set ?_ (by omega) | refine FreeT.via (by assumption) ?_ (by omega)))
    · simp only [St.bump]; omega
    · exact hr1.keep (by first | (simp only [St.bump]; simp only [hpn,hpn0,if_false]; done) | (simp only [St.bump]; done) | rfl)
    simp only [St.bump] at he2
    have hx2 : ExtR p σ σ2 := ⟨by have h1 := hx1.nb; have h2 := he2.nb; simp only at h2; omega, he2.fresh, fun l hl hne => by
        rw [he2.h l (by have h1 := hx1.nb; simp only; omega) hne]; (try simp only []); (try simp only [hpl _ l hl,hpl0 l hl,if_false]); exact hx1.h l hl hne, fun q hq => by
        rw [he2.tk q (by have h1 := hx1.nb; simp only; omega)]; exact hx1.tk q hq⟩
    have hf2 := hx2.fresh
    have hn2 : σ.nb + 8 ≤ σ2.nb := by have h2 := he2.nb; simp only at h2; omega
    have g82 : Tr.get σ2.h σ.nb = some [.i .u8 0, .i .i64 0, .i .u32 0, .i .u32 0, .i .u8 0, .sl [] 1, .sl [] 1, .sl [] 1] := by
      rw [he2.h σ.nb (by simp only; omega) (by omega)]
      simp only [g81]
    have g92 : Tr.get σ2.h (σ.nb + 3) = some [.i .u8 op, .i .i64 0, .i .u32 0, .i .u32 0, .i .u8 0, .sl [] 1, .sl [] 1, .sl [] 1] := by
      rw [he2.h (σ.nb + 3) (by simp only; omega) (by omega)]
      simp only [g91]
    simp only [↓cw_ret,↓cw_seq,↓cw_region,↓then_normal,↓block_normal,↓draw_false,↓ow_nil,↓ow_cons,↓contO_eq,↓op_load,↓op_store,↓op_fieldAddr,↓ret_ret,vW_some,pW_some,setD_some,setD_none,on1_some,ldV_eq,stV,faV_eq,resW,opd,rd_set,rd_nil,loadV,fieldAddrV,take?,put,flat,AV.cells,undF,aggF,infF,resV,Nat.reduceEqDiff,Nat.reduceAdd,Nat.reduceLeDiff,reduceIte,reduceCtorEq,List.length_cons,List.length_nil,List.getElem?_cons_zero,List.getElem?_cons_succ,List.drop_zero,List.take_succ_cons,List.take_zero,List.set_cons_zero,List.set_cons_succ,Nat.zero_add,and_self,St.bump,storeV,Tr.get_set,Nat.add_assoc,Nat.left_eq_add,List.size_toArray,g82,g92,Tryd.f41]
    exact hbad w e (by simp only [hq]) _ _ rfl rfl (hx2.upd (by omega) (by first | exact Fresh.of (by repeat (first | exact (Fresh.freeH hf2 (by omega)) | refine FreeH.set ?_ (by omega))) (by repeat (first | exact (Fresh.freeT hf2 (by omega)) | refine FreeT.set ?_ (by omega) | refine FreeT.via (by assumption) ?_ (by omega)))) fun l hl hne => by simp only [Tr.get_set]; simp only [hpl _ l hl,hpl0 l hl,if_false]) (hr2.keep (by first | (simp only [Tr.get_set]; simp only [hpn,hpn0,if_false]; done) | (simp only [St.bump,Tr.get_set]; done) | rfl))

set_option maxHeartbeats 2000000 in
theorem w_instr5 (bs : List Nat) (hb : bs.length < 1000000) (hbb : ∀ c ∈ bs, c < 256) (op a m d : Nat) (ha : a ≤ bs.length) (hd : d < 100000) (hm : m ≤ 16384) (rd : Nat → Nat → Bool → Rr (L × Nat))
    (H : ∀ a1 m1 o, a < a1 → a1 ≤ bs.length → m1 ≤ 16384 → ListP bs (d + 1) o a1 m1 (rd a1 m1 o)) (hrd : ∀ a m o x a1 m1, rd a m o = .ok x a1 m1 → m ≤ 16384 → a < a1 ∧ a1 ≤ bs.length ∧ m1 ≤ 16384)
    (σ : St) (p : Nat) (Q : AV → St → Prop) (hf : Fresh σ) (hp : p < σ.nb) (hr : RN σ p bs a m)
    (hok : ∀ x a1 m1, rdI rd bs 5 a m = .ok x a1 m1 → ∀ κ1 κ2 κ3 σ', ExtR p σ σ' → RN σ' p bs a1 m1 → Q (.a [.i .u8 op, .i .i64 x.n, .i .u32 x.al, .i .u32 x.off, .i .u8 x.res, .sl x.b.av κ1, .sl x.e.av κ2, .sl (u32s x.ls) κ3]) σ')
    (hbad : ∀ w e, rdI rd bs 5 a m = .bad w e → ∀ cs σ', cs.length = 8 → flat cs = true → ExtR p σ σ' → RE σ' p bs w e → Q (.a cs) σ') : CallW TS 41 [.p p 0, .i .u8 op, .i .i64 (5 : Nat), .i .i64 d] σ Q := by
  have hfd : fw .i64 ((d : Int) + 1) = ((d + 1 : Nat) : Int) := fw_add1 (by omega)
  have hpn : ∀ j, p ≠ σ.nb + j := fun j => by omega
  have hpn0 : p ≠ σ.nb := by omega
  have hpl : ∀ j l, l < σ.nb → l ≠ σ.nb + j := fun j l h => by omega
  have hpl0 : ∀ l, l < σ.nb → l ≠ σ.nb := fun l h => by omega
  simp only [rdI,Nat.reduceEqDiff,if_true,if_false,or_self] at hok hbad
  refine callW_of ft41 rfl (Nat.le_of_ble_eq_true rfl) ?_
  simp only [↓cw_seq,↓cw_block,↓cw_cond,↓cw_region,↓then_normal,↓draw_false,↓ow_nil,↓ow_cons,↓contO_eq,↓op_move,↓op_assign,↓op_alloc,↓op_build,↓op_store,↓op_binOp,↓op_call,↓force_DC,vW_some,pW_some,bW_true,bW_false,ifW_some,setD_some,setD_none,allocV,bldV,on2_some,stV,biV_eq,callV_some,arg_val,opd,opds,ofConst,leaf,rd_set,rd_nil,Fr.ofList,binV,intV,isConst,buildV,places,fillV,parts,put,flat,AV.cells,undF,infF,Nat.reduceEqDiff,Nat.reduceAdd,Nat.reduceLeDiff,reduceIte,reduceCtorEq,Bool.or_true,List.length_cons,List.length_nil,List.getElem?_cons_zero,List.append_nil,List.set_cons_zero,List.set_cons_succ,Int.reduceBEq,beq_self_eq_true,Nat.add_zero,Nat.zero_add,and_self,newBox,St.bump,storeV,Tr.get_set,Nat.add_assoc,Nat.add_eq_left,boxFree,List.size_toArray,hf.hb,hf.h0,Int.cast_ofNat_Int]
  refine FnW_call rfl (by kernel_rfl) (by kernel_rfl) (by kernel_rfl) (w_noughtN _ p bs a m _ ?_ ?_ ?_ ha hb (fun a1 hq σ1 he1 hr1 => ?_) fun w e hq σ1 he1 hr1 => ?_)
  · simp only [St.bump]; first | exact Fresh.of (by repeat (first | exact (Fresh.freeH hf (by omega)) | refine FreeH.set ?_ (by omega))) (by repeat (first | exact (Fresh.freeT hf (by omega)) | refine FreeT.set ?_ (by omega) | refine FreeT.via (by assumption) ?_ (by omega)))
  · simp only [St.bump]; omega
  · exact hr.keep (by first | (simp only [St.bump,Tr.get_set]; simp only [hpn,hpn0,if_false]; done) | (simp only [St.bump,Tr.get_set]; done) | rfl)
  · simp only [St.bump] at he1
    have hx1 : ExtR p σ σ1 := he1.back (by omega) (fun l hl hne => by simp only [Tr.get_set]; simp only [hpl _ l hl,hpl0 l hl,if_false]) fun _ _ => rfl
    have hf1 := hx1.fresh
    have hn1 : σ.nb + 8 ≤ σ1.nb := by have h2 := he1.nb; simp only at h2; omega
    have g81 : Tr.get σ1.h σ.nb = some [.i .u8 0, .i .i64 0, .i .u32 0, .i .u32 0, .i .u8 0, .sl [] 1, .sl [] 1, .sl [] 1] := by
      rw [he1.h σ.nb (by simp only; omega) (by omega)]
      simp only [reduceIte,reduceCtorEq,Tr.get_set,Nat.left_eq_add,hf.h0]
    have g91 : Tr.get σ1.h (σ.nb + 3) = some [.i .u8 op, .i .i64 0, .i .u32 0, .i .u32 0, .i .u8 0, .sl [] 1, .sl [] 1, .sl [] 1] := by
      rw [he1.h (σ.nb + 3) (by simp only; omega) (by omega)]
      simp only [reduceIte,reduceCtorEq,Tr.get_set,Nat.add_eq_left,hf.hb]
    simp only [↓cw_ret,↓cw_seq,↓cw_region,↓then_normal,↓block_normal,↓draw_false,↓ow_nil,↓ow_cons,↓contO_eq,↓op_load,↓op_store,↓ret_ret,vW_some,pW_some,setD_some,setD_none,on1_some,ldV_eq,stV,resW,opd,rd_set,rd_nil,loadV,take?,put,flat,AV.cells,aggF,infF,resV,Nat.reduceEqDiff,Nat.reduceAdd,Nat.reduceLeDiff,reduceIte,reduceCtorEq,List.length_cons,List.length_nil,List.getElem?_cons_zero,List.drop_zero,List.take_succ_cons,List.take_zero,List.set_cons_zero,List.set_cons_succ,Nat.zero_add,and_self,St.bump,storeV,Tr.get_set,Nat.add_assoc,List.size_toArray,g81,g91,Tryd.f41]
    exact hok {} a1 m (by simp only [hq,Rp.lift]) 1 1 1 _ (hx1.upd (by omega) (by first | exact Fresh.of (by repeat (first | exact (Fresh.freeH hf1 (by omega)) | refine FreeH.set ?_ (by omega))) (by repeat (first | exact (Fresh.freeT hf1 (by omega)) | refine FreeT.set ?_ (by omega) | refine FreeT.via (by assumption) ?_ (by omega)))) fun l hl hne => by simp only [Tr.get_set]; simp only [hpl0 l hl,if_false]) (hr1.keep (by first | (simp only [Tr.get_set]; simp only [hpn0,if_false]; done) | (simp only [St.bump,Tr.get_set]; done) | rfl))
  · simp only [St.bump] at he1
    have hx1 : ExtR p σ σ1 := he1.back (by omega) (fun l hl hne => by simp only [Tr.get_set]; simp only [hpl _ l hl,hpl0 l hl,if_false]) fun _ _ => rfl
    have hf1 := hx1.fresh
    have hn1 : σ.nb + 8 ≤ σ1.nb := by have h2 := he1.nb; simp only at h2; omega
    have g81 : Tr.get σ1.h σ.nb = some [.i .u8 0, .i .i64 0, .i .u32 0, .i .u32 0, .i .u8 0, .sl [] 1, .sl [] 1, .sl [] 1] := by
      rw [he1.h σ.nb (by simp only; omega) (by omega)]
      simp only [reduceIte,reduceCtorEq,Tr.get_set,Nat.left_eq_add,hf.h0]
    have g91 : Tr.get σ1.h (σ.nb + 3) = some [.i .u8 op, .i .i64 0, .i .u32 0, .i .u32 0, .i .u8 0, .sl [] 1, .sl [] 1, .sl [] 1] := by
      rw [he1.h (σ.nb + 3) (by simp only; omega) (by omega)]
      simp only [reduceIte,reduceCtorEq,Tr.get_set,Nat.add_eq_left,hf.hb]
    simp only [↓cw_ret,↓cw_seq,↓cw_region,↓then_normal,↓block_normal,↓draw_false,↓ow_nil,↓ow_cons,↓contO_eq,↓op_load,↓op_store,↓ret_ret,vW_some,pW_some,setD_some,setD_none,on1_some,ldV_eq,stV,resW,opd,rd_set,rd_nil,loadV,take?,put,flat,AV.cells,aggF,infF,resV,Nat.reduceEqDiff,Nat.reduceAdd,Nat.reduceLeDiff,reduceIte,reduceCtorEq,List.length_cons,List.length_nil,List.getElem?_cons_zero,List.drop_zero,List.take_succ_cons,List.take_zero,List.set_cons_zero,List.set_cons_succ,Nat.zero_add,and_self,St.bump,storeV,Tr.get_set,Nat.add_assoc,List.size_toArray,g81,g91,Tryd.f41]
    exact hbad w e (by simp only [hq,Rp.lift]) _ _ rfl rfl (hx1.upd (by omega) (by first | exact Fresh.of (by repeat (first | exact (Fresh.freeH hf1 (by omega)) | refine FreeH.set ?_ (by omega))) (by repeat (first | exact (Fresh.freeT hf1 (by omega)) | refine FreeT.set ?_ (by omega) | refine FreeT.via (by assumption) ?_ (by omega)))) fun l hl hne => by simp only [Tr.get_set]; simp only [hpl0 l hl,if_false]) (hr1.keep (by first | (simp only [Tr.get_set]; simp only [hpn0,if_false]; done) | (simp only [St.bump,Tr.get_set]; done) | rfl))

set_option maxHeartbeats 2000000 in
theorem w_instr8 (bs : List Nat) (hb : bs.length < 1000000) (hbb : ∀ c ∈ bs, c < 256) (op a m d : Nat) (ha : a ≤ bs.length) (hd : d < 100000) (hm : m ≤ 16384) (rd : Nat → Nat → Bool → Rr (L × Nat))
    (H : ∀ a1 m1 o, a < a1 → a1 ≤ bs.length → m1 ≤ 16384 → ListP bs (d + 1) o a1 m1 (rd a1 m1 o)) (hrd : ∀ a m o x a1 m1, rd a m o = .ok x a1 m1 → m ≤ 16384 → a < a1 ∧ a1 ≤ bs.length ∧ m1 ≤ 16384)
    (σ : St) (p : Nat) (Q : AV → St → Prop) (hf : Fresh σ) (hp : p < σ.nb) (hr : RN σ p bs a m)
    (hok : ∀ x a1 m1, rdI rd bs 8 a m = .ok x a1 m1 → ∀ κ1 κ2 κ3 σ', ExtR p σ σ' → RN σ' p bs a1 m1 → Q (.a [.i .u8 op, .i .i64 x.n, .i .u32 x.al, .i .u32 x.off, .i .u8 x.res, .sl x.b.av κ1, .sl x.e.av κ2, .sl (u32s x.ls) κ3]) σ')
    (hbad : ∀ w e, rdI rd bs 8 a m = .bad w e → ∀ cs σ', cs.length = 8 → flat cs = true → ExtR p σ σ' → RE σ' p bs w e → Q (.a cs) σ') : CallW TS 41 [.p p 0, .i .u8 op, .i .i64 (8 : Nat), .i .i64 d] σ Q := by
  have hfd : fw .i64 ((d : Int) + 1) = ((d + 1 : Nat) : Int) := fw_add1 (by omega)
  have hpn : ∀ j, p ≠ σ.nb + j := fun j => by omega
  have hpn0 : p ≠ σ.nb := by omega
  have hpl : ∀ j l, l < σ.nb → l ≠ σ.nb + j := fun j l h => by omega
  have hpl0 : ∀ l, l < σ.nb → l ≠ σ.nb := fun l h => by omega
  simp only [rdI,Nat.reduceEqDiff,if_true,if_false,or_self] at hok hbad
  refine callW_of ft41 rfl (Nat.le_of_ble_eq_true rfl) ?_
  simp only [↓cw_seq,↓cw_block,↓cw_cond,↓cw_region,↓then_normal,↓draw_false,↓ow_nil,↓ow_cons,↓contO_eq,↓op_move,↓op_assign,↓op_alloc,↓op_build,↓op_store,↓op_binOp,↓op_call,↓force_DC,vW_some,pW_some,bW_true,bW_false,ifW_some,setD_some,setD_none,allocV,bldV,on2_some,stV,biV_eq,callV_some,arg_val,opd,opds,ofConst,leaf,rd_set,rd_nil,Fr.ofList,binV,intV,isConst,buildV,places,fillV,parts,put,flat,AV.cells,undF,infF,Nat.reduceEqDiff,Nat.reduceAdd,Nat.reduceLeDiff,reduceIte,reduceCtorEq,Bool.or_true,List.length_cons,List.length_nil,List.getElem?_cons_zero,List.append_nil,List.set_cons_zero,List.set_cons_succ,Int.reduceBEq,beq_self_eq_true,Nat.add_zero,Nat.zero_add,and_self,newBox,St.bump,storeV,Tr.get_set,Nat.add_assoc,Nat.add_eq_left,boxFree,List.size_toArray,hf.hb,hf.h0,Int.cast_ofNat_Int]
  refine FnW_call rfl (by kernel_rfl) (by kernel_rfl) (by kernel_rfl) (w_labelsN _ p bs a m _ ?_ ?_ ?_ ha hb hbb (fun l a1 hq κ σ1 he1 hr1 => ?_) fun w e hq es κ σ1 he1 hr1 => ?_)
  · simp only [St.bump]; first | exact Fresh.of (by repeat (first | exact (Fresh.freeH hf (by omega)) | refine FreeH.set ?_ (by omega))) (by repeat (first | exact (Fresh.freeT hf (by omega)) | refine FreeT.set ?_ (by omega) | refine FreeT.via (by assumption) ?_ (by omega)))
  · simp only [St.bump]; omega
  · exact hr.keep (by first | (simp only [St.bump,Tr.get_set]; simp only [hpn,hpn0,if_false]; done) | (simp only [St.bump,Tr.get_set]; done) | rfl)
  · simp only [St.bump] at he1
    have hx1 : ExtR p σ σ1 := he1.back (by omega) (fun l hl hne => by simp only [Tr.get_set]; simp only [hpl _ l hl,hpl0 l hl,if_false]) fun _ _ => rfl
    have hf1 := hx1.fresh
    have hn1 : σ.nb + 8 ≤ σ1.nb := by have h2 := he1.nb; simp only at h2; omega
    have g81 : Tr.get σ1.h σ.nb = some [.i .u8 0, .i .i64 0, .i .u32 0, .i .u32 0, .i .u8 0, .sl [] 1, .sl [] 1, .sl [] 1] := by
      rw [he1.h σ.nb (by simp only; omega) (by omega)]
      simp only [reduceIte,reduceCtorEq,Tr.get_set,Nat.left_eq_add,hf.h0]
    have g91 : Tr.get σ1.h (σ.nb + 3) = some [.i .u8 op, .i .i64 0, .i .u32 0, .i .u32 0, .i .u8 0, .sl [] 1, .sl [] 1, .sl [] 1] := by
      rw [he1.h (σ.nb + 3) (by simp only; omega) (by omega)]
      simp only [reduceIte,reduceCtorEq,Tr.get_set,Nat.add_eq_left,hf.hb]
    simp only [↓cw_ret,↓cw_seq,↓cw_region,↓then_normal,↓block_normal,↓draw_false,↓ow_nil,↓ow_cons,↓contO_eq,↓op_load,↓op_store,↓op_fieldAddr,↓ret_ret,vW_some,pW_some,setD_some,setD_none,on1_some,ldV_eq,stV,faV_eq,resW,opd,rd_set,rd_nil,loadV,fieldAddrV,take?,put,flat,AV.cells,undF,aggF,infF,resV,Nat.reduceEqDiff,Nat.reduceAdd,Nat.reduceLeDiff,reduceIte,reduceCtorEq,List.length_cons,List.length_nil,List.getElem?_cons_zero,List.getElem?_cons_succ,List.drop_zero,List.take_succ_cons,List.take_zero,List.set_cons_zero,List.set_cons_succ,Nat.zero_add,and_self,St.bump,storeV,Tr.get_set,Nat.add_assoc,Nat.left_eq_add,List.size_toArray,g81,g91,Tryd.f41]
    exact hok { ls := l } a1 m (by simp only [hq,Rp.lift]) 1 1 κ _ (hx1.upd (by omega) (by first | exact Fresh.of (by repeat (first | exact (Fresh.freeH hf1 (by omega)) | refine FreeH.set ?_ (by omega))) (by repeat (first | exact (Fresh.freeT hf1 (by omega)) | refine FreeT.set ?_ (by omega) | refine FreeT.via (by assumption) ?_ (by omega)))) fun l hl hne => by simp only [Tr.get_set]; simp only [hpl _ l hl,hpl0 l hl,if_false]) (hr1.keep (by first | (simp only [Tr.get_set]; simp only [hpn,hpn0,if_false]; done) | (simp only [St.bump,Tr.get_set]; done) | rfl))
  · simp only [St.bump] at he1
    have hx1 : ExtR p σ σ1 := he1.back (by omega) (fun l hl hne => by simp only [Tr.get_set]; simp only [hpl _ l hl,hpl0 l hl,if_false]) fun _ _ => rfl
    have hf1 := hx1.fresh
    have hn1 : σ.nb + 8 ≤ σ1.nb := by have h2 := he1.nb; simp only at h2; omega
    have g81 : Tr.get σ1.h σ.nb = some [.i .u8 0, .i .i64 0, .i .u32 0, .i .u32 0, .i .u8 0, .sl [] 1, .sl [] 1, .sl [] 1] := by
      rw [he1.h σ.nb (by simp only; omega) (by omega)]
      simp only [reduceIte,reduceCtorEq,Tr.get_set,Nat.left_eq_add,hf.h0]
    have g91 : Tr.get σ1.h (σ.nb + 3) = some [.i .u8 op, .i .i64 0, .i .u32 0, .i .u32 0, .i .u8 0, .sl [] 1, .sl [] 1, .sl [] 1] := by
      rw [he1.h (σ.nb + 3) (by simp only; omega) (by omega)]
      simp only [reduceIte,reduceCtorEq,Tr.get_set,Nat.add_eq_left,hf.hb]
    simp only [↓cw_ret,↓cw_seq,↓cw_region,↓then_normal,↓block_normal,↓draw_false,↓ow_nil,↓ow_cons,↓contO_eq,↓op_load,↓op_store,↓op_fieldAddr,↓ret_ret,vW_some,pW_some,setD_some,setD_none,on1_some,ldV_eq,stV,faV_eq,resW,opd,rd_set,rd_nil,loadV,fieldAddrV,take?,put,flat,AV.cells,undF,aggF,infF,resV,Nat.reduceEqDiff,Nat.reduceAdd,Nat.reduceLeDiff,reduceIte,reduceCtorEq,List.length_cons,List.length_nil,List.getElem?_cons_zero,List.getElem?_cons_succ,List.drop_zero,List.take_succ_cons,List.take_zero,List.set_cons_zero,List.set_cons_succ,Nat.zero_add,and_self,St.bump,storeV,Tr.get_set,Nat.add_assoc,Nat.left_eq_add,List.size_toArray,g81,g91,Tryd.f41]
    exact hbad w e (by simp only [hq,Rp.lift]) _ _ rfl rfl (hx1.upd (by omega) (by first | exact Fresh.of (by repeat (first | exact (Fresh.freeH hf1 (by omega)) | refine FreeH.set ?_ (by omega))) (by repeat (first | exact (Fresh.freeT hf1 (by omega)) | refine FreeT.set ?_ (by omega) | refine FreeT.via (by assumption) ?_ (by omega)))) fun l hl hne => by simp only [Tr.get_set]; simp only [hpl _ l hl,hpl0 l hl,if_false]) (hr1.keep (by first | (simp only [Tr.get_set]; simp only [hpn,hpn0,if_false]; done) | (simp only [St.bump,Tr.get_set]; done) | rfl))

set_option maxHeartbeats 2000000 in
theorem w_instr9 (bs : List Nat) (hb : bs.length < 1000000) (hbb : ∀ c ∈ bs, c < 256) (op a m d : Nat) (ha : a ≤ bs.length) (hd : d < 100000) (hm : m ≤ 16384) (rd : Nat → Nat → Bool → Rr (L × Nat))
    (H : ∀ a1 m1 o, a < a1 → a1 ≤ bs.length → m1 ≤ 16384 → ListP bs (d + 1) o a1 m1 (rd a1 m1 o)) (hrd : ∀ a m o x a1 m1, rd a m o = .ok x a1 m1 → m ≤ 16384 → a < a1 ∧ a1 ≤ bs.length ∧ m1 ≤ 16384)
    (σ : St) (p : Nat) (Q : AV → St → Prop) (hf : Fresh σ) (hp : p < σ.nb) (hr : RN σ p bs a m)
    (hok : ∀ x a1 m1, rdI rd bs 9 a m = .ok x a1 m1 → ∀ κ1 κ2 κ3 σ', ExtR p σ σ' → RN σ' p bs a1 m1 → Q (.a [.i .u8 op, .i .i64 x.n, .i .u32 x.al, .i .u32 x.off, .i .u8 x.res, .sl x.b.av κ1, .sl x.e.av κ2, .sl (u32s x.ls) κ3]) σ')
    (hbad : ∀ w e, rdI rd bs 9 a m = .bad w e → ∀ cs σ', cs.length = 8 → flat cs = true → ExtR p σ σ' → RE σ' p bs w e → Q (.a cs) σ') : CallW TS 41 [.p p 0, .i .u8 op, .i .i64 (9 : Nat), .i .i64 d] σ Q := by
  have hfd : fw .i64 ((d : Int) + 1) = ((d + 1 : Nat) : Int) := fw_add1 (by omega)
  have hpn : ∀ j, p ≠ σ.nb + j := fun j => by omega
  have hpn0 : p ≠ σ.nb := by omega
  have hpl : ∀ j l, l < σ.nb → l ≠ σ.nb + j := fun j l h => by omega
  have hpl0 : ∀ l, l < σ.nb → l ≠ σ.nb := fun l h => by omega
  simp only [rdI,Nat.reduceEqDiff,if_true,if_false,or_self] at hok hbad
  refine callW_of ft41 rfl (Nat.le_of_ble_eq_true rfl) ?_
  simp only [↓cw_seq,↓cw_block,↓cw_cond,↓cw_region,↓then_normal,↓draw_false,↓ow_nil,↓ow_cons,↓contO_eq,↓op_move,↓op_assign,↓op_alloc,↓op_build,↓op_store,↓op_binOp,↓op_call,↓force_DC,vW_some,pW_some,bW_true,bW_false,ifW_some,setD_some,setD_none,allocV,bldV,on2_some,stV,biV_eq,callV_some,arg_val,opd,opds,ofConst,leaf,rd_set,rd_nil,Fr.ofList,binV,intV,isConst,buildV,places,fillV,parts,put,flat,AV.cells,undF,infF,Nat.reduceEqDiff,Nat.reduceAdd,Nat.reduceLeDiff,reduceIte,reduceCtorEq,Bool.or_true,List.length_cons,List.length_nil,List.getElem?_cons_zero,List.append_nil,List.set_cons_zero,List.set_cons_succ,Int.reduceBEq,beq_self_eq_true,Nat.add_zero,Nat.zero_add,and_self,newBox,St.bump,storeV,Tr.get_set,Nat.add_assoc,Nat.add_eq_left,boxFree,List.size_toArray,hf.hb,hf.h0,Int.cast_ofNat_Int]
  refine FnW_call rfl (by kernel_rfl) (by kernel_rfl) (by kernel_rfl) (w_wholeN _ p bs a m _ ?_ ?_ ?_ ha hb hbb (fun v a1 hq σ1 he1 hr1 => ?_) fun w e hq σ1 he1 hr1 => ?_)
  · simp only [St.bump]; first | exact Fresh.of (by repeat (first | exact (Fresh.freeH hf (by omega)) | refine FreeH.set ?_ (by omega))) (by repeat (first | exact (Fresh.freeT hf (by omega)) | refine FreeT.set ?_ (by omega) | refine FreeT.via (by assumption) ?_ (by omega)))
  · simp only [St.bump]; omega
  · exact hr.keep (by first | (simp only [St.bump,Tr.get_set]; simp only [hpn,hpn0,if_false]; done) | (simp only [St.bump,Tr.get_set]; done) | rfl)
  · simp only [St.bump] at he1
    have hx1 : ExtR p σ σ1 := he1.back (by omega) (fun l hl hne => by simp only [Tr.get_set]; simp only [hpl _ l hl,hpl0 l hl,if_false]) fun _ _ => rfl
    have hf1 := hx1.fresh
    have hn1 : σ.nb + 8 ≤ σ1.nb := by have h2 := he1.nb; simp only at h2; omega
    have g81 : Tr.get σ1.h σ.nb = some [.i .u8 0, .i .i64 0, .i .u32 0, .i .u32 0, .i .u8 0, .sl [] 1, .sl [] 1, .sl [] 1] := by
      rw [he1.h σ.nb (by simp only; omega) (by omega)]
      simp only [reduceIte,reduceCtorEq,Tr.get_set,Nat.left_eq_add,hf.h0]
    have g91 : Tr.get σ1.h (σ.nb + 3) = some [.i .u8 op, .i .i64 0, .i .u32 0, .i .u32 0, .i .u8 0, .sl [] 1, .sl [] 1, .sl [] 1] := by
      rw [he1.h (σ.nb + 3) (by simp only; omega) (by omega)]
      simp only [reduceIte,reduceCtorEq,Tr.get_set,Nat.add_eq_left,hf.hb]
    have hl := rdU_len hq
    have hfv : fw .i64 (v : Int) = (v : Int) := fw_nat (by omega)
    simp only [↓cw_region,↓then_normal,↓draw_false,↓ow_nil,↓ow_cons,↓contO_eq,↓op_move,↓op_store,↓op_convert,↓op_fieldAddr,↓op_call,vW_some,pW_some,setD_some,setD_none,on1_some,stV,faV_eq,callV_some,arg_val,opd,opds,rd_set,rd_nil,convV,fieldAddrV,put,flat,AV.cells,undF,infF,Nat.reduceEqDiff,Nat.reduceAdd,Nat.reduceLeDiff,reduceIte,reduceCtorEq,List.length_cons,List.length_nil,List.getElem?_cons_zero,List.getElem?_cons_succ,List.append_nil,List.set_cons_zero,List.set_cons_succ,Nat.zero_add,and_self,St.bump,storeV,List.size_toArray,g91,hfv]
    refine FnW_call rfl (by kernel_rfl) (by kernel_rfl) (by kernel_rfl) (w_noughtN _ p bs a1 m _ ?_ ?_ ?_ hl.2.1 hb (fun a2 hq2 σ2 he2 hr2 => ?_) fun w e hq2 σ2 he2 hr2 => ?_)
    · simp only [St.bump]; first | exact Fresh.of (by repeat (first | exact (Fresh.freeH hf1 (by omega)) | refine FreeH.set ?_ (by omega))) (by repeat (first | exact (Fresh.freeT hf1 (by omega)) | refine FreeT.set ?_ (by omega) | refine FreeT.via (by assumption) ?_ (by omega)))
    · simp only [St.bump]; omega
    · exact hr1.keep (by first | (simp only [St.bump,Tr.get_set]; simp only [hpn,if_false]; done) | (simp only [St.bump,Tr.get_set]; done) | rfl)
    · simp only [St.bump] at he2
      
      have hx2 : ExtR p σ σ2 := ⟨by have h1 := hx1.nb; have h2 := he2.nb; simp only at h2; omega, he2.fresh, fun l hl hne => by
          rw [he2.h l (by have h1 := hx1.nb; simp only; omega) hne]; (try simp only [Tr.get_set]); (try simp only [hpl _ l hl,if_false]); exact hx1.h l hl hne, fun q hq => by
          rw [he2.tk q (by have h1 := hx1.nb; simp only; omega)]; exact hx1.tk q hq⟩
      have hf2 := hx2.fresh
      have hn2 : σ.nb + 8 ≤ σ2.nb := by have h2 := he2.nb; simp only at h2; omega
      have g82 : Tr.get σ2.h σ.nb = some [.i .u8 0, .i .i64 0, .i .u32 0, .i .u32 0, .i .u8 0, .sl [] 1, .sl [] 1, .sl [] 1] := by
        rw [he2.h σ.nb (by simp only; omega) (by omega)]
        simp only [reduceIte,reduceCtorEq,Tr.get_set,Nat.left_eq_add,g81]
      have g92 : Tr.get σ2.h (σ.nb + 3) = some [.i .u8 op, .i .i64 v, .i .u32 0, .i .u32 0, .i .u8 0, .sl [] 1, .sl [] 1, .sl [] 1] := by
        rw [he2.h (σ.nb + 3) (by simp only; omega) (by omega)]
        simp only [reduceIte,Tr.get_set,g91]
      simp only [↓cw_ret,↓cw_seq,↓cw_region,↓then_normal,↓block_normal,↓draw_false,↓ow_nil,↓ow_cons,↓contO_eq,↓op_load,↓op_store,↓ret_ret,vW_some,pW_some,setD_some,setD_none,on1_some,ldV_eq,stV,resW,opd,rd_set,rd_nil,loadV,take?,put,flat,AV.cells,aggF,infF,resV,Nat.reduceEqDiff,Nat.reduceAdd,Nat.reduceLeDiff,reduceIte,reduceCtorEq,List.length_cons,List.length_nil,List.getElem?_cons_zero,List.drop_zero,List.take_succ_cons,List.take_zero,List.set_cons_zero,List.set_cons_succ,Nat.zero_add,and_self,St.bump,storeV,Tr.get_set,Nat.add_assoc,List.size_toArray,g82,g92,Tryd.f41]
      exact hok { n := (v : Int) } a2 m (by simp only [hq,hq2,Rp.lift]) 1 1 1 _ (hx2.upd (by omega) (by first | exact Fresh.of (by repeat (first | exact (Fresh.freeH hf2 (by omega)) | refine FreeH.set ?_ (by omega))) (by repeat (first | exact (Fresh.freeT hf2 (by omega)) | refine FreeT.set ?_ (by omega) | refine FreeT.via (by assumption) ?_ (by omega)))) fun l hl hne => by simp only [Tr.get_set]; simp only [hpl0 l hl,if_false]) (hr2.keep (by first | (simp only [Tr.get_set]; simp only [hpn0,if_false]; done) | (simp only [St.bump,Tr.get_set]; done) | rfl))
    · simp only [St.bump] at he2
      
      have hx2 : ExtR p σ σ2 := ⟨by have h1 := hx1.nb; have h2 := he2.nb; simp only at h2; omega, he2.fresh, fun l hl hne => by
          rw [he2.h l (by have h1 := hx1.nb; simp only; omega) hne]; (try simp only [Tr.get_set]); (try simp only [hpl _ l hl,if_false]); exact hx1.h l hl hne, fun q hq => by
          rw [he2.tk q (by have h1 := hx1.nb; simp only; omega)]; exact hx1.tk q hq⟩
      have hf2 := hx2.fresh
      have hn2 : σ.nb + 8 ≤ σ2.nb := by have h2 := he2.nb; simp only at h2; omega
      have g82 : Tr.get σ2.h σ.nb = some [.i .u8 0, .i .i64 0, .i .u32 0, .i .u32 0, .i .u8 0, .sl [] 1, .sl [] 1, .sl [] 1] := by
        rw [he2.h σ.nb (by simp only; omega) (by omega)]
        simp only [reduceIte,reduceCtorEq,Tr.get_set,Nat.left_eq_add,g81]
      have g92 : Tr.get σ2.h (σ.nb + 3) = some [.i .u8 op, .i .i64 v, .i .u32 0, .i .u32 0, .i .u8 0, .sl [] 1, .sl [] 1, .sl [] 1] := by
        rw [he2.h (σ.nb + 3) (by simp only; omega) (by omega)]
        simp only [reduceIte,Tr.get_set,g91]
      simp only [↓cw_ret,↓cw_seq,↓cw_region,↓then_normal,↓block_normal,↓draw_false,↓ow_nil,↓ow_cons,↓contO_eq,↓op_load,↓op_store,↓ret_ret,vW_some,pW_some,setD_some,setD_none,on1_some,ldV_eq,stV,resW,opd,rd_set,rd_nil,loadV,take?,put,flat,AV.cells,aggF,infF,resV,Nat.reduceEqDiff,Nat.reduceAdd,Nat.reduceLeDiff,reduceIte,reduceCtorEq,List.length_cons,List.length_nil,List.getElem?_cons_zero,List.drop_zero,List.take_succ_cons,List.take_zero,List.set_cons_zero,List.set_cons_succ,Nat.zero_add,and_self,St.bump,storeV,Tr.get_set,Nat.add_assoc,List.size_toArray,g82,g92,Tryd.f41]
      exact hbad w e (by simp only [hq,hq2,Rp.lift]) _ _ rfl rfl (hx2.upd (by omega) (by first | exact Fresh.of (by repeat (first | exact (Fresh.freeH hf2 (by omega)) | refine FreeH.set ?_ (by omega))) (by repeat (first | exact (Fresh.freeT hf2 (by omega)) | refine FreeT.set ?_ (by omega) | refine FreeT.via (by assumption) ?_ (by omega)))) fun l hl hne => by simp only [Tr.get_set]; simp only [hpl0 l hl,if_false]) (hr2.keep (by first | (simp only [Tr.get_set]; simp only [hpn0,if_false]; done) | (simp only [St.bump,Tr.get_set]; done) | rfl))
  · simp only [St.bump] at he1
    have hx1 : ExtR p σ σ1 := he1.back (by omega) (fun l hl hne => by simp only [Tr.get_set]; simp only [hpl _ l hl,hpl0 l hl,if_false]) fun _ _ => rfl
    have hf1 := hx1.fresh
    have hn1 : σ.nb + 8 ≤ σ1.nb := by have h2 := he1.nb; simp only at h2; omega
    have g81 : Tr.get σ1.h σ.nb = some [.i .u8 0, .i .i64 0, .i .u32 0, .i .u32 0, .i .u8 0, .sl [] 1, .sl [] 1, .sl [] 1] := by
      rw [he1.h σ.nb (by simp only; omega) (by omega)]
      simp only [reduceIte,reduceCtorEq,Tr.get_set,Nat.left_eq_add,hf.h0]
    have g91 : Tr.get σ1.h (σ.nb + 3) = some [.i .u8 op, .i .i64 0, .i .u32 0, .i .u32 0, .i .u8 0, .sl [] 1, .sl [] 1, .sl [] 1] := by
      rw [he1.h (σ.nb + 3) (by simp only; omega) (by omega)]
      simp only [reduceIte,reduceCtorEq,Tr.get_set,Nat.add_eq_left,hf.hb]
    simp only [↓cw_region,↓then_normal,↓draw_false,↓ow_nil,↓ow_cons,↓contO_eq,↓op_move,↓op_store,↓op_convert,↓op_fieldAddr,↓op_call,vW_some,pW_some,setD_some,setD_none,on1_some,stV,faV_eq,callV_some,arg_val,opd,opds,rd_set,rd_nil,convV,fieldAddrV,put,flat,AV.cells,undF,infF,Nat.reduceEqDiff,Nat.reduceAdd,Nat.reduceLeDiff,reduceIte,reduceCtorEq,List.length_cons,List.length_nil,List.getElem?_cons_zero,List.getElem?_cons_succ,List.append_nil,List.set_cons_zero,List.set_cons_succ,Nat.zero_add,and_self,St.bump,storeV,List.size_toArray,g91,show fw .i64 0 = 0 from rfl]
    refine FnW_call rfl (by kernel_rfl) (by kernel_rfl) (by kernel_rfl) (w_noughtE _ p bs w e _ ?_ ?_ ?_ fun σ2 he2 hr2 => ?_)
    · simp only [St.bump]; first | exact Fresh.of (by repeat (first | exact (Fresh.freeH hf1 (by omega)) | refine FreeH.set ?_ (by omega))) (by repeat (first | exact (Fresh.freeT hf1 (by omega)) | refine FreeT.set ?_ (by omega) | refine FreeT.via (by assumption) ?_ (by omega)))
    · simp only [St.bump]; omega
    · exact hr1.keep (by first | (simp only [St.bump,Tr.get_set]; simp only [hpn,if_false]; done) | (simp only [St.bump,Tr.get_set]; done) | rfl)
    simp only [St.bump] at he2
    have hx2 : ExtR p σ σ2 := ⟨by have h1 := hx1.nb; have h2 := he2.nb; simp only at h2; omega, he2.fresh, fun l hl hne => by
        rw [he2.h l (by have h1 := hx1.nb; simp only; omega) hne]; (try simp only [Tr.get_set]); (try simp only [hpl _ l hl,if_false]); exact hx1.h l hl hne, fun q hq => by
        rw [he2.tk q (by have h1 := hx1.nb; simp only; omega)]; exact hx1.tk q hq⟩
    have hf2 := hx2.fresh
    have hn2 : σ.nb + 8 ≤ σ2.nb := by have h2 := he2.nb; simp only at h2; omega
    have g82 : Tr.get σ2.h σ.nb = some [.i .u8 0, .i .i64 0, .i .u32 0, .i .u32 0, .i .u8 0, .sl [] 1, .sl [] 1, .sl [] 1] := by
      rw [he2.h σ.nb (by simp only; omega) (by omega)]
      simp only [reduceIte,reduceCtorEq,Tr.get_set,Nat.left_eq_add,g81]
    have g92 : Tr.get σ2.h (σ.nb + 3) = some [.i .u8 op, .i .i64 0, .i .u32 0, .i .u32 0, .i .u8 0, .sl [] 1, .sl [] 1, .sl [] 1] := by
      rw [he2.h (σ.nb + 3) (by simp only; omega) (by omega)]
      simp only [reduceIte,Tr.get_set,g91]
    simp only [↓cw_ret,↓cw_seq,↓cw_region,↓then_normal,↓block_normal,↓draw_false,↓ow_nil,↓ow_cons,↓contO_eq,↓op_load,↓op_store,↓ret_ret,vW_some,pW_some,setD_some,setD_none,on1_some,ldV_eq,stV,resW,opd,rd_set,rd_nil,loadV,take?,put,flat,AV.cells,aggF,infF,resV,Nat.reduceEqDiff,Nat.reduceAdd,Nat.reduceLeDiff,reduceIte,reduceCtorEq,List.length_cons,List.length_nil,List.getElem?_cons_zero,List.drop_zero,List.take_succ_cons,List.take_zero,List.set_cons_zero,List.set_cons_succ,Nat.zero_add,and_self,St.bump,storeV,Tr.get_set,Nat.add_assoc,List.size_toArray,g82,g92,Tryd.f41]
    exact hbad w e (by simp only [hq]) _ _ rfl rfl (hx2.upd (by omega) (by first | exact Fresh.of (by repeat (first | exact (Fresh.freeH hf2 (by omega)) | refine FreeH.set ?_ (by omega))) (by repeat (first | exact (Fresh.freeT hf2 (by omega)) | refine FreeT.set ?_ (by omega) | refine FreeT.via (by assumption) ?_ (by omega)))) fun l hl hne => by simp only [Tr.get_set]; simp only [hpl0 l hl,if_false]) (hr2.keep (by first | (simp only [Tr.get_set]; simp only [hpn0,if_false]; done) | (simp only [St.bump,Tr.get_set]; done) | rfl))

set_option maxHeartbeats 2000000 in
theorem w_instr6 (bs : List Nat) (hb : bs.length < 1000000) (hbb : ∀ c ∈ bs, c < 256) (op a m d : Nat) (ha : a ≤ bs.length) (hd : d < 100000) (hm : m ≤ 16384) (rd : Nat → Nat → Bool → Rr (L × Nat))
    (H : ∀ a1 m1 o, a < a1 → a1 ≤ bs.length → m1 ≤ 16384 → ListP bs (d + 1) o a1 m1 (rd a1 m1 o)) (hrd : ∀ a m o x a1 m1, rd a m o = .ok x a1 m1 → m ≤ 16384 → a < a1 ∧ a1 ≤ bs.length ∧ m1 ≤ 16384)
    (σ : St) (p : Nat) (Q : AV → St → Prop) (hf : Fresh σ) (hp : p < σ.nb) (hr : RN σ p bs a m)
    (hok : ∀ x a1 m1, rdI rd bs 6 a m = .ok x a1 m1 → ∀ κ1 κ2 κ3 σ', ExtR p σ σ' → RN σ' p bs a1 m1 → Q (.a [.i .u8 op, .i .i64 x.n, .i .u32 x.al, .i .u32 x.off, .i .u8 x.res, .sl x.b.av κ1, .sl x.e.av κ2, .sl (u32s x.ls) κ3]) σ')
    (hbad : ∀ w e, rdI rd bs 6 a m = .bad w e → ∀ cs σ', cs.length = 8 → flat cs = true → ExtR p σ σ' → RE σ' p bs w e → Q (.a cs) σ') : CallW TS 41 [.p p 0, .i .u8 op, .i .i64 (6 : Nat), .i .i64 d] σ Q := by
  have hfd : fw .i64 ((d : Int) + 1) = ((d + 1 : Nat) : Int) := fw_add1 (by omega)
  have hpn : ∀ j, p ≠ σ.nb + j := fun j => by omega
  have hpn0 : p ≠ σ.nb := by omega
  have hpl : ∀ j l, l < σ.nb → l ≠ σ.nb + j := fun j l h => by omega
  have hpl0 : ∀ l, l < σ.nb → l ≠ σ.nb := fun l h => by omega
  simp only [rdI,Nat.reduceEqDiff,if_true,if_false,or_false] at hok hbad
  refine callW_of ft41 rfl (Nat.le_of_ble_eq_true rfl) ?_
  simp only [show (6 == 7 : Bool) = false from rfl] at hok hbad
  simp only [↓cw_skip,↓cw_seq,↓cw_block,↓cw_cond,↓cw_region,↓then_normal,↓draw_false,↓ow_nil,↓ow_cons,↓contO_eq,↓op_move,↓op_assign,↓op_alloc,↓op_build,↓op_store,↓op_binOp,↓op_call,↓force_DC,vW_some,pW_some,bW_true,bW_false,ifW_some,setD_some,setD_none,allocV,bldV,on2_some,stV,biV_eq,callV_some,arg_val,opd,opds,ofConst,leaf,rd_set,rd_nil,Fr.ofList,binV,intV,isConst,buildV,places,fillV,parts,put,flat,AV.cells,undF,infF,Nat.reduceEqDiff,Nat.reduceAdd,Nat.reduceLeDiff,reduceIte,reduceCtorEq,Bool.or_true,List.length_cons,List.length_nil,List.getElem?_cons_zero,List.append_nil,List.set_cons_zero,List.set_cons_succ,Int.reduceBEq,beq_self_eq_true,Nat.add_zero,Nat.zero_add,and_self,newBox,St.bump,storeV,Tr.get_set,Nat.add_assoc,Nat.add_eq_left,boxFree,List.size_toArray,hf.hb,hf.h0,Int.cast_ofNat_Int]
  refine FnW_call rfl (by kernel_rfl) (by kernel_rfl) (by kernel_rfl) (w_kindN _ p bs a m _ ?_ ?_ ?_ ha hb (fun k a1 hq σ1 he1 hr1 => ?_) fun w e hq σ1 he1 hr1 => ?_)
  · simp only [St.bump]; first | exact Fresh.of (by repeat (first | exact (Fresh.freeH hf (by omega)) | refine FreeH.set ?_ (by omega))) (by repeat (first | exact (Fresh.freeT hf (by omega)) | refine FreeT.set ?_ (by omega) | refine FreeT.via (by assumption) ?_ (by omega)))
  · simp only [St.bump]; omega
  · exact hr.keep (by first | (simp only [St.bump,Tr.get_set]; simp only [hpn,hpn0,if_false]; done) | (simp only [St.bump,Tr.get_set]; done) | rfl)
  · simp only [St.bump] at he1
    have hx1 : ExtR p σ σ1 := he1.back (by omega) (fun l hl hne => by simp only [Tr.get_set]; simp only [hpl _ l hl,hpl0 l hl,if_false]) fun _ _ => rfl
    have hf1 := hx1.fresh
    have hn1 : σ.nb + 8 ≤ σ1.nb := by have h2 := he1.nb; simp only at h2; omega
    have g81 : Tr.get σ1.h σ.nb = some [.i .u8 0, .i .i64 0, .i .u32 0, .i .u32 0, .i .u8 0, .sl [] 1, .sl [] 1, .sl [] 1] := by
      rw [he1.h σ.nb (by simp only; omega) (by omega)]
      simp only [reduceIte,reduceCtorEq,Tr.get_set,Nat.left_eq_add,hf.h0]
    have g91 : Tr.get σ1.h (σ.nb + 3) = some [.i .u8 op, .i .i64 0, .i .u32 0, .i .u32 0, .i .u8 0, .sl [] 1, .sl [] 1, .sl [] 1] := by
      rw [he1.h (σ.nb + 3) (by simp only; omega) (by omega)]
      simp only [reduceIte,reduceCtorEq,Tr.get_set,Nat.add_eq_left,hf.hb]
    have hl := rdK_len hq
    simp only [↓cw_seq,↓cw_region,↓then_normal,↓draw_false,↓ow_nil,↓ow_cons,↓contO_eq,↓op_move,↓op_assign,↓op_store,↓op_binOp,↓op_fieldAddr,↓op_call,vW_some,pW_some,setD_some,setD_none,on1_some,on2_some,stV,biV_eq,faV_eq,callV_some,arg_val,opd,opds,ofConst,leaf,rd_set,rd_nil,binV,intV,isConst,fieldAddrV,put,flat,AV.cells,undF,infF,Nat.reduceEqDiff,Nat.reduceAdd,Nat.reduceLeDiff,reduceIte,reduceCtorEq,Bool.or_true,List.length_cons,List.length_nil,List.getElem?_cons_zero,List.getElem?_cons_succ,List.append_nil,List.set_cons_zero,List.set_cons_succ,Int.reduceBEq,Nat.zero_add,and_self,St.bump,storeV,Nat.add_assoc,List.size_toArray,g91,hfd]
    refine FnW_call rfl (by kernel_rfl) (by kernel_rfl) (by kernel_rfl) (H a1 m false hl.1 hl.2.1 hm _ p _ ?_ ?_ ?_ (fun b z a2 m2 hq2 κ2 σ2 he2 hr2 => ?_) fun w e hq2 σ2 he2 hr2 => ?_)
    · simp only [St.bump]; first | exact Fresh.of (by repeat (first | exact (Fresh.freeH hf1 (by omega)) | refine FreeH.set ?_ (by omega))) (by repeat (first | exact (Fresh.freeT hf1 (by omega)) | refine FreeT.set ?_ (by omega) | refine FreeT.via (by assumption) ?_ (by omega)))
    · simp only [St.bump]; omega
    · exact hr1.keep (by first | (simp only [St.bump,Tr.get_set]; simp only [hpn,if_false]; done) | (simp only [St.bump,Tr.get_set]; done) | rfl)
    · simp only [St.bump] at he2
      
      have hx2 : ExtR p σ σ2 := ⟨by have h1 := hx1.nb; have h2 := he2.nb; simp only at h2; omega, he2.fresh, fun l hl hne => by
          rw [he2.h l (by have h1 := hx1.nb; simp only; omega) hne]; (try simp only [Tr.get_set]); (try simp only [hpl _ l hl,if_false]); exact hx1.h l hl hne, fun q hq => by
          rw [he2.tk q (by have h1 := hx1.nb; simp only; omega)]; exact hx1.tk q hq⟩
      have hf2 := hx2.fresh
      have hn2 : σ.nb + 8 ≤ σ2.nb := by have h2 := he2.nb; simp only at h2; omega
      have g82 : Tr.get σ2.h σ.nb = some [.i .u8 0, .i .i64 0, .i .u32 0, .i .u32 0, .i .u8 0, .sl [] 1, .sl [] 1, .sl [] 1] := by
        rw [he2.h σ.nb (by simp only; omega) (by omega)]
        simp only [reduceIte,reduceCtorEq,Tr.get_set,Nat.left_eq_add,g81]
      have g92 : Tr.get σ2.h (σ.nb + 3) = some [.i .u8 op, .i .i64 0, .i .u32 0, .i .u32 0, .i .u8 k, .sl [] 1, .sl [] 1, .sl [] 1] := by
        rw [he2.h (σ.nb + 3) (by simp only; omega) (by omega)]
        simp only [reduceIte,Tr.get_set,g91]
      have hl2 := hrd _ _ _ _ _ _ hq2 hm
      by_cases hz : z = 5
      · subst hz
        simp only [↓cw_seq,↓cw_cond,↓cw_region,↓then_normal,↓draw_false,↓ow_nil,↓ow_cons,↓contO_eq,↓op_move,↓op_assign,↓op_store,↓op_binOp,↓op_fieldAddr,↓op_extract,↓op_call,↓force_DC,vW_some,pW_some,bW_true,ifW_some,setD_some,setD_none,on1_some,on2_some,stV,biV_eq,faV_eq,exV,callV_some,arg_val,opd,opds,ofConst,leaf,rd_set,rd_nil,binV,intV,isConst,fieldAddrV,put,flat,AV.cells,undF,infF,Nat.reduceEqDiff,Nat.reduceAdd,Nat.reduceLeDiff,reduceIte,reduceCtorEq,Bool.or_true,List.length_cons,List.length_nil,List.getElem?_cons_zero,List.getElem?_cons_succ,List.append_nil,List.set_cons_zero,List.set_cons_succ,beq_self_eq_true,Nat.zero_add,and_self,St.bump,storeV,Nat.add_assoc,List.size_toArray,g92,hfd,Int.cast_ofNat_Int]
        refine FnW_call rfl (by kernel_rfl) (by kernel_rfl) (by kernel_rfl) (H a2 m2 false (by omega) hl2.2.1 hl2.2.2 _ p _ ?_ ?_ ?_ (fun e z2 a3 m3 hq3 κ3 σ3 he3 hr3 => ?_) fun w e hq3 σ3 he3 hr3 => ?_)
        · simp only [St.bump]; first | exact Fresh.of (by repeat (first | exact (Fresh.freeH hf2 (by omega)) | refine FreeH.set ?_ (by omega))) (by repeat (first | exact (Fresh.freeT hf2 (by omega)) | refine FreeT.set ?_ (by omega) | refine FreeT.via (by assumption) ?_ (by omega)))
        · simp only [St.bump]; omega
        · exact hr2.keep (by first | (simp only [St.bump,Tr.get_set]; simp only [hpn,if_false]; done) | (simp only [St.bump,Tr.get_set]; done) | rfl)
        · simp only [St.bump] at he3
          
          have hx3 : ExtR p σ σ3 := ⟨by have h1 := hx2.nb; have h2 := he3.nb; simp only at h2; omega, he3.fresh, fun l hl hne => by
              rw [he3.h l (by have h1 := hx2.nb; simp only; omega) hne]; (try simp only [Tr.get_set]); (try simp only [hpl _ l hl,if_false]); exact hx2.h l hl hne, fun q hq => by
              rw [he3.tk q (by have h1 := hx2.nb; simp only; omega)]; exact hx2.tk q hq⟩
          have hf3 := hx3.fresh
          have hn3 : σ.nb + 8 ≤ σ3.nb := by have h2 := he3.nb; simp only at h2; omega
          have g83 : Tr.get σ3.h σ.nb = some [.i .u8 0, .i .i64 0, .i .u32 0, .i .u32 0, .i .u8 0, .sl [] 1, .sl [] 1, .sl [] 1] := by
            rw [he3.h σ.nb (by simp only; omega) (by omega)]
            simp only [reduceIte,reduceCtorEq,Tr.get_set,Nat.left_eq_add,g82]
          have g93 : Tr.get σ3.h (σ.nb + 3) = some [.i .u8 op, .i .i64 0, .i .u32 0, .i .u32 0, .i .u8 k, .sl b.av κ2, .sl [] 1, .sl [] 1] := by
            rw [he3.h (σ.nb + 3) (by simp only; omega) (by omega)]
            simp only [reduceIte,Tr.get_set,g92]
          simp only [↓cw_ret,↓cw_seq,↓cw_region,↓then_normal,↓block_normal,↓draw_false,↓ow_nil,↓ow_cons,↓contO_eq,↓op_move,↓op_load,↓op_store,↓op_fieldAddr,↓op_extract,↓ret_ret,vW_some,pW_some,setD_some,setD_none,on1_some,ldV_eq,stV,faV_eq,exV,resW,opd,rd_set,rd_nil,loadV,fieldAddrV,take?,put,flat,AV.cells,undF,aggF,infF,resV,Nat.reduceEqDiff,Nat.reduceAdd,Nat.reduceLeDiff,reduceIte,reduceCtorEq,List.length_cons,List.length_nil,List.getElem?_cons_zero,List.getElem?_cons_succ,List.drop_zero,List.take_succ_cons,List.take_zero,List.set_cons_zero,List.set_cons_succ,Nat.zero_add,and_self,St.bump,storeV,Tr.get_set,Nat.add_assoc,Nat.left_eq_add,List.size_toArray,g83,g93,Tryd.f41]
          exact hok { res := (k : Int), b := b, e := e } a3 m3 (by simp only [hq,hq2,if_true,hq3]) κ2 κ3 1 _ (hx3.upd (by omega) (by first | exact Fresh.of (by repeat (first | exact (Fresh.freeH hf3 (by omega)) | refine FreeH.set ?_ (by omega))) (by repeat (first | exact (Fresh.freeT hf3 (by omega)) | refine FreeT.set ?_ (by omega) | refine FreeT.via (by assumption) ?_ (by omega)))) fun l hl hne => by simp only [Tr.get_set]; simp only [hpl _ l hl,hpl0 l hl,if_false]) (hr3.keep (by first | (simp only [Tr.get_set]; simp only [hpn,hpn0,if_false]; done) | (simp only [St.bump,Tr.get_set]; done) | rfl))
        · simp only [St.bump] at he3
          
          have hx3 : ExtR p σ σ3 := ⟨by have h1 := hx2.nb; have h2 := he3.nb; simp only at h2; omega, he3.fresh, fun l hl hne => by
              rw [he3.h l (by have h1 := hx2.nb; simp only; omega) hne]; (try simp only [Tr.get_set]); (try simp only [hpl _ l hl,if_false]); exact hx2.h l hl hne, fun q hq => by
              rw [he3.tk q (by have h1 := hx2.nb; simp only; omega)]; exact hx2.tk q hq⟩
          have hf3 := hx3.fresh
          have hn3 : σ.nb + 8 ≤ σ3.nb := by have h2 := he3.nb; simp only at h2; omega
          have g83 : Tr.get σ3.h σ.nb = some [.i .u8 0, .i .i64 0, .i .u32 0, .i .u32 0, .i .u8 0, .sl [] 1, .sl [] 1, .sl [] 1] := by
            rw [he3.h σ.nb (by simp only; omega) (by omega)]
            simp only [reduceIte,reduceCtorEq,Tr.get_set,Nat.left_eq_add,g82]
          have g93 : Tr.get σ3.h (σ.nb + 3) = some [.i .u8 op, .i .i64 0, .i .u32 0, .i .u32 0, .i .u8 k, .sl b.av κ2, .sl [] 1, .sl [] 1] := by
            rw [he3.h (σ.nb + 3) (by simp only; omega) (by omega)]
            simp only [reduceIte,Tr.get_set,g92]
          simp only [↓cw_ret,↓cw_seq,↓cw_region,↓then_normal,↓block_normal,↓draw_false,↓ow_nil,↓ow_cons,↓contO_eq,↓op_move,↓op_load,↓op_store,↓op_fieldAddr,↓op_extract,↓ret_ret,vW_some,pW_some,setD_some,setD_none,on1_some,ldV_eq,stV,faV_eq,exV,resW,opd,rd_set,rd_nil,loadV,fieldAddrV,take?,put,flat,AV.cells,undF,aggF,infF,resV,Nat.reduceEqDiff,Nat.reduceAdd,Nat.reduceLeDiff,reduceIte,reduceCtorEq,List.length_cons,List.length_nil,List.getElem?_cons_zero,List.getElem?_cons_succ,List.drop_zero,List.take_succ_cons,List.take_zero,List.set_cons_zero,List.set_cons_succ,Nat.zero_add,and_self,St.bump,storeV,Tr.get_set,Nat.add_assoc,Nat.left_eq_add,List.size_toArray,g83,g93,Tryd.f41]
          exact hbad w e (by simp only [hq,hq2,if_true,hq3]) _ _ rfl rfl (hx3.upd (by omega) (by first | exact Fresh.of (by repeat (first | exact (Fresh.freeH hf3 (by omega)) | refine FreeH.set ?_ (by omega))) (by repeat (first | exact (Fresh.freeT hf3 (by omega)) | refine FreeT.set ?_ (by omega) | refine FreeT.via (by assumption) ?_ (by omega)))) fun l hl hne => by simp only [Tr.get_set]; simp only [hpl _ l hl,hpl0 l hl,if_false]) (hr3.keep (by first | (simp only [Tr.get_set]; simp only [hpn,hpn0,if_false]; done) | (simp only [St.bump,Tr.get_set]; done) | rfl))
      · have hz5 : ((z : Int) == 5) = false := by rw [beq_eq_false_iff_ne]; omega
        simp only [↓cw_skip,↓cw_ret,↓cw_seq,↓cw_cond,↓cw_region,↓then_normal,↓block_normal,↓draw_false,↓ow_nil,↓ow_cons,↓contO_eq,↓op_move,↓op_assign,↓op_load,↓op_store,↓op_binOp,↓op_fieldAddr,↓op_extract,↓ret_ret,↓force_DC,vW_some,pW_some,bW_false,ifW_some,setD_some,setD_none,on1_some,on2_some,ldV_eq,stV,biV_eq,faV_eq,exV,resW,opd,ofConst,leaf,rd_set,rd_nil,binV,intV,isConst,loadV,fieldAddrV,take?,put,flat,AV.cells,undF,aggF,infF,resV,Nat.reduceEqDiff,Nat.reduceAdd,Nat.reduceLeDiff,reduceIte,reduceCtorEq,Bool.or_true,List.length_cons,List.length_nil,List.getElem?_cons_zero,List.getElem?_cons_succ,List.drop_zero,List.take_succ_cons,List.take_zero,List.set_cons_zero,List.set_cons_succ,Nat.zero_add,and_self,St.bump,storeV,Tr.get_set,Nat.add_assoc,Nat.left_eq_add,List.size_toArray,g82,g92,hz5,Tryd.f41]
        exact hok { res := (k : Int), b := b } a2 m2 (by simp only [hq,hq2,if_neg hz]) κ2 1 1 _ (hx2.upd (by omega) (by first | exact Fresh.of (by repeat (first | exact (Fresh.freeH hf2 (by omega)) | refine FreeH.set ?_ (by omega))) (by repeat (first | exact (Fresh.freeT hf2 (by omega)) | refine FreeT.set ?_ (by omega) | refine FreeT.via (by assumption) ?_ (by omega)))) fun l hl hne => by simp only [Tr.get_set]; simp only [hpl _ l hl,hpl0 l hl,if_false]) (hr2.keep (by first | (simp only [Tr.get_set]; simp only [hpn,hpn0,if_false]; done) | (simp only [St.bump,Tr.get_set]; done) | rfl))
    · simp only [St.bump] at he2
      
      have hx2 : ExtR p σ σ2 := ⟨by have h1 := hx1.nb; have h2 := he2.nb; simp only at h2; omega, he2.fresh, fun l hl hne => by
          rw [he2.h l (by have h1 := hx1.nb; simp only; omega) hne]; (try simp only [Tr.get_set]); (try simp only [hpl _ l hl,if_false]); exact hx1.h l hl hne, fun q hq => by
          rw [he2.tk q (by have h1 := hx1.nb; simp only; omega)]; exact hx1.tk q hq⟩
      have hf2 := hx2.fresh
      have hn2 : σ.nb + 8 ≤ σ2.nb := by have h2 := he2.nb; simp only at h2; omega
      have g82 : Tr.get σ2.h σ.nb = some [.i .u8 0, .i .i64 0, .i .u32 0, .i .u32 0, .i .u8 0, .sl [] 1, .sl [] 1, .sl [] 1] := by
        rw [he2.h σ.nb (by simp only; omega) (by omega)]
        simp only [reduceIte,reduceCtorEq,Tr.get_set,Nat.left_eq_add,g81]
      have g92 : Tr.get σ2.h (σ.nb + 3) = some [.i .u8 op, .i .i64 0, .i .u32 0, .i .u32 0, .i .u8 k, .sl [] 1, .sl [] 1, .sl [] 1] := by
        rw [he2.h (σ.nb + 3) (by simp only; omega) (by omega)]
        simp only [reduceIte,Tr.get_set,g91]
      simp only [↓cw_skip,↓cw_ret,↓cw_seq,↓cw_cond,↓cw_region,↓then_normal,↓block_normal,↓draw_false,↓ow_nil,↓ow_cons,↓contO_eq,↓op_move,↓op_assign,↓op_load,↓op_store,↓op_binOp,↓op_fieldAddr,↓op_extract,↓ret_ret,↓force_DC,vW_some,pW_some,bW_false,ifW_some,setD_some,setD_none,on1_some,on2_some,ldV_eq,stV,biV_eq,faV_eq,exV,resW,opd,ofConst,leaf,rd_set,rd_nil,binV,intV,isConst,loadV,fieldAddrV,take?,put,flat,AV.cells,undF,aggF,infF,resV,Nat.reduceEqDiff,Nat.reduceAdd,Nat.reduceLeDiff,reduceIte,reduceCtorEq,Bool.or_true,List.length_cons,List.length_nil,List.getElem?_cons_zero,List.getElem?_cons_succ,List.drop_zero,List.take_succ_cons,List.take_zero,List.set_cons_zero,List.set_cons_succ,Int.reduceBEq,Nat.zero_add,and_self,St.bump,storeV,Tr.get_set,Nat.add_assoc,Nat.left_eq_add,List.size_toArray,g82,g92,Tryd.f41]
      exact hbad w e (by simp only [hq,hq2]) _ _ rfl rfl (hx2.upd (by omega) (by first | exact Fresh.of (by repeat (first | exact (Fresh.freeH hf2 (by omega)) | refine FreeH.set ?_ (by omega))) (by repeat (first | exact (Fresh.freeT hf2 (by omega)) | refine FreeT.set ?_ (by omega) | refine FreeT.via (by assumption) ?_ (by omega)))) fun l hl hne => by simp only [Tr.get_set]; simp only [hpl _ l hl,hpl0 l hl,if_false]) (hr2.keep (by first | (simp only [Tr.get_set]; simp only [hpn,hpn0,if_false]; done) | (simp only [St.bump,Tr.get_set]; done) | rfl))
  · simp only [St.bump] at he1
    have hx1 : ExtR p σ σ1 := he1.back (by omega) (fun l hl hne => by simp only [Tr.get_set]; simp only [hpl _ l hl,hpl0 l hl,if_false]) fun _ _ => rfl
    have hf1 := hx1.fresh
    have hn1 : σ.nb + 8 ≤ σ1.nb := by have h2 := he1.nb; simp only at h2; omega
    have g81 : Tr.get σ1.h σ.nb = some [.i .u8 0, .i .i64 0, .i .u32 0, .i .u32 0, .i .u8 0, .sl [] 1, .sl [] 1, .sl [] 1] := by
      rw [he1.h σ.nb (by simp only; omega) (by omega)]
      simp only [reduceIte,reduceCtorEq,Tr.get_set,Nat.left_eq_add,hf.h0]
    have g91 : Tr.get σ1.h (σ.nb + 3) = some [.i .u8 op, .i .i64 0, .i .u32 0, .i .u32 0, .i .u8 0, .sl [] 1, .sl [] 1, .sl [] 1] := by
      rw [he1.h (σ.nb + 3) (by simp only; omega) (by omega)]
      simp only [reduceIte,reduceCtorEq,Tr.get_set,Nat.add_eq_left,hf.hb]
    simp only [↓cw_seq,↓cw_region,↓then_normal,↓draw_false,↓ow_nil,↓ow_cons,↓contO_eq,↓op_move,↓op_assign,↓op_store,↓op_binOp,↓op_fieldAddr,↓op_call,vW_some,pW_some,setD_some,setD_none,on1_some,on2_some,stV,biV_eq,faV_eq,callV_some,arg_val,opd,opds,ofConst,leaf,rd_set,rd_nil,binV,intV,isConst,fieldAddrV,put,flat,AV.cells,undF,infF,Nat.reduceEqDiff,Nat.reduceAdd,Nat.reduceLeDiff,reduceIte,reduceCtorEq,Bool.or_true,List.length_cons,List.length_nil,List.getElem?_cons_zero,List.getElem?_cons_succ,List.append_nil,List.set_cons_zero,List.set_cons_succ,Int.reduceBEq,Nat.zero_add,and_self,St.bump,storeV,Nat.add_assoc,List.size_toArray,g91,hfd]
    refine FnW_call rfl (by kernel_rfl) (by kernel_rfl) (by kernel_rfl) (w_listE _ p bs w e (d + 1) false _ ?_ ?_ ?_ fun σ2 he2 hr2 => ?_)
    · simp only [St.bump]; first | exact Fresh.of (by repeat (first | exact (Fresh.freeH hf1 (by omega)) | refine FreeH.set ?_ (by omega))) (by repeat (first | exact (Fresh.freeT hf1 (by omega)) | refine FreeT.set ?_ (by omega) | refine FreeT.via (by assumption) ?_ (by omega)))
    · simp only [St.bump]; omega
    · exact hr1.keep (by first | (simp only [St.bump,Tr.get_set]; simp only [hpn,if_false]; done) | (simp only [St.bump,Tr.get_set]; done) | rfl)
    simp only [St.bump] at he2
    have hx2 : ExtR p σ σ2 := ⟨by have h1 := hx1.nb; have h2 := he2.nb; simp only at h2; omega, he2.fresh, fun l hl hne => by
        rw [he2.h l (by have h1 := hx1.nb; simp only; omega) hne]; (try simp only [Tr.get_set]); (try simp only [hpl _ l hl,if_false]); exact hx1.h l hl hne, fun q hq => by
        rw [he2.tk q (by have h1 := hx1.nb; simp only; omega)]; exact hx1.tk q hq⟩
    have hf2 := hx2.fresh
    have hn2 : σ.nb + 8 ≤ σ2.nb := by have h2 := he2.nb; simp only at h2; omega
    have g82 : Tr.get σ2.h σ.nb = some [.i .u8 0, .i .i64 0, .i .u32 0, .i .u32 0, .i .u8 0, .sl [] 1, .sl [] 1, .sl [] 1] := by
      rw [he2.h σ.nb (by simp only; omega) (by omega)]
      simp only [reduceIte,reduceCtorEq,Tr.get_set,Nat.left_eq_add,g81]
    have g92 : Tr.get σ2.h (σ.nb + 3) = some [.i .u8 op, .i .i64 0, .i .u32 0, .i .u32 0, .i .u8 0, .sl [] 1, .sl [] 1, .sl [] 1] := by
      rw [he2.h (σ.nb + 3) (by simp only; omega) (by omega)]
      simp only [reduceIte,Tr.get_set,g91]
    simp only [↓cw_skip,↓cw_ret,↓cw_seq,↓cw_cond,↓cw_region,↓then_normal,↓block_normal,↓draw_false,↓ow_nil,↓ow_cons,↓contO_eq,↓op_move,↓op_assign,↓op_load,↓op_store,↓op_binOp,↓op_fieldAddr,↓op_extract,↓ret_ret,↓force_DC,vW_some,pW_some,bW_false,ifW_some,setD_some,setD_none,on1_some,on2_some,ldV_eq,stV,biV_eq,faV_eq,exV,resW,opd,ofConst,leaf,rd_set,rd_nil,binV,intV,isConst,loadV,fieldAddrV,take?,put,flat,AV.cells,undF,aggF,infF,resV,Nat.reduceEqDiff,Nat.reduceAdd,Nat.reduceLeDiff,reduceIte,reduceCtorEq,Bool.or_true,List.length_cons,List.length_nil,List.getElem?_cons_zero,List.getElem?_cons_succ,List.drop_zero,List.take_succ_cons,List.take_zero,List.set_cons_zero,List.set_cons_succ,Int.reduceBEq,Nat.zero_add,and_self,St.bump,storeV,Tr.get_set,Nat.add_assoc,Nat.left_eq_add,List.size_toArray,g82,g92,Tryd.f41]
    exact hbad w e (by simp only [hq]) _ _ rfl rfl (hx2.upd (by omega) (by first | exact Fresh.of (by repeat (first | exact (Fresh.freeH hf2 (by omega)) | refine FreeH.set ?_ (by omega))) (by repeat (first | exact (Fresh.freeT hf2 (by omega)) | refine FreeT.set ?_ (by omega) | refine FreeT.via (by assumption) ?_ (by omega)))) fun l hl hne => by simp only [Tr.get_set]; simp only [hpl _ l hl,hpl0 l hl,if_false]) (hr2.keep (by first | (simp only [Tr.get_set]; simp only [hpn,hpn0,if_false]; done) | (simp only [St.bump,Tr.get_set]; done) | rfl))

set_option maxHeartbeats 2000000 in
theorem w_instr7 (bs : List Nat) (hb : bs.length < 1000000) (hbb : ∀ c ∈ bs, c < 256) (op a m d : Nat) (ha : a ≤ bs.length) (hd : d < 100000) (hm : m ≤ 16384) (rd : Nat → Nat → Bool → Rr (L × Nat))
    (H : ∀ a1 m1 o, a < a1 → a1 ≤ bs.length → m1 ≤ 16384 → ListP bs (d + 1) o a1 m1 (rd a1 m1 o)) (hrd : ∀ a m o x a1 m1, rd a m o = .ok x a1 m1 → m ≤ 16384 → a < a1 ∧ a1 ≤ bs.length ∧ m1 ≤ 16384)
    (σ : St) (p : Nat) (Q : AV → St → Prop) (hf : Fresh σ) (hp : p < σ.nb) (hr : RN σ p bs a m)
    (hok : ∀ x a1 m1, rdI rd bs 7 a m = .ok x a1 m1 → ∀ κ1 κ2 κ3 σ', ExtR p σ σ' → RN σ' p bs a1 m1 → Q (.a [.i .u8 op, .i .i64 x.n, .i .u32 x.al, .i .u32 x.off, .i .u8 x.res, .sl x.b.av κ1, .sl x.e.av κ2, .sl (u32s x.ls) κ3]) σ')
    (hbad : ∀ w e, rdI rd bs 7 a m = .bad w e → ∀ cs σ', cs.length = 8 → flat cs = true → ExtR p σ σ' → RE σ' p bs w e → Q (.a cs) σ') : CallW TS 41 [.p p 0, .i .u8 op, .i .i64 (7 : Nat), .i .i64 d] σ Q := by
  have hfd : fw .i64 ((d : Int) + 1) = ((d + 1 : Nat) : Int) := fw_add1 (by omega)
  have hpn : ∀ j, p ≠ σ.nb + j := fun j => by omega
  have hpn0 : p ≠ σ.nb := by omega
  have hpl : ∀ j l, l < σ.nb → l ≠ σ.nb + j := fun j l h => by omega
  have hpl0 : ∀ l, l < σ.nb → l ≠ σ.nb := fun l h => by omega
  simp only [rdI,Nat.reduceEqDiff,if_true,if_false,or_true] at hok hbad
  refine callW_of ft41 rfl (Nat.le_of_ble_eq_true rfl) ?_
  simp only [show (7 == 7 : Bool) = true from rfl] at hok hbad
  simp only [↓cw_seq,↓cw_block,↓cw_cond,↓cw_region,↓then_normal,↓draw_false,↓ow_nil,↓ow_cons,↓contO_eq,↓op_move,↓op_assign,↓op_alloc,↓op_build,↓op_store,↓op_binOp,↓op_call,↓force_DC,vW_some,pW_some,bW_true,bW_false,ifW_some,setD_some,setD_none,allocV,bldV,on2_some,stV,biV_eq,callV_some,arg_val,opd,opds,ofConst,leaf,rd_set,rd_nil,Fr.ofList,binV,intV,isConst,buildV,places,fillV,parts,put,flat,AV.cells,undF,infF,Nat.reduceEqDiff,Nat.reduceAdd,Nat.reduceLeDiff,reduceIte,reduceCtorEq,Bool.or_true,List.length_cons,List.length_nil,List.getElem?_cons_zero,List.append_nil,List.set_cons_zero,List.set_cons_succ,Int.reduceBEq,beq_self_eq_true,Nat.add_zero,Nat.zero_add,and_self,newBox,St.bump,storeV,Tr.get_set,Nat.add_assoc,Nat.add_eq_left,boxFree,List.size_toArray,hf.hb,hf.h0,Int.cast_ofNat_Int]
  refine FnW_call rfl (by kernel_rfl) (by kernel_rfl) (by kernel_rfl) (w_kindN _ p bs a m _ ?_ ?_ ?_ ha hb (fun k a1 hq σ1 he1 hr1 => ?_) fun w e hq σ1 he1 hr1 => ?_)
  · simp only [St.bump]; first | exact Fresh.of (by repeat (first | exact (Fresh.freeH hf (by omega)) | refine FreeH.set ?_ (by omega))) (by repeat (first | exact (Fresh.freeT hf (by omega)) | refine FreeT.set ?_ (by omega) | refine FreeT.via (by assumption) ?_ (by omega)))
  · simp only [St.bump]; omega
  · exact hr.keep (by first | (simp only [St.bump,Tr.get_set]; simp only [hpn,hpn0,if_false]; done) | (simp only [St.bump,Tr.get_set]; done) | rfl)
  · simp only [St.bump] at he1
    have hx1 : ExtR p σ σ1 := he1.back (by omega) (fun l hl hne => by simp only [Tr.get_set]; simp only [hpl _ l hl,hpl0 l hl,if_false]) fun _ _ => rfl
    have hf1 := hx1.fresh
    have hn1 : σ.nb + 8 ≤ σ1.nb := by have h2 := he1.nb; simp only at h2; omega
    have g81 : Tr.get σ1.h σ.nb = some [.i .u8 0, .i .i64 0, .i .u32 0, .i .u32 0, .i .u8 0, .sl [] 1, .sl [] 1, .sl [] 1] := by
      rw [he1.h σ.nb (by simp only; omega) (by omega)]
      simp only [reduceIte,reduceCtorEq,Tr.get_set,Nat.left_eq_add,hf.h0]
    have g91 : Tr.get σ1.h (σ.nb + 3) = some [.i .u8 op, .i .i64 0, .i .u32 0, .i .u32 0, .i .u8 0, .sl [] 1, .sl [] 1, .sl [] 1] := by
      rw [he1.h (σ.nb + 3) (by simp only; omega) (by omega)]
      simp only [reduceIte,reduceCtorEq,Tr.get_set,Nat.add_eq_left,hf.hb]
    have hl := rdK_len hq
    simp only [↓cw_seq,↓cw_region,↓then_normal,↓draw_false,↓ow_nil,↓ow_cons,↓contO_eq,↓op_move,↓op_assign,↓op_store,↓op_binOp,↓op_fieldAddr,↓op_call,vW_some,pW_some,setD_some,setD_none,on1_some,on2_some,stV,biV_eq,faV_eq,callV_some,arg_val,opd,opds,ofConst,leaf,rd_set,rd_nil,binV,intV,isConst,fieldAddrV,put,flat,AV.cells,undF,infF,Nat.reduceEqDiff,Nat.reduceAdd,Nat.reduceLeDiff,reduceIte,reduceCtorEq,Bool.or_true,List.length_cons,List.length_nil,List.getElem?_cons_zero,List.getElem?_cons_succ,List.append_nil,List.set_cons_zero,List.set_cons_succ,beq_self_eq_true,Nat.zero_add,and_self,St.bump,storeV,Nat.add_assoc,List.size_toArray,g91,hfd]
    refine FnW_call rfl (by kernel_rfl) (by kernel_rfl) (by kernel_rfl) (H a1 m true hl.1 hl.2.1 hm _ p _ ?_ ?_ ?_ (fun b z a2 m2 hq2 κ2 σ2 he2 hr2 => ?_) fun w e hq2 σ2 he2 hr2 => ?_)
    · simp only [St.bump]; first | exact Fresh.of (by repeat (first | exact (Fresh.freeH hf1 (by omega)) | refine FreeH.set ?_ (by omega))) (by repeat (first | exact (Fresh.freeT hf1 (by omega)) | refine FreeT.set ?_ (by omega) | refine FreeT.via (by assumption) ?_ (by omega)))
    · simp only [St.bump]; omega
    · exact hr1.keep (by first | (simp only [St.bump,Tr.get_set]; simp only [hpn,if_false]; done) | (simp only [St.bump,Tr.get_set]; done) | rfl)
    · simp only [St.bump] at he2
      
      have hx2 : ExtR p σ σ2 := ⟨by have h1 := hx1.nb; have h2 := he2.nb; simp only at h2; omega, he2.fresh, fun l hl hne => by
          rw [he2.h l (by have h1 := hx1.nb; simp only; omega) hne]; (try simp only [Tr.get_set]); (try simp only [hpl _ l hl,if_false]); exact hx1.h l hl hne, fun q hq => by
          rw [he2.tk q (by have h1 := hx1.nb; simp only; omega)]; exact hx1.tk q hq⟩
      have hf2 := hx2.fresh
      have hn2 : σ.nb + 8 ≤ σ2.nb := by have h2 := he2.nb; simp only at h2; omega
      have g82 : Tr.get σ2.h σ.nb = some [.i .u8 0, .i .i64 0, .i .u32 0, .i .u32 0, .i .u8 0, .sl [] 1, .sl [] 1, .sl [] 1] := by
        rw [he2.h σ.nb (by simp only; omega) (by omega)]
        simp only [reduceIte,reduceCtorEq,Tr.get_set,Nat.left_eq_add,g81]
      have g92 : Tr.get σ2.h (σ.nb + 3) = some [.i .u8 op, .i .i64 0, .i .u32 0, .i .u32 0, .i .u8 k, .sl [] 1, .sl [] 1, .sl [] 1] := by
        rw [he2.h (σ.nb + 3) (by simp only; omega) (by omega)]
        simp only [reduceIte,Tr.get_set,g91]
      have hl2 := hrd _ _ _ _ _ _ hq2 hm
      by_cases hz : z = 5
      · subst hz
        simp only [↓cw_seq,↓cw_cond,↓cw_region,↓then_normal,↓draw_false,↓ow_nil,↓ow_cons,↓contO_eq,↓op_move,↓op_assign,↓op_store,↓op_binOp,↓op_fieldAddr,↓op_extract,↓op_call,↓force_DC,vW_some,pW_some,bW_true,ifW_some,setD_some,setD_none,on1_some,on2_some,stV,biV_eq,faV_eq,exV,callV_some,arg_val,opd,opds,ofConst,leaf,rd_set,rd_nil,binV,intV,isConst,fieldAddrV,put,flat,AV.cells,undF,infF,Nat.reduceEqDiff,Nat.reduceAdd,Nat.reduceLeDiff,reduceIte,reduceCtorEq,Bool.or_true,List.length_cons,List.length_nil,List.getElem?_cons_zero,List.getElem?_cons_succ,List.append_nil,List.set_cons_zero,List.set_cons_succ,beq_self_eq_true,Nat.zero_add,and_self,St.bump,storeV,Nat.add_assoc,List.size_toArray,g92,hfd,Int.cast_ofNat_Int]
        refine FnW_call rfl (by kernel_rfl) (by kernel_rfl) (by kernel_rfl) (H a2 m2 false (by omega) hl2.2.1 hl2.2.2 _ p _ ?_ ?_ ?_ (fun e z2 a3 m3 hq3 κ3 σ3 he3 hr3 => ?_) fun w e hq3 σ3 he3 hr3 => ?_)
        · simp only [St.bump]; first | exact Fresh.of (by repeat (first | exact (Fresh.freeH hf2 (by omega)) | refine FreeH.set ?_ (by omega))) (by repeat (first | exact (Fresh.freeT hf2 (by omega)) | refine FreeT.set ?_ (by omega) | refine FreeT.via (by assumption) ?_ (by omega)))
        · simp only [St.bump]; omega
        · exact hr2.keep (by first | (simp only [St.bump,Tr.get_set]; simp only [hpn,if_false]; done) | (simp only [St.bump,Tr.get_set]; done) | rfl)
        · simp only [St.bump] at he3
          
          have hx3 : ExtR p σ σ3 := ⟨by have h1 := hx2.nb; have h2 := he3.nb; simp only at h2; omega, he3.fresh, fun l hl hne => by
              rw [he3.h l (by have h1 := hx2.nb; simp only; omega) hne]; (try simp only [Tr.get_set]); (try simp only [hpl _ l hl,if_false]); exact hx2.h l hl hne, fun q hq => by
              rw [he3.tk q (by have h1 := hx2.nb; simp only; omega)]; exact hx2.tk q hq⟩
          have hf3 := hx3.fresh
          have hn3 : σ.nb + 8 ≤ σ3.nb := by have h2 := he3.nb; simp only at h2; omega
          have g83 : Tr.get σ3.h σ.nb = some [.i .u8 0, .i .i64 0, .i .u32 0, .i .u32 0, .i .u8 0, .sl [] 1, .sl [] 1, .sl [] 1] := by
            rw [he3.h σ.nb (by simp only; omega) (by omega)]
            simp only [reduceIte,reduceCtorEq,Tr.get_set,Nat.left_eq_add,g82]
          have g93 : Tr.get σ3.h (σ.nb + 3) = some [.i .u8 op, .i .i64 0, .i .u32 0, .i .u32 0, .i .u8 k, .sl b.av κ2, .sl [] 1, .sl [] 1] := by
            rw [he3.h (σ.nb + 3) (by simp only; omega) (by omega)]
            simp only [reduceIte,Tr.get_set,g92]
          simp only [↓cw_ret,↓cw_seq,↓cw_region,↓then_normal,↓block_normal,↓draw_false,↓ow_nil,↓ow_cons,↓contO_eq,↓op_move,↓op_load,↓op_store,↓op_fieldAddr,↓op_extract,↓ret_ret,vW_some,pW_some,setD_some,setD_none,on1_some,ldV_eq,stV,faV_eq,exV,resW,opd,rd_set,rd_nil,loadV,fieldAddrV,take?,put,flat,AV.cells,undF,aggF,infF,resV,Nat.reduceEqDiff,Nat.reduceAdd,Nat.reduceLeDiff,reduceIte,reduceCtorEq,List.length_cons,List.length_nil,List.getElem?_cons_zero,List.getElem?_cons_succ,List.drop_zero,List.take_succ_cons,List.take_zero,List.set_cons_zero,List.set_cons_succ,Nat.zero_add,and_self,St.bump,storeV,Tr.get_set,Nat.add_assoc,Nat.left_eq_add,List.size_toArray,g83,g93,Tryd.f41]
          exact hok { res := (k : Int), b := b, e := e } a3 m3 (by simp only [hq,hq2,if_true,hq3]) κ2 κ3 1 _ (hx3.upd (by omega) (by first | exact Fresh.of (by repeat (first | exact (Fresh.freeH hf3 (by omega)) | refine FreeH.set ?_ (by omega))) (by repeat (first | exact (Fresh.freeT hf3 (by omega)) | refine FreeT.set ?_ (by omega) | refine FreeT.via (by assumption) ?_ (by omega)))) fun l hl hne => by simp only [Tr.get_set]; simp only [hpl _ l hl,hpl0 l hl,if_false]) (hr3.keep (by first | (simp only [Tr.get_set]; simp only [hpn,hpn0,if_false]; done) | (simp only [St.bump,Tr.get_set]; done) | rfl))
        · simp only [St.bump] at he3
          
          have hx3 : ExtR p σ σ3 := ⟨by have h1 := hx2.nb; have h2 := he3.nb; simp only at h2; omega, he3.fresh, fun l hl hne => by
              rw [he3.h l (by have h1 := hx2.nb; simp only; omega) hne]; (try simp only [Tr.get_set]); (try simp only [hpl _ l hl,if_false]); exact hx2.h l hl hne, fun q hq => by
              rw [he3.tk q (by have h1 := hx2.nb; simp only; omega)]; exact hx2.tk q hq⟩
          have hf3 := hx3.fresh
          have hn3 : σ.nb + 8 ≤ σ3.nb := by have h2 := he3.nb; simp only at h2; omega
          have g83 : Tr.get σ3.h σ.nb = some [.i .u8 0, .i .i64 0, .i .u32 0, .i .u32 0, .i .u8 0, .sl [] 1, .sl [] 1, .sl [] 1] := by
            rw [he3.h σ.nb (by simp only; omega) (by omega)]
            simp only [reduceIte,reduceCtorEq,Tr.get_set,Nat.left_eq_add,g82]
          have g93 : Tr.get σ3.h (σ.nb + 3) = some [.i .u8 op, .i .i64 0, .i .u32 0, .i .u32 0, .i .u8 k, .sl b.av κ2, .sl [] 1, .sl [] 1] := by
            rw [he3.h (σ.nb + 3) (by simp only; omega) (by omega)]
            simp only [reduceIte,Tr.get_set,g92]
          simp only [↓cw_ret,↓cw_seq,↓cw_region,↓then_normal,↓block_normal,↓draw_false,↓ow_nil,↓ow_cons,↓contO_eq,↓op_move,↓op_load,↓op_store,↓op_fieldAddr,↓op_extract,↓ret_ret,vW_some,pW_some,setD_some,setD_none,on1_some,ldV_eq,stV,faV_eq,exV,resW,opd,rd_set,rd_nil,loadV,fieldAddrV,take?,put,flat,AV.cells,undF,aggF,infF,resV,Nat.reduceEqDiff,Nat.reduceAdd,Nat.reduceLeDiff,reduceIte,reduceCtorEq,List.length_cons,List.length_nil,List.getElem?_cons_zero,List.getElem?_cons_succ,List.drop_zero,List.take_succ_cons,List.take_zero,List.set_cons_zero,List.set_cons_succ,Nat.zero_add,and_self,St.bump,storeV,Tr.get_set,Nat.add_assoc,Nat.left_eq_add,List.size_toArray,g83,g93,Tryd.f41]
          exact hbad w e (by simp only [hq,hq2,if_true,hq3]) _ _ rfl rfl (hx3.upd (by omega) (by first | exact Fresh.of (by repeat (first | exact (Fresh.freeH hf3 (by omega)) | refine FreeH.set ?_ (by omega))) (by repeat (first | exact (Fresh.freeT hf3 (by omega)) | refine FreeT.set ?_ (by omega) | refine FreeT.via (by assumption) ?_ (by omega)))) fun l hl hne => by simp only [Tr.get_set]; simp only [hpl _ l hl,hpl0 l hl,if_false]) (hr3.keep (by first | (simp only [Tr.get_set]; simp only [hpn,hpn0,if_false]; done) | (simp only [St.bump,Tr.get_set]; done) | rfl))
      · have hz5 : ((z : Int) == 5) = false := by rw [beq_eq_false_iff_ne]; omega
        simp only [↓cw_skip,↓cw_ret,↓cw_seq,↓cw_cond,↓cw_region,↓then_normal,↓block_normal,↓draw_false,↓ow_nil,↓ow_cons,↓contO_eq,↓op_move,↓op_assign,↓op_load,↓op_store,↓op_binOp,↓op_fieldAddr,↓op_extract,↓ret_ret,↓force_DC,vW_some,pW_some,bW_false,ifW_some,setD_some,setD_none,on1_some,on2_some,ldV_eq,stV,biV_eq,faV_eq,exV,resW,opd,ofConst,leaf,rd_set,rd_nil,binV,intV,isConst,loadV,fieldAddrV,take?,put,flat,AV.cells,undF,aggF,infF,resV,Nat.reduceEqDiff,Nat.reduceAdd,Nat.reduceLeDiff,reduceIte,reduceCtorEq,Bool.or_true,List.length_cons,List.length_nil,List.getElem?_cons_zero,List.getElem?_cons_succ,List.drop_zero,List.take_succ_cons,List.take_zero,List.set_cons_zero,List.set_cons_succ,Nat.zero_add,and_self,St.bump,storeV,Tr.get_set,Nat.add_assoc,Nat.left_eq_add,List.size_toArray,g82,g92,hz5,Tryd.f41]
        exact hok { res := (k : Int), b := b } a2 m2 (by simp only [hq,hq2,if_neg hz]) κ2 1 1 _ (hx2.upd (by omega) (by first | exact Fresh.of (by repeat (first | exact (Fresh.freeH hf2 (by omega)) | refine FreeH.set ?_ (by omega))) (by repeat (first | exact (Fresh.freeT hf2 (by omega)) | refine FreeT.set ?_ (by omega) | refine FreeT.via (by assumption) ?_ (by omega)))) fun l hl hne => by simp only [Tr.get_set]; simp only [hpl _ l hl,hpl0 l hl,if_false]) (hr2.keep (by first | (simp only [Tr.get_set]; simp only [hpn,hpn0,if_false]; done) | (simp only [St.bump,Tr.get_set]; done) | rfl))
    · simp only [St.bump] at he2
      
      have hx2 : ExtR p σ σ2 := ⟨by have h1 := hx1.nb; have h2 := he2.nb; simp only at h2; omega, he2.fresh, fun l hl hne => by
          rw [he2.h l (by have h1 := hx1.nb; simp only; omega) hne]; (try simp only [Tr.get_set]); (try simp only [hpl _ l hl,if_false]); exact hx1.h l hl hne, fun q hq => by
          rw [he2.tk q (by have h1 := hx1.nb; simp only; omega)]; exact hx1.tk q hq⟩
      have hf2 := hx2.fresh
      have hn2 : σ.nb + 8 ≤ σ2.nb := by have h2 := he2.nb; simp only at h2; omega
      have g82 : Tr.get σ2.h σ.nb = some [.i .u8 0, .i .i64 0, .i .u32 0, .i .u32 0, .i .u8 0, .sl [] 1, .sl [] 1, .sl [] 1] := by
        rw [he2.h σ.nb (by simp only; omega) (by omega)]
        simp only [reduceIte,reduceCtorEq,Tr.get_set,Nat.left_eq_add,g81]
      have g92 : Tr.get σ2.h (σ.nb + 3) = some [.i .u8 op, .i .i64 0, .i .u32 0, .i .u32 0, .i .u8 k, .sl [] 1, .sl [] 1, .sl [] 1] := by
        rw [he2.h (σ.nb + 3) (by simp only; omega) (by omega)]
        simp only [reduceIte,Tr.get_set,g91]
      simp only [↓cw_skip,↓cw_ret,↓cw_seq,↓cw_cond,↓cw_region,↓then_normal,↓block_normal,↓draw_false,↓ow_nil,↓ow_cons,↓contO_eq,↓op_move,↓op_assign,↓op_load,↓op_store,↓op_binOp,↓op_fieldAddr,↓op_extract,↓ret_ret,↓force_DC,vW_some,pW_some,bW_false,ifW_some,setD_some,setD_none,on1_some,on2_some,ldV_eq,stV,biV_eq,faV_eq,exV,resW,opd,ofConst,leaf,rd_set,rd_nil,binV,intV,isConst,loadV,fieldAddrV,take?,put,flat,AV.cells,undF,aggF,infF,resV,Nat.reduceEqDiff,Nat.reduceAdd,Nat.reduceLeDiff,reduceIte,reduceCtorEq,Bool.or_true,List.length_cons,List.length_nil,List.getElem?_cons_zero,List.getElem?_cons_succ,List.drop_zero,List.take_succ_cons,List.take_zero,List.set_cons_zero,List.set_cons_succ,Int.reduceBEq,Nat.zero_add,and_self,St.bump,storeV,Tr.get_set,Nat.add_assoc,Nat.left_eq_add,List.size_toArray,g82,g92,Tryd.f41]
      exact hbad w e (by simp only [hq,hq2]) _ _ rfl rfl (hx2.upd (by omega) (by first | exact Fresh.of (by repeat (first | exact (Fresh.freeH hf2 (by omega)) | refine FreeH.set ?_ (by omega))) (by repeat (first | exact (Fresh.freeT hf2 (by omega)) | refine FreeT.set ?_ (by omega) | refine FreeT.via (by assumption) ?_ (by omega)))) fun l hl hne => by simp only [Tr.get_set]; simp only [hpl _ l hl,hpl0 l hl,if_false]) (hr2.keep (by first | (simp only [Tr.get_set]; simp only [hpn,hpn0,if_false]; done) | (simp only [St.bump,Tr.get_set]; done) | rfl))
  · simp only [St.bump] at he1
    have hx1 : ExtR p σ σ1 := he1.back (by omega) (fun l hl hne => by simp only [Tr.get_set]; simp only [hpl _ l hl,hpl0 l hl,if_false]) fun _ _ => rfl
    have hf1 := hx1.fresh
    have hn1 : σ.nb + 8 ≤ σ1.nb := by have h2 := he1.nb; simp only at h2; omega
    have g81 : Tr.get σ1.h σ.nb = some [.i .u8 0, .i .i64 0, .i .u32 0, .i .u32 0, .i .u8 0, .sl [] 1, .sl [] 1, .sl [] 1] := by
      rw [he1.h σ.nb (by simp only; omega) (by omega)]
      simp only [reduceIte,reduceCtorEq,Tr.get_set,Nat.left_eq_add,hf.h0]
    have g91 : Tr.get σ1.h (σ.nb + 3) = some [.i .u8 op, .i .i64 0, .i .u32 0, .i .u32 0, .i .u8 0, .sl [] 1, .sl [] 1, .sl [] 1] := by
      rw [he1.h (σ.nb + 3) (by simp only; omega) (by omega)]
      simp only [reduceIte,reduceCtorEq,Tr.get_set,Nat.add_eq_left,hf.hb]
    simp only [↓cw_seq,↓cw_region,↓then_normal,↓draw_false,↓ow_nil,↓ow_cons,↓contO_eq,↓op_move,↓op_assign,↓op_store,↓op_binOp,↓op_fieldAddr,↓op_call,vW_some,pW_some,setD_some,setD_none,on1_some,on2_some,stV,biV_eq,faV_eq,callV_some,arg_val,opd,opds,ofConst,leaf,rd_set,rd_nil,binV,intV,isConst,fieldAddrV,put,flat,AV.cells,undF,infF,Nat.reduceEqDiff,Nat.reduceAdd,Nat.reduceLeDiff,reduceIte,reduceCtorEq,Bool.or_true,List.length_cons,List.length_nil,List.getElem?_cons_zero,List.getElem?_cons_succ,List.append_nil,List.set_cons_zero,List.set_cons_succ,beq_self_eq_true,Nat.zero_add,and_self,St.bump,storeV,Nat.add_assoc,List.size_toArray,g91,hfd]
    refine FnW_call rfl (by kernel_rfl) (by kernel_rfl) (by kernel_rfl) (w_listE _ p bs w e (d + 1) true _ ?_ ?_ ?_ fun σ2 he2 hr2 => ?_)
    · simp only [St.bump]; first | exact Fresh.of (by repeat (first | exact (Fresh.freeH hf1 (by omega)) | refine FreeH.set ?_ (by omega))) (by repeat (first | exact (Fresh.freeT hf1 (by omega)) | refine FreeT.set ?_ (by omega) | refine FreeT.via (by assumption) ?_ (by omega)))
    · simp only [St.bump]; omega
    · exact hr1.keep (by first | (simp only [St.bump,Tr.get_set]; simp only [hpn,if_false]; done) | (simp only [St.bump,Tr.get_set]; done) | rfl)
    simp only [St.bump] at he2
    have hx2 : ExtR p σ σ2 := ⟨by have h1 := hx1.nb; have h2 := he2.nb; simp only at h2; omega, he2.fresh, fun l hl hne => by
        rw [he2.h l (by have h1 := hx1.nb; simp only; omega) hne]; (try simp only [Tr.get_set]); (try simp only [hpl _ l hl,if_false]); exact hx1.h l hl hne, fun q hq => by
        rw [he2.tk q (by have h1 := hx1.nb; simp only; omega)]; exact hx1.tk q hq⟩
    have hf2 := hx2.fresh
    have hn2 : σ.nb + 8 ≤ σ2.nb := by have h2 := he2.nb; simp only at h2; omega
    have g82 : Tr.get σ2.h σ.nb = some [.i .u8 0, .i .i64 0, .i .u32 0, .i .u32 0, .i .u8 0, .sl [] 1, .sl [] 1, .sl [] 1] := by
      rw [he2.h σ.nb (by simp only; omega) (by omega)]
      simp only [reduceIte,reduceCtorEq,Tr.get_set,Nat.left_eq_add,g81]
    have g92 : Tr.get σ2.h (σ.nb + 3) = some [.i .u8 op, .i .i64 0, .i .u32 0, .i .u32 0, .i .u8 0, .sl [] 1, .sl [] 1, .sl [] 1] := by
      rw [he2.h (σ.nb + 3) (by simp only; omega) (by omega)]
      simp only [reduceIte,Tr.get_set,g91]
    simp only [↓cw_skip,↓cw_ret,↓cw_seq,↓cw_cond,↓cw_region,↓then_normal,↓block_normal,↓draw_false,↓ow_nil,↓ow_cons,↓contO_eq,↓op_move,↓op_assign,↓op_load,↓op_store,↓op_binOp,↓op_fieldAddr,↓op_extract,↓ret_ret,↓force_DC,vW_some,pW_some,bW_false,ifW_some,setD_some,setD_none,on1_some,on2_some,ldV_eq,stV,biV_eq,faV_eq,exV,resW,opd,ofConst,leaf,rd_set,rd_nil,binV,intV,isConst,loadV,fieldAddrV,take?,put,flat,AV.cells,undF,aggF,infF,resV,Nat.reduceEqDiff,Nat.reduceAdd,Nat.reduceLeDiff,reduceIte,reduceCtorEq,Bool.or_true,List.length_cons,List.length_nil,List.getElem?_cons_zero,List.getElem?_cons_succ,List.drop_zero,List.take_succ_cons,List.take_zero,List.set_cons_zero,List.set_cons_succ,Int.reduceBEq,Nat.zero_add,and_self,St.bump,storeV,Tr.get_set,Nat.add_assoc,Nat.left_eq_add,List.size_toArray,g82,g92,Tryd.f41]
    exact hbad w e (by simp only [hq]) _ _ rfl rfl (hx2.upd (by omega) (by first | exact Fresh.of (by repeat (first | exact (Fresh.freeH hf2 (by omega)) | refine FreeH.set ?_ (by omega))) (by repeat (first | exact (Fresh.freeT hf2 (by omega)) | refine FreeT.set ?_ (by omega) | refine FreeT.via (by assumption) ?_ (by omega)))) fun l hl hne => by simp only [Tr.get_set]; simp only [hpl _ l hl,hpl0 l hl,if_false]) (hr2.keep (by first | (simp only [Tr.get_set]; simp only [hpn,hpn0,if_false]; done) | (simp only [St.bump,Tr.get_set]; done) | rfl))

end Go.Pv
