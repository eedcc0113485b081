/- The program's reader, whatever the bytes are: fail, byte, whole, signed, nought, kind. (PvZ6) -/
import Derived.Test.YtigcolhieieakaaDoorPvD8
import Derived.Test.YtigcolhieieakaaDoorPvR5
namespace Go.Pv
open Go Go.Proofs Go.RowKit
set_option linter.unusedVariables false
set_option linter.unusedSimpArgs false
set_option maxRecDepth 100000

def RN (σ : St) (p : Nat) (bs : List Nat) (a m : Nat) : Prop := Tr.get σ.h p = some [.sl (nat8 bs) 0, .i .i64 a, .i .i64 m, .ne, .i .i64 0]
/-- A reader with an error. -/
def RE (σ : St) (p : Nat) (bs : List Nat) (w e : Nat) : Prop := ∃ a m : Nat, Tr.get σ.h p = some [.sl (nat8 bs) 0, .i .i64 a, .i .i64 m, errV e, .i .i64 w]

theorem ext_of {σ : St} {p : Nat} {h : Tr (List AV)} {nb : Nat} (hf : Fresh ⟨h, σ.tk, nb⟩) (hn : σ.nb ≤ nb) (hh : ∀ l, l < σ.nb → l ≠ p → Tr.get h l = Tr.get σ.h l) : ExtR p σ ⟨h, σ.tk, nb⟩ := ⟨hn, hf, hh, fun _ _ => rfl⟩

theorem w_failN (σ : St) (p : Nat) (bs : List Nat) (a m w e : Nat) (Q : AV → St → Prop) (hf : Fresh σ) (hp : p < σ.nb) (hr : RN σ p bs a m)
    (hQ : ∀ σ', ExtR p σ σ' → RE σ' p bs w e → Q (.t []) σ') : CallW TS 40 [.p p 0, .i .i64 w, errV e] σ Q := by
  unfold RN at hr
  refine callW_of ft40 rfl (Nat.le_of_ble_eq_true rfl) ?_
  simp only [errV]
  simp only [↓cw_seq,↓cw_cond,↓cw_region,↓then_normal,↓draw_false,↓ow_nil,↓ow_cons,↓contO_eq,↓op_move,↓op_load,↓op_store,↓op_nilCheck,↓op_binOp,↓op_fieldAddr,↓ret_normal,↓force_DC,vW_some,pW_some,bW_true,ifW_some,setD_some,setD_none,on1_some,on2_some,ldV_eq,stV,nilV,biV_eq,faV_eq,resW,opd,ofConst,leaf,rd_set,rd_nil,Fr.ofList,binV,eqV,isConst,loadV,fieldAddrV,take?,put,flat,AV.cells,undF,aggF,infF,ifaceF,resV,Nat.reduceEqDiff,Nat.reduceAdd,Nat.reduceLeDiff,reduceIte,reduceCtorEq,Bool.or_true,Bool.and_true,List.length_cons,List.length_nil,List.getElem?_cons_zero,List.getElem?_cons_succ,List.drop_succ_cons,List.drop_zero,List.take_succ_cons,List.take_zero,List.set_cons_zero,List.set_cons_succ,Nat.zero_add,and_self,St.bump,storeV,Tr.get_set,Nat.add_assoc,List.size_toArray,hr,Tryd.f40]
  refine hQ _ (ext_of ?_ (by omega) fun l hl hne => ?_) ⟨a, m, ?_⟩
  · first | exact Fresh.of (by repeat (first | exact (Fresh.freeH hf (by omega)) | refine FreeH.set ?_ (by omega))) (by repeat (first | exact (Fresh.freeT hf (by omega)) | refine FreeT.set ?_ (by omega) | refine FreeT.via (by assumption) ?_ (by omega)))
  · simp only [Tr.get_set,if_neg hne]
  · simp only [Tr.get_set,if_true,errV]
theorem w_failE (σ : St) (p : Nat) (bs : List Nat) (w e w' e' : Nat) (Q : AV → St → Prop) (hf : Fresh σ) (hp : p < σ.nb) (hr : RE σ p bs w e)
    (hQ : ∀ σ', ExtR p σ σ' → RE σ' p bs w e → Q (.t []) σ') : CallW TS 40 [.p p 0, .i .i64 w', errV e'] σ Q := by
  obtain ⟨a, m, hr⟩ := hr
  simp only [errV] at hr
  refine callW_of ft40 rfl (Nat.le_of_ble_eq_true rfl) ?_
  simp only [errV]
  simp only [↓cw_skip,↓cw_seq,↓cw_cond,↓cw_region,↓then_normal,↓draw_false,↓ow_nil,↓ow_cons,↓contO_eq,↓op_move,↓op_load,↓op_nilCheck,↓op_binOp,↓op_fieldAddr,↓ret_normal,↓force_DC,vW_some,bW_false,ifW_some,setD_some,on1_some,on2_some,ldV_eq,nilV,biV_eq,faV_eq,resW,opd,ofConst,leaf,rd_set,rd_nil,Fr.ofList,binV,eqV,isConst,loadV,fieldAddrV,take?,undF,aggF,infF,ifaceF,resV,Nat.reduceEqDiff,Nat.reduceAdd,Nat.reduceLeDiff,reduceIte,reduceCtorEq,Bool.or_true,List.length_cons,List.length_nil,List.getElem?_cons_zero,List.getElem?_cons_succ,List.drop_succ_cons,List.drop_zero,List.take_succ_cons,List.take_zero,Nat.zero_add,St.bump,List.size_toArray,hr,Tryd.f40]
  refine hQ _ (ext_of ?_ (by omega) fun l hl hne => rfl) ⟨a, m, ?_⟩
  · first | exact Fresh.of (by repeat (first | exact (Fresh.freeH hf (by omega)) | refine FreeH.set ?_ (by omega))) (by repeat (first | exact (Fresh.freeT hf (by omega)) | refine FreeT.set ?_ (by omega) | refine FreeT.via (by assumption) ?_ (by omega)))
  · simp only [hr,errV]

theorem w_byteN (σ : St) (p : Nat) (bs : List Nat) (a m : Nat) (Q : AV → St → Prop) (hf : Fresh σ) (hp : p < σ.nb) (hr : RN σ p bs a m) (ha : a ≤ bs.length) (hb : bs.length < 1000000)
    (hok : ∀ c, bs[a]? = some c → ∀ σ', ExtR p σ σ' → RN σ' p bs (a + 1) m → Q (.t [.i .u8 c, .b true]) σ')
    (hend : bs[a]? = none → ∀ σ', ExtR p σ σ' → RE σ' p bs a 4 → Q (.t [.i .u8 0, .b false]) σ') : CallW TS 37 [.p p 0] σ Q := by
  have hr0 := hr
  unfold RN at hr
  cases hc : bs[a]? with
  | some c =>
    have hlt := get_lt hc
    have hd : decide ((a : Int) ≥ bs.length) = false := decide_eq_false (by omega)
    have h0 : (0 : Int) ≤ a := by omega
    have ha1 : a < 4611686018427387904 := by omega
    refine callW_of ft37 rfl (Nat.le_of_ble_eq_true rfl) ?_
    simp only [↓cw_skip,↓cw_ret,↓cw_seq,↓cw_cond,↓cw_region,↓then_normal,↓draw_false,↓draw_true,↓ow_nil,↓ow_cons,↓ow_consG,↓contO_eq,↓op_move,↓op_assign,↓op_load,↓op_store,↓op_nilCheck,↓op_binOp,↓op_fieldAddr,↓op_indexAddr,↓op_pick,↓op_call,↓ret_ret,↓force_DC,↓force_DQ,↓force_DO,vW_some,pW_some,bW_true,bW_false,ifW_some,setD_some,setD_none,on1_some,on2_some,ldV_eq,stV,nilV,biV_eq,faV_eq,pkV,arg_blt,resW,opd,opds,ofConst,leaf,pureV,rd_set,rd_nil,Fr.ofList,binV,intV,eqV,isConst,bltV,lenV,idxAddrV,loadV,fieldAddrV,take?,put,flat,AV.cells,hasStore,isStore,undF,aggF,infF,ifaceF,resV,Nat.reduceEqDiff,Nat.reduceAdd,Nat.reduceLeDiff,reduceIte,reduceCtorEq,Bool.or_false,Bool.or_true,Bool.and_true,List.any,List.length_cons,List.length_nil,List.getElem?_cons_zero,List.getElem?_cons_succ,List.drop_succ_cons,List.drop_zero,List.take_succ_cons,List.take_zero,List.set_cons_zero,List.set_cons_succ,beq_self_eq_true,Nat.add_zero,Nat.zero_add,and_self,Bool.not_true,St.bump,storeV,Tr.get_set,wantG,Option.bind,Nat.add_assoc,Int.toNat_natCast,List.size_toArray,hr,nat8_len,hd,fw_add1 ha1,fw_sub1 ha1,nat8_get hc,h0,Tryd.f37]
    refine hok c hc _ (ext_of ?_ (by omega) fun l hl hne => ?_) ?_
    · first | exact Fresh.of (by repeat (first | exact (Fresh.freeH hf (by omega)) | refine FreeH.set ?_ (by omega))) (by repeat (first | exact (Fresh.freeT hf (by omega)) | refine FreeT.set ?_ (by omega) | refine FreeT.via (by assumption) ?_ (by omega)))
    · simp only [Tr.get_set,if_neg hne]
    · simp only [RN,Tr.get_set,if_true]
  | none =>
    have hge : bs.length ≤ a := by rw [List.getElem?_eq_none_iff] at hc; exact hc
    have hd : decide ((a : Int) ≥ bs.length) = true := decide_eq_true (by omega)
    refine callW_of ft37 rfl (Nat.le_of_ble_eq_true rfl) ?_
    simp only [↓cw_seq,↓cw_cond,↓cw_region,↓then_normal,↓draw_false,↓draw_true,↓ow_nil,↓ow_cons,↓ow_consG,↓contO_eq,↓op_move,↓op_assign,↓op_load,↓op_nilCheck,↓op_binOp,↓op_makeInterface,↓op_fieldAddr,↓op_pick,↓op_call,↓force_DC,↓force_DQ,↓force_DO,vW_some,pW_some,bW_true,bW_false,ifW_some,setD_some,on1_some,on2_some,ldV_eq,nilV,biV_eq,mkI,faV_eq,pkV,callV_some,arg_blt,arg_val,opd,opds,ofConst,leaf,pureV,rd_set,rd_nil,Fr.ofList,binV,intV,eqV,isConst,bltV,lenV,loadV,fieldAddrV,take?,hasStore,isStore,undF,aggF,infF,ifaceF,Nat.reduceEqDiff,Nat.reduceAdd,Nat.reduceLeDiff,reduceIte,reduceCtorEq,Bool.or_false,Bool.or_true,Bool.and_true,List.any,List.length_cons,List.length_nil,List.getElem?_cons_zero,List.getElem?_cons_succ,List.append_nil,List.drop_succ_cons,List.drop_zero,List.take_succ_cons,List.take_zero,beq_self_eq_true,Nat.add_zero,Nat.zero_add,Bool.not_true,St.bump,wantG,Option.bind,Nat.add_assoc,List.size_toArray,hr,nat8_len,hd]
    refine FnW_call rfl (by kernel_rfl) (by kernel_rfl) (by kernel_rfl) (w_failN _ p bs a m a 4 _ ?_ ?_ ?_ fun σ1 he1 hr1 => ?_)
    · simp only [St.bump]; first | exact Fresh.of (by repeat (first | exact (Fresh.freeH hf (by omega)) | refine FreeH.set ?_ (by omega))) (by repeat (first | exact (Fresh.freeT hf (by omega)) | refine FreeT.set ?_ (by omega) | refine FreeT.via (by assumption) ?_ (by omega)))
    · simp only [St.bump]; omega
    · exact hr
    simp only [↓cw_ret,↓cw_seq,↓cw_region,↓then_normal,↓then_ret,↓draw_false,↓ow_nil,↓ow_cons,↓contO_eq,↓op_assign,↓ret_ret,vW_some,setD_some,resW,opd,ofConst,leaf,rd_set,rd_nil,resV,Nat.reduceEqDiff,Nat.reduceAdd,reduceIte,reduceCtorEq,List.length_cons,List.length_nil,Nat.zero_add,St.bump,Nat.add_assoc,List.size_toArray,Tryd.f37]
    have he2 : ExtR p σ σ1 := ⟨by have := he1.nb; simp only [St.bump] at this; omega, he1.fresh, fun l hl hne => he1.h l (by simp only [St.bump]; omega) hne, fun k hk => he1.tk k (by simp only [St.bump]; omega)⟩
    exact hend hc _ (he2.bump _) hr1
theorem w_byteE (σ : St) (p : Nat) (bs : List Nat) (w e : Nat) (Q : AV → St → Prop) (hf : Fresh σ) (hp : p < σ.nb) (hr : RE σ p bs w e)
    (hQ : ∀ σ', ExtR p σ σ' → RE σ' p bs w e → Q (.t [.i .u8 0, .b false]) σ') : CallW TS 37 [.p p 0] σ Q := by
  have hr0 := hr
  obtain ⟨a, m, hr⟩ := hr
  simp only [errV] at hr
  refine callW_of ft37 rfl (Nat.le_of_ble_eq_true rfl) ?_
  simp only [↓cw_seq,↓cw_cond,↓cw_region,↓then_normal,↓draw_false,↓draw_true,↓ow_nil,↓ow_cons,↓ow_consG,↓contO_eq,↓op_move,↓op_assign,↓op_load,↓op_nilCheck,↓op_binOp,↓op_makeInterface,↓op_fieldAddr,↓op_pick,↓op_call,↓force_DC,↓force_DQ,↓force_DOs,vW_some,bW_true,bW_false,ifW_some,setD_some,on1_some,on2_some,ldV_eq,nilV,biV_eq,mkI,faV_eq,pkV,callV_some,arg_val,opd,opds,ofConst,leaf,rd_set,rd_nil,Fr.ofList,binV,eqV,isConst,loadV,fieldAddrV,take?,hasStore,isStore,undF,aggF,infF,ifaceF,Nat.reduceEqDiff,Nat.reduceAdd,Nat.reduceLeDiff,reduceIte,reduceCtorEq,Bool.or_false,Bool.or_true,List.any,List.length_cons,List.length_nil,List.getElem?_cons_zero,List.getElem?_cons_succ,List.append_nil,List.drop_succ_cons,List.drop_zero,List.take_succ_cons,List.take_zero,Nat.zero_add,Bool.not_true,Bool.not_false,St.bump,wantG,Option.bind,Nat.add_assoc,beqF,List.size_toArray,hr]
  refine FnW_call rfl (by kernel_rfl) (by kernel_rfl) (by kernel_rfl) (w_failE _ p bs w e a 4 _ ?_ ?_ ?_ fun σ1 he1 hr1 => ?_)
  · simp only [St.bump]; first | exact Fresh.of (by repeat (first | exact (Fresh.freeH hf (by omega)) | refine FreeH.set ?_ (by omega))) (by repeat (first | exact (Fresh.freeT hf (by omega)) | refine FreeT.set ?_ (by omega) | refine FreeT.via (by assumption) ?_ (by omega)))
  · simp only [St.bump]; omega
  · exact hr0
  simp only [↓cw_ret,↓cw_seq,↓cw_region,↓then_normal,↓then_ret,↓draw_false,↓ow_nil,↓ow_cons,↓contO_eq,↓op_assign,↓ret_ret,vW_some,setD_some,resW,opd,ofConst,leaf,rd_set,rd_nil,resV,Nat.reduceEqDiff,Nat.reduceAdd,reduceIte,reduceCtorEq,List.length_cons,List.length_nil,Nat.zero_add,St.bump,Nat.add_assoc,List.size_toArray,Tryd.f37]
  have he2 : ExtR p σ σ1 := ⟨by have := he1.nb; simp only [St.bump] at this; omega, he1.fresh, fun l hl hne => he1.h l (by simp only [St.bump]; omega) hne, fun k hk => he1.tk k (by simp only [St.bump]; omega)⟩
  exact hQ _ (he2.bump _) hr1

theorem w_wholeN (σ : St) (p : Nat) (bs : List Nat) (a m : Nat) (Q : AV → St → Prop) (hf : Fresh σ) (hp : p < σ.nb) (hr : RN σ p bs a m) (ha : a ≤ bs.length) (hb : bs.length < 1000000) (hbb : ∀ c ∈ bs, c < 256)
    (hok : ∀ v a1, rdU bs a = .ok v a1 → ∀ σ', ExtR p σ σ' → RN σ' p bs a1 m → Q (.i .u32 v) σ')
    (hbad : ∀ w e, rdU bs a = .bad w e → ∀ σ', ExtR p σ σ' → RE σ' p bs w e → Q (.i .u32 0) σ') : CallW TS 55 [.p p 0] σ Q := by
  have hr0 := hr
  unfold RN at hr
  have h0 : (0 : Int) ≤ a := by omega
  have hle : (a : Int) ≤ bs.length := by omega
  have htk : List.take (bs.length - a) (nat8 (bs.drop a)) = nat8 (bs.drop a) := List.take_of_length_le (by rw [nat8_len, List.length_drop]; omega)
  refine callW_of ft55 rfl (Nat.le_of_ble_eq_true rfl) ?_
  simp only [↓cw_skip,↓cw_seq,↓cw_cond,↓cw_region,↓then_normal,↓draw_false,↓ow_nil,↓ow_cons,↓contO_eq,↓op_move,↓op_assign,↓op_load,↓op_nilCheck,↓op_binOp,↓op_slice,↓op_fieldAddr,↓op_call,↓force_DC,vW_some,bW_false,ifW_some,setD_some,on1_some,on2_some,ldV_eq,nilV,biV_eq,slV,faV_eq,callV_some,arg_val,opd,opds,optOpd,ofConst,leaf,rd_set,rd_nil,Fr.ofList,binV,eqV,isConst,loadV,fieldAddrV,take?,hiB,loB,boundV,sliceV,undF,aggF,infF,ifaceF,Nat.reduceEqDiff,Nat.reduceAdd,Nat.reduceLeDiff,reduceIte,reduceCtorEq,Bool.or_true,Bool.and_true,List.length_cons,List.length_nil,List.getElem?_cons_zero,List.getElem?_cons_succ,List.append_nil,List.drop_succ_cons,List.drop_zero,List.take_succ_cons,List.take_zero,Nat.add_zero,Nat.zero_add,and_self,Bool.not_true,St.bump,Nat.add_assoc,Int.toNat_natCast,List.size_toArray,hr,nat8_len,h0,hle,nat8_drop,head_nat8,htk]
  refine pc74.call (by simp [untok, AV.strip, Go.Pv.goods, Go.Pv.good, goods_nat8]) (w_takeUA (bs.drop a) (fun c hc => hbb c (List.mem_of_mem_drop hc)) (by rw [List.length_drop]; omega)) ?_
  cases ht : tU (bs.drop a) with
  | ok v n =>
    have hl := tU_len ht
    rw [List.length_drop] at hl
    have hfa : fw .i64 ((a : Int) + (n : Int)) = ((a + n : Nat) : Int) := by unfold fw; simp only; rw [if_pos (by omega)]; omega
    have hfv : fw .u32 (v : Int) = (v : Int) := by unfold fw; simp only; rw [if_pos (by omega)]
    simp only [takeUV]
    simp only [↓cw_skip,↓cw_ret,↓cw_seq,↓cw_cond,↓cw_region,↓then_normal,↓draw_false,↓draw_true,↓ow_nil,↓ow_cons,↓contO_eq,↓op_move,↓op_assign,↓op_load,↓op_store,↓op_nilCheck,↓op_binOp,↓op_convert,↓op_fieldAddr,↓op_extract,↓ret_ret,↓force_DC,↓force_DQ,vW_some,pW_some,bW_false,ifW_some,setD_some,setD_none,on1_some,on2_some,ldV_eq,stV,nilV,biV_eq,faV_eq,exV,resW,opd,ofConst,leaf,rd_set,rd_nil,binV,intV,eqV,convV,isConst,loadV,fieldAddrV,take?,put,flat,AV.cells,hasStore,isStore,undF,aggF,infF,ifaceF,resV,Nat.reduceEqDiff,Nat.reduceAdd,Nat.reduceLeDiff,reduceIte,reduceCtorEq,Bool.or_false,Bool.or_true,Bool.and_true,List.any,List.length_cons,List.length_nil,List.getElem?_cons_zero,List.getElem?_cons_succ,List.drop_succ_cons,List.drop_zero,List.take_succ_cons,List.take_zero,List.set_cons_zero,List.set_cons_succ,Nat.zero_add,and_self,Bool.not_true,St.bump,storeV,Nat.add_assoc,List.size_toArray,hr,hfa,hfv,Tryd.f55]
    refine hok v (a + n) (by simp only [rdU,ht]) _ (ext_of ?_ (by omega) fun l hl hne => ?_) ?_
    · first | exact Fresh.of (by repeat (first | exact (Fresh.freeH hf (by omega)) | refine FreeH.set ?_ (by omega))) (by repeat (first | exact (Fresh.freeT hf (by omega)) | refine FreeT.set ?_ (by omega) | refine FreeT.via (by assumption) ?_ (by omega)))
    · simp only [Tr.get_set,if_neg hne]
    · simp only [RN,Tr.get_set,if_true]
  | bad e =>
    simp only [takeUV,errV]
    simp only [↓cw_seq,↓cw_cond,↓cw_region,↓then_normal,↓draw_false,↓draw_true,↓ow_nil,↓ow_cons,↓contO_eq,↓op_move,↓op_assign,↓op_load,↓op_nilCheck,↓op_binOp,↓op_fieldAddr,↓op_extract,↓op_call,↓force_DC,↓force_DQ,vW_some,bW_true,bW_false,ifW_some,setD_some,on1_some,on2_some,ldV_eq,nilV,biV_eq,faV_eq,exV,callV_some,arg_val,opd,opds,ofConst,leaf,rd_set,rd_nil,binV,eqV,isConst,loadV,fieldAddrV,take?,hasStore,isStore,undF,aggF,infF,ifaceF,Nat.reduceEqDiff,Nat.reduceAdd,Nat.reduceLeDiff,reduceIte,reduceCtorEq,Bool.or_false,Bool.or_true,List.any,List.length_cons,List.length_nil,List.getElem?_cons_zero,List.getElem?_cons_succ,List.append_nil,List.drop_succ_cons,List.drop_zero,List.take_succ_cons,List.take_zero,Nat.zero_add,Bool.not_false,St.bump,Nat.add_assoc,List.size_toArray,hr]
    refine FnW_call rfl (by kernel_rfl) (by kernel_rfl) (by kernel_rfl) (w_failN _ p bs a m a e _ ?_ ?_ ?_ fun σ1 he1 hr1 => ?_)
    · simp only [St.bump]; first | exact Fresh.of (by repeat (first | exact (Fresh.freeH hf (by omega)) | refine FreeH.set ?_ (by omega))) (by repeat (first | exact (Fresh.freeT hf (by omega)) | refine FreeT.set ?_ (by omega) | refine FreeT.via (by assumption) ?_ (by omega)))
    · simp only [St.bump]; omega
    · exact hr
    simp only [↓cw_ret,↓cw_seq,↓cw_region,↓then_normal,↓then_ret,↓draw_false,↓ow_nil,↓ow_cons,↓contO_eq,↓op_assign,↓ret_ret,vW_some,setD_some,resW,opd,ofConst,leaf,rd_set,rd_nil,resV,Nat.reduceEqDiff,Nat.reduceAdd,reduceIte,reduceCtorEq,List.length_cons,List.length_nil,Nat.zero_add,St.bump,Nat.add_assoc,List.size_toArray,Tryd.f55]
    have he2 : ExtR p σ σ1 := ⟨by have := he1.nb; simp only [St.bump] at this; omega, he1.fresh, fun l hl hne => he1.h l (by simp only [St.bump]; omega) hne, fun k hk => he1.tk k (by simp only [St.bump]; omega)⟩
    exact hbad a e (by simp only [rdU,ht]) _ (he2.bump _) hr1
theorem w_wholeE (σ : St) (p : Nat) (bs : List Nat) (w e : Nat) (Q : AV → St → Prop) (hf : Fresh σ) (hp : p < σ.nb) (hr : RE σ p bs w e)
    (hQ : ∀ σ', ExtR p σ σ' → RE σ' p bs w e → Q (.i .u32 0) σ') : CallW TS 55 [.p p 0] σ Q := by
  have hr0 := hr
  obtain ⟨a, m, hr⟩ := hr
  simp only [errV] at hr
  refine callW_of ft55 rfl (Nat.le_of_ble_eq_true rfl) ?_
  simp only [↓cw_ret,↓cw_seq,↓cw_cond,↓cw_region,↓then_normal,↓then_ret,↓draw_false,↓ow_nil,↓ow_cons,↓contO_eq,↓op_move,↓op_assign,↓op_load,↓op_nilCheck,↓op_binOp,↓op_fieldAddr,↓ret_ret,↓force_DC,vW_some,bW_true,ifW_some,setD_some,on1_some,on2_some,ldV_eq,nilV,biV_eq,faV_eq,resW,opd,ofConst,leaf,rd_set,rd_nil,Fr.ofList,binV,eqV,isConst,loadV,fieldAddrV,take?,undF,aggF,infF,ifaceF,resV,Nat.reduceEqDiff,Nat.reduceAdd,Nat.reduceLeDiff,reduceIte,reduceCtorEq,Bool.or_true,List.length_cons,List.length_nil,List.getElem?_cons_zero,List.getElem?_cons_succ,List.drop_succ_cons,List.drop_zero,List.take_succ_cons,List.take_zero,Nat.zero_add,Bool.not_false,St.bump,Nat.add_assoc,List.size_toArray,hr,Tryd.f55]
  refine hQ _ (ext_of ?_ (by omega) fun l hl hne => rfl) ⟨a, m, ?_⟩
  · first | exact Fresh.of (by repeat (first | exact (Fresh.freeH hf (by omega)) | refine FreeH.set ?_ (by omega))) (by repeat (first | exact (Fresh.freeT hf (by omega)) | refine FreeT.set ?_ (by omega) | refine FreeT.via (by assumption) ?_ (by omega)))
  · simp only [hr,errV]

theorem w_signedN (σ : St) (p : Nat) (bs : List Nat) (a m w lf : Nat) (hw : w = 32 ∧ lf = 4 ∨ w = 64 ∧ lf = 1) (Q : AV → St → Prop) (hf : Fresh σ) (hp : p < σ.nb) (hr : RN σ p bs a m) (ha : a ≤ bs.length) (hb : bs.length < 1000000) (hbb : ∀ c ∈ bs, c < 256)
    (hok : ∀ v a1, rdS w bs a = .ok v a1 → ∀ σ', ExtR p σ σ' → RN σ' p bs a1 m → Q (.i .i64 v) σ')
    (hbad : ∀ w1 e, rdS w bs a = .bad w1 e → ∀ σ', ExtR p σ σ' → RE σ' p bs w1 e → Q (.i .i64 0) σ') : CallW TS 54 [.p p 0, .i .i64 (w : Int)] σ Q := by
  have hr0 := hr
  unfold RN at hr
  have h0 : (0 : Int) ≤ a := by omega
  have hle : (a : Int) ≤ bs.length := by omega
  have htk : List.take (bs.length - a) (nat8 (bs.drop a)) = nat8 (bs.drop a) := List.take_of_length_le (by rw [nat8_len, List.length_drop]; omega)
  refine callW_of ft54 rfl (Nat.le_of_ble_eq_true rfl) ?_
  simp only [↓cw_skip,↓cw_seq,↓cw_cond,↓cw_region,↓then_normal,↓draw_false,↓ow_nil,↓ow_cons,↓contO_eq,↓op_move,↓op_assign,↓op_load,↓op_nilCheck,↓op_binOp,↓op_slice,↓op_fieldAddr,↓op_call,↓force_DC,vW_some,bW_false,ifW_some,setD_some,on1_some,on2_some,ldV_eq,nilV,biV_eq,slV,faV_eq,callV_some,arg_val,opd,opds,optOpd,ofConst,leaf,rd_set,rd_nil,Fr.ofList,binV,eqV,isConst,loadV,fieldAddrV,take?,hiB,loB,boundV,sliceV,undF,aggF,infF,ifaceF,Nat.reduceEqDiff,Nat.reduceAdd,Nat.reduceLeDiff,reduceIte,reduceCtorEq,Bool.or_true,Bool.and_true,List.length_cons,List.length_nil,List.getElem?_cons_zero,List.getElem?_cons_succ,List.append_nil,List.drop_succ_cons,List.drop_zero,List.take_succ_cons,List.take_zero,Nat.add_zero,Nat.zero_add,and_self,Bool.not_true,St.bump,Nat.add_assoc,Int.toNat_natCast,List.size_toArray,hr,nat8_len,h0,hle,nat8_drop,head_nat8,htk]
  refine pc73.call (by simp [untok, AV.strip, Go.Pv.goods, Go.Pv.good, goods_nat8]) (w_takeSA (bs.drop a) w ((w + 6) / 7) lf (by omega) (fun c hc => hbb c (List.mem_of_mem_drop hc)) (by rw [List.length_drop]; omega)) ?_
  cases ht : tS w (bs.drop a) with
  | ok v n =>
    have hl := tS_len ht
    rw [List.length_drop] at hl
    have hfa : fw .i64 ((a : Int) + (n : Int)) = ((a + n : Nat) : Int) := by unfold fw; simp only; rw [if_pos (by omega)]; omega
    simp only [takeSV]
    simp only [↓cw_skip,↓cw_ret,↓cw_seq,↓cw_cond,↓cw_region,↓then_normal,↓draw_false,↓draw_true,↓ow_nil,↓ow_cons,↓contO_eq,↓op_move,↓op_assign,↓op_load,↓op_store,↓op_nilCheck,↓op_binOp,↓op_fieldAddr,↓op_extract,↓ret_ret,↓force_DC,↓force_DQ,vW_some,pW_some,bW_false,ifW_some,setD_some,setD_none,on1_some,on2_some,ldV_eq,stV,nilV,biV_eq,faV_eq,exV,resW,opd,ofConst,leaf,rd_set,rd_nil,binV,intV,eqV,isConst,loadV,fieldAddrV,take?,put,flat,AV.cells,hasStore,isStore,undF,aggF,infF,ifaceF,resV,Nat.reduceEqDiff,Nat.reduceAdd,Nat.reduceLeDiff,reduceIte,reduceCtorEq,Bool.or_false,Bool.or_true,Bool.and_true,List.any,List.length_cons,List.length_nil,List.getElem?_cons_zero,List.getElem?_cons_succ,List.drop_succ_cons,List.drop_zero,List.take_succ_cons,List.take_zero,List.set_cons_zero,List.set_cons_succ,Nat.zero_add,and_self,Bool.not_true,St.bump,storeV,Nat.add_assoc,List.size_toArray,hr,hfa,Tryd.f54]
    refine hok v (a + n) (by simp only [rdS,ht]) _ (ext_of ?_ (by omega) fun l hl hne => ?_) ?_
    · first | exact Fresh.of (by repeat (first | exact (Fresh.freeH hf (by omega)) | refine FreeH.set ?_ (by omega))) (by repeat (first | exact (Fresh.freeT hf (by omega)) | refine FreeT.set ?_ (by omega) | refine FreeT.via (by assumption) ?_ (by omega)))
    · simp only [Tr.get_set,if_neg hne]
    · simp only [RN,Tr.get_set,if_true]
  | bad e =>
    simp only [takeSV,errV]
    simp only [↓cw_seq,↓cw_cond,↓cw_region,↓then_normal,↓draw_false,↓draw_true,↓ow_nil,↓ow_cons,↓contO_eq,↓op_move,↓op_assign,↓op_load,↓op_nilCheck,↓op_binOp,↓op_fieldAddr,↓op_extract,↓op_call,↓force_DC,↓force_DQ,vW_some,bW_true,bW_false,ifW_some,setD_some,on1_some,on2_some,ldV_eq,nilV,biV_eq,faV_eq,exV,callV_some,arg_val,opd,opds,ofConst,leaf,rd_set,rd_nil,binV,eqV,isConst,loadV,fieldAddrV,take?,hasStore,isStore,undF,aggF,infF,ifaceF,Nat.reduceEqDiff,Nat.reduceAdd,Nat.reduceLeDiff,reduceIte,reduceCtorEq,Bool.or_false,Bool.or_true,List.any,List.length_cons,List.length_nil,List.getElem?_cons_zero,List.getElem?_cons_succ,List.append_nil,List.drop_succ_cons,List.drop_zero,List.take_succ_cons,List.take_zero,Nat.zero_add,Bool.not_false,St.bump,Nat.add_assoc,List.size_toArray,hr]
    refine FnW_call rfl (by kernel_rfl) (by kernel_rfl) (by kernel_rfl) (w_failN _ p bs a m a e _ ?_ ?_ ?_ fun σ1 he1 hr1 => ?_)
    · simp only [St.bump]; first | exact Fresh.of (by repeat (first | exact (Fresh.freeH hf (by omega)) | refine FreeH.set ?_ (by omega))) (by repeat (first | exact (Fresh.freeT hf (by omega)) | refine FreeT.set ?_ (by omega) | refine FreeT.via (by assumption) ?_ (by omega)))
    · simp only [St.bump]; omega
    · exact hr
    simp only [↓cw_ret,↓cw_seq,↓cw_region,↓then_normal,↓then_ret,↓draw_false,↓ow_nil,↓ow_cons,↓contO_eq,↓op_assign,↓ret_ret,vW_some,setD_some,resW,opd,ofConst,leaf,rd_set,rd_nil,resV,Nat.reduceEqDiff,Nat.reduceAdd,reduceIte,reduceCtorEq,List.length_cons,List.length_nil,Nat.zero_add,St.bump,Nat.add_assoc,List.size_toArray,Tryd.f54]
    have he2 : ExtR p σ σ1 := ⟨by have := he1.nb; simp only [St.bump] at this; omega, he1.fresh, fun l hl hne => he1.h l (by simp only [St.bump]; omega) hne, fun k hk => he1.tk k (by simp only [St.bump]; omega)⟩
    exact hbad a e (by simp only [rdS,ht]) _ (he2.bump _) hr1

/-- From a state behind a call back to the one ahead of it. -/
theorem ExtR.back {p nb : Nat} {σ σ1 : St} {h : Tr (List AV)} {tk : Tr Nat} (he : ExtR p ⟨h, tk, nb⟩ σ1) (hn : σ.nb ≤ nb) (hh : ∀ l, l < σ.nb → l ≠ p → Tr.get h l = Tr.get σ.h l) (ht : ∀ k, k < σ.nb + 2 → Tr.get tk k = Tr.get σ.tk k) : ExtR p σ σ1 :=
  ⟨Nat.le_trans hn he.nb, he.fresh, fun l hl hne => by rw [he.h l (Nat.lt_of_lt_of_le hl hn) hne]; exact hh l hl hne, fun k hk => by rw [he.tk k (by simp only; omega)]; exact ht k hk⟩

theorem w_noughtN (σ : St) (p : Nat) (bs : List Nat) (a m : Nat) (Q : AV → St → Prop) (hf : Fresh σ) (hp : p < σ.nb) (hr : RN σ p bs a m) (ha : a ≤ bs.length) (hb : bs.length < 1000000)
    (hok : ∀ a1, rdZ bs a = .ok () a1 → ∀ σ', ExtR p σ σ' → RN σ' p bs a1 m → Q (.t []) σ')
    (hbad : ∀ w e, rdZ bs a = .bad w e → ∀ σ', ExtR p σ σ' → RE σ' p bs w e → Q (.t []) σ') : CallW TS 56 [.p p 0] σ Q := by
  refine callW_of ft56 rfl (Nat.le_of_ble_eq_true rfl) ?_
  simp only [↓cw_seq,↓cw_region,↓ow_cons,↓contO_eq,↓op_move,↓op_call,vW_some,setD_some,callV_some,arg_val,opd,opds,rd_set,rd_nil,Fr.ofList,Nat.reduceAdd,reduceIte,reduceCtorEq,List.length_cons,List.length_nil,List.append_nil,Nat.zero_add,List.size_toArray]
  refine FnW_call rfl (by kernel_rfl) (by kernel_rfl) (by kernel_rfl) (w_byteN _ p bs a m _ ?_ ?_ ?_ ha hb (fun c hc σ1 he1 hr1 => ?_) fun hc σ1 he1 hr1 => ?_)
  · simp only [St.bump]; first | exact Fresh.of (by repeat (first | exact (Fresh.freeH hf (by omega)) | refine FreeH.set ?_ (by omega))) (by repeat (first | exact (Fresh.freeT hf (by omega)) | refine FreeT.set ?_ (by omega) | refine FreeT.via (by assumption) ?_ (by omega)))
  · simp only [St.bump]; omega
  · exact hr
  · simp only [St.bump] at he1
    have he2 : ExtR p σ σ1 := he1.back (by omega) (fun _ _ _ => rfl) fun _ _ => rfl
    have hlt := get_lt hc
    have ha1 : a < 4611686018427387904 := by omega
    have hf1 := he2.fresh
    have hnb1 := he2.nb
    by_cases hz : c = 0
    · have hne : ((c : Int) != 0) = false := by rw [hz]; rfl
      simp only [↓cw_skip,↓cw_seq,↓cw_cond,↓cw_region,↓then_normal,↓draw_false,↓ow_nil,↓ow_cons,↓ow_consG,↓contO_eq,↓op_move,↓op_assign,↓op_binOp,↓op_extract,↓op_pick,↓ret_normal,↓force_DC,↓force_DO,vW_some,bW_true,bW_false,ifW_some,setD_some,on1_some,on2_some,biV_eq,exV,pkV,resW,opd,ofConst,leaf,rd_set,rd_nil,binV,intV,isConst,resV,Nat.reduceEqDiff,Nat.reduceAdd,reduceIte,reduceCtorEq,Bool.or_true,List.length_cons,List.length_nil,List.getElem?_cons_zero,List.getElem?_cons_succ,beq_self_eq_true,Nat.zero_add,St.bump,wantG,Option.bind,Nat.add_assoc,List.size_toArray,hne,Tryd.f56]
      exact hok (a + 1) (by simp only [rdZ,hc,hz,if_true]) _ (he2.bump _) hr1
    · have hne : ((c : Int) != 0) = true := by rw [bne_iff_ne]; omega
      have hr2 := hr1
      unfold RN at hr2
      simp only [↓cw_seq,↓cw_cond,↓cw_region,↓then_normal,↓draw_false,↓ow_nil,↓ow_cons,↓ow_consG,↓contO_eq,↓op_move,↓op_assign,↓op_load,↓op_nilCheck,↓op_binOp,↓op_makeInterface,↓op_fieldAddr,↓op_extract,↓op_pick,↓op_call,↓force_DC,↓force_DO,vW_some,bW_true,ifW_some,setD_some,on1_some,on2_some,ldV_eq,nilV,biV_eq,mkI,faV_eq,exV,pkV,callV_some,arg_val,opd,opds,ofConst,leaf,rd_set,rd_nil,binV,intV,isConst,loadV,fieldAddrV,take?,undF,aggF,infF,Nat.reduceEqDiff,Nat.reduceAdd,Nat.reduceLeDiff,reduceIte,reduceCtorEq,Bool.or_true,List.length_cons,List.length_nil,List.getElem?_cons_zero,List.getElem?_cons_succ,List.append_nil,List.drop_succ_cons,List.drop_zero,List.take_succ_cons,List.take_zero,beq_self_eq_true,Nat.zero_add,St.bump,wantG,Option.bind,Nat.add_assoc,List.size_toArray,hne,hr2,fw_sub1 ha1]
      refine FnW_call rfl (by kernel_rfl) (by kernel_rfl) (by kernel_rfl) (w_failN _ p bs (a + 1) m a 6 _ ?_ ?_ ?_ fun σ3 he3 hr3 => ?_)
      · simp only [St.bump]; first | exact Fresh.of (by repeat (first | exact (Fresh.freeH hf1 (by omega)) | refine FreeH.set ?_ (by omega))) (by repeat (first | exact (Fresh.freeT hf1 (by omega)) | refine FreeT.set ?_ (by omega) | refine FreeT.via (by assumption) ?_ (by omega)))
      · simp only [St.bump]; omega
      · exact hr1
      simp only [↓draw_false,↓ow_nil,↓contO_eq,↓ret_normal,setD_some,resW,resV,St.bump,Tryd.f56]
      simp only [St.bump] at he3
      exact hbad a 6 (by simp only [rdZ,hc,hz,if_false]) _ ((he2.trans (he3.back (by omega) (fun _ _ _ => rfl) fun _ _ => rfl)).bump _) hr3
  · simp only [St.bump] at he1
    have he2 : ExtR p σ σ1 := he1.back (by omega) (fun _ _ _ => rfl) fun _ _ => rfl
    simp only [↓cw_skip,↓cw_seq,↓cw_cond,↓cw_region,↓then_normal,↓draw_false,↓ow_nil,↓ow_cons,↓ow_consG,↓contO_eq,↓op_move,↓op_assign,↓op_extract,↓op_pick,↓ret_normal,↓force_DC,↓force_DOs,vW_some,bW_false,ifW_some,setD_some,on1_some,exV,pkV,resW,opd,ofConst,leaf,rd_set,rd_nil,resV,Nat.reduceEqDiff,Nat.reduceAdd,reduceIte,reduceCtorEq,List.length_cons,List.length_nil,List.getElem?_cons_zero,List.getElem?_cons_succ,Nat.zero_add,St.bump,wantG,Option.bind,Nat.add_assoc,beqT,List.size_toArray,Tryd.f56]
    exact hbad a 4 (by simp only [rdZ,hc]) _ (he2.bump _) hr1
theorem w_noughtE (σ : St) (p : Nat) (bs : List Nat) (w e : Nat) (Q : AV → St → Prop) (hf : Fresh σ) (hp : p < σ.nb) (hr : RE σ p bs w e)
    (hQ : ∀ σ', ExtR p σ σ' → RE σ' p bs w e → Q (.t []) σ') : CallW TS 56 [.p p 0] σ Q := by
  refine callW_of ft56 rfl (Nat.le_of_ble_eq_true rfl) ?_
  simp only [↓cw_seq,↓cw_region,↓ow_cons,↓contO_eq,↓op_move,↓op_call,vW_some,setD_some,callV_some,arg_val,opd,opds,rd_set,rd_nil,Fr.ofList,Nat.reduceAdd,reduceIte,reduceCtorEq,List.length_cons,List.length_nil,List.append_nil,Nat.zero_add,List.size_toArray]
  refine FnW_call rfl (by kernel_rfl) (by kernel_rfl) (by kernel_rfl) (w_byteE _ p bs w e _ ?_ ?_ ?_ fun σ1 he1 hr1 => ?_)
  · simp only [St.bump]; first | exact Fresh.of (by repeat (first | exact (Fresh.freeH hf (by omega)) | refine FreeH.set ?_ (by omega))) (by repeat (first | exact (Fresh.freeT hf (by omega)) | refine FreeT.set ?_ (by omega) | refine FreeT.via (by assumption) ?_ (by omega)))
  · simp only [St.bump]; omega
  · exact hr
  · simp only [St.bump] at he1
    have he2 : ExtR p σ σ1 := he1.back (by omega) (fun _ _ _ => rfl) fun _ _ => rfl
    simp only [↓cw_skip,↓cw_seq,↓cw_cond,↓cw_region,↓then_normal,↓draw_false,↓ow_nil,↓ow_cons,↓ow_consG,↓contO_eq,↓op_move,↓op_assign,↓op_extract,↓op_pick,↓ret_normal,↓force_DC,↓force_DOs,vW_some,bW_false,ifW_some,setD_some,on1_some,exV,pkV,resW,opd,ofConst,leaf,rd_set,rd_nil,resV,Nat.reduceEqDiff,Nat.reduceAdd,reduceIte,reduceCtorEq,List.length_cons,List.length_nil,List.getElem?_cons_zero,List.getElem?_cons_succ,Nat.zero_add,St.bump,wantG,Option.bind,Nat.add_assoc,beqT,List.size_toArray,Tryd.f56]
    exact hQ _ (he2.bump _) hr1

theorem w_kindN (σ : St) (p : Nat) (bs : List Nat) (a m : Nat) (Q : AV → St → Prop) (hf : Fresh σ) (hp : p < σ.nb) (hr : RN σ p bs a m) (ha : a ≤ bs.length) (hb : bs.length < 1000000)
    (hok : ∀ k a1, rdK bs a = .ok k a1 → ∀ σ', ExtR p σ σ' → RN σ' p bs a1 m → Q (.i .u8 k) σ')
    (hbad : ∀ w e, rdK bs a = .bad w e → ∀ σ', ExtR p σ σ' → RE σ' p bs w e → Q (.i .u8 0) σ') : CallW TS 58 [.p p 0] σ Q := by
  refine callW_of ft58 rfl (Nat.le_of_ble_eq_true rfl) ?_
  simp only [↓cw_seq,↓cw_region,↓then_normal,↓draw_false,↓ow_nil,↓ow_cons,↓contO_eq,↓op_move,↓op_assign,↓op_call,vW_some,setD_some,callV_some,arg_val,opd,opds,ofConst,leaf,rd_set,rd_nil,Fr.ofList,Nat.reduceEqDiff,Nat.reduceAdd,reduceIte,reduceCtorEq,List.length_cons,List.length_nil,List.append_nil,Nat.zero_add,St.bump,List.size_toArray]
  refine FnW_call rfl (by kernel_rfl) (by kernel_rfl) (by kernel_rfl) (w_byteN _ p bs a m _ ?_ ?_ ?_ ha hb (fun c hc σ1 he1 hr1 => ?_) fun hc σ1 he1 hr1 => ?_)
  · simp only [St.bump]; first | exact Fresh.of (by repeat (first | exact (Fresh.freeH hf (by omega)) | refine FreeH.set ?_ (by omega))) (by repeat (first | exact (Fresh.freeT hf (by omega)) | refine FreeT.set ?_ (by omega) | refine FreeT.via (by assumption) ?_ (by omega)))
  · simp only [St.bump]; omega
  · exact hr
  · simp only [St.bump] at he1
    have he2 : ExtR p σ σ1 := he1.back (by omega) (fun _ _ _ => rfl) fun _ _ => rfl
    have hlt := get_lt hc
    have ha1 : a < 4611686018427387904 := by omega
    have hf1 := he2.fresh
    have hnb1 := he2.nb
    have hr2 := hr1
    unfold RN at hr2
    by_cases h1 : c = 64
    · subst h1
      simp only [↓cw_skip,↓cw_ret,↓cw_seq,↓cw_block,↓cw_cond,↓cw_region,↓then_normal,↓block_normal,↓draw_false,↓ow_nil,↓ow_cons,↓ow_consG,↓contO_eq,↓op_move,↓op_assign,↓op_binOp,↓op_unOp,↓op_extract,↓op_pick,↓ret_ret,↓force_DC,↓force_DO,vW_some,bW_true,ifW_some,setD_some,on1_some,on2_some,biV_eq,exV,pkV,resW,opd,ofConst,leaf,rd_set,rd_nil,binV,intV,unV,isConst,resV,Nat.reduceEqDiff,Nat.reduceAdd,reduceIte,reduceCtorEq,Bool.or_true,List.length_cons,List.length_nil,List.getElem?_cons_zero,List.getElem?_cons_succ,beq_self_eq_true,Nat.zero_add,Bool.not_true,St.bump,wantG,Option.bind,Nat.add_assoc,List.size_toArray,Int.cast_ofNat_Int,Tryd.f58]
      exact hok 0 (a + 1) (by simp only [rdK,hc,if_true]) _ (he2.bump _) hr1
    by_cases h2 : c = 127
    · subst h2
      simp only [↓cw_ret,↓cw_seq,↓cw_block,↓cw_cond,↓cw_region,↓then_normal,↓then_ret,↓block_ret,↓draw_false,↓ow_nil,↓ow_cons,↓ow_consG,↓contO_eq,↓op_move,↓op_assign,↓op_binOp,↓op_unOp,↓op_extract,↓op_pick,↓ret_ret,↓force_DC,↓force_DO,↓force_DOs,vW_some,bW_true,bW_false,ifW_some,setD_some,on1_some,on2_some,biV_eq,exV,pkV,resW,opd,ofConst,leaf,rd_set,rd_nil,binV,intV,unV,isConst,resV,Nat.reduceEqDiff,Nat.reduceAdd,reduceIte,reduceCtorEq,Bool.or_true,List.length_cons,List.length_nil,List.getElem?_cons_zero,List.getElem?_cons_succ,Int.reduceBEq,beq_self_eq_true,Nat.zero_add,Bool.not_true,St.bump,wantG,Option.bind,Nat.add_assoc,beqF,List.size_toArray,Int.cast_ofNat_Int,Tryd.f58]
      exact hok 127 (a + 1) (by simp only [rdK,hc]; rfl) _ (he2.bump _) hr1
    by_cases h3 : c = 126
    · subst h3
      simp only [↓cw_ret,↓cw_seq,↓cw_block,↓cw_cond,↓cw_region,↓then_normal,↓then_ret,↓block_ret,↓draw_false,↓ow_nil,↓ow_cons,↓ow_consG,↓contO_eq,↓op_move,↓op_assign,↓op_binOp,↓op_unOp,↓op_extract,↓op_pick,↓ret_ret,↓force_DC,↓force_DO,vW_some,bW_true,bW_false,ifW_some,setD_some,on1_some,on2_some,biV_eq,exV,pkV,resW,opd,ofConst,leaf,rd_set,rd_nil,binV,intV,unV,isConst,resV,Nat.reduceEqDiff,Nat.reduceAdd,reduceIte,reduceCtorEq,Bool.or_true,List.length_cons,List.length_nil,List.getElem?_cons_zero,List.getElem?_cons_succ,Int.reduceBEq,beq_self_eq_true,Nat.zero_add,Bool.not_true,St.bump,wantG,Option.bind,Nat.add_assoc,List.size_toArray,Int.cast_ofNat_Int,Tryd.f58]
      exact hok 126 (a + 1) (by simp only [rdK,hc]; rfl) _ (he2.bump _) hr1
    have e1 : ((c : Int) == 127) = false := by rw [beq_eq_false_iff_ne]; omega
    have e2 : ((c : Int) == 126) = false := by rw [beq_eq_false_iff_ne]; omega
    have e3 : ((c : Int) == 64) = false := by rw [beq_eq_false_iff_ne]; omega
    by_cases h4 : c = 125 ∨ c = 124
    · have hq : rdK bs a = .bad a 8 := by simp only [rdK,hc]; rw [if_neg h1, if_neg (by omega), if_pos h4]
      rcases h4 with rfl | rfl
      · simp only [↓cw_seq,↓cw_block,↓cw_cond,↓cw_region,↓then_normal,↓draw_false,↓ow_nil,↓ow_cons,↓ow_consG,↓contO_eq,↓op_move,↓op_assign,↓op_load,↓op_nilCheck,↓op_binOp,↓op_unOp,↓op_makeInterface,↓op_fieldAddr,↓op_extract,↓op_pick,↓op_call,↓force_DC,↓force_DO,↓force_DOs,vW_some,bW_true,bW_false,ifW_some,setD_some,on1_some,on2_some,ldV_eq,nilV,biV_eq,mkI,faV_eq,exV,pkV,callV_some,arg_val,opd,opds,ofConst,leaf,rd_set,rd_nil,binV,intV,unV,isConst,loadV,fieldAddrV,take?,undF,aggF,infF,Nat.reduceEqDiff,Nat.reduceAdd,Nat.reduceLeDiff,reduceIte,reduceCtorEq,Bool.or_true,List.length_cons,List.length_nil,List.getElem?_cons_zero,List.getElem?_cons_succ,List.append_nil,List.drop_succ_cons,List.drop_zero,List.take_succ_cons,List.take_zero,Int.reduceBEq,beq_self_eq_true,Nat.zero_add,Bool.not_true,St.bump,wantG,Option.bind,Nat.add_assoc,beqF,List.size_toArray,Int.cast_ofNat_Int,hr2,fw_sub1 ha1]
        refine FnW_call rfl (by kernel_rfl) (by kernel_rfl) (by kernel_rfl) (w_failN _ p bs (a + 1) m a 8 _ ?_ ?_ ?_ fun σ3 he3 hr3 => ?_)
        · simp only [St.bump]; first | exact Fresh.of (by repeat (first | exact (Fresh.freeH hf1 (by omega)) | refine FreeH.set ?_ (by omega))) (by repeat (first | exact (Fresh.freeT hf1 (by omega)) | refine FreeT.set ?_ (by omega) | refine FreeT.via (by assumption) ?_ (by omega)))
        · simp only [St.bump]; omega
        · exact hr1
        simp only [↓cw_ret,↓cw_seq,↓cw_region,↓then_normal,↓block_normal,↓draw_false,↓ow_nil,↓ow_cons,↓contO_eq,↓op_assign,↓ret_ret,vW_some,setD_some,resW,opd,ofConst,leaf,rd_set,rd_nil,resV,Nat.reduceEqDiff,Nat.reduceAdd,reduceIte,reduceCtorEq,List.length_cons,List.length_nil,Nat.zero_add,St.bump,Nat.add_assoc,List.size_toArray,Tryd.f58]
        simp only [St.bump] at he3
        exact hbad a 8 hq _ ((he2.trans (he3.back (by omega) (fun _ _ _ => rfl) fun _ _ => rfl)).bump _) hr3
      · simp only [↓cw_seq,↓cw_block,↓cw_cond,↓cw_region,↓then_normal,↓draw_false,↓ow_nil,↓ow_cons,↓ow_consG,↓contO_eq,↓op_move,↓op_assign,↓op_load,↓op_nilCheck,↓op_binOp,↓op_unOp,↓op_makeInterface,↓op_fieldAddr,↓op_extract,↓op_pick,↓op_call,↓force_DC,↓force_DO,vW_some,bW_true,bW_false,ifW_some,setD_some,on1_some,on2_some,ldV_eq,nilV,biV_eq,mkI,faV_eq,exV,pkV,callV_some,arg_val,opd,opds,ofConst,leaf,rd_set,rd_nil,binV,intV,unV,isConst,loadV,fieldAddrV,take?,undF,aggF,infF,Nat.reduceEqDiff,Nat.reduceAdd,Nat.reduceLeDiff,reduceIte,reduceCtorEq,Bool.or_true,List.length_cons,List.length_nil,List.getElem?_cons_zero,List.getElem?_cons_succ,List.append_nil,List.drop_succ_cons,List.drop_zero,List.take_succ_cons,List.take_zero,Int.reduceBEq,beq_self_eq_true,Nat.zero_add,Bool.not_true,St.bump,wantG,Option.bind,Nat.add_assoc,List.size_toArray,Int.cast_ofNat_Int,hr2,fw_sub1 ha1]
        refine FnW_call rfl (by kernel_rfl) (by kernel_rfl) (by kernel_rfl) (w_failN _ p bs (a + 1) m a 8 _ ?_ ?_ ?_ fun σ3 he3 hr3 => ?_)
        · simp only [St.bump]; first | exact Fresh.of (by repeat (first | exact (Fresh.freeH hf1 (by omega)) | refine FreeH.set ?_ (by omega))) (by repeat (first | exact (Fresh.freeT hf1 (by omega)) | refine FreeT.set ?_ (by omega) | refine FreeT.via (by assumption) ?_ (by omega)))
        · simp only [St.bump]; omega
        · exact hr1
        simp only [↓cw_ret,↓cw_seq,↓cw_region,↓then_normal,↓block_normal,↓draw_false,↓ow_nil,↓ow_cons,↓contO_eq,↓op_assign,↓ret_ret,vW_some,setD_some,resW,opd,ofConst,leaf,rd_set,rd_nil,resV,Nat.reduceEqDiff,Nat.reduceAdd,reduceIte,reduceCtorEq,List.length_cons,List.length_nil,Nat.zero_add,St.bump,Nat.add_assoc,List.size_toArray,Tryd.f58]
        simp only [St.bump] at he3
        exact hbad a 8 hq _ ((he2.trans (he3.back (by omega) (fun _ _ _ => rfl) fun _ _ => rfl)).bump _) hr3
    · have e4 : ((c : Int) == 125) = false := by rw [beq_eq_false_iff_ne]; omega
      have e5 : ((c : Int) == 124) = false := by rw [beq_eq_false_iff_ne]; omega
      simp only [↓cw_seq,↓cw_block,↓cw_cond,↓cw_region,↓then_normal,↓draw_false,↓ow_nil,↓ow_cons,↓ow_consG,↓contO_eq,↓op_move,↓op_assign,↓op_load,↓op_nilCheck,↓op_binOp,↓op_unOp,↓op_makeInterface,↓op_fieldAddr,↓op_extract,↓op_pick,↓op_call,↓force_DC,↓force_DO,vW_some,bW_true,bW_false,ifW_some,setD_some,on1_some,on2_some,ldV_eq,nilV,biV_eq,mkI,faV_eq,exV,pkV,callV_some,arg_val,opd,opds,ofConst,leaf,rd_set,rd_nil,binV,intV,unV,isConst,loadV,fieldAddrV,take?,undF,aggF,infF,Nat.reduceEqDiff,Nat.reduceAdd,Nat.reduceLeDiff,reduceIte,reduceCtorEq,Bool.or_true,List.length_cons,List.length_nil,List.getElem?_cons_zero,List.getElem?_cons_succ,List.append_nil,List.drop_succ_cons,List.drop_zero,List.take_succ_cons,List.take_zero,beq_self_eq_true,Nat.zero_add,Bool.not_true,St.bump,wantG,Option.bind,Nat.add_assoc,List.size_toArray,e1,e2,e3,e4,e5,hr2,fw_sub1 ha1]
      refine FnW_call rfl (by kernel_rfl) (by kernel_rfl) (by kernel_rfl) (w_failN _ p bs (a + 1) m a 6 _ ?_ ?_ ?_ fun σ3 he3 hr3 => ?_)
      · simp only [St.bump]; first | exact Fresh.of (by repeat (first | exact (Fresh.freeH hf1 (by omega)) | refine FreeH.set ?_ (by omega))) (by repeat (first | exact (Fresh.freeT hf1 (by omega)) | refine FreeT.set ?_ (by omega) | refine FreeT.via (by assumption) ?_ (by omega)))
      · simp only [St.bump]; omega
      · exact hr1
      simp only [↓cw_ret,↓cw_seq,↓cw_region,↓then_normal,↓block_normal,↓draw_false,↓ow_nil,↓ow_cons,↓contO_eq,↓op_assign,↓ret_ret,vW_some,setD_some,resW,opd,ofConst,leaf,rd_set,rd_nil,resV,Nat.reduceEqDiff,Nat.reduceAdd,reduceIte,reduceCtorEq,List.length_cons,List.length_nil,Nat.zero_add,St.bump,Nat.add_assoc,List.size_toArray,Tryd.f58]
      simp only [St.bump] at he3
      exact hbad a 6 (by simp only [rdK,hc]; rw [if_neg h1, if_neg (by omega), if_neg h4]) _ ((he2.trans (he3.back (by omega) (fun _ _ _ => rfl) fun _ _ => rfl)).bump _) hr3
  · simp only [St.bump] at he1
    have he2 : ExtR p σ σ1 := he1.back (by omega) (fun _ _ _ => rfl) fun _ _ => rfl
    simp only [↓cw_skip,↓cw_ret,↓cw_seq,↓cw_block,↓cw_cond,↓cw_region,↓then_normal,↓block_normal,↓draw_false,↓ow_nil,↓ow_cons,↓ow_consG,↓contO_eq,↓op_move,↓op_assign,↓op_unOp,↓op_extract,↓op_pick,↓ret_ret,↓force_DC,↓force_DOs,vW_some,bW_true,bW_false,ifW_some,setD_some,on1_some,exV,pkV,resW,opd,ofConst,leaf,rd_set,rd_nil,unV,resV,Nat.reduceEqDiff,Nat.reduceAdd,reduceIte,reduceCtorEq,List.length_cons,List.length_nil,List.getElem?_cons_zero,List.getElem?_cons_succ,Nat.zero_add,Bool.not_true,Bool.not_false,St.bump,wantG,Option.bind,Nat.add_assoc,beqF,List.size_toArray,Tryd.f58]
    exact hbad a 4 (by simp only [rdK,hc]) _ (he2.bump _) hr1
end Go.Pv
