/- The program's reader: labels. (PvZ6) -/
import Derived.Test.YtigcolhieieakaaDoorPvD10
namespace Go.Pv
open Go Go.Proofs Go.RowKit
set_option linter.unusedVariables false
set_option linter.unusedSimpArgs false
set_option maxRecDepth 100000

theorem ExtR.upd {p : Nat} {σ σ1 : St} {h : Tr (List AV)} {nb : Nat} (he : ExtR p σ σ1) (hn : σ1.nb ≤ nb) (hf : Fresh ⟨h, σ1.tk, nb⟩) (hh : ∀ l, l < σ.nb → l ≠ p → Tr.get h l = Tr.get σ1.h l) : ExtR p σ ⟨h, σ1.tk, nb⟩ :=
  ⟨Nat.le_trans he.nb hn, hf, fun l hl hne => by show Tr.get h l = _; rw [hh l hl hne, he.h l hl hne], he.tk⟩
theorem ExtR.refl {p : Nat} {σ : St} (hf : Fresh σ) : ExtR p σ σ := ⟨Nat.le_refl _, hf, fun _ _ _ => rfl, fun _ _ => rfl⟩

theorem cap_le (n : Nat) (h : n ≤ 1000) : (2 * (n + 1) + 192) * 4 ≤ 140737488355328 := by omega
theorem big_le {n : Nat} (h : n ≤ 256) : n ≤ 4294967295 := by omega
noncomputable def K57n : Code :=  cl (cr (cl (cr (cr (cr (cr (cr (fb Tryd.f57))))))))
theorem exit57E (p : Nat) (bs : List Nat) (w e n i : Nat) (acc : List Int) (κ : Nat) (fr : Fr) (σ0 σ : St) (Q : Ex → Fr → St → Prop) (he : ExtR p σ0 σ) (hp : p < σ0.nb) (hr : RE σ p bs w e) (hn : n ≤ 4294967295) (hi : i ≤ 1000)
    (r0 : fr.rd 0 = .p p 0) (r4 : fr.rd 4 = .i .u32 n) (r5 : fr.rd 5 = .sl (u32s acc) κ) (r6 : fr.rd 6 = .i .u32 i)
    (hQ : ∀ fr σ, ExtR p σ0 σ → RE σ p bs w e → fr.rd 5 = .sl (u32s acc) κ → Q (.exit 0) fr σ) : CodeW TS K57n fr σ Q := by
  obtain ⟨a, m, hr⟩ := hr
  simp only [errV] at hr
  simp only [K57n,fb,Tryd.f57,cl,cr,Option.getD]
  rw [cw_loop]
  cases hle : decide ((i : Int) ≤ n) with
  | true =>
    simp only [↓cw_exit,↓cw_seq,↓cw_cond,↓cw_region,↓then_normal,↓then_exit,↓draw_false,↓ow_nil,↓ow_cons,↓ow_consG,↓contO_eq,↓op_move,↓op_load,↓op_nilCheck,↓op_binOp,↓op_fieldAddr,↓op_pick,↓force_DC,↓force_DO,vW_some,bW_true,bW_false,ifW_some,setD_some,on1_some,on2_some,ldV_eq,nilV,biV_eq,faV_eq,pkV,opd,ofConst,leaf,rd_set,binV,intV,eqV,isConst,loadV,fieldAddrV,take?,undF,aggF,infF,ifaceF,Nat.reduceEqDiff,Nat.reduceAdd,Nat.reduceLeDiff,reduceIte,reduceCtorEq,Bool.or_false,Bool.or_true,List.length_cons,List.length_nil,List.getElem?_cons_zero,List.getElem?_cons_succ,List.drop_succ_cons,List.drop_zero,List.take_succ_cons,List.take_zero,beq_self_eq_true,Nat.zero_add,St.bump,wantG,Option.bind,List.size_toArray,r0,r4,r6,hle,hr]
    exact hQ _ _ (he.bump 10) ⟨a, m, hr⟩ (by simp only [rd_set,Nat.reduceEqDiff,reduceIte,r5])
  | false =>
    simp only [↓cw_exit,↓cw_seq,↓cw_cond,↓cw_region,↓then_normal,↓then_exit,↓draw_false,↓ow_nil,↓ow_cons,↓ow_consG,↓contO_eq,↓op_move,↓op_binOp,↓op_pick,↓force_DC,↓force_DOs,vW_some,bW_false,ifW_some,setD_some,on2_some,biV_eq,pkV,opd,ofConst,leaf,rd_set,binV,intV,isConst,Nat.reduceEqDiff,Nat.reduceAdd,reduceIte,Bool.or_false,List.length_cons,List.length_nil,List.getElem?_cons_zero,List.getElem?_cons_succ,Nat.zero_add,St.bump,wantG,Option.bind,beqT,List.size_toArray,r4,r6,hle]
    exact hQ _ _ (he.bump 10) ⟨a, m, hr⟩ (by simp only [rd_set,Nat.reduceEqDiff,reduceIte,r5])

theorem loop57n (p : Nat) (bs : List Nat) (hb : bs.length < 1000000) (hbb : ∀ c ∈ bs, c < 256) (m n : Nat) (hn : n ≤ 256) (σ0 : St) (hp : p < σ0.nb) (Q : Ex → Fr → St → Prop) :
    ∀ k i (acc : List Int) a κ fr σ, i + k = n + 1 → acc.length = i → a ≤ bs.length → ExtR p σ0 σ → RN σ p bs a m → TokG σ (u32s acc) κ 1 → κ < σ.nb + 2 → (κ = 1 ∨ σ0.nb + 2 ≤ κ) → fr.rd 0 = .p p 0 → fr.rd 4 = .i .u32 n → fr.rd 5 = .sl (u32s acc) κ → fr.rd 6 = .i .u32 i →
      (∀ l a1, rdN bs k a = .ok l a1 → ∀ κ fr σ, ExtR p σ0 σ → RN σ p bs a1 m → fr.rd 5 = .sl (u32s (acc ++ l)) κ → Q (.exit 0) fr σ) →
      (∀ w e, rdN bs k a = .bad w e → ∀ es κ fr σ, ExtR p σ0 σ → RE σ p bs w e → fr.rd 5 = .sl (u32s es) κ → Q (.exit 0) fr σ) → CodeW TS K57n fr σ Q := by
  intro k
  induction k with
  | zero =>
    intro i acc a κ fr σ hk hacc ha he hr ht hκ hκ2 r0 r4 r5 r6 hok hbad
    have hle : decide ((i : Int) ≤ n) = false := decide_eq_false (by omega)
    have hr2 := hr
    unfold RN at hr2
    simp only [K57n,fb,Tryd.f57,cl,cr,Option.getD]
    rw [cw_loop]
    simp only [↓cw_exit,↓cw_seq,↓cw_cond,↓cw_region,↓then_normal,↓then_exit,↓draw_false,↓ow_nil,↓ow_cons,↓ow_consG,↓contO_eq,↓op_move,↓op_binOp,↓op_pick,↓force_DC,↓force_DOs,vW_some,bW_false,ifW_some,setD_some,on2_some,biV_eq,pkV,opd,ofConst,leaf,rd_set,binV,intV,isConst,Nat.reduceEqDiff,Nat.reduceAdd,reduceIte,Bool.or_false,List.length_cons,List.length_nil,List.getElem?_cons_zero,List.getElem?_cons_succ,Nat.zero_add,St.bump,wantG,Option.bind,beqT,List.size_toArray,r4,r6,hle]
    exact hok [] a rfl κ _ _ (he.bump 10) hr (by simp only [rd_set,Nat.reduceEqDiff,reduceIte,List.append_nil,r5])
  | succ k ih =>
    intro i acc a κ fr σ hk hacc ha he hr ht hκ hκ2 r0 r4 r5 r6 hok hbad
    have hf := he.fresh
    have hnb := he.nb
    have hacc1 : acc.length ≤ 1000 := by omega
    have hi1 : i + 1 ≤ 1000 := by omega
    have hle : decide ((i : Int) ≤ n) = true := decide_eq_true (by omega)
    have hfi : fw .u32 ((i : Int) + 1) = ((i + 1 : Nat) : Int) := by unfold fw; simp only; rw [if_pos (by omega)]; rfl
    have hr2 := hr
    unfold RN at hr2
    simp only [rdN] at hok hbad
    simp only [K57n,fb,Tryd.f57,cl,cr,Option.getD]
    rw [cw_loop]
    simp only [↓cw_skip,↓cw_seq,↓cw_block,↓cw_cond,↓cw_region,↓then_normal,↓draw_false,↓ow_nil,↓ow_cons,↓ow_consG,↓contO_eq,↓op_move,↓op_load,↓op_nilCheck,↓op_binOp,↓op_fieldAddr,↓op_pick,↓op_call,↓force_DC,↓force_DO,vW_some,bW_true,ifW_some,setD_some,on1_some,on2_some,ldV_eq,nilV,biV_eq,faV_eq,pkV,callV_some,arg_val,opd,opds,ofConst,leaf,rd_set,binV,intV,eqV,isConst,loadV,fieldAddrV,take?,undF,aggF,infF,ifaceF,Nat.reduceEqDiff,Nat.reduceAdd,Nat.reduceLeDiff,reduceIte,reduceCtorEq,Bool.or_false,Bool.or_true,Bool.and_true,List.length_cons,List.length_nil,List.getElem?_cons_zero,List.getElem?_cons_succ,List.append_nil,List.drop_succ_cons,List.drop_zero,List.take_succ_cons,List.take_zero,beq_self_eq_true,Nat.zero_add,St.bump,wantG,Option.bind,List.size_toArray,r0,r4,r5,r6,hle,hr2]
    refine FnW_call rfl (by kernel_rfl) (by kernel_rfl) (by kernel_rfl) (w_wholeN _ p bs a m _ ?_ ?_ ?_ ha hb hbb (fun v a1 hu σ1 he1 hr1 => ?_) fun w e hu σ1 he1 hr1 => ?_)
    · simp only [St.bump]; first | exact Fresh.of (by repeat (first | exact (Fresh.freeH hf (by omega)) | refine FreeH.set ?_ (by omega))) (by repeat (first | exact (Fresh.freeT hf (by omega)) | refine FreeT.set ?_ (by omega) | refine FreeT.via (by assumption) ?_ (by omega)))
    · simp only [St.bump]; omega
    · exact hr
    · simp only [St.bump] at he1
      have he1' : ExtR p σ σ1 := he1.back (by omega) (fun _ _ _ => rfl) fun _ _ => rfl
      have hf1 := he1.fresh
      have hnb1 : σ.nb + 16 ≤ σ1.nb := by have := he1.nb; simp only at this; omega
      have htk1 : Tr.get σ1.tk κ = Tr.get σ.tk κ := he1'.tk κ hκ
      have hl := rdU_len hu
      simp only [hu] at hok hbad
      simp only [↓ow_cons,↓contO_eq,↓op_buildSlice,↓op_call,pW_some,setD_some,bldS,arg_blt,opd,opds,rd_set,bltV,fillV,parts,put,flat,AV.cells,AV.strip,undF,aggF,infF,Nat.reduceEqDiff,Nat.reduceAdd,Nat.reduceMul,Nat.reduceLeDiff,ne_eq,not_false_eq_true,reduceIte,reduceCtorEq,List.length_cons,List.length_nil,List.append_nil,List.take_succ_cons,List.take_zero,List.set_cons_zero,List.map_cons,List.map_nil,Nat.zero_add,and_self,newTok,Nat.add_assoc,or_true,List.headD_cons,tokFree,buildSliceV,repeatCells,chunk,hf1.tb]
      refine app_gen (es := u32s acc) u40 i38 a38 ?_ (by decide) (by decide) rfl (head_u32s _) ?_ ?_ fun X hX hX2 => ?_
      · refine TokG.keep (σ := σ) ht ?_
        simp only [Tr.get_set]
        rw [if_neg (by omega), htk1]
      · simp only [u32s_len]; exact cap_le _ hacc1
      · exact tokFree_of (by repeat (first | exact (Fresh.freeT hf1 (by omega)) | refine FreeT.set ?_ (by omega) | refine FreeT.via (by assumption) ?_ (by omega)))
      simp only [↓cw_region,↓then_normal,↓block_normal,↓draw_false,↓ow_nil,↓ow_cons,↓contO_eq,↓op_move,↓op_assign,↓op_binOp,vW_some,setD_some,on2_some,biV_eq,opd,ofConst,leaf,rd_set,binV,intV,isConst,AV.strip,Nat.reduceEqDiff,Nat.reduceAdd,reduceIte,Bool.or_true,List.length_cons,List.length_nil,Nat.zero_add,St.bump,Nat.add_assoc,List.size_toArray,r6,hfi]
      refine ih (i + 1) (acc ++ [(v : Int)]) a1 (σ1.nb + 6) _ _ (by omega) (by simp [hacc]) hl.2.1 ?_ ?_ ?_ ?_ ?_ ?_ ?_ ?_ ?_ ?_ ?_
      · refine ⟨by simp only; omega, ?_, fun l hl hne => ?_, fun k hk => ?_⟩
        · first | exact Fresh.of (by repeat (first | exact (Fresh.freeH hf1 (by omega)) | refine FreeH.set ?_ (by omega))) (by repeat (first | exact (Fresh.freeT hf1 (by omega)) | refine FreeT.set ?_ (by omega) | refine FreeT.via (by assumption) ?_ (by omega)))
        · show Tr.get σ1.h l = _
          rw [he1'.h l (by omega) hne, he.h l hl hne]
        · simp only [Tr.get_set]
          rw [if_neg (by omega), hX2 k (by omega), Tr.get_set, if_neg (by omega), he1'.tk k (by omega), he.tk k hk]
      · exact hr1
      · exact .inr ⟨by omega, by simp [Tr.get_set]⟩
      · simp only; omega
      · exact .inr (by omega)
      · simp only [rd_set,reduceIte,reduceCtorEq,r0]
      · simp only [rd_set,Nat.reduceEqDiff,reduceIte,r4]
      · simp only [rd_set,Nat.reduceEqDiff,reduceIte,r5]
        rw [u32s_snoc]
      · simp only [rd_set,Nat.reduceEqDiff,reduceIte,r6]
      · intro l a2 hn2 κ2 fr2 σ2 q1 q2 q3
        exact hok ((v : Int) :: l) a2 (by rw [hn2]) κ2 fr2 σ2 q1 q2 (by rw [q3]; simp)
      · intro w e hn2 es κ2 fr2 σ2 q1 q2 q3
        exact hbad w e (by rw [hn2]) es κ2 fr2 σ2 q1 q2 q3
    · simp only [St.bump] at he1
      have he1' : ExtR p σ σ1 := he1.back (by omega) (fun _ _ _ => rfl) fun _ _ => rfl
      have hf1 := he1.fresh
      have hnb1 : σ.nb + 16 ≤ σ1.nb := by have := he1.nb; simp only at this; omega
      have htk1 : Tr.get σ1.tk κ = Tr.get σ.tk κ := he1'.tk κ hκ
      simp only [hu] at hok hbad
      simp only [↓ow_cons,↓contO_eq,↓op_buildSlice,↓op_call,pW_some,setD_some,bldS,arg_blt,opd,opds,rd_set,bltV,fillV,parts,put,flat,AV.cells,AV.strip,undF,aggF,infF,Nat.reduceEqDiff,Nat.reduceAdd,Nat.reduceMul,Nat.reduceLeDiff,ne_eq,not_false_eq_true,reduceIte,reduceCtorEq,List.length_cons,List.length_nil,List.append_nil,List.take_succ_cons,List.take_zero,List.set_cons_zero,List.map_cons,List.map_nil,Nat.zero_add,and_self,newTok,Nat.add_assoc,or_true,List.headD_cons,tokFree,buildSliceV,repeatCells,chunk,hf1.tb]
      refine app_gen (es := u32s acc) u40 i38 a38 ?_ (by decide) (by decide) rfl (head_u32s _) ?_ ?_ fun X hX hX2 => ?_
      · refine TokG.keep (σ := σ) ht ?_
        simp only [Tr.get_set]
        rw [if_neg (by omega), htk1]
      · simp only [u32s_len]; exact cap_le _ hacc1
      · exact tokFree_of (by repeat (first | exact (Fresh.freeT hf1 (by omega)) | refine FreeT.set ?_ (by omega) | refine FreeT.via (by assumption) ?_ (by omega)))
      simp only [↓cw_region,↓then_normal,↓block_normal,↓draw_false,↓ow_nil,↓ow_cons,↓contO_eq,↓op_move,↓op_assign,↓op_binOp,vW_some,setD_some,on2_some,biV_eq,opd,ofConst,leaf,rd_set,binV,intV,isConst,AV.strip,Nat.reduceEqDiff,Nat.reduceAdd,reduceIte,Bool.or_true,List.length_cons,List.length_nil,Nat.zero_add,St.bump,Nat.add_assoc,List.size_toArray,r6,hfi]
      refine exit57E p bs w e n (i + 1) (acc ++ [(0 : Int)]) (σ1.nb + 6) _ σ0 _ Q ?_ hp hr1 (big_le hn) hi1 ?_ ?_ ?_ ?_ fun fr σ q1 q2 q3 => hbad w e rfl _ _ fr σ q1 q2 q3
      · refine ⟨by simp only; omega, ?_, fun l hl hne => ?_, fun k hk => ?_⟩
        · first | exact Fresh.of (by repeat (first | exact (Fresh.freeH hf1 (by omega)) | refine FreeH.set ?_ (by omega))) (by repeat (first | exact (Fresh.freeT hf1 (by omega)) | refine FreeT.set ?_ (by omega) | refine FreeT.via (by assumption) ?_ (by omega)))
        · show Tr.get σ1.h l = _
          rw [he1'.h l (by omega) hne, he.h l hl hne]
        · simp only [Tr.get_set]
          rw [if_neg (by omega), hX2 k (by omega), Tr.get_set, if_neg (by omega), he1'.tk k (by omega), he.tk k hk]
      · simp only [rd_set,reduceIte,reduceCtorEq,r0]
      · simp only [rd_set,Nat.reduceEqDiff,reduceIte,r4]
      · simp only [rd_set,Nat.reduceEqDiff,reduceIte,r5]
        rw [u32s_snoc]
      · simp only [rd_set,Nat.reduceEqDiff,reduceIte,r6]

theorem w_labelsN (σ : St) (p : Nat) (bs : List Nat) (a m : Nat) (Q : AV → St → Prop) (hf : Fresh σ) (hp : p < σ.nb) (hr : RN σ p bs a m) (ha : a ≤ bs.length) (hb : bs.length < 1000000) (hbb : ∀ c ∈ bs, c < 256)
    (hok : ∀ l a1, rdL bs a = .ok l a1 → ∀ κ σ', ExtR p σ σ' → RN σ' p bs a1 m → Q (.sl (u32s l) κ) σ')
    (hbad : ∀ w e, rdL bs a = .bad w e → ∀ es κ σ', ExtR p σ σ' → RE σ' p bs w e → Q (.sl (u32s es) κ) σ') : CallW TS 57 [.p p 0] σ Q := by
  have hr2 := hr
  unfold RN at hr2
  unfold rdL at hok hbad
  refine callW_of ft57 rfl (Nat.le_of_ble_eq_true rfl) ?_
  simp only [↓cw_seq,↓cw_region,↓then_normal,↓draw_false,↓ow_nil,↓ow_cons,↓contO_eq,↓op_move,↓op_assign,↓op_load,↓op_nilCheck,↓op_fieldAddr,↓op_call,vW_some,setD_some,on1_some,ldV_eq,nilV,faV_eq,callV_some,arg_val,opd,opds,ofConst,leaf,rd_set,rd_nil,Fr.ofList,loadV,fieldAddrV,take?,undF,aggF,infF,Nat.reduceEqDiff,Nat.reduceAdd,Nat.reduceLeDiff,reduceIte,reduceCtorEq,List.length_cons,List.length_nil,List.getElem?_cons_zero,List.getElem?_cons_succ,List.append_nil,List.drop_succ_cons,List.drop_zero,List.take_succ_cons,List.take_zero,Nat.zero_add,St.bump,Nat.add_assoc,List.size_toArray,hr2]
  refine FnW_call rfl (by kernel_rfl) (by kernel_rfl) (by kernel_rfl) (w_wholeN _ p bs a m _ ?_ ?_ ?_ ha hb hbb (fun v a1 hu σ1 he1 hr1 => ?_) fun w e hu σ1 he1 hr1 => ?_)
  · simp only [St.bump]; first | exact Fresh.of (by repeat (first | exact (Fresh.freeH hf (by omega)) | refine FreeH.set ?_ (by omega))) (by repeat (first | exact (Fresh.freeT hf (by omega)) | refine FreeT.set ?_ (by omega) | refine FreeT.via (by assumption) ?_ (by omega)))
  · simp only [St.bump]; omega
  · exact hr
  · simp only [St.bump] at he1
    have he1' : ExtR p σ σ1 := he1.back (by omega) (fun _ _ _ => rfl) fun _ _ => rfl
    have hf1 := he1.fresh
    have hnb1 := he1'.nb
    have hl := rdU_len hu
    simp only [hu] at hok hbad
    by_cases hn : v > 256
    · have hgt : decide ((v : Int) > 256) = true := decide_eq_true (by omega)
      rw [if_pos hn] at hok hbad
      simp only [↓cw_seq,↓cw_cond,↓cw_region,↓then_normal,↓draw_false,↓ow_nil,↓ow_cons,↓contO_eq,↓op_move,↓op_assign,↓op_binOp,↓op_makeInterface,↓op_call,↓force_DC,vW_some,bW_true,ifW_some,setD_some,on2_some,biV_eq,mkI,callV_some,arg_val,opd,opds,ofConst,leaf,rd_set,rd_nil,binV,intV,isConst,undF,Nat.reduceEqDiff,Nat.reduceAdd,reduceIte,reduceCtorEq,Bool.or_true,List.length_cons,List.length_nil,List.append_nil,Nat.zero_add,St.bump,Nat.add_assoc,List.size_toArray,hgt]
      refine FnW_call rfl (by kernel_rfl) (by kernel_rfl) (by kernel_rfl) (w_failN _ p bs a1 m a 9 _ ?_ ?_ ?_ fun σ2 he2 hr2 => ?_)
      · simp only [St.bump]; first | exact Fresh.of (by repeat (first | exact (Fresh.freeH hf1 (by omega)) | refine FreeH.set ?_ (by omega))) (by repeat (first | exact (Fresh.freeT hf1 (by omega)) | refine FreeT.set ?_ (by omega) | refine FreeT.via (by assumption) ?_ (by omega)))
      · simp only [St.bump]; omega
      · exact hr1
      simp only [St.bump] at he2
      have he2' : ExtR p σ σ2 := he1'.trans (he2.back (by omega) (fun _ _ _ => rfl) fun _ _ => rfl)
      have hf2 := he2.fresh
      simp only [↓cw_seq,↓cw_block,↓cw_region,↓then_normal,↓draw_false,↓ow_nil,↓ow_cons,↓contO_eq,↓op_assign,vW_some,setD_some,opd,ofConst,leaf,Nat.reduceAdd,List.length_cons,List.length_nil,Nat.zero_add,St.bump,Nat.add_assoc,List.size_toArray]
      refine exit57E p bs a 9 v 0 [] 1 _ σ _ _ (he2'.upd (by omega) ?_ fun _ _ _ => rfl) hp hr2 (by omega) (by omega) ?_ ?_ ?_ ?_ fun fr σ3 q1 q2 q3 => ?_
      · first | exact Fresh.of (by repeat (first | exact (Fresh.freeH hf2 (by omega)) | refine FreeH.set ?_ (by omega))) (by repeat (first | exact (Fresh.freeT hf2 (by omega)) | refine FreeT.set ?_ (by omega) | refine FreeT.via (by assumption) ?_ (by omega)))
      · simp only [rd_set,rd_nil,reduceIte,reduceCtorEq]
      · simp only [rd_set,rd_nil,Nat.reduceEqDiff,reduceIte,reduceCtorEq]
      · simp only [rd_set,rd_nil,Nat.reduceEqDiff,reduceIte,reduceCtorEq]
        rfl
      · simp only [rd_set,rd_nil,Nat.reduceEqDiff,reduceIte,reduceCtorEq]
        rfl
      simp only [↓cw_ret,↓cw_seq,↓cw_region,↓then_normal,↓draw_false,↓ow_nil,↓ow_cons,↓contO_eq,↓op_move,↓op_assign,↓ret_ret,↓force_DQ,block_exit,vW_some,bW_true,setD_some,resW,nbeq,opd,rd_set,resV,Nat.reduceEqDiff,Nat.reduceAdd,reduceIte,List.length_cons,List.length_nil,beq_self_eq_true,Nat.zero_add,St.bump,List.size_toArray,q3,Tryd.f57]
      exact hbad a 9 rfl _ _ _ (q1.bump _) q2
    · have hgt : decide ((v : Int) > 256) = false := decide_eq_false (by omega)
      rw [if_neg hn] at hok hbad
      simp only [↓cw_skip,↓cw_seq,↓cw_block,↓cw_cond,↓cw_region,↓then_normal,↓draw_false,↓ow_nil,↓ow_cons,↓contO_eq,↓op_move,↓op_assign,↓op_binOp,↓force_DC,vW_some,bW_false,ifW_some,setD_some,on2_some,biV_eq,opd,ofConst,leaf,rd_set,rd_nil,binV,intV,isConst,Nat.reduceEqDiff,Nat.reduceAdd,reduceIte,reduceCtorEq,Bool.or_true,List.length_cons,List.length_nil,Nat.zero_add,St.bump,Nat.add_assoc,List.size_toArray,hgt]
      refine loop57n p bs hb hbb m v (by omega) σ hp _ (v + 1) 0 [] a1 1 _ _ (by omega) rfl hl.2.1 (he1'.upd (by omega) ?_ fun _ _ _ => rfl) hr1 (.inl ⟨rfl, rfl⟩) (by simp only; omega) (.inl rfl) ?_ ?_ ?_ ?_ (fun l a2 h2 κ fr σ2 q1 q2 q3 => ?_) fun w e h2 es κ fr σ2 q1 q2 q3 => ?_
      · first | exact Fresh.of (by repeat (first | exact (Fresh.freeH hf1 (by omega)) | refine FreeH.set ?_ (by omega))) (by repeat (first | exact (Fresh.freeT hf1 (by omega)) | refine FreeT.set ?_ (by omega) | refine FreeT.via (by assumption) ?_ (by omega)))
      · simp only [rd_set,rd_nil,reduceIte,reduceCtorEq]
      · simp only [rd_set,rd_nil,Nat.reduceEqDiff,reduceIte,reduceCtorEq]
      · simp only [rd_set,rd_nil,Nat.reduceEqDiff,reduceIte,reduceCtorEq]
        rfl
      · simp only [rd_set,rd_nil,Nat.reduceEqDiff,reduceIte,reduceCtorEq]
        rfl
      · simp only [↓cw_ret,↓cw_seq,↓cw_region,↓then_normal,↓draw_false,↓ow_nil,↓ow_cons,↓contO_eq,↓op_move,↓op_assign,↓ret_ret,↓force_DQ,block_exit,vW_some,bW_true,setD_some,resW,nbeq,opd,rd_set,resV,Nat.reduceEqDiff,Nat.reduceAdd,reduceIte,List.length_cons,List.length_nil,List.nil_append,beq_self_eq_true,Nat.zero_add,St.bump,List.size_toArray,q3,Tryd.f57]
        exact hok l a2 h2 κ _ (q1.bump _) q2
      · simp only [↓cw_ret,↓cw_seq,↓cw_region,↓then_normal,↓draw_false,↓ow_nil,↓ow_cons,↓contO_eq,↓op_move,↓op_assign,↓ret_ret,↓force_DQ,block_exit,vW_some,bW_true,setD_some,resW,nbeq,opd,rd_set,resV,Nat.reduceEqDiff,Nat.reduceAdd,reduceIte,List.length_cons,List.length_nil,beq_self_eq_true,Nat.zero_add,St.bump,List.size_toArray,q3,Tryd.f57]
        exact hbad w e h2 es κ _ (q1.bump _) q2
  · simp only [St.bump] at he1
    have he1' : ExtR p σ σ1 := he1.back (by omega) (fun _ _ _ => rfl) fun _ _ => rfl
    have hf1 := he1.fresh
    have hnb1 := he1'.nb
    simp only [hu] at hok hbad
    simp only [↓cw_skip,↓cw_seq,↓cw_block,↓cw_cond,↓cw_region,↓then_normal,↓draw_false,↓ow_nil,↓ow_cons,↓contO_eq,↓op_move,↓op_assign,↓op_binOp,↓force_DC,vW_some,bW_false,ifW_some,setD_some,on2_some,biV_eq,opd,ofConst,leaf,rd_set,rd_nil,binV,intV,isConst,Nat.reduceEqDiff,Nat.reduceAdd,reduceIte,reduceCtorEq,Bool.or_true,List.length_cons,List.length_nil,decide_false,Int.reduceGT,Nat.zero_add,St.bump,Nat.add_assoc,List.size_toArray]
    refine exit57E p bs w e 0 0 [] 1 _ σ _ _ (he1'.upd (by omega) ?_ fun _ _ _ => rfl) hp hr1 (by omega) (by omega) ?_ ?_ ?_ ?_ fun fr σ3 q1 q2 q3 => ?_
    · first | exact Fresh.of (by repeat (first | exact (Fresh.freeH hf1 (by omega)) | refine FreeH.set ?_ (by omega))) (by repeat (first | exact (Fresh.freeT hf1 (by omega)) | refine FreeT.set ?_ (by omega) | refine FreeT.via (by assumption) ?_ (by omega)))
    · simp only [rd_set,rd_nil,reduceIte,reduceCtorEq]
    · simp only [rd_set,rd_nil,Nat.reduceEqDiff,reduceIte,reduceCtorEq]
      rfl
    · simp only [rd_set,rd_nil,Nat.reduceEqDiff,reduceIte,reduceCtorEq]
      rfl
    · simp only [rd_set,rd_nil,Nat.reduceEqDiff,reduceIte,reduceCtorEq]
      rfl
    simp only [↓cw_ret,↓cw_seq,↓cw_region,↓then_normal,↓draw_false,↓ow_nil,↓ow_cons,↓contO_eq,↓op_move,↓op_assign,↓ret_ret,↓force_DQ,block_exit,vW_some,bW_true,setD_some,resW,nbeq,opd,rd_set,resV,Nat.reduceEqDiff,Nat.reduceAdd,reduceIte,List.length_cons,List.length_nil,beq_self_eq_true,Nat.zero_add,St.bump,List.size_toArray,q3,Tryd.f57]
    exact hbad w e rfl _ _ _ (q1.bump _) q2
end Go.Pv
