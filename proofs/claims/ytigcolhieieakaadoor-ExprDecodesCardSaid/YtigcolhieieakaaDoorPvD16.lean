/- The program's reader: list, whatever the bytes are. (PvZ6) -/
import Derived.Test.YtigcolhieieakaaDoorPvD15
import Derived.Test.YtigcolhieieakaaDoorPvD13
namespace Go.Pv
open Go Go.Proofs Go.RowKit
set_option linter.unusedVariables false
set_option linter.unusedSimpArgs false
set_option maxRecDepth 100000

theorem u24n : TS.und 24 = some (.slice 42) := by simp only [undF]
theorem i42n : TS.inf 42 = some (⟨8, 104, [.i .u8 0, .i .i64 0, .i .u32 0, .i .u32 0, .i .u8 0, .sl [] 1, .sl [] 1, .sl [] 1]⟩) := by simp only [infF]
theorem a42n : TS.isAgg 42 = some true := by simp only [aggF]
theorem w_instrN (bs : List Nat) (hb : bs.length < 1000000) (hbb : ∀ c ∈ bs, c < 256) (op f a m d : Nat) (hf9 : f ≤ 9) (ha : a ≤ bs.length) (hd : d < 100000) (hm : m ≤ 16384) (rd : Nat → Nat → Bool → Rr (L × Nat))
    (H : ∀ a1 m1 o, a < a1 → a1 ≤ bs.length → m1 ≤ 16384 → ListP bs (d + 1) o a1 m1 (rd a1 m1 o)) (hrd : ∀ a m o x a1 m1, rd a m o = .ok x a1 m1 → m ≤ 16384 → a < a1 ∧ a1 ≤ bs.length ∧ m1 ≤ 16384)
    (σ : St) (p : Nat) (Q : AV → St → Prop) (hf : Fresh σ) (hp : p < σ.nb) (hr : RN σ p bs a m)
    (hok : ∀ x a1 m1, rdI rd bs f a m = .ok x a1 m1 → ∀ κ1 κ2 κ3 σ', ExtR p σ σ' → RN σ' p bs a1 m1 → Q (.a [.i .u8 op, .i .i64 x.n, .i .u32 x.al, .i .u32 x.off, .i .u8 x.res, .sl x.b.av κ1, .sl x.e.av κ2, .sl (u32s x.ls) κ3]) σ')
    (hbad : ∀ w e, rdI rd bs f a m = .bad w e → ∀ cs σ', cs.length = 8 → flat cs = true → ExtR p σ σ' → RE σ' p bs w e → Q (.a cs) σ') : CallW TS 41 [.p p 0, .i .u8 op, .i .i64 f, .i .i64 d] σ Q := by
  have hc : f = 0 ∨ f = 1 ∨ f = 2 ∨ f = 3 ∨ f = 4 ∨ f = 5 ∨ f = 6 ∨ f = 7 ∨ f = 8 ∨ f = 9 := by omega
  rcases hc with rfl | rfl | rfl | rfl | rfl | rfl | rfl | rfl | rfl | rfl
  · exact w_instr0 bs hb hbb op a m d ha hd hm rd H hrd σ p Q hf hp hr hok hbad
  · exact w_instr1 bs hb hbb op a m d ha hd hm rd H hrd σ p Q hf hp hr hok hbad
  · exact w_instr2 bs hb hbb op a m d ha hd hm rd H hrd σ p Q hf hp hr hok hbad
  · exact w_instr3 bs hb hbb op a m d ha hd hm rd H hrd σ p Q hf hp hr hok hbad
  · exact w_instr4 bs hb hbb op a m d ha hd hm rd H hrd σ p Q hf hp hr hok hbad
  · exact w_instr5 bs hb hbb op a m d ha hd hm rd H hrd σ p Q hf hp hr hok hbad
  · exact w_instr6 bs hb hbb op a m d ha hd hm rd H hrd σ p Q hf hp hr hok hbad
  · exact w_instr7 bs hb hbb op a m d ha hd hm rd H hrd σ p Q hf hp hr hok hbad
  · exact w_instr8 bs hb hbb op a m d ha hd hm rd H hrd σ p Q hf hp hr hok hbad
  · exact w_instr9 bs hb hbb op a m d ha hd hm rd H hrd σ p Q hf hp hr hok hbad

theorem float_prim (op : Nat) (h : op < 256) : pByte gFloat [.i .u8 (op : Int)] = some (.b (floatN op)) := by
  show (match Nat.ble op 255 with | true => gFloat op | false => none) = _
  rw [Nat.ble_eq_true_of_le (by omega)]
  simp only
  unfold gFloat floatN
  have hl : op < floatL.length := h
  rw [List.getElem?_eq_getElem hl]

noncomputable def K23n : Code :=  cl (cl (cr (cr (fb Tryd.f23))))
theorem exit23 (p : Nat) (bs : List Nat) (w e : Nat) (fr : Fr) (σ0 σ : St) (Q : Ex → Fr → St → Prop) (he : ExtR p σ0 σ) (hr : RE σ p bs w e) (r0 : fr.rd 0 = .p p 0)
    (hQ : ∀ fr σ, ExtR p σ0 σ → RE σ p bs w e → Q (.exit 0) fr σ) : CodeW TS K23n fr σ Q := by
  have hr0 := hr
  obtain ⟨a, m, hr⟩ := hr
  simp only [errV] at hr
  simp only [K23n,fb,Tryd.f23,cl,cr,Option.getD]
  rw [cw_loop]
  simp only [↓cw_exit,↓cw_seq,↓cw_cond,↓cw_region,↓then_normal,↓then_exit,↓draw_false,↓ow_nil,↓ow_cons,↓contO_eq,↓op_move,↓op_load,↓op_nilCheck,↓op_binOp,↓op_fieldAddr,↓force_DC,vW_some,bW_false,ifW_some,setD_some,on1_some,on2_some,ldV_eq,nilV,biV_eq,faV_eq,opd,ofConst,leaf,rd_set,binV,eqV,isConst,loadV,fieldAddrV,take?,undF,aggF,infF,ifaceF,Nat.reduceEqDiff,Nat.reduceAdd,Nat.reduceLeDiff,reduceIte,reduceCtorEq,Bool.or_true,List.length_cons,List.length_nil,List.getElem?_cons_zero,List.getElem?_cons_succ,List.drop_succ_cons,List.drop_zero,List.take_succ_cons,List.take_zero,Nat.zero_add,St.bump,List.size_toArray,r0,hr]
  exact hQ _ _ (he.bump 5) hr0

def Loop23 (F : Nat) : Prop := ∀ (bs : List Nat) (hb : bs.length < 900000) (hbb : ∀ c ∈ bs, c < 256) (d : Nat) (hd : d + F < 90000) (o : Bool) (Q : Ex → Fr → St → Prop) (a m : Nat) (ha : a ≤ bs.length) (haF : bs.length < a + F) (hm : m ≤ 16384)
    (acc : List AV) (hacc : acc.length + F < 1000000) (hhead : headSize 8 acc = true) (κ p : Nat) (fr : Fr) (σ0 σ : St) (he : ExtR p σ0 σ) (hp : p < σ0.nb) (hr : RN σ p bs a m)
    (ht : TokG σ acc κ 8) (hκ : κ < σ.nb + 2) (hκ2 : κ = 1 ∨ σ0.nb + 2 ≤ κ) (r0 : fr.rd 0 = .p p 0) (r1 : fr.rd 1 = .i .i64 d) (r2 : fr.rd 2 = .b o) (r8 : fr.rd 8 = .sl acc κ)
    (hbad : ∀ w e, rdList F bs a m d o = .bad w e → ∀ fr σ, ExtR p σ0 σ → RE σ p bs w e → Q (.exit 0) fr σ)
    (hok : ∀ l z a1 m1, rdList F bs a m d o = .ok (l, z) a1 m1 → ∀ κ' fr σ, ExtR p σ0 σ → RN σ p bs a1 m1 → fr.rd 6 = .sl (acc ++ l.av) κ' → fr.rd 7 = .i .u8 z → Q .ret fr σ), CodeW TS K23n fr σ Q

theorem listP_of_loop {F : Nat} (H : Loop23 F) (bs : List Nat) (hb : bs.length < 900000) (hbb : ∀ c ∈ bs, c < 256) (d : Nat) (hd : d + F < 90000) (o : Bool) (a m : Nat) (ha : a ≤ bs.length) (haF : bs.length < a + F) (hm : m ≤ 16384) : ListP bs d o a m (rdList F bs a m d o) := by
  intro σ p Q hf hp hr hok hbad
  refine callW_of ft23 rfl (Nat.le_of_ble_eq_true rfl) ?_
  simp only [↓cw_seq,↓cw_block,↓cw_region,↓then_normal,↓draw_false,↓ow_nil,↓ow_cons,↓contO_eq,↓op_assign,vW_some,setD_some,opd,ofConst,leaf,Fr.ofList,Nat.reduceAdd,List.length_cons,List.length_nil,Nat.zero_add,St.bump,Nat.add_assoc,List.size_toArray]
  refine H bs hb hbb d hd o _ a m ha haF hm [] (by simp; omega) rfl 1 p _ σ _ ((ExtR.refl hf).upd (by omega) (by first | exact Fresh.of (by repeat (first | exact (Fresh.freeH hf (by omega)) | refine FreeH.set ?_ (by omega))) (by repeat (first | exact (Fresh.freeT hf (by omega)) | refine FreeT.set ?_ (by omega) | refine FreeT.via (by assumption) ?_ (by omega)))) fun _ _ _ => rfl) hp hr (.inl ⟨rfl, rfl⟩) (by simp only; omega) (.inl rfl) ?_ ?_ ?_ ?_ (fun w e h fr σ1 he1 hr1 => ?_) fun l z a1 m1 h κ fr σ1 he1 hr1 q6 q7 => ?_
  · simp only [rd_set,rd_nil,reduceIte,reduceCtorEq]
  · simp only [rd_set,rd_nil,Nat.reduceEqDiff,reduceIte,reduceCtorEq]
  · simp only [rd_set,rd_nil,Nat.reduceEqDiff,reduceIte,reduceCtorEq]
  · simp only [rd_set,rd_nil,Nat.reduceEqDiff,reduceIte,reduceCtorEq]
  · simp only [↓cw_ret,↓cw_seq,↓cw_region,↓then_normal,↓draw_false,↓ow_nil,↓ow_cons,↓contO_eq,↓op_assign,↓ret_ret,↓force_DQ,block_exit,vW_some,bW_true,setD_some,resW,nbeq,opd,ofConst,leaf,rd_set,resV,Nat.reduceEqDiff,Nat.reduceAdd,reduceIte,List.length_cons,List.length_nil,beq_self_eq_true,Nat.zero_add,St.bump,List.size_toArray,Tryd.f23]
    exact hbad w e h _ (he1.bump _) hr1
  · simp only [↓then_ret,↓block_ret,↓ret_ret,resW,resV,List.nil_append,q6,q7,Tryd.f23]
    exact hok l z a1 m1 h κ _ he1 hr1

theorem flat_strip0 : ∀ l : List AV, flat (l.map AV.strip0) = flat l
  | [] => rfl
  | x :: xs => by cases x <;> simp [AV.strip0, flat, flat_strip0 xs]
theorem big_t {m : Nat} (h : m + 1 > 16384) : decide (((m + 1 : Nat) : Int) > 16384) = true := decide_eq_true (by omega)
theorem big_f {m : Nat} (h : ¬ m + 1 > 16384) : decide (((m + 1 : Nat) : Int) > 16384) = false := decide_eq_false (by omega)
theorem d64_t {d : Nat} (h : 64 ≤ d) : decide ((d : Int) ≥ 64) = true := decide_eq_true (by omega)
theorem d64_f {d : Nat} (h : ¬ 64 ≤ d) : decide ((d : Int) ≥ 64) = false := decide_eq_false (by omega)
theorem ne6 {f : Nat} (h : ¬ (f = 6 ∨ f = 7)) : ((f : Int) == 6) = false := by rw [beq_eq_false_iff_ne]; omega
theorem ne7 {f : Nat} (h : ¬ (f = 6 ∨ f = 7)) : ((f : Int) == 7) = false := by rw [beq_eq_false_iff_ne]; omega
theorem lim_no {m d f : Nat} (h1 : ¬ m + 1 > 16384) (h : ¬ 64 ≤ d ∨ (64 ≤ d ∧ ((f : Int) == 6) = false ∧ ((f : Int) == 7) = false)) : ¬ (m + 1 > 16384 ∨ (64 ≤ d ∧ (f = 6 ∨ f = 7))) := by
  rintro (h2 | ⟨h2, h3⟩)
  · exact h1 h2
  · rcases h with h | ⟨_, h4, h5⟩
    · exact h h2
    · rcases h3 with rfl | rfl
      · simp at h4
      · simp at h5
theorem three_way (d f : Nat) : (64 ≤ d ∧ (f = 6 ∨ f = 7)) ∨ ¬ 64 ≤ d ∨ (64 ≤ d ∧ ((f : Int) == 6) = false ∧ ((f : Int) == 7) = false) := by
  by_cases hd6 : 64 ≤ d
  · by_cases h67 : f = 6 ∨ f = 7
    · exact .inl ⟨hd6, h67⟩
    · exact .inr (.inr ⟨hd6, ne6 h67, ne7 h67⟩)
  · exact .inr (.inl hd6)
theorem nb_ok {a b c k : Nat} (h1 : a ≤ b) (h2 : b ≤ c) : a ≤ c + k := by omega

noncomputable def A23 : Code := cl (cl (cl (cl (cr (cr (fb Tryd.f23))))))
noncomputable def B23 : Code := cl (cl (cr (cl (cl (cl (cr (cr (fb Tryd.f23))))))))
noncomputable def C23 : Code := cl (cr (cl (cr (cl (cl (cl (cr (cr (fb Tryd.f23)))))))))
noncomputable def D23 : Code := cl (cr (cr (cl (cr (cl (cl (cl (cr (cr (fb Tryd.f23))))))))))
noncomputable def E23 : Code := cl (cr (cr (cr (cl (cr (cl (cl (cl (cr (cr (fb Tryd.f23)))))))))))
noncomputable def T23 : Code := cr (cr (cr (cr (cl (cr (cl (cl (cl (cr (cr (fb Tryd.f23)))))))))))
theorem K23_eq : K23n = .loop (.seq A23 (.block 1 (.seq B23 (.seq C23 (.seq D23 (.seq E23 T23)))))) := by kernel_rfl

set_option maxHeartbeats 4000000 in
theorem tail23 (bs : List Nat) (hb : bs.length < 900000) (hbb : ∀ c ∈ bs, c < 256) (d : Nat) (hd : d < 100000) (o : Bool) (Q : Ex → Fr → St → Prop) (op a m : Nat) (hop : op < 256) (ha : a < bs.length) (hm : m ≤ 16384) (rd : Nat → Nat → Bool → Rr (L × Nat))
    (H : ∀ a1 m1 o, a + 1 < a1 → a1 ≤ bs.length → m1 ≤ 16384 → ListP bs (d + 1) o a1 m1 (rd a1 m1 o)) (hrd : ∀ a m o x a1 m1, rd a m o = .ok x a1 m1 → m ≤ 16384 → a < a1 ∧ a1 ≤ bs.length ∧ m1 ≤ 16384)
    (acc : List AV) (hacc : acc.length < 1000000) (hhead : headSize 8 acc = true) (κ p : Nat) (fr : Fr) (σ0 σ : St) (he : ExtR p σ0 σ) (hp : p < σ0.nb) (hr : RN σ p bs (a + 1) m)
    (ht : TokG σ acc κ 8) (hκ : κ < σ.nb + 2) (hκ2 : κ = 1 ∨ σ0.nb + 2 ≤ κ) (r0 : fr.rd 0 = .p p 0) (r1 : fr.rd 1 = .i .i64 d) (r2 : fr.rd 2 = .b o) (r8 : fr.rd 8 = .sl acc κ) (r9 : fr.rd 9 = .i .i64 a) (r10 : fr.rd 10 = .i .u8 op)
    (hfl : floatN op = true → ∀ fr σ, ExtR p σ0 σ → RE σ p bs a 8 → fr.rd 0 = .p p 0 → CodeW TS K23n fr σ Q)
    (hno : floatN op = false → formN op = none → ∀ fr σ, ExtR p σ0 σ → RE σ p bs a 6 → fr.rd 0 = .p p 0 → CodeW TS K23n fr σ Q)
    (hlim : ∀ f, floatN op = false → formN op = some f → (m + 1 > 16384 ∨ (64 ≤ d ∧ (f = 6 ∨ f = 7))) → ∀ fr σ, ExtR p σ0 σ → RE σ p bs a 9 → fr.rd 0 = .p p 0 → CodeW TS K23n fr σ Q)
    (hbad : ∀ f, floatN op = false → formN op = some f → ¬ (m + 1 > 16384 ∨ (64 ≤ d ∧ (f = 6 ∨ f = 7))) → ∀ w e, rdI rd bs f (a + 1) (m + 1) = .bad w e → ∀ fr σ, ExtR p σ0 σ → RE σ p bs w e → fr.rd 0 = .p p 0 → CodeW TS K23n fr σ Q)
    (hok : ∀ f, floatN op = false → formN op = some f → ¬ (m + 1 > 16384 ∨ (64 ≤ d ∧ (f = 6 ∨ f = 7))) → ∀ x a1 m1, rdI rd bs f (a + 1) (m + 1) = .ok x a1 m1 → ∀ κ' fr σ, ExtR p σ0 σ → RN σ p bs a1 m1 → TokG σ (acc ++ [x.av op]) κ' 8 → κ' < σ.nb + 2 → (κ' = 1 ∨ σ0.nb + 2 ≤ κ') → fr.rd 0 = .p p 0 → fr.rd 1 = .i .i64 d → fr.rd 2 = .b o → fr.rd 8 = .sl (acc ++ [x.av op]) κ' → CodeW TS K23n fr σ Q) :
    CodeW TS T23 fr σ (blockW 1 (thenW TS K23n Q)) := by
  have hf := he.fresh
  have hnb := he.nb
  have hps : p < σ.nb := by omega
  have hb1 : bs.length < 1000000 := by omega
  have hcap : (2 * (acc.length + 1) + 192) * 104 ≤ 140737488355328 := by omega
  have hfm1 : fw .i64 ((m : Int) + 1) = ((m + 1 : Nat) : Int) := fw_add1 (by omega)
  have hfp := float_prim op hop
  have ha1 : a + 1 ≤ bs.length := by omega
  have hkk : ∀ k, k < σ0.nb + 2 → k ≠ κ ∨ κ = 1 := fun k h => by omega
  have hpb : ∀ k, p < σ.nb + k := fun k => by omega
  have hnk : ∀ k, σ.nb ≤ σ.nb + k := fun k => by omega
  have hk0 : ∀ n, σ.nb ≤ n → κ < n + 2 := fun n h => by omega
  have hs0 : ∀ n, σ.nb ≤ n → σ0.nb ≤ n := fun n h => by omega
  have hr2 := hr
  unfold RN at hr2
  simp only [T23,fb,Tryd.f23,cl,cr,Option.getD]
  simp only [↓cw_seq,↓cw_region,↓ow_cons,↓contO_eq,↓op_move,↓op_call,vW_some,setD_some,callV_some,arg_val,opd,opds,rd_set,Nat.reduceAdd,reduceIte,List.length_cons,List.length_nil,List.append_nil,Nat.zero_add,List.size_toArray,r10]
  refine FnW_prim rfl (by kernel_rfl) (p := pByte gForm) (by kernel_rfl) (form_prim op hop) ?_
  have failing : ∀ (w e : Nat) {h : Tr (List AV)} {nb : Nat} (Q2 : AV → St → Prop), σ.nb ≤ nb → Tr.get h p = some [.sl (nat8 bs) 0, .i .i64 (a + 1 : Nat), .i .i64 (m + 1 : Nat), .ne, .i .i64 0] → Fresh ⟨h, σ.tk, nb⟩ → (∀ l, l < σ.nb → l ≠ p → Tr.get h l = Tr.get σ.h l) →
      (∀ σ1, ExtR p σ0 σ1 → RE σ1 p bs w e → Q2 (.t []) σ1) → CallW TS 40 [.p p 0, .i .i64 w, errV e] ⟨h, σ.tk, nb⟩ Q2 := fun w e {h nb} Q2 hn hg hff hl hQ2 =>
    w_failN _ p bs (a + 1) (m + 1) w e Q2 hff (by simp only; omega) hg fun σ1 he1 hr1 => hQ2 σ1 (he.trans (he1.back hn hl fun _ _ => rfl)) hr1
  cases hfn : formN op with
  | none =>
    simp only [formV,hfn,errV]
    simp only [↓cw_seq,↓cw_block,↓cw_region,↓then_normal,↓draw_false,↓ow_nil,↓ow_cons,↓contO_eq,↓op_move,↓op_assign,↓op_load,↓op_store,↓op_nilCheck,↓op_binOp,↓op_fieldAddr,↓op_extract,↓op_call,vW_some,pW_some,setD_some,setD_none,on1_some,on2_some,ldV_eq,stV,nilV,biV_eq,faV_eq,exV,callV_some,arg_val,opd,opds,ofConst,leaf,rd_set,binV,intV,isConst,loadV,fieldAddrV,take?,put,flat,AV.cells,undF,aggF,infF,Nat.reduceEqDiff,Nat.reduceAdd,Nat.reduceLeDiff,reduceIte,reduceCtorEq,Bool.or_true,List.length_cons,List.length_nil,List.getElem?_cons_zero,List.getElem?_cons_succ,List.append_nil,List.drop_succ_cons,List.drop_zero,List.take_succ_cons,List.take_zero,List.set_cons_zero,List.set_cons_succ,Nat.zero_add,and_self,St.bump,storeV,Nat.add_assoc,List.size_toArray,r0,r10,hr2,hfm1]
    refine FnW_prim rfl (by kernel_rfl) (p := pByte gFloat) (by kernel_rfl) hfp ?_
    cases hfv : floatN op with
    | true =>
      simp only [↓cw_cond,↓cw_region,↓then_normal,↓draw_false,↓ow_nil,↓ow_cons,↓contO_eq,↓op_move,↓op_assign,↓op_makeInterface,↓op_call,↓force_DC,vW_some,bW_true,ifW_some,setD_some,mkI,callV_some,arg_val,opd,opds,ofConst,leaf,rd_set,undF,Nat.reduceEqDiff,Nat.reduceAdd,reduceIte,reduceCtorEq,List.length_cons,List.length_nil,List.append_nil,Nat.zero_add,St.bump,Nat.add_assoc,List.size_toArray,r0,r9]
      refine FnW_call rfl (by kernel_rfl) (by kernel_rfl) (by kernel_rfl) (failing a 8 _ ?_ ?_ ?_ ?_ fun σ1 he1 hr1 => ?_)
      · simp only []; omega
      · simp only []; simp only [reduceIte,Tr.get_set]
      · simp only []; first | exact Fresh.of (by repeat (first | exact (Fresh.freeH hf (by omega)) | refine FreeH.set ?_ (by omega))) (by repeat (first | exact (Fresh.freeT hf (by omega)) | refine FreeT.set ?_ (by omega) | refine FreeT.via (by assumption) ?_ (by omega)))
      · intro l hl hne; simp only [Tr.get_set,if_neg hne]
      simp only [↓then_normal,↓block_normal,↓draw_false,↓ow_nil,↓contO_eq,setD_some,St.bump]
      exact hfl hfv _ _ (he1.bump _) hr1 (by simp only [rd_set,reduceIte,reduceCtorEq,r0])
    | false =>
      simp only [↓cw_seq,↓cw_cond,↓cw_region,↓then_normal,↓draw_false,↓ow_nil,↓ow_cons,↓contO_eq,↓op_move,↓op_assign,↓op_binOp,↓op_makeInterface,↓op_call,↓force_DC,vW_some,bW_true,bW_false,ifW_some,setD_some,on2_some,biV_eq,mkI,callV_some,arg_val,opd,opds,ofConst,leaf,rd_set,binV,eqV,isConst,undF,ifaceF,Nat.reduceEqDiff,Nat.reduceAdd,reduceIte,reduceCtorEq,Bool.or_true,List.length_cons,List.length_nil,List.append_nil,Nat.zero_add,Bool.not_false,St.bump,Nat.add_assoc,List.size_toArray,r0,r9]
      refine FnW_call rfl (by kernel_rfl) (by kernel_rfl) (by kernel_rfl) (failing a 6 _ ?_ ?_ ?_ ?_ fun σ1 he1 hr1 => ?_)
      · simp only []; omega
      · simp only []; simp only [reduceIte,Tr.get_set]
      · simp only []; first | exact Fresh.of (by repeat (first | exact (Fresh.freeH hf (by omega)) | refine FreeH.set ?_ (by omega))) (by repeat (first | exact (Fresh.freeT hf (by omega)) | refine FreeT.set ?_ (by omega) | refine FreeT.via (by assumption) ?_ (by omega)))
      · intro l hl hne; simp only [Tr.get_set,if_neg hne]
      simp only [↓then_normal,↓block_normal,↓draw_false,↓ow_nil,↓contO_eq,setD_some,St.bump]
      exact hno hfv hfn _ _ (he1.bump _) hr1 (by simp only [rd_set,reduceIte,reduceCtorEq,r0])
  | some f =>
    have hf9 := form_le _ _ hfn
    simp only [formV,hfn]
    simp only [↓cw_seq,↓cw_block,↓cw_region,↓then_normal,↓draw_false,↓ow_nil,↓ow_cons,↓contO_eq,↓op_move,↓op_assign,↓op_load,↓op_store,↓op_nilCheck,↓op_binOp,↓op_fieldAddr,↓op_extract,↓op_call,vW_some,pW_some,setD_some,setD_none,on1_some,on2_some,ldV_eq,stV,nilV,biV_eq,faV_eq,exV,callV_some,arg_val,opd,opds,ofConst,leaf,rd_set,binV,intV,isConst,loadV,fieldAddrV,take?,put,flat,AV.cells,undF,aggF,infF,Nat.reduceEqDiff,Nat.reduceAdd,Nat.reduceLeDiff,reduceIte,reduceCtorEq,Bool.or_true,List.length_cons,List.length_nil,List.getElem?_cons_zero,List.getElem?_cons_succ,List.append_nil,List.drop_succ_cons,List.drop_zero,List.take_succ_cons,List.take_zero,List.set_cons_zero,List.set_cons_succ,Nat.zero_add,and_self,St.bump,storeV,Nat.add_assoc,List.size_toArray,r0,r10,hr2,hfm1]
    refine FnW_prim rfl (by kernel_rfl) (p := pByte gFloat) (by kernel_rfl) hfp ?_
    cases hfv : floatN op with
    | true =>
      simp only [↓cw_cond,↓cw_region,↓then_normal,↓draw_false,↓ow_nil,↓ow_cons,↓contO_eq,↓op_move,↓op_assign,↓op_makeInterface,↓op_call,↓force_DC,vW_some,bW_true,ifW_some,setD_some,mkI,callV_some,arg_val,opd,opds,ofConst,leaf,rd_set,undF,Nat.reduceEqDiff,Nat.reduceAdd,reduceIte,reduceCtorEq,List.length_cons,List.length_nil,List.append_nil,Nat.zero_add,St.bump,Nat.add_assoc,List.size_toArray,r0,r9]
      refine FnW_call rfl (by kernel_rfl) (by kernel_rfl) (by kernel_rfl) (failing a 8 _ ?_ ?_ ?_ ?_ fun σ1 he1 hr1 => ?_)
      · simp only []; omega
      · simp only []; simp only [reduceIte,Tr.get_set]
      · simp only []; first | exact Fresh.of (by repeat (first | exact (Fresh.freeH hf (by omega)) | refine FreeH.set ?_ (by omega))) (by repeat (first | exact (Fresh.freeT hf (by omega)) | refine FreeT.set ?_ (by omega) | refine FreeT.via (by assumption) ?_ (by omega)))
      · intro l hl hne; simp only [Tr.get_set,if_neg hne]
      simp only [↓then_normal,↓block_normal,↓draw_false,↓ow_nil,↓contO_eq,setD_some,St.bump]
      exact hfl hfv _ _ (he1.bump _) hr1 (by simp only [rd_set,reduceIte,reduceCtorEq,r0])
    | false =>
      have limit : ∀ (f' : Nat), f' = f → (m + 1 > 16384 ∨ (64 ≤ d ∧ (f' = 6 ∨ f' = 7))) → ∀ fr σ, ExtR p σ0 σ → RE σ p bs a 9 → fr.rd 0 = .p p 0 → CodeW TS K23n fr σ Q := fun f' e hl => hlim f hfv hfn (e ▸ hl)
      have fine : ¬ (m + 1 > 16384 ∨ (64 ≤ d ∧ (f = 6 ∨ f = 7))) → ∀ {h : Tr (List AV)} {nb : Nat} (Q2 : AV → St → Prop), σ.nb ≤ nb → Tr.get h p = some [.sl (nat8 bs) 0, .i .i64 (a + 1 : Nat), .i .i64 (m + 1 : Nat), .ne, .i .i64 0] → Fresh ⟨h, σ.tk, nb⟩ → (∀ l, l < σ.nb → l ≠ p → Tr.get h l = Tr.get σ.h l) →
          (∀ x a1 m1, rdI rd bs f (a + 1) (m + 1) = .ok x a1 m1 → ∀ κ1 κ2 κ3 σ', ExtR p σ σ' → nb ≤ σ'.nb → RN σ' p bs a1 m1 → Q2 (.a [.i .u8 op, .i .i64 x.n, .i .u32 x.al, .i .u32 x.off, .i .u8 x.res, .sl x.b.av κ1, .sl x.e.av κ2, .sl (u32s x.ls) κ3]) σ') →
          (∀ w e, rdI rd bs f (a + 1) (m + 1) = .bad w e → ∀ cs σ', cs.length = 8 → flat cs = true → ExtR p σ σ' → nb ≤ σ'.nb → RE σ' p bs w e → Q2 (.a cs) σ') → CallW TS 41 [.p p 0, .i .u8 op, .i .i64 f, .i .i64 d] ⟨h, σ.tk, nb⟩ Q2 := fun hl {h nb} Q2 hn hg hff hlo h1 h2 =>
        w_instrN bs hb1 hbb op f (a + 1) (m + 1) d hf9 ha1 hd (by exact Nat.le_of_not_lt (fun h => hl (.inl h))) rd (fun a1 m1 o q1 q2 q3 => H a1 m1 o q1 q2 q3) hrd _ p Q2 hff (by simp only; omega) hg
          (fun x a1 m1 hx κ1 κ2 κ3 σ' e1 e2 => h1 x a1 m1 hx κ1 κ2 κ3 σ' (e1.back hn hlo fun _ _ => rfl) e1.nb e2) fun w e hx cs σ' l1 l2 e1 e2 => h2 w e hx cs σ' l1 l2 (e1.back hn hlo fun _ _ => rfl) e1.nb e2
      simp only [↓cw_seq,↓cw_cond,↓cw_region,↓then_normal,↓draw_false,↓ow_nil,↓ow_cons,↓ow_consG,↓contO_eq,↓op_move,↓op_assign,↓op_load,↓op_nilCheck,↓op_binOp,↓op_fieldAddr,↓force_DC,vW_some,bW_false,ifW_some,setD_some,on1_some,on2_some,ldV_eq,nilV,biV_eq,faV_eq,opd,ofConst,leaf,rd_set,binV,intV,eqV,isConst,loadV,fieldAddrV,take?,undF,aggF,infF,ifaceF,Nat.reduceEqDiff,Nat.reduceAdd,Nat.reduceLeDiff,reduceIte,reduceCtorEq,Bool.or_true,Bool.and_true,List.length_cons,List.length_nil,List.getElem?_cons_zero,List.getElem?_cons_succ,List.drop_succ_cons,List.drop_zero,List.take_succ_cons,List.take_zero,Nat.zero_add,Bool.not_true,St.bump,Tr.get_set,wantG,Option.bind,Nat.add_assoc,beqF,List.size_toArray,r0,hr2]
      by_cases hm1 : m + 1 > 16384
      · have d1 := big_t hm1
        simp only [↓cw_cond,↓cw_region,↓then_normal,↓draw_false,↓ow_nil,↓ow_cons,↓ow_consG,↓contO_eq,↓op_move,↓op_assign,↓op_makeInterface,↓op_pick,↓op_call,↓force_DC,↓force_DOs,vW_some,bW_true,bW_false,ifW_some,setD_some,mkI,pkV,callV_some,arg_val,opd,opds,ofConst,leaf,rd_set,undF,Nat.reduceEqDiff,Nat.reduceAdd,reduceIte,reduceCtorEq,List.length_cons,List.length_nil,List.getElem?_cons_zero,List.getElem?_cons_succ,List.append_nil,Nat.zero_add,Bool.not_true,St.bump,wantG,Option.bind,Nat.add_assoc,beqF,List.size_toArray,r0,r9,d1]
        refine FnW_call rfl (by kernel_rfl) (by kernel_rfl) (by kernel_rfl) (failing a 9 _ ?_ ?_ ?_ ?_ fun σ1 he1 hr1 => ?_)
        · simp only []; omega
        · simp only []; simp only [reduceIte,Tr.get_set]
        · simp only []; first | exact Fresh.of (by repeat (first | exact (Fresh.freeH hf (by omega)) | refine FreeH.set ?_ (by omega))) (by repeat (first | exact (Fresh.freeT hf (by omega)) | refine FreeT.set ?_ (by omega) | refine FreeT.via (by assumption) ?_ (by omega)))
        · intro l hl hne; simp only [Tr.get_set,if_neg hne]
        simp only [↓then_normal,↓block_normal,↓draw_false,↓ow_nil,↓contO_eq,setD_some,St.bump]
        exact limit f rfl (.inl hm1) _ _ (he1.bump _) hr1 (by simp only [rd_set,reduceIte,reduceCtorEq,r0])
      have d1 := big_f hm1
      have three := three_way d f
      rcases three with ⟨hd6, h67⟩ | hd6 | ⟨hd6, e6, e7⟩
      · have d2 := d64_t hd6
        rcases h67 with rfl | rfl
        · simp only [↓cw_cond,↓cw_region,↓then_normal,↓draw_false,↓ow_nil,↓ow_cons,↓ow_consG,↓contO_eq,↓op_move,↓op_assign,↓op_binOp,↓op_makeInterface,↓op_pick,↓op_call,↓force_DC,↓force_DO,↓force_DOs,vW_some,bW_true,bW_false,ifW_some,setD_some,on2_some,biV_eq,mkI,pkV,callV_some,arg_val,opd,opds,ofConst,leaf,rd_set,binV,intV,isConst,undF,Nat.reduceEqDiff,Nat.reduceAdd,reduceIte,reduceCtorEq,Bool.or_true,List.length_cons,List.length_nil,List.getElem?_cons_zero,List.getElem?_cons_succ,List.append_nil,beq_self_eq_true,Nat.zero_add,Bool.not_true,Bool.not_false,St.bump,wantG,Option.bind,Nat.add_assoc,beqF,List.size_toArray,r0,r1,r9,d1,d2,Int.cast_ofNat_Int]
          refine FnW_call rfl (by kernel_rfl) (by kernel_rfl) (by kernel_rfl) (failing a 9 _ ?_ ?_ ?_ ?_ fun σ1 he1 hr1 => ?_)
          · simp only []; omega
          · simp only []; simp only [reduceIte,Tr.get_set]
          · simp only []; first | exact Fresh.of (by repeat (first | exact (Fresh.freeH hf (by omega)) | refine FreeH.set ?_ (by omega))) (by repeat (first | exact (Fresh.freeT hf (by omega)) | refine FreeT.set ?_ (by omega) | refine FreeT.via (by assumption) ?_ (by omega)))
          · intro l hl hne; simp only [Tr.get_set,if_neg hne]
          simp only [↓then_normal,↓block_normal,↓draw_false,↓ow_nil,↓contO_eq,setD_some,St.bump]
          exact limit 6 rfl (.inr ⟨hd6, .inl rfl⟩) _ _ (he1.bump _) hr1 (by simp only [rd_set,reduceIte,reduceCtorEq,r0])
        · simp only [↓cw_cond,↓cw_region,↓then_normal,↓draw_false,↓ow_nil,↓ow_cons,↓ow_consG,↓contO_eq,↓op_move,↓op_assign,↓op_binOp,↓op_makeInterface,↓op_pick,↓op_call,↓force_DC,↓force_DO,vW_some,bW_true,ifW_some,setD_some,on2_some,biV_eq,mkI,pkV,callV_some,arg_val,opd,opds,ofConst,leaf,rd_set,binV,intV,isConst,undF,Nat.reduceEqDiff,Nat.reduceAdd,reduceIte,reduceCtorEq,Bool.or_true,List.length_cons,List.length_nil,List.getElem?_cons_zero,List.getElem?_cons_succ,List.append_nil,Int.reduceBEq,beq_self_eq_true,Nat.zero_add,Bool.not_false,St.bump,wantG,Option.bind,Nat.add_assoc,List.size_toArray,r0,r1,r9,d1,d2,Int.cast_ofNat_Int]
          refine FnW_call rfl (by kernel_rfl) (by kernel_rfl) (by kernel_rfl) (failing a 9 _ ?_ ?_ ?_ ?_ fun σ1 he1 hr1 => ?_)
          · simp only []; omega
          · simp only []; simp only [reduceIte,Tr.get_set]
          · simp only []; first | exact Fresh.of (by repeat (first | exact (Fresh.freeH hf (by omega)) | refine FreeH.set ?_ (by omega))) (by repeat (first | exact (Fresh.freeT hf (by omega)) | refine FreeT.set ?_ (by omega) | refine FreeT.via (by assumption) ?_ (by omega)))
          · intro l hl hne; simp only [Tr.get_set,if_neg hne]
          simp only [↓then_normal,↓block_normal,↓draw_false,↓ow_nil,↓contO_eq,setD_some,St.bump]
          exact limit 7 rfl (.inr ⟨hd6, .inr rfl⟩) _ _ (he1.bump _) hr1 (by simp only [rd_set,reduceIte,reduceCtorEq,r0])
      all_goals
        have hnl : ¬ (m + 1 > 16384 ∨ (64 ≤ d ∧ (f = 6 ∨ f = 7))) := by
          first
            | exact lim_no hm1 (.inl hd6)
            | exact lim_no hm1 (.inr ⟨hd6, e6, e7⟩)
        first
          | (have d2 := d64_t hd6; simp only [↓cw_cond,↓cw_region,↓then_normal,↓draw_false,↓ow_nil,↓ow_cons,↓ow_consG,↓contO_eq,↓op_move,↓op_assign,↓op_binOp,↓op_pick,↓op_call,↓force_DC,↓force_DO,vW_some,bW_true,bW_false,ifW_some,setD_some,on2_some,biV_eq,pkV,callV_some,arg_val,opd,opds,ofConst,leaf,rd_set,binV,intV,isConst,Nat.reduceEqDiff,Nat.reduceAdd,reduceIte,reduceCtorEq,Bool.or_true,List.length_cons,List.length_nil,List.getElem?_cons_zero,List.getElem?_cons_succ,List.append_nil,beq_self_eq_true,Nat.zero_add,Bool.not_false,St.bump,wantG,Option.bind,Nat.add_assoc,List.size_toArray,r0,r1,r8,r10,d1,d2,e6,e7]; done)
          | (have d2 := d64_t hd6; simp only [↓cw_cond,↓cw_region,↓then_normal,↓draw_false,↓ow_nil,↓ow_cons,↓ow_consG,↓contO_eq,↓op_move,↓op_assign,↓op_binOp,↓op_pick,↓op_call,↓force_DC,↓force_DO,vW_some,bW_true,bW_false,ifW_some,setD_some,on2_some,biV_eq,pkV,callV_some,arg_val,opd,opds,ofConst,leaf,rd_set,binV,intV,isConst,Nat.reduceEqDiff,Nat.reduceAdd,reduceIte,reduceCtorEq,Bool.or_true,List.length_cons,List.length_nil,List.getElem?_cons_zero,List.getElem?_cons_succ,List.append_nil,beq_self_eq_true,Nat.zero_add,Bool.not_false,St.bump,wantG,Option.bind,Nat.add_assoc,List.size_toArray,r0,r1,r8,r10,d1,d2,e6,e7])
          | (have d2 := d64_f hd6; simp only [↓cw_cond,↓cw_region,↓then_normal,↓draw_false,↓ow_nil,↓ow_cons,↓ow_consG,↓contO_eq,↓op_move,↓op_assign,↓op_binOp,↓op_pick,↓op_call,↓force_DC,↓force_DO,↓force_DOs,vW_some,bW_true,bW_false,ifW_some,setD_some,on2_some,biV_eq,pkV,callV_some,arg_val,opd,opds,ofConst,leaf,rd_set,binV,intV,isConst,Nat.reduceEqDiff,Nat.reduceAdd,reduceIte,reduceCtorEq,Bool.or_true,List.length_cons,List.length_nil,List.getElem?_cons_zero,List.getElem?_cons_succ,List.append_nil,beq_self_eq_true,Nat.zero_add,Bool.not_false,St.bump,wantG,Option.bind,Nat.add_assoc,beqT,List.size_toArray,r0,r1,r8,r10,d1,d2])
        refine FnW_call rfl (by kernel_rfl) (by kernel_rfl) (by kernel_rfl) (fine hnl _ ?_ ?_ ?_ ?_ (fun x a1 m1 hx κ1 κ2 κ3 σ1 he1 hn1 hr1 => ?_) fun w e hx cs σ1 hl1 hl2 he1 hn1 hr1 => ?_)
        · simp only []; omega
        · simp only []; simp only [reduceIte,Tr.get_set]
        · simp only []; first | exact Fresh.of (by repeat (first | exact (Fresh.freeH hf (by omega)) | refine FreeH.set ?_ (by omega))) (by repeat (first | exact (Fresh.freeT hf (by omega)) | refine FreeT.set ?_ (by omega) | refine FreeT.via (by assumption) ?_ (by omega)))
        · intro l hl hne; simp only [Tr.get_set,if_neg hne]
        · have hf1 := he1.fresh
          have htk1 : Tr.get σ1.tk κ = Tr.get σ.tk κ := he1.tk κ hκ
          have hnb1 := he1.nb
          simp only [↓ow_cons,↓contO_eq,↓op_buildSlice,↓op_call,pW_some,setD_some,bldS,arg_blt,opd,opds,rd_set,bltV,fillV,parts,put,flat,AV.cells,AV.strip,AV.strip0,undF,aggF,infF,Nat.reduceEqDiff,Nat.reduceAdd,Nat.reduceMul,Nat.reduceLeDiff,ne_eq,not_false_eq_true,reduceIte,reduceCtorEq,List.length_cons,List.length_nil,List.append_nil,List.take_succ_cons,List.take_zero,List.set_cons_zero,List.set_cons_succ,List.map_cons,List.map_nil,Nat.zero_add,and_self,newTok,Nat.add_assoc,or_false,List.headD_cons,tokFree,buildSliceV,repeatCells,chunk,hf1.tb]
          refine app_gen (es := acc) u24n i42n a42n ?_ (by decide) (by decide) rfl hhead hcap ?_ fun X hX hX2 => ?_
          · refine TokG.keep (σ := σ) ht ?_
            simp only [Tr.get_set]
            rw [if_neg (by omega), htk1]
          · exact tokFree_of (by repeat (first | exact (Fresh.freeT hf1 (by omega)) | refine FreeT.set ?_ (by omega) | refine FreeT.via (by assumption) ?_ (by omega)))
          simp only [↓then_normal,↓block_normal,↓draw_false,↓ow_nil,↓ow_cons,↓contO_eq,↓op_assign,vW_some,setD_some,opd,rd_set,AV.strip,AV.strip0,Nat.reduceEqDiff,Nat.reduceAdd,reduceIte,List.map_cons,List.map_nil,St.bump,Nat.add_assoc]
          refine hok f hfv hfn hnl x a1 m1 hx (σ1.nb + 9) _ _ ?_ hr1 (.inr ⟨by omega, by simp [Tr.get_set]⟩) (by simp only; omega) (.inr (by omega)) ?_ ?_ ?_ ?_
          · refine ⟨by simp only; omega, ?_, fun l' hl' hne => ?_, fun k hk' => ?_⟩
            · first | exact Fresh.of (by repeat (first | exact (Fresh.freeH hf1 (by omega)) | refine FreeH.set ?_ (by omega))) (by repeat (first | exact (Fresh.freeT hf1 (by omega)) | refine FreeT.set ?_ (by omega) | refine FreeT.via (by assumption) ?_ (by omega)))
            · show Tr.get σ1.h l' = _
              rw [he1.h l' (by omega) hne, he.h l' hl' hne]
            · simp only [Tr.get_set]
              rw [if_neg (by omega), hX2 k (hkk k hk'), Tr.get_set, if_neg (by omega), he1.tk k (by omega), he.tk k hk']
          · simp only [rd_set,reduceIte,reduceCtorEq,r0]
          · simp only [rd_set,Nat.reduceEqDiff,reduceIte,r1]
          · simp only [rd_set,Nat.reduceEqDiff,reduceIte,r2]
          · simp only [rd_set,Nat.reduceEqDiff,reduceIte,Ins.av,iav]
        · have hf1 := he1.fresh
          have htk1 : Tr.get σ1.tk κ = Tr.get σ.tk κ := he1.tk κ hκ
          have hnb1 := he1.nb
          obtain ⟨c0, c1, c2, c3, c4, c5, c6, c7, rfl⟩ : ∃ c0 c1 c2 c3 c4 c5 c6 c7, cs = [c0, c1, c2, c3, c4, c5, c6, c7] := by
            match cs, hl1 with
            | [a, b, c, d, e, f, g, h], _ => exact ⟨_, _, _, _, _, _, _, _, rfl⟩
          simp only [↓ow_cons,↓contO_eq,↓op_buildSlice,↓op_call,pW_some,setD_some,bldS,arg_blt,opd,opds,rd_set,bltV,fillV,parts,put,AV.cells,AV.strip,AV.strip0,undF,aggF,infF,Nat.reduceEqDiff,Nat.reduceAdd,Nat.reduceMul,Nat.reduceLeDiff,ne_eq,not_false_eq_true,reduceIte,reduceCtorEq,List.length_cons,List.length_nil,List.append_nil,List.take_succ_cons,List.take_zero,List.set_cons_zero,List.set_cons_succ,List.map_cons,List.map_nil,Nat.zero_add,and_self,newTok,Nat.add_assoc,or_false,List.headD_cons,tokFree,buildSliceV,repeatCells,chunk,hf1.tb,hl2]
          refine app_gen (es := acc) u24n i42n a42n ?_ (by decide) (by decide) ?_ hhead hcap ?_ fun X hX hX2 => ?_
          · refine TokG.keep (σ := σ) ht ?_
            simp only [Tr.get_set]
            rw [if_neg (by omega), htk1]
          · have hl3 : flat ([c0, c1, c2, c3, c4, c5, c6, c7].map AV.strip0) = true := by rw [flat_strip0]; exact hl2
            simp only [List.map_cons,List.map_nil,AV.strip0] at hl3
            simp only [allSize,AV.cells,List.length_cons,List.length_nil,Nat.reduceAdd,hl3]
            rfl
          · exact tokFree_of (by repeat (first | exact (Fresh.freeT hf1 (by omega)) | refine FreeT.set ?_ (by omega) | refine FreeT.via (by assumption) ?_ (by omega)))
          simp only [↓then_normal,↓block_normal,↓draw_false,↓ow_nil,↓ow_cons,↓contO_eq,↓op_assign,vW_some,setD_some,opd,rd_set,AV.strip,AV.strip0,Nat.reduceEqDiff,Nat.reduceAdd,reduceIte,List.map_cons,List.map_nil,St.bump,Nat.add_assoc]
          refine hbad f hfv hfn hnl w e hx _ _ ?_ hr1 (by simp only [rd_set,reduceIte,reduceCtorEq,r0])
          refine ⟨by simp only; omega, ?_, fun l' hl' hne => ?_, fun k hk' => ?_⟩
          · first | exact Fresh.of (by repeat (first | exact (Fresh.freeH hf1 (by omega)) | refine FreeH.set ?_ (by omega))) (by repeat (first | exact (Fresh.freeT hf1 (by omega)) | refine FreeT.set ?_ (by omega) | refine FreeT.via (by assumption) ?_ (by omega)))
          · show Tr.get σ1.h l' = _
            rw [he1.h l' (by omega) hne, he.h l' hl' hne]
          · simp only [Tr.get_set]
            rw [if_neg (by omega), hX2 k (hkk k hk'), Tr.get_set, if_neg (by omega), he1.tk k (by omega), he.tk k hk']
end Go.Pv
