/- ExprDecodes is true of all bytes: its row and card. -/
import Derived.Test.YtigcolhieieakaaDoorPvD19
namespace Go.Proofs.YtigcolhieieakaaDoor
open Go Go.ChangeShapes Go.WideShapes Go.RowKit
set_option maxRecDepth 100000

theorem dec_reads (os : Os) {H : Type} (enc : TypeId × Value → H) : ∃ places, DataW.whole enc Tryd.prog ((Pv.laidWorld os).forCall (fun _ _ => 0) ⟨#[], #[.slice none 0 0], []⟩).memory Tryd.f3.params.toList Rows.exprDecodesSpec.vars false #[Value.slice none 0 0].toList 8 = some ([.nil], [], places) :=
  ⟨[], by kernel_rfl⟩
theorem dec_eval (avs : List Pv.AV) (h : Pv.TypedVs Pv.TS Tryd.f3.params.toList avs) : Pv.PureW Pv.TS 3 avs (.b true) := by
  rw [Tryd.params3] at h
  match avs, h with
  | [a], h =>
    obtain ⟨bs, rfl, h1⟩ := Pv.bytes_of_typedV h.1
    exact Pv.w_decodes bs h1

theorem dec_lifted (os : Os) (started : os.Started) (H : Type) (enc : TypeId × Value → H) (F : Stop.Interp) :
    ReturnsInHanded {} Tryd.checked os 3 .any ((OpenSpec.ofChange Rows.exprDecodesSpec).preRow enc Tryd.prog Tryd.f3 Rows.exprDecodesRow.domain false Rows.exprDecodesRow.laid) (((OpenSpec.ofChange Rows.exprDecodesSpec).at F).post enc Tryd.prog Tryd.f3 false true false false) := by
  obtain ⟨places, hx⟩ := dec_reads os enc
  refine returnsInHanded_of_row (C := Tryd.checked) (s := OpenSpec.ofChange Rows.exprDecodesSpec) Pv.own0 started (by kernel_rfl) Tryd.func3
    (witness_row_at (enc := enc) (C := Tryd.checked) false (Pv.laidWorld os) #[.slice none 0 0] rfl (by kernel_rfl) (by kernel_rfl) (by kernel_rfl)
      (OpenSpec.preRow_of_cond 8 hx (by kernel_rfl) (fun k hk => by cases hk) (by kernel_rfl) (Pv.laidWorld_met os _))) ?_
  intro W base args ds gs before hval hW _ hcond _ hL _ _
  have hW' := hW
  obtain ⟨p, q, hA, hV, _⟩ := hW'
  obtain ⟨rfl, rfl⟩ := trodVars_none hV
  obtain ⟨d, rfl⟩ : ∃ d, ds = [d] := by
    rw [Tryd.params3] at hA
    obtain ⟨v0, vs0, d0, ds0, p0, q0, hargs, rfl, rfl, h0, r0⟩ := trodAll_cons hA
    obtain ⟨rfl, rfl, rfl⟩ := trodAll_nil r0
    exact ⟨d0, rfl⟩
  exact Pv.contract_of (ts := [22, 5]) (B := Rows.uptoBulkAll [d]) rfl (by kernel_rfl) (by rw [Tryd.params3]; simp) (by kernel_rfl) (by kernel_rfl) (fun avs h _ => dec_eval avs h) hval hW rfl (Nat.le_refl _) (Pv.handle_of_laid hL)

theorem dec_holds : Rows.ExprDecodesSaid :=
  OpenClaim.holds_of_cond 3 Tryd.f3 rfl rfl rfl rfl rfl rfl rfl ⟨rfl, rfl, rfl, rfl, rfl⟩ rfl rfl rfl rfl rfl (by kernel_rfl) Tryd.func3 (by kernel_rfl)
    (of_decide_eq_true (by kernel_rfl)) (by unfold Func.isWrapper; rw [if_neg (of_decide_eq_false (by kernel_rfl))]; exact ⟨rfl, rfl⟩)
    (fun os started H enc _ F => by rw [OpenClaim.pre_eq_preRow]; exact dec_lifted os started H enc F)

theorem decodes_card : Rows.ExprDecodesCardSaid :=
  Claim7.holds_tied_plain_at .later [] _ _ _ _ dec_holds (fun _ h => by cases h) (by kernel_rfl) (fun _ h => by cases h) exprDecodes_row_tie rfl ⟨rfl, rfl⟩ (by kernel_rfl) rfl
    (fun f fn hf hfn => by
      obtain rfl : f = 3 := Option.some.inj ((show Tryd.prog.funcNamed "mandrel/mandrellaw05.ExprDecodes" = some 3 by kernel_rfl).symm.trans hf) |>.symm
      obtain rfl : fn = Tryd.f3 := (Option.some.inj (Tryd.func3.symm.trans hfn)).symm
      exact ⟨by kernel_rfl, fun j t ht => by
        rw [Tryd.params3] at ht
        obtain rfl : t = 22 := by simpa using Array.mem_of_getElem? ht
        exact (show Tryd.prog.wantsStandIn 22 = false by kernel_rfl)⟩)
    (by kernel_rfl)
#print axioms decodes_card
end Go.Proofs.YtigcolhieieakaaDoor
