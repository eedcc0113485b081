/- ExprEncodes is true of all instructions of bulk at most 1048576: its row and card (second form). -/
import Derived.Test.YtigcolhieieakaaDoorPvArgL
import Derived.Test.YtigcolhieieakaaDoorPvE11
namespace Go.Proofs.YtigcolhieieakaaDoor
open Go Go.ChangeShapes Go.WideShapes Go.RowKit
set_option maxRecDepth 100000

theorem enc_reads (os : Os) {H : Type} (enc : TypeId × Value → H) : ∃ places, DataW.whole enc Tryd.prog ((Pv.laidWorld os).forCall (fun _ _ => 0) ⟨#[], #[.slice none 0 0], []⟩).memory Tryd.f5.params.toList Rows.exprEncodesSpec.vars false #[Value.slice none 0 0].toList 8 = some ([.nil], [], places) :=
  ⟨[], by kernel_rfl⟩
theorem enc_eval (avs : List Pv.AV) (h : Pv.TypedVs Pv.TS Tryd.f5.params.toList avs) (hb : Pv.bulkL avs ≤ 1048576) : Pv.PureW Pv.TS 5 avs (.b true) := by
  rw [Tryd.params5] at h
  match avs, h with
  | [a], h =>
    obtain ⟨l, h1, rfl, h3⟩ := Pv.L_of_typedV h.1
    simp only [Pv.bulkL] at hb
    exact Pv.w_encodes l h1 (by omega)

theorem enc_lifted (os : Os) (started : os.Started) (H : Type) (enc : TypeId × Value → H) (F : Stop.Interp) :
    ReturnsInHanded {} Tryd.checked os 5 .any ((Rows.OpenSpec.upto Rows.exprEncodesSpec).preRow enc Tryd.prog Tryd.f5 Rows.exprEncodesUptoRow.domain false Rows.exprEncodesUptoRow.laid) (((Rows.OpenSpec.upto Rows.exprEncodesSpec).at F).post enc Tryd.prog Tryd.f5 false true false false) := by
  obtain ⟨places, hx⟩ := enc_reads os enc
  refine returnsInHanded_of_row (C := Tryd.checked) (s := Rows.OpenSpec.upto Rows.exprEncodesSpec) Pv.own0 started (by kernel_rfl) Tryd.func5
    (witness_row_at (enc := enc) (C := Tryd.checked) false (Pv.laidWorld os) #[.slice none 0 0] rfl (by kernel_rfl) (by kernel_rfl) (by kernel_rfl)
      (OpenSpec.preRow_of_cond 8 hx (by kernel_rfl) (fun k hk => by cases hk; kernel_rfl) (by kernel_rfl) (Pv.laidWorld_met os _))) ?_
  intro W base args ds gs before hval hW _ hcond _ hL _ _
  have hk : Rows.uptoBulkAll (ds ++ gs) ≤ 1048576 := of_decide_eq_true (hcond _ rfl)
  have hW' := hW
  obtain ⟨p, q, hA, hV, _⟩ := hW'
  obtain ⟨rfl, rfl⟩ := trodVars_none hV
  rw [List.append_nil] at hk
  obtain ⟨d, rfl⟩ : ∃ d, ds = [d] := by
    rw [Tryd.params5] at hA
    obtain ⟨v0, vs0, d0, ds0, p0, q0, hargs, rfl, rfl, h0, r0⟩ := trodAll_cons hA
    obtain ⟨rfl, rfl, rfl⟩ := trodAll_nil r0
    exact ⟨d0, rfl⟩
  exact Pv.contract_of (ts := [29, 63, 5, 2, 38, 40]) (B := 1048576) rfl (by kernel_rfl) (by rw [Tryd.params5]; simp) (by kernel_rfl) (by kernel_rfl) enc_eval hval hW rfl hk (Pv.handle_of_laid hL)

theorem enc_holds : Rows.ExprEncodesUptoSaid :=
  OpenClaim.holds_of_cond 5 Tryd.f5 rfl rfl rfl rfl rfl rfl rfl ⟨rfl, rfl, rfl, rfl, rfl⟩ rfl rfl rfl rfl rfl (by kernel_rfl) Tryd.func5 (by kernel_rfl)
    (of_decide_eq_true (by kernel_rfl)) (by unfold Func.isWrapper; rw [if_neg (of_decide_eq_false (by kernel_rfl))]; exact ⟨rfl, rfl⟩)
    (fun os started H enc _ F => by rw [OpenClaim.pre_eq_preRow]; exact enc_lifted os started H enc F)

theorem encodes_card : Rows.ExprEncodesUptoCardSaid :=
  Claim7.holds_tied_plain_at .later [] _ _ _ _ enc_holds (fun _ h => by cases h) (by kernel_rfl) (fun _ h => by cases h) exprEncodesUpto_row_tie rfl ⟨rfl, rfl⟩ (by kernel_rfl) rfl
    (fun f fn hf hfn => by
      obtain rfl : f = 5 := Option.some.inj ((show Tryd.prog.funcNamed "mandrel/mandrellaw05.ExprEncodes" = some 5 by kernel_rfl).symm.trans hf) |>.symm
      obtain rfl : fn = Tryd.f5 := (Option.some.inj (Tryd.func5.symm.trans hfn)).symm
      exact ⟨by kernel_rfl, fun j t ht => by
        rw [Tryd.params5] at ht
        obtain rfl : t = 29 := by simpa using Array.mem_of_getElem? ht
        exact (show Tryd.prog.wantsStandIn 29 = false by kernel_rfl)⟩)
    (by kernel_rfl)
#print axioms encodes_card
end Go.Proofs.YtigcolhieieakaaDoor
