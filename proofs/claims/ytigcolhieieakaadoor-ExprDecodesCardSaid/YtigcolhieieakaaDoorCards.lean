/-
  DERIVED. GIVEN WITH THE SEED: THE CARDS: each row of YtigcolhieieakaaDoorRows.lean that lists a variable, with what it lists TIED to the program's text (the seventh form; the later family's looks); each row that meets fmt, with fmt's text TOLD by the authors' own Lean function (tested against real Go, not proved from fmt's source: count such statements apart). THE CARD IS WHAT COUNTS. Prove the row's statement (the work); the ties are given (YtigcolhieieakaaDoorTie.lean); close each card by the builder's one call (the guide's Derived/Test/ToyasCard.lean, 'card_holds'). Laid BY PROGRAM, IN A SANDBOX (cutbox-door.mjs). By AI agents, Wed Nov 11 2026. No macro, syntax, notation, axiom, sorry.
-/
import Derived.Test.YtigcolhieieakaaDoorRows
import GoSem.ClaimSeven
namespace Go.Proofs.YtigcolhieieakaaDoor
namespace Rows

/-- THE TIED CARD OF 'mandrellaw05.ExprDecodes'. -/
def exprDecodesCard : Claim7 := { stood := { row := exprDecodesRow, standIns := [], harness := (true, "6b270a6ec18c9fae78df309fa17d7b59aa6d7336744e1269ecb88199811d70dc"), looks := true }, kinds := [], alts := [], laidByText := true, laidKinds := [.handle], laidTests := true, laidLooks := .later }
def ExprDecodesCardSaid : Prop := Claim7.holds Tryd.pinned (.plain (OpenSpec.ofChange exprDecodesSpec)) exprDecodesCard

/-- THE TIED CARD OF 'mandrellaw05.ExprSame'. -/
def exprSameCard : Claim7 := { stood := { row := exprSameRow, standIns := [], harness := (true, "6b270a6ec18c9fae78df309fa17d7b59aa6d7336744e1269ecb88199811d70dc"), looks := true }, kinds := [], alts := [], laidByText := true, laidKinds := [.handle], laidTests := true, laidLooks := .later }
def ExprSameCardSaid : Prop := Claim7.holds Tryd.pinned (.plain (OpenSpec.ofChange exprSameSpec)) exprSameCard

/-- THE TIED CARD OF 'mandrellaw05.ExprEncodes'. -/
def exprEncodesCard : Claim7 := { stood := { row := exprEncodesRow, standIns := [], harness := (true, "6b270a6ec18c9fae78df309fa17d7b59aa6d7336744e1269ecb88199811d70dc"), looks := true }, kinds := [], alts := [], laidByText := true, laidKinds := [.handle], laidTests := true, laidLooks := .later }
def ExprEncodesCardSaid : Prop := Claim7.holds Tryd.pinned (.plain (OpenSpec.ofChange exprEncodesSpec)) exprEncodesCard

/-- THE TIED CARD OF 'mandrellaw05.ExprBack'. -/
def exprBackCard : Claim7 := { stood := { row := exprBackRow, standIns := [], harness := (true, "6b270a6ec18c9fae78df309fa17d7b59aa6d7336744e1269ecb88199811d70dc"), looks := true }, kinds := [], alts := [], laidByText := true, laidKinds := [.handle], laidTests := true, laidLooks := .later }
def ExprBackCardSaid : Prop := Claim7.holds Tryd.pinned (.plain (OpenSpec.ofChange exprBackSpec)) exprBackCard

/-- THE TIED CARD OF 'mandrellaw05.ExprDeep'. -/
def exprDeepCard : Claim7 := { stood := { row := exprDeepRow, standIns := [], harness := (true, "6b270a6ec18c9fae78df309fa17d7b59aa6d7336744e1269ecb88199811d70dc"), looks := true }, kinds := [], alts := [], laidByText := true, laidKinds := [.handle], laidTests := true, laidLooks := .later }
def ExprDeepCardSaid : Prop := Claim7.holds Tryd.pinned (.plain (OpenSpec.ofChange exprDeepSpec)) exprDeepCard

/-- THE TIED CARD OF 'mandrellaw05.ExprMany'. -/
def exprManyCard : Claim7 := { stood := { row := exprManyRow, standIns := [], harness := (true, "6b270a6ec18c9fae78df309fa17d7b59aa6d7336744e1269ecb88199811d70dc"), looks := true }, kinds := [], alts := [], laidByText := true, laidKinds := [.handle], laidTests := true, laidLooks := .later }
def ExprManyCardSaid : Prop := Claim7.holds Tryd.pinned (.plain (OpenSpec.ofChange exprManySpec)) exprManyCard

/-- THE SECOND FORM's CARD OF 'mandrellaw05.ExprDecodes'. -/
def exprDecodesUptoCard : Claim7 := { stood := { row := exprDecodesUptoRow, standIns := [], harness := (true, "6b270a6ec18c9fae78df309fa17d7b59aa6d7336744e1269ecb88199811d70dc"), looks := true }, kinds := [], alts := [], laidByText := true, laidKinds := [.handle], laidTests := true, laidLooks := .later }
def ExprDecodesUptoCardSaid : Prop := Claim7.holds Tryd.pinned (.plain (OpenSpec.upto exprDecodesSpec)) exprDecodesUptoCard

/-- THE SECOND FORM's CARD OF 'mandrellaw05.ExprSame'. -/
def exprSameUptoCard : Claim7 := { stood := { row := exprSameUptoRow, standIns := [], harness := (true, "6b270a6ec18c9fae78df309fa17d7b59aa6d7336744e1269ecb88199811d70dc"), looks := true }, kinds := [], alts := [], laidByText := true, laidKinds := [.handle], laidTests := true, laidLooks := .later }
def ExprSameUptoCardSaid : Prop := Claim7.holds Tryd.pinned (.plain (OpenSpec.upto exprSameSpec)) exprSameUptoCard

/-- THE SECOND FORM's CARD OF 'mandrellaw05.ExprEncodes'. -/
def exprEncodesUptoCard : Claim7 := { stood := { row := exprEncodesUptoRow, standIns := [], harness := (true, "6b270a6ec18c9fae78df309fa17d7b59aa6d7336744e1269ecb88199811d70dc"), looks := true }, kinds := [], alts := [], laidByText := true, laidKinds := [.handle], laidTests := true, laidLooks := .later }
def ExprEncodesUptoCardSaid : Prop := Claim7.holds Tryd.pinned (.plain (OpenSpec.upto exprEncodesSpec)) exprEncodesUptoCard

/-- THE SECOND FORM's CARD OF 'mandrellaw05.ExprBack'. -/
def exprBackUptoCard : Claim7 := { stood := { row := exprBackUptoRow, standIns := [], harness := (true, "6b270a6ec18c9fae78df309fa17d7b59aa6d7336744e1269ecb88199811d70dc"), looks := true }, kinds := [], alts := [], laidByText := true, laidKinds := [.handle], laidTests := true, laidLooks := .later }
def ExprBackUptoCardSaid : Prop := Claim7.holds Tryd.pinned (.plain (OpenSpec.upto exprBackSpec)) exprBackUptoCard

/-- THE SECOND FORM's CARD OF 'mandrellaw05.ExprDeep'. -/
def exprDeepUptoCard : Claim7 := { stood := { row := exprDeepUptoRow, standIns := [], harness := (true, "6b270a6ec18c9fae78df309fa17d7b59aa6d7336744e1269ecb88199811d70dc"), looks := true }, kinds := [], alts := [], laidByText := true, laidKinds := [.handle], laidTests := true, laidLooks := .later }
def ExprDeepUptoCardSaid : Prop := Claim7.holds Tryd.pinned (.plain (OpenSpec.upto exprDeepSpec)) exprDeepUptoCard

/-- THE SECOND FORM's CARD OF 'mandrellaw05.ExprMany'. -/
def exprManyUptoCard : Claim7 := { stood := { row := exprManyUptoRow, standIns := [], harness := (true, "6b270a6ec18c9fae78df309fa17d7b59aa6d7336744e1269ecb88199811d70dc"), looks := true }, kinds := [], alts := [], laidByText := true, laidKinds := [.handle], laidTests := true, laidLooks := .later }
def ExprManyUptoCardSaid : Prop := Claim7.holds Tryd.pinned (.plain (OpenSpec.upto exprManySpec)) exprManyUptoCard
end Rows
end Go.Proofs.YtigcolhieieakaaDoor
