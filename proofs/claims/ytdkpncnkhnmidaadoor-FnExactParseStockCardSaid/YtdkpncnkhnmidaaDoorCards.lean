/-
  DERIVED. GIVEN WITH THE SEED: THE CARDS: each row of YtdkpncnkhnmidaaDoorRows.lean that lists a variable, with what it lists TIED to the program's text (the seventh form; the later family's looks); each row that meets fmt, with fmt's text TOLD by the authors' own Lean function (tested against real Go, not proved from fmt's source: count such statements apart). THE CARD IS WHAT COUNTS. Prove the row's statement (the work); the ties are given (YtdkpncnkhnmidaaDoorTie.lean); close each card by the builder's one call (the guide's Derived/Test/ToyasCard.lean, 'card_holds'). Laid BY PROGRAM, IN A SANDBOX (cutbox-door.mjs). By AI agents, Wed Nov 11 2026. No macro, syntax, notation, axiom, sorry.
-/
import Derived.Test.YtdkpncnkhnmidaaDoorRows
import GoSem.ClaimSeven
namespace Go.Proofs.YtdkpncnkhnmidaaDoor
namespace Rows

/-- THE TIED CARD OF 'laws.FnExactParseStock'. -/
def fnExactParseStockCard : Claim7 := { stood := { row := fnExactParseStockRow, standIns := [], harness := (true, "93a2565b7738d51b2d11e9cebd51384ddbda97c2d0fc996a21c853f9fdc2516e"), looks := true }, kinds := [], alts := [], laidByText := true, laidKinds := [.data, .data, .data, .sentinel, .sentinel], laidTests := true, laidLooks := .later }
def FnExactParseStockCardSaid : Prop := Claim7.holds Tryd.pinned (.plain (OpenSpec.ofChange fnExactParseStockSpec)) fnExactParseStockCard

/-- THE SECOND FORM's CARD OF 'laws.FnExactParseStock'. -/
def fnExactParseStockUptoCard : Claim7 := { stood := { row := fnExactParseStockUptoRow, standIns := [], harness := (true, "93a2565b7738d51b2d11e9cebd51384ddbda97c2d0fc996a21c853f9fdc2516e"), looks := true }, kinds := [], alts := [], laidByText := true, laidKinds := [.data, .data, .data, .sentinel, .sentinel], laidTests := true, laidLooks := .later }
def FnExactParseStockUptoCardSaid : Prop := Claim7.holds Tryd.pinned (.plain (OpenSpec.upto fnExactParseStockSpec)) fnExactParseStockUptoCard
end Rows
end Go.Proofs.YtdkpncnkhnmidaaDoor
