/-
  DERIVED. GIVEN WITH THE SEED: THE CARDS: each row of YtmhbpaijlbmmlaaDoorRows.lean that lists a variable, with what it lists TIED to the program's text (the seventh form; the later family's looks); each row that meets fmt, with fmt's text TOLD by the authors' own Lean function (tested against real Go, not proved from fmt's source: count such statements apart). THE CARD IS WHAT COUNTS. Prove the row's statement (the work); the ties are given (YtmhbpaijlbmmlaaDoorTie.lean); close each card by the builder's one call (the guide's Derived/Test/ToyasCard.lean, 'card_holds'). Laid BY PROGRAM, IN A SANDBOX (cutbox-door.mjs). By AI agents, Wed Nov 11 2026. No macro, syntax, notation, axiom, sorry.
-/
import Derived.Test.YtmhbpaijlbmmlaaDoorRows
import GoSem.ClaimSeven
namespace Go.Proofs.YtmhbpaijlbmmlaaDoor
namespace Rows

/-- THE TIED CARD OF 'laws.FnExactParseStock'. -/
def fnExactParseStockCard : Claim7 := { stood := { row := fnExactParseStockRow, standIns := [], harness := (true, "11b7404ac3768075f23297c50384d48ea1f3caf4faa4ee47817ef96450eb5618"), looks := true }, kinds := [], alts := [], laidByText := true, laidKinds := [.data, .data, .data, .sentinel, .sentinel], laidTests := true, laidLooks := .later }
def FnExactParseStockCardSaid : Prop := Claim7.holds Tryd.pinned (.plain (OpenSpec.ofChange fnExactParseStockSpec)) fnExactParseStockCard

/-- THE TIED CARD OF 'laws.FnExactStockText'. -/
def fnExactStockTextCard : Claim7 := { stood := { row := fnExactStockTextRow, standIns := [], harness := (true, "11b7404ac3768075f23297c50384d48ea1f3caf4faa4ee47817ef96450eb5618"), looks := true }, kinds := [], alts := [], laidByText := true, laidKinds := [.data, .data, .data], laidTests := true, laidLooks := .later }
def FnExactStockTextCardSaid : Prop := Claim7.holds Tryd.pinned (.plain (OpenSpec.ofChange fnExactStockTextSpec)) fnExactStockTextCard

/-- THE SECOND FORM's CARD OF 'laws.FnExactParseStock'. -/
def fnExactParseStockUptoCard : Claim7 := { stood := { row := fnExactParseStockUptoRow, standIns := [], harness := (true, "11b7404ac3768075f23297c50384d48ea1f3caf4faa4ee47817ef96450eb5618"), looks := true }, kinds := [], alts := [], laidByText := true, laidKinds := [.data, .data, .data, .sentinel, .sentinel], laidTests := true, laidLooks := .later }
def FnExactParseStockUptoCardSaid : Prop := Claim7.holds Tryd.pinned (.plain (OpenSpec.upto fnExactParseStockSpec)) fnExactParseStockUptoCard

/-- THE SECOND FORM's CARD OF 'laws.FnExactStockText'. -/
def fnExactStockTextUptoCard : Claim7 := { stood := { row := fnExactStockTextUptoRow, standIns := [], harness := (true, "11b7404ac3768075f23297c50384d48ea1f3caf4faa4ee47817ef96450eb5618"), looks := true }, kinds := [], alts := [], laidByText := true, laidKinds := [.data, .data, .data], laidTests := true, laidLooks := .later }
def FnExactStockTextUptoCardSaid : Prop := Claim7.holds Tryd.pinned (.plain (OpenSpec.upto fnExactStockTextSpec)) fnExactStockTextUptoCard
end Rows
end Go.Proofs.YtmhbpaijlbmmlaaDoor
