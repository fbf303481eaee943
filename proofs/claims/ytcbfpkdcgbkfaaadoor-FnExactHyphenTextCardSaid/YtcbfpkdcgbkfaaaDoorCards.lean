/-
  DERIVED. GIVEN WITH THE SEED: THE CARDS: each row of YtcbfpkdcgbkfaaaDoorRows.lean that lists a variable, with what it lists TIED to the program's text (the seventh form; the later family's looks); each row that meets fmt, with fmt's text TOLD by the authors' own Lean function (tested against real Go, not proved from fmt's source: count such statements apart). THE CARD IS WHAT COUNTS. Prove the row's statement (the work); the ties are given (YtcbfpkdcgbkfaaaDoorTie.lean); close each card by the builder's one call (the guide's Derived/Test/ToyasCard.lean, 'card_holds'). Laid BY PROGRAM, IN A SANDBOX (cutbox-door.mjs). By AI agents, Wed Nov 11 2026. No macro, syntax, notation, axiom, sorry.
-/
import Derived.Test.YtcbfpkdcgbkfaaaDoorRows
import GoSem.ClaimSeven
namespace Go.Proofs.YtcbfpkdcgbkfaaaDoor
namespace Rows

/-- THE TIED CARD OF 'laws.FnExactMayBreakAt'. -/
def fnExactMayBreakAtCard : Claim7 := { stood := { row := fnExactMayBreakAtRow, standIns := [], harness := (true, "d3407774530c5c56892451ab9c22aa7aba7baae67f89352e9498bd5a8acd2226"), looks := false }, kinds := [], alts := [], laidByText := true, laidKinds := [.data, .pinned], laidTests := true, laidLooks := .later }
def FnExactMayBreakAtCardSaid : Prop := Claim7.holds Tryd.pinned (.plain (OpenSpec.ofChange fnExactMayBreakAtSpec)) fnExactMayBreakAtCard

/-- THE TIED CARD OF 'laws.FnExactHyphenText'. -/
def fnExactHyphenTextCard : Claim7 := { stood := { row := fnExactHyphenTextRow, standIns := [], harness := (true, "d3407774530c5c56892451ab9c22aa7aba7baae67f89352e9498bd5a8acd2226"), looks := false }, kinds := [], alts := [], laidByText := true, laidKinds := [.data, .pinned], laidTests := true, laidLooks := .later }
def FnExactHyphenTextCardSaid : Prop := Claim7.holds Tryd.pinned (.plain (OpenSpec.ofChange fnExactHyphenTextSpec)) fnExactHyphenTextCard

/-- THE TIED CARD OF 'laws.FnExactLastPlaceWithin'. -/
def fnExactLastPlaceWithinCard : Claim7 := { stood := { row := fnExactLastPlaceWithinRow, standIns := [], harness := (true, "d3407774530c5c56892451ab9c22aa7aba7baae67f89352e9498bd5a8acd2226"), looks := false }, kinds := [], alts := [], laidByText := true, laidKinds := [.data, .pinned], laidTests := true, laidLooks := .later }
def FnExactLastPlaceWithinCardSaid : Prop := Claim7.holds Tryd.pinned (.plain (OpenSpec.ofChange fnExactLastPlaceWithinSpec)) fnExactLastPlaceWithinCard

/-- THE SECOND FORM's CARD OF 'laws.FnExactMayBreakAt'. -/
def fnExactMayBreakAtUptoCard : Claim7 := { stood := { row := fnExactMayBreakAtUptoRow, standIns := [], harness := (true, "d3407774530c5c56892451ab9c22aa7aba7baae67f89352e9498bd5a8acd2226"), looks := false }, kinds := [], alts := [], laidByText := true, laidKinds := [.data, .pinned], laidTests := true, laidLooks := .later }
def FnExactMayBreakAtUptoCardSaid : Prop := Claim7.holds Tryd.pinned (.plain (OpenSpec.upto fnExactMayBreakAtSpec)) fnExactMayBreakAtUptoCard

/-- THE SECOND FORM's CARD OF 'laws.FnExactHyphenText'. -/
def fnExactHyphenTextUptoCard : Claim7 := { stood := { row := fnExactHyphenTextUptoRow, standIns := [], harness := (true, "d3407774530c5c56892451ab9c22aa7aba7baae67f89352e9498bd5a8acd2226"), looks := false }, kinds := [], alts := [], laidByText := true, laidKinds := [.data, .pinned], laidTests := true, laidLooks := .later }
def FnExactHyphenTextUptoCardSaid : Prop := Claim7.holds Tryd.pinned (.plain (OpenSpec.upto fnExactHyphenTextSpec)) fnExactHyphenTextUptoCard

/-- THE SECOND FORM's CARD OF 'laws.FnExactLastPlaceWithin'. -/
def fnExactLastPlaceWithinUptoCard : Claim7 := { stood := { row := fnExactLastPlaceWithinUptoRow, standIns := [], harness := (true, "d3407774530c5c56892451ab9c22aa7aba7baae67f89352e9498bd5a8acd2226"), looks := false }, kinds := [], alts := [], laidByText := true, laidKinds := [.data, .pinned], laidTests := true, laidLooks := .later }
def FnExactLastPlaceWithinUptoCardSaid : Prop := Claim7.holds Tryd.pinned (.plain (OpenSpec.upto fnExactLastPlaceWithinSpec)) fnExactLastPlaceWithinUptoCard
end Rows
end Go.Proofs.YtcbfpkdcgbkfaaaDoor
