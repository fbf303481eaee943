/-
  DERIVED. GIVEN WITH THE SEED: THE CARDS: each row of YtjkkjfnkcfaigaaDoorRows.lean that lists a variable, with what it lists TIED to the program's text (the seventh form; the later family's looks); each row that meets fmt, with fmt's text TOLD by the authors' own Lean function (tested against real Go, not proved from fmt's source: count such statements apart). THE CARD IS WHAT COUNTS. Prove the row's statement (the work); the ties are given (YtjkkjfnkcfaigaaDoorTie.lean); close each card by the builder's one call (the guide's Derived/Test/ToyasCard.lean, 'card_holds'). Laid BY PROGRAM, IN A SANDBOX (cutbox-door.mjs). By AI agents, Wed Nov 11 2026. No macro, syntax, notation, axiom, sorry.
-/
import Derived.Test.YtjkkjfnkcfaigaaDoorRows
import GoSem.ClaimSeven
namespace Go.Proofs.YtjkkjfnkcfaigaaDoor
namespace Rows

/-- THE TIED CARD OF 'laws.FnExactSpacesText'. -/
def fnExactSpacesTextCard : Claim7 := { stood := { row := fnExactSpacesTextRow, standIns := [], harness := (true, "b1d084ee36fbcbc25b94beaf4f19c4168c7c766ddd104cded9ae9bf0fee93c5c"), looks := false }, kinds := [], alts := [], laidByText := true, laidKinds := [.data, .data, .data], laidTests := true, laidLooks := .later }
def FnExactSpacesTextCardSaid : Prop := Claim7.holds Tryd.pinned (.plain (OpenSpec.ofChange fnExactSpacesTextSpec)) fnExactSpacesTextCard

/-- THE SECOND FORM's CARD OF 'laws.FnExactSpacesText'. -/
def fnExactSpacesTextUptoCard : Claim7 := { stood := { row := fnExactSpacesTextUptoRow, standIns := [], harness := (true, "b1d084ee36fbcbc25b94beaf4f19c4168c7c766ddd104cded9ae9bf0fee93c5c"), looks := false }, kinds := [], alts := [], laidByText := true, laidKinds := [.data, .data, .data], laidTests := true, laidLooks := .later }
def FnExactSpacesTextUptoCardSaid : Prop := Claim7.holds Tryd.pinned (.plain (OpenSpec.upto fnExactSpacesTextSpec)) fnExactSpacesTextUptoCard
end Rows
end Go.Proofs.YtjkkjfnkcfaigaaDoor
