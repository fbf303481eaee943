/-
  No cell of these rows narrows 'for every input' (looked for: loops, veiled, ifaces, maps, wideKeys, modest, calm, conditions, laid).
  DERIVED. THE GIVEN ROWS OF THIS SEAT. 3 by the template 'for every input the law returns true; each argument reads behind the call as it read before'; 0 by the template 'total and deterministic' (their statements: YtkldakljgfeloaaTotals.lean).
  GIVEN WITH THE SEED: the statements are not yours to turn. If you find one false, say at which input.
  Laid BY PROGRAM, IN A SANDBOX (cutbox-rows.mjs): the forced cells as the released guide's own fill.sh prints them over the translation 41de7d6041f24ce6… (all of the seat's roots in one cut). By AI agents, Wed Nov 11 2026. No macro, syntax, notation, axiom, sorry.
-/
import Derived.Test.YtkldakljgfeloaaChecked
import GoSem.Claim
import GoSem.ClaimJoined
import GoSem.ClaimMapViews
import Derived.JoinedTies
import Derived.KernelRfl
namespace Go.Proofs.Ytkldakljgfeloaa
/- THE CELL 'sum', in the pinned program and in every row, IS THE sha256 OF THE DUMP (.gsa) THAT YtkldakljgfeloaaProg.lean LOADS. Nothing in Lean hashes anything: it is a label: what it is worth is what the hold of that sum in a sandbox is worth. -/
noncomputable def Try.pinned : Pinned := { name := "ytkldakljgfeloaa", sum := "41de7d6041f24ce6806b7586ccc5ff69f841e4f6831e60401619a8d047dcb78f", checked := Try.checked }
namespace Rows
def none {H : Type} : Left H := { results := [], args := [] }

/-- 'laws.FnExactMedianOff': WHATEVER THE INPUT: true; the input reads as it did. -/
def fnExactMedianOffSpec : ChangeSpec := { name := "fnExactMedianOff", fn := fun _ => fun
  | [d] => { results := [.lit (.bool true)], args := [d] }
  | _ => none }
def fnExactMedianOffRow : OpenClaim := { program := "ytkldakljgfeloaa", sum := "41de7d6041f24ce6806b7586ccc5ff69f841e4f6831e60401619a8d047dcb78f", func := "loop.example/g01054/laws.FnExactMedianOff", spec := "fnExactMedianOff", recurses := true, apart := false }
def FnExactMedianOffSaid : Prop := fnExactMedianOffRow.holds Try.pinned (OpenSpec.ofChange fnExactMedianOffSpec)

/-- ITS FALSE NEIGHBOUR: 'it returns false'. Refute it at one input. -/
def fnExactMedianOffWrong : ChangeSpec := { name := "fnExactMedianOff", fn := fun _ => fun
  | [d] => { results := [.lit (.bool false)], args := [d] }
  | _ => none }
def FnExactMedianOffWrongFalsely : Prop := fnExactMedianOffRow.holds Try.pinned (OpenSpec.ofChange fnExactMedianOffWrong)

/-- 'laws.FnExactSpreadOff': WHATEVER THE INPUT: true; the input reads as it did. -/
def fnExactSpreadOffSpec : ChangeSpec := { name := "fnExactSpreadOff", fn := fun _ => fun
  | [d] => { results := [.lit (.bool true)], args := [d] }
  | _ => none }
def fnExactSpreadOffRow : OpenClaim := { program := "ytkldakljgfeloaa", sum := "41de7d6041f24ce6806b7586ccc5ff69f841e4f6831e60401619a8d047dcb78f", func := "loop.example/g01054/laws.FnExactSpreadOff", spec := "fnExactSpreadOff", recurses := true, apart := false }
def FnExactSpreadOffSaid : Prop := fnExactSpreadOffRow.holds Try.pinned (OpenSpec.ofChange fnExactSpreadOffSpec)

/-- ITS FALSE NEIGHBOUR: 'it returns false'. Refute it at one input. -/
def fnExactSpreadOffWrong : ChangeSpec := { name := "fnExactSpreadOff", fn := fun _ => fun
  | [d] => { results := [.lit (.bool false)], args := [d] }
  | _ => none }
def FnExactSpreadOffWrongFalsely : Prop := fnExactSpreadOffRow.holds Try.pinned (OpenSpec.ofChange fnExactSpreadOffWrong)

/-- 'laws.FnExactCorrectionFor': WHATEVER THE INPUT: true; the input reads as it did. -/
def fnExactCorrectionForSpec : ChangeSpec := { name := "fnExactCorrectionFor", fn := fun _ => fun
  | [d] => { results := [.lit (.bool true)], args := [d] }
  | _ => none }
def fnExactCorrectionForRow : OpenClaim := { program := "ytkldakljgfeloaa", sum := "41de7d6041f24ce6806b7586ccc5ff69f841e4f6831e60401619a8d047dcb78f", func := "loop.example/g01054/laws.FnExactCorrectionFor", spec := "fnExactCorrectionFor", recurses := true, apart := false }
def FnExactCorrectionForSaid : Prop := fnExactCorrectionForRow.holds Try.pinned (OpenSpec.ofChange fnExactCorrectionForSpec)

/-- ITS FALSE NEIGHBOUR: 'it returns false'. Refute it at one input. -/
def fnExactCorrectionForWrong : ChangeSpec := { name := "fnExactCorrectionFor", fn := fun _ => fun
  | [d] => { results := [.lit (.bool false)], args := [d] }
  | _ => none }
def FnExactCorrectionForWrongFalsely : Prop := fnExactCorrectionForRow.holds Try.pinned (OpenSpec.ofChange fnExactCorrectionForWrong)

/- THE SECOND FORM. 'bulk': how many values and letters a reading holds, each counted each time it is reached (what is shared counts as often as it is met; a slice's spare places count too). A statement '..UptoSaid' is the law's where the arguments, and the package variables that the reading takes, are together of bulk at most 1048576: NARROWER than '..Said'. Prove '..Said' where nothing that the law and all that it calls make is longer than what came in: it says more and counts as full. Else prove '..UptoSaid'. A law counts once. -/
mutual
def uptoBulk {H : Type} : DataW H → Nat
  | .lit (.string bytes) => bytes.length + 1
  | .lit _ => 1
  | .nil => 1
  | .ptr d => uptoBulk d + 1
  | .slice elems spare => uptoBulkAll elems + uptoBulkAll spare + 1
  | .agg parts => uptoBulkAll parts + 1
  | .iface _ d => uptoBulk d + 1
  | .map entries => uptoBulkEntries entries + 1
  | .held _ => 1
def uptoBulkAll {H : Type} : List (DataW H) → Nat
  | [] => 0
  | d :: r => uptoBulk d + uptoBulkAll r
def uptoBulkEntries {H : Type} : List (Lit × DataW H) → Nat
  | [] => 0
  | x :: r => uptoBulkEntry x + uptoBulkEntries r
def uptoBulkEntry {H : Type} : Lit × DataW H → Nat
  | (.string bytes, d) => bytes.length + uptoBulk d + 1
  | (_, d) => uptoBulk d + 1
 end
def uptoSmall : (H : Type) → List (DataW H) → Bool := fun _ ds => decide (uptoBulkAll ds ≤ 1048576)
def OpenSpec.upto (s : _root_.Go.ChangeSpec) : _root_.Go.OpenSpec := { _root_.Go.OpenSpec.ofChange s with cond := some uptoSmall }

/-- 'laws.FnExactMedianOff', WHERE WHAT IT READS IS OF BULK AT MOST 1048576: true; the input reads as it did. -/
def fnExactMedianOffUptoRow : OpenClaim := { program := "ytkldakljgfeloaa", sum := "41de7d6041f24ce6806b7586ccc5ff69f841e4f6831e60401619a8d047dcb78f", func := "loop.example/g01054/laws.FnExactMedianOff", spec := "fnExactMedianOff", recurses := true, apart := false, narrowed := true }
def FnExactMedianOffUptoSaid : Prop := fnExactMedianOffUptoRow.holds Try.pinned (OpenSpec.upto fnExactMedianOffSpec)

/-- 'laws.FnExactSpreadOff', WHERE WHAT IT READS IS OF BULK AT MOST 1048576: true; the input reads as it did. -/
def fnExactSpreadOffUptoRow : OpenClaim := { program := "ytkldakljgfeloaa", sum := "41de7d6041f24ce6806b7586ccc5ff69f841e4f6831e60401619a8d047dcb78f", func := "loop.example/g01054/laws.FnExactSpreadOff", spec := "fnExactSpreadOff", recurses := true, apart := false, narrowed := true }
def FnExactSpreadOffUptoSaid : Prop := fnExactSpreadOffUptoRow.holds Try.pinned (OpenSpec.upto fnExactSpreadOffSpec)

/-- 'laws.FnExactCorrectionFor', WHERE WHAT IT READS IS OF BULK AT MOST 1048576: true; the input reads as it did. -/
def fnExactCorrectionForUptoRow : OpenClaim := { program := "ytkldakljgfeloaa", sum := "41de7d6041f24ce6806b7586ccc5ff69f841e4f6831e60401619a8d047dcb78f", func := "loop.example/g01054/laws.FnExactCorrectionFor", spec := "fnExactCorrectionFor", recurses := true, apart := false, narrowed := true }
def FnExactCorrectionForUptoSaid : Prop := fnExactCorrectionForUptoRow.holds Try.pinned (OpenSpec.upto fnExactCorrectionForSpec)

end Rows
end Go.Proofs.Ytkldakljgfeloaa
