/-
  The frame of the tied statement: what the law's function is handed is read as lists and numbers, the library's tables off the row's list; its contract is then the statement; the card by the given tie.
-/
import Derived.Test.YtdkpncnkhnmidaaDoorCards
import Derived.Test.YtdkpncnkhnmidaaDoorTie
import Derived.WalkKit
import Derived.ProofKit
import Derived.OpenShut
import Derived.ShutString
import Derived.ChangeOld
import Derived.Below
import Derived.Deep.DeepHandedRow
import Derived.Lib.LaidTab
import Derived.Stop.LaidErr
import Derived.Deep.DeepLaidRun
import Derived.Test.YtdkpncnkhnmidaaDoorU9
import Derived.Test.YtdkpncnkhnmidaaDoorAb20
namespace Go.Proofs.YtdkpncnkhnmidaaDoor.fnExactParseStock
open Go.Ab (IsRow)
open Go.ChangeShapes Go.WideShapes Go.ChangeAt Go.RowKit
open Go.ChangeMaps (open_string shut_string)
set_option linter.unusedVariables false

theorem own : ownKnob Tryd.prog.godebug = none := by kernel_rfl
theorem laidOut : laidOutB Tryd.prog = true := by kernel_rfl

theorem typeE (u : TypeId) (h : Tryd.prog.typeName? 3 u = some "*errors.errorString") : u = 81 :=
  typeName_ptr_named (nm := "errors.errorString") (by rw [show "*" ++ "errors.errorString" = "*errors.errorString" by decide]; kernel_rfl) (by kernel_rfl) (by decide) u (by rw [show "*" ++ "errors.errorString" = "*errors.errorString" by decide]; exact h)
theorem cellsT : Tryd.prog.cellsOf 86 = 20 := by kernel_rfl
theorem cellsE : Tryd.prog.cellsOf 67 = 1 := by kernel_rfl
theorem cellsS : Tryd.prog.cellsOf 9 = 1 := by kernel_rfl
theorem cellsR : Tryd.prog.cellsOf 83 = 1 := by kernel_rfl
theorem gTab : Tryd.prog.globalNamed "internal/strconv.uint64pow10" = some 2 := by kernel_rfl
theorem gTabType : (Tryd.prog.globals[2]?).map (·.type) = some 86 := by kernel_rfl
theorem gSyn : Tryd.prog.globalNamed "strconv.ErrSyntax" = some 0 := by kernel_rfl
theorem gSynType : (Tryd.prog.globals[0]?).map (·.type) = some 43 := by kernel_rfl
theorem gRng : Tryd.prog.globalNamed "strconv.ErrRange" = some 1 := by kernel_rfl
theorem gRngType : (Tryd.prog.globals[1]?).map (·.type) = some 43 := by kernel_rfl
theorem gOf {W : World} (hH : laidMetH Tryd.prog Rows.fnExactParseStockRow.laid W) : Go.Proofs.YtdkpncnkhnmidaaDoor.gW W := by
  have h : laidMet Tryd.prog Rows.fnExactParseStockRow.laid W := hH
  have h2 := h.tail.tail
  refine ⟨Lib.tabIs_of_head (zs := Lib.pow10Tab) gTab gTabType Tryd.underlying86 Tryd.underlying67 cellsE cellsT h2, ?_, ?_⟩
  · obtain ⟨a0, s0, hv0, -, -, -⟩ := laid_sentinel h2.tail.tail gSyn gSynType Tryd.underlying43 typeE Tryd.underlying81 Tryd.underlying83 rfl rfl Tryd.underlying9 cellsR cellsS
    exact ⟨_, by have h0 := World.var?_cell gSyn hv0 0; simpa using h0, .inr ⟨_, _, rfl⟩⟩
  · obtain ⟨a0, s0, hv0, -, -, -⟩ := laid_sentinel h2.tail gRng gRngType Tryd.underlying43 typeE Tryd.underlying81 Tryd.underlying83 rfl rfl Tryd.underlying9 cellsR cellsS
    exact ⟨_, by have h0 := World.var?_cell gRng hv0 0; simpa using h0, .inr ⟨_, _, rfl⟩⟩
/-- The cells of a listed table. -/
def lit1 : DataW Unit → List Value
  | .lit (.int k n) => [.int k n]
  | _ => []
def lit2 : DataW Unit → List Value
  | .agg l => l.flatMap lit1
  | d => lit1 d
def lit3 : DataW Unit → List Value
  | .agg l => l.flatMap lit2
  | d => lit1 d

theorem walk (a0 : ByteArray) (w : World) (hG : Go.Proofs.YtdkpncnkhnmidaaDoor.gW w) (w0 : a0.size ≤ maxLen) :
    Calls Tryd.prog 3 #[.string a0] w fun e w' => e = .returned (.bool true) ∧ Below w.heap.size w w' :=
  Go.Ab.law_walkG hG (Go.Proofs.YtdkpncnkhnmidaaDoor.lawParseStock a0.data.toList  ) ⟨rfl, trivial⟩

set_option maxRecDepth 100000 in
theorem contract (H : Type) (enc : TypeId × Value → H) (W : World) (base : Nat) (args : Array Value) (ds gs : List (DataW H)) (before : List MemPlace)
    (hval0 : ∀ (j : Nat) t v, Tryd.f3.params[j]? = some t → args[j]? = some v → Value.okWide Tryd.prog W .any base t v)
    (hW : DataW.Whole enc Tryd.prog Tryd.f3.params.toList Rows.fnExactParseStockSpec.vars false W args.toList ds gs before) (hL : laidMetH Tryd.prog Rows.fnExactParseStockRow.laid W) :
    Calls Tryd.prog 3 args W fun e W' => ∃ v, e = .returned v ∧ Rows.fnExactParseStockSpec.post enc Tryd.prog Tryd.f3 false true false false W args v W' := by
  have hval : ∀ (j : Nat) t v, Tryd.f3.params[j]? = some t → args[j]? = some v → Value.okWide Tryd.prog W .any base t v := hval0
  have hW' := hW
  obtain ⟨p, q, hA0, hV, rfl, hfz, hnd⟩ := hW
  have hA : DataW.TrodAll enc Tryd.prog W 0 (fun _ => true) true Tryd.f3.params.toList args.toList ds p := hA0
  rw [Tryd.params3] at hA hval
  obtain ⟨v0, vs0, d0, ds0, p0, q0, hargs, rfl, rfl, h0, r0⟩ := trodAll_cons hA
  obtain ⟨rfl, rfl, rfl⟩ := trodAll_nil r0
  obtain rfl : args = #[v0] := by cases args; simp_all
  obtain ⟨rfl, rfl⟩ := trodVars_none hV
  obtain ⟨a0, rfl, rfl, rfl, w0⟩ := open_string Tryd.underlying9 (hval 0 9 v0 rfl rfl) h0
  clear hA0 hval0
  refine (walk a0 W (gOf hL) w0).mono fun e W' ⟨he, bel⟩ => ?_
  subst he
  exact ⟨_, rfl, _, _, _, [], _, [], hW', trodAll_mk1 (shut_bool Tryd.underlying4 _), (trodAll_cons_mk (shut_string Tryd.underlying9 w0) trodAll_mk0), rfl, bel.frame _, fun h => by cases h⟩

abbrev synS : ByteArray := { data := #[105, 110, 118, 97, 108, 105, 100, 32, 115, 121, 110, 116, 97, 120] }
abbrev rngS : ByteArray := { data := #[118, 97, 108, 117, 101, 32, 111, 117, 116, 32, 111, 102, 32, 114, 97, 110, 103, 101] }
/-- So many blocks has the settled world. -/
noncomputable def low : Nat := (World.holding Tryd.prog default ⟨#[], #[], []⟩).heap.size
noncomputable def laidWorld (os : Os) : World :=
  (fun W : World => { W with heap := W.heap.modify 3 fun
      | .cells _ t frozen => .cells (lit3 Rows.laid_math_bits_deBruijn32tab).toArray t frozen
      | o => o }) <| (fun W : World => { W with heap := W.heap.modify 4 fun
      | .cells _ t frozen => .cells (lit3 Rows.laid_math_bits_deBruijn64tab).toArray t frozen
      | o => o }) <| (fun W : World => { W with heap := W.heap.modify 2 fun
      | .cells _ t frozen => .cells (lit3 Rows.laid_internal_strconv_uint64pow10).toArray t frozen
      | o => o }) <| (fun W : World => { W with heap := W.heap.modify 1 fun
      | .cells _ t frozen => .cells #[.iface 81 (.pointer (some ⟨low + 1, 0, none⟩))] t frozen
      | o => o }) <| (fun W : World => { W with heap := W.heap.modify 0 fun
      | .cells _ t frozen => .cells #[.iface 81 (.pointer (some ⟨low + 0, 0, none⟩))] t frozen
      | o => o }) <| World.holding Tryd.prog os ⟨#[.cells #[.string synS] 83, .cells #[.string rngS] 83], #[], []⟩
theorem laid_met (os : Os) : laidMet Tryd.prog Rows.fnExactParseStockRow.laid ((laidWorld os).forCall (fun _ _ => 0) ⟨#[], #[.string ByteArray.empty], []⟩).memory :=
  laidMet_of_run3 8 (by kernel_rfl) (by kernel_rfl) (by kernel_rfl)
theorem reads (os : Os) {H : Type} (enc : TypeId × Value → H) : ∃ places, DataW.whole enc Tryd.prog ((laidWorld os).forCall (fun _ _ => 0) ⟨#[], #[.string ByteArray.empty], []⟩).memory Tryd.f3.params.toList Rows.fnExactParseStockSpec.vars false (#[.string ByteArray.empty] : Array Value).toList 8 = some ([.lit (.string [])], [], places) :=
  ⟨[], by kernel_rfl⟩

set_option maxRecDepth 100000 in
theorem lifted (os : Os) (started : os.Started) (H : Type) (enc : TypeId × Value → H) (F : Stop.Interp) :
    ReturnsInHanded {} Tryd.checked os 3 .any ((OpenSpec.ofChange Rows.fnExactParseStockSpec).preRow enc Tryd.prog Tryd.f3 Rows.fnExactParseStockRow.domain false Rows.fnExactParseStockRow.laid) (((OpenSpec.ofChange Rows.fnExactParseStockSpec).at F).post enc Tryd.prog Tryd.f3 false true false false) := by
  obtain ⟨places, hx⟩ := reads os enc
  refine returnsInHanded_of_row (C := Tryd.checked) (s := OpenSpec.ofChange Rows.fnExactParseStockSpec) own started (by kernel_rfl) Tryd.func3
    (witness_row_at (enc := enc) (C := Tryd.checked) false (laidWorld os) #[.string ByteArray.empty] rfl (by kernel_rfl) (by kernel_rfl) (by kernel_rfl)
      (OpenSpec.preRow_of_cond 8 hx (by kernel_rfl) (fun k hk => by cases hk) (by kernel_rfl) (laid_met os))) ?_
  intro W base args ds gs before hval hW _ _ _ hL _ _
  exact contract H enc W base args ds gs before hval hW hL

theorem said : Rows.FnExactParseStockSaid :=
  OpenClaim.holds_of_cond 3 Tryd.f3 rfl rfl rfl rfl rfl rfl rfl ⟨rfl, rfl, rfl, rfl, rfl⟩ rfl rfl rfl rfl rfl (by kernel_rfl) Tryd.func3 (by kernel_rfl)
    (of_decide_eq_true (by kernel_rfl)) (by unfold Func.isWrapper; first | (rw [if_pos (by decide +kernel)]; kernel_rfl) | (rw [if_neg (by decide +kernel)]; exact ⟨rfl, rfl⟩))
    (fun os started H enc _ F => by rw [OpenClaim.pre_eq_preRow]; exact lifted os started H enc F)

theorem plain (f : FuncId) (fn : Func) (hf : Tryd.pinned.checked.prog.funcNamed "loop.example/g01054/laws.FnExactParseStock" = some f) (hfn : Tryd.pinned.checked.prog.funcs[f]? = some fn) :
    true = Tryd.pinned.checked.prog.looks [] ∧ ∀ (j : Nat) t, fn.params[j]? = some t → Tryd.pinned.checked.prog.wantsStandIn t = false := by
  obtain rfl : f = 3 := Option.some.inj ((show Tryd.prog.funcNamed "loop.example/g01054/laws.FnExactParseStock" = some 3 by kernel_rfl).symm.trans hf) |>.symm
  obtain rfl : fn = Tryd.f3 := (Option.some.inj (Tryd.func3.symm.trans hfn)).symm
  refine ⟨by kernel_rfl, fun j t ht => ?_⟩
  rw [Tryd.params3] at ht
  obtain rfl : t = 9 := by have := Array.mem_of_getElem? ht; simpa using this
  · exact (show Tryd.prog.wantsStandIn 9 = false by kernel_rfl)

theorem proved : Rows.FnExactParseStockCardSaid :=
  Claim7.holds_tied_plain_at .later [] _ _ _ _ said (fun _ h => by cases h) (by kernel_rfl) (fun _ h => by cases h) fnExactParseStock_row_tie rfl ⟨rfl, rfl⟩ (by kernel_rfl) rfl plain (by kernel_rfl)
end Go.Proofs.YtdkpncnkhnmidaaDoor.fnExactParseStock
