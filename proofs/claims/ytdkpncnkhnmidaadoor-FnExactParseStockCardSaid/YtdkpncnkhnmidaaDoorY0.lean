/-
  The number's decimal text: the library's, by its contract.
-/
import Derived.Test.YtdkpncnkhnmidaaDoorUd
import Derived.Test.YtdkpncnkhnmidaaDoorSh
import Derived.Lib.AppendIntMem
import Derived.Lib.LaidTab
set_option linter.unusedSimpArgs false
set_option linter.unusedVariables false
namespace Go.Proofs.YtdkpncnkhnmidaaDoor
open Go.Ab Go.RowKit

/-- The variable at block g holds some interface. -/
def eW (g : Nat) (w : World) : Prop := ∃ ev, w.cell? ⟨g, 0, none⟩ = some ev ∧ (ev = .nilIface ∨ ∃ te pe, ev = .iface te pe)
theorem eW_st (g : Nat) : ∀ w w', eW g w → Below w.heap.size w w' → eW g w' := by
  rintro w w' ⟨ev, hm, h⟩ hb
  exact ⟨ev, (hb.cell (p := ⟨g, 0, none⟩) (World.block_lt_of_cell? _ _ hm)).trans hm, h⟩
/-- The world holds the library's table; its two errors hold some interface. -/
def gW (w : World) : Prop := Lib.TabIs Tryd.prog w "internal/strconv.uint64pow10" .u64 Lib.pow10Tab ∧ eW 0 w ∧ eW 1 w
theorem gW_st : ∀ w w', gW w → Below w.heap.size w w' → gW w' := fun w w' h hb => ⟨Lib.tabBelow_of_tabIs h.1 w' hb, eW_st 0 _ _ h.2.1 hb, eW_st 1 _ _ h.2.2 hb⟩
theorem itoa_ok (n : Int) (h0 : -9223372036854775808 ≤ n) (h1 : n ≤ 9223372036854775807) : FCG gW Tryd.prog 23 [.int .i64 n] (.str (decS n)) [] := by
  have hbd : ¬ Tryd.f23.body = none := by
    intro h
    have h2 : Tryd.f23.body.isNone = false := by kernel_rfl
    rw [h] at h2
    cases h2
  refine ⟨⟨Tryd.f23, Tryd.func23, (by decide +kernel), hbd⟩, fun w vals hw hv => ?_⟩
  match vals, hv with
  | [v], hv =>
    obtain ⟨hv, _⟩ := hv
    obtain rfl : v = .int .i64 n := hv
    refine (Tryd.strconv_Itoa n h0 h1 w hw.1).mono ?_
    rintro e w' ⟨rfl, k, os, rfl⟩
    refine ⟨_, [], rfl, Lib.below_grow _ _ (Nat.le_refl _) k os, ⟨rfl, ?_, ?_, rfl⟩⟩
    · intro o loc E row h; cases h.1
    · intro o o' loc loc' E E' r r' kk h; cases h.1
end Go.Proofs.YtdkpncnkhnmidaaDoor
