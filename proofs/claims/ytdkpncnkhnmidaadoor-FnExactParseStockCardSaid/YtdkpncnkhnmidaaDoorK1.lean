/-
  The stock's text: the library's builder in a loop, walked.
-/
import Derived.Test.YtdkpncnkhnmidaaDoorY0
import Derived.Test.YtdkpncnkhnmidaaDoorR1
import Derived.WalkKit
import Derived.BigCall
import Derived.BigGuard
import Derived.Deep.LoopGhost
import Derived.Deep.RegionWith
set_option linter.unusedSimpArgs false
set_option linter.unusedVariables false
namespace Go.Proofs.YtdkpncnkhnmidaaDoor
open Go.Ab Go.RowKit

def dS (n : Int) : ByteArray := ⟨(decS n).toArray⟩
theorem slT_eq (l : List (List Int)) (i : Nat) : (dS (fC l i) ++ ⟨#[120]⟩ ++ dS (fL l i) ++ ⟨#[32]⟩ : ByteArray).data.toList = slT (l.getD i []) := by
  simp [dS, slT, fC, fL]
theorem hidR {p : Prop} (h : p) : Hid p := h
theorem builder_keep {T e : TypeId} {B b : Nat} {bs : List Value} {w w' : World} (h : Lib.IsBuilder T e B b bs w) (hb : Below w.heap.size w w') : Lib.IsBuilder T e B b bs w' := by
  have one : ∀ p, Lib.BuilderAt T e B b p bs w → Lib.BuilderAt T e B b p bs w' := by
    rintro p ⟨h1, v, h2, h3, h4⟩
    refine ⟨h1, v, ?_, ?_, h4⟩
    · rw [hb.block b (Array.getElem?_eq_some_iff.1 h2).1]; exact h2
    · obtain ⟨hl, h0 | ⟨g, cap, cur, hv, hg, hh, r⟩⟩ := h3
      · exact ⟨hl, .inl h0⟩
      · exact ⟨hl, .inr ⟨g, cap, cur, hv, hg, by rw [hb.block g (Array.getElem?_eq_some_iff.1 hh).1]; exact hh, r⟩⟩
  exact h.elim (fun x => .inl (one _ x)) (fun x => .inr (one _ x))

/-- Since the round began (wr): block b holds the round's copy; what lay below b is as it was. -/
structure Rn (b : Nat) (wr W : World) (x y : Int) : Prop where
  c0 : W.cell? ⟨b, 0, none⟩ = some (.int .i64 x)
  c1 : W.cell? ⟨b, 1, none⟩ = some (.int .i64 y)
  bel : Below b wr W
  g : gW W
theorem Rn.drew {b : Nat} {wr W : World} {x y : Int} (h : Rn b wr W x y) : Rn b wr W.drew x y :=
  ⟨h.c0, h.c1, h.bel.drew, gW_st _ _ h.g (Below.drew (Below.refl _ _))⟩
theorem dS_size {n : Int} (h0 : -9223372036854775808 ≤ n) (h1 : n ≤ 9223372036854775807) : (dS n).size ≤ 21 := by
  have := Lib.itoa_length_le n h0 h1
  simpa [dS, decS, ByteArray.size] using this
theorem itoaR {b : Nat} {wr W : World} {x y n : Int} (hR : Rn b wr W x y) (h0 : -9223372036854775808 ≤ n) (h1 : n ≤ 9223372036854775807) :
    Calls Tryd.prog 23 #[.int .i64 n] W fun e w' => e = .returned (.string (dS n)) ∧ Rn b wr w' x y := by
  refine (Tryd.strconv_Itoa n h0 h1 W hR.g.1).mono ?_
  rintro e w' ⟨rfl, k, os, rfl⟩
  have hbl := Lib.below_grow W.heap.size W (Nat.le_refl _) k os
  have hlt : b < W.heap.size := World.block_lt_of_cell? _ _ hR.c0
  exact ⟨rfl, (hbl.cell (p := ⟨b, 0, none⟩) hlt).trans hR.c0, (hbl.cell (p := ⟨b, 1, none⟩) hlt).trans hR.c1, hR.bel.trans (hbl.mono (by omega)), gW_st _ _ hR.g hbl⟩

set_option maxHeartbeats 1000000 in
theorem walkT (l : List (List Int)) (a : Option Addr) (cap : Nat) (w : World) (hG : gW w) (hst : stB l = true)
    (ha : 0 < l.length → ∃ ad, a = some ad ∧ (∀ i, i < l.length → (ad.add (i * 2)).block < w.heap.size) ∧ (∀ i, i < l.length → w.cell? (ad.add (i * 2)) = some (.int .i64 (fL l i))) ∧
      ∀ i, i < l.length → w.cell? ⟨(ad.add (i * 2)).block, (ad.add (i * 2)).off + 1, none⟩ = some (.int .i64 (fC l i))) :
    Calls Tryd.prog 14 #[.slice a l.length cap] w fun e w' => e = .returned (.string ⟨(txS l).toArray⟩) ∧ Below w.heap.size w w' := by
  have h0 : Lib.IsBuilder 49 5 w.heap.size w.heap.size (Lib.byteCells []) (w.alloc (.cells #[.pointer none, .slice none 0 0] 49)) := Lib.fresh_isBuilder 49 5 w
  have b0 : Below w.heap.size w (w.alloc (.cells #[.pointer none, .slice none 0 0] 49)) := (Below.refl _ w).alloc (Nat.le_refl _) _
  have hl := stB_len hst
  have HA := hidR ha
  clear ha
  go_enter Tryd.func14, Tryd.ntmps14
  go_wp2
  go_loopg [8] l.length (fun g s8 wx => ∃ i : Nat, i + g = l.length ∧ s8 = .int .i64 i ∧ Hid (Lib.IsBuilder 49 5 w.heap.size w.heap.size (Lib.byteCells (txS (l.take i))) wx) ∧ Hid (Below w.heap.size w wx))
  case atStart => exact ⟨0, by omega, rfl, hidR (by simpa [txS] using h0), hidR b0⟩
  case round =>
    obtain ⟨i, hig, rfl, HB, HW⟩ := hrel
    have hBw : w.heap.size ≤ wr.heap.size := HW.out.size
    cases gk with
    | zero =>
      have hi : ¬ ((i : Int) < (l.length : Int)) := by omega
      have e2 : l.take i = l := List.take_of_length_le (by omega)
      rw [e2] at HB
      clear e2
      go_wp2_with fail
      refine (Tryd.Builder_String_any w.heap.size w.heap.size _ wr HB.out hBw).mono ?_
      rintro e w5 ⟨rfl, hb5⟩
      go_wp2
      go_ret
      exact ⟨rfl, HW.out.trans hb5⟩
    | succ g =>
      have hi : (i : Int) < (l.length : Int) := by omega
      obtain ⟨ad, rfl, hb, hc0, hc1⟩ := HA.out (by omega)
      have hlt := hb i (by omega)
      have c0 : wr.cell? (ad.add (i * 2)) = some (.int .i64 (fL l i)) := (HW.out.cell (p := ad.add (i * 2)) hlt).trans (hc0 i (by omega))
      have c1 : wr.cell? ⟨(ad.add (i * 2)).block, (ad.add (i * 2)).off + 1, none⟩ = some (.int .i64 (fC l i)) := (HW.out.cell (p := ⟨(ad.add (i * 2)).block, (ad.add (i * 2)).off + 1, none⟩) hlt).trans (hc1 i (by omega))
      go_wp2_with fail
      clear hb hc0 hc1 HA
      have hbd := stB_at hst (i := i) (by omega)
      obtain ⟨h1, h2, h3, h4⟩ := hbd
      have hR : Rn wr.heap.size wr (wr.alloc (.cells #[.int .i64 (fL l i), .int .i64 (fC l i)] 32)) (fL l i) (fC l i) :=
        ⟨by rw [World.cell?_alloc_new]; rfl, by rw [World.cell?_alloc_new]; rfl, (Below.refl _ _).alloc (Nat.le_refl _) _, gW_st _ _ (gW_st _ _ hG HW.out) ((Below.refl _ _).alloc (Nat.le_refl _) _)⟩
      generalize (wr.alloc (.cells #[.int .i64 (fL l i), .int .i64 (fC l i)] 32)) = W1 at hR ⊢
      have d0 := hR.c0
      have d1 := hR.c1
      have hw1 : w.heap.size ≤ wr.heap.size := HW.out.size
      have hx := txS_len hst i (by omega)
      have z0 := dS_size (n := fL l i) (by omega) (by omega)
      have z1 := dS_size (n := fC l i) (by omega) (by omega)
      go_region_with (first
        | (go_at_call 23; refine (itoaR (b := wr.heap.size) (wr := wr) (x := fL l i) (y := fC l i) ?_ ?_ ?_).mono ?_; (first | exact hR3 | exact hR2.drew | exact hR2 | exact hR.drew | exact hR); omega; omega; rintro e w' ⟨rfl, hR2⟩; have d2 := hR2.c0; have d3 := hR2.c1)
        | (go_at_call 22; refine (Tryd.Builder_WriteString w.heap.size w.heap.size _ _ _ (builder_keep HB.out hR2.bel) ?_ ?_).mono ?_; (rw [Lib.byteCells_length]; simp only [ByteArray.size_append, ByteArray.size_mk']; simp; omega); (have := hR2.bel.size; omega); rintro e w3 ⟨rfl, h3, hb3⟩))
      all_goals (
        have H3 : Hid (Lib.IsBuilder 49 5 w.heap.size w.heap.size (Lib.byteCells (txS (l.take (i + 1)))) w3) := by
          rw [Lib.strCells_eq, ← Lib.byteCells_append, slT_eq] at h3
          rw [txS_succ l i (by omega)]
          exact hidR (Or.inr h3)
        have Hb3 : Hid (Below w.heap.size w w3) := hidR ((HW.out.trans (hR2.bel.mono hw1)).trans hb3)
        clear h3 hb3 hR2 hR hx z0 z1 HB HW
        go_wp2
        go_roundg g
        case measure => omega
        case rel => exact ⟨i + 1, by omega, by first | rfl | (simp; unfold wrap64; omega), H3, Hb3⟩)
end Go.Proofs.YtdkpncnkhnmidaaDoor
