/-
  The stock's text, as a contract.
-/
import Derived.Test.YtdkpncnkhnmidaaDoorK1
set_option linter.unusedSimpArgs false
set_option linter.unusedVariables false
namespace Go.Proofs.YtdkpncnkhnmidaaDoor
open Go.Ab Go.RowKit

theorem cells2 : ∀ (l : List (List Int)), rec2 l → ∀ i, i < l.length →
    (l.flatMap (fun x => x.map (Value.int .i64)))[i * 2]? = some (.int .i64 (fL l i)) ∧ (l.flatMap (fun x => x.map (Value.int .i64)))[i * 2 + 1]? = some (.int .i64 (fC l i))
  | [], _, i, hi => by simp at hi
  | x :: r, h, i, hi => by
    obtain ⟨a, b, rfl⟩ : ∃ a b, x = [a, b] := by
      have := h x (by simp)
      match x, this with
      | [a, b], _ => exact ⟨a, b, rfl⟩
    cases i with
    | zero => simp [fL, fC]
    | succ i =>
      have ih := cells2 r (fun y hy => h y (by simp [hy])) i (by simpa using hi)
      have e1 : (i + 1) * 2 = i * 2 + 2 := by omega
      simp only [List.flatMap_cons, List.map_cons, List.map_nil, List.cons_append, List.nil_append, e1]
      exact ih
theorem add_one (ad : Addr) (k : Nat) : (⟨(ad.add k).block, (ad.add k).off + 1, none⟩ : Addr) = ad.add (k + 1) := by
  unfold Addr.add
  by_cases h : k = 0
  · simp [h]
  · simp [h]; omega
theorem stockTxt_ok (l : List (List Int)) (h2 : rec2 l) (hst : stB l = true) : FCG gW Tryd.prog 14 [.ro (.recs 2 l)] (.str (txS l)) [] := by
  have hbd : ¬ Tryd.f14.body = none := by
    intro h
    have h2 : Tryd.f14.body.isNone = false := by kernel_rfl
    rw [h] at h2
    cases h2
  refine ⟨⟨Tryd.f14, Tryd.func14, (by decide +kernel), hbd⟩, fun w vals hw hv => ?_⟩
  match vals, hv with
  | [v], hv =>
    obtain ⟨hv, _⟩ := hv
    obtain ⟨a, cap, cs, rfl, hc1, hc2, hr, ha⟩ : ROw w (fun _ => True) (.recs 2 l) v := hv
    obtain ⟨_, rfl⟩ := hr
    have hn : nl (.recs 2 l) = l.length := rfl
    rw [hn] at ha ⊢
    refine (walkT l a cap w hw hst (fun hp => ?_)).mono ?_
    · obtain ⟨ad, h1, h3, _, h4⟩ := ha hp
      refine ⟨ad, h1, fun i hi => by rw [add_block]; exact h3, fun i hi => h4 _ _ (cells2 l h2 i hi).1, fun i hi => ?_⟩
      rw [add_one]; exact h4 (i * 2 + 1) _ (cells2 l h2 i hi).2
    · rintro e w' ⟨rfl, hb⟩
      refine ⟨_, [], rfl, hb, ⟨rfl, ?_, ?_, rfl⟩⟩
      · intro o loc E row h; cases h.1
      · intro o o' loc loc' E E' r r' kk h; cases h.1

end Go.Proofs.YtdkpncnkhnmidaaDoor
