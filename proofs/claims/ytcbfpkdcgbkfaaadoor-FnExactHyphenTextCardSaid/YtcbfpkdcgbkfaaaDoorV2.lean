/-
  Hyphens in words: the library's functions on strings, as contracts.
-/
import Derived.Test.YtcbfpkdcgbkfaaaDoorV1
import Derived.Test.YtcbfpkdcgbkfaaaDoorSh
import Derived.Lib.AppendIntMem
set_option linter.unusedSimpArgs false
set_option linter.unusedVariables false
namespace Go.Proofs.YtcbfpkdcgbkfaaaDoor
open Go.Ab Go.RowKit

/-- The world's variable for the greatest length holds some number. -/
def gW (w : World) : Prop := ∃ m, w.cell? ⟨0, 0, none⟩ = some (.int .i64 m)
theorem gW_st : ∀ w w', gW w → Below w.heap.size w w' → gW w' := by
  rintro w w' ⟨m, hm⟩ hb
  exact ⟨m, (hb.cell (p := ⟨0, 0, none⟩) (World.block_lt_of_cell? _ _ hm)).trans hm⟩
theorem data_mk (l : List UInt8) : (⟨l.toArray⟩ : ByteArray).data.toList = l := by simp
theorem size_mk (l : List UInt8) : (⟨l.toArray⟩ : ByteArray).size = l.length := by show l.toArray.size = _; simp
theorem pre_ok (s p : List UInt8) : FC Tryd.prog 53 [.str s, .str p] (.bool (p.isPrefixOf s)) [] := by
  have hbd : ¬ Tryd.f53.body = none := by
    intro h
    have h2 : Tryd.f53.body.isNone = false := by kernel_rfl
    rw [h] at h2
    cases h2
  refine ⟨⟨Tryd.f53, Tryd.func53, (by decide +kernel), hbd⟩, fun w vals _ hv => ?_⟩
  match vals, hv with
  | [v, u], hv =>
    obtain ⟨hv, hu, _⟩ := hv
    obtain rfl : v = .string ⟨s.toArray⟩ := hv
    obtain rfl : u = .string ⟨p.toArray⟩ := hu
    refine (Tryd.strings_HasPrefix _ _ w).mono ?_
    rintro e w' ⟨rfl, rfl⟩
    refine ⟨_, [], rfl, Below.refl _ _, ⟨rfl, ?_, ?_, ?_⟩⟩
    · intro o loc E row h; cases h.1
    · intro o o' loc loc' E E' r r' h; cases h.1
    · simp [VR, Lib.hasPrefix]
theorem repl_ok (s : List UInt8) (hs : s.length ≤ 1048576) : FCG gW Tryd.prog 56 [.str s, .str [45], .str []] (.str (plainE s)) [] := by
  have hbd : ¬ Tryd.f56.body = none := by
    intro h
    have h2 : Tryd.f56.body.isNone = false := by kernel_rfl
    rw [h] at h2
    cases h2
  refine ⟨⟨Tryd.f56, Tryd.func56, (by decide +kernel), hbd⟩, fun w vals hG hv => ?_⟩
  obtain ⟨m, hm⟩ := hG
  match vals, hv with
  | [v, u, x], hv =>
    obtain ⟨hv, hu, hx, _⟩ := hv
    obtain rfl : v = .string ⟨s.toArray⟩ := hv
    obtain rfl : u = .string ⟨#[45]⟩ := hu
    obtain rfl : x = .string ⟨#[]⟩ := hx
    refine (Tryd.strings_ReplaceAll ⟨s.toArray⟩ ⟨#[45]⟩ ⟨#[]⟩ m w (by rw [size_mk]; omega) hm (by decide) ?_).mono ?_
    · have : (⟨#[]⟩ : ByteArray).size = 0 := rfl
      rw [size_mk, this]; omega
    · rintro e w' ⟨rfl, hb⟩
      refine ⟨_, [], rfl, hb, ⟨rfl, ?_, ?_, ?_⟩⟩
      · intro o loc E row h; cases h.1
      · intro o o' loc loc' E E' r r' h; cases h.1
      · show Value.string _ = _
        have e1 : (⟨#[45]⟩ : ByteArray).data.toList = [45] := rfl
        have e2 : (⟨#[]⟩ : ByteArray).data.toList = [] := rfl
        rw [data_mk, e1, e2, replAll_eq]
theorem spl_len : ∀ (n : Nat) (s : List UInt8), s.length ≤ n → (spl s).length = Lib.count s [45] + 1
  | n, s, hn => by
    rcases idx45 s with ⟨h1, h2⟩ | ⟨a, r, h1, h2, h3⟩
    · rw [Lib.count_miss h1, spl_none h2]; rfl
    · have hd : s.drop (a.length + ([45] : List UInt8).length) = r := by rw [h1]; simp
      rw [Lib.count_hit (by simp) h3, hd]
      match n, hn with
      | 0, hn => rw [h1] at hn; simp at hn
      | n + 1, hn =>
        have ih := spl_len n r (by rw [h1] at hn; simp at hn; omega)
        rw [h1, spl_hit r h2, List.length_cons, ih]; omega
theorem split_ok (s : List UInt8) (hs : s.length ≤ 1048576) : FCG gW Tryd.prog 43 [.str s, .str [45]] (.own 0 false) [(9, .strs (spl s))] := by
  have hbd : ¬ Tryd.f43.body = none := by
    intro h
    have h2 : Tryd.f43.body.isNone = false := by kernel_rfl
    rw [h] at h2
    cases h2
  refine ⟨⟨Tryd.f43, Tryd.func43, (by decide +kernel), hbd⟩, fun w vals hG hv => ?_⟩
  obtain ⟨m, hm⟩ := hG
  match vals, hv with
  | [v, u], hv =>
    obtain ⟨hv, hu, _⟩ := hv
    obtain rfl : v = .string ⟨s.toArray⟩ := hv
    obtain rfl : u = .string ⟨#[45]⟩ := hu
    refine (Tryd.strings_Split ⟨s.toArray⟩ ⟨#[45]⟩ m w (by rw [size_mk]; omega) hm (by decide)).mono ?_
    rintro e w' ⟨rfl, rfl⟩
    have hsp : (Lib.splitB ⟨#[45]⟩ 0 (Lib.countB ⟨s.toArray⟩ ⟨#[45]⟩) ⟨s.toArray⟩).map (·.data.toList) = spl s := by
      rw [Lib.splitB_data]
      have e1 : (⟨#[45]⟩ : ByteArray).data.toList = [45] := rfl
      have e3 : Lib.countB ⟨s.toArray⟩ ⟨#[45]⟩ = Lib.count s [45] := by
        show Lib.count _ _ = _
        rw [data_mk, e1]
      rw [e3, data_mk]
      exact splitK_eq _ s (Nat.le_refl _)
    have hct : Lib.countB ⟨s.toArray⟩ ⟨#[45]⟩ + 1 = (spl s).length := by
      have e1 : (⟨#[45]⟩ : ByteArray).data.toList = [45] := rfl
      have e3 : Lib.countB ⟨s.toArray⟩ ⟨#[45]⟩ = Lib.count s [45] := by
        show Lib.count _ _ = _
        rw [data_mk, e1]
      rw [e3]
      exact (spl_len _ s (Nat.le_refl _)).symm
    rw [hct]
    generalize Lib.splitB ⟨#[45]⟩ 0 (Lib.countB ⟨s.toArray⟩ ⟨#[45]⟩) ⟨s.toArray⟩ = xs at hsp ⊢
    have hval : xs.map Value.string = (spl s).map (fun s => Value.string ⟨s.toArray⟩) := by
      rw [← hsp, List.map_map]
      apply List.map_congr_left
      intro x _
      simp
    rw [hval]
    have hnl : nl (.strs (spl s)) = (spl s).length := rfl
    have hle : (spl s).length ≤ 1048578 := by
      rw [← hct]
      have := Lib.count_le s [45]
      have e3 : Lib.countB ⟨s.toArray⟩ ⟨#[45]⟩ = Lib.count s [45] := by
        show Lib.count _ _ = _
        rw [data_mk]
      omega
    refine ⟨_, [⟨w.heap.size, (spl s).length, false⟩], rfl, (Below.refl _ w).alloc (Nat.le_refl _) _, ⟨rfl, ?_, ?_, ?_⟩⟩
    · intro o loc E row h
      obtain ⟨h1, h2⟩ := h
      match o, h1, h2 with
      | 0, h1, h2 =>
        simp [rowsOf] at h1 h2
        obtain ⟨rfl, rfl⟩ := h1
        subst h2
        exact ⟨.inr ⟨rfl, .inl ⟨_, (spl s).map (fun t : List UInt8 => Value.string ⟨t.toArray⟩), heap_alloc_new w _, by simp, rfl, by simp, List.take_of_length_le (by simp)⟩⟩, fun _ => Nat.le_refl _⟩
      | o + 1, h1, _ => simp [rowsOf] at h1
    · intro o o' loc loc' E E' r r' h h' _ _ _
      have h1 := h.1
      have h2 := h'.1
      match o, o', h1, h2 with
      | 0, 0, _, _ => rfl
      | o + 1, _, h1, _ => simp [rowsOf] at h1
      | _, o + 1, _, h2 => simp [rowsOf] at h2
    · refine ⟨by simp [rowsOf], fun E r h => ?_⟩
      simp [rowsOf] at h
      obtain ⟨rfl, rfl⟩ := h
      exact ⟨_, rfl, .inr ⟨rfl, (spl s).length, rfl, by rw [hnl]; exact Nat.le_refl _, by simp [maxLen]; omega, by simp [wd]⟩⟩
end Go.Proofs.YtcbfpkdcgbkfaaaDoor
