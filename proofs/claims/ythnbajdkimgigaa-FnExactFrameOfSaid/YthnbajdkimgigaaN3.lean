/-
  Tables marked through their rows: walked.
-/
import Derived.Test.YthnbajdkimgigaaN2
import Derived.WalkKit
import Derived.BigCall
import Derived.BigGuard
import Derived.Deep.LoopGhost
import Derived.Deep.RegionWith
set_option linter.unusedSimpArgs false
set_option linter.unusedVariables false
namespace Go.Proofs.Ythnbajdkimgigaa
open Go.Ab Go.RowKit

theorem hidM {p : Prop} (h : p) : Hid p := h
theorem totL_take (a : List (List Int)) (i : Nat) (h : i < a.length) : totL (a.take (i + 1)) = totL (a.take i) + (a.getD i []).length := by
  have app : ∀ p q : List (List Int), totL (p ++ q) = totL p + totL q := by
    intro p
    induction p with
    | nil => intro q; simp [totL]
    | cons x p ih => intro q; simp only [List.cons_append, totL, ih q]; omega
  rw [take_getD [] a i h, app]
  simp [totL]
/-- The walk: what holds ahead of row i, holds behind it of row i + 1. -/
theorem walkM (a : List (List Int)) (k : Int) (ha : smT a) (hk : 0 ≤ k ∧ k ≤ 1000000) (x : Option Addr) (cap : Nat) (w : World) (Pr : Nat → World → Prop) (h0 : Pr 0 w)
    (hstep : ∀ (i : Nat) (wr : World), i < a.length → Pr i wr → ∃ ad v, x = some ad ∧ wr.cell? (ad.add i) = some v ∧
      Calls Try.prog 18 #[v, .int .i64 (k + totL (a.take i))] wr fun e w' => e = .returned (.int .i64 (k + totL (a.take (i + 1)))) ∧ Pr (i + 1) w') :
    Calls Try.prog 12 #[.slice x a.length cap, .int .i64 k] w fun e w' => e = .returned (.int .i64 (k + totL a)) ∧ Pr a.length w' := by
  have hl := ha.1
  have HS := hidM hstep
  clear hstep
  have HP := hidM h0
  clear h0
  go_enter Try.func12, Try.ntmps12
  go_wp2
  go_loopg [1, 5] a.length (fun g s1 s5 wx => ∃ i : Nat, i + g = a.length ∧ s5 = .int .i64 i ∧ s1 = .int .i64 (k + totL (a.take i)) ∧ Hid (Pr i wx))
  case atStart => exact ⟨0, by omega, rfl, by simp [totL], HP⟩
  case round =>
    obtain ⟨i, hig, rfl, rfl, HB⟩ := hrel
    cases gk with
    | zero =>
      have hi : ¬ ((i : Int) < (a.length : Int)) := by omega
      have hie : i = a.length := by omega
      go_wp2_with fail
      go_ret
      have e2 : a.take i = a := List.take_of_length_le (by omega)
      refine ⟨?_, by rw [← hie]; exact HB.out⟩
      simp [e2]
    | succ g =>
      have hi : (i : Int) < (a.length : Int) := by omega
      obtain ⟨ad, v, rfl, hc, hcall⟩ := HS.out i wr (by omega) HB.out
      clear HS HP
      go_wp2_with (go_at_call 18; refine hcall.mono ?_; rintro e w5 ⟨rfl, HP5⟩)
      go_roundg g
      case measure => omega
      case rel => exact ⟨i + 1, by omega, by first | rfl | (simp; unfold wrap64; omega), rfl, hidM HP5⟩
/-- The first i rows marked. -/
def mixT (a : List (List Int)) (k : Int) (i : Nat) : List (List Int) := (upLL a k).take i ++ a.drop i
theorem mixT_len (a : List (List Int)) (k : Int) (i : Nat) (h : i ≤ a.length) : (mixT a k i).length = a.length := by
  rw [mixT, List.length_append, List.length_take, List.length_drop, upLL_len]; omega
theorem mixT_get (a : List (List Int)) (k : Int) (i j : Nat) (h : i ≤ a.length) : (mixT a k i).getD j [] = if j < i then (upLL a k).getD j [] else a.getD j [] := by
  rw [mixT, List.getD_eq_getElem?_getD]
  by_cases hj : j < i
  · rw [if_pos hj, List.getElem?_append_left (by rw [List.length_take, upLL_len]; omega), List.getElem?_take, if_pos hj, ← List.getD_eq_getElem?_getD]
  · rw [if_neg hj, List.getElem?_append_right (by rw [List.length_take, upLL_len]; omega), List.length_take, upLL_len, Nat.min_eq_left h, List.getElem?_drop, show i + (j - i) = j by omega, ← List.getD_eq_getElem?_getD]
theorem upLL_at : ∀ (a : List (List Int)) (k : Int) (i : Nat), i < a.length → (upLL a k).getD i [] = upFrom (a.getD i []).length (k + totL (a.take i))
  | [], k, i, h => by simp at h
  | x :: r, k, 0, _ => by simp [upLL, totL]
  | x :: r, k, i + 1, h => by
    have := upLL_at r (k + x.length) i (by simpa using h)
    simp only [upLL, List.getD_cons_succ, this, List.take_succ_cons, totL]
    congr 1; omega
theorem keeps_has {loc : Go.Ab.Loc} {kk K : Nat} {a b c : World} (h : Keeps loc.has a b) (hk : loc.has kk) (k : Keeps (fun q => (Go.Ab.Loc.mk kk K false []).has q) b c) : Keeps loc.has a c :=
  h.trans ⟨k.os, k.tape, k.output, k.size, fun q hq hn => k.block q hq (fun hh => hn (.inl (by rw [(Go.Ab.Loc.has_one hh).2]; exact hk)))⟩
theorem markLL_ok (a : List (List Int)) (k : Int) (ha : smT a) (hk : 0 ≤ k ∧ k ≤ 1000000) : FCM Try.prog 12 [.ro (.intss a), .int .i64 k] 0 (.int .i64 (k + totL a)) (.tabs (upLL a k)) := by
  have hbd : ¬ Try.f12.body = none := by
    intro h
    have h2 : Try.f12.body.isNone = false := by kernel_rfl
    rw [h] at h2
    cases h2
  refine ⟨⟨Try.f12, Try.func12, (by decide +kernel), hbd⟩, fun w vals loc E row ok hrow0 hfl hsame hlt hok hO hv => ?_⟩
  obtain ⟨l, rfl⟩ : ∃ l, row = .tabs l := by
    cases row <;> first | exact ⟨_, rfl⟩ | (cases hsame; done)
  simp only [List.getElem?_cons_zero, Option.some.injEq, Row.seen, AV.ro.injEq, Row.intss.injEq] at hrow0
  subst hrow0
  match vals, hv with
  | [v, u], hv =>
    obtain ⟨hv, hu, _⟩ := hv
    obtain rfl : u = .int .i64 k := hu
    obtain ⟨loc', hl', hv⟩ := hv.2 E (.tabs a) rfl
    simp at hl'
    subst hl'
    have hn : nl (.tabs (upLL a k)) = nl (.tabs a) := by simp [nl, Row.nlen, alg, upLL_len]
    rcases hv with ⟨hz, _, rfl, h0⟩ | ⟨hz, cap, rfl, c1, c2, c3⟩
    · have ha0 : a = [] := by
        have : a.length = 0 := h0
        exact List.eq_nil_of_length_eq_zero this
      subst ha0
      refine (walkM [] k ha hk none 0 w (fun _ wx => wx = w) rfl (fun i wr hi => by simp at hi)).mono ?_
      rintro e w' ⟨rfl, rfl⟩
      exact ⟨_, rfl, Keeps.refl _ _, .inl ⟨hz, rfl⟩, rfl, rfl⟩
    · have hT : TabObj w loc E a := by
        rcases hO with ⟨h, _⟩ | ⟨_, ⟨_, _, _, _, h, _⟩ | h⟩
        · rw [hz] at h; cases h
        · exact h.elim
        · exact h
      have e0 : nl (.tabs a) = a.length := rfl
      rw [e0]
      have hm0 : mixT a k 0 = a := by simp [mixT]
      have hmL : mixT a k a.length = upLL a k := by rw [mixT, List.take_of_length_le (by rw [upLL_len]; exact Nat.le_refl _), List.drop_length, List.append_nil]
      refine (walkM a k ha hk (some ⟨loc.g, 0, none⟩) cap w (fun i wx => Keeps loc.has w wx ∧ TabObj wx loc E (mixT a k i)) ⟨Keeps.refl _ _, by rw [hm0]; exact hT⟩ (fun i wr hi hP => ?_)).mono ?_
      · obtain ⟨hK, nd, gk, kl, cur, cs, a1, a2, a3, a4, a5, a6⟩ := hP
        rw [mixT_len _ _ _ (by omega)] at kl a3
        obtain ⟨kk, hkk⟩ : ∃ kk, loc.ks[i]? = some kk := ⟨_, List.getElem?_eq_getElem (by omega)⟩
        have a6' := fun j q (hj : j < a.length) => a6 j q (by rw [mixT_len _ _ _ (by omega)]; exact hj)
        obtain ⟨cp, cu, E', p1, p2, p3, p4, p5, p6⟩ := a6' i kk hi hkk
        rw [mixT_get _ _ _ _ (by omega), if_neg (by omega)] at p1 p2 p6
        have hai := ha.2 i hi
        have htb := totL_bd (a.take i) (fun j hj => by
          rw [List.length_take] at hj
          rw [List.getD_eq_getElem?_getD, List.getElem?_take, if_pos (by omega), ← List.getD_eq_getElem?_getD]
          exact ha.2 j (by omega))
        have h6 := ha.1
        have htl : (a.take i).length ≤ 6 := by rw [List.length_take]; omega
        have hgk : loc.g ≠ kk := fun e => gk (e ▸ List.mem_of_getElem? hkk)
        have hhas : loc.has kk := ⟨hz, .inr (List.mem_of_getElem? hkk)⟩
        refine ⟨⟨loc.g, 0, none⟩, .slice (some ⟨kk, 0, none⟩) (a.getD i []).length cp, rfl, ?_, ?_⟩
        · rw [add_lit', Nat.zero_add, cell_of_row wr loc.g i cur E (0, 0) a1]
          have : (cur.toList.take cs.length)[i]? = some (.slice (some ⟨kk, 0, none⟩) (a.getD i []).length cp) := by rw [a5]; exact p1
          rw [List.getElem?_take] at this
          split at this
          · simpa using this
          · cases this
        · have hFM := markIntS_ok (a.getD i []) (k + totL (a.take i)) (by omega) ⟨by omega, by omega⟩
          have hcuL : (a.getD i []).length ≤ cu.size := by
            have := congrArg List.length p6
            rw [List.length_take, List.length_map, Array.length_toList] at this
            omega
          refine (hFM.post wr [.slice (some ⟨kk, 0, none⟩) (a.getD i []).length cp, .int .i64 (k + totL (a.take i))] ⟨kk, cu.size, false, []⟩ E' (.ints .i64 (a.getD i [])) (fun q => ¬ (Go.Ab.Loc.mk kk cu.size false []).has q) rfl rfl rfl
            (fun q hq => by rw [(Go.Ab.Loc.has_one hq).2]; exact (Array.getElem?_eq_some_iff.1 p5).1) (fun q hq => hq)
            (.inr ⟨rfl, .inl ⟨cu, _, p5, rfl, rfl, by simpa using hcuL, by rw [List.length_map]; exact p6⟩⟩)
            ⟨⟨by simp, fun E2 r2 hr2 => ?_⟩, rfl, trivial⟩).mono ?_
          · simp at hr2
            obtain ⟨rfl, rfl⟩ := hr2
            exact ⟨_, rfl, .inr ⟨rfl, cp, rfl, p2, p3, by simpa [wd] using p4⟩⟩
          · rintro e w' ⟨v', rfl, hK', hO', hr', _⟩
            have hr' : v' = .int .i64 (k + totL (a.take i) + (a.getD i []).length) := hr'
            subst hr'
            have hother : ∀ q, q < wr.heap.size → q ≠ kk → w'.heap[q]? = wr.heap[q]? := fun q hq hne => hK'.block q hq (fun hh => hne (Go.Ab.Loc.has_one hh).2)
            refine ⟨by rw [totL_take _ _ hi, Int.add_assoc], keeps_has hK hhas hK', nd, gk, by rw [mixT_len _ _ _ (by omega)]; exact kl, cur, cs, ?_, a2, by rw [mixT_len _ _ _ (by omega)]; exact a3, a4, a5, fun j q hj hq => ?_⟩
            · rw [hother _ (Array.getElem?_eq_some_iff.1 a1).1 hgk]; exact a1
            · rw [mixT_len _ _ _ (by omega)] at hj
              rw [mixT_get _ _ _ _ (by omega)]
              by_cases hji : j = i
              · subst hji
                rw [hkk] at hq
                cases hq
                rw [if_pos (by omega), upLL_at _ _ _ hi]
                rcases hO' with ⟨h, _⟩ | ⟨_, ⟨cur', cs', q1, q2, q3, q4, q5⟩ | h⟩
                · cases h
                · simp only [RC] at q3
                  subst q3
                  rw [List.length_map] at q5
                  exact ⟨cp, cur', E', by rw [upFrom_len]; exact p1, by rw [upFrom_len]; exact p2, p3, by rw [q2]; exact p4, q1, q5⟩
                · exact h.elim
              · obtain ⟨cp2, cu2, E2, r1, r2, r3, r4, r5, r6⟩ := a6' j q hj hq
                rw [mixT_get _ _ _ _ (by omega)] at r1 r2 r6
                have hcond : (j < i + 1) ↔ (j < i) := by omega
                simp only [hcond]
                have hqk : q ≠ kk := by
                  intro e
                  subst e
                  have hjl := (List.getElem?_eq_some_iff.1 hq)
                  have hil := (List.getElem?_eq_some_iff.1 hkk)
                  exact hji ((List.getElem_inj nd).1 (hjl.2.trans hil.2.symm))
                exact ⟨cp2, cu2, E2, r1, r2, r3, r4, by rw [hother _ (Array.getElem?_eq_some_iff.1 r5).1 hqk]; exact r5, r6⟩
      · rintro e w' ⟨rfl, hK, hT'⟩
        rw [hmL] at hT'
        exact ⟨_, rfl, hK, .inr ⟨hz, .inr hT'⟩, rfl, hn⟩
end Go.Proofs.Ythnbajdkimgigaa
