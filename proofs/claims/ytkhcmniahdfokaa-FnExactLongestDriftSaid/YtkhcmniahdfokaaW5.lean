/-
  Trials: the longest part that drifts.
-/
import Derived.Test.YtkhcmniahdfokaaW4
set_option linter.unusedSimpArgs false
set_option linter.unusedVariables false
namespace Go.Proofs.Ytkhcmniahdfokaa
open Go.Ab

/-- How far the numbers go on in the direction s. -/
def dr (s : Int) : Int → List Int → Nat
  | _, [] => 1
  | x, y :: r => if 0 < s * (y - x) then 1 + dr s y r else 1
def run (x : Int) (r : List Int) : Nat := max (dr 1 x r) (dr (-1) x r)
def ldF : List Int → Int → Int → Int → Int × Int
  | [], _, b, m => (b, m)
  | x :: r, i, b, m => if m < run x r then ldF r (i + 1) i (run x r) else ldF r (i + 1) b m
def sgnI (n : Int) : Int := if 0 < n then 1 else if n < 0 then -1 else 0

theorem dr_pos (s : Int) : ∀ (x : Int) (r : List Int), 1 ≤ dr s x r
  | _, [] => by simp [dr]
  | x, y :: r => by unfold dr; split <;> omega
theorem dr_le (s : Int) : ∀ (x : Int) (r : List Int), dr s x r ≤ r.length + 1
  | _, [] => by simp [dr]
  | x, y :: r => by
    have := dr_le s y r
    unfold dr; split <;> simp <;> omega
theorem run_pos (x : Int) (r : List Int) : 1 ≤ run x r := by
  have := dr_pos 1 x r
  simp only [run]; omega
theorem run_le (x : Int) (r : List Int) : run x r ≤ r.length + 1 := by
  have := dr_le 1 x r
  have := dr_le (-1) x r
  simp only [run]; omega
theorem run_zero (x : Int) (r : List Int) (h : sgnI (r.getD 0 0 - x) = 0) : run x r = 1 := by
  cases r with
  | nil => rfl
  | cons y r =>
    simp [sgnI] at h
    have : y - x = 0 := by
      split at h
      · cases h
      · split at h
        · cases h
        · omega
    simp [run, dr, this]
theorem run_sgn (x : Int) (r : List Int) (h : sgnI (r.getD 0 0 - x) ≠ 0) : run x r = dr (sgnI (r.getD 0 0 - x)) x r := by
  cases r with
  | nil => simp [run, dr]
  | cons y r =>
    simp only [List.getD_cons_zero] at h ⊢
    unfold sgnI at h ⊢
    split
    · rename_i h1
      have := dr_pos 1 x (y :: r)
      have h2 : dr (-1) x (y :: r) = 1 := by rw [dr, if_neg (by omega)]
      simp only [run, h2]; omega
    · split
      · have := dr_pos (-1) x (y :: r)
        have h2 : dr 1 x (y :: r) = 1 := by rw [dr, if_neg (by omega)]
        simp only [run, h2]; omega
      · rename_i h1 h2
        exact absurd (by rw [if_neg h1, if_neg h2]) h

def longB (l : List Int) : Int := if good l then (ldF l 0 0 1).1 else 0
def longM (l : List Int) : Int := if good l then (ldF l 0 0 1).2 else 0
theorem ldF_start (l : List Int) (h : 0 < l.length) : ldF l 0 0 0 = ldF l 0 0 1 := by
  cases l with
  | nil => simp at h
  | cons x r =>
    have := run_pos x r
    simp only [ldF]
    rw [if_pos (by omega)]
    split
    · rfl
    · rename_i h1
      have : run x r = 1 := by omega
      rw [this]; rfl
theorem good_get {l : List Int} (h : good l = true) (i : Nat) : -500 ≤ l.getD i 0 ∧ l.getD i 0 ≤ 500 := by
  rw [List.getD_eq_getElem?_getD]
  cases hi : l[i]? with
  | none => simp
  | some x =>
    have := good_all h
    simp only [allR, List.all_eq_true] at this
    have := this x (List.mem_of_getElem? hi)
    simp [inR] at this
    simpa using this
theorem dr_drop (s : Int) (x : Int) (l : List Int) (i : Nat) (h : i < l.length) : dr s x (l.drop i) = if 0 < s * (l.getD i 0 - x) then 1 + dr s (l.getD i 0) (l.drop (i + 1)) else 1 := by
  rw [List.drop_eq_getElem_cons h, List.getD_eq_getElem?_getD, List.getElem?_eq_getElem h]; rfl
theorem ldF_drop (l : List Int) (i : Nat) (q b m : Int) (h : i < l.length) : ldF (l.drop i) q b m = if m < run (l.getD i 0) (l.drop (i + 1)) then ldF (l.drop (i + 1)) (q + 1) q (run (l.getD i 0) (l.drop (i + 1))) else ldF (l.drop (i + 1)) (q + 1) b m := by
  rw [List.drop_eq_getElem_cons h, List.getD_eq_getElem?_getD, List.getElem?_eq_getElem h]; rfl

def drV (l : List Int) (i s : Int) : Int := dr s (l.getD i.toNat 0) (l.drop (i.toNat + 1))
structure Sp5 extends Sp4 where
  sgn : Int → Int
  drV : List Int → Int → Int → Int
  dp : List Int → Int → Int → Prop
  longB : List Int → Int
  longM : List Int → Int
def sp5 : Sp5 := { sp4 with sgn := sgnI, drV := drV, dp := fun l i s => good l = true ∧ 0 ≤ i ∧ i < l.length ∧ (s = 1 ∨ s = -1), longB := longB, longM := longM }

theorem sign_ok (n : Int) : FC Try.prog 47 [.int .i64 n] (.int .i64 (sgnI n)) [] := by
  refine fc_eval sp2 U2 U2_ok hT hm Try.func47 rfl (by kernel_rfl) rfl rfl ?_
  intro A S r0 fr0 hA hS hr hfr
  cbv
  (try simp only [nc] at *); subst hA hS hr hfr; simp only [alg, obP_iff, condP_iff, retP_iff, retM_iff, ofNat_cast, nc, Int.toNat_natCast, decide_eq_true_eq, decide_eq_false_iff_not, IntKind.wrap_i64, Bool.not_eq_true', Bool.not_eq_false', beq_iff_eq, beq_eq_false_iff_ne, AV.bool.injEq, AV.int.injEq, AV.t2.injEq, AV.t3.injEq, AV.own.injEq, List.cons.injEq, Prod.mk.injEq, Row.ints.injEq, RW, Row.nlen, scalar, imp_self, and_true, true_and, sp2, sp, sgnI]
  split <;> (try split) <;> simp <;> omega

theorem drift_ok (l : List Int) (p : Nat) (s : Int) (hg : good l = true) (hp : p < l.length) (hs : s = 1 ∨ s = -1) : FC Try.prog 48 [.ro (.ints .i64 l), .int .i64 p, .int .i64 s] (.int .i64 (drV l p s)) [] := by
  refine fc_eval sp2 U2 U2_ok hT hm Try.func48 rfl (by kernel_rfl) rfl rfl ?_
  intro A S r0 fr0 hA hS hr hfr
  cbv
  refine loop1 (fun (n : Nat) => ⟨fr 36 [(0, .ro (.ints .i64 l)), (1, .int .i64 p), (2, .int .i64 s), (7, .int .i64 n)], [.dead]⟩)
    (fun n => 1 ≤ n ∧ p + n ≤ l.length ∧ drV l p s = ((n - 1 + dr s (l.getD (p + n - 1) 0) (l.drop (p + n)) : Nat) : Int)) (fun n => l.length - n) 1 ?_ ?_ ?_
  · subst hA; simp [Wk_iff, fr, undefs, wkT, wkV, wkH, okid, Row.nlen, alg]
  · simp [drV]; omega
  · rintro n ⟨h1, h2, h3⟩
    have hl := good_len hg
    have ha := good_get hg (p + n)
    have hb := good_get hg (p + n - 1)
    have hd := dr_drop s (l.getD (p + n - 1) 0) l (p + n)
    cbv
    (try simp only [nc] at *); subst hA hS hr hfr; simp only [alg, obP_iff, condP_iff, retP_iff, retM_iff, ofNat_cast, nc, Int.toNat_natCast, decide_eq_true_eq, decide_eq_false_iff_not, IntKind.wrap_i64, Bool.not_eq_true', Bool.not_eq_false', beq_iff_eq, beq_eq_false_iff_ne, AV.bool.injEq, AV.int.injEq, AV.t2.injEq, AV.t3.injEq, AV.own.injEq, List.cons.injEq, Prod.mk.injEq, Row.ints.injEq, RW, Row.nlen, scalar, imp_self, and_true, true_and, sp2, sp]
    refine ⟨⟨by kernel_rfl⟩, ?_⟩
    have w1 : ((p : Int) + n + 9223372036854775808) % 18446744073709551616 - 9223372036854775808 = p + n := by omega
    have w2 : ((p : Int) + n - 1 + 9223372036854775808) % 18446744073709551616 - 9223372036854775808 = p + n - 1 := by omega
    have t1 : ((p : Int) + n).toNat = p + n := by omega
    have t2 : ((p : Int) + n - 1).toNat = p + n - 1 := by omega
    have w3 : (s * ((l.getD (p + n) 0 - l.getD (p + n - 1) 0 + 9223372036854775808) % 18446744073709551616 - 9223372036854775808) + 9223372036854775808) % 18446744073709551616 - 9223372036854775808 = s * (l.getD (p + n) 0 - l.getD (p + n - 1) 0) := by
      rcases hs with rfl | rfl <;> omega
    simp only [w1, w2, w3, t1, t2, Bool.and_eq_true, decide_eq_true_eq, Bool.and_eq_false_imp, decide_eq_false_iff_not]
    refine ⟨fun h => by omega, fun h => by omega, fun hc => ?_, fun hc => ?_⟩
    · refine ⟨n + 1, ?_, ⟨by omega, by omega, ?_⟩, by omega⟩
      · simp [Wk_iff, fr, undefs, wkT, wkV, wkH, okid, Row.nlen]; try omega
      · rw [h3, hd (by omega), if_pos hc.2]
        have e1 : p + (n + 1) - 1 = p + n := by omega
        have e2 : p + (n + 1) = p + n + 1 := by omega
        rw [e1, e2]
        omega
    · rw [h3]
      by_cases h4 : p + n < l.length
      · rw [hd h4, if_neg (hc (by omega))]; omega
      · rw [List.drop_of_length_le (by omega)]; simp only [dr]; omega
theorem drift_ok' (l : List Int) (i s : Int) (h : good l = true ∧ 0 ≤ i ∧ i < l.length ∧ (s = 1 ∨ s = -1)) : FC Try.prog 48 [.ro (.ints .i64 l), .int .i64 i, .int .i64 s] (.int .i64 (drV l i s)) [] := by
  obtain ⟨p, rfl⟩ := Int.eq_ofNat_of_zero_le h.2.1
  exact drift_ok l p s h.1 (by omega) h.2.2.2
def Y1 (S : Sp5) : List (Nat × (List AV → CR)) :=
  (48, fun args => match args with | [.ro (.ints .i64 l), .int .i64 i, .int .i64 s] => .pure (S.dp l i s) (.int .i64 (S.drV l i s)) [] | _ => .no) ::
  (47, fun args => match args with | [.int .i64 n] => .pure (True) (.int .i64 (S.sgn n)) [] | _ => .no) ::
  X2 S.toSp4
set_option maxRecDepth 100000 in
theorem Y1_ok : TabOK Try.prog (tfind (Y1 sp5)) := by
  refine tab_cons (fun args => ?_) (tab_cons (fun args => ?_) (X2_ok))
  · split
    · exact ent_pure fun h => drift_ok' _ _ _ h
    · exact ent_no
  · split
    · exact ent_pure fun _ => sign_ok _
    · exact ent_no
theorem mx_run (l : List Int) (i : Nat) : (if drV l i (-1) > drV l i 1 then drV l i (-1) else drV l i 1) = (run (l.getD i 0) (l.drop (i + 1)) : Int) := by
  have e1 : drV l i 1 = (dr 1 (l.getD i 0) (l.drop (i + 1)) : Int) := by simp [drV]
  have e2 : drV l i (-1) = (dr (-1) (l.getD i 0) (l.drop (i + 1)) : Int) := by simp [drV]
  simp only [run]
  by_cases h : drV l i (-1) > drV l i 1
  · rw [if_pos h]; omega
  · rw [if_neg h]; omega

set_option maxRecDepth 100000 in
theorem implLong_ok (l : List Int) (hl : l.length ≤ 1048576) : FC Try.prog 24 [.ro (.ints .i64 l)] (.t3 (.int .i64 (longB l)) (.int .i64 (longM l)) (.bool (good l))) [] := by
  refine fc_eval sp5 Y1 Y1_ok hT hm Try.func24 rfl (by kernel_rfl) rfl rfl ?_
  intro A S r0 fr0 hA hS hr hfr
  cbv
  repeat refine obP.mk (by subst hA hS; simp [alg, sp5, sp4, sp3, sp2, sp, hl]) ?_
  refine condP.mk (fun hc => ?_) (fun hc => ?_)
  · (try simp only [nc] at *); subst hA hS hr hfr; simp only [alg, obP_iff, condP_iff, retP_iff, retM_iff, ofNat_cast, nc, Int.toNat_natCast, decide_eq_true_eq, decide_eq_false_iff_not, IntKind.wrap_i64, Bool.not_eq_true', Bool.not_eq_false', beq_iff_eq, beq_eq_false_iff_ne, AV.bool.injEq, AV.int.injEq, AV.t2.injEq, AV.t3.injEq, AV.own.injEq, List.cons.injEq, Prod.mk.injEq, Row.ints.injEq, RW, Row.nlen, scalar, imp_self, and_true, true_and, sp5, sp4, sp3, sp2, sp, longB, longM]
    simp [alg, sp5, sp4, sp3, sp2, sp] at hc
    simp [hc]
  · have hg : good l = true := by subst hA hS; simpa [alg, sp5, sp4, sp3, sp2, sp] using hc
    have hv : longB l = (ldF l 0 0 0).1 ∧ longM l = (ldF l 0 0 0).2 := by rw [ldF_start l (good_pos hg)]; simp [longB, longM, hg]
    rw [hv.1, hv.2, hg] at hr
    obtain ⟨L, hL⟩ : ∃ L : Int, L = l.length := ⟨_, rfl⟩
    refine loop3 (fun (i : Nat) (b m : Int) => ⟨fr 32 [(0, .ro (.ints .i64 l)), (5, .int .i64 b), (6, .int .i64 m), (12, .ro (.ints .i64 l)), (13, .int .i64 L), (14, .int .i64 i)], [.dead]⟩)
      (fun i b m => i ≤ l.length ∧ ldF l 0 0 0 = ldF (l.drop i) i b m) (fun i _ _ => l.length - i) 0 0 0 ?_ ?_ ?_
    · subst hA; simp [Wk_iff, fr, undefs, wkT, wkV, wkH, okid, Row.nlen, alg, hL]
    · simp
    · rintro i b m ⟨h1, h3⟩
      have hd := ldF_drop l i i b m
      have hmx := mx_run l i
      cbv
      (try simp only [nc] at *); subst hA hS hr hfr; simp only [alg, obP_iff, condP_iff, retP_iff, retM_iff, ofNat_cast, nc, Int.toNat_natCast, decide_eq_true_eq, decide_eq_false_iff_not, IntKind.wrap_i64, Bool.not_eq_true', Bool.not_eq_false', beq_iff_eq, beq_eq_false_iff_ne, AV.bool.injEq, AV.int.injEq, AV.t2.injEq, AV.t3.injEq, AV.own.injEq, List.cons.injEq, Prod.mk.injEq, Row.ints.injEq, RW, Row.nlen, scalar, imp_self, and_true, true_and, sp5, sp4, sp3, sp2, sp]
      simp only [hmx]
      refine ⟨fun hc => ⟨⟨hg, by omega, by omega, .inl trivial⟩, ⟨hg, by omega, by omega, .inr trivial⟩, fun hn => ⟨i + 1, i, run (l.getD i 0) (l.drop (i + 1)), ?_, ⟨by omega, ?_⟩, by omega⟩, fun hn => ⟨i + 1, b, m, ?_, ⟨by omega, ?_⟩, by omega⟩⟩, fun hc => ?_⟩
      · simp [Wk_iff, fr, undefs, wkT, wkV, wkH, okid, Row.nlen]; try omega
      · rw [h3, hd (by omega), if_pos hn]; rfl
      · simp [Wk_iff, fr, undefs, wkT, wkV, wkH, okid, Row.nlen]; try omega
      · rw [h3, hd (by omega), if_neg hn]; rfl
      · rw [h3, List.drop_of_length_le (by omega)]; simp [ldF]

structure LInv (l : List Int) (i : Nat) (b m : Int) (k : Nat) (b' m' : Int) : Prop where
  g1 : i + 1 ≤ k
  g2 : k ≤ l.length
  g3 : (m < (k : Int) - i → b' = i ∧ m' = (k : Int) - i) ∧ (¬ m < (k : Int) - i → b' = b ∧ m' = m)
  g4 : sgnI (l.getD (i + 1) 0 - l.getD i 0) = 0 → k = i + 1
  g5 : sgnI (l.getD (i + 1) 0 - l.getD i 0) ≠ 0 → run (l.getD i 0) (l.drop (i + 1)) = k - i - 1 + dr (sgnI (l.getD (i + 1) 0 - l.getD i 0)) (l.getD (k - 1) 0) (l.drop k)
structure OInv (l : List Int) (i : Nat) (b m : Int) : Prop where
  h1 : i ≤ l.length
  h2 : 1 ≤ m ∧ m ≤ 40
  h3 : ldF l 0 0 1 = ldF (l.drop i) i b m
theorem sgn_dir (d e : Int) (h : sgnI e ≠ 0) : 0 < sgnI e * d ↔ sgnI d = sgnI e := by
  unfold sgnI at *
  by_cases h1 : 0 < e
  · rw [if_pos h1]
    by_cases h2 : 0 < d
    · rw [if_pos h2]; omega
    · rw [if_neg h2]; split <;> omega
  · rw [if_neg h1] at h ⊢
    by_cases h3 : e < 0
    · rw [if_pos h3]
      by_cases h2 : 0 < d
      · rw [if_pos h2]; omega
      · rw [if_neg h2]; split <;> omega
    · rw [if_neg h3] at h; exact absurd rfl h
theorem LInv.out {l : List Int} {i k : Nat} {b m b' m' : Int} (h : LInv l i b m k b' m') (ho : OInv l i b m) (hi : i < l.length) (hl : l.length ≤ 40) (hr : run (l.getD i 0) (l.drop (i + 1)) = k - i) : OInv l (i + 1) b' m' := by
  have h1 := h.g1
  have h2 := h.g2
  have h3 := ho.h2
  have h4 := ho.h3
  rw [ldF_drop _ _ _ _ _ hi, hr] at h4
  have e : ((k - i : Nat) : Int) = (k : Int) - i := by omega
  rw [e] at h4
  by_cases hm : m < (k : Int) - i
  · obtain ⟨rfl, rfl⟩ := h.g3.1 hm
    rw [if_pos hm] at h4
    exact ⟨by omega, by omega, h4⟩
  · obtain ⟨rfl, rfl⟩ := h.g3.2 hm
    rw [if_neg hm] at h4
    exact ⟨by omega, by omega, h4⟩
theorem LInv.run0 {l : List Int} {i k : Nat} {b m b' m' : Int} (h : LInv l i b m k b' m') (h0 : sgnI (l.getD (i + 1) 0 - l.getD i 0) = 0) : run (l.getD i 0) (l.drop (i + 1)) = k - i := by
  rw [h.g4 h0, run_zero _ _ (by simpa using h0)]; omega
theorem LInv.stop {l : List Int} {i k : Nat} {b m b' m' : Int} (h : LInv l i b m k b' m') (hk : k < l.length) (h0 : sgnI (l.getD (i + 1) 0 - l.getD i 0) = 0 ∨ sgnI (l.getD k 0 - l.getD (k - 1) 0) ≠ sgnI (l.getD (i + 1) 0 - l.getD i 0)) : run (l.getD i 0) (l.drop (i + 1)) = k - i := by
  by_cases hz : sgnI (l.getD (i + 1) 0 - l.getD i 0) = 0
  · exact h.run0 hz
  · have h1 := h.g1
    rw [h.g5 hz, dr_drop _ _ _ _ hk, if_neg]
    · omega
    · rw [sgn_dir _ _ hz]; exact h0.resolve_left hz
theorem LInv.fin {l : List Int} {i k : Nat} {b m b' m' : Int} (h : LInv l i b m k b' m') (hk : ¬ k < l.length) : run (l.getD i 0) (l.drop (i + 1)) = k - i := by
  by_cases hz : sgnI (l.getD (i + 1) 0 - l.getD i 0) = 0
  · exact h.run0 hz
  · have h1 := h.g1
    rw [h.g5 hz, List.drop_of_length_le (by omega)]
    simp only [dr]; omega
theorem LInv.next {l : List Int} {i k : Nat} {b m b' m' b2 m2 : Int} (h : LInv l i b m k b' m') (ho : OInv l i b m) (hk : k < l.length) (hz : ¬ sgnI (l.getD (i + 1) 0 - l.getD i 0) = 0) (hs : sgnI (l.getD k 0 - l.getD (k - 1) 0) = sgnI (l.getD (i + 1) 0 - l.getD i 0))
    (h2 : (m' < (k : Int) - i + 1 → b2 = i ∧ m2 = (k : Int) - i + 1) ∧ (¬ m' < (k : Int) - i + 1 → b2 = b' ∧ m2 = m')) : LInv l i b m (k + 1) b2 m2 := by
  have h1 := h.g1
  have h3 := ho.h2
  refine ⟨by omega, by omega, ?_, fun h => absurd h hz, fun _ => ?_⟩
  · by_cases hm : m < (k : Int) - i
    · obtain ⟨rfl, rfl⟩ := h.g3.1 hm
      obtain ⟨rfl, rfl⟩ := h2.1 (by omega)
      exact ⟨fun _ => ⟨rfl, by omega⟩, fun h => by omega⟩
    · obtain ⟨rfl, rfl⟩ := h.g3.2 hm
      by_cases h4 : m' < (k : Int) - i + 1
      · obtain ⟨rfl, rfl⟩ := h2.1 h4
        exact ⟨fun _ => ⟨rfl, by omega⟩, fun h => by omega⟩
      · obtain ⟨rfl, rfl⟩ := h2.2 h4
        exact ⟨fun h => by omega, fun _ => ⟨rfl, rfl⟩⟩
  · rw [h.g5 hz, dr_drop _ _ _ _ hk, if_pos ((sgn_dir _ _ hz).2 hs)]
    have e : k + 1 - 1 = k := by omega
    rw [e]; omega
set_option maxRecDepth 100000 in
theorem specLong_ok (l : List Int) (hl : l.length ≤ 1048576) : FC Try.prog 23 [.ro (.ints .i64 l)] (.t3 (.int .i64 (longB l)) (.int .i64 (longM l)) (.bool (good l))) [] := by
  refine fc_eval sp5 Y1 Y1_ok hT hm Try.func23 rfl (by kernel_rfl) rfl rfl ?_
  intro A S r0 fr0 hA hS hr hfr
  cbv
  repeat refine obP.mk (by subst hA hS; simp [alg, sp5, sp4, sp3, sp2, sp, hl]) ?_
  refine condP.mk (fun hc => ?_) (fun hc => ?_)
  · (try simp only [nc] at *); subst hA hS hr hfr; simp only [alg, obP_iff, condP_iff, retP_iff, retM_iff, ofNat_cast, nc, Int.toNat_natCast, decide_eq_true_eq, decide_eq_false_iff_not, IntKind.wrap_i64, Bool.not_eq_true', Bool.not_eq_false', beq_iff_eq, beq_eq_false_iff_ne, AV.bool.injEq, AV.int.injEq, AV.t2.injEq, AV.t3.injEq, AV.own.injEq, List.cons.injEq, Prod.mk.injEq, Row.ints.injEq, RW, Row.nlen, scalar, imp_self, and_true, true_and, sp5, sp4, sp3, sp2, sp, longB, longM]
    simp [alg, sp5, sp4, sp3, sp2, sp] at hc
    simp [hc]
  · have hg : good l = true := by subst hA hS; simpa [alg, sp5, sp4, sp3, sp2, sp] using hc
    have hv : longB l = (ldF l 0 0 1).1 ∧ longM l = (ldF l 0 0 1).2 := by simp [longB, longM, hg]
    rw [hv.1, hv.2, hg] at hr
    have hll := good_len hg
    obtain ⟨L, hL⟩ : ∃ L : Int, L = l.length := ⟨_, rfl⟩
    refine loop3 (fun (i : Nat) (b m : Int) => ⟨fr 68 [(0, .ro (.ints .i64 l)), (5, .int .i64 b), (6, .int .i64 m), (13, .ro (.ints .i64 l)), (14, .int .i64 L), (15, .int .i64 i)], [.dead]⟩)
      (fun i b m => OInv l i b m) (fun i _ _ => l.length - i) 0 0 1 ?_ ?_ ?_
    · subst hA; simp [Wk_iff, fr, undefs, wkT, wkV, wkH, okid, Row.nlen, alg, hL]
    · exact ⟨by omega, by omega, rfl⟩
    · intro i b m ho
      obtain ⟨h1, h2, h3⟩ := ho
      have ho : OInv l i b m := ⟨h1, h2, h3⟩
      have hd := ldF_drop l i i b m
      cbv
      refine condP.mk (fun hci => ?_) (fun hci => ?_)
      · have hi : i < l.length := by
          have h9 : decide ((i : Int) < L) = true := by subst hA; exact hci
          rw [decide_eq_true_eq] at h9; (try simp only [nc] at *); omega
        refine loop3 (fun (k : Nat) (b' m' : Int) => ⟨fr 68 [(0, .ro (.ints .i64 l)), (5, .int .i64 b'), (6, .int .i64 m'), (7, .int .i64 i), (8, .int .i64 k), (13, .ro (.ints .i64 l)), (14, .int .i64 L), (15, .int .i64 i)], [.dead]⟩)
          (fun k b' m' => LInv l i b m k b' m') (fun k _ _ => l.length - k) (i + 1) b m ?_ ?_ ?_
        · subst hA; simp [Wk_iff, fr, undefs, wkT, wkV, wkH, okid, Row.nlen, alg, hL, IntKind.wrap_i64]; try omega
        · refine ⟨by omega, by omega, ⟨fun h => by omega, fun h => ⟨rfl, rfl⟩⟩, fun _ => rfl, fun h => ?_⟩
          have := run_sgn (l.getD i 0) (l.drop (i + 1)) (by simpa using h)
          simpa using this
        · intro k b' m' hI
          have g1 := hI.g1
          have g2 := hI.g2
          have hk := good_get hg k
          have hk1 := good_get hg (k - 1)
          have hi0 := good_get hg i
          have hi1 := good_get hg (i + 1)
          cbv
          (try simp only [nc] at *); subst hA hS hr hfr; simp only [alg, obP_iff, condP_iff, retP_iff, retM_iff, ofNat_cast, nc, Int.toNat_natCast, decide_eq_true_eq, decide_eq_false_iff_not, IntKind.wrap_i64, Bool.not_eq_true', Bool.not_eq_false', beq_iff_eq, beq_eq_false_iff_ne, AV.bool.injEq, AV.int.injEq, AV.t2.injEq, AV.t3.injEq, AV.own.injEq, List.cons.injEq, Prod.mk.injEq, Row.ints.injEq, RW, Row.nlen, scalar, imp_self, and_true, true_and, sp5, sp4, sp3, sp2, sp]
          have w1 : ((i : Int) + 1 + 9223372036854775808) % 18446744073709551616 - 9223372036854775808 = ((i + 1 : Nat) : Int) := by omega
          have w2 : ((k : Int) - 1 + 9223372036854775808) % 18446744073709551616 - 9223372036854775808 = ((k - 1 : Nat) : Int) := by omega
          have w3 : (l.getD (i + 1) 0 - l.getD i 0 + 9223372036854775808) % 18446744073709551616 - 9223372036854775808 = l.getD (i + 1) 0 - l.getD i 0 := by omega
          have w4 : (l.getD k 0 - l.getD (k - 1) 0 + 9223372036854775808) % 18446744073709551616 - 9223372036854775808 = l.getD k 0 - l.getD (k - 1) 0 := by omega
          have w5 : ((k : Int) - i + 9223372036854775808) % 18446744073709551616 - 9223372036854775808 = (k : Int) - i := by omega
          have w6 : ((k : Int) - i + 1 + 9223372036854775808) % 18446744073709551616 - 9223372036854775808 = (k : Int) - i + 1 := by omega
          have w7 : ((k : Int) + 1 + 9223372036854775808) % 18446744073709551616 - 9223372036854775808 = ((k + 1 : Nat) : Int) := by omega
          have w8 : ((i : Int) + 1 + 9223372036854775808) % 18446744073709551616 - 9223372036854775808 = ((i + 1 : Nat) : Int) := by omega
          simp only [w1, w2, w5, w6, w7, Int.toNat_natCast, w3, w4]
          refine ⟨fun hc => ⟨⟨by kernel_rfl⟩, by omega, by omega, ⟨by kernel_rfl⟩, fun _ => by omega, fun _ => by omega, fun _ => trivial, fun hn => ?_, fun hn => ?_⟩, fun hc => ?_⟩
          · refine ⟨i + 1, b', m', ?_, hI.out ho hi hll (hI.stop (by omega) (by simpa using hn)), by omega⟩
            simp [Wk_iff, fr, undefs, wkT, wkV, wkH, okid, Row.nlen]
          · have hz : ¬ sgnI (l.getD (i + 1) 0 - l.getD i 0) = 0 ∧ sgnI (l.getD k 0 - l.getD (k - 1) 0) = sgnI (l.getD (i + 1) 0 - l.getD i 0) := by simpa using hn
            refine ⟨fun hm => ⟨k + 1, i, (k : Int) - i + 1, ?_, hI.next ho (by omega) hz.1 hz.2 ⟨fun _ => ⟨rfl, rfl⟩, fun h => absurd hm h⟩, by omega⟩, fun hm => ⟨k + 1, b', m', ?_, hI.next ho (by omega) hz.1 hz.2 ⟨fun h => absurd h hm, fun _ => ⟨rfl, rfl⟩⟩, by omega⟩⟩
            · simp [Wk_iff, fr, undefs, wkT, wkV, wkH, okid, Row.nlen]
            · simp [Wk_iff, fr, undefs, wkT, wkV, wkH, okid, Row.nlen]
          · refine ⟨i + 1, b', m', ?_, hI.out ho hi hll (hI.fin (by omega)), by omega⟩
            simp [Wk_iff, fr, undefs, wkT, wkV, wkH, okid, Row.nlen]
      · have hi : ¬ i < l.length := by
          have h9 : decide ((i : Int) < L) = false := by subst hA; exact hci
          rw [decide_eq_false_iff_not] at h9; (try simp only [nc] at *); omega
        (try simp only [nc] at *); subst hA hS hr hfr; simp only [alg, obP_iff, condP_iff, retP_iff, retM_iff, ofNat_cast, nc, Int.toNat_natCast, decide_eq_true_eq, decide_eq_false_iff_not, IntKind.wrap_i64, Bool.not_eq_true', Bool.not_eq_false', beq_iff_eq, beq_eq_false_iff_ne, AV.bool.injEq, AV.int.injEq, AV.t2.injEq, AV.t3.injEq, AV.own.injEq, List.cons.injEq, Prod.mk.injEq, Row.ints.injEq, RW, Row.nlen, scalar, imp_self, and_true, true_and, sp5, sp4, sp3, sp2, sp]
        rw [h3, List.drop_of_length_le (by omega)]; simp [ldF]

def Y2 (S : Sp5) : List (Nat × (List AV → CR)) :=
  (23, fun args => match args with | [.ro (.ints .i64 l)] => .pure (S.sm l) (.t3 (.int .i64 (S.longB l)) (.int .i64 (S.longM l)) (.bool (S.good l))) [] | _ => .no) ::
  (24, fun args => match args with | [.ro (.ints .i64 l)] => .pure (S.sm l) (.t3 (.int .i64 (S.longB l)) (.int .i64 (S.longM l)) (.bool (S.good l))) [] | _ => .no) ::
  T4 S.toSp
set_option maxRecDepth 100000 in
theorem Y2_ok : TabOK Try.prog (tfind (Y2 sp5)) := by
  refine tab_cons (fun args => ?_) (tab_cons (fun args => ?_) (T4_ok))
  · split
    · exact ent_pure fun h => specLong_ok _ h
    · exact ent_no
  · split
    · exact ent_pure fun h => implLong_ok _ h
    · exact ent_no
set_option maxRecDepth 100000 in
theorem lawLongestDrift (l : List Int) : FC Try.prog 6 [.ro (.ints .i64 l)] (.bool true) [] := by
  refine fc_eval sp5 Y2 Y2_ok hT hm Try.func6 rfl (by kernel_rfl) rfl rfl ?_
  intro A S r0 fr0 hA hS hr hfr
  cbv
  (try simp only [nc] at *); subst hA hS hr hfr; simp only [alg, obP_iff, condP_iff, retP_iff, retM_iff, ofNat_cast, nc, Int.toNat_natCast, decide_eq_true_eq, decide_eq_false_iff_not, IntKind.wrap_i64, Bool.not_eq_true', Bool.not_eq_false', beq_iff_eq, beq_eq_false_iff_ne, AV.bool.injEq, AV.int.injEq, AV.t2.injEq, AV.t3.injEq, AV.own.injEq, List.cons.injEq, Prod.mk.injEq, Row.ints.injEq, RW, Row.nlen, scalar, imp_self, and_true, true_and, sp5, sp4, sp3, sp2, sp, eqL]
  simp; try omega
end Go.Proofs.Ytkhcmniahdfokaa
