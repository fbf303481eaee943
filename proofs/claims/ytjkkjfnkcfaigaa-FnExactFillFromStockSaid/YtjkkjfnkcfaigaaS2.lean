/-
  Spaces: which widths can be filled.
-/
import Derived.Test.YtjkkjfnkcfaigaaS1
import Derived.Test.YtjkkjfnkcfaigaaD2
import Derived.Test.YtjkkjfnkcfaigaaSM
set_option linter.unusedSimpArgs false
set_option linter.unusedVariables false
namespace Go.Proofs.Ytjkkjfnkcfaigaa
open Go.Ab

def canV (l : List Int) (n : Int) : Bool := askB l n && decide (0 ≤ (fwF l n.toNat).getD n.toNat 0)
def nearV (l : List Int) (n : Int) : Int := if askB l n then dn (fun m => decide (0 ≤ (fwF l n.toNat).getD m 0)) n.toNat else 0
def misF (r : List Int) (k : Nat) : List Int := ((List.range k).filter fun (x : Nat) => decide (r.getD x 0 < 0)).map fun (x : Nat) => (x : Int)
def misL (l : List Int) (n : Int) : List Int := if askB l n then misF (fwF l n.toNat) (n.toNat + 1) else []
theorem misF_succ (r : List Int) (k : Nat) : misF r (k + 1) = if r.getD k 0 < 0 then misF r k ++ [(k : Int)] else misF r k := by
  unfold misF
  rw [List.range_succ, List.filter_append, List.map_append]
  by_cases h : r.getD k 0 < 0
  · rw [if_pos h, List.filter_cons, decide_eq_true h]; simp
  · rw [if_neg h, List.filter_cons, decide_eq_false h]; simp
theorem misF_len (r : List Int) : ∀ k, (misF r k).length ≤ k
  | 0 => by simp [misF]
  | k + 1 => by
    have := misF_len r k
    rw [misF_succ]; split
    · simp; omega
    · omega
def thC (l : List Int) (n : Nat) (m : Nat) : Bool := decide (0 ≤ (fwF (l.drop 1) n).getD (n - m * (l.getD 0 0).toNat) 0)
def thO (l : List Int) (n : Int) : Option Nat := if askB l n then (List.range (n.toNat / (l.getD 0 0).toNat + 1)).find? (thC l n.toNat) else none
def thV (l : List Int) (n : Int) : Int := match thO l n with | some m => m | none => 0
def thB (l : List Int) (n : Int) : Bool := (thO l n).isSome
theorem find_no {c : Nat → Bool} {m : Nat} (h : (List.range m).find? c = none) (hc : c m = false) : (List.range (m + 1)).find? c = none := by
  rw [List.range_succ, List.find?_append, h]; simp [hc]
theorem find_yes {c : Nat → Bool} {m : Nat} (h : (List.range m).find? c = none) (hc : c m = true) : ∀ k, (List.range (m + 1 + k)).find? c = some m
  | 0 => by rw [Nat.add_zero, List.range_succ, List.find?_append, h]; simp [hc]
  | k + 1 => by
    have e : m + 1 + (k + 1) = (m + 1 + k) + 1 := by omega
    rw [e, List.range_succ, List.find?_append, find_yes h hc k]; rfl

structure wOk (l : List Int) (n : Int) : Prop where
  hl : l.length ≤ 8
  hw : ∀ i, i < l.length → 1 ≤ l.getD i 0 ∧ l.getD i 0 ≤ 200
  hn : 0 ≤ n ∧ n ≤ 400
structure Sp2 extends Sp where
  tabF : List Int → List Int → Int → List (List Int)
  dp : List Int → List Int → Int → Prop
  pl : List Int → List Int
  fwF : List Int → Int → List Int
  ok : List Int → Int → Prop
  canV : List Int → Int → Bool
  nearV : List Int → Int → Int
  misL : List Int → Int → List Int
  thV : List Int → Int → Int
  thB : List Int → Int → Bool
def sp2 : Sp2 := { sp with tabF := fun ws st n => tabF ws st n.toNat, dp := dpP, pl := pl, fwF := fun l n => fwF l n.toNat, ok := wOk, canV := canV, nearV := nearV, misL := misL, thV := thV, thB := thB }
theorem wOk_dp {l : List Int} {n : Int} (h : wOk l n) : dpP l (pl l) n := ⟨h.hl, by simp [pl], h.hw, fun i hi => by rw [pl_get hi]; omega, h.hn⟩
theorem ask_ok {l : List Int} {n : Int} (h : askB l n = true) : wOk l n := by
  simp only [askB, Bool.and_eq_true, inR_iff] at h
  have := spB_len h.1
  exact ⟨by omega, fun i hi => by have := spB_at h.1 hi; omega, h.2⟩
theorem drop_ok {l : List Int} {n : Int} (h : wOk l n) : wOk (l.drop 1) n := by
  have := h.hl
  refine ⟨by simp; omega, fun i hi => ?_, h.hn⟩
  have e : (l.drop 1).getD i 0 = l.getD (1 + i) 0 := by simp [List.getD_eq_getElem?_getD, List.getElem?_drop, Nat.add_comm]
  rw [e]
  exact h.hw (1 + i) (by simp at hi; omega)
theorem wOk_few {l : List Int} {n : Int} (h : wOk l n) : (tabF l (pl l) n.toNat).getD l.length [] = fwF l n.toNat := by
  rw [tabF_get _ _ _ _ (Nat.le_refl _)]
  exact few_eq (fun i hi => (h.hw i hi).1) (by have := h.hn; omega)

theorem plenty_ok (l : List Int) (hl : l.length ≤ 1048576) : FC Try.prog 38 [.ro (.ints .i64 l)] (.own 0 true) [(3, .ints .i64 (pl l))] := by
  refine fc_eval sp S3 S3_ok hT hm Try.func38 rfl (by kernel_rfl) rfl rfl ?_
  intro A S r0 fr0 hA hS hr hfr
  cbv
  obtain ⟨L, hL⟩ : ∃ L : Int, L = l.length := ⟨_, rfl⟩
  refine loop2 (fun (i : Nat) (out : List Int) => ⟨fr 14 [(3, .own 1 false), (6, .int .i64 L), (7, .int .i64 i)], [.dead, .row 3 (.ints .i64 out)]⟩)
    (fun i out => i ≤ l.length ∧ out = List.replicate i 400) (fun i _ => l.length - i) 0 [] ?_ ?_ ?_
  · subst hA; simp [Wk_iff, fr, undefs, wkT, wkV, wkH, okid, Row.nlen, getO, alg, hL]
  · simp
  · rintro i out ⟨h1, ho⟩
    have hol : out.length = i := by rw [ho]; simp
    cbv
    (try simp only [nc] at *); subst hA hS hr hfr; simp (disch := (refine KR.mk ?_; kernel_rfl)) only [alg, obP_iff, condP_iff, retP_iff, retM_iff, ofNat_cast, nc, Int.toNat_natCast, decide_eq_true_eq, decide_eq_false_iff_not, wrap_w64, Bool.not_eq_true', Bool.not_eq_false', beq_iff_eq, beq_eq_false_iff_ne, AV.bool.injEq, AV.int.injEq, AV.t2.injEq, AV.t3.injEq, AV.own.injEq, List.cons.injEq, Prod.mk.injEq, Row.ints.injEq, RW, Row.nlen, scalar, imp_self, and_true, true_and, lexT, heldT, tailT, planT, nb, Int.toNat_zero, List.getD_cons_zero, List.getD_cons_succ, List.set_cons_zero, List.set_cons_succ, sp, sb]
    refine ⟨fun hi => ⟨by omega, by simp, i + 1, out ++ [400], ?_, ⟨by omega, by rw [ho, d_rep_snoc]⟩, by omega⟩, fun hi => ?_⟩
    · simp [Wk_iff, fr, undefs, wkT, wkV, wkH, okid, Row.nlen, w64_eq, getO]; try omega
    · have : i = l.length := by omega
      rw [ho, this]; rfl
set_option maxHeartbeats 2000000 in
set_option maxRecDepth 100000 in
theorem wsFew_ok (ws : List Int) (n : Int) (h : wOk ws n) : FC Try.prog 36 [.ro (.ints .i64 ws), .int .i64 n] (.own 0 true) [(3, .ints .i64 (fwF ws n.toNat))] := by
  refine fc_eval sp S3 S3_ok hT hm Try.func36 rfl (by kernel_rfl) rfl rfl ?_
  intro A S r0 fr0 hA hS hr hfr
  cbv
  have hl := h.hl
  have hnb := h.hn
  have wn : w64 (n + 1) = n + 1 := w64_id (by omega)
  obtain ⟨N, hN⟩ : ∃ N, N = n.toNat := ⟨_, rfl⟩
  have hnN : n = N := by omega
  have hN1 : (n + 1).toNat = N + 1 := by omega
  refine obP.mk (by (try simp only [nc] at *); subst hA hS; simp (disch := (refine KR.mk ?_; kernel_rfl)) only [alg, obP_iff, condP_iff, retP_iff, retM_iff, ofNat_cast, nc, Int.toNat_natCast, decide_eq_true_eq, decide_eq_false_iff_not, wrap_w64, Bool.not_eq_true', Bool.not_eq_false', beq_iff_eq, beq_eq_false_iff_ne, AV.bool.injEq, AV.int.injEq, AV.t2.injEq, AV.t3.injEq, AV.own.injEq, List.cons.injEq, Prod.mk.injEq, Row.ints.injEq, RW, Row.nlen, scalar, imp_self, and_true, true_and, lexT, heldT, tailT, planT, nb, Int.toNat_zero, List.getD_cons_zero, List.getD_cons_succ, List.set_cons_zero, List.set_cons_succ, sb]; rw [wn]; omega) (obP.mk (by (try simp only [nc] at *); subst hA hS; simp (disch := (refine KR.mk ?_; kernel_rfl)) only [alg, obP_iff, condP_iff, retP_iff, retM_iff, ofNat_cast, nc, Int.toNat_natCast, decide_eq_true_eq, decide_eq_false_iff_not, wrap_w64, Bool.not_eq_true', Bool.not_eq_false', beq_iff_eq, beq_eq_false_iff_ne, AV.bool.injEq, AV.int.injEq, AV.t2.injEq, AV.t3.injEq, AV.own.injEq, List.cons.injEq, Prod.mk.injEq, Row.ints.injEq, RW, Row.nlen, scalar, imp_self, and_true, true_and, lexT, heldT, tailT, planT, nb, Int.toNat_zero, List.getD_cons_zero, List.getD_cons_succ, List.set_cons_zero, List.set_cons_succ, sb]) ?_)
  refine loop2 (fun (x : Nat) (out : List Int) => ⟨fr 71 [(0, .ro (.ints .i64 ws)), (1, .int .i64 n), (5, .own 1 false), (6, .int .i64 x)], [.dead, .row 3 (.ints .i64 out)]⟩)
    (fun x out => 1 ≤ x ∧ x ≤ N + 1 ∧ out = fwF ws (x - 1) ++ List.replicate (N + 1 - x) 0) (fun x _ => N + 1 - x) 1 (List.replicate (n + 1).toNat 0) ?_ ?_ ?_
  · (try simp only [nc] at *); subst hA hS; simp (disch := (refine KR.mk ?_; kernel_rfl)) only [alg, obP_iff, condP_iff, retP_iff, retM_iff, ofNat_cast, nc, Int.toNat_natCast, decide_eq_true_eq, decide_eq_false_iff_not, wrap_w64, Bool.not_eq_true', Bool.not_eq_false', beq_iff_eq, beq_eq_false_iff_ne, AV.bool.injEq, AV.int.injEq, AV.t2.injEq, AV.t3.injEq, AV.own.injEq, List.cons.injEq, Prod.mk.injEq, Row.ints.injEq, RW, Row.nlen, scalar, imp_self, and_true, true_and, lexT, heldT, tailT, planT, nb, Int.toNat_zero, List.getD_cons_zero, List.getD_cons_succ, List.set_cons_zero, List.set_cons_succ, sb]
    simp only [wn]
    simp [Wk_iff, fr, undefs, wkT, wkV, wkH, okid, Row.nlen, getO]
  · refine ⟨by omega, by omega, ?_⟩
    rw [hN1]; rfl
  · intro x out hR
    have x1 := hR.1
    have x2 := hR.2.1
    have ho := hR.2.2
    clear hR
    obtain ⟨p, hp⟩ : ∃ p, p = fwF ws (x - 1) := ⟨_, rfl⟩
    have hpl : p.length = x := by rw [hp, fwF_len]; omega
    rw [← hp] at ho
    have hol : out.length = N + 1 := by rw [ho]; simp [hpl]; omega
    obtain ⟨L, hL⟩ : ∃ L : Int, L = ws.length := ⟨_, rfl⟩
    have HN := Hd.mk hnN
    have hfit : fitR p := by
      rw [hp, ← few_eq (fun i hi => (h.hw i hi).1) (by omega)]
      exact rowF_fit (fun i hi => (h.hw i hi).1) _ _ (Nat.le_refl _)
    cbv
    refine condP.mk (fun hc => ?_) (fun hc => ?_)
    · have hxn : x ≤ N := by
        (try simp only [nc] at *); (try subst hA); (try subst hS); simp (disch := (refine KR.mk ?_; kernel_rfl)) only [alg, obP_iff, condP_iff, retP_iff, retM_iff, ofNat_cast, nc, Int.toNat_natCast, decide_eq_true_eq, decide_eq_false_iff_not, wrap_w64, Bool.not_eq_true', Bool.not_eq_false', beq_iff_eq, beq_eq_false_iff_ne, AV.bool.injEq, AV.int.injEq, AV.t2.injEq, AV.t3.injEq, AV.own.injEq, List.cons.injEq, Prod.mk.injEq, Row.ints.injEq, RW, Row.nlen, scalar, imp_self, and_true, true_and, lexT, heldT, tailT, planT, nb, Int.toNat_zero, List.getD_cons_zero, List.getD_cons_succ, List.set_cons_zero, List.set_cons_succ, sb] at hc
        omega
      have ho2 : out = p ++ 0 :: List.replicate (N - x) 0 := by
        rw [ho, d_rep _ _ (by omega)]
        have : N + 1 - x - 1 = N - x := by omega
        rw [this]
      refine obP.mk (by (try simp only [nc] at *); subst hA hS; simp (disch := (refine KR.mk ?_; kernel_rfl)) only [alg, obP_iff, condP_iff, retP_iff, retM_iff, ofNat_cast, nc, Int.toNat_natCast, decide_eq_true_eq, decide_eq_false_iff_not, wrap_w64, Bool.not_eq_true', Bool.not_eq_false', beq_iff_eq, beq_eq_false_iff_ne, AV.bool.injEq, AV.int.injEq, AV.t2.injEq, AV.t3.injEq, AV.own.injEq, List.cons.injEq, Prod.mk.injEq, Row.ints.injEq, RW, Row.nlen, scalar, imp_self, and_true, true_and, lexT, heldT, tailT, planT, nb, Int.toNat_zero, List.getD_cons_zero, List.getD_cons_succ, List.set_cons_zero, List.set_cons_succ, sb]; omega) ?_
      refine loop3 (fun (j : Nat) (c : Int) (ou : List Int) => ⟨fr 71 [(0, .ro (.ints .i64 ws)), (1, .int .i64 n), (5, .own 1 false), (6, .int .i64 x), (20, .ro (.ints .i64 ws)), (21, .int .i64 L), (22, .int .i64 j)], [.dead, .row 3 (.ints .i64 ou)]⟩)
        (fun j c ou => j ≤ ws.length ∧ ou = p ++ c :: List.replicate (N - x) 0 ∧ ws.foldl (upd1 p x) (-1) = (ws.drop j).foldl (upd1 p x) c) (fun j _ _ => ws.length - j) 0 (-1) (out.set x (-1)) ?_ ?_ ?_
      · subst hA hS; simp [Wk_iff, fr, undefs, wkT, wkV, wkH, okid, Row.nlen, getO, alg, hL]
      · refine ⟨by omega, ?_, by simp⟩
        rw [ho2, d_app_set _ _ _ _ _ hpl.symm]
      · intro j c ou hR
        have j1 := hR.1
        have hou := hR.2.1
        have j2 := hR.2.2
        clear hR
        have oul : ou.length = N + 1 := by rw [hou]; simp [hpl]; omega
        have g1 : ou.getD x 0 = c := by rw [hou, d_app_ge _ _ _ _ (by omega), hpl]; simp
        have g2 : ∀ y, y < x → ou.getD y 0 = p.getD y 0 := fun y hy => by
          rw [hou]; simp [List.getD_eq_getElem?_getD, List.getElem?_append_left (show y < p.length by omega)]
        have g3 : ∀ v, ou.set x v = p ++ v :: List.replicate (N - x) 0 := fun v => by rw [hou, d_app_set _ _ _ _ _ hpl.symm]
        obtain ⟨w, hw⟩ : ∃ w, w = ws.getD j 0 := ⟨_, rfl⟩
        cbv
        (try simp only [nc] at *); subst hA hS hr hfr; simp (disch := (refine KR.mk ?_; kernel_rfl)) only [alg, obP_iff, condP_iff, retP_iff, retM_iff, ofNat_cast, nc, Int.toNat_natCast, decide_eq_true_eq, decide_eq_false_iff_not, wrap_w64, Bool.not_eq_true', Bool.not_eq_false', beq_iff_eq, beq_eq_false_iff_ne, AV.bool.injEq, AV.int.injEq, AV.t2.injEq, AV.t3.injEq, AV.own.injEq, List.cons.injEq, Prod.mk.injEq, Row.ints.injEq, RW, Row.nlen, scalar, imp_self, and_true, true_and, lexT, heldT, tailT, planT, nb, Int.toNat_zero, List.getD_cons_zero, List.getD_cons_succ, List.set_cons_zero, List.set_cons_succ, sp, sb]
        have wj : w64 ((j : Int) + 1) = ((j + 1 : Nat) : Int) := by rw [w64_id (by omega)]; omega
        have wx : w64 ((x : Int) + 1) = ((x + 1 : Nat) : Int) := by rw [w64_id (by omega)]; omega
        refine ⟨fun hj => ?_, fun hj => ?_⟩
        · have hwb := h.hw j (by omega)
          rw [← hw] at hwb
          have hfd : (ws.drop j).foldl (upd1 p x) c = (ws.drop (j + 1)).foldl (upd1 p x) (upd1 p x c w) := by rw [fold_drop 0 _ _ _ _ (by omega), ← hw]
          rcases Int.lt_or_le (x : Int) w with hwx | hwx
          · have hu : upd1 p x c w = c := by rw [upd1, if_neg (fun hh => by omega)]
            have hd : decide (w ≤ (x : Int)) = false := decide_eq_false (by omega)
            simp only [← hw, hd, Bool.false_and, Bool.false_eq_true, false_implies, true_implies, true_and, wj]
            refine ⟨by omega, by omega, j + 1, c, ou, ?_, ⟨by omega, hou, ?_⟩, by omega⟩
            · simp [Wk_iff, fr, undefs, wkT, wkV, wkH, okid, Row.nlen, getO]
            · rw [j2, hfd, hu]
          · obtain ⟨y, hy⟩ : ∃ y : Nat, (x : Int) - w = y := ⟨((x : Int) - w).toNat, by omega⟩
            have e1 : w64 ((x : Int) - w) = (y : Int) := by rw [w64_id (by omega), hy]
            obtain ⟨r, hr⟩ : ∃ r, r = p.getD y 0 := ⟨_, rfl⟩
            have hrb := hfit y (by omega)
            rw [← hr] at hrb
            have e3 : w64 (r + 1) = r + 1 := w64_id (by omega)
            have hd : decide (w ≤ (x : Int)) = true := decide_eq_true (by omega)
            simp only [← hw, hd, e1, Int.toNat_natCast, g1, g2 y (by omega), ← hr, e3, Bool.true_and, wj]
            refine ⟨by omega, fun _ => by omega, fun _ => by omega, fun _ => by omega, fun _ => by omega, fun hc2 => ⟨by omega, by omega, j + 1, r + 1, ou.set x (r + 1), ?_, ⟨by omega, g3 _, ?_⟩, by omega⟩, fun hc2 => ⟨j + 1, c, ou, ?_, ⟨by omega, hou, ?_⟩, by omega⟩⟩
            · simp [Wk_iff, fr, undefs, wkT, wkV, wkH, okid, Row.nlen, getO]
            · simp only [Bool.and_eq_true, Bool.or_eq_true, decide_eq_true_eq] at hc2
              rw [j2, hfd, upd1, hy, Int.toNat_natCast, ← hr, if_pos ⟨by omega, hc2.1, hc2.2⟩]
            · simp [Wk_iff, fr, undefs, wkT, wkV, wkH, okid, Row.nlen, getO]
            · have hn2 : ¬ (0 ≤ r ∧ (c < 0 ∨ r + 1 < c)) := fun hh => by
                have : (decide (0 ≤ r) && (decide (c < 0) || decide (r + 1 < c))) = true := by
                  simp only [Bool.and_eq_true, Bool.or_eq_true, decide_eq_true_eq]; exact hh
                rw [this] at hc2; cases hc2
              rw [j2, hfd, upd1, hy, Int.toNat_natCast, ← hr, if_neg (fun hh => hn2 hh.2)]
        · refine ⟨x + 1, ou, ?_, ⟨by omega, by omega, ?_⟩, by omega⟩
          · simp only [wx]
            simp [Wk_iff, fr, undefs, wkT, wkV, wkH, okid, Row.nlen, getO]
          · obtain ⟨x', hx'⟩ : ∃ x', x = x' + 1 := ⟨x - 1, by omega⟩
            have e1 : x + 1 - 1 = x' + 1 := by omega
            have e2 : N + 1 - (x + 1) = N - x := by omega
            have e3 : x - 1 = x' := by omega
            rw [fold_end _ _ _ _ (by omega)] at j2
            rw [e1, e2, fwF, hou, ← j2, hp, e3, hx']
            simp
    · have hxn : ¬ x ≤ N := by
        (try simp only [nc] at *); (try subst hA); (try subst hS); simp (disch := (refine KR.mk ?_; kernel_rfl)) only [alg, obP_iff, condP_iff, retP_iff, retM_iff, ofNat_cast, nc, Int.toNat_natCast, decide_eq_true_eq, decide_eq_false_iff_not, wrap_w64, Bool.not_eq_true', Bool.not_eq_false', beq_iff_eq, beq_eq_false_iff_ne, AV.bool.injEq, AV.int.injEq, AV.t2.injEq, AV.t3.injEq, AV.own.injEq, List.cons.injEq, Prod.mk.injEq, Row.ints.injEq, RW, Row.nlen, scalar, imp_self, and_true, true_and, lexT, heldT, tailT, planT, nb, Int.toNat_zero, List.getD_cons_zero, List.getD_cons_succ, List.set_cons_zero, List.set_cons_succ, sb] at hc
        omega
      (try simp only [nc] at *); subst hA hS hr hfr; simp (disch := (refine KR.mk ?_; kernel_rfl)) only [alg, obP_iff, condP_iff, retP_iff, retM_iff, ofNat_cast, nc, Int.toNat_natCast, decide_eq_true_eq, decide_eq_false_iff_not, wrap_w64, Bool.not_eq_true', Bool.not_eq_false', beq_iff_eq, beq_eq_false_iff_ne, AV.bool.injEq, AV.int.injEq, AV.t2.injEq, AV.t3.injEq, AV.own.injEq, List.cons.injEq, Prod.mk.injEq, Row.ints.injEq, RW, Row.nlen, scalar, imp_self, and_true, true_and, lexT, heldT, tailT, planT, nb, Int.toNat_zero, List.getD_cons_zero, List.getD_cons_succ, List.set_cons_zero, List.set_cons_succ, sp, sb]
      have e : x - 1 = N := by omega
      have e2 : N + 1 - x = 0 := by omega
      rw [ho, hp, e, e2, ← hN]; simp
end Go.Proofs.Ytjkkjfnkcfaigaa
