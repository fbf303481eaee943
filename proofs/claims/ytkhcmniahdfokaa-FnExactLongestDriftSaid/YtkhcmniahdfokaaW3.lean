/-
  Trials: the functions that the laws compare, each side with the same contract.
-/
import Derived.Test.YtkhcmniahdfokaaW2
set_option linter.unusedSimpArgs false
set_option linter.unusedVariables false
namespace Go.Proofs.Ytkhcmniahdfokaa
open Go.Ab

def outB (l : List Int) (m : Int) : Bool := good l && inR m 0 500
def outL (l : List Int) (m : Int) : List Int := if outB l m then outF l 0 m else []
def accB (l : List Int) (m k : Int) : Bool := good l && inR m 0 500 && inR k 0 40
def accV (l : List Int) (m k : Int) : Bool := accB l m k && decide ((outF l 0 m).length ≤ k)
def sumsB (l : List Int) (a : Int) : Bool := good l && inR a (-500) 500
def sumsL (l : List Int) (a : Int) : List Int := if sumsB l a then sumsF l 0 a else []
def joinB (a b : List Int) : Bool := good a && good b && decide ((a.length : Int) + b.length ≤ 40)
def joinL (a b : List Int) : List Int := if joinB a b then a ++ b else []
def leastB (l : List Int) (k : Int) : Bool := good l && inR k 0 40
def leastF : Nat → Int → List Int → Int → Int
  | 0, m, _, _ => m
  | n + 1, m, l, k => if k < (outF l 0 m).length then leastF n (m + 1) l k else m
def leastV (l : List Int) (k : Int) : Int := if leastB l k then leastF 501 0 l k else 0
def firstF : List Int → Int → Int → Option Int
  | [], _, _ => none
  | x :: r, i, m => if m < absW x then some i else firstF r (i + 1) m
def alarmB (l : List Int) (a m : Int) : Bool := good l && inR a (-500) 500 && inR m 0 20000
def alarm (l : List Int) (a m : Int) : Option Int := if alarmB l a m then firstF (sumsF l 0 a) 0 m else none
def alarmV (l : List Int) (a m : Int) : Int := (alarm l a m).getD 0
def alarmO (l : List Int) (a m : Int) : Bool := (alarm l a m).isSome
def inF : List Int → Int → List Int
  | [], _ => []
  | x :: r, m => if absW x ≤ m then x :: inF r m else inF r m
def woL (l : List Int) (m : Int) : List Int := if outB l m then inF l m else []
def woB (l : List Int) (m : Int) : Bool := decide (0 < (woL l m).length)
def gcdOf (l : List Int) : Int := Int.gcd (absW (sumF l 0)) l.length
def meanN (l : List Int) : Int := if good l then w64 ((sumF l 0).tdiv (gcdOf l)) else 0
def meanD (l : List Int) : Int := if good l then w64 ((l.length : Int).tdiv (gcdOf l)) else 0

structure Sp3 extends Sp2 where
  outF : List Int → Int → Int → List Int
  sumsF : List Int → Int → Int → List Int
  sumF : List Int → Int → Int
  gcd : Int → Int → Int
  nn : Int → Prop
  outL : List Int → Int → List Int
  outB : List Int → Int → Bool
  accV : List Int → Int → Int → Bool
  accB : List Int → Int → Int → Bool
  sumsL : List Int → Int → List Int
  sumsB : List Int → Int → Bool
  joinL : List Int → List Int → List Int
  joinB : List Int → List Int → Bool
  leastV : List Int → Int → Int
  leastB : List Int → Int → Bool
  alarmV : List Int → Int → Int → Int
  alarmO : List Int → Int → Int → Bool
  woL : List Int → Int → List Int
  woB : List Int → Int → Bool
  meanN : List Int → Int
  meanD : List Int → Int
def sp3 : Sp3 := { sp2 with
  outF := outF, sumsF := sumsF, sumF := sumF, gcd := fun a b => Int.gcd a b, nn := fun a => 0 ≤ a
  outL := outL, outB := outB, accV := accV, accB := accB, sumsL := sumsL, sumsB := sumsB, joinL := joinL, joinB := joinB
  leastV := leastV, leastB := leastB, alarmV := alarmV, alarmO := alarmO, woL := woL, woB := woB, meanN := meanN, meanD := meanD }

theorem isTolerance_ok (n : Int) : FC Try.prog 44 [.int .i64 n] (.bool (inR n 0 500)) [] := by
  refine fc_eval sp2 U2 U2_ok hT hm Try.func44 rfl (by kernel_rfl) rfl rfl ?_
  intro A S r0 fr0 hA hS hr hfr
  cbv
  (try simp only [nc] at *); subst hA hS hr hfr; simp only [alg, obP_iff, condP_iff, retP_iff, retM_iff, ofNat_cast, nc, Int.toNat_natCast, decide_eq_true_eq, decide_eq_false_iff_not, IntKind.wrap_i64, Bool.not_eq_true', Bool.not_eq_false', beq_iff_eq, beq_eq_false_iff_ne, AV.bool.injEq, AV.int.injEq, AV.t2.injEq, AV.t3.injEq, AV.own.injEq, List.cons.injEq, Prod.mk.injEq, Row.ints.injEq, RW, Row.nlen, scalar, and_true, true_and, sp2, sp]
theorem isAllowed_ok (n : Int) : FC Try.prog 45 [.int .i64 n] (.bool (inR n 0 40)) [] := by
  refine fc_eval sp2 U2 U2_ok hT hm Try.func45 rfl (by kernel_rfl) rfl rfl ?_
  intro A S r0 fr0 hA hS hr hfr
  cbv
  (try simp only [nc] at *); subst hA hS hr hfr; simp only [alg, obP_iff, condP_iff, retP_iff, retM_iff, ofNat_cast, nc, Int.toNat_natCast, decide_eq_true_eq, decide_eq_false_iff_not, IntKind.wrap_i64, Bool.not_eq_true', Bool.not_eq_false', beq_iff_eq, beq_eq_false_iff_ne, AV.bool.injEq, AV.int.injEq, AV.t2.injEq, AV.t3.injEq, AV.own.injEq, List.cons.injEq, Prod.mk.injEq, Row.ints.injEq, RW, Row.nlen, scalar, and_true, true_and, sp2, sp]
theorem gaTolerance_ok (n : Int) : FC Try.prog 41 [.int .i64 n] (.bool (inR n 0 500)) [] := by
  refine fc_eval sp2 U2 U2_ok hT hm Try.func41 rfl (by kernel_rfl) rfl rfl ?_
  intro A S r0 fr0 hA hS hr hfr
  cbv
  (try simp only [nc] at *); subst hA hS hr hfr; simp only [alg, obP_iff, condP_iff, retP_iff, retM_iff, ofNat_cast, nc, Int.toNat_natCast, decide_eq_true_eq, decide_eq_false_iff_not, IntKind.wrap_i64, Bool.not_eq_true', Bool.not_eq_false', beq_iff_eq, beq_eq_false_iff_ne, AV.bool.injEq, AV.int.injEq, AV.t2.injEq, AV.t3.injEq, AV.own.injEq, List.cons.injEq, Prod.mk.injEq, Row.ints.injEq, RW, Row.nlen, scalar, and_true, true_and, sp2, sp]
theorem gaAim_ok (n : Int) : FC Try.prog 49 [.int .i64 n] (.bool (inR n (-500) 500)) [] := by
  refine fc_eval sp2 U2 U2_ok hT hm Try.func49 rfl (by kernel_rfl) rfl rfl ?_
  intro A S r0 fr0 hA hS hr hfr
  cbv
  (try simp only [nc] at *); subst hA hS hr hfr; simp only [alg, obP_iff, condP_iff, retP_iff, retM_iff, ofNat_cast, nc, Int.toNat_natCast, decide_eq_true_eq, decide_eq_false_iff_not, IntKind.wrap_i64, Bool.not_eq_true', Bool.not_eq_false', beq_iff_eq, beq_eq_false_iff_ne, AV.bool.injEq, AV.int.injEq, AV.t2.injEq, AV.t3.injEq, AV.own.injEq, List.cons.injEq, Prod.mk.injEq, Row.ints.injEq, RW, Row.nlen, scalar, and_true, true_and, sp2, sp]
theorem l1Own_ok (l : List Int) (hl : l.length ≤ 1048576) : FC Try.prog 40 [.ro (.ints .i64 l)] (.own 0 false) [(3, .ints .i64 l)] := by
  refine fc_eval sp2 U2 U2_ok hT hm Try.func40 rfl (by kernel_rfl) rfl rfl ?_
  intro A S r0 fr0 hA hS hr hfr
  cbv
  (try simp only [nc] at *); subst hA hS hr hfr; simp only [alg, obP_iff, condP_iff, retP_iff, retM_iff, ofNat_cast, nc, Int.toNat_natCast, decide_eq_true_eq, decide_eq_false_iff_not, IntKind.wrap_i64, Bool.not_eq_true', Bool.not_eq_false', beq_iff_eq, beq_eq_false_iff_ne, AV.bool.injEq, AV.int.injEq, AV.t2.injEq, AV.t3.injEq, AV.own.injEq, List.cons.injEq, Prod.mk.injEq, Row.ints.injEq, RW, Row.nlen, scalar, and_true, true_and, sp2, sp]
  simp; omega

def V1 (S : Sp3) : List (Nat × (List AV → CR)) :=
  (44, fun args => match args with | [.int .i64 n] => .pure (True) (.bool (S.inR n 0 500)) [] | _ => .no) ::
  (45, fun args => match args with | [.int .i64 n] => .pure (True) (.bool (S.inR n 0 40)) [] | _ => .no) ::
  (41, fun args => match args with | [.int .i64 n] => .pure (True) (.bool (S.inR n 0 500)) [] | _ => .no) ::
  (49, fun args => match args with | [.int .i64 n] => .pure (True) (.bool (S.inR n (-500) 500)) [] | _ => .no) ::
  (40, fun args => match args with | [.ro (.ints .i64 l)] => .pure (S.sm l) (.own 0 false) [(3, .ints .i64 l)] | _ => .no) ::
  (46, fun args => match args with | [.ro (.ints .i64 l), .int .i64 m] => .pure (S.sm l) (.own 0 true) [(3, .ints .i64 (S.outF l 0 m))] | _ => .no) ::
  (43, fun args => match args with | [.ro (.ints .i64 l), .int .i64 m] => .pure (S.sm l) (.own 0 true) [(3, .ints .i64 (S.outF l 0 m))] | _ => .no) ::
  (51, fun args => match args with | [.ro (.ints .i64 l), .int .i64 m] => .pure (S.sm l) (.own 0 true) [(3, .ints .i64 (S.sumsF l 0 m))] | _ => .no) ::
  (50, fun args => match args with | [.ro (.ints .i64 l), .int .i64 m] => .pure (S.sm l) (.own 0 true) [(3, .ints .i64 (S.sumsF l 0 m))] | _ => .no) ::
  (55, fun args => match args with | [.ro (.ints .i64 l)] => .pure (S.sm l) (.int .i64 (S.sumF l 0)) [] | _ => .no) ::
  (54, fun args => match args with | [.ro (.ints .i64 l)] => .pure (S.sm l) (.int .i64 (S.sumF l 0)) [] | _ => .no) ::
  (56, fun args => match args with | [.int .i64 a, .int .i64 b] => .pure (S.nn a ∧ S.nn b) (.int .i64 (S.gcd a b)) [] | _ => .no) ::
  U2 S.toSp2
set_option maxRecDepth 100000 in
theorem V1_ok : TabOK Try.prog (tfind (V1 sp3)) := by
  refine tab_cons (fun args => ?_) (tab_cons (fun args => ?_) (tab_cons (fun args => ?_) (tab_cons (fun args => ?_) (tab_cons (fun args => ?_) (tab_cons (fun args => ?_) (tab_cons (fun args => ?_) (tab_cons (fun args => ?_) (tab_cons (fun args => ?_) (tab_cons (fun args => ?_) (tab_cons (fun args => ?_) (tab_cons (fun args => ?_) (U2_ok))))))))))))
  · split
    · exact ent_pure fun _ => isTolerance_ok _
    · exact ent_no
  · split
    · exact ent_pure fun _ => isAllowed_ok _
    · exact ent_no
  · split
    · exact ent_pure fun _ => gaTolerance_ok _
    · exact ent_no
  · split
    · exact ent_pure fun _ => gaAim_ok _
    · exact ent_no
  · split
    · exact ent_pure fun h => l1Own_ok _ h
    · exact ent_no
  · split
    · exact ent_pure fun h => outside_ok _ _ h
    · exact ent_no
  · split
    · exact ent_pure fun h => gaOutside_ok _ _ h
    · exact ent_no
  · split
    · exact ent_pure fun h => sums_ok _ _ h
    · exact ent_no
  · split
    · exact ent_pure fun h => gaSums_ok _ _ h
    · exact ent_no
  · split
    · exact ent_pure fun h => sum_ok _ h
    · exact ent_no
  · split
    · exact ent_pure fun h => gaSum_ok _ h
    · exact ent_no
  · split
    · exact ent_pure fun h => gcd_ok _ _ h.1 h.2
    · exact ent_no

theorem good_len {l : List Int} (h : good l = true) : l.length ≤ 40 := by
  simp [good, inR] at h; omega

theorem specJoin_ok (a b : List Int) (ha : a.length ≤ 1048576) (hb : b.length ≤ 1048576) : FC Try.prog 17 [.ro (.ints .i64 a), .ro (.ints .i64 b)] (.t2 (.own 0 true) (.bool (joinB a b))) [(3, .ints .i64 (joinL a b))] := by
  refine fc_eval sp3 V1 V1_ok hT hm Try.func17 rfl (by kernel_rfl) rfl rfl ?_
  intro A S r0 fr0 hA hS hr hfr
  cbv
  (try simp only [nc] at *); subst hA hS hr hfr; simp only [alg, obP_iff, condP_iff, retP_iff, retM_iff, ofNat_cast, nc, Int.toNat_natCast, decide_eq_true_eq, decide_eq_false_iff_not, IntKind.wrap_i64, Bool.not_eq_true', Bool.not_eq_false', beq_iff_eq, beq_eq_false_iff_ne, AV.bool.injEq, AV.int.injEq, AV.t2.injEq, AV.t3.injEq, AV.own.injEq, List.cons.injEq, Prod.mk.injEq, Row.ints.injEq, RW, Row.nlen, scalar, and_true, true_and, sp3, sp2, sp, joinB, joinL]
  have hw : ((a.length : Int) + b.length + 9223372036854775808) % 18446744073709551616 - 9223372036854775808 = a.length + b.length := by omega
  simp only [hw]
  rcases Bool.eq_false_or_eq_true (good a) with c0 | c0 <;> rcases Bool.eq_false_or_eq_true (good b) with c1 | c1 <;> simp [c0, c1, ha, hb]
  refine ⟨fun h => ⟨by omega, fun h' => ?_⟩, fun h => ?_⟩ <;> omega
theorem implJoin_ok (a b : List Int) (ha : a.length ≤ 1048576) (hb : b.length ≤ 1048576) : FC Try.prog 18 [.ro (.ints .i64 a), .ro (.ints .i64 b)] (.t2 (.own 0 true) (.bool (joinB a b))) [(3, .ints .i64 (joinL a b))] := by
  refine fc_eval sp3 V1 V1_ok hT hm Try.func18 rfl (by kernel_rfl) rfl rfl ?_
  intro A S r0 fr0 hA hS hr hfr
  cbv
  (try simp only [nc] at *); subst hA hS hr hfr; simp only [alg, obP_iff, condP_iff, retP_iff, retM_iff, ofNat_cast, nc, Int.toNat_natCast, decide_eq_true_eq, decide_eq_false_iff_not, IntKind.wrap_i64, Bool.not_eq_true', Bool.not_eq_false', beq_iff_eq, beq_eq_false_iff_ne, AV.bool.injEq, AV.int.injEq, AV.t2.injEq, AV.t3.injEq, AV.own.injEq, List.cons.injEq, Prod.mk.injEq, Row.ints.injEq, RW, Row.nlen, scalar, and_true, true_and, sp3, sp2, sp, joinB, joinL]
  have hw : ((a.length : Int) + b.length + 9223372036854775808) % 18446744073709551616 - 9223372036854775808 = a.length + b.length := by omega
  simp only [hw]
  rcases Bool.eq_false_or_eq_true (good a) with c0 | c0 <;> rcases Bool.eq_false_or_eq_true (good b) with c1 | c1 <;> simp [c0, c1, ha, hb]
  refine ⟨fun h => ⟨by omega, fun h' => ?_⟩, fun h => ?_⟩ <;> omega
theorem specAcc_ok (l : List Int) (m k : Int) (hl : l.length ≤ 1048576) : FC Try.prog 21 [.ro (.ints .i64 l), .int .i64 m, .int .i64 k] (.t2 (.bool (accV l m k)) (.bool (accB l m k))) [] := by
  refine fc_eval sp3 V1 V1_ok hT hm Try.func21 rfl (by kernel_rfl) rfl rfl ?_
  intro A S r0 fr0 hA hS hr hfr
  cbv
  (try simp only [nc] at *); subst hA hS hr hfr; simp only [alg, obP_iff, condP_iff, retP_iff, retM_iff, ofNat_cast, nc, Int.toNat_natCast, decide_eq_true_eq, decide_eq_false_iff_not, IntKind.wrap_i64, Bool.not_eq_true', Bool.not_eq_false', beq_iff_eq, beq_eq_false_iff_ne, AV.bool.injEq, AV.int.injEq, AV.t2.injEq, AV.t3.injEq, AV.own.injEq, List.cons.injEq, Prod.mk.injEq, Row.ints.injEq, RW, Row.nlen, scalar, and_true, true_and, sp3, sp2, sp, accV, accB]
  rcases Bool.eq_false_or_eq_true (good l) with c0 | c0 <;> rcases Bool.eq_false_or_eq_true (inR m 0 500) with c1 | c1 <;> rcases Bool.eq_false_or_eq_true (inR k 0 40) with c2 | c2 <;> simp [c0, c1, c2, hl]
theorem specOut_ok (l : List Int) (m : Int) (hl : l.length ≤ 1048576) : FC Try.prog 35 [.ro (.ints .i64 l), .int .i64 m] (.t2 (.own 0 true) (.bool (outB l m))) [(3, .ints .i64 (outL l m))] := by
  refine fc_eval sp3 V1 V1_ok hT hm Try.func35 rfl (by kernel_rfl) rfl rfl ?_
  intro A S r0 fr0 hA hS hr hfr
  cbv
  (try simp only [nc] at *); subst hA hS hr hfr; simp only [alg, obP_iff, condP_iff, retP_iff, retM_iff, ofNat_cast, nc, Int.toNat_natCast, decide_eq_true_eq, decide_eq_false_iff_not, IntKind.wrap_i64, Bool.not_eq_true', Bool.not_eq_false', beq_iff_eq, beq_eq_false_iff_ne, AV.bool.injEq, AV.int.injEq, AV.t2.injEq, AV.t3.injEq, AV.own.injEq, List.cons.injEq, Prod.mk.injEq, Row.ints.injEq, RW, Row.nlen, scalar, and_true, true_and, sp3, sp2, sp, outL, outB]
  rcases Bool.eq_false_or_eq_true (good l) with c0 | c0 <;> rcases Bool.eq_false_or_eq_true (inR m 0 500) with c1 | c1 <;> simp [c0, c1, hl]
theorem specSums_ok (l : List Int) (m : Int) (hl : l.length ≤ 1048576) : FC Try.prog 25 [.ro (.ints .i64 l), .int .i64 m] (.t2 (.own 0 true) (.bool (sumsB l m))) [(3, .ints .i64 (sumsL l m))] := by
  refine fc_eval sp3 V1 V1_ok hT hm Try.func25 rfl (by kernel_rfl) rfl rfl ?_
  intro A S r0 fr0 hA hS hr hfr
  cbv
  (try simp only [nc] at *); subst hA hS hr hfr; simp only [alg, obP_iff, condP_iff, retP_iff, retM_iff, ofNat_cast, nc, Int.toNat_natCast, decide_eq_true_eq, decide_eq_false_iff_not, IntKind.wrap_i64, Bool.not_eq_true', Bool.not_eq_false', beq_iff_eq, beq_eq_false_iff_ne, AV.bool.injEq, AV.int.injEq, AV.t2.injEq, AV.t3.injEq, AV.own.injEq, List.cons.injEq, Prod.mk.injEq, Row.ints.injEq, RW, Row.nlen, scalar, and_true, true_and, sp3, sp2, sp, sumsL, sumsB]
  rcases Bool.eq_false_or_eq_true (good l) with c0 | c0 <;> rcases Bool.eq_false_or_eq_true (inR m (-500) 500) with c1 | c1 <;> simp [c0, c1, hl]
theorem implAcc_ok (l : List Int) (m k : Int) (hl : l.length ≤ 1048576) : FC Try.prog 22 [.ro (.ints .i64 l), .int .i64 m, .int .i64 k] (.t2 (.bool (accV l m k)) (.bool (accB l m k))) [] := by
  refine fc_eval sp3 V1 V1_ok hT hm Try.func22 rfl (by kernel_rfl) rfl rfl ?_
  intro A S r0 fr0 hA hS hr hfr
  cbv
  (try simp only [nc] at *); subst hA hS hr hfr; simp only [alg, obP_iff, condP_iff, retP_iff, retM_iff, ofNat_cast, nc, Int.toNat_natCast, decide_eq_true_eq, decide_eq_false_iff_not, IntKind.wrap_i64, Bool.not_eq_true', Bool.not_eq_false', beq_iff_eq, beq_eq_false_iff_ne, AV.bool.injEq, AV.int.injEq, AV.t2.injEq, AV.t3.injEq, AV.own.injEq, List.cons.injEq, Prod.mk.injEq, Row.ints.injEq, RW, Row.nlen, scalar, and_true, true_and, sp3, sp2, sp, accV, accB]
  rcases Bool.eq_false_or_eq_true (good l) with c0 | c0 <;> rcases Bool.eq_false_or_eq_true (inR m 0 500) with c1 | c1 <;> rcases Bool.eq_false_or_eq_true (inR k 0 40) with c2 | c2 <;> simp [c0, c1, c2, hl]
theorem implOut_ok (l : List Int) (m : Int) (hl : l.length ≤ 1048576) : FC Try.prog 36 [.ro (.ints .i64 l), .int .i64 m] (.t2 (.own 0 true) (.bool (outB l m))) [(3, .ints .i64 (outL l m))] := by
  refine fc_eval sp3 V1 V1_ok hT hm Try.func36 rfl (by kernel_rfl) rfl rfl ?_
  intro A S r0 fr0 hA hS hr hfr
  cbv
  (try simp only [nc] at *); subst hA hS hr hfr; simp only [alg, obP_iff, condP_iff, retP_iff, retM_iff, ofNat_cast, nc, Int.toNat_natCast, decide_eq_true_eq, decide_eq_false_iff_not, IntKind.wrap_i64, Bool.not_eq_true', Bool.not_eq_false', beq_iff_eq, beq_eq_false_iff_ne, AV.bool.injEq, AV.int.injEq, AV.t2.injEq, AV.t3.injEq, AV.own.injEq, List.cons.injEq, Prod.mk.injEq, Row.ints.injEq, RW, Row.nlen, scalar, and_true, true_and, sp3, sp2, sp, outL, outB]
  rcases Bool.eq_false_or_eq_true (good l) with c0 | c0 <;> rcases Bool.eq_false_or_eq_true (inR m 0 500) with c1 | c1 <;> simp [c0, c1, hl]
theorem implSums_ok (l : List Int) (m : Int) (hl : l.length ≤ 1048576) : FC Try.prog 26 [.ro (.ints .i64 l), .int .i64 m] (.t2 (.own 0 true) (.bool (sumsB l m))) [(3, .ints .i64 (sumsL l m))] := by
  refine fc_eval sp3 V1 V1_ok hT hm Try.func26 rfl (by kernel_rfl) rfl rfl ?_
  intro A S r0 fr0 hA hS hr hfr
  cbv
  (try simp only [nc] at *); subst hA hS hr hfr; simp only [alg, obP_iff, condP_iff, retP_iff, retM_iff, ofNat_cast, nc, Int.toNat_natCast, decide_eq_true_eq, decide_eq_false_iff_not, IntKind.wrap_i64, Bool.not_eq_true', Bool.not_eq_false', beq_iff_eq, beq_eq_false_iff_ne, AV.bool.injEq, AV.int.injEq, AV.t2.injEq, AV.t3.injEq, AV.own.injEq, List.cons.injEq, Prod.mk.injEq, Row.ints.injEq, RW, Row.nlen, scalar, and_true, true_and, sp3, sp2, sp, sumsL, sumsB]
  rcases Bool.eq_false_or_eq_true (good l) with c0 | c0 <;> rcases Bool.eq_false_or_eq_true (inR m (-500) 500) with c1 | c1 <;> simp [c0, c1, hl]
theorem absW_small {n : Int} (h : inR n (-500) 500 = true) : 0 ≤ absW n ∧ absW n ≤ 500 := by
  simp [inR] at h
  simp only [absW, w64, IntKind.wrap_i64]
  split <;> omega
theorem outF_none (m : Int) (hm : 500 ≤ m) : ∀ (l : List Int) (i : Int), allR l (-500) 500 = true → outF l i m = []
  | [], _, _ => rfl
  | x :: r, i, h => by
    simp only [allR, List.all_cons, Bool.and_eq_true] at h
    have := absW_small h.1
    rw [outF, if_neg (by omega)]
    exact outF_none m hm r _ h.2
theorem good_all {l : List Int} (h : good l = true) : allR l (-500) 500 = true := by
  simp [good] at h; exact h.2

theorem specLeast_ok (l : List Int) (k : Int) (hl : l.length ≤ 1048576) : FC Try.prog 27 [.ro (.ints .i64 l), .int .i64 k] (.t2 (.int .i64 (leastV l k)) (.bool (leastB l k))) [] := by
  refine fc_eval sp3 V1 V1_ok hT hm Try.func27 rfl (by kernel_rfl) rfl rfl ?_
  intro A S r0 fr0 hA hS hr hfr
  cbv
  repeat refine obP.mk (by subst hA hS; simp [alg, sp3, sp2, sp, hl]) ?_
  refine condP.mk (fun hc => ?_) (fun hc => ?_)
  · (try simp only [nc] at *); subst hA hS hr hfr; simp only [alg, obP_iff, condP_iff, retP_iff, retM_iff, ofNat_cast, nc, Int.toNat_natCast, decide_eq_true_eq, decide_eq_false_iff_not, IntKind.wrap_i64, Bool.not_eq_true', Bool.not_eq_false', beq_iff_eq, beq_eq_false_iff_ne, AV.bool.injEq, AV.int.injEq, AV.t2.injEq, AV.t3.injEq, AV.own.injEq, List.cons.injEq, Prod.mk.injEq, Row.ints.injEq, RW, Row.nlen, scalar, and_true, true_and, sp3, sp2, sp, leastV, leastB]
    simp [alg, sp3, sp2, sp] at hc
    rcases Bool.eq_false_or_eq_true (good l) with c1 | c1 <;> rcases Bool.eq_false_or_eq_true (inR k 0 40) with c2 | c2 <;> simp [c1, c2] at hc ⊢
  · have hg : good l = true ∧ inR k 0 40 = true := by subst hA hS; simpa [alg, sp3, sp2, sp] using hc
    have hv : leastV l k = leastF 501 0 l k := by simp [leastV, leastB, hg]
    have hb : leastB l k = true := by simp [leastB, hg]
    have hk0 : 0 ≤ k := by have := hg.2; simp [inR] at this; omega
    rw [hv, hb] at hr
    refine loop2 (fun (j : Nat) (m : Int) => ⟨fr 24 [(0, .ro (.ints .i64 l)), (1, .int .i64 k), (6, .int .i64 m)], [.dead]⟩)
      (fun j m => j ≤ 501 ∧ m = 501 - j ∧ leastF 501 0 l k = leastF j m l k) (fun j _ => j) 501 0 ?_ ?_ ?_
    · subst hA; simp [Wk_iff, fr, undefs, wkT, wkV, wkH, okid, Row.nlen, alg]
    · simp
    · rintro j m ⟨h1, h2, h3⟩
      cbv
      (try simp only [nc] at *); subst hA hS hr hfr; simp only [alg, obP_iff, condP_iff, retP_iff, retM_iff, ofNat_cast, nc, Int.toNat_natCast, decide_eq_true_eq, decide_eq_false_iff_not, IntKind.wrap_i64, Bool.not_eq_true', Bool.not_eq_false', beq_iff_eq, beq_eq_false_iff_ne, AV.bool.injEq, AV.int.injEq, AV.t2.injEq, AV.t3.injEq, AV.own.injEq, List.cons.injEq, Prod.mk.injEq, Row.ints.injEq, RW, Row.nlen, scalar, and_true, true_and, sp3, sp2, sp]
      refine ⟨hl, fun hc => ?_, fun hc => ?_⟩
      · have hm5 : m < 500 := by
          rcases Int.lt_or_le m 500 with h | h
          · exact h
          · rw [outF_none m h l 0 (good_all hg.1)] at hc
            simp at hc; omega
        cases j with
        | zero => omega
        | succ j =>
          refine ⟨j, m + 1, ?_, ⟨by omega, by omega, ?_⟩, by omega⟩
          · simp [Wk_iff, fr, undefs, wkT, wkV, wkH, okid, Row.nlen]; try omega
          · rw [h3, leastF, if_pos hc]
      · rw [h3]
        cases j with
        | zero => rfl
        | succ j => rw [leastF, if_neg hc]
theorem implLeast_ok (l : List Int) (k : Int) (hl : l.length ≤ 1048576) : FC Try.prog 28 [.ro (.ints .i64 l), .int .i64 k] (.t2 (.int .i64 (leastV l k)) (.bool (leastB l k))) [] := by
  refine fc_eval sp3 V1 V1_ok hT hm Try.func28 rfl (by kernel_rfl) rfl rfl ?_
  intro A S r0 fr0 hA hS hr hfr
  cbv
  repeat refine obP.mk (by subst hA hS; simp [alg, sp3, sp2, sp, hl]) ?_
  refine condP.mk (fun hc => ?_) (fun hc => ?_)
  · (try simp only [nc] at *); subst hA hS hr hfr; simp only [alg, obP_iff, condP_iff, retP_iff, retM_iff, ofNat_cast, nc, Int.toNat_natCast, decide_eq_true_eq, decide_eq_false_iff_not, IntKind.wrap_i64, Bool.not_eq_true', Bool.not_eq_false', beq_iff_eq, beq_eq_false_iff_ne, AV.bool.injEq, AV.int.injEq, AV.t2.injEq, AV.t3.injEq, AV.own.injEq, List.cons.injEq, Prod.mk.injEq, Row.ints.injEq, RW, Row.nlen, scalar, and_true, true_and, sp3, sp2, sp, leastV, leastB]
    simp [alg, sp3, sp2, sp] at hc
    rcases Bool.eq_false_or_eq_true (good l) with c1 | c1 <;> rcases Bool.eq_false_or_eq_true (inR k 0 40) with c2 | c2 <;> simp [c1, c2] at hc ⊢
  · have hg : good l = true ∧ inR k 0 40 = true := by subst hA hS; simpa [alg, sp3, sp2, sp] using hc
    have hv : leastV l k = leastF 501 0 l k := by simp [leastV, leastB, hg]
    have hb : leastB l k = true := by simp [leastB, hg]
    have hk0 : 0 ≤ k := by have := hg.2; simp [inR] at this; omega
    rw [hv, hb] at hr
    refine loop2 (fun (j : Nat) (m : Int) => ⟨fr 24 [(0, .ro (.ints .i64 l)), (1, .int .i64 k), (6, .int .i64 m)], [.dead]⟩)
      (fun j m => j ≤ 501 ∧ m = 501 - j ∧ leastF 501 0 l k = leastF j m l k) (fun j _ => j) 501 0 ?_ ?_ ?_
    · subst hA; simp [Wk_iff, fr, undefs, wkT, wkV, wkH, okid, Row.nlen, alg]
    · simp
    · rintro j m ⟨h1, h2, h3⟩
      cbv
      (try simp only [nc] at *); subst hA hS hr hfr; simp only [alg, obP_iff, condP_iff, retP_iff, retM_iff, ofNat_cast, nc, Int.toNat_natCast, decide_eq_true_eq, decide_eq_false_iff_not, IntKind.wrap_i64, Bool.not_eq_true', Bool.not_eq_false', beq_iff_eq, beq_eq_false_iff_ne, AV.bool.injEq, AV.int.injEq, AV.t2.injEq, AV.t3.injEq, AV.own.injEq, List.cons.injEq, Prod.mk.injEq, Row.ints.injEq, RW, Row.nlen, scalar, and_true, true_and, sp3, sp2, sp]
      refine ⟨hl, fun hc => ?_, fun hc => ?_⟩
      · have hm5 : m < 500 := by
          rcases Int.lt_or_le m 500 with h | h
          · exact h
          · rw [outF_none m h l 0 (good_all hg.1)] at hc
            simp at hc; omega
        cases j with
        | zero => omega
        | succ j =>
          refine ⟨j, m + 1, ?_, ⟨by omega, by omega, ?_⟩, by omega⟩
          · simp [Wk_iff, fr, undefs, wkT, wkV, wkH, okid, Row.nlen]; try omega
          · rw [h3, leastF, if_pos hc]
      · rw [h3]
        cases j with
        | zero => rfl
        | succ j => rw [leastF, if_neg hc]
theorem sumsF_len : ∀ (l : List Int) (n a : Int), (sumsF l n a).length = l.length
  | [], _, _ => rfl
  | x :: r, n, a => by simp [sumsF, sumsF_len r]
theorem firstF_drop (l : List Int) (i : Nat) (q m : Int) (h : i < l.length) : firstF (l.drop i) q m = if m < absW (l.getD i 0) then some q else firstF (l.drop (i + 1)) (q + 1) m := by
  rw [List.drop_eq_getElem_cons h, List.getD_eq_getElem?_getD, List.getElem?_eq_getElem h]; rfl

theorem specAlarm_ok (l : List Int) (a m : Int) (hl : l.length ≤ 1048576) : FC Try.prog 29 [.ro (.ints .i64 l), .int .i64 a, .int .i64 m] (.t2 (.int .i64 (alarmV l a m)) (.bool (alarmO l a m))) [] := by
  refine fc_eval sp3 V1 V1_ok hT hm Try.func29 rfl (by kernel_rfl) rfl rfl ?_
  intro A S r0 fr0 hA hS hr hfr
  cbv
  repeat refine obP.mk (by subst hA hS; simp [alg, sp3, sp2, sp, hl]) ?_
  refine condP.mk (fun hc => ?_) (fun hc => ?_)
  · (try simp only [nc] at *); subst hA hS hr hfr; simp only [alg, obP_iff, condP_iff, retP_iff, retM_iff, ofNat_cast, nc, Int.toNat_natCast, decide_eq_true_eq, decide_eq_false_iff_not, IntKind.wrap_i64, Bool.not_eq_true', Bool.not_eq_false', beq_iff_eq, beq_eq_false_iff_ne, AV.bool.injEq, AV.int.injEq, AV.t2.injEq, AV.t3.injEq, AV.own.injEq, List.cons.injEq, Prod.mk.injEq, Row.ints.injEq, RW, Row.nlen, scalar, and_true, true_and, sp3, sp2, sp, alarmV, alarmO, alarm, alarmB]
    simp [alg, sp3, sp2, sp] at hc
    rcases Bool.eq_false_or_eq_true (good l) with c1 | c1 <;> rcases Bool.eq_false_or_eq_true (inR a (-500) 500) with c2 | c2 <;> rcases Bool.eq_false_or_eq_true (inR m 0 20000) with c3 | c3 <;> simp [c1, c2, c3] at hc ⊢
  · have hg : (good l = true ∧ inR a (-500) 500 = true) ∧ inR m 0 20000 = true := by subst hA hS; simpa [alg, sp3, sp2, sp] using hc
    have hv : alarm l a m = firstF (sumsF l 0 a) 0 m := by simp [alarm, alarmB, hg]
    obtain ⟨ss, hss⟩ : ∃ ss, ss = S.sumsF l 0 a := ⟨_, rfl⟩
    have hss' : ss = sumsF l 0 a := by rw [hss, hS]; rfl
    have hsl : ss.length = l.length := by rw [hss']; exact sumsF_len _ _ _
    refine obP.mk (by subst hA hS; simp [alg, sp3, sp2, sp, hl]) ?_
    obtain ⟨L, hL⟩ : ∃ L : Int, L = ss.length := ⟨_, rfl⟩
    refine loop1 (fun (i : Nat) => ⟨fr 38 [(0, .ro (.ints .i64 l)), (1, .int .i64 a), (2, .int .i64 m), (25, .ro (.ints .i64 ss)), (26, .int .i64 L), (27, .int .i64 i)], [.dead]⟩)
      (fun i => i ≤ ss.length ∧ alarm l a m = firstF (ss.drop i) i m) (fun i => ss.length - i) 0 ?_ ?_ ?_
    · subst hA; simp [Wk_iff, fr, undefs, wkT, wkV, wkH, okid, Row.nlen, alg, hL, hss, getO]
    · simp [hv, hss']
    · rintro i ⟨h1, h3⟩
      cbv
      (try simp only [nc] at *); subst hA hS hr hfr; simp only [alg, obP_iff, condP_iff, retP_iff, retM_iff, ofNat_cast, nc, Int.toNat_natCast, decide_eq_true_eq, decide_eq_false_iff_not, IntKind.wrap_i64, Bool.not_eq_true', Bool.not_eq_false', beq_iff_eq, beq_eq_false_iff_ne, AV.bool.injEq, AV.int.injEq, AV.t2.injEq, AV.t3.injEq, AV.own.injEq, List.cons.injEq, Prod.mk.injEq, Row.ints.injEq, RW, Row.nlen, scalar, and_true, true_and, sp3, sp2, sp]
      refine ⟨fun hc => ⟨by omega, fun hn => ?_, fun hn => ⟨i + 1, ?_, ⟨by omega, ?_⟩, by omega⟩⟩, fun hc => ?_⟩
      · rw [alarmV, alarmO, h3, firstF_drop _ _ _ _ (by omega), if_pos hn]; simp
      · simp [Wk_iff, fr, undefs, wkT, wkV, wkH, okid, Row.nlen]; try omega
      · rw [h3, firstF_drop _ _ _ _ (by omega), if_neg hn]; simp
      · rw [alarmV, alarmO, h3, List.drop_of_length_le (by omega)]; simp [firstF]
theorem implAlarm_ok (l : List Int) (a m : Int) (hl : l.length ≤ 1048576) : FC Try.prog 30 [.ro (.ints .i64 l), .int .i64 a, .int .i64 m] (.t2 (.int .i64 (alarmV l a m)) (.bool (alarmO l a m))) [] := by
  refine fc_eval sp3 V1 V1_ok hT hm Try.func30 rfl (by kernel_rfl) rfl rfl ?_
  intro A S r0 fr0 hA hS hr hfr
  cbv
  repeat refine obP.mk (by subst hA hS; simp [alg, sp3, sp2, sp, hl]) ?_
  refine condP.mk (fun hc => ?_) (fun hc => ?_)
  · (try simp only [nc] at *); subst hA hS hr hfr; simp only [alg, obP_iff, condP_iff, retP_iff, retM_iff, ofNat_cast, nc, Int.toNat_natCast, decide_eq_true_eq, decide_eq_false_iff_not, IntKind.wrap_i64, Bool.not_eq_true', Bool.not_eq_false', beq_iff_eq, beq_eq_false_iff_ne, AV.bool.injEq, AV.int.injEq, AV.t2.injEq, AV.t3.injEq, AV.own.injEq, List.cons.injEq, Prod.mk.injEq, Row.ints.injEq, RW, Row.nlen, scalar, and_true, true_and, sp3, sp2, sp, alarmV, alarmO, alarm, alarmB]
    simp [alg, sp3, sp2, sp] at hc
    rcases Bool.eq_false_or_eq_true (good l) with c1 | c1 <;> rcases Bool.eq_false_or_eq_true (inR a (-500) 500) with c2 | c2 <;> rcases Bool.eq_false_or_eq_true (inR m 0 20000) with c3 | c3 <;> simp [c1, c2, c3] at hc ⊢
  · have hg : (good l = true ∧ inR a (-500) 500 = true) ∧ inR m 0 20000 = true := by subst hA hS; simpa [alg, sp3, sp2, sp] using hc
    have hv : alarm l a m = firstF (sumsF l 0 a) 0 m := by simp [alarm, alarmB, hg]
    obtain ⟨ss, hss⟩ : ∃ ss, ss = S.sumsF l 0 a := ⟨_, rfl⟩
    have hss' : ss = sumsF l 0 a := by rw [hss, hS]; rfl
    have hsl : ss.length = l.length := by rw [hss']; exact sumsF_len _ _ _
    refine obP.mk (by subst hA hS; simp [alg, sp3, sp2, sp, hl]) ?_
    obtain ⟨L, hL⟩ : ∃ L : Int, L = ss.length := ⟨_, rfl⟩
    refine loop1 (fun (i : Nat) => ⟨fr 38 [(0, .ro (.ints .i64 l)), (1, .int .i64 a), (2, .int .i64 m), (25, .ro (.ints .i64 ss)), (26, .int .i64 L), (27, .int .i64 i)], [.dead]⟩)
      (fun i => i ≤ ss.length ∧ alarm l a m = firstF (ss.drop i) i m) (fun i => ss.length - i) 0 ?_ ?_ ?_
    · subst hA; simp [Wk_iff, fr, undefs, wkT, wkV, wkH, okid, Row.nlen, alg, hL, hss, getO]
    · simp [hv, hss']
    · rintro i ⟨h1, h3⟩
      cbv
      (try simp only [nc] at *); subst hA hS hr hfr; simp only [alg, obP_iff, condP_iff, retP_iff, retM_iff, ofNat_cast, nc, Int.toNat_natCast, decide_eq_true_eq, decide_eq_false_iff_not, IntKind.wrap_i64, Bool.not_eq_true', Bool.not_eq_false', beq_iff_eq, beq_eq_false_iff_ne, AV.bool.injEq, AV.int.injEq, AV.t2.injEq, AV.t3.injEq, AV.own.injEq, List.cons.injEq, Prod.mk.injEq, Row.ints.injEq, RW, Row.nlen, scalar, and_true, true_and, sp3, sp2, sp]
      refine ⟨fun hc => ⟨by omega, fun hn => ?_, fun hn => ⟨i + 1, ?_, ⟨by omega, ?_⟩, by omega⟩⟩, fun hc => ?_⟩
      · rw [alarmV, alarmO, h3, firstF_drop _ _ _ _ (by omega), if_pos hn]; simp
      · simp [Wk_iff, fr, undefs, wkT, wkV, wkH, okid, Row.nlen]; try omega
      · rw [h3, firstF_drop _ _ _ _ (by omega), if_neg hn]; simp
      · rw [alarmV, alarmO, h3, List.drop_of_length_le (by omega)]; simp [firstF]
theorem inF_drop (l : List Int) (i : Nat) (m : Int) (h : i < l.length) : inF (l.drop i) m = if absW (l.getD i 0) ≤ m then l.getD i 0 :: inF (l.drop (i + 1)) m else inF (l.drop (i + 1)) m := by
  rw [List.drop_eq_getElem_cons h, List.getD_eq_getElem?_getD, List.getElem?_eq_getElem h]; rfl
theorem implWo_ok (l : List Int) (m : Int) (hl : l.length ≤ 1048576) : FC Try.prog 34 [.ro (.ints .i64 l), .int .i64 m] (.t2 (.own 0 true) (.bool (woB l m))) [(3, .ints .i64 (woL l m))] := by
  refine fc_eval sp3 V1 V1_ok hT hm Try.func34 rfl (by kernel_rfl) rfl rfl ?_
  intro A S r0 fr0 hA hS hr hfr
  cbv
  repeat refine obP.mk (by subst hA hS; simp [alg, sp3, sp2, sp, hl]) ?_
  refine condP.mk (fun hc => ?_) (fun hc => ?_)
  · (try simp only [nc] at *); subst hA hS hr hfr; simp only [alg, obP_iff, condP_iff, retP_iff, retM_iff, ofNat_cast, nc, Int.toNat_natCast, decide_eq_true_eq, decide_eq_false_iff_not, IntKind.wrap_i64, Bool.not_eq_true', Bool.not_eq_false', beq_iff_eq, beq_eq_false_iff_ne, AV.bool.injEq, AV.int.injEq, AV.t2.injEq, AV.t3.injEq, AV.own.injEq, List.cons.injEq, Prod.mk.injEq, Row.ints.injEq, RW, Row.nlen, scalar, and_true, true_and, sp3, sp2, sp, woB, woL, outB]
    simp [alg, sp3, sp2, sp] at hc
    rcases Bool.eq_false_or_eq_true (good l) with c1 | c1 <;> rcases Bool.eq_false_or_eq_true (inR m 0 500) with c2 | c2 <;> simp [c1, c2] at hc ⊢
  · have hg : good l = true ∧ inR m 0 500 = true := by subst hA hS; simpa [alg, sp3, sp2, sp] using hc
    have hv : woL l m = inF l m := by simp [woL, outB, hg]
    obtain ⟨L, hL⟩ : ∃ L : Int, L = l.length := ⟨_, rfl⟩
    refine loop2 (fun (i : Nat) (out : List Int) => ⟨fr 38 [(0, .ro (.ints .i64 l)), (1, .int .i64 m), (6, .own 1 true), (19, .ro (.ints .i64 l)), (20, .int .i64 L), (21, .int .i64 i)], [.dead, .row 3 (.ints .i64 out)]⟩)
      (fun i out => i ≤ l.length ∧ out.length ≤ i ∧ woL l m = out ++ inF (l.drop i) m) (fun i _ => l.length - i) 0 [] ?_ ?_ ?_
    · subst hA; simp [Wk_iff, fr, undefs, wkT, wkV, wkH, okid, Row.nlen, alg, hL]
    · simp [hv]
    · rintro i out ⟨h1, h2, h3⟩
      cbv
      (try simp only [nc] at *); subst hA hS hr hfr; simp only [alg, obP_iff, condP_iff, retP_iff, retM_iff, ofNat_cast, nc, Int.toNat_natCast, decide_eq_true_eq, decide_eq_false_iff_not, IntKind.wrap_i64, Bool.not_eq_true', Bool.not_eq_false', beq_iff_eq, beq_eq_false_iff_ne, AV.bool.injEq, AV.int.injEq, AV.t2.injEq, AV.t3.injEq, AV.own.injEq, List.cons.injEq, Prod.mk.injEq, Row.ints.injEq, RW, Row.nlen, scalar, and_true, true_and, sp3, sp2, sp]
      refine ⟨fun hc => ⟨by omega, fun hn => ⟨by omega, by simp, i + 1, out ++ [l.getD i 0], ?_, ⟨by omega, by simp; omega, ?_⟩, by omega⟩, fun hn => ⟨i + 1, out, ?_, ⟨by omega, by omega, ?_⟩, by omega⟩⟩, ?_⟩
      · simp [Wk_iff, fr, undefs, wkT, wkV, wkH, okid, Row.nlen]; try omega
      · rw [h3, inF_drop _ _ _ (by omega), if_pos hn]; simp
      · simp [Wk_iff, fr, undefs, wkT, wkV, wkH, okid, Row.nlen]; try omega
      · rw [h3, inF_drop _ _ _ (by omega), if_neg hn]
      · intro hc
        have h4 : woL l m = out := by rw [h3, List.drop_of_length_le (by omega)]; simp [inF]
        simp [woB, h4]
theorem specWo_ok (l : List Int) (m : Int) (hl : l.length ≤ 1048576) : FC Try.prog 33 [.ro (.ints .i64 l), .int .i64 m] (.t2 (.own 0 true) (.bool (woB l m))) [(3, .ints .i64 (woL l m))] := by
  refine fc_eval sp3 V1 V1_ok hT hm Try.func33 rfl (by kernel_rfl) rfl rfl ?_
  intro A S r0 fr0 hA hS hr hfr
  cbv
  repeat refine obP.mk (by subst hA hS; simp [alg, sp3, sp2, sp, hl]) ?_
  refine condP.mk (fun hc => ?_) (fun hc => ?_)
  · (try simp only [nc] at *); subst hA hS hr hfr; simp only [alg, obP_iff, condP_iff, retP_iff, retM_iff, ofNat_cast, nc, Int.toNat_natCast, decide_eq_true_eq, decide_eq_false_iff_not, IntKind.wrap_i64, Bool.not_eq_true', Bool.not_eq_false', beq_iff_eq, beq_eq_false_iff_ne, AV.bool.injEq, AV.int.injEq, AV.t2.injEq, AV.t3.injEq, AV.own.injEq, List.cons.injEq, Prod.mk.injEq, Row.ints.injEq, RW, Row.nlen, scalar, and_true, true_and, sp3, sp2, sp, woB, woL, outB]
    simp [alg, sp3, sp2, sp] at hc
    rcases Bool.eq_false_or_eq_true (good l) with c1 | c1 <;> rcases Bool.eq_false_or_eq_true (inR m 0 500) with c2 | c2 <;> simp [c1, c2] at hc ⊢
  · have hg : good l = true ∧ inR m 0 500 = true := by subst hA hS; simpa [alg, sp3, sp2, sp] using hc
    have hv : woL l m = inF l m := by simp [woL, outB, hg]
    obtain ⟨L, hL⟩ : ∃ L : Int, L = l.length := ⟨_, rfl⟩
    refine loop2 (fun (i : Nat) (out : List Int) => ⟨fr 36 [(0, .ro (.ints .i64 l)), (1, .int .i64 m), (6, .own 1 true), (17, .ro (.ints .i64 l)), (18, .int .i64 L), (19, .int .i64 i)], [.dead, .row 3 (.ints .i64 out)]⟩)
      (fun i out => i ≤ l.length ∧ out.length ≤ i ∧ woL l m = out ++ inF (l.drop i) m) (fun i _ => l.length - i) 0 [] ?_ ?_ ?_
    · subst hA; simp [Wk_iff, fr, undefs, wkT, wkV, wkH, okid, Row.nlen, alg, hL]
    · simp [hv]
    · rintro i out ⟨h1, h2, h3⟩
      cbv
      (try simp only [nc] at *); subst hA hS hr hfr; simp only [alg, obP_iff, condP_iff, retP_iff, retM_iff, ofNat_cast, nc, Int.toNat_natCast, decide_eq_true_eq, decide_eq_false_iff_not, IntKind.wrap_i64, Bool.not_eq_true', Bool.not_eq_false', beq_iff_eq, beq_eq_false_iff_ne, AV.bool.injEq, AV.int.injEq, AV.t2.injEq, AV.t3.injEq, AV.own.injEq, List.cons.injEq, Prod.mk.injEq, Row.ints.injEq, RW, Row.nlen, scalar, and_true, true_and, sp3, sp2, sp]
      refine ⟨fun hc => ⟨by omega, fun hn => ⟨by omega, by simp, i + 1, out ++ [l.getD i 0], ?_, ⟨by omega, by simp; omega, ?_⟩, by omega⟩, fun hn => ⟨i + 1, out, ?_, ⟨by omega, by omega, ?_⟩, by omega⟩⟩, ?_⟩
      · simp [Wk_iff, fr, undefs, wkT, wkV, wkH, okid, Row.nlen]; try omega
      · rw [h3, inF_drop _ _ _ (by omega), if_pos hn]; simp
      · simp [Wk_iff, fr, undefs, wkT, wkV, wkH, okid, Row.nlen]; try omega
      · rw [h3, inF_drop _ _ _ (by omega), if_neg hn]
      · intro hc
        have h4 : woL l m = out := by rw [h3, List.drop_of_length_le (by omega)]; simp [inF]
        refine ⟨fun hz => ?_, fun hz => ?_⟩
        · simp at hz; simp [woB, h4, hz]
        · simp at hz; simp [woB, h4]; exact List.length_pos_iff.2 hz
theorem sumF_small : ∀ (l : List Int) (n : Int), allR l (-500) 500 = true → -4611686018427387904 ≤ n - 500 * l.length → n + 500 * l.length ≤ 4611686018427387904 → n - 500 * l.length ≤ sumF l n ∧ sumF l n ≤ n + 500 * l.length
  | [], n, _, _, _ => by simp [sumF]
  | x :: r, n, h, h0, h1 => by
    simp only [allR, List.all_cons, Bool.and_eq_true] at h
    have hx := h.1
    simp [inR] at hx
    simp only [List.length_cons] at h0 h1 ⊢
    have e : w64 (n + x) = n + x := by simp only [w64, IntKind.wrap_i64]; omega
    have := sumF_small r (n + x) h.2 (by omega) (by omega)
    simp only [sumF, e]
    omega
theorem absW_pos {n : Int} (h : -1000000 ≤ n ∧ n ≤ 1000000) : 0 ≤ absW n := by
  simp only [absW, w64, IntKind.wrap_i64]
  split <;> omega
theorem good_sum {l : List Int} (h : good l = true) : 0 ≤ absW (sumF l 0) := by
  have h1 := good_len h
  have := sumF_small l 0 (good_all h) (by omega) (by omega)
  exact absW_pos (by omega)
theorem good_pos {l : List Int} (h : good l = true) : 0 < l.length := by
  simp [good, inR] at h; omega
theorem gcdOf_ne {l : List Int} (h : good l = true) : gcdOf l ≠ 0 := by
  have := good_pos h
  simp only [gcdOf]
  intro e
  have e : Int.gcd (absW (sumF l 0)) l.length = 0 := by omega
  rw [Int.gcd_eq_zero_iff] at e
  omega

theorem implMean_ok (l : List Int) (hl : l.length ≤ 1048576) : FC Try.prog 32 [.ro (.ints .i64 l)] (.t3 (.int .i64 (meanN l)) (.int .i64 (meanD l)) (.bool (good l))) [] := by
  refine fc_eval sp3 V1 V1_ok hT hm Try.func32 rfl (by kernel_rfl) rfl rfl ?_
  intro A S r0 fr0 hA hS hr hfr
  cbv
  (try simp only [nc] at *); subst hA hS hr hfr; simp only [alg, obP_iff, condP_iff, retP_iff, retM_iff, ofNat_cast, nc, Int.toNat_natCast, decide_eq_true_eq, decide_eq_false_iff_not, IntKind.wrap_i64, Bool.not_eq_true', Bool.not_eq_false', beq_iff_eq, beq_eq_false_iff_ne, AV.bool.injEq, AV.int.injEq, AV.t2.injEq, AV.t3.injEq, AV.own.injEq, List.cons.injEq, Prod.mk.injEq, Row.ints.injEq, RW, Row.nlen, scalar, and_true, true_and, sp3, sp2, sp]
  refine ⟨hl, fun hn => by simp [meanN, meanD, hn], fun hg => ⟨hl, ⟨good_sum hg, by omega⟩, ⟨by kernel_rfl⟩, gcdOf_ne hg, gcdOf_ne hg, ?_⟩⟩
  simp [meanN, meanD, hg, gcdOf, w64, IntKind.wrap_i64]

theorem specMean_ok (l : List Int) (hl : l.length ≤ 1048576) : FC Try.prog 31 [.ro (.ints .i64 l)] (.t3 (.int .i64 (meanN l)) (.int .i64 (meanD l)) (.bool (good l))) [] := by
  refine fc_eval sp3 V1 V1_ok hT hm Try.func31 rfl (by kernel_rfl) rfl rfl ?_
  intro A S r0 fr0 hA hS hr hfr
  cbv
  repeat refine obP.mk (by subst hA hS; simp [alg, sp3, sp2, sp, hl]) ?_
  refine condP.mk (fun hc => ?_) (fun hc => ?_)
  · (try simp only [nc] at *); subst hA hS hr hfr; simp only [alg, obP_iff, condP_iff, retP_iff, retM_iff, ofNat_cast, nc, Int.toNat_natCast, decide_eq_true_eq, decide_eq_false_iff_not, IntKind.wrap_i64, Bool.not_eq_true', Bool.not_eq_false', beq_iff_eq, beq_eq_false_iff_ne, AV.bool.injEq, AV.int.injEq, AV.t2.injEq, AV.t3.injEq, AV.own.injEq, List.cons.injEq, Prod.mk.injEq, Row.ints.injEq, RW, Row.nlen, scalar, and_true, true_and, sp3, sp2, sp]
    simp [alg, sp3, sp2, sp] at hc
    simp [meanN, meanD, hc]
  · have hg : good l = true := by subst hA hS; simpa [alg, sp3, sp2, sp] using hc
    repeat refine obP.mk (by subst hA hS; simp [alg, sp3, sp2, sp, hl]) ?_
    obtain ⟨L, hL⟩ : ∃ L : Int, L = l.length := ⟨_, rfl⟩
    refine loop2 (fun (x y : Int) => ⟨fr 31 [(0, .ro (.ints .i64 l)), (5, .int .i64 x), (6, .int .i64 y)], [.dead]⟩)
      (fun x y => 0 ≤ x ∧ 0 ≤ y ∧ (Int.gcd x y : Int) = gcdOf l) (fun _ y => y.toNat) (absW (sumF l 0)) L ?_ ?_ ?_
    · subst hA hS; simp [Wk_iff, fr, undefs, wkT, wkV, wkH, okid, Row.nlen, alg, hL, sp3, sp2, sp]
    · exact ⟨good_sum hg, by omega, by rw [hL]; rfl⟩
    · rintro x y ⟨h1, h2, h3⟩
      cbv
      (try simp only [nc] at *); subst hA hS hr hfr; simp only [alg, obP_iff, condP_iff, retP_iff, retM_iff, ofNat_cast, nc, Int.toNat_natCast, decide_eq_true_eq, decide_eq_false_iff_not, IntKind.wrap_i64, Bool.not_eq_true', Bool.not_eq_false', beq_iff_eq, beq_eq_false_iff_ne, AV.bool.injEq, AV.int.injEq, AV.t2.injEq, AV.t3.injEq, AV.own.injEq, List.cons.injEq, Prod.mk.injEq, Row.ints.injEq, RW, Row.nlen, scalar, and_true, true_and, sp3, sp2, sp]
      refine ⟨fun hc => ⟨by omega, y, x.tmod y, ?_, ⟨h2, Int.tmod_nonneg _ h1, ?_⟩, ?_⟩, fun hc => ?_⟩
      · simp [Wk_iff, fr, undefs, wkT, wkV, wkH, okid, Row.nlen]
      · rw [gcd_step x y h1 hc]; exact h3
      · have := Int.tmod_lt_of_pos x hc
        omega
      · have e : y = 0 := by omega
        subst e
        have hx : x = gcdOf l := by rw [← h3, Int.gcd_zero_right]; omega
        subst hx
        have := gcdOf_ne hg
        refine ⟨⟨by kernel_rfl⟩, ?_⟩
        simp [meanN, meanD, hg, w64, IntKind.wrap_i64, this, hl]
end Go.Proofs.Ytkhcmniahdfokaa
