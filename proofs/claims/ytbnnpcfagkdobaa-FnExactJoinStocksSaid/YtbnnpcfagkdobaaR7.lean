/-
  Stocks: pieces put in; a slip cut; two stocks joined.
-/
import Derived.Test.YtbnnpcfagkdobaaR2
set_option linter.unusedSimpArgs false
set_option linter.unusedVariables false
namespace Go.Proofs.Ytbnnpcfagkdobaa
open Go.Ab

/-- The first place whose slip is not shorter. -/
def ltB (l : List (List Int)) (n : Int) (k : Nat) : Bool := decide (k < l.length) && decide (fL l k < n)
def atP (l : List (List Int)) (n : Int) : Nat := wh (ltB l n) (l.length + 1) 0
def putL (l : List (List Int)) (n c : Int) : List (List Int) :=
  if atP l n < l.length ∧ fL l (atP l n) = n then l.set (atP l n) ((l.getD (atP l n) []).set 1 (w64 (fC l (atP l n) + c)))
  else l.take (atP l n) ++ [n, c] :: l.drop (atP l n)
theorem putL_len (l : List (List Int)) (n c : Int) : (putL l n c).length ≤ l.length + 1 := by
  unfold putL; split <;> simp; omega
theorem putL_rec {l : List (List Int)} (n c : Int) (h : rec2 l) : rec2 (putL l n c) := by
  unfold putL; split
  · rename_i hc
    intro x hx
    rcases List.mem_or_eq_of_mem_set hx with h1 | h1
    · exact h x h1
    · obtain ⟨a, b, e⟩ := rec2_get h hc.1
      rw [h1, e]; rfl
  · intro x hx
    simp only [List.mem_append, List.mem_cons] at hx
    rcases hx with hx | hx | hx
    · exact h x (List.mem_of_mem_take hx)
    · rw [hx]; rfl
    · exact h x (List.mem_of_mem_drop hx)
/-- A slip less at place i. -/
def lessL (l : List (List Int)) (i : Nat) : List (List Int) := l.set i ((l.getD i []).set 1 (w64 (fC l i - 1)))
def ctA (l : List (List Int)) (i n : Int) : Bool := stB l && (inR i 0 (w64 ((l.length : Int) - 1)) && (!(fC l i.toNat == 0) && inR n 1 (w64 (fL l i.toNat - 1))))
def ctL (l : List (List Int)) (i n : Int) : List (List Int) := putL (putL (lessL l i.toNat) n 1) (w64 (fL l i.toNat - n)) 1
def ctB (l : List (List Int)) (i n : Int) : Bool := ctA l i n && stB (ctL l i n)
def ctR (l : List (List Int)) (i n : Int) : List (List Int) := if ctB l i n then ctL l i n else []
def jnL (a b : List (List Int)) : List (List Int) := b.foldl (fun l s => putL l (s.getD 0 0) (s.getD 1 0)) a
def jnB (a b : List (List Int)) : Bool := (stB a && stB b) && stB (jnL a b)
def jnR (a b : List (List Int)) : List (List Int) := if jnB a b then jnL a b else []
structure Sp5 extends Sp where
  sl : List (List Int) → Prop
  putL : List (List Int) → Int → Int → List (List Int)
  yesS : List (List Int) → Prop
  noS : List (List Int) → Prop
  ctB : List (List Int) → Int → Int → Bool
  ctR : List (List Int) → Int → Int → List (List Int)
  jnB : List (List Int) → List (List Int) → Bool
  jnR : List (List Int) → List (List Int) → List (List Int)
def sp5 : Sp5 := { sp with sl := fun l => l.length ≤ 100000, putL := putL, yesS := fun l => l.length ≤ 1048576 ∧ stB l = true, noS := fun l => l.length ≤ 1048576 ∧ stB l = false, ctB := ctB, ctR := ctR, jnB := jnB, jnR := jnR }
theorem chk_yes (l : List (List Int)) (hl : l.length ≤ 1048576) (h : stB l = true) : FCS GT Try.prog 58 [.ro (.recs 2 l)] 0 (.bool true) := by
  refine fcs_eval (fun _ _ _ _ => trivial) sp R4 R4_ok hT hm 0 Try.func58 rfl (by kernel_rfl) rfl rfl rfl rfl ?_
  intro A S v0 b0 hA hS hb
  cbv
  (try simp only [nc] at *); subst hA hS hb; simp (disch := (refine KR.mk ?_; kernel_rfl)) only [alg, obP_iff, condP_iff, retP_iff, retM_iff, ofNat_cast, nc, Int.toNat_natCast, decide_eq_true_eq, decide_eq_false_iff_not, wrap_w64, retS_iff, Bool.not_eq_true', Bool.not_eq_false', beq_iff_eq, beq_eq_false_iff_ne, AV.bool.injEq, AV.int.injEq, AV.t2.injEq, AV.t3.injEq, AV.own.injEq, List.cons.injEq, Prod.mk.injEq, Row.ints.injEq, RW, Row.nlen, scalar, imp_self, and_true, true_and, lexT, heldT, tailT, planT, nb, Int.toNat_zero, List.getD_cons_zero, List.getD_cons_succ, List.set_cons_zero, List.set_cons_succ, sp, sb]
  exact ⟨hl, (fun h' => by rw [h] at h'; cases h'), fun _ => trivial⟩
theorem if_yes (l : List (List Int)) (hl : l.length ≤ 1048576) (h : stB l = true) : FCS GT Try.prog 56 [.ro (.recs 2 l)] 0 (.bool true) := by
  refine fcs_eval (fun _ _ _ _ => trivial) sp R4 R4_ok hT hm 0 Try.func56 rfl (by kernel_rfl) rfl rfl rfl rfl ?_
  intro A S v0 b0 hA hS hb
  cbv
  (try simp only [nc] at *); subst hA hS hb; simp (disch := (refine KR.mk ?_; kernel_rfl)) only [alg, obP_iff, condP_iff, retP_iff, retM_iff, ofNat_cast, nc, Int.toNat_natCast, decide_eq_true_eq, decide_eq_false_iff_not, wrap_w64, retS_iff, Bool.not_eq_true', Bool.not_eq_false', beq_iff_eq, beq_eq_false_iff_ne, AV.bool.injEq, AV.int.injEq, AV.t2.injEq, AV.t3.injEq, AV.own.injEq, List.cons.injEq, Prod.mk.injEq, Row.ints.injEq, RW, Row.nlen, scalar, imp_self, and_true, true_and, lexT, heldT, tailT, planT, nb, Int.toNat_zero, List.getD_cons_zero, List.getD_cons_succ, List.set_cons_zero, List.set_cons_succ, sp, sb]
  exact ⟨hl, (fun h' => by rw [h] at h'; cases h'), fun _ => trivial⟩
theorem chk_no (l : List (List Int)) (hl : l.length ≤ 1048576) (h : stB l = false) : FC Try.prog 58 [.ro (.recs 2 l)] (.t2 (.own 0 true) (.bool false)) [(57, .recs 2 [])] := by
  refine fc_eval sp R4 R4_ok hT hm Try.func58 rfl (by kernel_rfl) rfl rfl ?_
  intro A S r0 fr0 hA hS hr hfr
  cbv
  (try simp only [nc] at *); subst hA hS hr hfr; simp (disch := (refine KR.mk ?_; kernel_rfl)) only [alg, obP_iff, condP_iff, retP_iff, retM_iff, ofNat_cast, nc, Int.toNat_natCast, decide_eq_true_eq, decide_eq_false_iff_not, wrap_w64, retS_iff, Bool.not_eq_true', Bool.not_eq_false', beq_iff_eq, beq_eq_false_iff_ne, AV.bool.injEq, AV.int.injEq, AV.t2.injEq, AV.t3.injEq, AV.own.injEq, List.cons.injEq, Prod.mk.injEq, Row.ints.injEq, RW, Row.nlen, scalar, imp_self, and_true, true_and, lexT, heldT, tailT, planT, nb, Int.toNat_zero, List.getD_cons_zero, List.getD_cons_succ, List.set_cons_zero, List.set_cons_succ, sp, sb]
  exact ⟨hl, fun _ => trivial, fun h' => by rw [h] at h'; cases h'⟩
theorem if_no (l : List (List Int)) (hl : l.length ≤ 1048576) (h : stB l = false) : FC Try.prog 56 [.ro (.recs 2 l)] (.t2 (.own 0 true) (.bool false)) [(57, .recs 2 [])] := by
  refine fc_eval sp R4 R4_ok hT hm Try.func56 rfl (by kernel_rfl) rfl rfl ?_
  intro A S r0 fr0 hA hS hr hfr
  cbv
  (try simp only [nc] at *); subst hA hS hr hfr; simp (disch := (refine KR.mk ?_; kernel_rfl)) only [alg, obP_iff, condP_iff, retP_iff, retM_iff, ofNat_cast, nc, Int.toNat_natCast, decide_eq_true_eq, decide_eq_false_iff_not, wrap_w64, retS_iff, Bool.not_eq_true', Bool.not_eq_false', beq_iff_eq, beq_eq_false_iff_ne, AV.bool.injEq, AV.int.injEq, AV.t2.injEq, AV.t3.injEq, AV.own.injEq, List.cons.injEq, Prod.mk.injEq, Row.ints.injEq, RW, Row.nlen, scalar, imp_self, and_true, true_and, lexT, heldT, tailT, planT, nb, Int.toNat_zero, List.getD_cons_zero, List.getD_cons_succ, List.set_cons_zero, List.set_cons_succ, sp, sb]
  exact ⟨hl, fun _ => rfl, fun h' => by rw [h] at h'; cases h'⟩
theorem at_step {l : List (List Int)} {n : Int} {k : Nat} (h : atP l n = wh (ltB l n) (l.length + 1 - k) k) (hk : k ≤ l.length) (hm : ltB l n k = true) : atP l n = wh (ltB l n) (l.length + 1 - (k + 1)) (k + 1) := by
  rw [h, show l.length + 1 - k = (l.length - k) + 1 by omega, wh_t hm, show l.length - k = l.length + 1 - (k + 1) by omega]
set_option maxRecDepth 100000 in
theorem with_ok (l : List (List Int)) (n c : Int) (hl : l.length ≤ 100000) : FC Try.prog 59 [.ro (.recs 2 l), .int .i64 n, .int .i64 c] (.own 0 true) [(57, .recs 2 (putL l n c))] := by
  refine fc_eval sp R4 R4_ok hT hm Try.func59 rfl (by kernel_rfl) rfl rfl ?_
  intro A S r0 fr0 hA hS hr hfr
  cbv
  refine loop1 (fun (k : Nat) => ⟨fr 64 [(0, .ro (.recs 2 l)), (1, .int .i64 n), (2, .int .i64 c), (7, .int .i64 k)], [.dead]⟩)
    (fun k => k ≤ l.length ∧ atP l n = wh (ltB l n) (l.length + 1 - k) k) (fun k => l.length - k) 0 ?_ ?_ ?_
  · subst hA hS; simp [Wk_iff, fr, undefs, wkT, wkV, wkH, okid, Row.nlen, getO, alg]
  · exact ⟨by omega, rfl⟩
  · intro k hR
    have k1 := hR.1
    have k2 := hR.2
    clear hR
    cbv
    (try simp only [nc] at *); subst hA hS hr hfr; simp (disch := (refine KR.mk ?_; kernel_rfl)) only [alg, obP_iff, condP_iff, retP_iff, retM_iff, ofNat_cast, nc, Int.toNat_natCast, decide_eq_true_eq, decide_eq_false_iff_not, wrap_w64, retS_iff, Bool.not_eq_true', Bool.not_eq_false', beq_iff_eq, beq_eq_false_iff_ne, AV.bool.injEq, AV.int.injEq, AV.t2.injEq, AV.t3.injEq, AV.own.injEq, List.cons.injEq, Prod.mk.injEq, Row.ints.injEq, RW, Row.nlen, scalar, imp_self, and_true, true_and, lexT, heldT, tailT, planT, nb, Int.toNat_zero, List.getD_cons_zero, List.getD_cons_succ, List.set_cons_zero, List.set_cons_succ, sp, sb]
    have hlt : (decide ((k : Int) < (l.length : Int)) && decide ((l.getD k []).getD 0 0 < n)) = ltB l n k := by rw [ltB, fL]; congr 1; rw [decide_eq_decide]; omega
    simp only [hlt]
    have w1 : w64 ((k : Int) + 1) = ((k + 1 : Nat) : Int) := by rw [w64_id (by omega)]; omega
    have hta : ∀ b : Bool, (decide ((k : Int) < (l.length : Int)) && b) = true → k < l.length := fun b h => by
      simp only [Bool.and_eq_true, decide_eq_true_eq] at h; omega
    have key : ltB l n k = false → atP l n = k := fun h => by rw [k2, wh_f h]
    try simp only [w1]
    refine ⟨fun _ => by omega, fun ht => ?_, fun hf => ?_⟩
    · have hkl : k < l.length := by rw [ltB] at ht; simp only [Bool.and_eq_true, decide_eq_true_eq] at ht; exact ht.1
      refine ⟨k + 1, ?_, ⟨by omega, at_step k2 k1 ht⟩, by omega⟩
      simp [Wk_iff, fr, undefs, wkT, wkV, wkH, okid, Row.nlen, getO]
    · have hat := key hf
      refine ⟨fun _ => by omega, fun he => ?_, fun he => ?_⟩
      · have hkl := hta _ he
        have hel : fL l k = n := by simp only [Bool.and_eq_true, beq_iff_eq] at he; exact he.2
        have hp : putL l n c = l.set k ((l.getD k []).set 1 (w64 ((l.getD k []).getD 1 0 + c))) := by rw [putL, hat, if_pos ⟨hkl, hel⟩]; rfl
        rw [hp]
        simp only [List.nil_append]
        refine ⟨by simp, by omega, by omega, by omega, trivial⟩
      · have hne : ¬ (k < l.length ∧ fL l k = n) := by
          intro hh
          have : (decide ((k : Int) < (l.length : Int)) && (l.getD k []).getD 0 0 == n) = true := by
            simp only [Bool.and_eq_true, decide_eq_true_eq, beq_iff_eq]; exact ⟨by omega, hh.2⟩
          rw [he] at this; cases this
        have hp : putL l n c = l.take k ++ [n, c] :: l.drop k := by rw [putL, hat, if_neg hne]
        have e1 : List.drop k (List.take l.length l) = l.drop k := by rw [List.take_length]
        have e2 : (l.take k).length = k := by simp; omega
        have e3 : (l.drop k).length = l.length - k := by simp
        rw [hp]
        simp only [List.nil_append, List.drop_zero, e1, List.length_append, List.length_cons, List.length_nil, e2, e3, List.append_assoc, List.singleton_append]
        refine ⟨by omega, by omega, by omega, by omega, ⟨?_, ?_⟩, ?_⟩ <;> (repeat' (first | exact trivial | omega | refine And.intro ?_ ?_))
set_option maxRecDepth 100000 in
theorem put_ok (l : List (List Int)) (n c : Int) (hl : l.length ≤ 100000) : FC Try.prog 57 [.ro (.recs 2 l), .int .i64 n, .int .i64 c] (.own 0 true) [(57, .recs 2 (putL l n c))] := by
  refine fc_eval sp R4 R4_ok hT hm Try.func57 rfl (by kernel_rfl) rfl rfl ?_
  intro A S r0 fr0 hA hS hr hfr
  cbv
  refine loop1 (fun (k : Nat) => ⟨fr 64 [(0, .ro (.recs 2 l)), (1, .int .i64 n), (2, .int .i64 c), (7, .int .i64 k)], [.dead]⟩)
    (fun k => k ≤ l.length ∧ atP l n = wh (ltB l n) (l.length + 1 - k) k) (fun k => l.length - k) 0 ?_ ?_ ?_
  · subst hA hS; simp [Wk_iff, fr, undefs, wkT, wkV, wkH, okid, Row.nlen, getO, alg]
  · exact ⟨by omega, rfl⟩
  · intro k hR
    have k1 := hR.1
    have k2 := hR.2
    clear hR
    cbv
    (try simp only [nc] at *); subst hA hS hr hfr; simp (disch := (refine KR.mk ?_; kernel_rfl)) only [alg, obP_iff, condP_iff, retP_iff, retM_iff, ofNat_cast, nc, Int.toNat_natCast, decide_eq_true_eq, decide_eq_false_iff_not, wrap_w64, retS_iff, Bool.not_eq_true', Bool.not_eq_false', beq_iff_eq, beq_eq_false_iff_ne, AV.bool.injEq, AV.int.injEq, AV.t2.injEq, AV.t3.injEq, AV.own.injEq, List.cons.injEq, Prod.mk.injEq, Row.ints.injEq, RW, Row.nlen, scalar, imp_self, and_true, true_and, lexT, heldT, tailT, planT, nb, Int.toNat_zero, List.getD_cons_zero, List.getD_cons_succ, List.set_cons_zero, List.set_cons_succ, sp, sb]
    have hlt : (decide ((k : Int) < (l.length : Int)) && decide ((l.getD k []).getD 0 0 < n)) = ltB l n k := by rw [ltB, fL]; congr 1; rw [decide_eq_decide]; omega
    simp only [hlt]
    have w1 : w64 ((k : Int) + 1) = ((k + 1 : Nat) : Int) := by rw [w64_id (by omega)]; omega
    have hta : ∀ b : Bool, (decide ((k : Int) < (l.length : Int)) && b) = true → k < l.length := fun b h => by
      simp only [Bool.and_eq_true, decide_eq_true_eq] at h; omega
    have key : ltB l n k = false → atP l n = k := fun h => by rw [k2, wh_f h]
    try simp only [w1]
    refine ⟨fun _ => by omega, fun ht => ?_, fun hf => ?_⟩
    · have hkl : k < l.length := by rw [ltB] at ht; simp only [Bool.and_eq_true, decide_eq_true_eq] at ht; exact ht.1
      refine ⟨k + 1, ?_, ⟨by omega, at_step k2 k1 ht⟩, by omega⟩
      simp [Wk_iff, fr, undefs, wkT, wkV, wkH, okid, Row.nlen, getO]
    · have hat := key hf
      refine ⟨by simp, by omega, fun _ => by omega, fun he => ?_, fun he => ?_⟩
      · have hkl := hta _ he
        have hel : fL l k = n := by simp only [Bool.and_eq_true, beq_iff_eq] at he; exact he.2
        have hp : putL l n c = l.set k ((l.getD k []).set 1 (w64 ((l.getD k []).getD 1 0 + c))) := by rw [putL, hat, if_pos ⟨hkl, hel⟩]; rfl
        rw [hp]
        simp only [List.nil_append]
        refine ⟨by omega, by omega, trivial⟩
      · have hne : ¬ (k < l.length ∧ fL l k = n) := by
          intro hh
          have : (decide ((k : Int) < (l.length : Int)) && (l.getD k []).getD 0 0 == n) = true := by
            simp only [Bool.and_eq_true, decide_eq_true_eq, beq_iff_eq]; exact ⟨by omega, hh.2⟩
          rw [he] at this; cases this
        have hp : putL l n c = l.take k ++ [n, c] :: l.drop k := by rw [putL, hat, if_neg hne]
        have e1 : List.drop k (List.take l.length l) = l.drop k := by rw [List.take_length]
        have e2 : (l.take k).length = k := by simp; omega
        have e3 : (l.drop k).length = l.length - k := by simp
        rw [hp]
        simp only [List.nil_append, List.drop_zero, e1, List.length_append, List.length_cons, List.length_nil, e2, e3, List.append_assoc, List.singleton_append]
        refine ⟨by omega, by omega, by omega, by omega, ⟨?_, ?_⟩, ?_⟩ <;> (repeat' (first | exact trivial | omega | refine And.intro ?_ ?_))
def W1 (S : Sp5) : List (Nat × (List AV → CR)) :=
  (59, fun args => match args with | [.ro (.recs 2 l), .int .i64 n, .int .i64 c] => .pure (S.sl l) (.own 0 true) [(57, .recs 2 (S.putL l n c))] | _ => .no) ::
  (57, fun args => match args with | [.ro (.recs 2 l), .int .i64 n, .int .i64 c] => .pure (S.sl l) (.own 0 true) [(57, .recs 2 (S.putL l n c))] | _ => .no) ::
  R4 S.toSp
set_option maxRecDepth 100000 in
theorem W1_ok : TabOK Try.prog (tfind (W1 sp5)) := by
  refine tab_cons (fun args => ?_) (tab_cons (fun args => ?_) (R4_ok))
  · split
    · exact ent_pure fun h => with_ok _ _ _ h
    · exact ent_no
  · split
    · exact ent_pure fun h => put_ok _ _ _ h
    · exact ent_no
def Wy (S : Sp5) : List (Nat × (List AV → CR)) :=
  (58, fun args => match args with | [.ro (.recs 2 l)] => .same 0 (S.yesS l) ((.bool true)) | _ => .no) ::
  (56, fun args => match args with | [.ro (.recs 2 l)] => .same 0 (S.yesS l) ((.bool true)) | _ => .no) ::
  W1 S
set_option maxRecDepth 100000 in
theorem Wy_ok : TabOK Try.prog (tfind (Wy sp5)) := by
  refine tab_cons (fun args => ?_) (tab_cons (fun args => ?_) (W1_ok))
  · split
    · exact ent_same fun h => chk_yes _ h.1 h.2
    · exact ent_no
  · split
    · exact ent_same fun h => if_yes _ h.1 h.2
    · exact ent_no
def Wn (S : Sp5) : List (Nat × (List AV → CR)) :=
  (58, fun args => match args with | [.ro (.recs 2 l)] => .pure (S.noS l) (.t2 (.own 0 true) (.bool false)) [(57, .recs 2 [])] | _ => .no) ::
  (56, fun args => match args with | [.ro (.recs 2 l)] => .pure (S.noS l) (.t2 (.own 0 true) (.bool false)) [(57, .recs 2 [])] | _ => .no) ::
  W1 S
set_option maxRecDepth 100000 in
theorem Wn_ok : TabOK Try.prog (tfind (Wn sp5)) := by
  refine tab_cons (fun args => ?_) (tab_cons (fun args => ?_) (W1_ok))
  · split
    · exact ent_pure fun h => chk_no _ h.1 h.2
    · exact ent_no
  · split
    · exact ent_pure fun h => if_no _ h.1 h.2
    · exact ent_no
def P1 (S : Sp5) : List (Nat × (List AV → CR)) :=
  (59, fun args => match args with | [.ro (.recs 2 l), .int .i64 n, .int .i64 c] => .pat 0 (S.sl l) ((.own 0 true)) 57 (.recs 2 (S.putL l n c)) | _ => .no) ::
  (57, fun args => match args with | [.ro (.recs 2 l), .int .i64 n, .int .i64 c] => .pat 0 (S.sl l) ((.own 0 true)) 57 (.recs 2 (S.putL l n c)) | _ => .no) ::
  R4 S.toSp
set_option maxRecDepth 100000 in
theorem P1_ok : TabOK Try.prog (tfind (P1 sp5)) := by
  refine tab_cons (fun args => ?_) (tab_cons (fun args => ?_) (R4_ok))
  · split
    · exact ent_pat fun h => with_ok _ _ _ h
    · exact ent_no
  · split
    · exact ent_pat fun h => put_ok _ _ _ h
    · exact ent_no
def Py (S : Sp5) : List (Nat × (List AV → CR)) :=
  (58, fun args => match args with | [.ro (.recs 2 l)] => .same 0 (S.yesS l) ((.bool true)) | _ => .no) ::
  (56, fun args => match args with | [.ro (.recs 2 l)] => .same 0 (S.yesS l) ((.bool true)) | _ => .no) ::
  P1 S
set_option maxRecDepth 100000 in
theorem Py_ok : TabOK Try.prog (tfind (Py sp5)) := by
  refine tab_cons (fun args => ?_) (tab_cons (fun args => ?_) (P1_ok))
  · split
    · exact ent_same fun h => chk_yes _ h.1 h.2
    · exact ent_no
  · split
    · exact ent_same fun h => if_yes _ h.1 h.2
    · exact ent_no
def Pn (S : Sp5) : List (Nat × (List AV → CR)) :=
  (58, fun args => match args with | [.ro (.recs 2 l)] => .pure (S.noS l) (.t2 (.own 0 true) (.bool false)) [(57, .recs 2 [])] | _ => .no) ::
  (56, fun args => match args with | [.ro (.recs 2 l)] => .pure (S.noS l) (.t2 (.own 0 true) (.bool false)) [(57, .recs 2 [])] | _ => .no) ::
  P1 S
set_option maxRecDepth 100000 in
theorem Pn_ok : TabOK Try.prog (tfind (Pn sp5)) := by
  refine tab_cons (fun args => ?_) (tab_cons (fun args => ?_) (P1_ok))
  · split
    · exact ent_pure fun h => chk_no _ h.1 h.2
    · exact ent_no
  · split
    · exact ent_pure fun h => if_no _ h.1 h.2
    · exact ent_no
theorem ct_or {l : List (List Int)} {i n : Int} : (!(stB l && inR i 0 (w64 ((l.length : Int) - 1))) || (l.getD i.toNat []).getD 1 0 == 0 || !inR n 1 (w64 ((l.getD i.toNat []).getD 0 0 - 1))) = !(ctA l i n) := by
  unfold ctA fC fL
  generalize stB l = a
  generalize inR i 0 (w64 ((l.length : Int) - 1)) = b
  generalize ((l.getD i.toNat []).getD 1 0 == 0) = c
  generalize inR n 1 (w64 ((l.getD i.toNat []).getD 0 0 - 1)) = d
  revert a b c d; decide
theorem ct_rg {l : List (List Int)} {i : Int} (h : (stB l && inR i 0 (w64 ((l.length : Int) - 1))) = true) : 0 ≤ i ∧ i < l.length := by
  simp only [Bool.and_eq_true, inR_iff] at h
  have := stB_len h.1
  rw [w64_id (by omega)] at h
  omega
theorem ct_rg2 {l : List (List Int)} {i : Int} {b : Bool} (h : (!(stB l && inR i 0 (w64 ((l.length : Int) - 1))) || b) = false) : 0 ≤ i ∧ i < l.length := by
  simp only [Bool.or_eq_false_iff, Bool.not_eq_false'] at h
  exact ct_rg h.1
theorem ct_rg3 {l : List (List Int)} {i n : Int} (h : ctA l i n = true) : (0 ≤ i ∧ i < l.length) ∧ l.length ≤ 8 := by
  simp only [ctA, Bool.and_eq_true] at h
  exact ⟨ct_rg (by simp only [Bool.and_eq_true]; exact ⟨h.1, h.2.1⟩), stB_len h.1⟩
theorem less_len (l : List (List Int)) (i : Nat) : (lessL l i).length = l.length := by simp [lessL]
theorem jn_drop (a b out : List (List Int)) {k : Nat} (h : jnL a b = (b.drop k).foldl (fun l s => putL l (s.getD 0 0) (s.getD 1 0)) out) (hk : k < b.length) :
    jnL a b = (b.drop (k + 1)).foldl (fun l s => putL l (s.getD 0 0) (s.getD 1 0)) (putL out ((b.getD k []).getD 0 0) ((b.getD k []).getD 1 0)) := by
  rw [h, fold_drop [] _ _ _ _ hk]
theorem jn_end (a b out : List (List Int)) {k : Nat} (h : jnL a b = (b.drop k).foldl (fun l s => putL l (s.getD 0 0) (s.getD 1 0)) out) (hk : b.length ≤ k) : jnL a b = out := by
  rw [h, List.drop_of_length_le hk]; rfl
set_option maxRecDepth 100000 in
set_option maxHeartbeats 1000000 in
theorem implCut_y (l : List (List Int)) (i n : Int) (hl : l.length ≤ 1048576) (h : stB (ctL l i n) = true) : FC Try.prog 26 [.ro (.recs 2 l), .int .i64 i, .int .i64 n] (.t2 (.own 0 true) (.bool (ctB l i n))) [(57, .recs 2 (ctR l i n))] := by
  refine fc_eval sp5 Wy Wy_ok hT hm Try.func26 rfl (by kernel_rfl) rfl rfl ?_
  intro A S r0 fr0 hA hS hr hfr
  cbv
  (try simp only [nc] at *); subst hA hS hr hfr; simp (disch := (refine KR.mk ?_; kernel_rfl)) only [alg, obP_iff, condP_iff, retP_iff, retM_iff, ofNat_cast, nc, Int.toNat_natCast, decide_eq_true_eq, decide_eq_false_iff_not, wrap_w64, retS_iff, Bool.not_eq_true', Bool.not_eq_false', beq_iff_eq, beq_eq_false_iff_ne, AV.bool.injEq, AV.int.injEq, AV.t2.injEq, AV.t3.injEq, AV.own.injEq, List.cons.injEq, Prod.mk.injEq, Row.ints.injEq, RW, Row.nlen, scalar, imp_self, and_true, true_and, lexT, heldT, tailT, planT, nb, Int.toNat_zero, List.getD_cons_zero, List.getD_cons_succ, List.set_cons_zero, List.set_cons_succ, sp5, sp, sb]
  rw [ct_or]
  simp only [List.nil_append, Bool.not_eq_true', Bool.not_eq_false']
  refine ⟨hl, fun _ => trivial, fun hb => ct_rg hb, fun hh => ct_rg2 hh, fun _ => trivial, fun hF => ?_, fun hT => ?_⟩
  · have hc : ctB l i n = false := by rw [ctB, hF]; rfl
    simp [hc, ctR]
  · have hr := ct_rg3 hT
    have e0 : l.set i.toNat ((l.getD i.toNat []).set 1 (w64 ((l.getD i.toNat []).getD 1 0 - 1))) = lessL l i.toNat := rfl
    have e1 : putL (putL (lessL l i.toNat) n 1) (w64 ((l.getD i.toNat []).getD 0 0 - n)) 1 = ctL l i n := rfl
    have h0 := less_len l i.toNat
    have h1 := putL_len (lessL l i.toNat) n 1
    have h2 := putL_len (putL (lessL l i.toNat) n 1) (w64 (fL l i.toNat - n)) 1
    have h3 : (ctL l i n).length ≤ l.length + 2 := by rw [ctL]; omega
    have hc : ctB l i n = true := by rw [ctB, hT, h]; rfl
    simp only [e0, e1, hc, ctR]
    refine ⟨by simp, by omega, by omega, by omega, by omega, by omega, by omega, ⟨by omega, h⟩, ?_⟩
    simp
set_option maxRecDepth 100000 in
set_option maxHeartbeats 1000000 in
theorem implCut_n (l : List (List Int)) (i n : Int) (hl : l.length ≤ 1048576) (h : stB (ctL l i n) = false) : FC Try.prog 26 [.ro (.recs 2 l), .int .i64 i, .int .i64 n] (.t2 (.own 0 true) (.bool (ctB l i n))) [(57, .recs 2 (ctR l i n))] := by
  refine fc_eval sp5 Wn Wn_ok hT hm Try.func26 rfl (by kernel_rfl) rfl rfl ?_
  intro A S r0 fr0 hA hS hr hfr
  cbv
  (try simp only [nc] at *); subst hA hS hr hfr; simp (disch := (refine KR.mk ?_; kernel_rfl)) only [alg, obP_iff, condP_iff, retP_iff, retM_iff, ofNat_cast, nc, Int.toNat_natCast, decide_eq_true_eq, decide_eq_false_iff_not, wrap_w64, retS_iff, Bool.not_eq_true', Bool.not_eq_false', beq_iff_eq, beq_eq_false_iff_ne, AV.bool.injEq, AV.int.injEq, AV.t2.injEq, AV.t3.injEq, AV.own.injEq, List.cons.injEq, Prod.mk.injEq, Row.ints.injEq, RW, Row.nlen, scalar, imp_self, and_true, true_and, lexT, heldT, tailT, planT, nb, Int.toNat_zero, List.getD_cons_zero, List.getD_cons_succ, List.set_cons_zero, List.set_cons_succ, sp5, sp, sb]
  rw [ct_or]
  simp only [List.nil_append, Bool.not_eq_true', Bool.not_eq_false']
  refine ⟨hl, fun _ => trivial, fun hb => ct_rg hb, fun hh => ct_rg2 hh, fun _ => trivial, fun hF => ?_, fun hT => ?_⟩
  · have hc : ctB l i n = false := by rw [ctB, hF]; rfl
    simp [hc, ctR]
  · have hr := ct_rg3 hT
    have e0 : l.set i.toNat ((l.getD i.toNat []).set 1 (w64 ((l.getD i.toNat []).getD 1 0 - 1))) = lessL l i.toNat := rfl
    have e1 : putL (putL (lessL l i.toNat) n 1) (w64 ((l.getD i.toNat []).getD 0 0 - n)) 1 = ctL l i n := rfl
    have h0 := less_len l i.toNat
    have h1 := putL_len (lessL l i.toNat) n 1
    have h2 := putL_len (putL (lessL l i.toNat) n 1) (w64 (fL l i.toNat - n)) 1
    have h3 : (ctL l i n).length ≤ l.length + 2 := by rw [ctL]; omega
    have hc : ctB l i n = false := by rw [ctB, hT, h]; rfl
    simp only [e0, e1, hc, ctR]
    refine ⟨by simp, by omega, by omega, by omega, by omega, by omega, by omega, ⟨by omega, h⟩, ?_⟩
    simp
set_option maxRecDepth 100000 in
set_option maxHeartbeats 1000000 in
theorem specCut_y (l : List (List Int)) (i n : Int) (hl : l.length ≤ 1048576) (h : stB (ctL l i n) = true) : FC Try.prog 25 [.ro (.recs 2 l), .int .i64 i, .int .i64 n] (.t2 (.own 0 true) (.bool (ctB l i n))) [(57, .recs 2 (ctR l i n))] := by
  refine fc_eval sp5 Wy Wy_ok hT hm Try.func25 rfl (by kernel_rfl) rfl rfl ?_
  intro A S r0 fr0 hA hS hr hfr
  cbv
  (try simp only [nc] at *); subst hA hS hr hfr; simp (disch := (refine KR.mk ?_; kernel_rfl)) only [alg, obP_iff, condP_iff, retP_iff, retM_iff, ofNat_cast, nc, Int.toNat_natCast, decide_eq_true_eq, decide_eq_false_iff_not, wrap_w64, retS_iff, Bool.not_eq_true', Bool.not_eq_false', beq_iff_eq, beq_eq_false_iff_ne, AV.bool.injEq, AV.int.injEq, AV.t2.injEq, AV.t3.injEq, AV.own.injEq, List.cons.injEq, Prod.mk.injEq, Row.ints.injEq, RW, Row.nlen, scalar, imp_self, and_true, true_and, lexT, heldT, tailT, planT, nb, Int.toNat_zero, List.getD_cons_zero, List.getD_cons_succ, List.set_cons_zero, List.set_cons_succ, sp5, sp, sb]
  rw [ct_or]
  simp only [List.nil_append, Bool.not_eq_true', Bool.not_eq_false']
  refine ⟨hl, fun _ => trivial, fun hb => ct_rg hb, fun hh => ct_rg2 hh, fun _ => trivial, fun hF => ?_, fun hT => ?_⟩
  · have hc : ctB l i n = false := by rw [ctB, hF]; rfl
    simp [hc, ctR]
  · have hr := ct_rg3 hT
    have e0 : l.set i.toNat ((l.getD i.toNat []).set 1 (w64 ((l.getD i.toNat []).getD 1 0 - 1))) = lessL l i.toNat := rfl
    have e1 : putL (putL (lessL l i.toNat) n 1) (w64 ((l.getD i.toNat []).getD 0 0 - n)) 1 = ctL l i n := rfl
    have h0 := less_len l i.toNat
    have h1 := putL_len (lessL l i.toNat) n 1
    have h2 := putL_len (putL (lessL l i.toNat) n 1) (w64 (fL l i.toNat - n)) 1
    have h3 : (ctL l i n).length ≤ l.length + 2 := by rw [ctL]; omega
    have hc : ctB l i n = true := by rw [ctB, hT, h]; rfl
    simp only [e0, e1, hc, ctR]
    refine ⟨by simp, by omega, by omega, by omega, by omega, by omega, by omega, ⟨by omega, h⟩, ?_⟩
    simp
set_option maxRecDepth 100000 in
set_option maxHeartbeats 1000000 in
theorem specCut_n (l : List (List Int)) (i n : Int) (hl : l.length ≤ 1048576) (h : stB (ctL l i n) = false) : FC Try.prog 25 [.ro (.recs 2 l), .int .i64 i, .int .i64 n] (.t2 (.own 0 true) (.bool (ctB l i n))) [(57, .recs 2 (ctR l i n))] := by
  refine fc_eval sp5 Wn Wn_ok hT hm Try.func25 rfl (by kernel_rfl) rfl rfl ?_
  intro A S r0 fr0 hA hS hr hfr
  cbv
  (try simp only [nc] at *); subst hA hS hr hfr; simp (disch := (refine KR.mk ?_; kernel_rfl)) only [alg, obP_iff, condP_iff, retP_iff, retM_iff, ofNat_cast, nc, Int.toNat_natCast, decide_eq_true_eq, decide_eq_false_iff_not, wrap_w64, retS_iff, Bool.not_eq_true', Bool.not_eq_false', beq_iff_eq, beq_eq_false_iff_ne, AV.bool.injEq, AV.int.injEq, AV.t2.injEq, AV.t3.injEq, AV.own.injEq, List.cons.injEq, Prod.mk.injEq, Row.ints.injEq, RW, Row.nlen, scalar, imp_self, and_true, true_and, lexT, heldT, tailT, planT, nb, Int.toNat_zero, List.getD_cons_zero, List.getD_cons_succ, List.set_cons_zero, List.set_cons_succ, sp5, sp, sb]
  rw [ct_or]
  simp only [List.nil_append, Bool.not_eq_true', Bool.not_eq_false']
  refine ⟨hl, fun _ => trivial, fun hb => ct_rg hb, fun hh => ct_rg2 hh, fun _ => trivial, fun hF => ?_, fun hT => ?_⟩
  · have hc : ctB l i n = false := by rw [ctB, hF]; rfl
    simp [hc, ctR]
  · have hr := ct_rg3 hT
    have e0 : l.set i.toNat ((l.getD i.toNat []).set 1 (w64 ((l.getD i.toNat []).getD 1 0 - 1))) = lessL l i.toNat := rfl
    have e1 : putL (putL (lessL l i.toNat) n 1) (w64 ((l.getD i.toNat []).getD 0 0 - n)) 1 = ctL l i n := rfl
    have h0 := less_len l i.toNat
    have h1 := putL_len (lessL l i.toNat) n 1
    have h2 := putL_len (putL (lessL l i.toNat) n 1) (w64 (fL l i.toNat - n)) 1
    have h3 : (ctL l i n).length ≤ l.length + 2 := by rw [ctL]; omega
    have hc : ctB l i n = false := by rw [ctB, hT, h]; rfl
    simp only [e0, e1, hc, ctR]
    refine ⟨by simp, by omega, by omega, by omega, by omega, by omega, by omega, ⟨by omega, h⟩, ?_⟩
    simp
set_option maxRecDepth 100000 in
set_option maxHeartbeats 1000000 in
theorem implJn_y (a b : List (List Int)) (hl : a.length ≤ 1048576) (hbl : b.length ≤ 1048576) (h : stB (jnL a b) = true) : FC Try.prog 30 [.ro (.recs 2 a), .ro (.recs 2 b)] (.t2 (.own 0 true) (.bool (jnB a b))) [(57, .recs 2 (jnR a b))] := by
  refine fc_eval sp5 Py Py_ok hT hm Try.func30 rfl (by kernel_rfl) rfl rfl ?_
  intro A S r0 fr0 hA hS hr hfr
  cbv
  repeat refine obP.mk (by subst hA hS; first | assumption | trivial | exact fun _ => trivial | exact fun h => h | exact fun _ => hbl) ?_
  refine condP.mk (fun hc => ?_) (fun hc => ?_)
  · have hf : (!(stB a) || !(stB b)) = true := by subst hA hS; exact hc
    rw [nb, Bool.not_eq_true'] at hf
    have hc2 : jnB a b = false := by rw [jnB, hf]; rfl
    (try simp only [nc] at *); subst hA hS hr hfr; simp (disch := (refine KR.mk ?_; kernel_rfl)) only [alg, obP_iff, condP_iff, retP_iff, retM_iff, ofNat_cast, nc, Int.toNat_natCast, decide_eq_true_eq, decide_eq_false_iff_not, wrap_w64, retS_iff, Bool.not_eq_true', Bool.not_eq_false', beq_iff_eq, beq_eq_false_iff_ne, AV.bool.injEq, AV.int.injEq, AV.t2.injEq, AV.t3.injEq, AV.own.injEq, List.cons.injEq, Prod.mk.injEq, Row.ints.injEq, RW, Row.nlen, scalar, imp_self, and_true, true_and, lexT, heldT, tailT, planT, nb, Int.toNat_zero, List.getD_cons_zero, List.getD_cons_succ, List.set_cons_zero, List.set_cons_succ, sp5, sp, sb]
    simp [hc2, jnR]
  · have hf : (!(stB a) || !(stB b)) = false := by subst hA hS; exact hc
    rw [nb, Bool.not_eq_false'] at hf
    have hf2 := Bool.and_eq_true_iff.1 hf
    have ha8 := stB_len hf2.1
    have hb8 := stB_len hf2.2
    have hc2 : jnB a b = true := by rw [jnB, hf, h]; rfl
    obtain ⟨L, hL⟩ : ∃ L : Int, L = b.length := ⟨_, rfl⟩
    refine obP.mk (by (try simp only [nc] at *); subst hA hS; simp (disch := (refine KR.mk ?_; kernel_rfl)) only [alg, obP_iff, condP_iff, retP_iff, retM_iff, ofNat_cast, nc, Int.toNat_natCast, decide_eq_true_eq, decide_eq_false_iff_not, wrap_w64, retS_iff, Bool.not_eq_true', Bool.not_eq_false', beq_iff_eq, beq_eq_false_iff_ne, AV.bool.injEq, AV.int.injEq, AV.t2.injEq, AV.t3.injEq, AV.own.injEq, List.cons.injEq, Prod.mk.injEq, Row.ints.injEq, RW, Row.nlen, scalar, imp_self, and_true, true_and, lexT, heldT, tailT, planT, nb, Int.toNat_zero, List.getD_cons_zero, List.getD_cons_succ, List.set_cons_zero, List.set_cons_succ, sp5, sp, sb]; simp) (obP.mk (by (try simp only [nc] at *); subst hA hS; simp (disch := (refine KR.mk ?_; kernel_rfl)) only [alg, obP_iff, condP_iff, retP_iff, retM_iff, ofNat_cast, nc, Int.toNat_natCast, decide_eq_true_eq, decide_eq_false_iff_not, wrap_w64, retS_iff, Bool.not_eq_true', Bool.not_eq_false', beq_iff_eq, beq_eq_false_iff_ne, AV.bool.injEq, AV.int.injEq, AV.t2.injEq, AV.t3.injEq, AV.own.injEq, List.cons.injEq, Prod.mk.injEq, Row.ints.injEq, RW, Row.nlen, scalar, imp_self, and_true, true_and, lexT, heldT, tailT, planT, nb, Int.toNat_zero, List.getD_cons_zero, List.getD_cons_succ, List.set_cons_zero, List.set_cons_succ, sp5, sp, sb]; omega) ?_)
    refine loop2 (fun (k : Nat) (out : List (List Int)) => ⟨fr 38 [(6, .own 1 true), (21, .ro (.recs 2 b)), (22, .int .i64 L), (23, .int .i64 k)], [.dead, .row 57 (.recs 2 out)]⟩)
      (fun k out => k ≤ b.length ∧ out.length ≤ a.length + k ∧ jnL a b = (b.drop k).foldl (fun l s => putL l (s.getD 0 0) (s.getD 1 0)) out) (fun k _ => b.length - k) 0 a ?_ ?_ ?_
    · subst hA hS; simp [Wk_iff, fr, undefs, wkT, wkV, wkH, okid, Row.nlen, getO, alg, hL]
    · exact ⟨by omega, by omega, rfl⟩
    · intro k out hR
      have k1 := hR.1
      have k2 := hR.2.1
      have k3 := hR.2.2
      clear hR
      have HK := Hd.mk k3
      clear k3
      cbv
      (try simp only [nc] at *); subst hA hS hr hfr; simp (disch := (refine KR.mk ?_; kernel_rfl)) only [alg, obP_iff, condP_iff, retP_iff, retM_iff, ofNat_cast, nc, Int.toNat_natCast, decide_eq_true_eq, decide_eq_false_iff_not, wrap_w64, retS_iff, Bool.not_eq_true', Bool.not_eq_false', beq_iff_eq, beq_eq_false_iff_ne, AV.bool.injEq, AV.int.injEq, AV.t2.injEq, AV.t3.injEq, AV.own.injEq, List.cons.injEq, Prod.mk.injEq, Row.ints.injEq, RW, Row.nlen, scalar, imp_self, and_true, true_and, lexT, heldT, tailT, planT, nb, Int.toNat_zero, List.getD_cons_zero, List.getD_cons_succ, List.set_cons_zero, List.set_cons_succ, sp5, sp, sb]
      have w1 : w64 ((k : Int) + 1) = ((k + 1 : Nat) : Int) := by rw [w64_id (by omega)]; omega
      try simp only [w1]
      refine ⟨fun hk => ⟨by omega, by omega, k + 1, putL out ((b.getD k []).getD 0 0) ((b.getD k []).getD 1 0), ?_, ⟨by omega, ?_, ?_⟩, by omega⟩, fun hk => ?_⟩
      · simp [Wk_iff, fr, undefs, wkT, wkV, wkH, okid, Row.nlen, getO, clr]
      · have := putL_len out ((b.getD k []).getD 0 0) ((b.getD k []).getD 1 0); omega
      · exact jn_drop a b out HK.h (by omega)
      · have he := jn_end a b out HK.h (by omega)
        rw [hc2, jnR, hc2, ← he]
        refine ⟨⟨by rw [he]; omega, h⟩, ?_⟩
        simp
set_option maxRecDepth 100000 in
set_option maxHeartbeats 1000000 in
theorem implJn_n (a b : List (List Int)) (hl : a.length ≤ 1048576) (hbl : b.length ≤ 1048576) (h : stB (jnL a b) = false) : FC Try.prog 30 [.ro (.recs 2 a), .ro (.recs 2 b)] (.t2 (.own 0 true) (.bool (jnB a b))) [(57, .recs 2 (jnR a b))] := by
  refine fc_eval sp5 Pn Pn_ok hT hm Try.func30 rfl (by kernel_rfl) rfl rfl ?_
  intro A S r0 fr0 hA hS hr hfr
  cbv
  repeat refine obP.mk (by subst hA hS; first | assumption | trivial | exact fun _ => trivial | exact fun h => h | exact fun _ => hbl) ?_
  refine condP.mk (fun hc => ?_) (fun hc => ?_)
  · have hf : (!(stB a) || !(stB b)) = true := by subst hA hS; exact hc
    rw [nb, Bool.not_eq_true'] at hf
    have hc2 : jnB a b = false := by rw [jnB, hf]; rfl
    (try simp only [nc] at *); subst hA hS hr hfr; simp (disch := (refine KR.mk ?_; kernel_rfl)) only [alg, obP_iff, condP_iff, retP_iff, retM_iff, ofNat_cast, nc, Int.toNat_natCast, decide_eq_true_eq, decide_eq_false_iff_not, wrap_w64, retS_iff, Bool.not_eq_true', Bool.not_eq_false', beq_iff_eq, beq_eq_false_iff_ne, AV.bool.injEq, AV.int.injEq, AV.t2.injEq, AV.t3.injEq, AV.own.injEq, List.cons.injEq, Prod.mk.injEq, Row.ints.injEq, RW, Row.nlen, scalar, imp_self, and_true, true_and, lexT, heldT, tailT, planT, nb, Int.toNat_zero, List.getD_cons_zero, List.getD_cons_succ, List.set_cons_zero, List.set_cons_succ, sp5, sp, sb]
    simp [hc2, jnR]
  · have hf : (!(stB a) || !(stB b)) = false := by subst hA hS; exact hc
    rw [nb, Bool.not_eq_false'] at hf
    have hf2 := Bool.and_eq_true_iff.1 hf
    have ha8 := stB_len hf2.1
    have hb8 := stB_len hf2.2
    have hc2 : jnB a b = false := by rw [jnB, hf, h]; rfl
    obtain ⟨L, hL⟩ : ∃ L : Int, L = b.length := ⟨_, rfl⟩
    refine obP.mk (by (try simp only [nc] at *); subst hA hS; simp (disch := (refine KR.mk ?_; kernel_rfl)) only [alg, obP_iff, condP_iff, retP_iff, retM_iff, ofNat_cast, nc, Int.toNat_natCast, decide_eq_true_eq, decide_eq_false_iff_not, wrap_w64, retS_iff, Bool.not_eq_true', Bool.not_eq_false', beq_iff_eq, beq_eq_false_iff_ne, AV.bool.injEq, AV.int.injEq, AV.t2.injEq, AV.t3.injEq, AV.own.injEq, List.cons.injEq, Prod.mk.injEq, Row.ints.injEq, RW, Row.nlen, scalar, imp_self, and_true, true_and, lexT, heldT, tailT, planT, nb, Int.toNat_zero, List.getD_cons_zero, List.getD_cons_succ, List.set_cons_zero, List.set_cons_succ, sp5, sp, sb]; simp) (obP.mk (by (try simp only [nc] at *); subst hA hS; simp (disch := (refine KR.mk ?_; kernel_rfl)) only [alg, obP_iff, condP_iff, retP_iff, retM_iff, ofNat_cast, nc, Int.toNat_natCast, decide_eq_true_eq, decide_eq_false_iff_not, wrap_w64, retS_iff, Bool.not_eq_true', Bool.not_eq_false', beq_iff_eq, beq_eq_false_iff_ne, AV.bool.injEq, AV.int.injEq, AV.t2.injEq, AV.t3.injEq, AV.own.injEq, List.cons.injEq, Prod.mk.injEq, Row.ints.injEq, RW, Row.nlen, scalar, imp_self, and_true, true_and, lexT, heldT, tailT, planT, nb, Int.toNat_zero, List.getD_cons_zero, List.getD_cons_succ, List.set_cons_zero, List.set_cons_succ, sp5, sp, sb]; omega) ?_)
    refine loop2 (fun (k : Nat) (out : List (List Int)) => ⟨fr 38 [(6, .own 1 true), (21, .ro (.recs 2 b)), (22, .int .i64 L), (23, .int .i64 k)], [.dead, .row 57 (.recs 2 out)]⟩)
      (fun k out => k ≤ b.length ∧ out.length ≤ a.length + k ∧ jnL a b = (b.drop k).foldl (fun l s => putL l (s.getD 0 0) (s.getD 1 0)) out) (fun k _ => b.length - k) 0 a ?_ ?_ ?_
    · subst hA hS; simp [Wk_iff, fr, undefs, wkT, wkV, wkH, okid, Row.nlen, getO, alg, hL]
    · exact ⟨by omega, by omega, rfl⟩
    · intro k out hR
      have k1 := hR.1
      have k2 := hR.2.1
      have k3 := hR.2.2
      clear hR
      have HK := Hd.mk k3
      clear k3
      cbv
      (try simp only [nc] at *); subst hA hS hr hfr; simp (disch := (refine KR.mk ?_; kernel_rfl)) only [alg, obP_iff, condP_iff, retP_iff, retM_iff, ofNat_cast, nc, Int.toNat_natCast, decide_eq_true_eq, decide_eq_false_iff_not, wrap_w64, retS_iff, Bool.not_eq_true', Bool.not_eq_false', beq_iff_eq, beq_eq_false_iff_ne, AV.bool.injEq, AV.int.injEq, AV.t2.injEq, AV.t3.injEq, AV.own.injEq, List.cons.injEq, Prod.mk.injEq, Row.ints.injEq, RW, Row.nlen, scalar, imp_self, and_true, true_and, lexT, heldT, tailT, planT, nb, Int.toNat_zero, List.getD_cons_zero, List.getD_cons_succ, List.set_cons_zero, List.set_cons_succ, sp5, sp, sb]
      have w1 : w64 ((k : Int) + 1) = ((k + 1 : Nat) : Int) := by rw [w64_id (by omega)]; omega
      try simp only [w1]
      refine ⟨fun hk => ⟨by omega, by omega, k + 1, putL out ((b.getD k []).getD 0 0) ((b.getD k []).getD 1 0), ?_, ⟨by omega, ?_, ?_⟩, by omega⟩, fun hk => ?_⟩
      · simp [Wk_iff, fr, undefs, wkT, wkV, wkH, okid, Row.nlen, getO, clr]
      · have := putL_len out ((b.getD k []).getD 0 0) ((b.getD k []).getD 1 0); omega
      · exact jn_drop a b out HK.h (by omega)
      · have he := jn_end a b out HK.h (by omega)
        rw [hc2, jnR, hc2, ← he]
        refine ⟨⟨by rw [he]; omega, h⟩, ?_⟩
        simp
set_option maxRecDepth 100000 in
set_option maxHeartbeats 1000000 in
theorem specJn_y (a b : List (List Int)) (hl : a.length ≤ 1048576) (hbl : b.length ≤ 1048576) (h : stB (jnL a b) = true) : FC Try.prog 29 [.ro (.recs 2 a), .ro (.recs 2 b)] (.t2 (.own 0 true) (.bool (jnB a b))) [(57, .recs 2 (jnR a b))] := by
  refine fc_eval sp5 Py Py_ok hT hm Try.func29 rfl (by kernel_rfl) rfl rfl ?_
  intro A S r0 fr0 hA hS hr hfr
  cbv
  repeat refine obP.mk (by subst hA hS; first | assumption | trivial | exact fun _ => trivial | exact fun h => h | exact fun _ => hbl) ?_
  refine condP.mk (fun hc => ?_) (fun hc => ?_)
  · have hf : (!(stB a) || !(stB b)) = true := by subst hA hS; exact hc
    rw [nb, Bool.not_eq_true'] at hf
    have hc2 : jnB a b = false := by rw [jnB, hf]; rfl
    (try simp only [nc] at *); subst hA hS hr hfr; simp (disch := (refine KR.mk ?_; kernel_rfl)) only [alg, obP_iff, condP_iff, retP_iff, retM_iff, ofNat_cast, nc, Int.toNat_natCast, decide_eq_true_eq, decide_eq_false_iff_not, wrap_w64, retS_iff, Bool.not_eq_true', Bool.not_eq_false', beq_iff_eq, beq_eq_false_iff_ne, AV.bool.injEq, AV.int.injEq, AV.t2.injEq, AV.t3.injEq, AV.own.injEq, List.cons.injEq, Prod.mk.injEq, Row.ints.injEq, RW, Row.nlen, scalar, imp_self, and_true, true_and, lexT, heldT, tailT, planT, nb, Int.toNat_zero, List.getD_cons_zero, List.getD_cons_succ, List.set_cons_zero, List.set_cons_succ, sp5, sp, sb]
    simp [hc2, jnR]
  · have hf : (!(stB a) || !(stB b)) = false := by subst hA hS; exact hc
    rw [nb, Bool.not_eq_false'] at hf
    have hf2 := Bool.and_eq_true_iff.1 hf
    have ha8 := stB_len hf2.1
    have hb8 := stB_len hf2.2
    have hc2 : jnB a b = true := by rw [jnB, hf, h]; rfl
    obtain ⟨L, hL⟩ : ∃ L : Int, L = b.length := ⟨_, rfl⟩
    refine obP.mk (by (try simp only [nc] at *); subst hA hS; simp (disch := (refine KR.mk ?_; kernel_rfl)) only [alg, obP_iff, condP_iff, retP_iff, retM_iff, ofNat_cast, nc, Int.toNat_natCast, decide_eq_true_eq, decide_eq_false_iff_not, wrap_w64, retS_iff, Bool.not_eq_true', Bool.not_eq_false', beq_iff_eq, beq_eq_false_iff_ne, AV.bool.injEq, AV.int.injEq, AV.t2.injEq, AV.t3.injEq, AV.own.injEq, List.cons.injEq, Prod.mk.injEq, Row.ints.injEq, RW, Row.nlen, scalar, imp_self, and_true, true_and, lexT, heldT, tailT, planT, nb, Int.toNat_zero, List.getD_cons_zero, List.getD_cons_succ, List.set_cons_zero, List.set_cons_succ, sp5, sp, sb]; simp) (obP.mk (by (try simp only [nc] at *); subst hA hS; simp (disch := (refine KR.mk ?_; kernel_rfl)) only [alg, obP_iff, condP_iff, retP_iff, retM_iff, ofNat_cast, nc, Int.toNat_natCast, decide_eq_true_eq, decide_eq_false_iff_not, wrap_w64, retS_iff, Bool.not_eq_true', Bool.not_eq_false', beq_iff_eq, beq_eq_false_iff_ne, AV.bool.injEq, AV.int.injEq, AV.t2.injEq, AV.t3.injEq, AV.own.injEq, List.cons.injEq, Prod.mk.injEq, Row.ints.injEq, RW, Row.nlen, scalar, imp_self, and_true, true_and, lexT, heldT, tailT, planT, nb, Int.toNat_zero, List.getD_cons_zero, List.getD_cons_succ, List.set_cons_zero, List.set_cons_succ, sp5, sp, sb]; omega) ?_)
    refine loop2 (fun (k : Nat) (out : List (List Int)) => ⟨fr 37 [(6, .own 1 true), (20, .ro (.recs 2 b)), (21, .int .i64 L), (22, .int .i64 k)], [.dead, .row 57 (.recs 2 out)]⟩)
      (fun k out => k ≤ b.length ∧ out.length ≤ a.length + k ∧ jnL a b = (b.drop k).foldl (fun l s => putL l (s.getD 0 0) (s.getD 1 0)) out) (fun k _ => b.length - k) 0 a ?_ ?_ ?_
    · subst hA hS; simp [Wk_iff, fr, undefs, wkT, wkV, wkH, okid, Row.nlen, getO, alg, hL]
    · exact ⟨by omega, by omega, rfl⟩
    · intro k out hR
      have k1 := hR.1
      have k2 := hR.2.1
      have k3 := hR.2.2
      clear hR
      have HK := Hd.mk k3
      clear k3
      cbv
      (try simp only [nc] at *); subst hA hS hr hfr; simp (disch := (refine KR.mk ?_; kernel_rfl)) only [alg, obP_iff, condP_iff, retP_iff, retM_iff, ofNat_cast, nc, Int.toNat_natCast, decide_eq_true_eq, decide_eq_false_iff_not, wrap_w64, retS_iff, Bool.not_eq_true', Bool.not_eq_false', beq_iff_eq, beq_eq_false_iff_ne, AV.bool.injEq, AV.int.injEq, AV.t2.injEq, AV.t3.injEq, AV.own.injEq, List.cons.injEq, Prod.mk.injEq, Row.ints.injEq, RW, Row.nlen, scalar, imp_self, and_true, true_and, lexT, heldT, tailT, planT, nb, Int.toNat_zero, List.getD_cons_zero, List.getD_cons_succ, List.set_cons_zero, List.set_cons_succ, sp5, sp, sb]
      have w1 : w64 ((k : Int) + 1) = ((k + 1 : Nat) : Int) := by rw [w64_id (by omega)]; omega
      try simp only [w1]
      refine ⟨fun hk => ⟨by omega, by omega, k + 1, putL out ((b.getD k []).getD 0 0) ((b.getD k []).getD 1 0), ?_, ⟨by omega, ?_, ?_⟩, by omega⟩, fun hk => ?_⟩
      · simp [Wk_iff, fr, undefs, wkT, wkV, wkH, okid, Row.nlen, getO, clr]
      · have := putL_len out ((b.getD k []).getD 0 0) ((b.getD k []).getD 1 0); omega
      · exact jn_drop a b out HK.h (by omega)
      · have he := jn_end a b out HK.h (by omega)
        rw [hc2, jnR, hc2, ← he]
        refine ⟨⟨by rw [he]; omega, h⟩, ?_⟩
        simp
set_option maxRecDepth 100000 in
set_option maxHeartbeats 1000000 in
theorem specJn_n (a b : List (List Int)) (hl : a.length ≤ 1048576) (hbl : b.length ≤ 1048576) (h : stB (jnL a b) = false) : FC Try.prog 29 [.ro (.recs 2 a), .ro (.recs 2 b)] (.t2 (.own 0 true) (.bool (jnB a b))) [(57, .recs 2 (jnR a b))] := by
  refine fc_eval sp5 Pn Pn_ok hT hm Try.func29 rfl (by kernel_rfl) rfl rfl ?_
  intro A S r0 fr0 hA hS hr hfr
  cbv
  repeat refine obP.mk (by subst hA hS; first | assumption | trivial | exact fun _ => trivial | exact fun h => h | exact fun _ => hbl) ?_
  refine condP.mk (fun hc => ?_) (fun hc => ?_)
  · have hf : (!(stB a) || !(stB b)) = true := by subst hA hS; exact hc
    rw [nb, Bool.not_eq_true'] at hf
    have hc2 : jnB a b = false := by rw [jnB, hf]; rfl
    (try simp only [nc] at *); subst hA hS hr hfr; simp (disch := (refine KR.mk ?_; kernel_rfl)) only [alg, obP_iff, condP_iff, retP_iff, retM_iff, ofNat_cast, nc, Int.toNat_natCast, decide_eq_true_eq, decide_eq_false_iff_not, wrap_w64, retS_iff, Bool.not_eq_true', Bool.not_eq_false', beq_iff_eq, beq_eq_false_iff_ne, AV.bool.injEq, AV.int.injEq, AV.t2.injEq, AV.t3.injEq, AV.own.injEq, List.cons.injEq, Prod.mk.injEq, Row.ints.injEq, RW, Row.nlen, scalar, imp_self, and_true, true_and, lexT, heldT, tailT, planT, nb, Int.toNat_zero, List.getD_cons_zero, List.getD_cons_succ, List.set_cons_zero, List.set_cons_succ, sp5, sp, sb]
    simp [hc2, jnR]
  · have hf : (!(stB a) || !(stB b)) = false := by subst hA hS; exact hc
    rw [nb, Bool.not_eq_false'] at hf
    have hf2 := Bool.and_eq_true_iff.1 hf
    have ha8 := stB_len hf2.1
    have hb8 := stB_len hf2.2
    have hc2 : jnB a b = false := by rw [jnB, hf, h]; rfl
    obtain ⟨L, hL⟩ : ∃ L : Int, L = b.length := ⟨_, rfl⟩
    refine obP.mk (by (try simp only [nc] at *); subst hA hS; simp (disch := (refine KR.mk ?_; kernel_rfl)) only [alg, obP_iff, condP_iff, retP_iff, retM_iff, ofNat_cast, nc, Int.toNat_natCast, decide_eq_true_eq, decide_eq_false_iff_not, wrap_w64, retS_iff, Bool.not_eq_true', Bool.not_eq_false', beq_iff_eq, beq_eq_false_iff_ne, AV.bool.injEq, AV.int.injEq, AV.t2.injEq, AV.t3.injEq, AV.own.injEq, List.cons.injEq, Prod.mk.injEq, Row.ints.injEq, RW, Row.nlen, scalar, imp_self, and_true, true_and, lexT, heldT, tailT, planT, nb, Int.toNat_zero, List.getD_cons_zero, List.getD_cons_succ, List.set_cons_zero, List.set_cons_succ, sp5, sp, sb]; simp) (obP.mk (by (try simp only [nc] at *); subst hA hS; simp (disch := (refine KR.mk ?_; kernel_rfl)) only [alg, obP_iff, condP_iff, retP_iff, retM_iff, ofNat_cast, nc, Int.toNat_natCast, decide_eq_true_eq, decide_eq_false_iff_not, wrap_w64, retS_iff, Bool.not_eq_true', Bool.not_eq_false', beq_iff_eq, beq_eq_false_iff_ne, AV.bool.injEq, AV.int.injEq, AV.t2.injEq, AV.t3.injEq, AV.own.injEq, List.cons.injEq, Prod.mk.injEq, Row.ints.injEq, RW, Row.nlen, scalar, imp_self, and_true, true_and, lexT, heldT, tailT, planT, nb, Int.toNat_zero, List.getD_cons_zero, List.getD_cons_succ, List.set_cons_zero, List.set_cons_succ, sp5, sp, sb]; omega) ?_)
    refine loop2 (fun (k : Nat) (out : List (List Int)) => ⟨fr 37 [(6, .own 1 true), (20, .ro (.recs 2 b)), (21, .int .i64 L), (22, .int .i64 k)], [.dead, .row 57 (.recs 2 out)]⟩)
      (fun k out => k ≤ b.length ∧ out.length ≤ a.length + k ∧ jnL a b = (b.drop k).foldl (fun l s => putL l (s.getD 0 0) (s.getD 1 0)) out) (fun k _ => b.length - k) 0 a ?_ ?_ ?_
    · subst hA hS; simp [Wk_iff, fr, undefs, wkT, wkV, wkH, okid, Row.nlen, getO, alg, hL]
    · exact ⟨by omega, by omega, rfl⟩
    · intro k out hR
      have k1 := hR.1
      have k2 := hR.2.1
      have k3 := hR.2.2
      clear hR
      have HK := Hd.mk k3
      clear k3
      cbv
      (try simp only [nc] at *); subst hA hS hr hfr; simp (disch := (refine KR.mk ?_; kernel_rfl)) only [alg, obP_iff, condP_iff, retP_iff, retM_iff, ofNat_cast, nc, Int.toNat_natCast, decide_eq_true_eq, decide_eq_false_iff_not, wrap_w64, retS_iff, Bool.not_eq_true', Bool.not_eq_false', beq_iff_eq, beq_eq_false_iff_ne, AV.bool.injEq, AV.int.injEq, AV.t2.injEq, AV.t3.injEq, AV.own.injEq, List.cons.injEq, Prod.mk.injEq, Row.ints.injEq, RW, Row.nlen, scalar, imp_self, and_true, true_and, lexT, heldT, tailT, planT, nb, Int.toNat_zero, List.getD_cons_zero, List.getD_cons_succ, List.set_cons_zero, List.set_cons_succ, sp5, sp, sb]
      have w1 : w64 ((k : Int) + 1) = ((k + 1 : Nat) : Int) := by rw [w64_id (by omega)]; omega
      try simp only [w1]
      refine ⟨fun hk => ⟨by omega, by omega, k + 1, putL out ((b.getD k []).getD 0 0) ((b.getD k []).getD 1 0), ?_, ⟨by omega, ?_, ?_⟩, by omega⟩, fun hk => ?_⟩
      · simp [Wk_iff, fr, undefs, wkT, wkV, wkH, okid, Row.nlen, getO, clr]
      · have := putL_len out ((b.getD k []).getD 0 0) ((b.getD k []).getD 1 0); omega
      · exact jn_drop a b out HK.h (by omega)
      · have he := jn_end a b out HK.h (by omega)
        rw [hc2, jnR, hc2, ← he]
        refine ⟨⟨by rw [he]; omega, h⟩, ?_⟩
        simp
theorem implCut_ok (l : List (List Int)) (i n : Int) (hl : l.length ≤ 1048576) : FC Try.prog 26 [.ro (.recs 2 l), .int .i64 i, .int .i64 n] (.t2 (.own 0 true) (.bool (ctB l i n))) [(57, .recs 2 (ctR l i n))] := by
  rcases Bool.eq_false_or_eq_true (stB (ctL l i n)) with h | h
  · exact implCut_y l i n hl h
  · exact implCut_n l i n hl h
theorem specCut_ok (l : List (List Int)) (i n : Int) (hl : l.length ≤ 1048576) : FC Try.prog 25 [.ro (.recs 2 l), .int .i64 i, .int .i64 n] (.t2 (.own 0 true) (.bool (ctB l i n))) [(57, .recs 2 (ctR l i n))] := by
  rcases Bool.eq_false_or_eq_true (stB (ctL l i n)) with h | h
  · exact specCut_y l i n hl h
  · exact specCut_n l i n hl h
theorem implJn_ok (a b : List (List Int)) (hl : a.length ≤ 1048576) (hb : b.length ≤ 1048576) : FC Try.prog 30 [.ro (.recs 2 a), .ro (.recs 2 b)] (.t2 (.own 0 true) (.bool (jnB a b))) [(57, .recs 2 (jnR a b))] := by
  rcases Bool.eq_false_or_eq_true (stB (jnL a b)) with h | h
  · exact implJn_y a b hl hb h
  · exact implJn_n a b hl hb h
theorem specJn_ok (a b : List (List Int)) (hl : a.length ≤ 1048576) (hb : b.length ≤ 1048576) : FC Try.prog 29 [.ro (.recs 2 a), .ro (.recs 2 b)] (.t2 (.own 0 true) (.bool (jnB a b))) [(57, .recs 2 (jnR a b))] := by
  rcases Bool.eq_false_or_eq_true (stB (jnL a b)) with h | h
  · exact specJn_y a b hl hb h
  · exact specJn_n a b hl hb h
def Z1 (S : Sp5) : List (Nat × (List AV → CR)) :=
  (26, fun args => match args with | [.ro (.recs 2 l), .int .i64 i, .int .i64 n] => .pure (S.lm l) (.t2 (.own 0 true) (.bool (S.ctB l i n))) [(57, .recs 2 (S.ctR l i n))] | _ => .no) ::
  (25, fun args => match args with | [.ro (.recs 2 l), .int .i64 i, .int .i64 n] => .pure (S.lm l) (.t2 (.own 0 true) (.bool (S.ctB l i n))) [(57, .recs 2 (S.ctR l i n))] | _ => .no) ::
  (30, fun args => match args with | [.ro (.recs 2 a), .ro (.recs 2 b)] => .pure (S.lm a ∧ S.lm b) (.t2 (.own 0 true) (.bool (S.jnB a b))) [(57, .recs 2 (S.jnR a b))] | _ => .no) ::
  (29, fun args => match args with | [.ro (.recs 2 a), .ro (.recs 2 b)] => .pure (S.lm a ∧ S.lm b) (.t2 (.own 0 true) (.bool (S.jnB a b))) [(57, .recs 2 (S.jnR a b))] | _ => .no) ::
  R4 S.toSp
set_option maxRecDepth 100000 in
theorem Z1_ok : TabOK Try.prog (tfind (Z1 sp5)) := by
  refine tab_cons (fun args => ?_) (tab_cons (fun args => ?_) (tab_cons (fun args => ?_) (tab_cons (fun args => ?_) (R4_ok))))
  · split
    · exact ent_pure fun h => implCut_ok _ _ _ h
    · exact ent_no
  · split
    · exact ent_pure fun h => specCut_ok _ _ _ h
    · exact ent_no
  · split
    · exact ent_pure fun h => implJn_ok _ _ h.1 h.2
    · exact ent_no
  · split
    · exact ent_pure fun h => specJn_ok _ _ h.1 h.2
    · exact ent_no
theorem ctR_len (l : List (List Int)) (i n : Int) : (ctR l i n).length ≤ 8 := by
  unfold ctR; split
  · rename_i h
    exact stB_len (Bool.and_eq_true_iff.1 h).2
  · simp
theorem ctR_rec {l : List (List Int)} (i n : Int) (h : rec2 l) : rec2 (ctR l i n) := by
  unfold ctR; split
  · rename_i hc
    have hr := (ct_rg3 (Bool.and_eq_true_iff.1 hc).1).1
    refine putL_rec _ _ (putL_rec _ _ ?_)
    intro x hx
    rcases List.mem_or_eq_of_mem_set hx with h1 | h1
    · exact h x h1
    · obtain ⟨a, b, e⟩ := rec2_get h (i := i.toNat) (by omega)
      rw [h1, e]; rfl
  · intro x hx; simp at hx
theorem jnR_len (a b : List (List Int)) : (jnR a b).length ≤ 8 := by
  unfold jnR; split
  · rename_i h
    exact stB_len (Bool.and_eq_true_iff.1 h).2
  · simp
theorem jnL_rec : ∀ (b a : List (List Int)), rec2 a → rec2 (jnL a b)
  | [], _, h => h
  | s :: b, a, h => jnL_rec b (putL a (s.getD 0 0) (s.getD 1 0)) (putL_rec _ _ h)
theorem jnR_rec {a : List (List Int)} (b : List (List Int)) (h : rec2 a) : rec2 (jnR a b) := by
  unfold jnR; split
  · exact jnL_rec b a h
  · intro x hx; simp at hx
set_option maxRecDepth 100000 in
theorem lawCutSlip (l : List (List Int)) (i n : Int) (h2 : rec2 l) (hmx : l.length ≤ 9223372036854775807) : FC Try.prog 6 [.ro (.recs 2 l), .int .i64 i, .int .i64 n] (.bool true) [] := by
  refine fc_eval sp5 Z1 Z1_ok hT hm Try.func6 rfl (by kernel_rfl) rfl rfl ?_
  intro A S r0 fr0 hA hS hr hfr
  cbv
  (try simp only [nc] at *); subst hA hS hr hfr; simp (disch := (refine KR.mk ?_; kernel_rfl)) only [alg, obP_iff, condP_iff, retP_iff, retM_iff, ofNat_cast, nc, Int.toNat_natCast, decide_eq_true_eq, decide_eq_false_iff_not, wrap_w64, retS_iff, Bool.not_eq_true', Bool.not_eq_false', beq_iff_eq, beq_eq_false_iff_ne, AV.bool.injEq, AV.int.injEq, AV.t2.injEq, AV.t3.injEq, AV.own.injEq, List.cons.injEq, Prod.mk.injEq, Row.ints.injEq, RW, Row.nlen, scalar, imp_self, and_true, true_and, lexT, heldT, tailT, planT, nb, Int.toNat_zero, List.getD_cons_zero, List.getD_cons_succ, List.set_cons_zero, List.set_cons_succ, sp5, sp, sb, eqL, eqRL]
  have hq := ctR_len l i n
  have hr := ctR_rec i n h2
  refine ⟨fun _ => trivial, fun hs => ?_⟩
  have hl := sz_pos hmx hs
  simp [h2, hl, hr, upR_len, upR_rec, upFrom_len, heldR_up, heldL_up]
  try omega
theorem sz_pos2 {m n : Nat} (hm : m ≤ 1048576) (hn : n ≤ 9223372036854775807) (h : ¬ szV (szV 1048576 m) n < 0) : n ≤ 1048576 := by
  have e : szV 1048576 m = 1048576 - m := by unfold szV; rw [w64_id (by omega), if_neg (by omega)]
  rw [e] at h
  unfold szV at h
  rw [w64_id (by omega)] at h
  split at h <;> omega
set_option maxRecDepth 100000 in
theorem lawJoinStocks (a b : List (List Int)) (h2 : rec2 a) (hmx : a.length ≤ 9223372036854775807) (h3 : rec2 b) (hmy : b.length ≤ 9223372036854775807) : FC Try.prog 7 [.ro (.recs 2 a), .ro (.recs 2 b)] (.bool true) [] := by
  refine fc_eval sp5 Z1 Z1_ok hT hm Try.func7 rfl (by kernel_rfl) rfl rfl ?_
  intro A S r0 fr0 hA hS hr hfr
  cbv
  (try simp only [nc] at *); subst hA hS hr hfr; simp (disch := (refine KR.mk ?_; kernel_rfl)) only [alg, obP_iff, condP_iff, retP_iff, retM_iff, ofNat_cast, nc, Int.toNat_natCast, decide_eq_true_eq, decide_eq_false_iff_not, wrap_w64, retS_iff, Bool.not_eq_true', Bool.not_eq_false', beq_iff_eq, beq_eq_false_iff_ne, AV.bool.injEq, AV.int.injEq, AV.t2.injEq, AV.t3.injEq, AV.own.injEq, List.cons.injEq, Prod.mk.injEq, Row.ints.injEq, RW, Row.nlen, scalar, imp_self, and_true, true_and, lexT, heldT, tailT, planT, nb, Int.toNat_zero, List.getD_cons_zero, List.getD_cons_succ, List.set_cons_zero, List.set_cons_succ, sp5, sp, sb, eqL, eqRL]
  have hq := jnR_len a b
  have hr := jnR_rec b h2
  refine ⟨fun _ => trivial, fun hs => ⟨fun _ => trivial, fun hs2 => ?_⟩⟩
  have hl := sz_pos hmx hs
  have hl2 := sz_pos2 hl hmy hs2
  simp [h2, h3, hl, hl2, hr, upR_len, upR_rec, upFrom_len, heldR_up, heldL_up]
  try omega
end Go.Proofs.Ytbnnpcfagkdobaa
