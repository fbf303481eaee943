/-
  Spaces' text: both functions.
-/
import Derived.Test.YtjkkjfnkcfaigaaDoorY0
set_option linter.unusedSimpArgs false
set_option linter.unusedVariables false
namespace Go.Proofs.YtjkkjfnkcfaigaaDoor
open Go.Ab Go.RowKit

def cnB (ws cs : List Int) : Bool := allR cs 0 400 && decide ((cs.length : Int) = ws.length)
def stB (ws cs : List Int) : Bool := spB ws && cnB ws cs
def trm (c w : Int) : List UInt8 := decS c ++ [120] ++ decS w
def tS (ws cs : List Int) (n : Nat) : Nat → List UInt8
  | 0 => []
  | j + 1 => if 0 < cs.getD (n - 1 - j) 0 then tS ws cs n j ++ ([43] ++ trm (cs.getD (n - 1 - j) 0) (ws.getD (n - 1 - j) 0)) else tS ws cs n j
def tI (ws cs : List Int) (n : Nat) : Nat → List UInt8
  | 0 => []
  | j + 1 => if cs.getD (n - 1 - j) 0 = 0 then tI ws cs n j else (if tI ws cs n j = [] then [] else tI ws cs n j ++ [43]) ++ trm (cs.getD (n - 1 - j) 0) (ws.getD (n - 1 - j) 0)
def tV (ws cs : List Int) : List UInt8 := if stB ws cs then (if tI ws cs ws.length ws.length = [] then [48] else tI ws cs ws.length ws.length) else []

theorem decS_len {n : Int} (h0 : -9223372036854775808 ≤ n) (h1 : n ≤ 9223372036854775807) : (decS n).length ≤ 21 := Lib.itoa_length_le n h0 h1
theorem trm_ne (c w : Int) : trm c w ≠ [] := by simp [trm]
theorem allR_at {l : List Int} (h : allR l 0 400 = true) (i : Nat) : 0 ≤ l.getD i 0 ∧ l.getD i 0 ≤ 400 := by
  by_cases hi : i < l.length
  · exact allR_get h hi
  · rw [List.getD_eq_getElem?_getD, List.getElem?_eq_none (by omega)]; simp
theorem tST (ws cs : List Int) (n : Nat) (h : allR cs 0 400 = true) : ∀ j, (tS ws cs n j = [] ∧ tI ws cs n j = []) ∨ (tI ws cs n j ≠ [] ∧ tS ws cs n j = 43 :: tI ws cs n j)
  | 0 => .inl ⟨rfl, rfl⟩
  | j + 1 => by
    have hc := allR_at h (n - 1 - j)
    unfold tS tI
    by_cases h0 : cs.getD (n - 1 - j) 0 = 0
    · rw [if_neg (by omega), if_pos h0]; exact tST ws cs n h j
    · rw [if_pos (by omega), if_neg h0]
      rcases tST ws cs n h j with ⟨e1, e2⟩ | ⟨e1, e2⟩
      · rw [e1, if_pos e2]
        exact .inr ⟨by simp [trm], by simp⟩
      · rw [e2, if_neg e1]
        exact .inr ⟨by simp [trm], by simp⟩

theorem wsCounts_ok (ws cs : List Int) (hw : ws.length ≤ 1048576) (hc : cs.length ≤ 1048576) : FC Tryd.prog 9 [.ro (.ints .i64 ws), .ro (.ints .i64 cs)] (.bool (cnB ws cs)) [] := by
  refine fc_eval sb B2 B2_ok hT hm Tryd.func9 rfl (by kernel_rfl) rfl rfl ?_
  intro A S r0 fr0 hA hS hr hfr
  cbv
  (try simp only [nc] at *); subst hA hS hr hfr; simp (disch := (refine KR.mk ?_; kernel_rfl)) only [alg, obP_iff, condP_iff, retP_iff, retM_iff, ofNat_cast, nc, Int.toNat_natCast, decide_eq_true_eq, decide_eq_false_iff_not, wrap_w64, retS_iff, Bool.not_eq_true', Bool.not_eq_false', beq_iff_eq, beq_eq_false_iff_ne, AV.bool.injEq, AV.int.injEq, AV.t2.injEq, AV.t3.injEq, AV.own.injEq, List.cons.injEq, Prod.mk.injEq, Row.ints.injEq, RW, Row.nlen, scalar, imp_self, and_true, true_and, lexT, heldT, tailT, planT, nb, Int.toNat_zero, List.getD_cons_zero, List.getD_cons_succ, List.set_cons_zero, List.set_cons_succ, sb, cnB]
  refine ⟨fun _ => hc, ?_⟩
  by_cases h : (cs.length : Int) = ws.length <;> cases allR cs 0 400 <;> simp [h]
theorem areCounts_ok (ws cs : List Int) (hw : ws.length ≤ 1048576) (hc : cs.length ≤ 1048576) : FC Tryd.prog 11 [.ro (.ints .i64 ws), .ro (.ints .i64 cs)] (.bool (stB ws cs)) [] := by
  refine fc_eval sp S2 S2_ok hT hm Tryd.func11 rfl (by kernel_rfl) rfl rfl ?_
  intro A S r0 fr0 hA hS hr hfr
  cbv
  obtain ⟨L, hL⟩ : ∃ L : Int, L = cs.length := ⟨_, rfl⟩
  refine loop1 (fun (i : Nat) => ⟨fr 26 [(0, .ro (.ints .i64 ws)), (1, .ro (.ints .i64 cs)), (7, .ro (.ints .i64 cs)), (8, .int .i64 L), (9, .int .i64 i)], [.dead]⟩)
    (fun i => i ≤ cs.length ∧ allR cs 0 400 = allR (cs.drop i) 0 400) (fun i => cs.length - i) 0 ?_ ?_ ?_
  · subst hA; simp [Wk_iff, fr, undefs, wkT, wkV, wkH, okid, Row.nlen, w64_eq, getO, alg, hL]
  · simp
  · rintro i ⟨h1, h2⟩
    cbv
    (try simp only [nc] at *); subst hA hS hr hfr; simp (disch := (refine KR.mk ?_; kernel_rfl)) only [alg, obP_iff, condP_iff, retP_iff, retM_iff, ofNat_cast, nc, Int.toNat_natCast, decide_eq_true_eq, decide_eq_false_iff_not, wrap_w64, retS_iff, Bool.not_eq_true', Bool.not_eq_false', beq_iff_eq, beq_eq_false_iff_ne, AV.bool.injEq, AV.int.injEq, AV.t2.injEq, AV.t3.injEq, AV.own.injEq, List.cons.injEq, Prod.mk.injEq, Row.ints.injEq, RW, Row.nlen, scalar, imp_self, and_true, true_and, lexT, heldT, tailT, planT, nb, Int.toNat_zero, List.getD_cons_zero, List.getD_cons_succ, List.set_cons_zero, List.set_cons_succ, sp, sb]
    have e0 : stB ws cs = (spB ws && (allR cs 0 400 && decide ((cs.length : Int) = ws.length))) := rfl
    refine ⟨fun hi => ⟨by omega, fun hb => ?_, fun hb => ⟨i + 1, ?_, ⟨by omega, ?_⟩, by omega⟩⟩, fun hi => ⟨hw, ?_⟩⟩
    · rw [e0, h2, allR_drop _ _ _ _ (by omega), hb]; simp
    · simp [Wk_iff, fr, undefs, wkT, wkV, wkH, okid, Row.nlen, w64_eq, getO]; try omega
    · rw [h2, allR_drop _ _ _ _ (by omega), hb]; rfl
    · rw [e0, h2, allR_end _ _ _ _ (by omega), Bool.true_and]
      by_cases h : (cs.length : Int) = ws.length <;> cases spB ws <;> simp [h]
structure Sy extends Sp where
  cnB : List Int → List Int → Bool
  stB : List Int → List Int → Bool
  dec : Int → List UInt8
  pn : Int → Prop
  tV : List Int → List Int → List UInt8
  pT : List Int → List Int → Prop
def sy : Sy := { sp with cnB := cnB, stB := stB, dec := decS, pn := fun n => 0 ≤ n ∧ n ≤ 9223372036854775807, tV := tV, pT := fun a b => a.length ≤ 1048576 ∧ b.length ≤ 1048576 }
def Y1 (S : Sy) : List (Nat × (List AV → CR)) :=
  (9, fun args => match args with | [.ro (.ints .i64 l), .ro (.ints .i64 r)] => .pure (S.pT l r) (.bool (S.cnB l r)) [] | _ => .no) ::
  (11, fun args => match args with | [.ro (.ints .i64 l), .ro (.ints .i64 r)] => .pure (S.pT l r) (.bool (S.stB l r)) [] | _ => .no) ::
  (10, fun args => match args with | [.int .i64 n] => .pure (S.pn n) (.str (S.dec n)) [] | _ => .no) ::
  S2 S.toSp
set_option maxRecDepth 100000 in
theorem Y1_ok : TabOK Tryd.prog (tfind (Y1 sy)) := by
  refine tab_cons (fun args => ?_) (tab_cons (fun args => ?_) (tab_cons (fun args => ?_) (S2_ok)))
  · split
    · exact ent_pure fun h => wsCounts_ok _ _ h.1 h.2
    · exact ent_no
  · split
    · exact ent_pure fun h => areCounts_ok _ _ h.1 h.2
    · exact ent_no
  · split
    · exact ent_pure fun h => l1Num_ok _ h.1 h.2
    · exact ent_no
theorem tS_step (ws cs : List Int) (n : Nat) (i : Int) (h0 : 0 ≤ i) (hi : i < n) : tS ws cs n ((n : Int) - 1 - (i - 1)).toNat = if 0 < cs.getD i.toNat 0 then tS ws cs n ((n : Int) - 1 - i).toNat ++ ([43] ++ trm (cs.getD i.toNat 0) (ws.getD i.toNat 0)) else tS ws cs n ((n : Int) - 1 - i).toNat := by
  have e1 : ((n : Int) - 1 - (i - 1)).toNat = ((n : Int) - 1 - i).toNat + 1 := by omega
  have e2 : n - 1 - ((n : Int) - 1 - i).toNat = i.toNat := by omega
  rw [e1, tS, e2]
theorem tI_step (ws cs : List Int) (n : Nat) (i : Int) (h0 : 0 ≤ i) (hi : i < n) : tI ws cs n ((n : Int) - 1 - (i - 1)).toNat = if cs.getD i.toNat 0 = 0 then tI ws cs n ((n : Int) - 1 - i).toNat else (if tI ws cs n ((n : Int) - 1 - i).toNat = [] then [] else tI ws cs n ((n : Int) - 1 - i).toNat ++ [43]) ++ trm (cs.getD i.toNat 0) (ws.getD i.toNat 0) := by
  have e1 : ((n : Int) - 1 - (i - 1)).toNat = ((n : Int) - 1 - i).toNat + 1 := by omega
  have e2 : n - 1 - ((n : Int) - 1 - i).toNat = i.toNat := by omega
  rw [e1, tI, e2]
def Y2 (S : Sy) : List (Nat × (List AV → CR)) :=
  (12, fun args => match args with | [.int .i64 n] => .pure (S.pn n) (.str (S.dec n)) [] | _ => .no) ::
  Y1 S
set_option maxRecDepth 100000 in
theorem Y2_ok : TabG gW Tryd.prog (tfind (Y2 sy)) := by
  refine tab_cons (fun args => ?_) ((TabOK.toG Y1_ok))
  · split
    · exact ent_pure fun h => itoa_ok _ (by have := h.1; omega) h.2
    · exact ent_no
set_option maxRecDepth 100000 in
theorem specText_ok (ws cs : List Int) (hw : ws.length ≤ 1048576) (hc : cs.length ≤ 1048576) : FC Tryd.prog 4 [.ro (.ints .i64 ws), .ro (.ints .i64 cs)] (.t2 (.str (tV ws cs)) (.bool (stB ws cs))) [] := by
  refine fc_eval sy Y1 Y1_ok hT hm Tryd.func4 rfl (by kernel_rfl) rfl rfl ?_
  intro A S r0 fr0 hA hS hr hfr
  cbv
  obtain ⟨L, hL⟩ : ∃ L : Int, L = ws.length := ⟨_, rfl⟩
  obtain ⟨i0, hi0⟩ : ∃ i0 : Int, i0 = (ws.length : Int) - 1 := ⟨_, rfl⟩
  repeat refine obP.mk (by subst hA hS; first | assumption | trivial | exact fun _ => trivial | exact fun h => h | exact fun _ => ‹_› | (simp [alg, sy, sp, sb, hw, hc])) ?_
  refine condP.mk (fun hn => ?_) (fun hy => ?_)
  · have e : stB ws cs = false := by (try simp only [nc] at *); (try subst hA); (try subst hS); simp (disch := (refine KR.mk ?_; kernel_rfl)) only [alg, obP_iff, condP_iff, retP_iff, retM_iff, ofNat_cast, nc, Int.toNat_natCast, decide_eq_true_eq, decide_eq_false_iff_not, wrap_w64, retS_iff, Bool.not_eq_true', Bool.not_eq_false', beq_iff_eq, beq_eq_false_iff_ne, AV.bool.injEq, AV.int.injEq, AV.t2.injEq, AV.t3.injEq, AV.own.injEq, List.cons.injEq, Prod.mk.injEq, Row.ints.injEq, RW, Row.nlen, scalar, imp_self, and_true, true_and, lexT, heldT, tailT, planT, nb, Int.toNat_zero, List.getD_cons_zero, List.getD_cons_succ, List.set_cons_zero, List.set_cons_succ, sy, sp, sb] at hn; simp [stB, hn]
    (try simp only [nc] at *); subst hA hS hr hfr; simp (disch := (refine KR.mk ?_; kernel_rfl)) only [alg, obP_iff, condP_iff, retP_iff, retM_iff, ofNat_cast, nc, Int.toNat_natCast, decide_eq_true_eq, decide_eq_false_iff_not, wrap_w64, retS_iff, Bool.not_eq_true', Bool.not_eq_false', beq_iff_eq, beq_eq_false_iff_ne, AV.bool.injEq, AV.int.injEq, AV.t2.injEq, AV.t3.injEq, AV.own.injEq, List.cons.injEq, Prod.mk.injEq, Row.ints.injEq, RW, Row.nlen, scalar, imp_self, and_true, true_and, lexT, heldT, tailT, planT, nb, Int.toNat_zero, List.getD_cons_zero, List.getD_cons_succ, List.set_cons_zero, List.set_cons_succ, sy, sp, sb]
    simp [tV, e]
  have hst : stB ws cs = true := by (try simp only [nc] at *); (try subst hA); (try subst hS); simp (disch := (refine KR.mk ?_; kernel_rfl)) only [alg, obP_iff, condP_iff, retP_iff, retM_iff, ofNat_cast, nc, Int.toNat_natCast, decide_eq_true_eq, decide_eq_false_iff_not, wrap_w64, retS_iff, Bool.not_eq_true', Bool.not_eq_false', beq_iff_eq, beq_eq_false_iff_ne, AV.bool.injEq, AV.int.injEq, AV.t2.injEq, AV.t3.injEq, AV.own.injEq, List.cons.injEq, Prod.mk.injEq, Row.ints.injEq, RW, Row.nlen, scalar, imp_self, and_true, true_and, lexT, heldT, tailT, planT, nb, Int.toNat_zero, List.getD_cons_zero, List.getD_cons_succ, List.set_cons_zero, List.set_cons_succ, sy, sp, sb] at hy; simp [stB, hy]
  have hsp : spB ws = true ∧ cnB ws cs = true := by simpa [stB] using hst
  have hcn : allR cs 0 400 = true ∧ (cs.length : Int) = ws.length := by simpa [cnB] using hsp.2
  have hl6 := spB_len hsp.1
  refine loop2 (fun (i : Int) (t : List UInt8) => ⟨fr 48 [(0, .ro (.ints .i64 ws)), (1, .ro (.ints .i64 cs)), (6, .str t), (7, .int .i64 i)], [.dead]⟩)
    (fun i t => -1 ≤ i ∧ i < ws.length ∧ t = tS ws cs ws.length ((ws.length : Int) - 1 - i).toNat ∧ t.length ≤ 50 * ((ws.length : Int) - 1 - i).toNat) (fun i _ => (i + 1).toNat) i0 [] ?_ ?_ ?_
  · subst hA; simp [Wk_iff, fr, undefs, wkT, wkV, wkH, okid, Row.nlen, w64_eq, getO, alg, hi0, IntKind.wrap_i64]; try omega
  · subst hi0; simp [tS]; omega
  · rintro i t ⟨h1, h2, h3, h4⟩
    cbv
    (try simp only [nc] at *); subst hA hS hr hfr; simp (disch := (refine KR.mk ?_; kernel_rfl)) only [alg, obP_iff, condP_iff, retP_iff, retM_iff, ofNat_cast, nc, Int.toNat_natCast, decide_eq_true_eq, decide_eq_false_iff_not, wrap_w64, retS_iff, Bool.not_eq_true', Bool.not_eq_false', beq_iff_eq, beq_eq_false_iff_ne, AV.bool.injEq, AV.int.injEq, AV.t2.injEq, AV.t3.injEq, AV.own.injEq, List.cons.injEq, Prod.mk.injEq, Row.ints.injEq, RW, Row.nlen, scalar, imp_self, and_true, true_and, lexT, heldT, tailT, planT, nb, Int.toNat_zero, List.getD_cons_zero, List.getD_cons_succ, List.set_cons_zero, List.set_cons_succ, sy, sp, sb]
    have hC := allR_at hcn.1 i.toNat
    refine ⟨fun h0 => ⟨by omega, fun hp => ?_, fun hp => ?_⟩, fun h0 => ?_⟩
    · have hW := spB_at hsp.1 (i := i.toNat) (by omega)
      have l1 := decS_len (n := cs.getD i.toNat 0) (by omega) (by omega)
      have l2 := decS_len (n := ws.getD i.toNat 0) (by omega) (by omega)
      simp only [w64_eq, List.length_append, List.length_cons, List.length_nil]
      repeat' apply And.intro
      all_goals try omega
      refine ⟨i - 1, t ++ ([43] ++ trm (cs.getD i.toNat 0) (ws.getD i.toNat 0)), ?_, ⟨by omega, by omega, ?_, ?_⟩, by omega⟩
      · simp [Wk_iff, fr, undefs, wkT, wkV, wkH, okid, Row.nlen, w64_eq, getO, trm]; try omega
      · rw [tS_step _ _ _ i h0 (by omega), if_pos hp, ← h3]
      · simp only [trm, List.length_append, List.length_cons, List.length_nil]; omega
    · refine ⟨i - 1, t, ?_, ⟨by omega, by omega, ?_, by omega⟩, by omega⟩
      · simp [Wk_iff, fr, undefs, wkT, wkV, wkH, okid, Row.nlen, w64_eq, getO]; try omega
      · rw [tS_step _ _ _ i h0 (by omega), if_neg hp, ← h3]
    · obtain rfl : i = -1 := by omega
      have e : ((ws.length : Int) - 1 - -1).toNat = ws.length := by omega
      rw [e] at h3
      have hR := tST ws cs ws.length hcn.1 ws.length
      rw [← h3] at hR
      refine ⟨fun ht => ?_, fun ht => ?_⟩
      · rcases hR with ⟨_, e2⟩ | ⟨_, e2⟩
        · simp [tV, hst, e2]
        · rw [ht] at e2; cases e2
      · rcases hR with ⟨e1, _⟩ | ⟨e1, e2⟩
        · exact absurd e1 ht
        · refine ⟨by omega, ⟨by omega, ?_⟩, ?_, hst.symm⟩
          · rw [e2]; simp only [List.length_cons]; omega
          · rw [tV, if_pos hst, if_neg e1, List.take_length, e2]; rfl
set_option maxRecDepth 100000 in
theorem implText_ok (ws cs : List Int) (hw : ws.length ≤ 1048576) (hc : cs.length ≤ 1048576) : FCG gW Tryd.prog 6 [.ro (.ints .i64 ws), .ro (.ints .i64 cs)] (.t2 (.str (tV ws cs)) (.bool (stB ws cs))) [] := by
  refine fcg_eval gW_st sy Y2 Y2_ok hT hm Tryd.func6 rfl (by kernel_rfl) rfl rfl ?_
  intro A S r0 fr0 hA hS hr hfr
  cbv
  obtain ⟨L, hL⟩ : ∃ L : Int, L = ws.length := ⟨_, rfl⟩
  obtain ⟨i0, hi0⟩ : ∃ i0 : Int, i0 = (ws.length : Int) - 1 := ⟨_, rfl⟩
  repeat refine obP.mk (by subst hA hS; first | assumption | trivial | exact fun _ => trivial | exact fun h => h | exact fun _ => ‹_› | (simp [alg, sy, sp, sb, hw, hc])) ?_
  refine condP.mk (fun hn => ?_) (fun hy => ?_)
  · have e : stB ws cs = false := by (try simp only [nc] at *); (try subst hA); (try subst hS); simp (disch := (refine KR.mk ?_; kernel_rfl)) only [alg, obP_iff, condP_iff, retP_iff, retM_iff, ofNat_cast, nc, Int.toNat_natCast, decide_eq_true_eq, decide_eq_false_iff_not, wrap_w64, retS_iff, Bool.not_eq_true', Bool.not_eq_false', beq_iff_eq, beq_eq_false_iff_ne, AV.bool.injEq, AV.int.injEq, AV.t2.injEq, AV.t3.injEq, AV.own.injEq, List.cons.injEq, Prod.mk.injEq, Row.ints.injEq, RW, Row.nlen, scalar, imp_self, and_true, true_and, lexT, heldT, tailT, planT, nb, Int.toNat_zero, List.getD_cons_zero, List.getD_cons_succ, List.set_cons_zero, List.set_cons_succ, sy, sp, sb] at hn; simp [hn]
    (try simp only [nc] at *); subst hA hS hr hfr; simp (disch := (refine KR.mk ?_; kernel_rfl)) only [alg, obP_iff, condP_iff, retP_iff, retM_iff, ofNat_cast, nc, Int.toNat_natCast, decide_eq_true_eq, decide_eq_false_iff_not, wrap_w64, retS_iff, Bool.not_eq_true', Bool.not_eq_false', beq_iff_eq, beq_eq_false_iff_ne, AV.bool.injEq, AV.int.injEq, AV.t2.injEq, AV.t3.injEq, AV.own.injEq, List.cons.injEq, Prod.mk.injEq, Row.ints.injEq, RW, Row.nlen, scalar, imp_self, and_true, true_and, lexT, heldT, tailT, planT, nb, Int.toNat_zero, List.getD_cons_zero, List.getD_cons_succ, List.set_cons_zero, List.set_cons_succ, sy, sp, sb]
    simp [tV, e]
  have hst : stB ws cs = true := by (try simp only [nc] at *); (try subst hA); (try subst hS); simp (disch := (refine KR.mk ?_; kernel_rfl)) only [alg, obP_iff, condP_iff, retP_iff, retM_iff, ofNat_cast, nc, Int.toNat_natCast, decide_eq_true_eq, decide_eq_false_iff_not, wrap_w64, retS_iff, Bool.not_eq_true', Bool.not_eq_false', beq_iff_eq, beq_eq_false_iff_ne, AV.bool.injEq, AV.int.injEq, AV.t2.injEq, AV.t3.injEq, AV.own.injEq, List.cons.injEq, Prod.mk.injEq, Row.ints.injEq, RW, Row.nlen, scalar, imp_self, and_true, true_and, lexT, heldT, tailT, planT, nb, Int.toNat_zero, List.getD_cons_zero, List.getD_cons_succ, List.set_cons_zero, List.set_cons_succ, sy, sp, sb] at hy; simp [hy]
  have hsp : spB ws = true ∧ cnB ws cs = true := by simpa [stB] using hst
  have hcn : allR cs 0 400 = true ∧ (cs.length : Int) = ws.length := by simpa [cnB] using hsp.2
  have hl6 := spB_len hsp.1
  refine loop2 (fun (i : Int) (t : List UInt8) => ⟨fr 45 [(0, .ro (.ints .i64 ws)), (1, .ro (.ints .i64 cs)), (6, .str t), (7, .int .i64 i)], [.dead]⟩)
    (fun i t => -1 ≤ i ∧ i < ws.length ∧ t = tI ws cs ws.length ((ws.length : Int) - 1 - i).toNat ∧ t.length ≤ 50 * ((ws.length : Int) - 1 - i).toNat) (fun i _ => (i + 1).toNat) i0 [] ?_ ?_ ?_
  · subst hA; simp [Wk_iff, fr, undefs, wkT, wkV, wkH, okid, Row.nlen, w64_eq, getO, alg, hi0, IntKind.wrap_i64]; try omega
  · subst hi0; simp [tI]; omega
  · rintro i t ⟨h1, h2, h3, h4⟩
    cbv
    (try simp only [nc] at *); subst hA hS hr hfr; simp (disch := (refine KR.mk ?_; kernel_rfl)) only [alg, obP_iff, condP_iff, retP_iff, retM_iff, ofNat_cast, nc, Int.toNat_natCast, decide_eq_true_eq, decide_eq_false_iff_not, wrap_w64, retS_iff, Bool.not_eq_true', Bool.not_eq_false', beq_iff_eq, beq_eq_false_iff_ne, AV.bool.injEq, AV.int.injEq, AV.t2.injEq, AV.t3.injEq, AV.own.injEq, List.cons.injEq, Prod.mk.injEq, Row.ints.injEq, RW, Row.nlen, scalar, imp_self, and_true, true_and, lexT, heldT, tailT, planT, nb, Int.toNat_zero, List.getD_cons_zero, List.getD_cons_succ, List.set_cons_zero, List.set_cons_succ, sy, sp, sb]
    have hC := allR_at hcn.1 i.toNat
    refine ⟨fun h0 => ⟨by omega, fun hp => ?_, fun hp => ⟨fun ht => ?_, fun ht => ?_⟩⟩, fun h0 => ?_⟩
    · refine ⟨i - 1, t, ?_, ⟨by omega, by omega, ?_, by omega⟩, by omega⟩
      · simp [Wk_iff, fr, undefs, wkT, wkV, wkH, okid, Row.nlen, w64_eq, getO]; try omega
      · rw [tI_step _ _ _ i h0 (by omega), if_pos hp, ← h3]
    · have hW := spB_at hsp.1 (i := i.toNat) (by omega)
      have l1 := decS_len (n := cs.getD i.toNat 0) (by omega) (by omega)
      have l2 := decS_len (n := ws.getD i.toNat 0) (by omega) (by omega)
      simp only [w64_eq, List.length_append, List.length_cons, List.length_nil]
      repeat' apply And.intro
      all_goals try omega
      refine ⟨i - 1, t ++ [43] ++ trm (cs.getD i.toNat 0) (ws.getD i.toNat 0), ?_, ⟨by omega, by omega, ?_, ?_⟩, by omega⟩
      · simp [Wk_iff, fr, undefs, wkT, wkV, wkH, okid, Row.nlen, w64_eq, getO, trm]; try omega
      · rw [tI_step _ _ _ i h0 (by omega), if_neg hp, ← h3, if_neg ht]
      · simp only [trm, List.length_append, List.length_cons, List.length_nil]; omega
    · have hW := spB_at hsp.1 (i := i.toNat) (by omega)
      have l1 := decS_len (n := cs.getD i.toNat 0) (by omega) (by omega)
      have l2 := decS_len (n := ws.getD i.toNat 0) (by omega) (by omega)
      simp only [w64_eq, List.length_append, List.length_cons, List.length_nil]
      repeat' apply And.intro
      all_goals try omega
      refine ⟨i - 1, trm (cs.getD i.toNat 0) (ws.getD i.toNat 0), ?_, ⟨by omega, by omega, ?_, ?_⟩, by omega⟩
      · subst ht; simp [Wk_iff, fr, undefs, wkT, wkV, wkH, okid, Row.nlen, w64_eq, getO, trm]; try omega
      · rw [tI_step _ _ _ i h0 (by omega), if_neg hp, ← h3, if_pos ht]; rfl
      · simp only [trm, List.length_append, List.length_cons, List.length_nil]; omega
    · obtain rfl : i = -1 := by omega
      have e : ((ws.length : Int) - 1 - -1).toNat = ws.length := by omega
      rw [e] at h3
      refine ⟨fun ht => ⟨?_, hst.symm⟩, fun ht => ⟨?_, hst.symm⟩⟩
      · rw [tV, if_pos hst, ← h3, if_pos ht]
      · rw [tV, if_pos hst, ← h3, if_neg ht]
def Y3 (S : Sy) : List (Nat × (List AV → CR)) :=
  (4, fun args => match args with | [.ro (.ints .i64 l), .ro (.ints .i64 r)] => .pure (S.pT l r) (.t2 (.str (S.tV l r)) (.bool (S.stB l r))) [] | _ => .no) ::
  (6, fun args => match args with | [.ro (.ints .i64 l), .ro (.ints .i64 r)] => .pure (S.pT l r) (.t2 (.str (S.tV l r)) (.bool (S.stB l r))) [] | _ => .no) ::
  (5, fun args => match args with | [.ro (.ints .i64 l)] => .pure (S.sm l) (.own 0 false) [(3, .ints .i64 l)] | _ => .no) ::
  (7, fun args => match args with | [.ro (.ints .i64 l), .ro (.ints .i64 r)] => .pure (S.sm l) (.bool (S.eqL l r)) [] | _ => .no) ::
  Y2 S
set_option maxRecDepth 100000 in
theorem Y3_ok : TabG gW Tryd.prog (tfind (Y3 sy)) := by
  refine tab_cons (fun args => ?_) (tab_cons (fun args => ?_) (tab_cons (fun args => ?_) (tab_cons (fun args => ?_) (Y2_ok))))
  · split
    · exact ent_pure fun h => (specText_ok _ _ h.1 h.2).toG
    · exact ent_no
  · split
    · exact ent_pure fun h => implText_ok _ _ h.1 h.2
    · exact ent_no
  · split
    · exact ent_pure fun h => (toIntS_ok _ h).toG
    · exact ent_no
  · split
    · exact ent_pure fun h => (eqIntS_ok _ _ h).toG
    · exact ent_no
set_option maxRecDepth 100000 in
theorem lawSpacesText (ws cs : List Int) : FCG gW Tryd.prog 3 [.ro (.ints .i64 ws), .ro (.ints .i64 cs)] (.bool true) [] := by
  refine fcg_eval gW_st sy Y3 Y3_ok hT hm Tryd.func3 rfl (by kernel_rfl) rfl rfl ?_
  intro A S r0 fr0 hA hS hr hfr
  cbv
  (try simp only [nc] at *); subst hA hS hr hfr; simp (disch := (refine KR.mk ?_; kernel_rfl)) only [alg, obP_iff, condP_iff, retP_iff, retM_iff, ofNat_cast, nc, Int.toNat_natCast, decide_eq_true_eq, decide_eq_false_iff_not, wrap_w64, retS_iff, Bool.not_eq_true', Bool.not_eq_false', beq_iff_eq, beq_eq_false_iff_ne, AV.bool.injEq, AV.int.injEq, AV.t2.injEq, AV.t3.injEq, AV.own.injEq, List.cons.injEq, Prod.mk.injEq, Row.ints.injEq, RW, Row.nlen, scalar, imp_self, and_true, true_and, lexT, heldT, tailT, planT, nb, Int.toNat_zero, List.getD_cons_zero, List.getD_cons_succ, List.set_cons_zero, List.set_cons_succ, sy, sp, sb, eqL]
  simp; try omega
end Go.Proofs.YtjkkjfnkcfaigaaDoor
