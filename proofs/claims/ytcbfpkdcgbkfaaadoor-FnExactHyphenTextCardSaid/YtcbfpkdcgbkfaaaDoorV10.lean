/-
  Hyphens in words: one break, the last place.
-/
import Derived.Test.YtcbfpkdcgbkfaaaDoorV9
set_option linter.unusedSimpArgs false
set_option linter.unusedVariables false
namespace Go.Proofs.YtcbfpkdcgbkfaaaDoor
open Go.Ab Go.RowKit

theorem plc_rd {p e : List (List UInt8)} {w : List UInt8} (h : peP p e w) : ∃ m, plc p e w = rdM m w := by
  obtain ⟨_, ⟨he, hex⟩, hw⟩ := h
  by_cases hat : 0 ≤ atE e w
  · obtain ⟨i, hi, hai, hpx⟩ := atF_hit w e 0 (by omega) hat
    have hai : atE e w = i := by rw [atE, hai]; omega
    exact ⟨mkE (e.getD i []), by rw [plc, if_pos hat, hai, Int.toNat_natCast, rd_E (hex i hi) hpx]⟩
  · exact ⟨mkV (vals p w), by rw [plc, if_neg hat, rd_V (vals_len _ _)]⟩
theorem plT_len {c : Nat → Bool} : ∀ N, (plT c N).length ≤ N
  | 0 => by simp [plT]
  | N + 1 => by
    have := plT_len (c := c) N
    simp only [plT, List.length_append]
    split <;> simp <;> omega
theorem plc_len {p e : List (List UInt8)} {w : List UInt8} (h : peP p e w) : (plc p e w).length ≤ 16 := by
  obtain ⟨m, hm⟩ := plc_rd h
  obtain ⟨_, h1, h2⟩ := (letB_iff w 1 16).1 h.2.2
  rw [hm, rdM]
  have := plT_len (c := mkP m) (max 1 (w.length - 2))
  omega
/-- The places go up, from 2 on, and leave two letters at least. -/
theorem plc_at {p e : List (List UInt8)} {w : List UInt8} (h : peP p e w) : (plc p e w).Pairwise (· < ·) ∧ ∀ x ∈ plc p e w, 2 ≤ x ∧ x ≤ w.length := by
  obtain ⟨m, hm⟩ := plc_rd h
  obtain ⟨_, h1, h2⟩ := (letB_iff w 1 16).1 h.2.2
  rw [hm, rdM]
  refine ⟨plT_asc _, fun x hx => ?_⟩
  obtain ⟨n, hn, hc, rfl⟩ := (plT_mem _ _).1 hx
  simp only [mkP, Bool.and_eq_true, decide_eq_true_eq] at hc
  omega
theorem ask_pe {p e : List (List UInt8)} {w : List UInt8} (hp : allS p) (he : allS e) (h : askB p e w = true) : peP p e w := by
  simp only [askB, goodB, patsB, excsB, Bool.and_eq_true] at h
  refine ⟨⟨hp, h.1.1.1⟩, ⟨he, fun i hi => ?_⟩, h.2⟩
  have := h.1.2.1
  simp only [exTo, List.all_eq_true, List.mem_range, Bool.and_eq_true] at this
  exact (this i hi).1
def hpL (p e : List (List UInt8)) (w : List UInt8) : List Int := if askB p e w then plc p e w else []
theorem hpL_len {p e : List (List UInt8)} {w : List UInt8} (hp : allS p) (he : allS e) : (hpL p e w).length ≤ 16 := by
  unfold hpL; split
  · rename_i h; exact plc_len (ask_pe hp he h)
  · simp
def paP (p e : List (List UInt8)) (w : List UInt8) : Prop := allS p ∧ allS e ∧ w.length ≤ 1048576
def mbV (p e : List (List UInt8)) (w : List UInt8) (n : Int) : Bool := hasN (hpL p e w) n
/-- The last of the places that is no greater. -/
def lwF (n : Int) (l : List Int) (b : Int) : Int := l.foldl (fun b x => if x ≤ n then x else b) b
theorem lwF_drop (n : Int) (l : List Int) (i : Nat) (b : Int) (h : i < l.length) : lwF n (l.drop i) b = lwF n (l.drop (i + 1)) (if l.getD i 0 ≤ n then l.getD i 0 else b) := by
  rw [drop_getD 0 l i h]; rfl
def lpO (p e : List (List UInt8)) (w : List UInt8) (n : Int) : Bool := askB p e w && inR n 0 16
def lpV (p e : List (List UInt8)) (w : List UInt8) (n : Int) : Int := if lpO p e w n then lwF n (plc p e w) 0 else 0
def lpB (p e : List (List UInt8)) (w : List UInt8) (n : Int) : Bool := lpO p e w n && decide (0 < lpV p e w n)
structure Sz extends Sy where
  hpL : List (List UInt8) → List (List UInt8) → List UInt8 → List Int
  paP : List (List UInt8) → List (List UInt8) → List UInt8 → Prop
  mbV : List (List UInt8) → List (List UInt8) → List UInt8 → Int → Bool
  lpV : List (List UInt8) → List (List UInt8) → List UInt8 → Int → Int
  lpB : List (List UInt8) → List (List UInt8) → List UInt8 → Int → Bool
def sz : Sz := { sy with hpL := hpL, paP := paP, mbV := mbV, lpV := lpV, lpB := lpB }
def Z1 (S : Sz) : List (Nat × (List AV → CR)) :=
  (30, fun args => match args with | [.ro (.strs p), .ro (.strs e), .str w] => .pure (S.pe p e w) (.own 0 true) [(3, .ints .i64 (S.plc p e w))] | _ => .no) ::
  (29, fun args => match args with | [.ro (.strs p), .ro (.strs e), .str w] => .pure (S.paP p e w) (.bool (S.askB p e w)) [] | _ => .no) ::
  Y1 S.toSy
set_option maxRecDepth 100000 in
theorem Z1_ok : TabG gW Tryd.prog (tfind (Z1 sz)) := by
  refine tab_cons (fun args => ?_) (tab_cons (fun args => ?_) (Y1_ok))
  · split
    · exact ent_pure fun h => implPl_ok _ _ _ h
    · exact ent_no
  · split
    · exact ent_pure fun h => isH_ok _ _ _ h.1 h.2.1 h.2.2
    · exact ent_no
def Z2 (S : Sz) : List (Nat × (List AV → CR)) :=
  (17, fun args => match args with | [.ro (.strs p), .ro (.strs e), .str w] => .pure (S.pe p e w) (.own 0 true) [(3, .ints .i64 (S.plc p e w))] | _ => .no) ::
  (15, fun args => match args with | [.ro (.strs p), .ro (.strs e), .str w] => .pure (S.paP p e w) (.bool (S.askB p e w)) [] | _ => .no) ::
  Y2 S.toSy
set_option maxRecDepth 100000 in
theorem Z2_ok : TabOK Tryd.prog (tfind (Z2 sz)) := by
  refine tab_cons (fun args => ?_) (tab_cons (fun args => ?_) (Y2_ok))
  · split
    · exact ent_pure fun h => specPl_ok _ _ _ h
    · exact ent_no
  · split
    · exact ent_pure fun h => asked_ok _ _ _ h.1 h.2.1 h.2.2
    · exact ent_no
theorem hypPl_ok (p e : List (List UInt8)) (w : List UInt8) (h : paP p e w) : FCG gW Tryd.prog 18 [.ro (.strs p), .ro (.strs e), .str w] (.t2 (.own 0 true) (.bool (askB p e w))) [(3, .ints .i64 (hpL p e w))] := by
  refine fcg_eval gW_st sz Z1 Z1_ok hT hm Tryd.func18 rfl (by kernel_rfl) rfl rfl ?_
  intro A S r0 fr0 hA hS hr hfr
  cbv
  (try simp only [nc] at *); subst hA hS hr hfr; simp (disch := (refine KR.mk ?_; kernel_rfl)) only [alg, obP_iff, condP_iff, retP_iff, retM_iff, ofNat_cast, nc, Int.toNat_natCast, decide_eq_true_eq, decide_eq_false_iff_not, wrap_w64, retS_iff, Bool.not_eq_true', Bool.not_eq_false', beq_iff_eq, beq_eq_false_iff_ne, AV.bool.injEq, AV.int.injEq, AV.t2.injEq, AV.t3.injEq, AV.own.injEq, List.cons.injEq, Prod.mk.injEq, Row.ints.injEq, RW, Row.nlen, scalar, imp_self, and_true, true_and, lexT, heldT, tailT, planT, nb, Int.toNat_zero, List.getD_cons_zero, List.getD_cons_succ, List.set_cons_zero, List.set_cons_succ, sz, sy, sx, sw, sv, sh, sb]
  refine ⟨h, fun hc => ?_, fun hc => ⟨ask_pe h.1 h.2.1 hc, ?_⟩⟩
  · simp [hpL, hc]
  · simp [hpL, hc]
def Z3 (S : Sz) : List (Nat × (List AV → CR)) :=
  (18, fun args => match args with | [.ro (.strs p), .ro (.strs e), .str w] => .pure (S.paP p e w) (.t2 (.own 0 true) (.bool (S.askB p e w))) [(3, .ints .i64 (S.hpL p e w))] | _ => .no) ::
  Z1 S
set_option maxRecDepth 100000 in
theorem Z3_ok : TabG gW Tryd.prog (tfind (Z3 sz)) := by
  refine tab_cons (fun args => ?_) (Z1_ok)
  · split
    · exact ent_pure fun h => hypPl_ok _ _ _ h
    · exact ent_no
theorem implMB_ok (p e : List (List UInt8)) (w : List UInt8) (n : Int) (h : paP p e w) : FCG gW Tryd.prog 9 [.ro (.strs p), .ro (.strs e), .str w, .int .i64 n] (.t2 (.bool (mbV p e w n)) (.bool (askB p e w))) [] := by
  refine fcg_eval gW_st sz Z3 Z3_ok hT hm Tryd.func9 rfl (by kernel_rfl) rfl rfl ?_
  intro A S r0 fr0 hA hS hr hfr
  cbv
  (try simp only [nc] at *); subst hA hS hr hfr; simp (disch := (refine KR.mk ?_; kernel_rfl)) only [alg, obP_iff, condP_iff, retP_iff, retM_iff, ofNat_cast, nc, Int.toNat_natCast, decide_eq_true_eq, decide_eq_false_iff_not, wrap_w64, retS_iff, Bool.not_eq_true', Bool.not_eq_false', beq_iff_eq, beq_eq_false_iff_ne, AV.bool.injEq, AV.int.injEq, AV.t2.injEq, AV.t3.injEq, AV.own.injEq, List.cons.injEq, Prod.mk.injEq, Row.ints.injEq, RW, Row.nlen, scalar, imp_self, and_true, true_and, lexT, heldT, tailT, planT, nb, Int.toNat_zero, List.getD_cons_zero, List.getD_cons_succ, List.set_cons_zero, List.set_cons_succ, sz, sy, sx, sw, sv, sh, sb]
  have := hpL_len (w := w) h.1 h.2.1
  exact ⟨h, by omega, rfl⟩
theorem specMB_ok (p e : List (List UInt8)) (w : List UInt8) (n : Int) (h : paP p e w) : FC Tryd.prog 7 [.ro (.strs p), .ro (.strs e), .str w, .int .i64 n] (.t2 (.bool (mbV p e w n)) (.bool (askB p e w))) [] := by
  refine fc_eval sz Z2 Z2_ok hT hm Tryd.func7 rfl (by kernel_rfl) rfl rfl ?_
  intro A S r0 fr0 hA hS hr hfr
  cbv
  (try simp only [nc] at *); subst hA hS hr hfr; simp (disch := (refine KR.mk ?_; kernel_rfl)) only [alg, obP_iff, condP_iff, retP_iff, retM_iff, ofNat_cast, nc, Int.toNat_natCast, decide_eq_true_eq, decide_eq_false_iff_not, wrap_w64, retS_iff, Bool.not_eq_true', Bool.not_eq_false', beq_iff_eq, beq_eq_false_iff_ne, AV.bool.injEq, AV.int.injEq, AV.t2.injEq, AV.t3.injEq, AV.own.injEq, List.cons.injEq, Prod.mk.injEq, Row.ints.injEq, RW, Row.nlen, scalar, imp_self, and_true, true_and, lexT, heldT, tailT, planT, nb, Int.toNat_zero, List.getD_cons_zero, List.getD_cons_succ, List.set_cons_zero, List.set_cons_succ, sz, sy, sx, sw, sv, sh, sb]
  refine ⟨h, fun hc => ?_, fun hc => ?_⟩
  · simp [mbV, hpL, hc, hasN]
  · have hq := ask_pe h.1 h.2.1 hc
    have := plc_len hq
    exact ⟨hq, by omega, by simp [mbV, hpL, hc]⟩
set_option maxRecDepth 100000 in
theorem implLP_ok (p e : List (List UInt8)) (w : List UInt8) (n : Int) (h : paP p e w) : FCG gW Tryd.prog 14 [.ro (.strs p), .ro (.strs e), .str w, .int .i64 n] (.t2 (.int .i64 (lpV p e w n)) (.bool (lpB p e w n))) [] := by
  refine fcg_eval gW_st sz Z3 Z3_ok hT hm Tryd.func14 rfl (by kernel_rfl) rfl rfl ?_
  intro A S r0 fr0 hA hS hr hfr
  cbv
  refine obP.mk (by subst hA hS; exact h) ?_
  iterate 4 refine obP.mk (by subst hA; first | exact fun _ => trivial | exact fun h => h) ?_
  refine condP.mk (fun hc => ?_) (fun hc => ?_)
  · have hf : (!(askB p e w) || !(inR n 0 16)) = true := by subst hA hS; exact hc
    rw [nb, Bool.not_eq_true'] at hf
    have hf2 : lpO p e w n = false := hf
    (try simp only [nc] at *); subst hA hS hr hfr; simp (disch := (refine KR.mk ?_; kernel_rfl)) only [alg, obP_iff, condP_iff, retP_iff, retM_iff, ofNat_cast, nc, Int.toNat_natCast, decide_eq_true_eq, decide_eq_false_iff_not, wrap_w64, retS_iff, Bool.not_eq_true', Bool.not_eq_false', beq_iff_eq, beq_eq_false_iff_ne, AV.bool.injEq, AV.int.injEq, AV.t2.injEq, AV.t3.injEq, AV.own.injEq, List.cons.injEq, Prod.mk.injEq, Row.ints.injEq, RW, Row.nlen, scalar, imp_self, and_true, true_and, lexT, heldT, tailT, planT, nb, Int.toNat_zero, List.getD_cons_zero, List.getD_cons_succ, List.set_cons_zero, List.set_cons_succ, sz, sy, sx, sw, sv, sh, sb]
    simp [lpV, lpB, hf2]
  · have hf : (!(askB p e w) || !(inR n 0 16)) = false := by subst hA hS; exact hc
    rw [nb, Bool.not_eq_false'] at hf
    have hf2 : lpO p e w n = true := hf
    clear hc
    have hl : hpL p e w = plc p e w := by rw [hpL, if_pos (Bool.and_eq_true_iff.1 hf).1]
    have hll := hpL_len (w := w) h.1 h.2.1
    obtain ⟨l, hle⟩ : ∃ l, l = hpL p e w := ⟨_, rfl⟩
    rw [← hle] at hll hl
    have hfin : lpV p e w n = lwF n l 0 := by rw [lpV, if_pos hf2, hl]
    have hfb : lpB p e w n = decide (0 < lpV p e w n) := by rw [lpB, hf2]; rfl
    obtain ⟨L, hL⟩ : ∃ L : Int, L = l.length := ⟨_, rfl⟩
    refine loop2 (fun (i : Nat) (b : Int) => ⟨fr 43 [(3, .int .i64 n), (12, .int .i64 b), (29, .own 1 true), (30, .int .i64 L), (31, .int .i64 i)], [.dead, .row 3 (.ints .i64 l)]⟩)
      (fun i b => i ≤ l.length ∧ lwF n l 0 = lwF n (l.drop i) b) (fun i _ => l.length - i) 0 0 ?_ ?_ ?_
    · subst hA hS; simp [Wk_iff, fr, undefs, wkT, wkV, wkH, okid, Row.nlen, Row.rk, RK.rowk, getO, alg, hL, hle, sz]
    · simp
    · intro i b hR
      have i1 := hR.1
      have i2 := hR.2
      clear hR
      cbv
      (try simp only [nc] at *); subst hA hS hr hfr; simp (disch := (refine KR.mk ?_; kernel_rfl)) only [alg, obP_iff, condP_iff, retP_iff, retM_iff, ofNat_cast, nc, Int.toNat_natCast, decide_eq_true_eq, decide_eq_false_iff_not, wrap_w64, retS_iff, Bool.not_eq_true', Bool.not_eq_false', beq_iff_eq, beq_eq_false_iff_ne, AV.bool.injEq, AV.int.injEq, AV.t2.injEq, AV.t3.injEq, AV.own.injEq, List.cons.injEq, Prod.mk.injEq, Row.ints.injEq, RW, Row.nlen, scalar, imp_self, and_true, true_and, lexT, heldT, tailT, planT, nb, Int.toNat_zero, List.getD_cons_zero, List.getD_cons_succ, List.set_cons_zero, List.set_cons_succ, sz, sy, sx, sw, sv, sh, sb]
      have w1 : w64 ((i : Int) + 1) = ((i + 1 : Nat) : Int) := by rw [w64_id (by omega)]; omega
      simp only [w1]
      refine ⟨fun hi => ⟨by omega, fun hb => ⟨i + 1, l.getD i 0, ?_, ⟨by omega, ?_⟩, by omega⟩, fun hb => ⟨i + 1, b, ?_, ⟨by omega, ?_⟩, by omega⟩⟩, fun hi => ?_⟩
      · simp [Wk_iff, fr, undefs, wkT, wkV, wkH, okid, Row.nlen, Row.rk, RK.rowk, getO]
      · rw [i2, lwF_drop _ _ _ _ (by omega), if_pos hb]
      · simp [Wk_iff, fr, undefs, wkT, wkV, wkH, okid, Row.nlen, Row.rk, RK.rowk, getO]
      · rw [i2, lwF_drop _ _ _ _ (by omega), if_neg hb]
      · have : b = lpV p e w n := by rw [hfin, i2, List.drop_of_length_le (by omega)]; rfl
        rw [hfb, this]
        simp
set_option maxRecDepth 100000 in
theorem specLP_ok (p e : List (List UInt8)) (w : List UInt8) (n : Int) (h : paP p e w) : FC Tryd.prog 13 [.ro (.strs p), .ro (.strs e), .str w, .int .i64 n] (.t2 (.int .i64 (lpV p e w n)) (.bool (lpB p e w n))) [] := by
  refine fc_eval sz Z2 Z2_ok hT hm Tryd.func13 rfl (by kernel_rfl) rfl rfl ?_
  intro A S r0 fr0 hA hS hr hfr
  cbv
  refine obP.mk (by subst hA hS; exact h) ?_
  iterate 4 refine obP.mk (by subst hA; first | exact fun _ => trivial | exact fun h => h) ?_
  refine condP.mk (fun hc => ?_) (fun hc => ?_)
  · have hf : (!(askB p e w) || !(inR n 0 16)) = true := by subst hA hS; exact hc
    rw [nb, Bool.not_eq_true'] at hf
    have hf2 : lpO p e w n = false := hf
    (try simp only [nc] at *); subst hA hS hr hfr; simp (disch := (refine KR.mk ?_; kernel_rfl)) only [alg, obP_iff, condP_iff, retP_iff, retM_iff, ofNat_cast, nc, Int.toNat_natCast, decide_eq_true_eq, decide_eq_false_iff_not, wrap_w64, retS_iff, Bool.not_eq_true', Bool.not_eq_false', beq_iff_eq, beq_eq_false_iff_ne, AV.bool.injEq, AV.int.injEq, AV.t2.injEq, AV.t3.injEq, AV.own.injEq, List.cons.injEq, Prod.mk.injEq, Row.ints.injEq, RW, Row.nlen, scalar, imp_self, and_true, true_and, lexT, heldT, tailT, planT, nb, Int.toNat_zero, List.getD_cons_zero, List.getD_cons_succ, List.set_cons_zero, List.set_cons_succ, sz, sy, sx, sw, sv, sh, sb]
    simp [lpV, lpB, hf2]
  · have hf : (!(askB p e w) || !(inR n 0 16)) = false := by subst hA hS; exact hc
    rw [nb, Bool.not_eq_false'] at hf
    have hf2 : lpO p e w n = true := hf
    clear hc
    have hpe := ask_pe h.1 h.2.1 (Bool.and_eq_true_iff.1 hf).1
    have hll := plc_len hpe
    obtain ⟨l, hle⟩ : ∃ l, l = plc p e w := ⟨_, rfl⟩
    rw [← hle] at hll
    have hfin : lpV p e w n = lwF n l 0 := by rw [lpV, if_pos hf2, hle]
    have hfb : lpB p e w n = decide (0 < lpV p e w n) := by rw [lpB, hf2]; rfl
    obtain ⟨L, hL⟩ : ∃ L : Int, L = l.length := ⟨_, rfl⟩
    refine obP.mk (by subst hA hS; exact hpe) ?_
    refine loop2 (fun (i : Nat) (b : Int) => ⟨fr 40 [(3, .int .i64 n), (10, .int .i64 b), (26, .own 1 true), (27, .int .i64 L), (28, .int .i64 i)], [.dead, .row 3 (.ints .i64 l)]⟩)
      (fun i b => i ≤ l.length ∧ lwF n l 0 = lwF n (l.drop i) b) (fun i _ => l.length - i) 0 0 ?_ ?_ ?_
    · subst hA hS; simp [Wk_iff, fr, undefs, wkT, wkV, wkH, okid, Row.nlen, Row.rk, RK.rowk, getO, alg, hL, hle, sz, sy]
    · simp
    · intro i b hR
      have i1 := hR.1
      have i2 := hR.2
      clear hR
      cbv
      (try simp only [nc] at *); subst hA hS hr hfr; simp (disch := (refine KR.mk ?_; kernel_rfl)) only [alg, obP_iff, condP_iff, retP_iff, retM_iff, ofNat_cast, nc, Int.toNat_natCast, decide_eq_true_eq, decide_eq_false_iff_not, wrap_w64, retS_iff, Bool.not_eq_true', Bool.not_eq_false', beq_iff_eq, beq_eq_false_iff_ne, AV.bool.injEq, AV.int.injEq, AV.t2.injEq, AV.t3.injEq, AV.own.injEq, List.cons.injEq, Prod.mk.injEq, Row.ints.injEq, RW, Row.nlen, scalar, imp_self, and_true, true_and, lexT, heldT, tailT, planT, nb, Int.toNat_zero, List.getD_cons_zero, List.getD_cons_succ, List.set_cons_zero, List.set_cons_succ, sz, sy, sx, sw, sv, sh, sb]
      have w1 : w64 ((i : Int) + 1) = ((i + 1 : Nat) : Int) := by rw [w64_id (by omega)]; omega
      simp only [w1]
      refine ⟨fun hi => ⟨by omega, fun hb => ⟨i + 1, l.getD i 0, ?_, ⟨by omega, ?_⟩, by omega⟩, fun hb => ⟨i + 1, b, ?_, ⟨by omega, ?_⟩, by omega⟩⟩, fun hi => ?_⟩
      · simp [Wk_iff, fr, undefs, wkT, wkV, wkH, okid, Row.nlen, Row.rk, RK.rowk, getO]
      · rw [i2, lwF_drop _ _ _ _ (by omega), if_pos hb]
      · simp [Wk_iff, fr, undefs, wkT, wkV, wkH, okid, Row.nlen, Row.rk, RK.rowk, getO]
      · rw [i2, lwF_drop _ _ _ _ (by omega), if_neg hb]
      · have : b = lpV p e w n := by rw [hfin, i2, List.drop_of_length_le (by omega)]; rfl
        rw [hfb, this]
        simp
end Go.Proofs.YtcbfpkdcgbkfaaaDoor
