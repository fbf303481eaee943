/-
  Hyphens in words: patterns and exceptions asked about.
-/
import Derived.Test.YtcbfpkdcgbkfaaaDoorV2
set_option linter.unusedSimpArgs false
set_option linter.unusedVariables false
namespace Go.Proofs.YtcbfpkdcgbkfaaaDoor
open Go.Ab Go.RowKit

def V3 (S : Sv) : List (Nat × (List AV → CR)) :=
  (56, fun args => match args with | [.str s, .str x, .str y] => .pure (S.ss s ∧ x = [45] ∧ y = []) (.str (S.plainE s)) [] | _ => .no) ::
  (43, fun args => match args with | [.str s, .str x] => .pure (S.ss s ∧ x = [45]) (.own 0 false) [(9, .strs (S.spl s))] | _ => .no) ::
  (53, fun args => match args with | [.str s, .str x] => .pure (True) (.bool (S.hp s x)) [] | _ => .no) ::
  V2 S
set_option maxRecDepth 100000 in
theorem V3_ok : TabG gW Tryd.prog (tfind (V3 sv)) := by
  refine tab_cons (fun args => ?_) (tab_cons (fun args => ?_) (tab_cons (fun args => ?_) ((TabOK.toG V2_ok))))
  · split
    · exact ent_pure fun h => by obtain ⟨h, rfl, rfl⟩ := h; exact repl_ok _ h
    · exact ent_no
  · split
    · exact ent_pure fun h => by obtain ⟨h, rfl⟩ := h; exact split_ok _ h
    · exact ent_no
  · split
    · exact ent_pure fun _ => (pre_ok _ _).toG
    · exact ent_no
theorem plain_ok (s : List UInt8) (hs : s.length ≤ 1048576) : FCG gW Tryd.prog 49 [.str s] (.str (plainE s)) [] := by
  refine fcg_eval gW_st sv V3 V3_ok hT hm Tryd.func49 rfl (by kernel_rfl) rfl rfl ?_
  intro A S r0 fr0 hA hS hr hfr
  cbv
  (try simp only [nc] at *); subst hA hS hr hfr; simp (disch := (refine KR.mk ?_; kernel_rfl)) only [alg, obP_iff, condP_iff, retP_iff, retM_iff, ofNat_cast, nc, Int.toNat_natCast, decide_eq_true_eq, decide_eq_false_iff_not, wrap_w64, retS_iff, Bool.not_eq_true', Bool.not_eq_false', beq_iff_eq, beq_eq_false_iff_ne, AV.bool.injEq, AV.int.injEq, AV.t2.injEq, AV.t3.injEq, AV.own.injEq, List.cons.injEq, Prod.mk.injEq, Row.ints.injEq, RW, Row.nlen, scalar, imp_self, and_true, true_and, lexT, heldT, tailT, planT, nb, Int.toNat_zero, List.getD_cons_zero, List.getD_cons_succ, List.set_cons_zero, List.set_cons_succ, sv, sh, sb]
  simp [hs]
theorem plainE_len (s : List UInt8) : (plainE s).length ≤ s.length := List.length_filter_le _ _
theorem allL_drop (ps : List (List UInt8)) (i : Nat) (h : i < ps.length) : (ps.drop i).all (fun p => letB p 1 16) = (letB (ps.getD i []) 1 16 && (ps.drop (i + 1)).all fun p => letB p 1 16) := by
  rw [drop_getD [] ps i h]; rfl
def V4 (S : Sv) : List (Nat × (List AV → CR)) :=
  (49, fun args => match args with | [.str s] => .pure (S.ss s) (.str (S.plainE s)) [] | _ => .no) ::
  V3 S
set_option maxRecDepth 100000 in
theorem V4_ok : TabG gW Tryd.prog (tfind (V4 sv)) := by
  refine tab_cons (fun args => ?_) (V3_ok)
  · split
    · exact ent_pure fun h => plain_ok _ h
    · exact ent_no
set_option maxRecDepth 100000 in
theorem isE_ok (e : List UInt8) (he : e.length ≤ 1048576) : FCG gW Tryd.prog 48 [.str e] (.bool (excB e)) [] := by
  refine fcg_eval gW_st sv V4 V4_ok hT hm Tryd.func48 rfl (by kernel_rfl) rfl rfl ?_
  intro A S r0 fr0 hA hS hr hfr
  cbv
  refine obP.mk (by subst hS; exact ⟨he, trivial⟩) ?_
  obtain ⟨ps, hps⟩ : ∃ ps, ps = spl e := ⟨_, rfl⟩
  obtain ⟨L, hL⟩ : ∃ L : Int, L = ps.length := ⟨_, rfl⟩
  have hpl := plainE_len e
  have hpn : ps.length ≤ 1048578 := by
    have h1 := spl_len _ e (Nat.le_refl _)
    have h2 := Lib.count_le e [45]
    rw [hps]; omega
  have hpp : ∀ i, i < ps.length → (ps.getD i []).length ≤ 1048576 := by
    intro i hi
    have := len_spl e (ps.getD i []) (by rw [← hps, List.getD_eq_getElem?_getD, List.getElem?_eq_getElem hi]; simp)
    omega
  refine loop1 (fun (i : Nat) => ⟨fr 20 [(0, .str e), (6, .own 1 false), (7, .int .i64 L), (8, .int .i64 i)], [.dead, .row 9 (.strs ps)]⟩)
    (fun i => i ≤ ps.length ∧ ps.all (fun p => letB p 1 16) = (ps.drop i).all fun p => letB p 1 16) (fun i => ps.length - i) 0 ?_ ?_ ?_
  · subst hA hS; simp [Wk_iff, fr, undefs, wkT, wkV, wkH, okid, Row.nlen, Row.rk, RK.rowk, w64_eq, getO, alg, hL, hps, sv]
  · simp
  · rintro i ⟨h1, h2⟩
    cbv
    (try simp only [nc] at *); subst hA hS hr hfr; simp (disch := (refine KR.mk ?_; kernel_rfl)) only [alg, obP_iff, condP_iff, retP_iff, retM_iff, ofNat_cast, nc, Int.toNat_natCast, decide_eq_true_eq, decide_eq_false_iff_not, wrap_w64, retS_iff, Bool.not_eq_true', Bool.not_eq_false', beq_iff_eq, beq_eq_false_iff_ne, AV.bool.injEq, AV.int.injEq, AV.t2.injEq, AV.t3.injEq, AV.own.injEq, List.cons.injEq, Prod.mk.injEq, Row.ints.injEq, RW, Row.nlen, scalar, imp_self, and_true, true_and, lexT, heldT, tailT, planT, nb, Int.toNat_zero, List.getD_cons_zero, List.getD_cons_succ, List.set_cons_zero, List.set_cons_succ, sv, sh, sb]
    have e0 : excB e = (ps.all (fun p => letB p 1 16) && inR ((plainE e).length : Int) 2 16) := by rw [hps]; rfl
    refine ⟨fun hi => ⟨by omega, hpp i (by omega), fun hb => ?_, fun hb => ⟨i + 1, ?_, ⟨by omega, ?_⟩, by omega⟩⟩, fun hi => ⟨he, ?_⟩⟩
    · rw [e0, h2, allL_drop _ _ (by omega), hb]; rfl
    · simp [Wk_iff, fr, undefs, wkT, wkV, wkH, okid, Row.nlen, Row.rk, RK.rowk, w64_eq, getO]; try omega
    · rw [h2, allL_drop _ _ (by omega), hb]; rfl
    · rw [e0, h2, List.drop_of_length_le (by omega)]; rfl
/-- The first exception that reads as the word; -1 where there is none. -/
def atF (w : List UInt8) : List (List UInt8) → Int → Int
  | [], _ => -1
  | e :: r, i => if plainE e = w then i else atF w r (i + 1)
def atE (l : List (List UInt8)) (w : List UInt8) : Int := atF w l 0
theorem atF_drop (w : List UInt8) (l : List (List UInt8)) (i : Nat) (h : i < l.length) : atF w (l.drop i) i = if plainE (l.getD i []) = w then (i : Int) else atF w (l.drop (i + 1)) ((i + 1 : Nat) : Int) := by
  rw [drop_getD [] l i h]
  simp only [atF]
  congr 1
def allS (l : List (List UInt8)) : Prop := l.length ≤ 1048576 ∧ ∀ i, i < l.length → (l.getD i []).length ≤ 1048576
def V5 (S : Sv) : List (Nat × (List AV → CR)) :=
  (48, fun args => match args with | [.str s] => .pure (S.ss s) (.bool (S.excB s)) [] | _ => .no) ::
  V4 S
set_option maxRecDepth 100000 in
theorem V5_ok : TabG gW Tryd.prog (tfind (V5 sv)) := by
  refine tab_cons (fun args => ?_) (V4_ok)
  · split
    · exact ent_pure fun h => isE_ok _ h
    · exact ent_no
set_option maxRecDepth 100000 in
theorem excAt_ok (l : List (List UInt8)) (w : List UInt8) (hl : allS l) : FCG gW Tryd.prog 42 [.ro (.strs l), .str w] (.int .i64 (atE l w)) [] := by
  refine fcg_eval gW_st sv V5 V5_ok hT hm Tryd.func42 rfl (by kernel_rfl) rfl rfl ?_
  intro A S r0 fr0 hA hS hr hfr
  cbv
  obtain ⟨L, hL⟩ : ∃ L : Int, L = l.length := ⟨_, rfl⟩
  refine loop1 (fun (i : Nat) => ⟨fr 20 [(1, .str w), (7, .ro (.strs l)), (8, .int .i64 L), (9, .int .i64 i)], [.dead]⟩)
    (fun i => i ≤ l.length ∧ atE l w = atF w (l.drop i) i) (fun i => l.length - i) 0 ?_ ?_ ?_
  · subst hA hS; simp [Wk_iff, fr, undefs, wkT, wkV, wkH, okid, Row.nlen, Row.rk, RK.rowk, w64_eq, getO, alg, hL]
  · simp [atE]
  · rintro i ⟨h1, h2⟩
    cbv
    (try simp only [nc] at *); subst hA hS hr hfr; simp (disch := (refine KR.mk ?_; kernel_rfl)) only [alg, obP_iff, condP_iff, retP_iff, retM_iff, ofNat_cast, nc, Int.toNat_natCast, decide_eq_true_eq, decide_eq_false_iff_not, wrap_w64, retS_iff, Bool.not_eq_true', Bool.not_eq_false', beq_iff_eq, beq_eq_false_iff_ne, AV.bool.injEq, AV.int.injEq, AV.t2.injEq, AV.t3.injEq, AV.own.injEq, List.cons.injEq, Prod.mk.injEq, Row.ints.injEq, RW, Row.nlen, scalar, imp_self, and_true, true_and, lexT, heldT, tailT, planT, nb, Int.toNat_zero, List.getD_cons_zero, List.getD_cons_succ, List.set_cons_zero, List.set_cons_succ, sv, sh, sb]
    have hln := hl.1
    refine ⟨fun hi => ⟨by omega, hl.2 i (by omega), fun hb => ?_, fun hb => ⟨i + 1, ?_, ⟨by omega, ?_⟩, by omega⟩⟩, fun hi => ?_⟩
    · rw [h2, atF_drop _ _ _ (by omega), if_pos hb]
    · simp [Wk_iff, fr, undefs, wkT, wkV, wkH, okid, Row.nlen, Row.rk, RK.rowk, w64_eq, getO]; try omega
    · rw [h2, atF_drop _ _ _ (by omega), if_neg hb]
    · rw [h2, List.drop_of_length_le (by omega)]; rfl
def patsB (l : List (List UInt8)) : Bool := l.all patB && decide ((l.length : Int) ≤ 20)
theorem allP_drop (ps : List (List UInt8)) (i : Nat) (h : i < ps.length) : (ps.drop i).all patB = (patB (ps.getD i []) && (ps.drop (i + 1)).all patB) := by
  rw [drop_getD [] ps i h]; rfl
theorem areP_ok (l : List (List UInt8)) (hl : allS l) : FC Tryd.prog 39 [.ro (.strs l)] (.bool (patsB l)) [] := by
  refine fc_eval sv V2 V2_ok hT hm Tryd.func39 rfl (by kernel_rfl) rfl rfl ?_
  intro A S r0 fr0 hA hS hr hfr
  cbv
  obtain ⟨L, hL⟩ : ∃ L : Int, L = l.length := ⟨_, rfl⟩
  refine loop1 (fun (i : Nat) => ⟨fr 18 [(0, .ro (.strs l)), (5, .ro (.strs l)), (6, .int .i64 L), (7, .int .i64 i)], [.dead]⟩)
    (fun i => i ≤ l.length ∧ l.all patB = (l.drop i).all patB) (fun i => l.length - i) 0 ?_ ?_ ?_
  · subst hA hS; simp [Wk_iff, fr, undefs, wkT, wkV, wkH, okid, Row.nlen, Row.rk, RK.rowk, w64_eq, getO, alg, hL]
  · simp
  · rintro i ⟨h1, h2⟩
    cbv
    (try simp only [nc] at *); subst hA hS hr hfr; simp (disch := (refine KR.mk ?_; kernel_rfl)) only [alg, obP_iff, condP_iff, retP_iff, retM_iff, ofNat_cast, nc, Int.toNat_natCast, decide_eq_true_eq, decide_eq_false_iff_not, wrap_w64, retS_iff, Bool.not_eq_true', Bool.not_eq_false', beq_iff_eq, beq_eq_false_iff_ne, AV.bool.injEq, AV.int.injEq, AV.t2.injEq, AV.t3.injEq, AV.own.injEq, List.cons.injEq, Prod.mk.injEq, Row.ints.injEq, RW, Row.nlen, scalar, imp_self, and_true, true_and, lexT, heldT, tailT, planT, nb, Int.toNat_zero, List.getD_cons_zero, List.getD_cons_succ, List.set_cons_zero, List.set_cons_succ, sv, sh, sb]
    have hln := hl.1
    refine ⟨fun hi => ⟨by omega, hl.2 i (by omega), fun hb => ?_, fun hb => ⟨i + 1, ?_, ⟨by omega, ?_⟩, by omega⟩⟩, fun hi => ?_⟩
    · rw [patsB, h2, allP_drop _ _ (by omega), hb]; rfl
    · simp [Wk_iff, fr, undefs, wkT, wkV, wkH, okid, Row.nlen, Row.rk, RK.rowk, w64_eq, getO]; try omega
    · rw [h2, allP_drop _ _ (by omega), hb]; rfl
    · rw [patsB, h2, List.drop_of_length_le (by omega)]; rfl

/-! Exceptions together: none reads as an earlier one. -/
def exTo (l : List (List UInt8)) (n : Nat) : Bool := (List.range n).all fun i => excB (l.getD i []) && !hasB ((l.take i).map plainE) (plainE (l.getD i []))
def excsB (l : List (List UInt8)) : Bool := exTo l l.length && decide ((l.length : Int) ≤ 20)
theorem exTo_succ (l : List (List UInt8)) (n : Nat) : exTo l (n + 1) = (exTo l n && (excB (l.getD n []) && !hasB ((l.take n).map plainE) (plainE (l.getD n [])))) := by
  simp [exTo, List.range_succ, List.all_append]
theorem exTo_bad {l : List (List UInt8)} {n i : Nat} (hi : i < n) (h : (excB (l.getD i []) && !hasB ((l.take i).map plainE) (plainE (l.getD i []))) = false) : exTo l n = false := by
  cases hb : exTo l n with
  | false => rfl
  | true =>
    simp only [exTo, List.all_eq_true, List.mem_range] at hb
    rw [hb i hi] at h; cases h
theorem atF_has (w : List UInt8) : ∀ (l : List (List UInt8)) (i : Int), 0 ≤ i → (0 ≤ atF w l i ↔ w ∈ l.map plainE)
  | [], i, _ => by simp [atF]
  | e :: r, i, h => by
    by_cases he : plainE e = w
    · simp [atF, he, h]
    · have e1 : atF w (e :: r) i = atF w r (i + 1) := by simp [atF, he]
      have : ¬ w = plainE e := fun x => he x.symm
      rw [e1, atF_has w r (i + 1) (by omega)]
      simp only [List.map_cons, List.mem_cons, this, false_or]
structure Sw extends Sv where
  atE : List (List UInt8) → List UInt8 → Int
  allS : List (List UInt8) → Prop
  patsB : List (List UInt8) → Bool
  excsB : List (List UInt8) → Bool
def sw : Sw := { sv with atE := atE, allS := allS, patsB := patsB, excsB := excsB }
def V6 (S : Sw) : List (Nat × (List AV → CR)) :=
  (42, fun args => match args with | [.ro (.strs l), .str w] => .pure (S.allS l) (.int .i64 (S.atE l w)) [] | _ => .no) ::
  (39, fun args => match args with | [.ro (.strs l)] => .pure (S.allS l) (.bool (S.patsB l)) [] | _ => .no) ::
  V5 S.toSv
set_option maxRecDepth 100000 in
theorem V6_ok : TabG gW Tryd.prog (tfind (V6 sw)) := by
  refine tab_cons (fun args => ?_) (tab_cons (fun args => ?_) (V5_ok))
  · split
    · exact ent_pure fun h => excAt_ok _ _ h
    · exact ent_no
  · split
    · exact ent_pure fun h => (areP_ok _ h).toG
    · exact ent_no
set_option maxRecDepth 100000 in
theorem areE_ok (l : List (List UInt8)) (hl : allS l) : FCG gW Tryd.prog 40 [.ro (.strs l)] (.bool (excsB l)) [] := by
  refine fcg_eval gW_st sw V6 V6_ok hT hm Tryd.func40 rfl (by kernel_rfl) rfl rfl ?_
  intro A S r0 fr0 hA hS hr hfr
  cbv
  obtain ⟨L, hL⟩ : ∃ L : Int, L = l.length := ⟨_, rfl⟩
  refine loop1 (fun (i : Nat) => ⟨fr 28 [(0, .ro (.strs l)), (5, .ro (.strs l)), (6, .int .i64 L), (7, .int .i64 i)], [.dead]⟩)
    (fun i => i ≤ l.length ∧ exTo l i = true) (fun i => l.length - i) 0 ?_ ?_ ?_
  · subst hA hS; simp [Wk_iff, fr, undefs, wkT, wkV, wkH, okid, Row.nlen, Row.rk, RK.rowk, w64_eq, getO, alg, hL]
  · simp [exTo]
  · rintro i ⟨h1, h2⟩
    cbv
    (try simp only [nc] at *); subst hA hS hr hfr; simp (disch := (refine KR.mk ?_; kernel_rfl)) only [alg, obP_iff, condP_iff, retP_iff, retM_iff, ofNat_cast, nc, Int.toNat_natCast, decide_eq_true_eq, decide_eq_false_iff_not, wrap_w64, retS_iff, Bool.not_eq_true', Bool.not_eq_false', beq_iff_eq, beq_eq_false_iff_ne, AV.bool.injEq, AV.int.injEq, AV.t2.injEq, AV.t3.injEq, AV.own.injEq, List.cons.injEq, Prod.mk.injEq, Row.ints.injEq, RW, Row.nlen, scalar, imp_self, and_true, true_and, lexT, heldT, tailT, planT, nb, Int.toNat_zero, List.getD_cons_zero, List.getD_cons_succ, List.set_cons_zero, List.set_cons_succ, sw, sv, sh, sb]
    have hln := hl.1
    have ha : allS ((l.take i).drop 0) := by
      rw [List.drop_zero]
      refine ⟨by rw [List.length_take]; omega, fun j hj => ?_⟩
      rw [List.length_take] at hj
      have e : (l.take i).getD j [] = l.getD j [] := by
        rw [List.getD_eq_getElem?_getD, List.getD_eq_getElem?_getD, List.getElem?_take, if_pos (by omega)]
      rw [e]; exact hl.2 j (by omega)
    have hx : (!excB (l.getD i []) || decide (0 ≤ atE ((l.take i).drop 0) (plainE (l.getD i [])))) = !(excB (l.getD i []) && !hasB ((l.take i).map plainE) (plainE (l.getD i []))) := by
      have := atF_has (plainE (l.getD i [])) (l.take i) 0 (by omega)
      rw [List.drop_zero]
      have e : decide (0 ≤ atE (l.take i) (plainE (l.getD i []))) = hasB ((l.take i).map plainE) (plainE (l.getD i [])) := by
        simp only [hasB, atE, this]
      rw [e]
      cases excB (l.getD i []) <;> cases hasB ((l.take i).map plainE) (plainE (l.getD i [])) <;> rfl
    rw [hx]
    refine ⟨fun hi => ⟨by omega, hl.2 i (by omega), fun _ => by omega, fun _ => by omega, fun _ => hl.2 i (by omega), fun _ => ha, fun hb => ?_, fun hb => ⟨i + 1, ?_, ⟨by omega, ?_⟩, by omega⟩⟩, fun hi => ?_⟩
    · rw [excsB, exTo_bad (n := l.length) (i := i) (by omega) ((Bool.not_eq_true' _) ▸ hb)]; rfl
    · simp [Wk_iff, fr, undefs, wkT, wkV, wkH, okid, Row.nlen, Row.rk, RK.rowk, w64_eq, getO]; try omega
    · rw [exTo_succ, h2, (show (excB (l.getD i []) && !hasB ((l.take i).map plainE) (plainE (l.getD i []))) = true from (Bool.not_eq_false' _) ▸ hb)]; rfl
    · have e : i = l.length := by omega
      subst e
      rw [excsB, h2]; rfl
end Go.Proofs.YtcbfpkdcgbkfaaaDoor
