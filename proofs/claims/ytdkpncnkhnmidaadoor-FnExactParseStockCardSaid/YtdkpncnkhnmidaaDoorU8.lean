/-
  A stock's text read: what the implementation answers.
-/
import Derived.Test.YtdkpncnkhnmidaaDoorU6
import Derived.Test.YtdkpncnkhnmidaaDoorU7
set_option linter.unusedSimpArgs false
set_option linter.unusedVariables false
namespace Go.Proofs.YtdkpncnkhnmidaaDoor
open Go.Ab Go.RowKit

theorem fromP_len (p : Nat → Bool) (s : ByteArray) : ∀ (f pos : Nat) (st : Option Nat) (acc : List (Nat × Nat)), (Lib.spansFromP p s f pos st acc).1.length ≤ acc.length + f
  | 0, _, _, acc => by simp [Lib.spansFromP]
  | f + 1, pos, st, acc => by
    unfold Lib.spansFromP
    split
    · split
      · cases st with
        | none => have := fromP_len p s f (pos + (Utf8.decode s pos).2) none acc; simp only; omega
        | some a => have := fromP_len p s f (pos + (Utf8.decode s pos).2) none (acc ++ [(a, pos)]); simp at this ⊢; omega
      · cases st with
        | none => have := fromP_len p s f (pos + (Utf8.decode s pos).2) (some pos) acc; simp only; omega
        | some a => have := fromP_len p s f (pos + (Utf8.decode s pos).2) (some a) acc; simp only; omega
    · simp
theorem flds_len (s : List UInt8) : (flds s).length ≤ s.length + 1 := by
  have hsz : (⟨s.toArray⟩ : ByteArray).size = s.length := by show s.toArray.size = _; simp
  rw [flds, List.length_map, Lib.goFieldsP, List.length_map, Lib.spansOfP]
  have h := fromP_len nd ⟨s.toArray⟩ (⟨s.toArray⟩ : ByteArray).size 0 none []
  rw [hsz] at h
  unfold Lib.closeSpans
  rw [hsz]
  split
  · simp at h ⊢; omega
  · simp at h; omega
theorem flds_mem (s x : List UInt8) (h : x ∈ flds s) : x.length ≤ s.length := by
  have hsz : (⟨s.toArray⟩ : ByteArray).size = s.length := by show s.toArray.size = _; simp
  rw [flds, Lib.goFieldsP, List.map_map] at h
  obtain ⟨y, _, rfl⟩ := List.mem_map.1 h
  have := ByteArray.size_extract (a := ⟨s.toArray⟩) (b := y.1) (e := y.2)
  have e : ((⟨s.toArray⟩ : ByteArray).extract y.1 y.2).data.toList.length = ((⟨s.toArray⟩ : ByteArray).extract y.1 y.2).size := by rw [Array.length_toList]; rfl
  show ((⟨s.toArray⟩ : ByteArray).extract y.1 y.2).data.toList.length ≤ _
  rw [e, this, hsz]; omega
theorem numL_len : ∀ (F : List (List UInt8)) (l : List Int), numL F = some l → l.length = F.length
  | [], l, h => by simp [numL] at h; subst h; rfl
  | x :: r, l, h => by
    rw [numL] at h
    split at h
    · cases hr : numL r with
      | none => rw [hr] at h; simp at h
      | some q =>
        rw [hr] at h
        simp at h
        subst h
        have := numL_len r q hr
        simp [this]
    · cases h
theorem numF_len (s : List UInt8) : (numF s).length ≤ s.length + 1 := by
  rw [numF]
  cases h : numL (flds s) with
  | none => simp
  | some l => have := numL_len _ _ h; have := flds_len s; simp; omega
structure Sp7 extends Sp6 where
  s1 : List UInt8 → Prop
  fl : List UInt8 → List (List UInt8)
  atV : List UInt8 → Int
  atB : List UInt8 → Bool
  pS : List (List Int) → Prop
  txS : List (List Int) → List UInt8
  nF : List UInt8 → List Int
  qsB : List UInt8 → Bool
  qsL : List UInt8 → List (List Int)
def sp7 : Sp7 := { sp6 with s1 := fun s => s.length ≤ 1048576, fl := flds, atV := atV, atB := atB, pS := fun l => rec2 l ∧ stB l = true, txS := txS, nF := numF, qsB := qsB, qsL := qsL }
def P4 (S : Sp7) : List (Nat × (List AV → CR)) :=
  (18, fun args => match args with | [.str s, .fn k] => .pure (S.s1 s ∧ k = 19) (.own 0 false) [(9, .strs (S.fl s))] | _ => .no) ::
  (20, fun args => match args with | [.str s] => .pure (S.s1 s) (.t2 (.int .i64 (S.atV s)) (.ifc (S.atB s))) [] | _ => .no) ::
  (14, fun args => match args with | [.ro (.recs 2 l)] => .pure (S.pS l) (.str (S.txS l)) [] | _ => .no) ::
  R3 S.toSp6
set_option maxRecDepth 100000 in
theorem P4_ok : TabG gW Tryd.prog (tfind (P4 sp7)) := by
  refine tab_cons (fun args => ?_) (tab_cons (fun args => ?_) (tab_cons (fun args => ?_) ((TabOK.toG R3_ok))))
  · split
    · exact ent_pure fun h => by obtain ⟨h, rfl⟩ := h; exact ffs_ok _ h
    · exact ent_no
  · split
    · exact ent_pure fun h => atoi_ok _ h
    · exact ent_no
  · split
    · exact ent_pure fun h => stockTxt_ok _ h.1 h.2
    · exact ent_no
set_option maxRecDepth 100000 in
theorem numIn_ok (s : List UInt8) (hs : s.length ≤ 1048576) : FCG gW Tryd.prog 12 [.str s] (.own 0 false) [(3, .ints .i64 (numF s))] := by
  refine fcg_eval gW_st sp7 P4 P4_ok hT hm Tryd.func12 rfl (by kernel_rfl) rfl rfl ?_
  intro A S r0 fr0 hA hS hr hfr
  cbv
  refine obP.mk (by subst hS; exact ⟨hs, trivial⟩) ?_
  obtain ⟨F, hF⟩ : ∃ F, F = flds s := ⟨_, rfl⟩
  have eS : S.fl s = F := by subst hS; rw [hF]; rfl
  obtain ⟨L, hL⟩ : ∃ L : Int, L = F.length := ⟨_, rfl⟩
  have hFl : F.length ≤ 1048577 := by rw [hF]; have := flds_len s; omega
  have hFm : ∀ x ∈ F, x.length ≤ 1048576 := by intro x hx; rw [hF] at hx; have := flds_mem s x hx; omega
  have hn : numF s = (numL F).getD [] := by rw [numF, hF]
  rw [hn] at hfr
  refine loop2 (fun (i : Nat) (out : List Int) => ⟨fr 30 [(3, .own 1 false), (10, .own 2 false), (11, .int .i64 L), (12, .int .i64 i)], [.dead, .row 3 (.ints .i64 out), .row 9 (.strs F)]⟩)
    (fun i out => i ≤ F.length ∧ out.length = i ∧ numL F = (numL (F.drop i)).map (out ++ ·)) (fun i _ => F.length - i) 0 [] ?_ ?_ ?_
  · subst hA hS
    have eS2 : sp7.fl s = F := eS
    simp [Wk_iff, fr, undefs, wkT, wkV, wkH, okid, Row.nlen, Row.rk, RK.rowk, getO, hL]
    exact ⟨congrArg (fun l : List (List UInt8) => (l.length : Int)) eS2, eS2⟩
  · exact ⟨by omega, rfl, by rw [List.drop_zero]; cases numL F <;> rfl⟩
  · intro i out hR
    have i1 := hR.1
    have i2 := hR.2.1
    have HP := Hd.mk hR.2.2
    clear hR
    cbv
    (try simp only [nc] at *); subst hA hS hr hfr; simp (disch := (refine KR.mk ?_; kernel_rfl)) only [alg, obP_iff, condP_iff, retP_iff, retM_iff, ofNat_cast, nc, Int.toNat_natCast, decide_eq_true_eq, decide_eq_false_iff_not, wrap_w64, retS_iff, Bool.not_eq_true', Bool.not_eq_false', beq_iff_eq, beq_eq_false_iff_ne, AV.bool.injEq, AV.int.injEq, AV.t2.injEq, AV.t3.injEq, AV.own.injEq, List.cons.injEq, Prod.mk.injEq, Row.ints.injEq, RW, Row.nlen, scalar, imp_self, and_true, true_and, lexT, heldT, tailT, planT, nb, Int.toNat_zero, List.getD_cons_zero, List.getD_cons_succ, List.set_cons_zero, List.set_cons_succ, sp7, sp6, sp, sb, and_self]
    have hp := HP.h
    refine ⟨fun hi => ?_, fun hi => ?_⟩
    · have hil : i < F.length := by omega
      have hd := drop_getD [] F i hil
      rw [hd, numL] at hp
      have hfm : (F.getD i []).length ≤ 1048576 := by
        apply hFm
        rw [List.getD_eq_getElem?_getD, List.getElem?_eq_getElem hil]; simp
      refine ⟨by omega, hfm, fun hb => ?_, fun hb => ?_⟩
      · rw [hb] at hp
        rw [hp]; rfl
      · rw [hb, if_pos rfl] at hp
        simp only [List.length_cons, List.length_nil]
        refine ⟨by omega, by omega, i + 1, out ++ [atV (F.getD i [])], ?_, ⟨by omega, by simp; omega, ?_⟩, by omega⟩
        · have w1 : w64 ((i : Int) + 1) = (i : Int) + 1 := w64_id (by omega)
          simp [Wk_iff, fr, undefs, wkT, wkV, wkH, okid, Row.nlen, Row.rk, RK.rowk, getO, w1]
        · rw [hp]
          cases numL (F.drop (i + 1)) <;> simp
    · have hil : i = F.length := by omega
      rw [List.drop_of_length_le (by omega), numL] at hp
      rw [hp]; simp
set_option maxRecDepth 100000 in
theorem prs_len : ∀ N : List Int, 2 * (prs N).length ≤ N.length
  | [] => by simp [prs]
  | [_] => by simp [prs]
  | a :: b :: r => by have := prs_len r; simp [prs]; omega
def P5 (S : Sp7) : List (Nat × (List AV → CR)) :=
  (12, fun args => match args with | [.str s] => .pure (S.s1 s) (.own 0 false) [(3, .ints .i64 (S.nF s))] | _ => .no) ::
  P4 S
set_option maxRecDepth 100000 in
theorem P5_ok : TabG gW Tryd.prog (tfind (P5 sp7)) := by
  refine tab_cons (fun args => ?_) (P4_ok)
  · split
    · exact ent_pure fun h => numIn_ok _ h
    · exact ent_no
set_option maxRecDepth 100000 in
theorem implPS_ok (s : List UInt8) (hs : s.length ≤ 1048576) : FCG gW Tryd.prog 5 [.str s] (.t2 (.own 0 false) (.bool (qsB s))) [(32, .recs 2 (qsL s))] := by
  refine fcg_eval gW_st sp7 P5 P5_ok hT hm Tryd.func5 rfl (by kernel_rfl) rfl rfl ?_
  intro A S r0 fr0 hA hS hr hfr
  cbv
  refine obP.mk (by subst hS; exact hs) ?_
  obtain ⟨N0, hN⟩ : ∃ N0, N0 = numF s := ⟨_, rfl⟩
  have eS : S.nF s = N0 := by subst hS; rw [hN]; rfl
  have hNl : N0.length ≤ 1048577 := by rw [hN]; have := numF_len s; omega
  have hpl := prs_len N0
  have hpr := prs_rec N0
  refine loop2 (fun (N : List Int) (out : List (List Int)) => ⟨fr 35 [(0, .str s), (4, .own 1 false), (5, .ro (.ints .i64 N))], [.dead, .row 32 (.recs 2 out)]⟩)
    (fun N out => prs N0 = out ++ prs N ∧ N.length ≤ N0.length) (fun N _ => N.length) N0 [] ?_ ?_ ?_
  · subst hA hS
    have eS2 : sp7.nF s = N0 := eS
    simp [Wk_iff, fr, undefs, wkT, wkV, wkH, okid, Row.nlen, Row.rk, RK.rowk, getO]
    exact eS2
  · exact ⟨rfl, Nat.le_refl _⟩
  · intro N out hR
    have i1 := hR.2
    have HP := Hd.mk hR.1
    clear hR
    cbv
    (try simp only [nc] at *); subst hA hS hr hfr; simp (disch := (refine KR.mk ?_; kernel_rfl)) only [alg, obP_iff, condP_iff, retP_iff, retM_iff, ofNat_cast, nc, Int.toNat_natCast, decide_eq_true_eq, decide_eq_false_iff_not, wrap_w64, retS_iff, Bool.not_eq_true', Bool.not_eq_false', beq_iff_eq, beq_eq_false_iff_ne, AV.bool.injEq, AV.int.injEq, AV.t2.injEq, AV.t3.injEq, AV.own.injEq, List.cons.injEq, Prod.mk.injEq, Row.ints.injEq, RW, Row.nlen, scalar, imp_self, and_true, true_and, lexT, heldT, tailT, planT, nb, Int.toNat_zero, List.getD_cons_zero, List.getD_cons_succ, List.set_cons_zero, List.set_cons_succ, sp7, sp6, sp, sb, and_self]
    have hp := HP.h
    have hq := psB_eq s
    have hps : psB s = (stB (prs N0) && (txS (prs N0) == s)) := by rw [psB, hN]
    refine ⟨fun h2 => ?_, fun h2 => ?_⟩
    · match N, i1, h2, hp with
      | [], _, h2, _ => simp at h2
      | [_], _, h2, _ => simp at h2
      | a :: b :: r, i1, h2, hp =>
        have hol : out.length ≤ 1048577 := by
          have := congrArg List.length hp; simp at this; omega
        simp only [List.length_cons] at i1
        simp only [List.length_cons, List.length_nil]
        refine ⟨by omega, by omega, by omega, by omega, by omega, by omega, r, out ++ [[b, a]], ?_, ⟨by rw [hp, prs]; simp, by omega⟩, by omega⟩
        simp [Wk_iff, fr, undefs, wkT, wkV, wkH, okid, Row.nlen, Row.rk, RK.rowk, getO]
    · have hN2 : prs N = [] := by
        match N, h2 with
        | [], _ => rfl
        | [_], _ => rfl
        | _ :: _ :: _, h2 => simp at h2; omega
      rw [hN2, List.append_nil] at hp
      rw [hp] at hps hpl hpr
      refine ⟨by omega, fun hst => ⟨hpr, hst⟩, fun hc => ?_, fun hc => ?_⟩
      · have : psB s = false := by
          rw [hps]
          cases h1 : stB out <;> cases h3 : (txS out == s) <;> simp [h1, h3] at hc ⊢
        rw [this] at hq
        refine ⟨hq.1, ?_⟩
        have h9 := hq.1
        rw [qsB] at h9
        cases hO : qsO s with
        | none => rw [qsL, hO]; rfl
        | some l => rw [hO] at h9; simp at h9
      · have h1 : stB out = true ∧ txS out = s := by
          cases h1 : stB out <;> cases h3 : (txS out == s) <;> simp [h1, h3] at hc ⊢
          simpa using h3
        have : psB s = true := by
          rw [hps, h1.1, h1.2]; simp
        refine ⟨by rw [← hq.1, this], ?_⟩
        rw [← hq.2 this, ← hN, hp]
end Go.Proofs.YtdkpncnkhnmidaaDoor
