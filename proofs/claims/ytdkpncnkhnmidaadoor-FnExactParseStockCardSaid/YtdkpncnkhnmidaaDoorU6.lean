/-
  A stock's text read: what the specification answers.
-/
import Derived.Test.YtdkpncnkhnmidaaDoorU5
set_option linter.unusedSimpArgs false
set_option linter.unusedVariables false
namespace Go.Proofs.YtdkpncnkhnmidaaDoor
open Go.Ab Go.RowKit

theorem if_yes (l : List (List Int)) (hl : l.length ≤ 1048576) (h : stB l = true) : FCS GT Tryd.prog 11 [.ro (.recs 2 l)] 0 (.bool true) := by
  refine fcs_eval (fun _ _ _ _ => trivial) sp R2 R2_ok hT hm 0 Tryd.func11 rfl (by kernel_rfl) rfl rfl rfl rfl ?_
  intro A S v0 b0 hA hS hb
  cbv
  (try simp only [nc] at *); subst hA hS hb; simp (disch := (refine KR.mk ?_; kernel_rfl)) only [alg, obP_iff, condP_iff, retP_iff, retM_iff, ofNat_cast, nc, Int.toNat_natCast, decide_eq_true_eq, decide_eq_false_iff_not, wrap_w64, retS_iff, Bool.not_eq_true', Bool.not_eq_false', beq_iff_eq, beq_eq_false_iff_ne, AV.bool.injEq, AV.int.injEq, AV.t2.injEq, AV.t3.injEq, AV.own.injEq, List.cons.injEq, Prod.mk.injEq, Row.ints.injEq, RW, Row.nlen, scalar, imp_self, and_true, true_and, lexT, heldT, tailT, planT, nb, Int.toNat_zero, List.getD_cons_zero, List.getD_cons_succ, List.set_cons_zero, List.set_cons_succ, sp, sb]
  exact ⟨hl, (fun h' => by rw [h] at h'; cases h'), fun _ => trivial⟩
theorem if_no (l : List (List Int)) (hl : l.length ≤ 1048576) (h : stB l = false) : FC Tryd.prog 11 [.ro (.recs 2 l)] (.t2 (.own 0 true) (.bool false)) [(32, .recs 2 [])] := by
  refine fc_eval sp R2 R2_ok hT hm Tryd.func11 rfl (by kernel_rfl) rfl rfl ?_
  intro A S r0 fr0 hA hS hr hfr
  cbv
  (try simp only [nc] at *); subst hA hS hr hfr; simp (disch := (refine KR.mk ?_; kernel_rfl)) only [alg, obP_iff, condP_iff, retP_iff, retM_iff, ofNat_cast, nc, Int.toNat_natCast, decide_eq_true_eq, decide_eq_false_iff_not, wrap_w64, retS_iff, Bool.not_eq_true', Bool.not_eq_false', beq_iff_eq, beq_eq_false_iff_ne, AV.bool.injEq, AV.int.injEq, AV.t2.injEq, AV.t3.injEq, AV.own.injEq, List.cons.injEq, Prod.mk.injEq, Row.ints.injEq, RW, Row.nlen, scalar, imp_self, and_true, true_and, lexT, heldT, tailT, planT, nb, Int.toNat_zero, List.getD_cons_zero, List.getD_cons_succ, List.set_cons_zero, List.set_cons_succ, sp, sb]
  exact ⟨hl, fun _ => rfl, fun h' => by rw [h] at h'; cases h'⟩
structure Sp6 extends Sp where
  sps : Int → List UInt8 → List (List UInt8)
  spP : Int → List UInt8 → Prop
  rdV : List UInt8 → Int
  rdP : List UInt8 → Prop
  pB : List UInt8 → Bool
  pL : List UInt8 → List (List Int)
  noP : List (List Int) → Prop
  yesP : List (List Int) → Prop
def sp6 : Sp6 := { sp with sps := fun k s => spS (UInt8.ofNat k.toNat) s, spP := fun k s => s.length ≤ 1048576 ∧ 0 ≤ k ∧ k < 256, rdV := rd, rdP := fun s => s.length ≤ 1048576, pB := qsB, pL := qsL, noP := fun l => l.length ≤ 1048576 ∧ stB l = false, yesP := fun l => l.length ≤ 1048576 ∧ stB l = true }
theorem spl2_ok (s : List UInt8) (k : Int) (h : s.length ≤ 1048576 ∧ 0 ≤ k ∧ k < 256) : FC Tryd.prog 9 [.str s, .int .u8 k] (.own 0 true) [(9, .strs (spS (UInt8.ofNat k.toNat) s))] := by
  have := spl1_ok s (UInt8.ofNat k.toNat) h.1
  have e : ((UInt8.ofNat k.toNat).toNat : Int) = k := by
    rw [UInt8.toNat_ofNat']; omega
  rw [e] at this
  exact this
def R3 (S : Sp6) : List (Nat × (List AV → CR)) :=
  (9, fun args => match args with
    | [.str s, .int .u8 k] => .pure (S.spP k s) (.own 0 true) [(9, .strs (S.sps k s))]
    | _ => .no) ::
  (10, fun args => match args with
    | [.str s] => .pure (S.rdP s) (.int .i64 (S.rdV s)) []
    | _ => .no) ::
  (11, fun args => match args with
    | [.ro (.recs 2 l)] => (match S.stB l with | true => .same 0 (S.yesP l) (.bool true) | false => .pure (S.noP l) (.t2 (.own 0 true) (.bool false)) [(32, .recs 2 [])])
    | _ => .no) :: R2 S.toSp
theorem R3_ok : TabOK Tryd.prog (tfind (R3 sp6)) := by
  refine tab_cons (fun args => ?_) (tab_cons (fun args => ?_) (tab_cons (fun args => ?_) R2_ok))
  · split
    · exact ent_pure fun h => spl2_ok _ _ h
    · exact ent_no
  · split
    · exact ent_pure fun h => rd_ok _ h
    · exact ent_no
  · split
    · split
      · exact ent_same fun h => if_yes _ h.1 h.2
      · exact ent_pure fun h => if_no _ h.1 h.2
    · exact ent_no
theorem spS_len (b : UInt8) : ∀ s : List UInt8, (spS b s).length ≤ s.length + 1
  | [] => by simp [spS]
  | c :: r => by
    have ih := spS_len b r
    unfold spS
    split
    · simp; omega
    · split
      · rename_i x xs h; rw [h] at ih; simp at ih ⊢; omega
      · simp
theorem spS_mem (b : UInt8) : ∀ (s p : List UInt8), p ∈ spS b s → p.length ≤ s.length
  | [], p, h => by simp [spS] at h; subst h; simp
  | c :: r, p, h => by
    unfold spS at h
    split at h
    · rcases List.mem_cons.1 h with rfl | h
      · simp
      · have := spS_mem b r p h; simp; omega
    · split at h
      · rename_i x xs hx
        rcases List.mem_cons.1 h with rfl | h
        · have := spS_mem b r x (by rw [hx]; simp); simp; omega
        · have := spS_mem b r p (by rw [hx]; simp [h]); simp; omega
      · simp at h; subst h; simp
set_option maxRecDepth 100000 in
theorem specPS_ok (s : List UInt8) (hs : s.length ≤ 1048576) : FC Tryd.prog 4 [.str s] (.t2 (.own 0 true) (.bool (qsB s))) [(32, .recs 2 (qsL s))] := by
  refine fc_eval sp6 R3 R3_ok hT hm Tryd.func4 rfl (by kernel_rfl) rfl rfl ?_
  intro A S r0 fr0 hA hS hr hfr
  cbv
  have eS : S.sps 32 s = spS 32 s := by subst hS; rfl
  refine obP.mk (by subst hS; exact ⟨hs, by omega, by omega⟩) ?_
  obtain ⟨PS, hPS⟩ : ∃ PS, PS = spS 32 s := ⟨_, rfl⟩
  have hne : 1 ≤ PS.length := by
    have := spS_ne 32 s
    rw [← hPS] at this
    cases PS with
    | nil => exact absurd rfl this
    | cons _ _ => simp
  have hlb : PS.length ≤ 1048577 := by rw [hPS]; have := spS_len 32 s; omega
  have hmem : ∀ p ∈ PS, p.length ≤ 1048576 := by
    intro p hp; rw [hPS] at hp; have := spS_mem 32 s p hp; omega
  rw [← hPS] at eS
  have hw : w64 ((PS.length : Int) - 1) = ((PS.length - 1 : Nat) : Int) := by rw [w64_id (by omega)]; omega
  have eL : A.sub .i64 (A.len (S.sps 32 s)) 1 = ((PS.length - 1 : Nat) : Int) := by
    subst hA; rw [eS, ← hw]; exact wrap_w64 _
  have eP : psO s = if 9 < PS.length ∨ PS.getD (PS.length - 1) [] ≠ [] then none else pcs PS.dropLast := by
    rw [psO, ← hPS]
    have : PS.getLastD [] = PS.getD (PS.length - 1) [] := by
      cases PS with
      | nil => simp at hne
      | cons a t => simp [List.getLastD, List.getLast_eq_getElem]
    rw [this]
  have eC : A.or (A.lt 9 (A.len (S.sps 32 s))) (A.not (A.seq (A.gS (S.sps 32 s) (A.tn (A.sub .i64 (A.len (S.sps 32 s)) 1))) [])) = decide (9 < PS.length ∨ PS.getD (PS.length - 1) [] ≠ []) := by
    rw [eL, eS]; subst hA
    have d1 : decide ((9 : Int) < (PS.length : Int)) = decide (9 < PS.length) := decide_eq_decide.2 (by omega)
    show (decide ((9 : Int) < (PS.length : Int)) || !(PS.getD ((PS.length - 1 : Nat) : Int).toNat [] == [])) = _
    rw [d1, Int.toNat_natCast]
    by_cases h2 : PS.getD (PS.length - 1) [] = []
    · rw [h2]; by_cases h1 : 9 < PS.length <;> simp [h1]
    · have h3 : (PS.getD (PS.length - 1) [] == []) = false := beq_eq_false_iff_ne.2 h2
      rw [h3, decide_eq_true (Or.inr h2)]; simp
  refine obP.mk ?_ (obP.mk ?_ (obP.mk ?_ (obP.mk ?_ (obP.mk ?_ (obP.mk ?_ (obP.mk ?_ (obP.mk ?_ (condP.mk (fun hc => ?_) (fun hc => ?_)))))))))
  iterate 4
    · subst hA; first | exact fun h => h | exact fun _ => trivial
  · subst hA
    show (_ → _)
    intro h
    show (0 : Int) ≤ alg.sub .i64 (alg.len (S.sps 32 s)) 1 ∧ alg.sub .i64 (alg.len (S.sps 32 s)) 1 < ((S.sps 32 s).length : Int)
    rw [eL, eS]
    omega
  iterate 3
    · subst hA; first | exact fun h => h | exact fun _ => trivial
  · have hc2 := hc.symm.trans eC
    have hq : qsO s = none := by
      rw [qsO, eP, if_pos (of_decide_eq_true hc2.symm)]
    rw [hr, hfr, qsB, qsL, hq]
    subst hA hS
    simp only [retP_iff]
    simp [RW, scalar, Row.nlen, alg]
  have hc2 := hc.symm.trans eC
  clear hc eC
  have hc3 : ¬ (9 < PS.length ∨ PS.getD (PS.length - 1) [] ≠ []) := of_decide_eq_false hc2.symm
  rw [if_neg hc3] at eP
  obtain ⟨m, hm0⟩ : ∃ m, m = PS.length - 1 := ⟨_, rfl⟩
  rw [← hm0] at eL
  refine obP.mk ?_ (obP.mk ?_ (obP.mk ?_ ?_))
  · subst hA
    show (0 : Int) ≤ alg.sub .i64 (alg.len (S.sps 32 s)) 1 ∧ alg.sub .i64 (alg.len (S.sps 32 s)) 1 ≤ ((S.sps 32 s).length : Int)
    rw [eL, eS]
    omega
  · subst hA
    show (0 : Int) ≤ alg.sub .i64 (alg.len (S.sps 32 s)) 1 ∧ alg.sub .i64 (alg.len (S.sps 32 s)) 1 ≤ alg.sub .i64 (alg.len (S.sps 32 s)) 1
    rw [eL]
    omega
  · subst hA
    show (0 : Int) ≤ 0 ∧ 0 ≤ alg.sub .i64 (alg.len (S.sps 32 s)) 1
    rw [eL]
    omega
  obtain ⟨L, hL⟩ : ∃ L : Int, L = (m : Int) := ⟨_, rfl⟩
  refine loop2 (fun (i : Nat) (out : List (List Int)) => ⟨fr 55 [(5, .own 2 true), (27, .win 1 0 m), (28, .int .i64 L), (29, .int .i64 i)], [.dead, .row 9 (.strs PS), .row 32 (.recs 2 out)]⟩)
    (fun i out => i ≤ m ∧ out.length = i ∧ pcs PS.dropLast = (pcs (PS.dropLast.drop i)).map (out ++ ·)) (fun i _ => m - i) 0 [] ?_ ?_ ?_
  · subst hA
    have eL2 : (alg.18 (alg.2 .i64 (alg.21 (S.2 32 s)) 1)) = m := by
      show (alg.sub .i64 (alg.len (S.sps 32 s)) 1).toNat = m
      rw [eL]; rfl
    subst hS
    have eS2 : sp6.2 32 s = PS := eS
    simp [Wk_iff, fr, undefs, wkT, wkV, wkH, okid, Row.nlen, Row.rk, RK.rowk, getO, hL, eL]
    have eL3 : alg.18 (alg.2 .i64 (m : Int) 0) = m := by
      show (IntKind.i64.wrap ((m : Int) - 0)).toNat = m
      rw [wrap_w64, w64_id (by omega)]; omega
    exact ⟨⟨⟨rfl, eL3⟩, congrArg (fun k : Nat => (k : Int)) eL3⟩, eS, rfl⟩
  · exact ⟨by omega, rfl, by rw [List.drop_zero]; cases pcs PS.dropLast <;> rfl⟩
  · intro i out hR
    have i1 := hR.1
    have i2 := hR.2.1
    have HP := Hd.mk hR.2.2
    clear hR
    cbv
    refine condP.mk (fun hc => ?_) (fun hc => ?_)
    · have hil : i < m := by subst hA hL; simpa [alg] using hc
      clear hc
      have hdl : PS.dropLast.length = m := by simp; omega
      have hd : PS.dropLast.drop i = PS.getD i [] :: PS.dropLast.drop (i + 1) := by
        rw [drop_getD [] PS.dropLast i (by omega)]
        congr 1
        rw [List.getD_eq_getElem?_getD, List.getD_eq_getElem?_getD, List.getElem?_eq_getElem (by omega), List.getElem?_eq_getElem (by omega), List.getElem_dropLast]
      have hpm : (PS.getD i []).length ≤ 1048576 := by
        apply hmem
        rw [List.getD_eq_getElem?_getD, List.getElem?_eq_getElem (by omega)]; simp
      have e120 : UInt8.ofNat (Int.toNat 120) = 120 := rfl
      (try simp only [nc] at *); subst hA hS hr hfr; simp (disch := (refine KR.mk ?_; kernel_rfl)) only [alg, obP_iff, condP_iff, retP_iff, retM_iff, ofNat_cast, nc, Int.toNat_natCast, decide_eq_true_eq, decide_eq_false_iff_not, wrap_w64, retS_iff, Bool.not_eq_true', Bool.not_eq_false', beq_iff_eq, beq_eq_false_iff_ne, AV.bool.injEq, AV.int.injEq, AV.t2.injEq, AV.t3.injEq, AV.own.injEq, List.cons.injEq, Prod.mk.injEq, Row.ints.injEq, RW, Row.nlen, scalar, imp_self, and_true, true_and, lexT, heldT, tailT, planT, nb, Int.toNat_zero, List.getD_cons_zero, List.getD_cons_succ, List.set_cons_zero, List.set_cons_succ, sp6, sp, sb, and_self, Nat.zero_add, e120]
      have hp := HP.h
      rw [hd, pcs] at hp
      generalize hq : spS 120 (PS.getD i []) = q at hp ⊢
      have hql : ∀ p ∈ q, p.length ≤ 1048576 := by
        intro p hp; rw [← hq] at hp; have := spS_mem 120 _ p hp; omega
      refine ⟨by omega, ⟨hpm, by omega, by omega⟩, fun h2 => ?_, fun h2 => ?_⟩
      · have : qsO s = none := by
          rw [qsO, eP, hp]
          match q, h2 with
          | [], _ => rfl
          | [_], _ => rfl
          | [_, _], h2 => exact absurd rfl h2
          | _ :: _ :: _ :: _, _ => rfl
        rw [qsB, qsL, this]; exact ⟨rfl, rfl⟩
      · obtain ⟨a, c, rfl⟩ : ∃ a c, q = [a, c] := by
          match q, h2 with
          | [a, c], _ => exact ⟨a, c, rfl⟩
          | [], h2 => simp at h2
          | [_], h2 => simp at h2
          | _ :: _ :: _ :: _, h2 => simp at h2; omega
        have ha := hql a (by simp)
        have hcl := hql c (by simp)
        simp only [List.length_cons, List.length_nil]
        refine ⟨by omega, by omega, hcl, ha, by omega, by omega, i + 1, out ++ [[rd c, rd a]], ?_, ⟨by omega, by simp; omega, ?_⟩, by omega⟩
        · have w1 : w64 ((i : Int) + 1) = (i : Int) + 1 := w64_id (by omega)
          simp [Wk_iff, fr, undefs, wkT, wkV, wkH, okid, Row.nlen, Row.rk, RK.rowk, getO, w1]
        · rw [hp]
          simp only
          cases pcs (PS.dropLast.drop (i + 1)) <;> simp
    · have hil : i = m := by subst hA hL; have : ¬ ((i : Int) < m) := by simpa [alg] using hc
                             omega
      clear hc
      cases hb : S.stB out
      · simp only [hb]
        cbv
        have hb2 : stB out = false := by subst hS; exact hb
        have hp := HP.h
        have hd0 : PS.dropLast.drop i = [] := List.drop_of_length_le (by simp; omega)
        rw [hd0] at hp
        have : qsO s = none := by
          rw [qsO, eP, hp]
          simp [pcs, hb2]
        rw [hr, hfr, qsB, qsL, this]
        subst hA hS
        refine obP.mk ⟨by omega, hb2⟩ ?_
        simp only [retP_iff]
        simp [RW, scalar, Row.nlen, alg]
      · simp only [hb]
        cbv
        have hb2 : stB out = true := by subst hS; exact hb
        have hp := HP.h
        have hd0 : PS.dropLast.drop i = [] := List.drop_of_length_le (by simp; omega)
        rw [hd0] at hp
        have : qsO s = some out := by
          rw [qsO, eP, hp]
          simp [pcs, hb2]
        rw [hr, hfr, qsB, qsL, this]
        subst hA hS
        refine obP.mk ⟨by omega, hb2⟩ ?_
        simp only [retP_iff]
        simp [RW, scalar, Row.nlen, alg]
end Go.Proofs.YtdkpncnkhnmidaaDoor
