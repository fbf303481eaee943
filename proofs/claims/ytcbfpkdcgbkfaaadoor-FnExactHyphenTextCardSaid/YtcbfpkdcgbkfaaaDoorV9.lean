/-
  Hyphens in words: the places, both sides.
-/
import Derived.Test.YtcbfpkdcgbkfaaaDoorV8
set_option linter.unusedSimpArgs false
set_option linter.unusedVariables false
namespace Go.Proofs.YtcbfpkdcgbkfaaaDoor
open Go.Ab Go.RowKit

theorem atF_hit (w : List UInt8) : ∀ (l : List (List UInt8)) (i : Int), 0 ≤ i → 0 ≤ atF w l i → ∃ k, k < l.length ∧ atF w l i = i + k ∧ plainE (l.getD k []) = w
  | [], i, _, h => by simp [atF] at h
  | e :: r, i, hi, h => by
    by_cases he : plainE e = w
    · exact ⟨0, by simp, by simp [atF, he], by simpa using he⟩
    · have e1 : atF w (e :: r) i = atF w r (i + 1) := by simp [atF, he]
      rw [e1] at h
      obtain ⟨k, h1, h2, h3⟩ := atF_hit w r (i + 1) (by omega) h
      exact ⟨k + 1, by simp; omega, by rw [e1, h2]; omega, by simpa using h3⟩
theorem mget_mset : ∀ (M : List (Int × Bool)) (k n : Int) (b : Bool), mgetF (msetF M k b) n = if n = k then b else mgetF M n
  | [], k, n, b => by simp [msetF, mgetF]
  | (a, c) :: r, k, n, b => by
    unfold msetF
    by_cases hk : k = a
    · rw [if_pos hk]
      subst hk
      by_cases hn : n = k
      · simp [mgetF, hn]
      · simp [mgetF, hn]
    · rw [if_neg hk]
      by_cases hn : n = a
      · subst hn
        have : ¬ n = k := fun e => hk e.symm
        simp [mgetF, this]
      · simp only [mgetF, if_neg hn]
        exact mget_mset r k n b
theorem cums_len : ∀ (ps : List (List UInt8)) (n : Int), (cums n ps).length = ps.length
  | [], _ => rfl
  | p :: ps, n => by simp [cums, cums_len ps]
theorem tot_pos : ∀ ps : List (List UInt8), 0 ≤ tot ps
  | [] => by simp [tot]
  | p :: ps => by have := tot_pos ps; simp only [tot]; omega
theorem tot_take (ps : List (List UInt8)) (i : Nat) : tot (ps.take i) ≤ tot ps := by
  have h := tot_app (ps.take i) (ps.drop i)
  rw [List.take_append_drop] at h
  have := tot_pos (ps.drop i)
  omega
theorem bP_len {x : List UInt8} (hx : excB x = true) (hl : x.length ≤ 1048576) : (bP x).length ≤ 1048577 := by
  rw [(bL_eq hx).2, List.length_dropLast, cums_len, spl_len _ x (Nat.le_refl _)]
  have := Lib.count_le x [45]
  omega
structure Sy extends Sx where
  vals : List (List UInt8) → List UInt8 → List Int
  plc : List (List UInt8) → List (List UInt8) → List UInt8 → List Int
  pv : List (List UInt8) → List UInt8 → Prop
  pe : List (List UInt8) → List (List UInt8) → List UInt8 → Prop
def peP (p e : List (List UInt8)) (w : List UInt8) : Prop := (allS p ∧ p.all patB = true) ∧ (allS e ∧ ∀ i, i < e.length → excB (e.getD i []) = true) ∧ letB w 1 16 = true
def sy : Sy := { sx with vals := vals, plc := plc, pv := fun p w => allS p ∧ p.all patB = true ∧ letB w 1 16 = true, pe := peP }
def Y1 (S : Sy) : List (Nat × (List AV → CR)) :=
  (44, fun args => match args with | [.ro (.strs p), .str w] => .pure (S.pv p w) (.own 0 false) [(3, .ints .i64 (S.vals p w))] | _ => .no) ::
  V7 S.toSw
set_option maxRecDepth 100000 in
theorem Y1_ok : TabG gW Tryd.prog (tfind (Y1 sy)) := by
  refine tab_cons (fun args => ?_) (V7_ok)
  · split
    · exact ent_pure fun h => (implVals_ok _ _ h.1 h.2.1 h.2.2).toG
    · exact ent_no
def Y2 (S : Sy) : List (Nat × (List AV → CR)) :=
  (28, fun args => match args with | [.ro (.strs p), .str w] => .pure (S.pv p w) (.own 0 false) [(3, .ints .i64 (S.vals p w))] | _ => .no) ::
  W2 S.toSx
set_option maxRecDepth 100000 in
theorem Y2_ok : TabOK Tryd.prog (tfind (Y2 sy)) := by
  refine tab_cons (fun args => ?_) (W2_ok)
  · split
    · exact ent_pure fun h => specVals_ok _ _ h.1 h.2.1 h.2.2
    · exact ent_no
set_option maxRecDepth 100000 in
set_option maxHeartbeats 1000000 in
theorem specPl_ok (p e : List (List UInt8)) (w : List UInt8) (h : peP p e w) : FC Tryd.prog 17 [.ro (.strs p), .ro (.strs e), .str w] (.own 0 true) [(3, .ints .i64 (plc p e w))] := by
  refine fc_eval sy Y2 Y2_ok hT hm Tryd.func17 rfl (by kernel_rfl) rfl rfl ?_
  intro A S r0 fr0 hA hS hr hfr
  cbv
  obtain ⟨⟨hp, hpb⟩, ⟨he, hex⟩, hw⟩ := h
  obtain ⟨_, hw1, hw16⟩ := (letB_iff w 1 16).1 hw
  have w2 : w64 ((w.length : Int) - 2) = (w.length : Int) - 2 := w64_id (by omega)
  have hen := he.1
  obtain ⟨L, hL⟩ : ∃ L : Int, L = e.length := ⟨_, rfl⟩
  refine loop1 (fun (i : Nat) => ⟨fr 77 [(0, .ro (.strs p)), (2, .str w), (7, .nilS), (17, .ro (.strs e)), (18, .int .i64 L), (19, .int .i64 i)], [.dead]⟩)
    (fun i => i ≤ e.length ∧ atE e w = atF w (e.drop i) i) (fun i => e.length - i) 0 ?_ ?_ ?_
  · subst hA hS; simp [Wk_iff, fr, undefs, wkT, wkV, wkH, okid, Row.nlen, Row.rk, RK.rowk, getO, alg, hL]
  · simp [atE]
  · intro i hR
    have i1 := hR.1
    have i2 := hR.2
    clear hR
    cbv
    (try simp only [nc] at *)
    refine condP.mk (fun hc => ?_) (fun hc => ?_)
    · have hi : i < e.length := by
        have : (i : Int) < L := by (try simp only [nc] at *); (try subst hA); (try subst hS); simp (disch := (refine KR.mk ?_; kernel_rfl)) only [alg, obP_iff, condP_iff, retP_iff, retM_iff, ofNat_cast, nc, Int.toNat_natCast, decide_eq_true_eq, decide_eq_false_iff_not, wrap_w64, retS_iff, Bool.not_eq_true', Bool.not_eq_false', beq_iff_eq, beq_eq_false_iff_ne, AV.bool.injEq, AV.int.injEq, AV.t2.injEq, AV.t3.injEq, AV.own.injEq, List.cons.injEq, Prod.mk.injEq, Row.ints.injEq, RW, Row.nlen, scalar, imp_self, and_true, true_and, lexT, heldT, tailT, planT, nb, Int.toNat_zero, List.getD_cons_zero, List.getD_cons_succ, List.set_cons_zero, List.set_cons_succ, sy, sx, sw, sv, sh, sb] at hc; exact hc
        omega
      clear hc
      obtain ⟨x, hxe⟩ : ∃ x, x = e.getD i [] := ⟨_, rfl⟩
      have hxb : excB x = true := by rw [hxe]; exact hex i hi
      have hxl : x.length ≤ 1048576 := by rw [hxe]; exact he.2 i hi
      refine obP.mk (by subst hA; simp only [alg, ofNat_cast]; omega) ?_
      refine obP.mk (by subst hA hS; exact he.2 i hi) ?_
      refine condP.mk (fun hc => ?_) (fun hc => ?_)
      · have hbl : bL x = w := by
          (try simp only [nc] at *); (try subst hA); (try subst hS); simp (disch := (refine KR.mk ?_; kernel_rfl)) only [alg, obP_iff, condP_iff, retP_iff, retM_iff, ofNat_cast, nc, Int.toNat_natCast, decide_eq_true_eq, decide_eq_false_iff_not, wrap_w64, retS_iff, Bool.not_eq_true', Bool.not_eq_false', beq_iff_eq, beq_eq_false_iff_ne, AV.bool.injEq, AV.int.injEq, AV.t2.injEq, AV.t3.injEq, AV.own.injEq, List.cons.injEq, Prod.mk.injEq, Row.ints.injEq, RW, Row.nlen, scalar, imp_self, and_true, true_and, lexT, heldT, tailT, planT, nb, Int.toNat_zero, List.getD_cons_zero, List.getD_cons_succ, List.set_cons_zero, List.set_cons_succ, sy, sx, sw, sv, sh, sb, ← hxe] at hc
          exact hc
        clear hc
        have hpx : plainE x = w := by rw [← (bL_eq hxb).1]; exact hbl
        have hat : atE e w = i := by rw [i2, atF_drop _ _ _ hi, ← hxe, if_pos hpx]
        have hfin : plc p e w = plE x w := by rw [plc, hat, if_pos (by omega), Int.toNat_natCast, ← hxe]
        obtain ⟨B, hB⟩ : ∃ B, B = bP x := ⟨_, rfl⟩
        have hBl : B.length ≤ 1048577 := by rw [hB]; exact bP_len hxb hxl
        obtain ⟨M, hM⟩ : ∃ L : Int, L = B.length := ⟨_, rfl⟩
        refine loop2 (fun (k : Nat) (o : List Int) => ⟨fr 77 [(2, .str w), (7, .own 2 true), (32, .own 1 true), (33, .int .i64 M), (34, .int .i64 k)], [.dead, .row 3 (.ints .i64 B), .row 3 (.ints .i64 o)]⟩)
          (fun k o => k ≤ B.length ∧ o = (B.take k).filter (inW w)) (fun k _ => B.length - k) 0 [] ?_ ?_ ?_
        · subst hA hS; simp [Wk_iff, fr, undefs, wkT, wkV, wkH, okid, Row.nlen, Row.rk, RK.rowk, getO, alg, hM, hB, hxe, sy, sx, sw, sv, sh]
        · simp
        · intro k o hR
          have k1 := hR.1
          have k2 := hR.2
          clear hR
          have ol : o.length ≤ k := by rw [k2]; exact Nat.le_trans (List.length_filter_le _ _) (by rw [List.length_take]; omega)
          cbv
          (try simp only [nc] at *); subst hA hS hr hfr; simp (disch := (refine KR.mk ?_; kernel_rfl)) only [alg, obP_iff, condP_iff, retP_iff, retM_iff, ofNat_cast, nc, Int.toNat_natCast, decide_eq_true_eq, decide_eq_false_iff_not, wrap_w64, retS_iff, Bool.not_eq_true', Bool.not_eq_false', beq_iff_eq, beq_eq_false_iff_ne, AV.bool.injEq, AV.int.injEq, AV.t2.injEq, AV.t3.injEq, AV.own.injEq, List.cons.injEq, Prod.mk.injEq, Row.ints.injEq, RW, Row.nlen, scalar, imp_self, and_true, true_and, lexT, heldT, tailT, planT, nb, Int.toNat_zero, List.getD_cons_zero, List.getD_cons_succ, List.set_cons_zero, List.set_cons_succ, sy, sx, sw, sv, sh, sb]
          simp only [w2]
          have w1 : w64 ((k : Int) + 1) = ((k + 1 : Nat) : Int) := by rw [w64_id (by omega)]; omega
          refine ⟨fun hk => ⟨by omega, fun hin => ⟨by omega, by simp, k + 1, o ++ [B.getD k 0], ?_, ⟨by omega, ?_⟩, by omega⟩, fun hin => ⟨k + 1, o, ?_, ⟨by omega, ?_⟩, by omega⟩⟩, fun hk => ?_⟩
          · simp [Wk_iff, fr, undefs, wkT, wkV, wkH, okid, Row.nlen, Row.rk, RK.rowk, getO, w1]
          · rw [k2, take_getD 0 _ _ (by omega), List.filter_append]
            have : inW w (B.getD k 0) = true := hin
            simp only [List.filter_cons, this, if_true, List.filter_nil]
          · simp [Wk_iff, fr, undefs, wkT, wkV, wkH, okid, Row.nlen, Row.rk, RK.rowk, getO, w1]
          · rw [k2, take_getD 0 _ _ (by omega), List.filter_append]
            have : inW w (B.getD k 0) = false := hin
            simp only [List.filter_cons, this, Bool.false_eq_true, if_false, List.filter_nil, List.append_nil]
          · rw [hfin, plE, ← hB, k2, List.take_of_length_le (by omega)]
      · have hbl : ¬ bL x = w := by
          (try simp only [nc] at *); (try subst hA); (try subst hS); simp (disch := (refine KR.mk ?_; kernel_rfl)) only [alg, obP_iff, condP_iff, retP_iff, retM_iff, ofNat_cast, nc, Int.toNat_natCast, decide_eq_true_eq, decide_eq_false_iff_not, wrap_w64, retS_iff, Bool.not_eq_true', Bool.not_eq_false', beq_iff_eq, beq_eq_false_iff_ne, AV.bool.injEq, AV.int.injEq, AV.t2.injEq, AV.t3.injEq, AV.own.injEq, List.cons.injEq, Prod.mk.injEq, Row.ints.injEq, RW, Row.nlen, scalar, imp_self, and_true, true_and, lexT, heldT, tailT, planT, nb, Int.toNat_zero, List.getD_cons_zero, List.getD_cons_succ, List.set_cons_zero, List.set_cons_succ, sy, sx, sw, sv, sh, sb, ← hxe] at hc
          exact hc
        clear hc
        have hpx : ¬ plainE x = w := by rw [← (bL_eq hxb).1]; exact hbl
        refine ⟨i + 1, ?_, ⟨by omega, ?_⟩, by omega⟩
        · subst hA hS; simp [Wk_iff, fr, undefs, wkT, wkV, wkH, okid, Row.nlen, Row.rk, RK.rowk, getO, alg, wrap_w64, w64_id (n := (i : Int) + 1) (by omega)]
        · rw [i2, atF_drop _ _ _ hi, ← hxe, if_neg hpx]
    · have hi : e.length ≤ i := by
        have : ¬ (i : Int) < L := by (try simp only [nc] at *); (try subst hA); (try subst hS); simp (disch := (refine KR.mk ?_; kernel_rfl)) only [alg, obP_iff, condP_iff, retP_iff, retM_iff, ofNat_cast, nc, Int.toNat_natCast, decide_eq_true_eq, decide_eq_false_iff_not, wrap_w64, retS_iff, Bool.not_eq_true', Bool.not_eq_false', beq_iff_eq, beq_eq_false_iff_ne, AV.bool.injEq, AV.int.injEq, AV.t2.injEq, AV.t3.injEq, AV.own.injEq, List.cons.injEq, Prod.mk.injEq, Row.ints.injEq, RW, Row.nlen, scalar, imp_self, and_true, true_and, lexT, heldT, tailT, planT, nb, Int.toNat_zero, List.getD_cons_zero, List.getD_cons_succ, List.set_cons_zero, List.set_cons_succ, sy, sx, sw, sv, sh, sb] at hc; exact hc
        omega
      clear hc
      have hat : atE e w = -1 := by rw [i2, List.drop_of_length_le hi]; rfl
      have hfin : plc p e w = plV (vals p w) w := by rw [plc, hat, if_neg (by omega)]
      obtain ⟨V, hV⟩ : ∃ V, V = vals p w := ⟨_, rfl⟩
      have hVl : V.length = w.length - 1 := by rw [hV, vals_len]
      obtain ⟨M, hM⟩ : ∃ L : Int, L = V.length := ⟨_, rfl⟩
      refine obP.mk (by subst hA hS; exact ⟨hp, hpb, hw⟩) ?_
      refine loop2 (fun (k : Nat) (o : List Int) => ⟨fr 77 [(2, .str w), (7, .own 2 true), (52, .own 1 false), (53, .int .i64 M), (54, .int .i64 k)], [.dead, .row 3 (.ints .i64 V), .row 3 (.ints .i64 o)]⟩)
        (fun k o => k ≤ V.length ∧ o = plT (fun n => odd V n && inW w ((n : Int) + 1)) k ∧ o.length ≤ k) (fun k _ => V.length - k) 0 [] ?_ ?_ ?_
      · subst hA hS; simp [Wk_iff, fr, undefs, wkT, wkV, wkH, okid, Row.nlen, Row.rk, RK.rowk, getO, alg, hM, hV, sy, sx, sw, sv, sh]
      · simp [plT]
      · intro k o hR
        have k1 := hR.1
        have k2 := hR.2.1
        have k3 := hR.2.2
        clear hR
        cbv
        (try simp only [nc] at *); subst hA hS hr hfr; simp (disch := (refine KR.mk ?_; kernel_rfl)) only [alg, obP_iff, condP_iff, retP_iff, retM_iff, ofNat_cast, nc, Int.toNat_natCast, decide_eq_true_eq, decide_eq_false_iff_not, wrap_w64, retS_iff, Bool.not_eq_true', Bool.not_eq_false', beq_iff_eq, beq_eq_false_iff_ne, AV.bool.injEq, AV.int.injEq, AV.t2.injEq, AV.t3.injEq, AV.own.injEq, List.cons.injEq, Prod.mk.injEq, Row.ints.injEq, RW, Row.nlen, scalar, imp_self, and_true, true_and, lexT, heldT, tailT, planT, nb, Int.toNat_zero, List.getD_cons_zero, List.getD_cons_succ, List.set_cons_zero, List.set_cons_succ, sy, sx, sw, sv, sh, sb]
        have w1 : w64 ((k : Int) + 1) = (k : Int) + 1 := w64_id (by omega)
        simp only [w2, w1]
        have hck : (odd V k && inW w ((k : Int) + 1)) = ((V.getD k 0).tmod 2 == 1 && inR ((k : Int) + 1) 2 ((w.length : Int) - 2)) := rfl
        refine ⟨fun hk => ⟨by omega, by decide, fun _ => trivial, fun hb => ⟨by omega, by simp, k + 1, o ++ [(k : Int) + 1], ?_, ⟨by omega, ?_, by simp; omega⟩, by omega⟩, fun hb => ⟨k + 1, o, ?_, ⟨by omega, ?_, by omega⟩, by omega⟩⟩, fun hk => ?_⟩
        · simp [Wk_iff, fr, undefs, wkT, wkV, wkH, okid, Row.nlen, Row.rk, RK.rowk, getO]
        · rw [k2, plT, hck, hb, if_pos rfl]
        · simp [Wk_iff, fr, undefs, wkT, wkV, wkH, okid, Row.nlen, Row.rk, RK.rowk, getO]
        · rw [k2, plT, hck, hb]; simp
        · rw [hfin, plV, ← hV, k2, show k = V.length by omega]
set_option maxRecDepth 100000 in
set_option maxHeartbeats 1000000 in
theorem implPl_ok (p e : List (List UInt8)) (w : List UInt8) (h : peP p e w) : FCG gW Tryd.prog 30 [.ro (.strs p), .ro (.strs e), .str w] (.own 0 true) [(3, .ints .i64 (plc p e w))] := by
  refine fcg_eval gW_st sy Y1 Y1_ok hT hm Tryd.func30 rfl (by kernel_rfl) rfl rfl ?_
  intro A S r0 fr0 hA hS hr hfr
  cbv
  obtain ⟨⟨hp, hpb⟩, ⟨he, hex⟩, hw⟩ := h
  obtain ⟨_, hw1, hw16⟩ := (letB_iff w 1 16).1 hw
  have w2 : w64 ((w.length : Int) - 2) = (w.length : Int) - 2 := w64_id (by omega)
  have hen := he.1
  (try simp only [nc] at *)
  refine obP.mk (by subst hA hS; exact he) ?_
  refine condP.mk (fun hc => ?_) (fun hc => ?_)
  · have hat : 0 ≤ atE e w := by
      (try simp only [nc] at *); (try subst hA); (try subst hS); simp (disch := (refine KR.mk ?_; kernel_rfl)) only [alg, obP_iff, condP_iff, retP_iff, retM_iff, ofNat_cast, nc, Int.toNat_natCast, decide_eq_true_eq, decide_eq_false_iff_not, wrap_w64, retS_iff, Bool.not_eq_true', Bool.not_eq_false', beq_iff_eq, beq_eq_false_iff_ne, AV.bool.injEq, AV.int.injEq, AV.t2.injEq, AV.t3.injEq, AV.own.injEq, List.cons.injEq, Prod.mk.injEq, Row.ints.injEq, RW, Row.nlen, scalar, imp_self, and_true, true_and, lexT, heldT, tailT, planT, nb, Int.toNat_zero, List.getD_cons_zero, List.getD_cons_succ, List.set_cons_zero, List.set_cons_succ, sy, sx, sw, sv, sh, sb] at hc
      exact hc
    clear hc
    obtain ⟨i, hi, hai, hpx⟩ := atF_hit w e 0 (by omega) hat
    have hai : atE e w = i := by rw [atE, hai]; omega
    obtain ⟨x, hxe⟩ : ∃ x, x = e.getD i [] := ⟨_, rfl⟩
    rw [← hxe] at hpx
    have hxb : excB x = true := by rw [hxe]; exact hex i hi
    have hxl : x.length ≤ 1048576 := by rw [hxe]; exact he.2 i hi
    have hfin : plc p e w = rdM (mkE x) w := by rw [plc, if_pos hat, hai, Int.toNat_natCast, ← hxe, rd_E hxb hpx]
    refine obP.mk (by subst hA hS; simp only [alg, sy, sx, sw, hai, ofNat_cast]; omega) ?_
    refine obP.mk (by subst hA hS; simp only [alg, sy, sx, sw, hai, Int.toNat_natCast, ← hxe]; exact ⟨hxl, trivial⟩) ?_
    obtain ⟨ps, hps⟩ : ∃ ps, ps = spl x := ⟨_, rfl⟩
    obtain ⟨L, hL⟩ : ∃ L : Int, L = ps.length := ⟨_, rfl⟩
    have hpn : ps.length ≤ 1048578 := by
      have h1 := spl_len _ x (Nat.le_refl _)
      have h2 := Lib.count_le x [45]
      rw [hps]; omega
    have htt : tot ps ≤ 1048576 := by
      have := spl_tot x
      have := plainE_len x
      rw [hps]; omega
    refine loop3 (fun (i : Nat) (q : Int) (Z : List (Int × Bool)) => ⟨fr 71 [(2, .str w), (7, .mp 1), (9, .int .i64 q), (26, .own 2 false), (27, .int .i64 L), (28, .int .i64 i)], [.dead, .row 0 (.mpr Z), .row 9 (.strs ps)]⟩)
      (fun i q Z => i ≤ ps.length ∧ q = tot (ps.take i) ∧ ∀ n, mgetF Z n = decide (n ∈ cums 0 (ps.take i))) (fun i _ _ => ps.length - i) 0 0 [] ?_ ?_ ?_
    · subst hA hS; simp [Wk_iff, fr, undefs, wkT, wkV, wkH, okid, Row.nlen, Row.rk, RK.rowk, getO, alg, hL, hps, sy, sx, sw, sv, sh, hai, hxe]
    · exact ⟨by omega, by simp [tot], fun n => by simp [mgetF, cums]⟩
    · intro i q Z hR
      have i1 := hR.1
      have i2 := hR.2.1
      have i3 := hR.2.2
      clear hR
      have HZ := Hd.mk i3
      clear i3
      cbv
      (try simp only [nc] at *)
      refine condP.mk (fun hc => ?_) (fun hc => ?_)
      · have hi : i < ps.length := by
          have : (i : Int) < L := by (try simp only [nc] at *); (try subst hA); (try subst hS); simp (disch := (refine KR.mk ?_; kernel_rfl)) only [alg, obP_iff, condP_iff, retP_iff, retM_iff, ofNat_cast, nc, Int.toNat_natCast, decide_eq_true_eq, decide_eq_false_iff_not, wrap_w64, retS_iff, Bool.not_eq_true', Bool.not_eq_false', beq_iff_eq, beq_eq_false_iff_ne, AV.bool.injEq, AV.int.injEq, AV.t2.injEq, AV.t3.injEq, AV.own.injEq, List.cons.injEq, Prod.mk.injEq, Row.ints.injEq, RW, Row.nlen, scalar, imp_self, and_true, true_and, lexT, heldT, tailT, planT, nb, Int.toNat_zero, List.getD_cons_zero, List.getD_cons_succ, List.set_cons_zero, List.set_cons_succ, sy, sx, sw, sv, sh, sb] at hc; exact hc
          omega
        clear hc
        have ht1 := tot_take ps (i + 1)
        have ht0 := tot_pos (ps.take i)
        rw [take_getD [] _ _ hi, tot_app] at ht1
        simp only [tot] at ht1
        have wq : w64 (q + ((ps.getD i []).length : Nat)) = q + (ps.getD i []).length := w64_id (by omega)
        (try simp only [nc] at *); subst hA hS hr hfr; simp (disch := (refine KR.mk ?_; kernel_rfl)) only [alg, obP_iff, condP_iff, retP_iff, retM_iff, ofNat_cast, nc, Int.toNat_natCast, decide_eq_true_eq, decide_eq_false_iff_not, wrap_w64, retS_iff, Bool.not_eq_true', Bool.not_eq_false', beq_iff_eq, beq_eq_false_iff_ne, AV.bool.injEq, AV.int.injEq, AV.t2.injEq, AV.t3.injEq, AV.own.injEq, List.cons.injEq, Prod.mk.injEq, Row.ints.injEq, RW, Row.nlen, scalar, imp_self, and_true, true_and, lexT, heldT, tailT, planT, nb, Int.toNat_zero, List.getD_cons_zero, List.getD_cons_succ, List.set_cons_zero, List.set_cons_succ, sy, sx, sw, sv, sh, sb]
        have w1 : w64 ((i : Int) + 1) = ((i + 1 : Nat) : Int) := by rw [w64_id (by omega)]; omega
        simp only [wq, w1]
        refine ⟨by omega, i + 1, q + (ps.getD i []).length, msetF Z (q + (ps.getD i []).length) true, ?_, ⟨by omega, ?_, fun n => ?_⟩, by omega⟩
        · simp [Wk_iff, fr, undefs, wkT, wkV, wkH, okid, Row.nlen, Row.rk, RK.rowk, getO]
        · rw [take_getD [] _ _ hi, tot_app, i2]; simp [tot]
        · have i3 := HZ.h
          rw [mget_mset, i3, take_getD [] _ _ hi, cums_app, ← i2, Int.zero_add]
          by_cases hn : n = q + (ps.getD i []).length
          · rw [if_pos hn, decide_eq_true (by rw [hn]; simp)]
          · rw [if_neg hn, decide_eq_decide, List.mem_append, List.mem_singleton]
            exact ⟨.inl, fun h => h.resolve_right hn⟩
      · have hi : ps.length ≤ i := by
          have : ¬ (i : Int) < L := by (try simp only [nc] at *); (try subst hA); (try subst hS); simp (disch := (refine KR.mk ?_; kernel_rfl)) only [alg, obP_iff, condP_iff, retP_iff, retM_iff, ofNat_cast, nc, Int.toNat_natCast, decide_eq_true_eq, decide_eq_false_iff_not, wrap_w64, retS_iff, Bool.not_eq_true', Bool.not_eq_false', beq_iff_eq, beq_eq_false_iff_ne, AV.bool.injEq, AV.int.injEq, AV.t2.injEq, AV.t3.injEq, AV.own.injEq, List.cons.injEq, Prod.mk.injEq, Row.ints.injEq, RW, Row.nlen, scalar, imp_self, and_true, true_and, lexT, heldT, tailT, planT, nb, Int.toNat_zero, List.getD_cons_zero, List.getD_cons_succ, List.set_cons_zero, List.set_cons_succ, sy, sx, sw, sv, sh, sb] at hc; exact hc
          omega
        clear hc
        have hZ : ∀ n, mgetF Z n = mkE x n := fun n => by rw [HZ.h n, List.take_of_length_le hi, mkE, hps]
        clear HZ
        have HZ := Hd.mk hZ
        clear hZ
        have hZ := HZ.h
        obtain ⟨mk, hmk⟩ : ∃ mk, mk = mkE x := ⟨_, rfl⟩
        rw [← hmk] at hZ hfin
        refine loop2 (fun (k : Nat) (o : List Int) => ⟨fr 71 [(2, .str w), (7, .mp 1), (14, .own 3 false), (15, .int .i64 k)], [.dead, .row 0 (.mpr Z), .dead, .row 3 (.ints .i64 o)]⟩)
          (fun k o => 2 ≤ k ∧ k ≤ max 1 (w.length - 2) + 1 ∧ o = plT (mkP mk) (k - 1) ∧ o.length ≤ k) (fun k _ => max 1 (w.length - 2) + 1 - k) 2 [] ?_ ?_ ?_
        · subst hA hS; simp [Wk_iff, fr, undefs, wkT, wkV, wkH, okid, Row.nlen, Row.rk, RK.rowk, getO, alg]
        · refine ⟨by omega, by omega, ?_, by simp⟩
          simp [plT, mkP]
        · intro k o hR
          have k1 := hR.1
          have k2 := hR.2.1
          have k3 := hR.2.2.1
          have k4 := hR.2.2.2
          clear hR
          have ks : plT (mkP mk) k = plT (mkP mk) (k - 1) ++ if mk (k : Int) then [(k : Int)] else [] := by
            obtain ⟨j, rfl⟩ : ∃ j, k = j + 1 := ⟨k - 1, by omega⟩
            have : decide (1 ≤ j) = true := decide_eq_true (by omega)
            simp only [plT, mkP, this, Bool.true_and, Nat.add_sub_cancel, Int.natCast_add, Int.cast_ofNat_Int]
          cbv
          (try simp only [nc] at *); subst hA hS hr hfr; simp (disch := (refine KR.mk ?_; kernel_rfl)) only [alg, obP_iff, condP_iff, retP_iff, retM_iff, ofNat_cast, nc, Int.toNat_natCast, decide_eq_true_eq, decide_eq_false_iff_not, wrap_w64, retS_iff, Bool.not_eq_true', Bool.not_eq_false', beq_iff_eq, beq_eq_false_iff_ne, AV.bool.injEq, AV.int.injEq, AV.t2.injEq, AV.t3.injEq, AV.own.injEq, List.cons.injEq, Prod.mk.injEq, Row.ints.injEq, RW, Row.nlen, scalar, imp_self, and_true, true_and, lexT, heldT, tailT, planT, nb, Int.toNat_zero, List.getD_cons_zero, List.getD_cons_succ, List.set_cons_zero, List.set_cons_succ, sy, sx, sw, sv, sh, sb]
          have w1 : w64 ((k : Int) + 1) = ((k + 1 : Nat) : Int) := by rw [w64_id (by omega)]; omega
          simp only [w2, w1, hZ]
          refine ⟨fun hk => ⟨fun hb => ⟨by omega, by simp, k + 1, o ++ [(k : Int)], ?_, ⟨by omega, by omega, ?_, by simp; omega⟩, by omega⟩, fun hb => ⟨k + 1, o, ?_, ⟨by omega, by omega, ?_, by omega⟩, by omega⟩⟩, fun hk => ?_⟩
          · simp [Wk_iff, fr, undefs, wkT, wkV, wkH, okid, Row.nlen, Row.rk, RK.rowk, getO]
          · rw [Nat.add_sub_cancel, ks, if_pos hb, k3]
          · simp [Wk_iff, fr, undefs, wkT, wkV, wkH, okid, Row.nlen, Row.rk, RK.rowk, getO]
          · rw [Nat.add_sub_cancel, ks, hb, k3]; simp
          · rw [hfin, rdM, k3, show k - 1 = max 1 (w.length - 2) by omega]
  · have hat : ¬ 0 ≤ atE e w := by
      (try simp only [nc] at *); (try subst hA); (try subst hS); simp (disch := (refine KR.mk ?_; kernel_rfl)) only [alg, obP_iff, condP_iff, retP_iff, retM_iff, ofNat_cast, nc, Int.toNat_natCast, decide_eq_true_eq, decide_eq_false_iff_not, wrap_w64, retS_iff, Bool.not_eq_true', Bool.not_eq_false', beq_iff_eq, beq_eq_false_iff_ne, AV.bool.injEq, AV.int.injEq, AV.t2.injEq, AV.t3.injEq, AV.own.injEq, List.cons.injEq, Prod.mk.injEq, Row.ints.injEq, RW, Row.nlen, scalar, imp_self, and_true, true_and, lexT, heldT, tailT, planT, nb, Int.toNat_zero, List.getD_cons_zero, List.getD_cons_succ, List.set_cons_zero, List.set_cons_succ, sy, sx, sw, sv, sh, sb] at hc
      exact hc
    clear hc
    obtain ⟨V, hV⟩ : ∃ V, V = vals p w := ⟨_, rfl⟩
    have hVl : V.length = w.length - 1 := by rw [hV, vals_len]
    have hfin : plc p e w = rdM (mkV V) w := by rw [plc, if_neg hat, ← hV, rd_V hVl]
    obtain ⟨L, hL⟩ : ∃ L : Int, L = V.length := ⟨_, rfl⟩
    refine obP.mk (by subst hA hS; exact ⟨hp, hpb, hw⟩) ?_
    refine loop2 (fun (i : Nat) (Z : List (Int × Bool)) => ⟨fr 71 [(2, .str w), (7, .mp 1), (41, .own 2 false), (42, .int .i64 L), (43, .int .i64 i)], [.dead, .row 0 (.mpr Z), .row 3 (.ints .i64 V)]⟩)
      (fun i Z => i ≤ V.length ∧ ∀ n, mgetF Z n = (decide (1 ≤ n ∧ n ≤ i) && odd V (n - 1).toNat)) (fun i _ => V.length - i) 0 [] ?_ ?_ ?_
    · subst hA hS; simp [Wk_iff, fr, undefs, wkT, wkV, wkH, okid, Row.nlen, Row.rk, RK.rowk, getO, alg, hL, hV, sy, sx, sw, sv, sh]
    · refine ⟨by omega, fun n => ?_⟩
      rw [decide_eq_false (by omega)]; rfl
    · intro i Z hR
      have i1 := hR.1
      have i3 := hR.2
      clear hR
      have HZ := Hd.mk i3
      clear i3
      cbv
      (try simp only [nc] at *)
      refine condP.mk (fun hc => ?_) (fun hc => ?_)
      · have hi : i < V.length := by
          have : (i : Int) < L := by (try simp only [nc] at *); (try subst hA); (try subst hS); simp (disch := (refine KR.mk ?_; kernel_rfl)) only [alg, obP_iff, condP_iff, retP_iff, retM_iff, ofNat_cast, nc, Int.toNat_natCast, decide_eq_true_eq, decide_eq_false_iff_not, wrap_w64, retS_iff, Bool.not_eq_true', Bool.not_eq_false', beq_iff_eq, beq_eq_false_iff_ne, AV.bool.injEq, AV.int.injEq, AV.t2.injEq, AV.t3.injEq, AV.own.injEq, List.cons.injEq, Prod.mk.injEq, Row.ints.injEq, RW, Row.nlen, scalar, imp_self, and_true, true_and, lexT, heldT, tailT, planT, nb, Int.toNat_zero, List.getD_cons_zero, List.getD_cons_succ, List.set_cons_zero, List.set_cons_succ, sy, sx, sw, sv, sh, sb] at hc; exact hc
          omega
        clear hc
        (try simp only [nc] at *); subst hA hS hr hfr; simp (disch := (refine KR.mk ?_; kernel_rfl)) only [alg, obP_iff, condP_iff, retP_iff, retM_iff, ofNat_cast, nc, Int.toNat_natCast, decide_eq_true_eq, decide_eq_false_iff_not, wrap_w64, retS_iff, Bool.not_eq_true', Bool.not_eq_false', beq_iff_eq, beq_eq_false_iff_ne, AV.bool.injEq, AV.int.injEq, AV.t2.injEq, AV.t3.injEq, AV.own.injEq, List.cons.injEq, Prod.mk.injEq, Row.ints.injEq, RW, Row.nlen, scalar, imp_self, and_true, true_and, lexT, heldT, tailT, planT, nb, Int.toNat_zero, List.getD_cons_zero, List.getD_cons_succ, List.set_cons_zero, List.set_cons_succ, sy, sx, sw, sv, sh, sb]
        have w1 : w64 ((i : Int) + 1) = ((i + 1 : Nat) : Int) := by rw [w64_id (by omega)]; omega
        simp only [w1]
        refine ⟨by omega, by decide, i + 1, msetF Z ((i + 1 : Nat) : Int) ((V.getD i 0).tmod 2 == 1), ?_, ⟨by omega, fun n => ?_⟩, by omega⟩
        · simp [Wk_iff, fr, undefs, wkT, wkV, wkH, okid, Row.nlen, Row.rk, RK.rowk, getO]
        · have i3 := HZ.h
          rw [mget_mset, i3]
          by_cases hn : n = ((i + 1 : Nat) : Int)
          · subst hn
            rw [if_pos rfl, decide_eq_true (by omega), Bool.true_and, show (((i + 1 : Nat) : Int) - 1).toNat = i by omega]; rfl
          · rw [if_neg hn]
            congr 1
            rw [decide_eq_decide]; omega
      · have hi : V.length ≤ i := by
          have : ¬ (i : Int) < L := by (try simp only [nc] at *); (try subst hA); (try subst hS); simp (disch := (refine KR.mk ?_; kernel_rfl)) only [alg, obP_iff, condP_iff, retP_iff, retM_iff, ofNat_cast, nc, Int.toNat_natCast, decide_eq_true_eq, decide_eq_false_iff_not, wrap_w64, retS_iff, Bool.not_eq_true', Bool.not_eq_false', beq_iff_eq, beq_eq_false_iff_ne, AV.bool.injEq, AV.int.injEq, AV.t2.injEq, AV.t3.injEq, AV.own.injEq, List.cons.injEq, Prod.mk.injEq, Row.ints.injEq, RW, Row.nlen, scalar, imp_self, and_true, true_and, lexT, heldT, tailT, planT, nb, Int.toNat_zero, List.getD_cons_zero, List.getD_cons_succ, List.set_cons_zero, List.set_cons_succ, sy, sx, sw, sv, sh, sb] at hc; exact hc
          omega
        clear hc
        have hZ : ∀ n, mgetF Z n = mkV V n := fun n => by rw [HZ.h n, mkV]; congr 1; rw [decide_eq_decide]; omega
        clear HZ
        obtain ⟨mk, hmk⟩ : ∃ mk, mk = mkV V := ⟨_, rfl⟩
        rw [← hmk] at hZ hfin
        refine loop2 (fun (k : Nat) (o : List Int) => ⟨fr 71 [(2, .str w), (7, .mp 1), (14, .own 3 false), (15, .int .i64 k)], [.dead, .row 0 (.mpr Z), .dead, .row 3 (.ints .i64 o)]⟩)
          (fun k o => 2 ≤ k ∧ k ≤ max 1 (w.length - 2) + 1 ∧ o = plT (mkP mk) (k - 1) ∧ o.length ≤ k) (fun k _ => max 1 (w.length - 2) + 1 - k) 2 [] ?_ ?_ ?_
        · subst hA hS; simp [Wk_iff, fr, undefs, wkT, wkV, wkH, okid, Row.nlen, Row.rk, RK.rowk, getO, alg]
        · refine ⟨by omega, by omega, ?_, by simp⟩
          simp [plT, mkP]
        · intro k o hR
          have k1 := hR.1
          have k2 := hR.2.1
          have k3 := hR.2.2.1
          have k4 := hR.2.2.2
          clear hR
          have ks : plT (mkP mk) k = plT (mkP mk) (k - 1) ++ if mk (k : Int) then [(k : Int)] else [] := by
            obtain ⟨j, rfl⟩ : ∃ j, k = j + 1 := ⟨k - 1, by omega⟩
            have : decide (1 ≤ j) = true := decide_eq_true (by omega)
            simp only [plT, mkP, this, Bool.true_and, Nat.add_sub_cancel, Int.natCast_add, Int.cast_ofNat_Int]
          cbv
          (try simp only [nc] at *); subst hA hS hr hfr; simp (disch := (refine KR.mk ?_; kernel_rfl)) only [alg, obP_iff, condP_iff, retP_iff, retM_iff, ofNat_cast, nc, Int.toNat_natCast, decide_eq_true_eq, decide_eq_false_iff_not, wrap_w64, retS_iff, Bool.not_eq_true', Bool.not_eq_false', beq_iff_eq, beq_eq_false_iff_ne, AV.bool.injEq, AV.int.injEq, AV.t2.injEq, AV.t3.injEq, AV.own.injEq, List.cons.injEq, Prod.mk.injEq, Row.ints.injEq, RW, Row.nlen, scalar, imp_self, and_true, true_and, lexT, heldT, tailT, planT, nb, Int.toNat_zero, List.getD_cons_zero, List.getD_cons_succ, List.set_cons_zero, List.set_cons_succ, sy, sx, sw, sv, sh, sb]
          have w1 : w64 ((k : Int) + 1) = ((k + 1 : Nat) : Int) := by rw [w64_id (by omega)]; omega
          simp only [w2, w1, hZ]
          refine ⟨fun hk => ⟨fun hb => ⟨by omega, by simp, k + 1, o ++ [(k : Int)], ?_, ⟨by omega, by omega, ?_, by simp; omega⟩, by omega⟩, fun hb => ⟨k + 1, o, ?_, ⟨by omega, by omega, ?_, by omega⟩, by omega⟩⟩, fun hk => ?_⟩
          · simp [Wk_iff, fr, undefs, wkT, wkV, wkH, okid, Row.nlen, Row.rk, RK.rowk, getO]
          · rw [Nat.add_sub_cancel, ks, if_pos hb, k3]
          · simp [Wk_iff, fr, undefs, wkT, wkV, wkH, okid, Row.nlen, Row.rk, RK.rowk, getO]
          · rw [Nat.add_sub_cancel, ks, hb, k3]; simp
          · rw [hfin, rdM, k3, show k - 1 = max 1 (w.length - 2) by omega]
end Go.Proofs.YtcbfpkdcgbkfaaaDoor
