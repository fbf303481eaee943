/-
  The functions of the laws' own file: copy, compare, mark, hold; and the small ones that every chapter has.
-/
import Derived.Test.YthnbajdkimgigaaG0
import Derived.Test.YthnbajdkimgigaaProg
set_option linter.unusedSimpArgs false
set_option linter.unusedVariables false
namespace Go.Proofs.Ythnbajdkimgigaa
open Go.Ab

def ty : List (Nat × TI) := [(3, ⟨some (.i .i64), none⟩), (4, ⟨some .b, none⟩)
  , (9, ⟨some .s, none⟩)
  , (5, ⟨some (.i .u8), none⟩)
  , (34, ⟨some .sli, some (3, .i .i64)⟩)
  , (24, ⟨none, some (34, .sli)⟩)
  , (46, ⟨some (.rc 2), none⟩), (44, ⟨some (.rc 2), none⟩)
  , (22, ⟨none, some (46, .rc 2)⟩)
  , (27, ⟨none, some (44, .rc 2)⟩)
  ]
theorem hT : TTok Try.prog (Go.Ab.look ty) := tt_sound (by kernel_rfl)
theorem hm : Try.prog.follows .mixedOrders = true := by kernel_rfl

theorem toIntS_ok (l : List Int) (hl : l.length ≤ 1048576) : FC Try.prog 15 [.ro (.ints .i64 l)] (.own 0 false) [(3, .ints .i64 l)] := by
  refine fc_eval () (fun _ => []) (tab_nil _) hT hm Try.func15 rfl (by kernel_rfl) rfl rfl ?_
  intro A S r0 fr0 hA hS hr hfr
  cbv
  refine ⟨by subst hA; simp only [alg]; omega, ⟨by subst hA; simp [alg], ?_⟩⟩
  refine loop2 (fun (i : Nat) (out : List Int) => ⟨fr 22 [(0, .ro (.ints .i64 l)), (3, .own 1 false), (4, .int .i64 i)], [.dead, .row 3 (.ints .i64 out)]⟩)
    (fun i out => i ≤ l.length ∧ out.length = l.length ∧ out.take i = l.take i) (fun i _ => l.length - i) 0 (List.replicate l.length 0) ?_ ?_ ?_
  · subst hA; simp [Wk_iff, fr, undefs, wkT, wkV, wkH, okid, Row.nlen, Row.rk, RK.rowk, w64_eq, getO, alg]
  · simp
  · rintro i out ⟨h1, h2, h3⟩
    cbv
    try simp only [nc] at *
    subst hA hr hfr
    simp only [alg, obP_iff, condP_iff, retP_iff, retM_iff, ofNat_cast, nc, Int.toNat_natCast, decide_eq_true_eq, decide_eq_false_iff_not, IntKind.wrap_i64, Bool.not_eq_true', Bool.not_eq_false', beq_iff_eq, beq_eq_false_iff_ne, AV.bool.injEq, AV.int.injEq, AV.t2.injEq, AV.t3.injEq, AV.own.injEq, List.cons.injEq, Prod.mk.injEq, Row.ints.injEq, RW, Row.nlen, scalar, imp_self, and_true, true_and]
    refine ⟨fun hc => ⟨by omega, by omega, i + 1, out.set i (l.getD i 0), ?_, ⟨by omega, by simp [h2], set_step _ _ _ _ h2 (by omega) h3⟩, by omega⟩, fun hc => ?_⟩
    · simp [Wk_iff, fr, undefs, wkT, wkV, wkH, okid, Row.nlen, Row.rk, RK.rowk, w64_eq, getO]; try omega
    · rw [take_all h2 (by omega) h3]
theorem eqIntS_ok (a b : List Int) (ha : a.length ≤ 1048576) : FC Try.prog 17 [.ro (.ints .i64 a), .ro (.ints .i64 b)] (.bool (eqL a b)) [] := by
  refine fc_eval () (fun _ => []) (tab_nil _) hT hm Try.func17 rfl (by kernel_rfl) rfl rfl ?_
  intro A S r0 fr0 hA hS hr hfr
  cbv
  constructor
  · intro hc
    subst hA hr hfr
    have : a ≠ b := by intro e; subst e; simp [alg] at hc
    simp [alg, obP_iff, condP_iff, retP_iff, retM_iff, ofNat_cast, nc, Int.toNat_natCast, decide_eq_true_eq, decide_eq_false_iff_not, IntKind.wrap_i64, Bool.not_eq_true', Bool.not_eq_false', beq_iff_eq, beq_eq_false_iff_ne, AV.bool.injEq, AV.int.injEq, AV.t2.injEq, AV.t3.injEq, AV.own.injEq, List.cons.injEq, Prod.mk.injEq, Row.ints.injEq, RW, Row.nlen, scalar, imp_self, and_true, true_and, eqL, this]
  · intro hc
    have hl : a.length = b.length := by subst hA; simp [alg] at hc; omega
    refine loop1 (fun (i : Nat) => ⟨fr 26 [(0, .ro (.ints .i64 a)), (1, .ro (.ints .i64 b)), (5, .int .i64 i)], [.dead]⟩)
      (fun i => i ≤ a.length ∧ a.take i = b.take i) (fun i => a.length - i) 0 ?_ ?_ ?_
    · subst hA; simp [Wk_iff, fr, undefs, wkT, wkV, wkH, okid, Row.nlen, Row.rk, RK.rowk, w64_eq, getO, alg]
    · simp
    · rintro i ⟨h1, h2⟩
      cbv
      subst hA hr hfr
      simp only [alg, obP_iff, condP_iff, retP_iff, retM_iff, ofNat_cast, nc, Int.toNat_natCast, decide_eq_true_eq, decide_eq_false_iff_not, IntKind.wrap_i64, Bool.not_eq_true', Bool.not_eq_false', beq_iff_eq, beq_eq_false_iff_ne, AV.bool.injEq, AV.int.injEq, AV.t2.injEq, AV.t3.injEq, AV.own.injEq, List.cons.injEq, Prod.mk.injEq, Row.ints.injEq, RW, Row.nlen, scalar, imp_self, and_true, true_and]
      refine ⟨fun hc => ⟨⟨by kernel_rfl⟩, by omega, by omega, fun hn => ?_, fun hn => ⟨i + 1, ?_, ⟨by omega, ?_⟩, by omega⟩⟩, fun hc => ?_⟩
      · have : a ≠ b := by intro e; subst e; simp at hn
        simp [eqL, this]
      · simp [Wk_iff, fr, undefs, wkT, wkV, wkH, okid, Row.nlen, Row.rk, RK.rowk, w64_eq, getO]; omega
      · rw [take_getD 0 _ _ (by omega), take_getD 0 _ _ (by omega), h2, hn]
      · have : a = b := take_all hl (by omega) h2
        simp [eqL, this]
theorem markIntS_ok (a : List Int) (k : Int) (ha : a.length ≤ 1048576) (hk : 0 ≤ k ∧ k ≤ 4611686018427387904) : FCM Try.prog 18 [.ro (.ints .i64 a), .int .i64 k] 0 (.int .i64 (k + a.length)) (.ints .i64 (upFrom a.length k)) := by
  refine fcm_eval () (fun _ => []) (tab_nil _) hT hm 0 Try.func18 rfl (by kernel_rfl) rfl rfl rfl rfl ?_ rfl ?_
  · simp [nl, Row.nlen, alg, upFrom_len]
  intro A S r0 row0 E hA hS hr hfr
  cbv
  refine loop3 (fun (i : Nat) (q : Int) (out : List Int) => ⟨fr 19 [(0, .own 0 true), (1, .int .i64 q), (5, .int .i64 i)], [.row E (.ints .i64 out)]⟩)
    (fun i q out => i ≤ a.length ∧ q = k + i ∧ out.length = a.length ∧ out.take i = (upFrom a.length k).take i) (fun i _ _ => a.length - i) 0 k a ?_ ?_ ?_
  · subst hA; simp [Wk_iff, fr, undefs, wkT, wkV, wkH, okid, Row.nlen, Row.rk, RK.rowk, w64_eq, getO, alg]
  · simp
  · rintro i q out ⟨h1, hq, h2, h3⟩
    cbv
    try simp only [nc] at *
    subst hA hr hfr
    simp only [alg, obP_iff, condP_iff, retP_iff, retM_iff, ofNat_cast, nc, Int.toNat_natCast, decide_eq_true_eq, decide_eq_false_iff_not, IntKind.wrap_i64, Bool.not_eq_true', Bool.not_eq_false', beq_iff_eq, beq_eq_false_iff_ne, AV.bool.injEq, AV.int.injEq, AV.t2.injEq, AV.t3.injEq, AV.own.injEq, List.cons.injEq, Prod.mk.injEq, Row.ints.injEq, RW, Row.nlen, scalar, imp_self, and_true, true_and]
    refine ⟨fun hc => ⟨by omega, i + 1, q + 1, out.set i q, ?_, ⟨by omega, by omega, by simp [h2], ?_⟩, by omega⟩, fun hc => ?_⟩
    · simp [Wk_iff, fr, undefs, wkT, wkV, wkH, okid, Row.nlen, Row.rk, RK.rowk, w64_eq, getO]; omega
    · have := set_step 0 (upFrom a.length k) out i (by rw [upFrom_len]; omega) (by rw [upFrom_len]; omega) h3
      rw [upFrom_get _ _ _ (by omega), ← hq] at this
      exact this
    · rw [take_all (by rw [upFrom_len]; omega) (by rw [upFrom_len]; omega) h3]
      have : i = a.length := by omega
      subst this
      exact ⟨hq, rfl⟩
theorem heldIntS_ok (a : List Int) (k : Int) (ha : a.length ≤ 1048576) (hk : 0 ≤ k ∧ k ≤ 4611686018427387904) : FC Try.prog 26 [.ro (.ints .i64 a), .int .i64 k] (.int .i64 (heldL a k)) [] := by
  refine fc_eval () (fun _ => []) (tab_nil _) hT hm Try.func26 rfl (by kernel_rfl) rfl rfl ?_
  intro A S r0 fr0 hA hS hr hfr
  cbv
  refine loop2 (fun (i : Nat) (q : Int) => ⟨fr 21 [(0, .ro (.ints .i64 a)), (1, .int .i64 q), (5, .int .i64 i)], [.dead]⟩)
    (fun i q => i ≤ a.length ∧ q = k + i ∧ heldL a k = heldL (a.drop i) q) (fun i _ => a.length - i) 0 k ?_ ?_ ?_
  · subst hA; simp [Wk_iff, fr, undefs, wkT, wkV, wkH, okid, Row.nlen, Row.rk, RK.rowk, w64_eq, getO, alg]
  · simp
  · rintro i q ⟨h1, hq, h2⟩
    cbv
    try simp only [nc] at *
    subst hA hr hfr
    simp only [alg, obP_iff, condP_iff, retP_iff, retM_iff, ofNat_cast, nc, Int.toNat_natCast, decide_eq_true_eq, decide_eq_false_iff_not, IntKind.wrap_i64, Bool.not_eq_true', Bool.not_eq_false', beq_iff_eq, beq_eq_false_iff_ne, AV.bool.injEq, AV.int.injEq, AV.t2.injEq, AV.t3.injEq, AV.own.injEq, List.cons.injEq, Prod.mk.injEq, Row.ints.injEq, RW, Row.nlen, scalar, imp_self, and_true, true_and]
    refine ⟨fun hc => ⟨by omega, fun hn => ?_, fun hn => ⟨i + 1, q + 1, ?_, ⟨by omega, by omega, ?_⟩, by omega⟩⟩, fun hc => ?_⟩
    · rw [h2, heldL_drop _ _ _ (by omega), if_neg hn]
    · simp [Wk_iff, fr, undefs, wkT, wkV, wkH, okid, Row.nlen, Row.rk, RK.rowk, w64_eq, getO]; omega
    · rw [h2, heldL_drop _ _ _ (by omega), if_pos hn]
    · rw [h2, List.drop_of_length_le (by omega)]; rfl
theorem within_ok (n lo hi : Int) : FC Try.prog 24 [.int .i64 n, .int .i64 lo, .int .i64 hi] (.bool (inR n lo hi)) [] := by
  refine fc_eval () (fun _ => []) (tab_nil _) hT hm Try.func24 rfl (by kernel_rfl) rfl rfl ?_
  intro A S r0 fr0 hA hS hr hfr
  cbv
  subst hA hr hfr
  simp only [alg, obP_iff, condP_iff, retP_iff, retM_iff, ofNat_cast, nc, Int.toNat_natCast, decide_eq_true_eq, decide_eq_false_iff_not, IntKind.wrap_i64, Bool.not_eq_true', Bool.not_eq_false', beq_iff_eq, beq_eq_false_iff_ne, AV.bool.injEq, AV.int.injEq, AV.t2.injEq, AV.t3.injEq, AV.own.injEq, List.cons.injEq, Prod.mk.injEq, Row.ints.injEq, RW, Row.nlen, scalar, imp_self, and_true, true_and, inR]
  try simp
theorem l1In_ok (n lo hi : Int) : FC Try.prog 21 [.int .i64 n, .int .i64 lo, .int .i64 hi] (.bool (inR n lo hi)) [] := by
  refine fc_eval () (fun _ => []) (tab_nil _) hT hm Try.func21 rfl (by kernel_rfl) rfl rfl ?_
  intro A S r0 fr0 hA hS hr hfr
  cbv
  subst hA hr hfr
  simp only [alg, obP_iff, condP_iff, retP_iff, retM_iff, ofNat_cast, nc, Int.toNat_natCast, decide_eq_true_eq, decide_eq_false_iff_not, IntKind.wrap_i64, Bool.not_eq_true', Bool.not_eq_false', beq_iff_eq, beq_eq_false_iff_ne, AV.bool.injEq, AV.int.injEq, AV.t2.injEq, AV.t3.injEq, AV.own.injEq, List.cons.injEq, Prod.mk.injEq, Row.ints.injEq, RW, Row.nlen, scalar, imp_self, and_true, true_and, inR]
  try simp
def B1 (S : Sb) : List (Nat × (List AV → CR)) :=
  (24, fun args => match args with | [.int .i64 n, .int .i64 lo, .int .i64 hi] => .pure (True) (.bool (S.inR n lo hi)) [] | _ => .no) ::
  (21, fun args => match args with | [.int .i64 n, .int .i64 lo, .int .i64 hi] => .pure (True) (.bool (S.inR n lo hi)) [] | _ => .no) ::
  []
set_option maxRecDepth 100000 in
theorem B1_ok : TabOK Try.prog (tfind (B1 sb)) := by
  refine tab_cons (fun args => ?_) (tab_cons (fun args => ?_) (tab_nil _))
  · split
    · exact ent_pure fun _ => within_ok _ _ _
    · exact ent_no
  · split
    · exact ent_pure fun _ => l1In_ok _ _ _
    · exact ent_no
theorem l1All_ok (l : List Int) (lo hi : Int) (hl : l.length ≤ 1099511627776) : FC Try.prog 27 [.ro (.ints .i64 l), .int .i64 lo, .int .i64 hi] (.bool (allR l lo hi)) [] := by
  refine fc_eval sb B1 B1_ok hT hm Try.func27 rfl (by kernel_rfl) rfl rfl ?_
  intro A S r0 fr0 hA hS hr hfr
  cbv
  obtain ⟨L, hL⟩ : ∃ L : Int, L = l.length := ⟨_, rfl⟩
  refine loop1 (fun (i : Nat) => ⟨fr 21 [(0, .ro (.ints .i64 l)), (1, .int .i64 lo), (2, .int .i64 hi), (9, .ro (.ints .i64 l)), (10, .int .i64 L), (11, .int .i64 i)], [.dead]⟩)
    (fun i => i ≤ l.length ∧ allR l lo hi = allR (l.drop i) lo hi) (fun i => l.length - i) 0 ?_ ?_ ?_
  · subst hA; simp [Wk_iff, fr, undefs, wkT, wkV, wkH, okid, Row.nlen, Row.rk, RK.rowk, w64_eq, getO, alg, hL]
  · simp
  · rintro i ⟨h1, h2⟩
    cbv
    try simp only [nc] at *
    subst hA hS hr hfr
    simp only [alg, obP_iff, condP_iff, retP_iff, retM_iff, ofNat_cast, nc, Int.toNat_natCast, decide_eq_true_eq, decide_eq_false_iff_not, IntKind.wrap_i64, Bool.not_eq_true', Bool.not_eq_false', beq_iff_eq, beq_eq_false_iff_ne, AV.bool.injEq, AV.int.injEq, AV.t2.injEq, AV.t3.injEq, AV.own.injEq, List.cons.injEq, Prod.mk.injEq, Row.ints.injEq, RW, Row.nlen, scalar, imp_self, and_true, true_and, sb]
    refine ⟨fun hc => ⟨by omega, fun hn => ?_, fun hn => ⟨i + 1, ?_, ⟨by omega, ?_⟩, by omega⟩⟩, fun hc => ?_⟩
    · rw [h2, allR_drop _ _ _ _ (by omega), hn]; rfl
    · simp [Wk_iff, fr, undefs, wkT, wkV, wkH, okid, Row.nlen, Row.rk, RK.rowk, w64_eq, getO]; try omega
    · rw [h2, allR_drop _ _ _ _ (by omega), hn]; rfl
    · rw [h2, allR_end _ _ _ _ (by omega)]
def B2 (S : Sb) : List (Nat × (List AV → CR)) :=
  (27, fun args => match args with | [.ro (.ints .i64 l), .int .i64 lo, .int .i64 hi] => .pure (S.sm l) (.bool (S.allR l lo hi)) [] | _ => .no) ::
  (15, fun args => match args with | [.ro (.ints .i64 l)] => .pure (S.sm l) (.own 0 false) [(3, .ints .i64 l)] | _ => .no) ::
  (17, fun args => match args with | [.ro (.ints .i64 a), .ro (.ints .i64 b)] => .pure (S.sm a) (.bool (S.eqL a b)) [] | _ => .no) ::
  (18, fun args => match args with | [.ro (.ints .i64 a), .int .i64 k] => .mut 0 (S.sm a ∧ S.kr k) (.int .i64 (S.upK a k)) (.ints .i64 (S.up a k)) | _ => .no) ::
  (26, fun args => match args with | [.ro (.ints .i64 a), .int .i64 k] => .pure (S.sm a ∧ S.kr k) (.int .i64 (S.held a k)) [] | _ => .no) ::
  B1 S
set_option maxRecDepth 100000 in
theorem B2_ok : TabOK Try.prog (tfind (B2 sb)) := by
  refine tab_cons (fun args => ?_) (tab_cons (fun args => ?_) (tab_cons (fun args => ?_) (tab_cons (fun args => ?_) (tab_cons (fun args => ?_) (B1_ok)))))
  · split
    · exact ent_pure fun h => l1All_ok _ _ _ (Nat.le_trans h (by decide))
    · exact ent_no
  · split
    · exact ent_pure fun h => toIntS_ok _ h
    · exact ent_no
  · split
    · exact ent_pure fun h => eqIntS_ok _ _ h
    · exact ent_no
  · split
    · exact ent_mut fun h => markIntS_ok _ _ h.1 h.2
    · exact ent_no
  · split
    · exact ent_pure fun h => heldIntS_ok _ _ h.1 h.2
    · exact ent_no
end Go.Proofs.Ythnbajdkimgigaa
