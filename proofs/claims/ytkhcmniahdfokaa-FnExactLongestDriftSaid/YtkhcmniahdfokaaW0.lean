/-
  The functions of the laws' own file: copy, compare, mark, hold.
-/
import Derived.Test.YtkhcmniahdfokaaAb18
import Derived.Test.YtkhcmniahdfokaaProg
set_option linter.unusedSimpArgs false
set_option linter.unusedVariables false
namespace Go.Proofs.Ytkhcmniahdfokaa
open Go.Ab

def ty : List (Nat × TI) := [(3, ⟨some (.i .i64), none⟩), (4, ⟨some .b, none⟩), (22, ⟨some .sli, some (3, .i .i64)⟩)]
theorem hT : TTok Try.prog (Go.Ab.look ty) := tt_sound (by kernel_rfl)
theorem hm : Try.prog.follows .mixedOrders = true := by kernel_rfl

theorem set_step {α : Type} (d : α) (l out : List α) (i : Nat) (hl : out.length = l.length) (hi : i < l.length) (ho : out.take i = l.take i) :
    (out.set i (l.getD i d)).take (i + 1) = l.take (i + 1) := by
  apply List.ext_getElem?
  intro j
  have h0 := congrArg (·[j]?) ho
  simp only [List.getElem?_take] at *
  rw [List.getElem?_set]
  by_cases h1 : j < i + 1
  · simp only [h1, if_true]
    by_cases h2 : i = j
    · subst h2; simp [hl, hi, List.getD_eq_getElem?_getD]
    · have : j < i := by omega
      simp only [this, if_true] at h0
      simp [h2, h0]
  · simp [h1]
theorem take_all {α : Type} {l out : List α} {i : Nat} (hl : out.length = l.length) (hi : l.length ≤ i) (ho : out.take i = l.take i) : out = l := by
  rw [List.take_of_length_le (by omega), List.take_of_length_le hi] at ho; exact ho
theorem take_getD {α : Type} (d : α) (l : List α) (i : Nat) (hi : i < l.length) : l.take (i + 1) = l.take i ++ [l.getD i d] := by
  rw [List.take_add_one, List.getD_eq_getElem?_getD, List.getElem?_eq_getElem hi]; rfl

theorem toIntS_ok (l : List Int) (hl : l.length ≤ 1048576) : FC Try.prog 14 [.ro (.ints .i64 l)] (.own 0 false) [(3, .ints .i64 l)] := by
  refine fc_eval () (fun _ => []) (tab_nil _) hT hm Try.func14 rfl (by kernel_rfl) rfl rfl ?_
  intro A S r0 fr0 hA hS hr hfr
  cbv
  refine ⟨by subst hA; simp only [alg]; omega, ⟨by subst hA; simp [alg], ?_⟩⟩
  refine loop2 (fun (i : Nat) (out : List Int) => ⟨fr 22 [(0, .ro (.ints .i64 l)), (3, .own 1 false), (4, .int .i64 i)], [.dead, .row 3 (.ints .i64 out)]⟩)
    (fun i out => i ≤ l.length ∧ out.length = l.length ∧ out.take i = l.take i) (fun i _ => l.length - i) 0 (List.replicate l.length 0) ?_ ?_ ?_
  · subst hA; simp [Wk_iff, fr, undefs, wkT, wkV, wkH, okid, Row.nlen, alg]
  · simp
  · rintro i out ⟨h1, h2, h3⟩
    cbv
    try simp only [nc] at *
    subst hA hr hfr
    simp only [alg, obP_iff, condP_iff, retP_iff, retM_iff, ofNat_cast, nc, Int.toNat_natCast, decide_eq_true_eq, decide_eq_false_iff_not, IntKind.wrap_i64, Bool.not_eq_true', Bool.not_eq_false', beq_iff_eq, beq_eq_false_iff_ne, AV.bool.injEq, AV.int.injEq, AV.t2.injEq, AV.t3.injEq, AV.own.injEq, List.cons.injEq, Prod.mk.injEq, Row.ints.injEq, RW, Row.nlen, scalar, and_true, true_and]
    refine ⟨fun hc => ⟨by omega, by omega, i + 1, out.set i (l.getD i 0), ?_, ⟨by omega, by simp [h2], set_step _ _ _ _ h2 (by omega) h3⟩, by omega⟩, fun hc => ?_⟩
    · simp [Wk_iff, fr, undefs, wkT, wkV, wkH, okid, Row.nlen]; try omega
    · rw [take_all h2 (by omega) h3]

def eqL (a b : List Int) : Bool := decide (a = b)

theorem eqIntS_ok (a b : List Int) (ha : a.length ≤ 1048576) : FC Try.prog 16 [.ro (.ints .i64 a), .ro (.ints .i64 b)] (.bool (eqL a b)) [] := by
  refine fc_eval () (fun _ => []) (tab_nil _) hT hm Try.func16 rfl (by kernel_rfl) rfl rfl ?_
  intro A S r0 fr0 hA hS hr hfr
  cbv
  constructor
  · intro hc
    subst hA hr hfr
    have : a ≠ b := by intro e; subst e; simp [alg] at hc
    simp [alg, obP_iff, condP_iff, retP_iff, retM_iff, ofNat_cast, nc, Int.toNat_natCast, decide_eq_true_eq, decide_eq_false_iff_not, IntKind.wrap_i64, Bool.not_eq_true', Bool.not_eq_false', beq_iff_eq, beq_eq_false_iff_ne, AV.bool.injEq, AV.int.injEq, AV.t2.injEq, AV.t3.injEq, AV.own.injEq, List.cons.injEq, Prod.mk.injEq, Row.ints.injEq, RW, Row.nlen, scalar, and_true, true_and, eqL, this]
  · intro hc
    have hl : a.length = b.length := by subst hA; simp [alg] at hc; omega
    refine loop1 (fun (i : Nat) => ⟨fr 26 [(0, .ro (.ints .i64 a)), (1, .ro (.ints .i64 b)), (5, .int .i64 i)], [.dead]⟩)
      (fun i => i ≤ a.length ∧ a.take i = b.take i) (fun i => a.length - i) 0 ?_ ?_ ?_
    · subst hA; simp [Wk_iff, fr, undefs, wkT, wkV, wkH, okid, Row.nlen, alg]
    · simp
    · rintro i ⟨h1, h2⟩
      cbv
      subst hA hr hfr
      simp only [alg, obP_iff, condP_iff, retP_iff, retM_iff, ofNat_cast, nc, Int.toNat_natCast, decide_eq_true_eq, decide_eq_false_iff_not, IntKind.wrap_i64, Bool.not_eq_true', Bool.not_eq_false', beq_iff_eq, beq_eq_false_iff_ne, AV.bool.injEq, AV.int.injEq, AV.t2.injEq, AV.t3.injEq, AV.own.injEq, List.cons.injEq, Prod.mk.injEq, Row.ints.injEq, RW, Row.nlen, scalar, and_true, true_and]
      refine ⟨fun hc => ⟨⟨by kernel_rfl⟩, by omega, by omega, fun hn => ?_, fun hn => ⟨i + 1, ?_, ⟨by omega, ?_⟩, by omega⟩⟩, fun hc => ?_⟩
      · have : a ≠ b := by intro e; subst e; simp at hn
        simp [eqL, this]
      · simp [Wk_iff, fr, undefs, wkT, wkV, wkH, okid, Row.nlen]; omega
      · rw [take_getD 0 _ _ (by omega), take_getD 0 _ _ (by omega), h2, hn]
      · have : a = b := take_all hl (by omega) h2
        simp [eqL, this]

/-- k, k+1, .. -/
def upFrom : Nat → Int → List Int
  | 0, _ => []
  | n + 1, k => k :: upFrom n (k + 1)
theorem upFrom_len : ∀ (n : Nat) (k : Int), (upFrom n k).length = n
  | 0, _ => rfl
  | n + 1, k => by simp [upFrom, upFrom_len n]
theorem upFrom_get : ∀ (n : Nat) (k : Int) (i : Nat), i < n → (upFrom n k).getD i 0 = k + i
  | 0, _, _, h => by omega
  | n + 1, k, 0, h => by simp [upFrom]
  | n + 1, k, i + 1, h => by
    have := upFrom_get n (k + 1) i (by omega)
    simp [upFrom] at this ⊢
    omega

theorem markIntS_ok (a : List Int) (k : Int) (ha : a.length ≤ 1048576) (hk : 0 ≤ k ∧ k ≤ 4611686018427387904) : FCM Try.prog 19 [.ro (.ints .i64 a), .int .i64 k] 0 (.int .i64 (k + a.length)) (.ints .i64 (upFrom a.length k)) := by
  refine fcm_eval () (fun _ => []) (tab_nil _) hT hm 0 Try.func19 rfl (by kernel_rfl) rfl rfl rfl rfl ?_ rfl ?_
  · simp [nl, Row.nlen, alg, upFrom_len]
  intro A S r0 row0 E hA hS hr hfr
  cbv
  refine loop3 (fun (i : Nat) (q : Int) (out : List Int) => ⟨fr 19 [(0, .own 0 true), (1, .int .i64 q), (5, .int .i64 i)], [.row E (.ints .i64 out)]⟩)
    (fun i q out => i ≤ a.length ∧ q = k + i ∧ out.length = a.length ∧ out.take i = (upFrom a.length k).take i) (fun i _ _ => a.length - i) 0 k a ?_ ?_ ?_
  · subst hA; simp [Wk_iff, fr, undefs, wkT, wkV, wkH, okid, Row.nlen, alg]
  · simp
  · rintro i q out ⟨h1, hq, h2, h3⟩
    cbv
    try simp only [nc] at *
    subst hA hr hfr
    simp only [alg, obP_iff, condP_iff, retP_iff, retM_iff, ofNat_cast, nc, Int.toNat_natCast, decide_eq_true_eq, decide_eq_false_iff_not, IntKind.wrap_i64, Bool.not_eq_true', Bool.not_eq_false', beq_iff_eq, beq_eq_false_iff_ne, AV.bool.injEq, AV.int.injEq, AV.t2.injEq, AV.t3.injEq, AV.own.injEq, List.cons.injEq, Prod.mk.injEq, Row.ints.injEq, RW, Row.nlen, scalar, and_true, true_and]
    refine ⟨fun hc => ⟨by omega, i + 1, q + 1, out.set i q, ?_, ⟨by omega, by omega, by simp [h2], ?_⟩, by omega⟩, fun hc => ?_⟩
    · simp [Wk_iff, fr, undefs, wkT, wkV, wkH, okid, Row.nlen]; omega
    · have := set_step 0 (upFrom a.length k) out i (by rw [upFrom_len]; omega) (by rw [upFrom_len]; omega) h3
      rw [upFrom_get _ _ _ (by omega), ← hq] at this
      exact this
    · rw [take_all (by rw [upFrom_len]; omega) (by rw [upFrom_len]; omega) h3]
      have : i = a.length := by omega
      subst this
      exact ⟨hq, rfl⟩

/-- What 'heldIntS' answers. -/
def heldL : List Int → Int → Int
  | [], k => k
  | x :: r, k => if x = k then heldL r (k + 1) else -1

theorem heldL_drop (a : List Int) (k : Int) (i : Nat) (h : i < a.length) : heldL (a.drop i) k = if a.getD i 0 = k then heldL (a.drop (i + 1)) (k + 1) else -1 := by
  rw [List.drop_eq_getElem_cons h, List.getD_eq_getElem?_getD, List.getElem?_eq_getElem h]; rfl
theorem heldL_up : ∀ (n : Nat) (k : Int), heldL (upFrom n k) k = k + n
  | 0, k => by simp [heldL, upFrom]
  | n + 1, k => by simp only [heldL, upFrom, if_pos, heldL_up n]; omega

theorem heldIntS_ok (a : List Int) (k : Int) (ha : a.length ≤ 1048576) (hk : 0 ≤ k ∧ k ≤ 4611686018427387904) : FC Try.prog 20 [.ro (.ints .i64 a), .int .i64 k] (.int .i64 (heldL a k)) [] := by
  refine fc_eval () (fun _ => []) (tab_nil _) hT hm Try.func20 rfl (by kernel_rfl) rfl rfl ?_
  intro A S r0 fr0 hA hS hr hfr
  cbv
  refine loop2 (fun (i : Nat) (q : Int) => ⟨fr 21 [(0, .ro (.ints .i64 a)), (1, .int .i64 q), (5, .int .i64 i)], [.dead]⟩)
    (fun i q => i ≤ a.length ∧ q = k + i ∧ heldL a k = heldL (a.drop i) q) (fun i _ => a.length - i) 0 k ?_ ?_ ?_
  · subst hA; simp [Wk_iff, fr, undefs, wkT, wkV, wkH, okid, Row.nlen, alg]
  · simp
  · rintro i q ⟨h1, hq, h2⟩
    cbv
    try simp only [nc] at *
    subst hA hr hfr
    simp only [alg, obP_iff, condP_iff, retP_iff, retM_iff, ofNat_cast, nc, Int.toNat_natCast, decide_eq_true_eq, decide_eq_false_iff_not, IntKind.wrap_i64, Bool.not_eq_true', Bool.not_eq_false', beq_iff_eq, beq_eq_false_iff_ne, AV.bool.injEq, AV.int.injEq, AV.t2.injEq, AV.t3.injEq, AV.own.injEq, List.cons.injEq, Prod.mk.injEq, Row.ints.injEq, RW, Row.nlen, scalar, and_true, true_and]
    refine ⟨fun hc => ⟨by omega, fun hn => ?_, fun hn => ⟨i + 1, q + 1, ?_, ⟨by omega, by omega, ?_⟩, by omega⟩⟩, fun hc => ?_⟩
    · rw [h2, heldL_drop _ _ _ (by omega), if_neg hn]
    · simp [Wk_iff, fr, undefs, wkT, wkV, wkH, okid, Row.nlen]; omega
    · rw [h2, heldL_drop _ _ _ (by omega), if_pos hn]
    · rw [h2, List.drop_of_length_le (by omega)]; rfl
end Go.Proofs.Ytkhcmniahdfokaa
