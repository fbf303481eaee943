/-
  The number's decimal text: the specification's own, by recursion; the library's, by its contract.
-/
import Derived.Test.YtmhbpaijlbmmlaaDoorB0
import Derived.Test.YtmhbpaijlbmmlaaDoorSh
import Derived.Lib.AppendIntMem
import Derived.Lib.LaidTab
import Derived.Lib.ItoaLen
set_option linter.unusedSimpArgs false
set_option linter.unusedVariables false
namespace Go.Proofs.YtmhbpaijlbmmlaaDoor
open Go.Ab Go.RowKit

def decS (n : Int) : List UInt8 := Lib.itoa n
theorem decS_small {n : Int} (h0 : 0 ≤ n) (h : n < 10) : decS n = [UInt8.ofNat (48 + n).toNat] := by
  rw [decS, Lib.itoa, if_neg (by omega), Lib.decDigits_one (by omega)]
  congr 2
  omega
theorem decS_big {n : Int} (h0 : 10 ≤ n) : decS n = decS (n / 10) ++ [UInt8.ofNat (48 + n % 10).toNat] := by
  rw [decS, decS, Lib.itoa, Lib.itoa, if_neg (by omega), if_neg (by omega), Lib.decDigits, dif_neg (by omega)]
  have e1 : n.toNat / 10 = (n / 10).toNat := by omega
  have e2 : 48 + n.toNat % 10 = (48 + n % 10).toNat := by omega
  rw [e1, e2]

structure Sn where
  pre : Int → Prop
  dec : Int → List UInt8
def sn (k : Nat) : Sn := ⟨fun m => 0 ≤ m ∧ m < k ∧ m ≤ 9223372036854775807, decS⟩
def TN (S : Sn) : List (Nat × (List AV → CR)) :=
  [(33, fun args => match args with | [.int .i64 m] => .pure (S.pre m) (.str (S.dec m)) [] | _ => .no)]
set_option maxRecDepth 100000 in
theorem l1Num_lt : ∀ (k : Nat) (n : Int), 0 ≤ n → n < k → n ≤ 9223372036854775807 → FC Tryd.prog 33 [.int .i64 n] (.str (decS n)) []
  | 0, n, h0, hk, _ => by omega
  | k + 1, n, h0, hk, h1 => by
    have hN : TabOK Tryd.prog (tfind (TN (sn k))) := by
      refine tab_cons (fun args => ?_) (tab_nil _)
      split
      · exact ent_pure fun h => l1Num_lt k _ h.1 h.2.1 h.2.2
      · exact ent_no
    refine fc_eval (sn k) TN hN hT hm Tryd.func33 rfl (by kernel_rfl) rfl rfl ?_
    intro A S r0 fr0 hA hS hr hfr
    cbv
    (try simp only [nc] at *); subst hA hS hr hfr; simp (disch := (refine KR.mk ?_; kernel_rfl)) only [alg, obP_iff, condP_iff, retP_iff, retM_iff, ofNat_cast, nc, Int.toNat_natCast, decide_eq_true_eq, decide_eq_false_iff_not, wrap_w64, retS_iff, Bool.not_eq_true', Bool.not_eq_false', beq_iff_eq, beq_eq_false_iff_ne, AV.bool.injEq, AV.int.injEq, AV.t2.injEq, AV.t3.injEq, AV.own.injEq, List.cons.injEq, Prod.mk.injEq, Row.ints.injEq, RW, Row.nlen, scalar, imp_self, and_true, true_and, lexT, heldT, tailT, planT, nb, Int.toNat_zero, List.getD_cons_zero, List.getD_cons_succ, List.set_cons_zero, List.set_cons_succ, sn]
    have u8 : ∀ d : Int, 0 ≤ d → d < 10 → IntKind.u8.wrap (w64 (48 + d)) = 48 + d := by
      intro d h2 h3
      rw [w64_id (by omega), IntKind.wrap_u8]
      omega
    refine ⟨fun h => ?_, fun h => ⟨by omega, by omega, ?_⟩⟩
    · rw [u8 _ h0 h, decS_small h0 h]; rfl
    · have hq : w64 (n.tdiv 10) = n / 10 := by rw [Int.tdiv_eq_ediv_of_nonneg h0, w64_id (by omega)]
      have hr : IntKind.u8.wrap (w64 (48 + n.tmod 10)) = 48 + n % 10 := by rw [Int.tmod_eq_emod_of_nonneg h0]; exact u8 _ (by omega) (by omega)
      have hd : decS (n / 10) ++ [UInt8.ofNat (48 + n % 10).toNat] = decS n := (decS_big (by omega)).symm
      have hl : (decS (n / 10)).length ≤ 21 := Lib.itoa_length_le _ (by omega) (by omega)
      simp only [hq, hr, List.map_cons, List.map_nil, List.length_cons, List.length_nil, hd]
      have p1 : (0 ≤ n / 10 ∧ n / 10 < (k : Int) ∧ n / 10 ≤ 9223372036854775807) := by omega
      have p2 : w64 (((decS (n / 10)).length : Int) + ((0 + 1 : Nat) : Int)) = (decS (n / 10)).length + 1 := by rw [w64_id (by omega)]; omega
      have p3 : (0 ≤ ((decS (n / 10)).length : Int) + 1 ∧ ((decS (n / 10)).length : Int) + 1 ≤ 1099511627776) := by omega
      have p4 : (0 ≤ ((decS (n / 10)).length : Int) ∧ ((decS (n / 10)).length : Int) ≤ 1099511627776) := by omega
      simp only [p1, p2, p3, p4, true_and, and_true]
      simp
theorem l1Num_ok (n : Int) (h0 : 0 ≤ n) (h1 : n ≤ 9223372036854775807) : FC Tryd.prog 33 [.int .i64 n] (.str (decS n)) [] := l1Num_lt (n.toNat + 1) n h0 (by omega) h1

/-- The world holds the library's table. -/
def gW (w : World) : Prop := Lib.TabIs Tryd.prog w "internal/strconv.uint64pow10" .u64 Lib.pow10Tab
theorem gW_st : ∀ w w', gW w → Below w.heap.size w w' → gW w' := fun w w' h hb => Lib.tabBelow_of_tabIs h w' hb
theorem itoa_ok (n : Int) (h0 : -9223372036854775808 ≤ n) (h1 : n ≤ 9223372036854775807) : FCG gW Tryd.prog 30 [.int .i64 n] (.str (decS n)) [] := by
  have hbd : ¬ Tryd.f30.body = none := by
    intro h
    have h2 : Tryd.f30.body.isNone = false := by kernel_rfl
    rw [h] at h2
    cases h2
  refine ⟨⟨Tryd.f30, Tryd.func30, (by decide +kernel), hbd⟩, fun w vals hw hv => ?_⟩
  match vals, hv with
  | [v], hv =>
    obtain ⟨hv, _⟩ := hv
    obtain rfl : v = .int .i64 n := hv
    refine (Tryd.strconv_Itoa n h0 h1 w hw).mono ?_
    rintro e w' ⟨rfl, k, os, rfl⟩
    refine ⟨_, [], rfl, Lib.below_grow _ _ (Nat.le_refl _) k os, ⟨rfl, ?_, ?_, rfl⟩⟩
    · intro o loc E row h; cases h.1
    · intro o o' loc loc' E E' r r' h; cases h.1
end Go.Proofs.YtmhbpaijlbmmlaaDoor
