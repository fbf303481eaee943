/-
  Stocks: the laws on what a stock is, its length, its pieces, its rest.
-/
import Derived.Test.YthnbajdkimgigaaR1
set_option linter.unusedSimpArgs false
set_option linter.unusedVariables false
namespace Go.Proofs.Ythnbajdkimgigaa
open Go.Ab

def R3 (S : Sp) : List (Nat × (List AV → CR)) :=
  (31, fun args => match args with | [.ro (.recs 2 l), .ro (.ints .i64 c)] => .pure (S.cl l c) (.own 0 true) [(44, .recs 2 (S.rsL l c))] | _ => .no) ::
  (34, fun args => match args with | [.ro (.recs 2 l), .ro (.ints .i64 c)] => .pure (S.cl l c) (.own 0 true) [(44, .recs 2 (S.rsL l c))] | _ => .no) ::
  (5, fun args => match args with | [.ro (.recs 2 l), .int .i64 k] => .pure (True) (.int .i64 (S.szV k l)) [] | _ => .no) ::
  (7, fun args => match args with | [.ro (.recs 2 l)] => .pure (S.rl l) (.own 0 false) [(44, .recs 2 l)] | _ => .no) ::
  (10, fun args => match args with | [.ro (.recs 2 a), .ro (.recs 2 b)] => .pure (S.rl a ∧ S.rl b) (.bool (S.eqRL a b)) [] | _ => .no) ::
  (11, fun args => match args with | [.ro (.recs 2 a), .int .i64 k] => .mut 0 (S.rl a ∧ S.kr k) (.int .i64 (S.upRK a k)) (.recs 2 (S.upR a k)) | _ => .no) ::
  R2 S
set_option maxRecDepth 100000 in
theorem R3_ok : TabOK Try.prog (tfind (R3 sp)) := by
  refine tab_cons (fun args => ?_) (tab_cons (fun args => ?_) (tab_cons (fun args => ?_) (tab_cons (fun args => ?_) (tab_cons (fun args => ?_) (tab_cons (fun args => ?_) (R2_ok))))))
  · split
    · exact ent_pure fun h => implRest_ok _ _ h.2 h.1
    · exact ent_no
  · split
    · exact ent_pure fun h => specRest_ok _ _ h.2 h.1
    · exact ent_no
  · split
    · exact ent_pure fun _ => szS_ok _ _
    · exact ent_no
  · split
    · exact ent_pure fun h => toSS_ok _ h.1 h.2
    · exact ent_no
  · split
    · exact ent_pure fun h => eqSS_ok _ _ h.1.1 h.2.1 h.1.2
    · exact ent_no
  · split
    · exact ent_mut fun h => markS_ok _ _ h.1.1 h.1.2 h.2
    · exact ent_no
def R4 (S : Sp) : List (Nat × (List AV → CR)) :=
  R3 S
set_option maxRecDepth 100000 in
theorem R4_ok : TabOK Try.prog (tfind (R4 sp)) := by
  refine R3_ok
theorem rsR_len (l : List (List Int)) (c : List Int) : (rsR l c).length ≤ 8 := by
  unfold rsR; split
  · rename_i h; have := cB_len h; simp [rsL]; omega
  · simp
theorem rsR_rec {l : List (List Int)} (c : List Int) (h : rec2 l) : rec2 (rsR l c) := by
  unfold rsR; split
  · rename_i hc
    have hb := cB_len hc
    intro y hy
    simp only [rsL, List.mem_append, List.mem_map, List.mem_range] at hy
    rcases hy with ⟨i, hi, rfl⟩ | hy
    · obtain ⟨a, b, e⟩ := rec2_get h (i := i) (by omega)
      rw [rsX, e]; rfl
    · exact h y (List.mem_of_mem_drop hy)
  · intro y hy; simp at hy
end Go.Proofs.Ythnbajdkimgigaa
