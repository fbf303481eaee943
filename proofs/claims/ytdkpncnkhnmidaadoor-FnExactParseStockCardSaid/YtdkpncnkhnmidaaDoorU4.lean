/-
  The numbers in a text, as the library finds them; a stock's text gives the stock's. No program here.
-/
import Derived.Test.YtdkpncnkhnmidaaDoorU3
import Derived.Laws.RangeString
set_option linter.unusedSimpArgs false
set_option linter.unusedVariables false
namespace Go.Proofs.YtdkpncnkhnmidaaDoor
open Go.Ab

/-- Is a rune no digit? -/
def nd (c : Nat) : Bool := decide ((c : Int) < 48) || decide (57 < (c : Int))
/-- Runs of digits. -/
def fldA : List UInt8 → Option (List UInt8) → List (List UInt8)
  | [], none => []
  | [], some c => [c]
  | b :: r, none => if nd b.toNat then fldA r none else fldA r (some [b])
  | b :: r, some c => if nd b.toNat then c :: fldA r none else fldA r (some (c ++ [b]))
def ext (s : List UInt8) (x : Nat × Nat) : List UInt8 := (s.take x.2).drop x.1
theorem spans_eq (s : List UInt8) (ha : ∀ c ∈ s, c.toNat < 128) : ∀ (f pos : Nat) (st : Option Nat) (acc : List (Nat × Nat)), s.length ≤ f + pos → pos ≤ s.length → (∀ a, st = some a → a ≤ pos) →
    (Lib.closeSpans ⟨s.toArray⟩ (Lib.spansFromP nd ⟨s.toArray⟩ f pos st acc)).map (ext s) = acc.map (ext s) ++ fldA (s.drop pos) (st.map fun a => (s.take pos).drop a)
  | 0, pos, st, acc, h1, h2, h3 => by
    have hp : pos = s.length := by omega
    subst hp
    have hsz : (⟨s.toArray⟩ : ByteArray).size = s.length := by show s.toArray.size = _; simp
    cases st with
    | none => simp [Lib.spansFromP, Lib.closeSpans, fldA]
    | some a => simp [Lib.spansFromP, Lib.closeSpans, fldA, ext, hsz]
  | f + 1, pos, st, acc, h1, h2, h3 => by
    have hsz : (⟨s.toArray⟩ : ByteArray).size = s.length := by show s.toArray.size = _; simp
    by_cases hp : pos < s.length
    · have hps : pos < (⟨s.toArray⟩ : ByteArray).size := by rw [hsz]; exact hp
      have hbe : (⟨s.toArray⟩ : ByteArray)[pos]'hps = s.getD pos 0 := by
        simp [ByteArray.getElem_eq_getElem_data, List.getD, hp]
      have hmem : s.getD pos 0 ∈ s := by
        rw [List.getD_eq_getElem?_getD, List.getElem?_eq_getElem hp]; simp
      have hdec : Utf8.decode ⟨s.toArray⟩ pos = ((s.getD pos 0).toNat, 1) := by
        have := decode_ascii ⟨s.toArray⟩ pos hps (by rw [hbe]; exact ha _ hmem)
        rw [this, hbe]
      have hd : s.drop pos = s.getD pos 0 :: s.drop (pos + 1) := drop_getD 0 s pos hp
      have htk : s.take (pos + 1) = s.take pos ++ [s.getD pos 0] := take_getD 0 s pos hp
      have htl : (s.take pos).length = pos := by rw [List.length_take]; omega
      unfold Lib.spansFromP
      rw [if_pos hps, hdec]
      simp only
      by_cases hn : nd (s.getD pos 0).toNat = true
      · rw [if_pos hn]
        cases st with
        | none =>
          simp only
          rw [spans_eq s ha f (pos + 1) none acc (by omega) (by omega) (fun a h => by cases h), hd]
          simp only [Option.map_none, fldA, hn, if_true]
        | some a =>
          simp only
          rw [spans_eq s ha f (pos + 1) none _ (by omega) (by omega) (fun a h => by cases h), hd]
          simp only [Option.map_none, Option.map_some, fldA, hn, if_true, List.map_append, List.map_cons, List.map_nil, ext, List.append_assoc, List.cons_append, List.nil_append]
      · rw [if_neg hn]
        cases st with
        | none =>
          simp only
          rw [spans_eq s ha f (pos + 1) (some pos) acc (by omega) (by omega) (fun a h => by cases h; omega), hd]
          simp only [Option.map_none, Option.map_some, fldA, hn, htk]
          have e0 : (s.take pos).drop pos = [] := List.drop_of_length_le (by omega)
          rw [List.drop_append_of_le_length (by omega), e0]
          simp
        | some a =>
          have ha2 := h3 a rfl
          simp only
          rw [spans_eq s ha f (pos + 1) (some a) acc (by omega) (by omega) (fun b h => by cases h; omega), hd]
          simp only [Option.map_some, fldA, hn, htk]
          rw [List.drop_append_of_le_length (by omega)]
          simp
    · have hp : pos = s.length := by omega
      subst hp
      rw [Lib.spansFromP_end nd _ _ _ _ _ (by rw [hsz]; omega)]
      cases st with
      | none => simp [Lib.closeSpans, fldA]
      | some a => simp [Lib.closeSpans, fldA, ext, hsz]
/-- The fields that the library finds. -/
def flds (s : List UInt8) : List (List UInt8) := (Lib.goFieldsP nd ⟨s.toArray⟩).map (·.data.toList)
theorem flds_eq (s : List UInt8) (ha : ∀ c ∈ s, c.toNat < 128) : flds s = fldA s none := by
  have hsz : (⟨s.toArray⟩ : ByteArray).size = s.length := by show s.toArray.size = _; simp
  have h := spans_eq s ha s.length 0 none [] (by omega) (by omega) (fun a h => by cases h)
  simp only [List.map_nil, List.nil_append, List.drop_zero, Option.map_none] at h
  rw [flds, Lib.goFieldsP, List.map_map, ← h, Lib.spansOfP, hsz]
  apply List.map_congr_left
  intro x _
  simp [ext, ByteArray.data_extract, List.drop_take]
theorem fldA_run : ∀ (d : List UInt8) (c r : List UInt8), (∀ x ∈ d, digB x = true) → fldA (d ++ r) (some c) = fldA r (some (c ++ d))
  | [], c, r, _ => by simp
  | x :: d, c, r, h => by
    have hx := digB_iff.1 (h x (by simp))
    have hn : nd x.toNat = false := by simp [nd]; omega
    rw [List.cons_append, fldA, hn, if_neg (by simp), fldA_run d _ r (fun y hy => h y (by simp [hy]))]
    simp
theorem fldA_new {d r : List UInt8} (hd : d ≠ []) (h : ∀ x ∈ d, digB x = true) : fldA (d ++ r) none = fldA r (some d) := by
  cases d with
  | nil => exact absurd rfl hd
  | cons x d =>
    have hx := digB_iff.1 (h x (by simp))
    have hn : nd x.toNat = false := by simp [nd]; omega
    rw [List.cons_append, fldA, hn, if_neg (by simp), fldA_run d _ r (fun y hy => h y (by simp [hy]))]
    simp
theorem fldA_tx : ∀ (l : List (List Int)), (∀ x ∈ l, slP x) → fldA (txS l) none = l.flatMap fun x => [decS (x.getD 1 0), decS (x.getD 0 0)]
  | [], _ => rfl
  | x :: l, h => by
    obtain ⟨a, b, rfl, ha, hb⟩ := h x (by simp)
    have e : txS ([(a : Int), (b : Int)] :: l) = decS b ++ (120 :: (decS a ++ 32 :: txS l)) := by
      simp only [txS, List.flatMap_cons, slT_eq2]
      simp
    have da := okD_at ha
    have db := okD_at hb
    rw [← decS_3 (by omega)] at da db
    have n1 : nd (120 : UInt8).toNat = true := by decide
    have n2 : nd (32 : UInt8).toNat = true := by decide
    rw [e, fldA_new db.2.2.2 db.2.2.1, fldA, n1, if_pos rfl, fldA_new da.2.2.2 da.2.2.1, fldA, n2, if_pos rfl, fldA_tx l (fun y hy => h y (by simp [hy]))]
    simp
/-- How the library reads a numeral: the number, and whether it is one. -/
def atV (s : List UInt8) : Int := match Lib.atoiAll s with | .ok v => v | .range => Lib.atoiSat s | _ => 0
def atB (s : List UInt8) : Bool := match Lib.atoiAll s with | .ok _ => true | _ => false
def numL : List (List UInt8) → Option (List Int)
  | [] => some []
  | s :: r => if atB s then (numL r).map (atV s :: ·) else none
def numF (s : List UInt8) : List Int := (numL (flds s)).getD []
/-- Pairs of numbers, a pair a slip. -/
def prs : List Int → List (List Int)
  | a :: b :: r => [b, a] :: prs r
  | _ => []
theorem prs_rec : ∀ l : List Int, rec2 (prs l)
  | [] => by intro x hx; simp [prs] at hx
  | [_] => by intro x hx; simp [prs] at hx
  | a :: b :: r => by
    intro x hx
    simp only [prs, List.mem_cons] at hx
    rcases hx with rfl | hx
    · rfl
    · exact prs_rec r x hx
theorem numL_tx : ∀ (l : List (List Int)), (∀ x ∈ l, slP x) → numL (l.flatMap fun x => [decS (x.getD 1 0), decS (x.getD 0 0)]) = some (l.flatMap fun x => [x.getD 1 0, x.getD 0 0])
  | [], _ => rfl
  | x :: l, h => by
    obtain ⟨a, b, rfl, ha, hb⟩ := h x (by simp)
    have ih := numL_tx l (fun y hy => h y (by simp [hy]))
    have da := (okD_at ha).1
    have db := (okD_at hb).1
    rw [← decS_3 (by omega)] at da db
    simp only [List.flatMap_cons, List.getD_cons_zero, List.getD_cons_succ, List.cons_append, List.nil_append, numL, atB, atV, da, db, if_true, ih, Option.map_some]
theorem prs_tx : ∀ (l : List (List Int)), (∀ x ∈ l, slP x) → prs (l.flatMap fun x => [x.getD 1 0, x.getD 0 0]) = l
  | [], _ => rfl
  | x :: l, h => by
    obtain ⟨a, b, rfl, _, _⟩ := h x (by simp)
    have ih := prs_tx l (fun y hy => h y (by simp [hy]))
    simp only [List.flatMap_cons, List.getD_cons_zero, List.getD_cons_succ, List.cons_append, List.nil_append, prs, ih]
theorem tx_ascii : ∀ (l : List (List Int)), (∀ x ∈ l, slP x) → ∀ c ∈ txS l, c.toNat < 128
  | [], _, c, hc => by simp [txS] at hc
  | x :: l, h, c, hc => by
    obtain ⟨a, b, rfl, ha, hb⟩ := h x (by simp)
    have da := okD_at ha
    have db := okD_at hb
    rw [← decS_3 (by omega)] at da db
    simp only [txS, List.flatMap_cons, slT_eq2, List.mem_append, List.mem_cons] at hc
    rcases hc with ((hc | hc | hc) | hc) | hc
    · have := digB_iff.1 (db.2.2.1 c hc); omega
    · subst hc; decide
    · have := digB_iff.1 (da.2.2.1 c hc); omega
    · simp at hc; subst hc; decide
    · exact tx_ascii l (fun y hy => h y (by simp [hy])) c hc
/-- The implementation reads a stock off its text. -/
theorem prs_num {l : List (List Int)} (h2 : rec2 l) (h : stB l = true) : prs (numF (txS l)) = l := by
  have hs := st_slips h2 h
  rw [numF, flds_eq _ (tx_ascii l hs), fldA_tx l hs, numL_tx l hs]
  exact prs_tx l hs
/-- What both sides answer. -/
def qsB (s : List UInt8) : Bool := (qsO s).isSome
def qsL (s : List UInt8) : List (List Int) := (qsO s).getD []
def psB (s : List UInt8) : Bool := stB (prs (numF s)) && (txS (prs (numF s)) == s)
theorem psB_eq (s : List UInt8) : psB s = qsB s ∧ (psB s = true → prs (numF s) = qsL s) := by
  cases hq : qsO s with
  | none =>
    have hp : psB s = false := by
      cases hb : psB s with
      | false => rfl
      | true =>
        simp only [psB, Bool.and_eq_true, beq_iff_eq] at hb
        have := qsO_tx (prs_rec _) hb.1
        rw [hb.2, hq] at this
        cases this
    exact ⟨by rw [hp, qsB, hq]; rfl, fun h => by rw [hp] at h; cases h⟩
  | some l =>
    obtain ⟨h2, hst, hs⟩ := qsO_some hq
    have hn : prs (numF s) = l := by rw [hs]; exact prs_num h2 hst
    refine ⟨?_, fun _ => by rw [hn, qsL, hq]; rfl⟩
    rw [psB, hn, hst, ← hs, qsB, hq]; simp
theorem qsL_st (s : List UInt8) : rec2 (qsL s) ∧ (qsL s).length ≤ 8 := by
  unfold qsL
  cases hq : qsO s with
  | none => exact ⟨by intro x hx; simp at hx, by simp⟩
  | some l =>
    obtain ⟨h2, hst, _⟩ := qsO_some hq
    exact ⟨h2, stB_len hst⟩
end Go.Proofs.YtdkpncnkhnmidaaDoor
