/-
  Hyphens in words: the parts, the text; the law on the text.
-/
import Derived.Test.YtcbfpkdcgbkfaaaDoorV11
import Derived.Lib.Join
set_option linter.unusedSimpArgs false
set_option linter.unusedVariables false
namespace Go.Proofs.YtcbfpkdcgbkfaaaDoor
open Go.Ab Go.RowKit

/-- Where part k begins. -/
def frm (l : List Int) : Nat → Int
  | 0 => 0
  | k + 1 => l.getD k 0
/-- The first k parts. -/
def cutT (w : List UInt8) (l : List Int) : Nat → List (List UInt8)
  | 0 => []
  | k + 1 => cutT w l k ++ [(w.take (l.getD k 0).toNat).drop (frm l k).toNat]
theorem cutT_len (w : List UInt8) (l : List Int) : ∀ k, (cutT w l k).length = k
  | 0 => rfl
  | k + 1 => by simp [cutT, cutT_len w l k]
theorem cutT_part (w : List UInt8) (l : List Int) : ∀ k i, ((cutT w l k).getD i []).length ≤ w.length
  | 0, i => by simp [cutT]
  | k + 1, i => by
    rw [cutT, List.getD_eq_getElem?_getD]
    rcases Nat.lt_or_ge i k with h | h
    · rw [List.getElem?_append_left (by rw [cutT_len]; exact h), ← List.getD_eq_getElem?_getD]
      exact cutT_part w l k i
    · rw [List.getElem?_append_right (by rw [cutT_len]; exact h), cutT_len]
      cases hi : i - k with
      | zero =>
        simp only [List.getElem?_cons_zero, Option.getD_some, List.length_drop, List.length_take]
        omega
      | succ j => simp
theorem cutT_app (w : List UInt8) (l : List Int) (x : Int) : ∀ k, k ≤ l.length → cutT w (l ++ [x]) k = cutT w l k
  | 0, _ => rfl
  | k + 1, h => by
    have e1 : (l ++ [x]).getD k 0 = l.getD k 0 := by
      rw [List.getD_eq_getElem?_getD, List.getElem?_append_left (by omega), ← List.getD_eq_getElem?_getD]
    have e2 : frm (l ++ [x]) k = frm l k := by
      cases k with
      | zero => rfl
      | succ k =>
        simp only [frm]
        rw [List.getD_eq_getElem?_getD, List.getElem?_append_left (by omega), ← List.getD_eq_getElem?_getD]
    rw [cutT, cutT, cutT_app w l x k (by omega), e1, e2]
/-- All parts. -/
def ptsL (w : List UInt8) (l : List Int) : List (List UInt8) := cutT w (l ++ [(w.length : Int)]) (l.length + 1)
theorem ptsL_eq (w : List UInt8) (l : List Int) : ptsL w l = cutT w l l.length ++ [(w.take w.length).drop (frm l l.length).toNat] := by
  have e1 : (l ++ [(w.length : Int)]).getD l.length 0 = w.length := by
    rw [List.getD_eq_getElem?_getD, List.getElem?_append_right (Nat.le_refl _)]; simp
  have e2 : frm (l ++ [(w.length : Int)]) l.length = frm l l.length := by
    cases hl : l.length with
    | zero => rfl
    | succ k =>
      simp only [frm]
      rw [List.getD_eq_getElem?_getD, List.getElem?_append_left (by omega), ← List.getD_eq_getElem?_getD]
  rw [ptsL, cutT, cutT_app w l _ _ (Nat.le_refl _), e1, e2, Int.toNat_natCast]
/-- Places that go up, none behind the word's end. -/
def ascP (w : List UInt8) (l : List Int) : Prop := l.length ≤ 17 ∧ ∀ k, k < l.length → 0 ≤ frm l k ∧ frm l k ≤ l.getD k 0 ∧ l.getD k 0 ≤ w.length
theorem asc_of {w : List UInt8} {l : List Int} (hl : l.length ≤ 17) (h1 : l.Pairwise (· < ·)) (h2 : ∀ x ∈ l, 2 ≤ x ∧ x ≤ w.length) : ascP w l := by
  refine ⟨hl, fun k hk => ?_⟩
  have hm : ∀ j, j < l.length → 2 ≤ l.getD j 0 ∧ l.getD j 0 ≤ w.length := fun j hj => h2 _ (by rw [List.getD_eq_getElem?_getD, List.getElem?_eq_getElem hj]; simp)
  have hk2 := hm k hk
  cases k with
  | zero => simp only [frm]; omega
  | succ k =>
    have hk1 := hm k (by omega)
    have := List.pairwise_iff_getElem.1 h1 k (k + 1) (by omega) hk (by omega)
    simp only [frm]
    rw [List.getD_eq_getElem?_getD, List.getD_eq_getElem?_getD, List.getElem?_eq_getElem (show k < l.length by omega), List.getElem?_eq_getElem hk] at *
    simp only [Option.getD_some] at *
    omega
theorem asc_end {w : List UInt8} {l : List Int} (h : ascP w l) : 0 ≤ frm l l.length ∧ frm l l.length ≤ w.length := by
  cases hl : l.length with
  | zero => simp [frm]
  | succ k =>
    have := h.2 k (by omega)
    simp only [frm]
    omega
theorem asc_app {w : List UInt8} {l : List Int} (h : ascP w l) (h16 : l.length ≤ 16) : ascP w (l ++ [(w.length : Int)]) := by
  have he := asc_end h
  refine ⟨by simp; omega, fun k hk => ?_⟩
  have e2 : frm (l ++ [(w.length : Int)]) k = frm l k := by
    cases k with
    | zero => rfl
    | succ k =>
      simp only [frm]
      rw [List.getD_eq_getElem?_getD, List.getElem?_append_left (by simp at hk; omega), ← List.getD_eq_getElem?_getD]
  rw [e2]
  rcases Nat.lt_or_ge k l.length with hk2 | hk2
  · rw [List.getD_eq_getElem?_getD, List.getElem?_append_left hk2, ← List.getD_eq_getElem?_getD]
    exact h.2 k hk2
  · have : k = l.length := by simp at hk; omega
    subst this
    rw [List.getD_eq_getElem?_getD, List.getElem?_append_right (Nat.le_refl _)]
    simp
    exact he
theorem plc_asc {p e : List (List UInt8)} {w : List UInt8} (h : peP p e w) : ascP w (plc p e w) := by
  have h1 := plc_at h
  have h2 := plc_len h
  exact asc_of (by omega) h1.1 h1.2

/-! The text. -/
def jnT (ps : List (List UInt8)) : Nat → List UInt8
  | 0 => []
  | k + 1 => (jnT ps k ++ if 0 < k then [45] else []) ++ ps.getD k []
theorem jnT_len {ps : List (List UInt8)} {m : Nat} (h : ∀ i, (ps.getD i []).length ≤ m) : ∀ k, (jnT ps k).length ≤ (m + 1) * k
  | 0 => by simp [jnT]
  | k + 1 => by
    have ih := jnT_len h k
    have := h k
    rw [jnT, List.length_append, List.length_append, Nat.mul_succ]
    split <;> simp only [List.length_cons, List.length_nil] <;> omega
theorem join_jn : ∀ ps : List (List UInt8), Lib.join ps [45] = jnT ps ps.length
  | [] => rfl
  | x :: r => by
    have key : ∀ k, k ≤ r.length → jnT (x :: r) (k + 1) = x ++ Lib.joinTail [45] (r.take k) := by
      intro k
      induction k with
      | zero => intro _; simp [jnT, Lib.joinTail]
      | succ k ih =>
        intro hk
        have hg : r[k]? = some (r.getD k []) := by rw [List.getD_eq_getElem?_getD, List.getElem?_eq_getElem (by omega)]; rfl
        rw [jnT, ih (by omega), if_pos (by omega), List.getD_cons_succ, Lib.joinTail_take_succ [45] r k _ hg]
        simp
    rw [Lib.join_cons, List.length_cons, key r.length (Nat.le_refl _), List.take_length]
theorem cell_spot {w : World} {a : Addr} {v : Value} (h : w.cell? a = some v) : a.spot = none := by
  unfold World.cell? at h
  split at h
  · split at h
    · cases h
    · rename_i hs
      cases hsp : a.spot with
      | none => rfl
      | some x => rw [hsp] at hs; exact absurd rfl hs
  · cases h
def jnP (l : List (List UInt8)) : Prop := l.length ≤ 100 ∧ ∀ i, (l.getD i []).length ≤ 100
set_option maxHeartbeats 1000000 in
theorem join_ok (l : List (List UInt8)) (h : jnP l) : FC Tryd.prog 22 [.ro (.strs l), .str [45]] (.str (jnT l l.length)) [] := by
  have hbd : ¬ Tryd.f22.body = none := by
    intro h
    have h2 : Tryd.f22.body.isNone = false := by kernel_rfl
    rw [h] at h2
    cases h2
  refine ⟨⟨Tryd.f22, Tryd.func22, (by decide +kernel), hbd⟩, fun w vals _ hv => ?_⟩
  match vals, hv with
  | [v, u], hv =>
    obtain ⟨hv, hu, _⟩ := hv
    obtain rfl : u = .string ⟨#[45]⟩ := hu
    obtain ⟨a, cap, cs, rfl, c1, c2, hr, hc⟩ := hv
    simp only [RC] at hr
    subst hr
    have hnl : nl (.strs l) = l.length := rfl
    rw [hnl] at c1 hc ⊢
    have fin : ∀ (e : Ending) (w' : World), e = .returned (.string ⟨(jnT l l.length).toArray⟩) → Below w.heap.size w w' → ∃ v ρ', e = .returned v ∧ Below w.heap.size w w' ∧ Fresh w' w.heap.size (.str (jnT l l.length)) [] v ρ' := by
      intro e w' he hb
      refine ⟨_, [], he, hb, ⟨rfl, ?_, ?_, rfl⟩⟩
      · intro o loc E row h; cases h.1
      · intro o o' loc loc' E E' r r' h; cases h.1
    by_cases h0 : l.length = 0
    · have : l = [] := List.eq_nil_of_length_eq_zero h0
      subst this
      refine (Tryd.strings_Join_none a cap ⟨#[45]⟩ w).mono ?_
      rintro e w' ⟨rfl, rfl⟩
      exact fin _ _ rfl (Below.refl _ _)
    · obtain ⟨ad, rfl, hb, _, hcell⟩ := hc (by omega)
      have hsp : ad.spot = none := by
        obtain ⟨u, hu⟩ : ∃ u, (l.map fun s : List UInt8 => Value.string ⟨s.toArray⟩)[0]? = some u := ⟨_, List.getElem?_eq_getElem (by simp; omega)⟩
        have := hcell 0 u hu
        have h2 := cell_spot this
        simpa [Addr.add] using h2
      obtain ⟨bk, off, sp⟩ := ad
      simp only at hsp
      subst hsp
      have hx : (l.map fun s : List UInt8 => (⟨s.toArray⟩ : ByteArray)).length = l.length := by simp
      have hdat : (l.map fun s : List UInt8 => (⟨s.toArray⟩ : ByteArray)).map (·.data.toList) = l := by
        rw [List.map_map]; simp [Function.comp_def]
      have e1 : (⟨#[45]⟩ : ByteArray).data.toList = [45] := rfl
      have hj : Lib.join ((l.map fun s : List UInt8 => (⟨s.toArray⟩ : ByteArray)).map (·.data.toList)) (⟨#[45]⟩ : ByteArray).data.toList = jnT l l.length := by rw [hdat, e1, join_jn]
      have hjl := jnT_len h.2 l.length
      have hl100 := h.1
      have := Tryd.strings_Join bk off cap (l.map fun s : List UInt8 => (⟨s.toArray⟩ : ByteArray)) ⟨#[45]⟩ w (fun j x hjx => by
        have hju : (l.map fun s : List UInt8 => Value.string ⟨s.toArray⟩)[j]? = some (.string x) := by
          rw [List.getElem?_map] at hjx ⊢
          cases hlj : l[j]? with
          | none => rw [hlj] at hjx; cases hjx
          | some s => rw [hlj] at hjx; simp at hjx; simp [hjx]
        have := hcell j _ hju
        rwa [add_lit'] at this) hb (by rw [hx]; omega) (by rw [hx]; exact c1) (by
          rw [hj]
          have : (100 + 1) * l.length ≤ (100 + 1) * 100 := Nat.mul_le_mul_left _ hl100
          omega)
      rw [hx, hj] at this
      refine this.mono ?_
      rintro e w' ⟨rfl, hbw⟩
      exact fin _ _ rfl hbw
def ptsA (p e : List (List UInt8)) (w : List UInt8) : List (List UInt8) := if askB p e w then ptsL w (plc p e w) else []
def htV (p e : List (List UInt8)) (w : List UInt8) : List UInt8 := jnT (ptsA p e w) (ptsA p e w).length
theorem ptsA_jn {p e : List (List UInt8)} {w : List UInt8} (h : paP p e w) : jnP (ptsA p e w) := by
  unfold ptsA
  split
  · rename_i ha
    have hpe := ask_pe h.1 h.2.1 ha
    have h16 := plc_len hpe
    obtain ⟨_, _, hw⟩ := (letB_iff w 1 16).1 hpe.2.2
    refine ⟨by rw [ptsL, cutT_len]; omega, fun i => ?_⟩
    have := cutT_part w (plc p e w ++ [(w.length : Int)]) ((plc p e w).length + 1) i
    rw [ptsL]; omega
  · exact ⟨by simp, by simp⟩
structure Sr extends Sl where
  ptsL : List (List UInt8) → List (List UInt8) → List UInt8 → List (List UInt8)
  ptsA : List (List UInt8) → List (List UInt8) → List UInt8 → List (List UInt8)
  jn : List (List UInt8) → List UInt8
  jnP : List (List UInt8) → Prop
  htV : List (List UInt8) → List (List UInt8) → List UInt8 → List UInt8
def sr : Sr := { sl with ptsL := fun p e w => ptsL w (plc p e w), ptsA := ptsA, jn := fun l => jnT l l.length, jnP := jnP, htV := htV }
def O1 (S : Sr) : List (Nat × (List AV → CR)) :=
  Z2 S.toSz
set_option maxRecDepth 100000 in
theorem O1_ok : TabOK Tryd.prog (tfind (O1 sr)) := by
  refine Z2_ok
set_option maxRecDepth 100000 in
theorem hyParts_ok (p e : List (List UInt8)) (w : List UInt8) (h : peP p e w) : FC Tryd.prog 20 [.ro (.strs p), .ro (.strs e), .str w] (.own 0 true) [(9, .strs (ptsL w (plc p e w)))] := by
  refine fc_eval sr O1 O1_ok hT hm Tryd.func20 rfl (by kernel_rfl) rfl rfl ?_
  intro A S r0 fr0 hA hS hr hfr
  cbv
  have hasc := plc_asc h
  obtain ⟨l, hle⟩ : ∃ l, l = plc p e w := ⟨_, rfl⟩
  rw [← hle] at hasc
  have hl17 := hasc.1
  have hend := asc_end hasc
  obtain ⟨L, hL⟩ : ∃ L : Int, L = l.length := ⟨_, rfl⟩
  refine obP.mk (by subst hA hS; exact h) ?_
  refine loop3 (fun (k : Nat) (f : Int) (o : List (List UInt8)) => ⟨fr 35 [(2, .str w), (7, .own 2 true), (8, .int .i64 f), (14, .own 1 true), (15, .int .i64 L), (16, .int .i64 k)], [.dead, .row 3 (.ints .i64 l), .row 9 (.strs o)]⟩)
    (fun k f o => k ≤ l.length ∧ f = frm l k ∧ o = cutT w l k) (fun k _ _ => l.length - k) 0 0 [] ?_ ?_ ?_
  · subst hA hS; simp [Wk_iff, fr, undefs, wkT, wkV, wkH, okid, Row.nlen, Row.rk, RK.rowk, getO, alg, hL, hle, sr, sl, sz, sy]
  · exact ⟨by omega, rfl, rfl⟩
  · intro k f o hR
    have k1 := hR.1
    have k2 := hR.2.1
    have k3 := hR.2.2
    clear hR
    have ol : o.length = k := by rw [k3, cutT_len]
    have HA := Hd.mk hasc
    clear hasc
    cbv
    (try simp only [nc] at *); subst hA hS hr hfr; simp (disch := (refine KR.mk ?_; kernel_rfl)) only [alg, obP_iff, condP_iff, retP_iff, retM_iff, ofNat_cast, nc, Int.toNat_natCast, decide_eq_true_eq, decide_eq_false_iff_not, wrap_w64, retS_iff, Bool.not_eq_true', Bool.not_eq_false', beq_iff_eq, beq_eq_false_iff_ne, AV.bool.injEq, AV.int.injEq, AV.t2.injEq, AV.t3.injEq, AV.own.injEq, List.cons.injEq, Prod.mk.injEq, Row.ints.injEq, RW, Row.nlen, scalar, imp_self, and_true, true_and, lexT, heldT, tailT, planT, nb, Int.toNat_zero, List.getD_cons_zero, List.getD_cons_succ, List.set_cons_zero, List.set_cons_succ, sr, sl, sz, sy, sx, sw, sv, sh, sb]
    have hasc := HA.h
    have w1 : w64 ((k : Int) + 1) = ((k + 1 : Nat) : Int) := by rw [w64_id (by omega)]; omega
    simp only [w1]
    refine ⟨fun hk => ?_, fun hk => ?_⟩
    · have hb := hasc.2 k (by omega)
      rw [← k2] at hb
      refine ⟨by omega, by omega, by omega, by omega, by simp, k + 1, l.getD k 0, o ++ [(w.take (l.getD k 0).toNat).drop f.toNat], ?_, ⟨by omega, rfl, ?_⟩, by omega⟩
      · simp [Wk_iff, fr, undefs, wkT, wkV, wkH, okid, Row.nlen, Row.rk, RK.rowk, getO]
      · rw [cutT, ← k3, k2]
    · have hk2 : k = l.length := by omega
      subst hk2
      rw [← k2] at hend
      refine ⟨by omega, by omega, by omega, by simp, ?_⟩
      rw [ptsL_eq, ← hle, ← k3, ← k2]
def O2 (S : Sr) : List (Nat × (List AV → CR)) :=
  (20, fun args => match args with | [.ro (.strs p), .ro (.strs e), .str w] => .pure (S.pe p e w) (.own 0 true) [(9, .strs (S.ptsL p e w))] | _ => .no) ::
  O1 S
set_option maxRecDepth 100000 in
theorem O2_ok : TabOK Tryd.prog (tfind (O2 sr)) := by
  refine tab_cons (fun args => ?_) (O1_ok)
  · split
    · exact ent_pure fun h => hyParts_ok _ _ _ h
    · exact ent_no
set_option maxRecDepth 100000 in
theorem specHT_ok (p e : List (List UInt8)) (w : List UInt8) (h : paP p e w) : FC Tryd.prog 11 [.ro (.strs p), .ro (.strs e), .str w] (.t2 (.str (htV p e w)) (.bool (askB p e w))) [] := by
  refine fc_eval sr O2 O2_ok hT hm Tryd.func11 rfl (by kernel_rfl) rfl rfl ?_
  intro A S r0 fr0 hA hS hr hfr
  cbv
  refine obP.mk (by subst hA hS; exact h) ?_
  refine condP.mk (fun hc => ?_) (fun hc => ?_)
  · have hf : askB p e w = false := by
      (try simp only [nc] at *); (try subst hA); (try subst hS); simp (disch := (refine KR.mk ?_; kernel_rfl)) only [alg, obP_iff, condP_iff, retP_iff, retM_iff, ofNat_cast, nc, Int.toNat_natCast, decide_eq_true_eq, decide_eq_false_iff_not, wrap_w64, retS_iff, Bool.not_eq_true', Bool.not_eq_false', beq_iff_eq, beq_eq_false_iff_ne, AV.bool.injEq, AV.int.injEq, AV.t2.injEq, AV.t3.injEq, AV.own.injEq, List.cons.injEq, Prod.mk.injEq, Row.ints.injEq, RW, Row.nlen, scalar, imp_self, and_true, true_and, lexT, heldT, tailT, planT, nb, Int.toNat_zero, List.getD_cons_zero, List.getD_cons_succ, List.set_cons_zero, List.set_cons_succ, sr, sl, sz, sy, sx, sw, sv, sh, sb] at hc
      exact hc
    (try simp only [nc] at *); subst hA hS hr hfr; simp (disch := (refine KR.mk ?_; kernel_rfl)) only [alg, obP_iff, condP_iff, retP_iff, retM_iff, ofNat_cast, nc, Int.toNat_natCast, decide_eq_true_eq, decide_eq_false_iff_not, wrap_w64, retS_iff, Bool.not_eq_true', Bool.not_eq_false', beq_iff_eq, beq_eq_false_iff_ne, AV.bool.injEq, AV.int.injEq, AV.t2.injEq, AV.t3.injEq, AV.own.injEq, List.cons.injEq, Prod.mk.injEq, Row.ints.injEq, RW, Row.nlen, scalar, imp_self, and_true, true_and, lexT, heldT, tailT, planT, nb, Int.toNat_zero, List.getD_cons_zero, List.getD_cons_succ, List.set_cons_zero, List.set_cons_succ, sr, sl, sz, sy, sx, sw, sv, sh, sb]
    simp [htV, ptsA, hf, jnT]
  · have hf : askB p e w = true := by
      (try simp only [nc] at *); (try subst hA); (try subst hS); simp (disch := (refine KR.mk ?_; kernel_rfl)) only [alg, obP_iff, condP_iff, retP_iff, retM_iff, ofNat_cast, nc, Int.toNat_natCast, decide_eq_true_eq, decide_eq_false_iff_not, wrap_w64, retS_iff, Bool.not_eq_true', Bool.not_eq_false', beq_iff_eq, beq_eq_false_iff_ne, AV.bool.injEq, AV.int.injEq, AV.t2.injEq, AV.t3.injEq, AV.own.injEq, List.cons.injEq, Prod.mk.injEq, Row.ints.injEq, RW, Row.nlen, scalar, imp_self, and_true, true_and, lexT, heldT, tailT, planT, nb, Int.toNat_zero, List.getD_cons_zero, List.getD_cons_succ, List.set_cons_zero, List.set_cons_succ, sr, sl, sz, sy, sx, sw, sv, sh, sb] at hc
      exact hc
    clear hc
    have hpe := ask_pe h.1 h.2.1 hf
    have hjp := ptsA_jn h
    obtain ⟨ps, hps⟩ : ∃ ps, ps = ptsL w (plc p e w) := ⟨_, rfl⟩
    have hpa : ptsA p e w = ps := by rw [ptsA, if_pos hf, hps]
    rw [hpa] at hjp
    have hl100 := hjp.1
    have hjl := jnT_len hjp.2
    have hfin : htV p e w = jnT ps ps.length := by rw [htV, hpa]
    refine obP.mk (by subst hA hS; exact hpe) ?_
    obtain ⟨L, hL⟩ : ∃ L : Int, L = ps.length := ⟨_, rfl⟩
    refine loop2 (fun (k : Nat) (s : List UInt8) => ⟨fr 35 [(8, .str s), (19, .own 1 true), (20, .int .i64 L), (21, .int .i64 k)], [.dead, .row 9 (.strs ps)]⟩)
      (fun k s => k ≤ ps.length ∧ s = jnT ps k) (fun k _ => ps.length - k) 0 [] ?_ ?_ ?_
    · subst hA hS; simp [Wk_iff, fr, undefs, wkT, wkV, wkH, okid, Row.nlen, Row.rk, RK.rowk, getO, alg, hL, hps, sr]
    · exact ⟨by omega, rfl⟩
    · intro k s hR
      have k1 := hR.1
      have k2 := hR.2
      clear hR
      have HJ := Hd.mk hjl
      have HQ := Hd.mk hjp
      clear hjl hjp
      cbv
      (try simp only [nc] at *); subst hA hS hr hfr; simp (disch := (refine KR.mk ?_; kernel_rfl)) only [alg, obP_iff, condP_iff, retP_iff, retM_iff, ofNat_cast, nc, Int.toNat_natCast, decide_eq_true_eq, decide_eq_false_iff_not, wrap_w64, retS_iff, Bool.not_eq_true', Bool.not_eq_false', beq_iff_eq, beq_eq_false_iff_ne, AV.bool.injEq, AV.int.injEq, AV.t2.injEq, AV.t3.injEq, AV.own.injEq, List.cons.injEq, Prod.mk.injEq, Row.ints.injEq, RW, Row.nlen, scalar, imp_self, and_true, true_and, lexT, heldT, tailT, planT, nb, Int.toNat_zero, List.getD_cons_zero, List.getD_cons_succ, List.set_cons_zero, List.set_cons_succ, sr, sl, sz, sy, sx, sw, sv, sh, sb]
      have hjl := HJ.h k
      have hql := HQ.h.2 k
      rw [← k2] at hjl
      have hkm : (100 + 1) * k ≤ 10100 := by omega
      have w1 : w64 ((k : Int) + 1) = ((k + 1 : Nat) : Int) := by rw [w64_id (by omega)]; omega
      simp only [w1, List.length_append, List.length_cons, List.length_nil]
      refine ⟨fun hk => ⟨by omega, fun hk0 => ?_, fun hk0 => ?_⟩, fun hk => ?_⟩
      · simp only [w64_eq]
        repeat' apply And.intro
        all_goals try omega
        refine ⟨k + 1, s ++ [45] ++ ps.getD k [], ?_, ⟨by omega, ?_⟩, by omega⟩
        · simp [Wk_iff, fr, undefs, wkT, wkV, wkH, okid, Row.nlen, Row.rk, RK.rowk, getO]
        · rw [jnT, if_pos (by omega), k2]
      · simp only [w64_eq]
        repeat' apply And.intro
        all_goals try omega
        refine ⟨k + 1, s ++ ps.getD k [], ?_, ⟨by omega, ?_⟩, by omega⟩
        · simp [Wk_iff, fr, undefs, wkT, wkV, wkH, okid, Row.nlen, Row.rk, RK.rowk, getO]
        · rw [jnT, if_neg (by omega), k2, List.append_nil]
      · rw [hfin, k2, show k = ps.length by omega]
        exact ⟨rfl, hf.symm⟩
def O3 (S : Sr) : List (Nat × (List AV → CR)) :=
  (22, fun args => match args with | [.ro (.strs l), .str x] => .pure (S.jnP l ∧ x = [45]) (.str (S.jn l)) [] | _ => .no) ::
  Z3 S.toSz
set_option maxRecDepth 100000 in
theorem O3_ok : TabG gW Tryd.prog (tfind (O3 sr)) := by
  refine tab_cons (fun args => ?_) (Z3_ok)
  · split
    · exact ent_pure fun h => by obtain ⟨h, rfl⟩ := h; exact (join_ok _ h).toG
    · exact ent_no
set_option maxRecDepth 100000 in
theorem parts_ok (p e : List (List UInt8)) (w : List UInt8) (h : paP p e w) : FCG gW Tryd.prog 21 [.ro (.strs p), .ro (.strs e), .str w] (.t2 (.own 0 false) (.bool (askB p e w))) [(9, .strs (ptsA p e w))] := by
  refine fcg_eval gW_st sr O3 O3_ok hT hm Tryd.func21 rfl (by kernel_rfl) rfl rfl ?_
  intro A S r0 fr0 hA hS hr hfr
  cbv
  refine obP.mk (by subst hA hS; exact h) ?_
  refine condP.mk (fun hc => ?_) (fun hc => ?_)
  · have hf : askB p e w = false := by
      (try simp only [nc] at *); (try subst hA); (try subst hS); simp (disch := (refine KR.mk ?_; kernel_rfl)) only [alg, obP_iff, condP_iff, retP_iff, retM_iff, ofNat_cast, nc, Int.toNat_natCast, decide_eq_true_eq, decide_eq_false_iff_not, wrap_w64, retS_iff, Bool.not_eq_true', Bool.not_eq_false', beq_iff_eq, beq_eq_false_iff_ne, AV.bool.injEq, AV.int.injEq, AV.t2.injEq, AV.t3.injEq, AV.own.injEq, List.cons.injEq, Prod.mk.injEq, Row.ints.injEq, RW, Row.nlen, scalar, imp_self, and_true, true_and, lexT, heldT, tailT, planT, nb, Int.toNat_zero, List.getD_cons_zero, List.getD_cons_succ, List.set_cons_zero, List.set_cons_succ, sr, sl, sz, sy, sx, sw, sv, sh, sb] at hc
      exact hc
    (try simp only [nc] at *); subst hA hS hr hfr; simp (disch := (refine KR.mk ?_; kernel_rfl)) only [alg, obP_iff, condP_iff, retP_iff, retM_iff, ofNat_cast, nc, Int.toNat_natCast, decide_eq_true_eq, decide_eq_false_iff_not, wrap_w64, retS_iff, Bool.not_eq_true', Bool.not_eq_false', beq_iff_eq, beq_eq_false_iff_ne, AV.bool.injEq, AV.int.injEq, AV.t2.injEq, AV.t3.injEq, AV.own.injEq, List.cons.injEq, Prod.mk.injEq, Row.ints.injEq, RW, Row.nlen, scalar, imp_self, and_true, true_and, lexT, heldT, tailT, planT, nb, Int.toNat_zero, List.getD_cons_zero, List.getD_cons_succ, List.set_cons_zero, List.set_cons_succ, sr, sl, sz, sy, sx, sw, sv, sh, sb]
    simp [ptsA, hf]
  · have hf : askB p e w = true := by
      (try simp only [nc] at *); (try subst hA); (try subst hS); simp (disch := (refine KR.mk ?_; kernel_rfl)) only [alg, obP_iff, condP_iff, retP_iff, retM_iff, ofNat_cast, nc, Int.toNat_natCast, decide_eq_true_eq, decide_eq_false_iff_not, wrap_w64, retS_iff, Bool.not_eq_true', Bool.not_eq_false', beq_iff_eq, beq_eq_false_iff_ne, AV.bool.injEq, AV.int.injEq, AV.t2.injEq, AV.t3.injEq, AV.own.injEq, List.cons.injEq, Prod.mk.injEq, Row.ints.injEq, RW, Row.nlen, scalar, imp_self, and_true, true_and, lexT, heldT, tailT, planT, nb, Int.toNat_zero, List.getD_cons_zero, List.getD_cons_succ, List.set_cons_zero, List.set_cons_succ, sr, sl, sz, sy, sx, sw, sv, sh, sb] at hc
      exact hc
    clear hc
    have hpe := ask_pe h.1 h.2.1 hf
    have h16 := plc_len hpe
    have hhl : hpL p e w = plc p e w := by rw [hpL, if_pos hf]
    obtain ⟨l, hle⟩ : ∃ l, l = plc p e w ++ [(w.length : Int)] := ⟨_, rfl⟩
    have hasc : ascP w l := by rw [hle]; exact asc_app (plc_asc hpe) h16
    have hll : l.length = (plc p e w).length + 1 := by rw [hle]; simp
    have hfin : ptsA p e w = cutT w l l.length := by rw [ptsA, if_pos hf, ptsL, ← hle, hll]
    have hl17 := hasc.1
    obtain ⟨L, hL⟩ : ∃ L : Int, L = l.length := ⟨_, rfl⟩
    refine obP.mk (by subst hA hS; simp only [alg, sr, sl, sz, hhl]; omega) ?_
    refine obP.mk (by subst hA; simp [alg]) ?_
    refine loop3 (fun (k : Nat) (f : Int) (o : List (List UInt8)) => ⟨fr 45 [(2, .str w), (10, .own 2 false), (11, .int .i64 f), (29, .own 1 true), (30, .int .i64 L), (31, .int .i64 k)], [.dead, .row 3 (.ints .i64 l), .row 9 (.strs o)]⟩)
      (fun k f o => k ≤ l.length ∧ f = frm l k ∧ o = cutT w l k) (fun k _ _ => l.length - k) 0 0 [] ?_ ?_ ?_
    · subst hA hS; simp [Wk_iff, fr, undefs, wkT, wkV, wkH, okid, Row.nlen, Row.rk, RK.rowk, getO, alg, hL, hle, sr, sl, sz, hhl]
    · exact ⟨by omega, rfl, rfl⟩
    · intro k f o hR
      have k1 := hR.1
      have k2 := hR.2.1
      have k3 := hR.2.2
      clear hR
      have ol : o.length = k := by rw [k3, cutT_len]
      have HA := Hd.mk hasc
      clear hasc
      cbv
      (try simp only [nc] at *); subst hA hS hr hfr; simp (disch := (refine KR.mk ?_; kernel_rfl)) only [alg, obP_iff, condP_iff, retP_iff, retM_iff, ofNat_cast, nc, Int.toNat_natCast, decide_eq_true_eq, decide_eq_false_iff_not, wrap_w64, retS_iff, Bool.not_eq_true', Bool.not_eq_false', beq_iff_eq, beq_eq_false_iff_ne, AV.bool.injEq, AV.int.injEq, AV.t2.injEq, AV.t3.injEq, AV.own.injEq, List.cons.injEq, Prod.mk.injEq, Row.ints.injEq, RW, Row.nlen, scalar, imp_self, and_true, true_and, lexT, heldT, tailT, planT, nb, Int.toNat_zero, List.getD_cons_zero, List.getD_cons_succ, List.set_cons_zero, List.set_cons_succ, sr, sl, sz, sy, sx, sw, sv, sh, sb]
      have hasc := HA.h
      have w1 : w64 ((k : Int) + 1) = ((k + 1 : Nat) : Int) := by rw [w64_id (by omega)]; omega
      simp only [w1]
      refine ⟨fun hk => ?_, fun hk => ?_⟩
      · have hb := hasc.2 k (by omega)
        rw [← k2] at hb
        refine ⟨by omega, by omega, by omega, by omega, by simp, k + 1, l.getD k 0, o ++ [(w.take (l.getD k 0).toNat).drop f.toNat], ?_, ⟨by omega, rfl, ?_⟩, by omega⟩
        · simp [Wk_iff, fr, undefs, wkT, wkV, wkH, okid, Row.nlen, Row.rk, RK.rowk, getO]
        · rw [cutT, ← k3, k2]
      · rw [hfin, k3, show k = l.length by omega, hf]
        exact ⟨rfl, rfl⟩
def O4 (S : Sr) : List (Nat × (List AV → CR)) :=
  (21, fun args => match args with | [.ro (.strs p), .ro (.strs e), .str w] => .pure (S.paP p e w) (.t2 (.own 0 false) (.bool (S.askB p e w))) [(9, .strs (S.ptsA p e w))] | _ => .no) ::
  O3 S
set_option maxRecDepth 100000 in
theorem O4_ok : TabG gW Tryd.prog (tfind (O4 sr)) := by
  refine tab_cons (fun args => ?_) (O3_ok)
  · split
    · exact ent_pure fun h => parts_ok _ _ _ h
    · exact ent_no
set_option maxRecDepth 100000 in
theorem implHT_ok (p e : List (List UInt8)) (w : List UInt8) (h : paP p e w) : FCG gW Tryd.prog 12 [.ro (.strs p), .ro (.strs e), .str w] (.t2 (.str (htV p e w)) (.bool (askB p e w))) [] := by
  refine fcg_eval gW_st sr O4 O4_ok hT hm Tryd.func12 rfl (by kernel_rfl) rfl rfl ?_
  intro A S r0 fr0 hA hS hr hfr
  cbv
  (try simp only [nc] at *); subst hA hS hr hfr; simp (disch := (refine KR.mk ?_; kernel_rfl)) only [alg, obP_iff, condP_iff, retP_iff, retM_iff, ofNat_cast, nc, Int.toNat_natCast, decide_eq_true_eq, decide_eq_false_iff_not, wrap_w64, retS_iff, Bool.not_eq_true', Bool.not_eq_false', beq_iff_eq, beq_eq_false_iff_ne, AV.bool.injEq, AV.int.injEq, AV.t2.injEq, AV.t3.injEq, AV.own.injEq, List.cons.injEq, Prod.mk.injEq, Row.ints.injEq, RW, Row.nlen, scalar, imp_self, and_true, true_and, lexT, heldT, tailT, planT, nb, Int.toNat_zero, List.getD_cons_zero, List.getD_cons_succ, List.set_cons_zero, List.set_cons_succ, sr, sl, sz, sy, sx, sw, sv, sh, sb]
  exact ⟨h, ptsA_jn h, rfl⟩
def O5 (S : Sr) : List (Nat × (List AV → CR)) :=
  (11, fun args => match args with | [.ro (.strs p), .ro (.strs e), .str w] => .pure (S.paP p e w) (.t2 (.str (S.htV p e w)) (.bool (S.askB p e w))) [] | _ => .no) ::
  (12, fun args => match args with | [.ro (.strs p), .ro (.strs e), .str w] => .pure (S.paP p e w) (.t2 (.str (S.htV p e w)) (.bool (S.askB p e w))) [] | _ => .no) ::
  Q1 S.toSl
set_option maxRecDepth 100000 in
theorem O5_ok : TabG gW Tryd.prog (tfind (O5 sr)) := by
  refine tab_cons (fun args => ?_) (tab_cons (fun args => ?_) (Q1_ok))
  · split
    · exact ent_pure fun h => (specHT_ok _ _ _ h).toG
    · exact ent_no
  · split
    · exact ent_pure fun h => implHT_ok _ _ _ h
    · exact ent_no
set_option maxRecDepth 100000 in
theorem lawHyphenText (p e : List (List UInt8)) (w : List UInt8) (hp : bigS p) (he : bigS e) : FCG gW Tryd.prog 4 [.ro (.strs p), .ro (.strs e), .str w] (.bool true) [] := by
  refine fcg_eval gW_st sr O5 O5_ok hT hm Tryd.func4 rfl (by kernel_rfl) rfl rfl ?_
  intro A S r0 fr0 hA hS hr hfr
  cbv
  (try simp only [nc] at *); subst hA hS hr hfr; simp (disch := (refine KR.mk ?_; kernel_rfl)) only [alg, obP_iff, condP_iff, retP_iff, retM_iff, ofNat_cast, nc, Int.toNat_natCast, decide_eq_true_eq, decide_eq_false_iff_not, wrap_w64, retS_iff, Bool.not_eq_true', Bool.not_eq_false', beq_iff_eq, beq_eq_false_iff_ne, AV.bool.injEq, AV.int.injEq, AV.t2.injEq, AV.t3.injEq, AV.own.injEq, List.cons.injEq, Prod.mk.injEq, Row.ints.injEq, RW, Row.nlen, scalar, imp_self, and_true, true_and, lexT, heldT, tailT, planT, nb, Int.toNat_zero, List.getD_cons_zero, List.getD_cons_succ, List.set_cons_zero, List.set_cons_succ, sr, sl, sz, sy, sx, sw, sv, sh, sb, eqSS]
  refine ⟨fun _ => trivial, fun h1 => ⟨hp, fun _ => trivial, fun h2 => ?_⟩⟩
  obtain ⟨g1, g2⟩ := szS_all (by omega) (by omega) hp h2
  refine ⟨he, fun _ => trivial, fun h3 => ?_⟩
  obtain ⟨_, g4⟩ := szS_all g1.1 g1.2 he h3
  have hpa : paP p e w := ⟨g2, g4, by omega⟩
  have a := g2.1
  have b := g4.1
  simp [a, b, hpa]
end Go.Proofs.YtcbfpkdcgbkfaaaDoor
