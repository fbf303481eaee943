/-
  The fewest pieces with as many as one likes: kind by kind, or piece by piece: the same. No program here.
-/
import Derived.Test.YtjkkjfnkcfaigaaDP
set_option linter.unusedSimpArgs false
set_option linter.unusedVariables false
namespace Go.Proofs.Ytjkkjfnkcfaigaa
open Go.Ab

/-- c pieces of the first i kinds make width x. -/
def Rp (w : Nat → Nat) : Nat → Nat → Nat → Prop
  | 0, x, c => x = 0 ∧ c = 0
  | i + 1, x, c => ∃ m, m * w i ≤ x ∧ m ≤ c ∧ Rp w i (x - m * w i) (c - m)
/-- v is the fewest, or there is none. -/
def Opt (P : Nat → Prop) (v : Int) : Prop := (v < 0 → v = -1 ∧ ∀ c, ¬ P c) ∧ (0 ≤ v → P v.toNat ∧ ∀ c, P c → v ≤ c)
theorem Opt.eq {P : Nat → Prop} {v v' : Int} (h : Opt P v) (h' : Opt P v') : v = v' := by
  rcases Int.lt_or_le v 0 with h1 | h1
  · rcases Int.lt_or_le v' 0 with h2 | h2
    · rw [(h.1 h1).1, (h'.1 h2).1]
    · exact absurd (h'.2 h2).1 ((h.1 h1).2 _)
  · rcases Int.lt_or_le v' 0 with h2 | h2
    · exact absurd (h.2 h1).1 ((h'.1 h2).2 _)
    · have := (h.2 h1).2 _ (h'.2 h2).1
      have := (h'.2 h2).2 _ (h.2 h1).1
      omega

theorem Rp_add {w : Nat → Nat} : ∀ {i j x c : Nat}, j < i → Rp w i x c → Rp w i (x + w j) (c + 1)
  | 0, j, x, c, h, _ => by omega
  | i + 1, j, x, c, h, ⟨m, h1, h2, h3⟩ => by
    by_cases hj : j = i
    · subst hj
      refine ⟨m + 1, ?_, by omega, ?_⟩
      · rw [Nat.add_mul]; omega
      · have e1 : x + w j - (m + 1) * w j = x - m * w j := by rw [Nat.add_mul]; omega
        have e2 : c + 1 - (m + 1) = c - m := by omega
        rw [e1, e2]; exact h3
    · refine ⟨m, by omega, by omega, ?_⟩
      have := Rp_add (j := j) (by omega) h3
      have e1 : x + w j - m * w i = x - m * w i + w j := by omega
      have e2 : c + 1 - m = c - m + 1 := by omega
      rw [e1, e2]; exact this
theorem Rp_sub {w : Nat → Nat} : ∀ {i x c : Nat}, Rp w i x (c + 1) → ∃ j, j < i ∧ w j ≤ x ∧ Rp w i (x - w j) c
  | 0, x, c, h => by have := h.2; omega
  | i + 1, x, c, ⟨m, h1, h2, h3⟩ => by
    cases m with
    | zero =>
      simp only [Nat.zero_mul, Nat.sub_zero] at h3
      obtain ⟨j, hj, hx, hr⟩ := Rp_sub h3
      exact ⟨j, by omega, hx, 0, by simp, by omega, by simpa using hr⟩
    | succ m =>
      rw [Nat.add_mul, Nat.one_mul] at h1
      refine ⟨i, by omega, by omega, m, by omega, by omega, ?_⟩
      have e1 : x - w i - m * w i = x - (m + 1) * w i := by rw [Nat.add_mul]; omega
      have e2 : c - m = c + 1 - (m + 1) := by omega
      rw [e1, e2]; exact h3
theorem Rp_zero {w : Nat → Nat} (hw : ∀ i, 1 ≤ w i) : ∀ {i x : Nat}, Rp w i x 0 → x = 0
  | 0, x, h => h.1
  | i + 1, x, ⟨m, h1, h2, h3⟩ => by
    have : m = 0 := by omega
    subst this
    simp only [Nat.zero_mul, Nat.sub_zero] at h3
    exact Rp_zero hw h3
theorem Rp_nil {w : Nat → Nat} : ∀ {i : Nat}, Rp w i 0 0
  | 0 => ⟨rfl, rfl⟩
  | i + 1 => ⟨0, by simp, by simp, by simpa using Rp_nil⟩
theorem Rp_le {w : Nat → Nat} (hw : ∀ i, 1 ≤ w i) : ∀ {i x c : Nat}, Rp w i x c → c ≤ x
  | 0, x, c, h => by have := h.1; have := h.2; omega
  | i + 1, x, c, ⟨m, h1, h2, h3⟩ => by
    have := Rp_le hw h3
    have hm : m ≤ m * w i := Nat.le_mul_of_pos_right m (hw i)
    omega

/-! Kind by kind. -/
theorem cellF_opt {p : List Int} {w k : Nat} {P : Nat → Nat → Prop} (hP : ∀ y, y ≤ k → Opt (P y) (p.getD y 0)) : ∀ j, (∀ m, m < j → m * w ≤ k) →
    Opt (fun c => ∃ m, m < j ∧ m ≤ c ∧ P (k - m * w) (c - m)) (cellF p w k j)
  | 0, _ => ⟨fun _ => ⟨rfl, fun c h => by obtain ⟨m, hm, _⟩ := h; omega⟩, fun h => by simp [cellF] at h⟩
  | j + 1, hj => by
    have ih := cellF_opt hP j (fun m hm => hj m (by omega))
    have hk := hP (k - j * w) (by omega)
    rw [cellF_succ, upd]
    obtain ⟨r, hr⟩ : ∃ r, r = p.getD (k - j * w) 0 := ⟨_, rfl⟩
    obtain ⟨c0, hc0⟩ : ∃ c0, c0 = cellF p w k j := ⟨_, rfl⟩
    rw [← hr] at hk ⊢
    rw [← hc0] at ih ⊢
    split
    · rename_i hcond
      have hk2 := hk.2 hcond.1
      refine ⟨fun h => by omega, fun _ => ⟨⟨j, by omega, by omega, ?_⟩, ?_⟩⟩
      · have e : (r + (j : Int)).toNat - j = r.toNat := by omega
        rw [e]; exact hk2.1
      · rintro c ⟨m, hm, hmc, hp⟩
        by_cases hmj : m = j
        · subst hmj
          have := hk2.2 _ hp
          omega
        · rcases hcond.2 with h1 | h1
          · exact absurd ⟨m, by omega, hmc, hp⟩ ((ih.1 h1).2 c)
          · rcases Int.lt_or_le c0 0 with h2 | h2
            · omega
            · have := (ih.2 h2).2 c ⟨m, by omega, hmc, hp⟩
              omega
    · rename_i hcond
      refine ⟨fun h => ⟨(ih.1 h).1, ?_⟩, fun h => ⟨?_, ?_⟩⟩
      · rintro c ⟨m, hm, hmc, hp⟩
        by_cases hmj : m = j
        · subst hmj
          have hr0 : r < 0 := by omega
          exact (hk.1 hr0).2 _ hp
        · exact (ih.1 h).2 c ⟨m, by omega, hmc, hp⟩
      · obtain ⟨m, hm, h1, h2⟩ := (ih.2 h).1
        exact ⟨m, by omega, h1, h2⟩
      · rintro c ⟨m, hm, hmc, hp⟩
        by_cases hmj : m = j
        · subst hmj
          rcases Int.lt_or_le r 0 with h2 | h2
          · exact absurd hp ((hk.1 h2).2 _)
          · have := (hk.2 h2).2 _ hp
            omega
        · exact (ih.2 h).2 c ⟨m, by omega, hmc, hp⟩
def wN (ws : List Int) (i : Nat) : Nat := max 1 (ws.getD i 0).toNat
theorem wN_eq {ws : List Int} {i : Nat} (h : 1 ≤ ws.getD i 0) : wN ws i = (ws.getD i 0).toNat := by unfold wN; omega
def pl (ws : List Int) : List Int := List.replicate ws.length 400
theorem pl_get {ws : List Int} {i : Nat} (h : i < ws.length) : (pl ws).getD i 0 = 400 := by
  rw [pl, List.getD_eq_getElem?_getD, List.getElem?_replicate, if_pos h]; rfl
theorem rowF_opt {ws : List Int} (hw : ∀ i, i < ws.length → 1 ≤ ws.getD i 0) {n : Nat} (hn : n ≤ 400) : ∀ i, i ≤ ws.length → ∀ x, x ≤ n → Opt (Rp (wN ws) i x) ((rowF ws (pl ws) n i).getD x 0)
  | 0, _, x, hx => by
    cases x with
    | zero => exact ⟨fun h => by simp [rowF, row0] at h, fun _ => ⟨⟨rfl, rfl⟩, fun c _ => by simp [rowF, row0]⟩⟩
    | succ x =>
      have e : (rowF ws (pl ws) n 0).getD (x + 1) 0 = -1 := by
        simp only [rowF, row0, List.getD_cons_succ]
        rw [List.getD_eq_getElem?_getD, List.getElem?_replicate, if_pos (by omega)]; rfl
      rw [e]
      exact ⟨fun _ => ⟨rfl, fun c h => by have := h.1; omega⟩, fun h => by omega⟩
  | i + 1, hi, x, hx => by
    have ih := rowF_opt hw hn i (by omega)
    have hwi := hw i (by omega)
    rw [rowF_succ_get _ _ _ _ _ hx, pl_get (by omega)]
    have h1 : 0 < (ws.getD i 0).toNat := by omega
    have key := cellF_opt (p := rowF ws (pl ws) n i) (w := (ws.getD i 0).toNat) (k := x) (P := Rp (wN ws) i) (fun y hy => ih y (by omega)) (mst (ws.getD i 0).toNat (400 : Int).toNat x + 1) (fun m hm => ((mst_le h1).1 (show m ≤ mst (ws.getD i 0).toNat (400 : Int).toNat x by omega)).2)
    have heq : (fun c => ∃ m, m < mst (ws.getD i 0).toNat (400 : Int).toNat x + 1 ∧ m ≤ c ∧ Rp (wN ws) i (x - m * (ws.getD i 0).toNat) (c - m)) = Rp (wN ws) (i + 1) x := by
      funext c
      apply propext
      simp only [Rp, wN_eq hwi]
      constructor
      · rintro ⟨m, hm, h2, h3⟩
        exact ⟨m, ((mst_le h1).1 (show m ≤ mst (ws.getD i 0).toNat (400 : Int).toNat x by omega)).2, h2, h3⟩
      · rintro ⟨m, hm, h2, h3⟩
        refine ⟨m, ?_, h2, h3⟩
        have hmm : m ≤ m * (ws.getD i 0).toNat := Nat.le_mul_of_pos_right m h1
        have := (mst_le (s := (400 : Int).toNat) (k := x) h1).2 ⟨by simp; omega, hm⟩
        omega
    rw [heq] at key
    exact key

/-! Piece by piece. -/
def upd1 (o : List Int) (x : Nat) (c w : Int) : Int :=
  if w ≤ x ∧ 0 ≤ o.getD ((x : Int) - w).toNat 0 ∧ (c < 0 ∨ o.getD ((x : Int) - w).toNat 0 + 1 < c) then o.getD ((x : Int) - w).toNat 0 + 1 else c
def fwF (ws : List Int) : Nat → List Int
  | 0 => [0]
  | x + 1 => fwF ws x ++ [ws.foldl (upd1 (fwF ws x) (x + 1)) (-1)]
theorem fwF_len (ws : List Int) : ∀ x, (fwF ws x).length = x + 1
  | 0 => rfl
  | x + 1 => by simp [fwF, fwF_len ws x]
theorem fwF_get (ws : List Int) : ∀ (x y : Nat), y ≤ x → (fwF ws x).getD y 0 = (fwF ws y).getD y 0
  | 0, y, h => by have : y = 0 := by omega
                  subst this; rfl
  | x + 1, y, h => by
    by_cases hy : y = x + 1
    · subst hy; rfl
    · rw [fwF, List.getD_eq_getElem?_getD, List.getElem?_append_left (by rw [fwF_len]; omega), ← List.getD_eq_getElem?_getD]
      exact fwF_get ws x y (by omega)
theorem fwF_last (ws : List Int) (x : Nat) : (fwF ws (x + 1)).getD (x + 1) 0 = ws.foldl (upd1 (fwF ws x) (x + 1)) (-1) := by
  rw [fwF, List.getD_eq_getElem?_getD, List.getElem?_append_right (by rw [fwF_len]; omega), fwF_len]
  simp
/-- The fold over the kinds from some point on. -/
theorem fold_opt {o : List Int} {x : Nat} {Q : Int → Nat → Prop} (hQ : ∀ w : Int, 1 ≤ w → w ≤ x → Opt (Q w) (o.getD ((x : Int) - w).toNat 0)) :
    ∀ (l : List Int) (c : Int) (P : Nat → Prop), (∀ w ∈ l, 1 ≤ w) → Opt P c → Opt (fun d => P d ∨ ∃ w ∈ l, w ≤ x ∧ 1 ≤ d ∧ Q w (d - 1)) (l.foldl (upd1 o x) c)
  | [], c, P, _, h => by
    have : (fun d => P d ∨ ∃ w ∈ ([] : List Int), w ≤ x ∧ 1 ≤ d ∧ Q w (d - 1)) = P := by
      funext d; apply propext; simp
    rw [this]; exact h
  | w :: l, c, P, hl, h => by
    have h1 := hl w (by simp)
    have step : Opt (fun d => P d ∨ (w ≤ x ∧ 1 ≤ d ∧ Q w (d - 1))) (upd1 o x c w) := by
      unfold upd1
      obtain ⟨r, hr⟩ : ∃ r, r = o.getD ((x : Int) - w).toNat 0 := ⟨_, rfl⟩
      rw [← hr]
      by_cases hwx : w ≤ x
      · have hq := hQ w h1 hwx
        rw [← hr] at hq
        split
        · rename_i hc
          have hq2 := hq.2 hc.2.1
          refine ⟨fun h => by omega, fun _ => ⟨.inr ⟨hwx, by omega, ?_⟩, ?_⟩⟩
          · have e : (r + 1).toNat - 1 = r.toNat := by omega
            rw [e]; exact hq2.1
          · rintro d (hd | ⟨_, hd1, hd⟩)
            · rcases hc.2.2 with h2 | h2
              · exact absurd hd ((h.1 h2).2 d)
              · rcases Int.lt_or_le c 0 with h3 | h3
                · omega
                · have := (h.2 h3).2 d hd; omega
            · have := hq2.2 _ hd; omega
        · rename_i hc
          refine ⟨fun h2 => ⟨(h.1 h2).1, ?_⟩, fun h2 => ⟨.inl (h.2 h2).1, ?_⟩⟩
          · rintro d (hd | ⟨_, hd1, hd⟩)
            · exact (h.1 h2).2 d hd
            · have hr0 : r < 0 := by omega
              exact (hq.1 hr0).2 _ hd
          · rintro d (hd | ⟨_, hd1, hd⟩)
            · exact (h.2 h2).2 d hd
            · rcases Int.lt_or_le r 0 with h3 | h3
              · exact absurd hd ((hq.1 h3).2 _)
              · have := (hq.2 h3).2 _ hd; omega
      · rw [if_neg (fun hh => hwx hh.1)]
        have : (fun d => P d ∨ (w ≤ x ∧ 1 ≤ d ∧ Q w (d - 1))) = P := by
          funext d; apply propext; simp [hwx]
        rw [this]; exact h
    have := fold_opt hQ l (upd1 o x c w) _ (fun v hv => hl v (by simp [hv])) step
    rw [List.foldl_cons]
    have e : (fun d => P d ∨ ∃ v ∈ w :: l, v ≤ x ∧ 1 ≤ d ∧ Q v (d - 1)) = (fun d => (P d ∨ (w ≤ x ∧ 1 ≤ d ∧ Q w (d - 1))) ∨ ∃ v ∈ l, v ≤ x ∧ 1 ≤ d ∧ Q v (d - 1)) := by
      funext d; apply propext; simp [or_assoc]
    rw [e]; exact this
theorem mem_getD {ws : List Int} {w : Int} (h : w ∈ ws) : ∃ j, j < ws.length ∧ ws.getD j 0 = w := by
  obtain ⟨j, hj⟩ := List.mem_iff_getElem?.1 h
  exact ⟨j, (List.getElem?_eq_some_iff.1 hj).1, by rw [List.getD_eq_getElem?_getD, hj]; rfl⟩
theorem fwF_opt {ws : List Int} (hw : ∀ i, i < ws.length → 1 ≤ ws.getD i 0) : ∀ x, ∀ y, y ≤ x → Opt (Rp (wN ws) ws.length y) ((fwF ws x).getD y 0)
  | 0, y, hy => by
    have : y = 0 := by omega
    subst this
    exact ⟨fun h => by simp [fwF] at h, fun _ => ⟨Rp_nil, fun c _ => by simp [fwF]⟩⟩
  | x + 1, y, hy => by
    have ih := fwF_opt hw x
    by_cases hyx : y ≤ x
    · rw [fwF_get _ _ _ hy, ← fwF_get ws x y hyx]; exact ih y hyx
    · have hy1 : y = x + 1 := by omega
      subst hy1
      rw [fwF_last]
      have key := fold_opt (o := fwF ws x) (x := x + 1) (Q := fun w => Rp (wN ws) ws.length (((x + 1 : Nat) : Int) - w).toNat) (fun w h1 h2 => ih _ (by omega)) ws (-1) (fun _ => False) (fun w hm => by
        obtain ⟨j, hj, e⟩ := mem_getD hm
        rw [← e]; exact hw j hj) ⟨fun _ => ⟨rfl, fun _ h => h⟩, fun h => by omega⟩
      have e : (fun d => False ∨ ∃ w ∈ ws, w ≤ ((x + 1 : Nat) : Int) ∧ 1 ≤ d ∧ Rp (wN ws) ws.length (((x + 1 : Nat) : Int) - w).toNat (d - 1)) = Rp (wN ws) ws.length (x + 1) := by
        funext d
        apply propext
        constructor
        · rintro (h | ⟨w, hm, h1, h2, h3⟩)
          · exact h.elim
          · obtain ⟨j, hj, ej⟩ := mem_getD hm
            have hwj := hw j hj
            have := Rp_add (j := j) hj h3
            rw [wN_eq hwj, ej] at this
            have e1 : (((x + 1 : Nat) : Int) - w).toNat + w.toNat = x + 1 := by omega
            have e2 : d - 1 + 1 = d := by omega
            rw [e1, e2] at this
            exact this
        · intro h
          cases d with
          | zero => have := Rp_zero (fun i => by unfold wN; omega) h; omega
          | succ d =>
            obtain ⟨j, hj, hx, hr⟩ := Rp_sub h
            have hwj := hw j hj
            rw [wN_eq hwj] at hx hr
            refine .inr ⟨ws.getD j 0, ?_, by omega, by omega, ?_⟩
            · rw [List.getD_eq_getElem?_getD, List.getElem?_eq_getElem hj]; simp
            · have e1 : (((x + 1 : Nat) : Int) - ws.getD j 0).toNat = x + 1 - (ws.getD j 0).toNat := by omega
              rw [e1]; simpa using hr
      rw [e] at key
      exact key
/-- THE SAME. -/
theorem few_eq {ws : List Int} (hw : ∀ i, i < ws.length → 1 ≤ ws.getD i 0) {n : Nat} (hn : n ≤ 400) : rowF ws (pl ws) n ws.length = fwF ws n := by
  apply List.ext_getElem?
  intro x
  by_cases hx : x ≤ n
  · have h1 := rowF_opt hw hn ws.length (Nat.le_refl _) x hx
    have h2 := fwF_opt hw n x hx
    have := h1.eq h2
    rw [List.getD_eq_getElem?_getD, List.getD_eq_getElem?_getD] at this
    rw [List.getElem?_eq_getElem (by rw [rowF_len]; omega), List.getElem?_eq_getElem (by rw [fwF_len]; omega)] at this ⊢
    simpa using this
  · rw [List.getElem?_eq_none (by rw [rowF_len]; omega), List.getElem?_eq_none (by rw [fwF_len]; omega)]
end Go.Proofs.Ytjkkjfnkcfaigaa
