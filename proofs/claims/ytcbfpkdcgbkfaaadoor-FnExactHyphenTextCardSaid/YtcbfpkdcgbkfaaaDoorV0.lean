/-
  Hyphens in words: what is computed. No program here.
-/
import Derived.Test.YtcbfpkdcgbkfaaaDoorH0
import Derived.Lib.Replace
set_option linter.unusedSimpArgs false
set_option linter.unusedVariables false
namespace Go.Proofs.YtcbfpkdcgbkfaaaDoor
open Go.Ab

/-! Cut at the hyphens. -/
def spl : List UInt8 → List (List UInt8)
  | [] => [[]]
  | c :: r => if c = 45 then [] :: spl r else match spl r with | x :: xs => (c :: x) :: xs | [] => [[c]]
theorem spl_ne : ∀ s, spl s ≠ []
  | [] => by simp [spl]
  | c :: r => by
    unfold spl
    split
    · simp
    · split <;> simp
theorem spl_cons {c : UInt8} (h : c ≠ 45) (r : List UInt8) : ∃ x xs, spl r = x :: xs ∧ spl (c :: r) = (c :: x) :: xs := by
  cases hr : spl r with
  | nil => exact absurd hr (spl_ne r)
  | cons x xs => exact ⟨x, xs, rfl, by simp [spl, h, hr]⟩
theorem spl_none : ∀ {a : List UInt8}, (45 : UInt8) ∉ a → spl a = [a]
  | [], _ => rfl
  | c :: r, h => by
    simp at h
    obtain ⟨x, xs, h1, h2⟩ := spl_cons (fun e => h.1 e.symm) r
    rw [h2]
    rw [spl_none h.2] at h1
    cases h1; rfl
theorem spl_hit : ∀ {a : List UInt8} (r : List UInt8), (45 : UInt8) ∉ a → spl (a ++ 45 :: r) = a :: spl r
  | [], r, _ => by simp [spl]
  | c :: a, r, h => by
    simp at h
    obtain ⟨x, xs, h1, h2⟩ := spl_cons (fun e => h.1 e.symm) (a ++ 45 :: r)
    rw [spl_hit r h.2] at h1
    cases h1
    exact h2
theorem idx45 : ∀ s : List UInt8, (Lib.index s [45] = -1 ∧ (45 : UInt8) ∉ s) ∨ ∃ a r, s = a ++ 45 :: r ∧ (45 : UInt8) ∉ a ∧ Lib.index s [45] = a.length
  | [] => .inl ⟨rfl, by simp⟩
  | b :: l => by
    by_cases hb : b = 45
    · subst hb
      refine .inr ⟨[], l, rfl, by simp, ?_⟩
      simp [Lib.index, List.isPrefixOf]
    · have hp : List.isPrefixOf [45] (b :: l) = false := by
        simp [List.isPrefixOf]; exact fun e => hb e.symm
      rcases idx45 l with ⟨h1, h2⟩ | ⟨a, r, h1, h2, h3⟩
      · refine .inl ⟨by simp [Lib.index, hp, h1], ?_⟩
        simp; exact ⟨fun e => hb e.symm, h2⟩
      · refine .inr ⟨b :: a, r, by rw [h1]; rfl, ?_, ?_⟩
        · simp; exact ⟨fun e => hb e.symm, h2⟩
        · unfold Lib.index
          rw [if_neg (by rw [hp]; simp), h3, if_neg (by simp)]
          simp [List.length_cons]
theorem splitK_eq : ∀ (n : Nat) (s : List UInt8), s.length ≤ n → Lib.splitK [45] 0 (Lib.count s [45]) s = spl s
  | n, s, hn => by
    rcases idx45 s with ⟨h1, h2⟩ | ⟨a, r, h1, h2, h3⟩
    · rw [Lib.count_miss h1, spl_none h2]; rfl
    · have hd : s.drop (a.length + ([45] : List UInt8).length) = r := by rw [h1]; simp
      rw [Lib.count_hit (by simp) h3, hd, Nat.add_comm 1]
      unfold Lib.splitK
      rw [if_neg (by rw [h3]; simp), h3, Int.toNat_natCast, hd]
      match n, hn with
      | 0, hn => rw [h1] at hn; simp at hn
      | n + 1, hn =>
        rw [splitK_eq n r (by rw [h1] at hn; simp at hn; omega)]
        rw [h1, spl_hit r h2]
        simp
theorem replK_eq : ∀ (n : Nat) (s : List UInt8), s.length ≤ n → Lib.replaceK [45] [] (Lib.count s [45]) s = s.filter fun c => c ≠ 45
  | n, s, hn => by
    rcases idx45 s with ⟨h1, h2⟩ | ⟨a, r, h1, h2, h3⟩
    · rw [Lib.count_miss h1]
      show s = _
      symm
      rw [List.filter_eq_self]
      intro c hc
      simp
      intro e; subst e; exact h2 hc
    · have hd : s.drop (a.length + ([45] : List UInt8).length) = r := by rw [h1]; simp
      rw [Lib.count_hit (by simp) h3, hd, Nat.add_comm 1, Lib.replaceK_hit _ _ _ _ _ h3, hd]
      have ha : a.filter (fun c => c ≠ 45) = a := by
        rw [List.filter_eq_self]
        intro c hc
        simp
        intro e; subst e; exact h2 hc
      match n, hn with
      | 0, hn => rw [h1] at hn; simp at hn
      | n + 1, hn =>
        rw [replK_eq n r (by rw [h1] at hn; simp at hn; omega)]
        rw [h1, List.filter_append, ha]
        simp
def plainE (e : List UInt8) : List UInt8 := e.filter fun c => c ≠ 45
theorem replAll_eq (s : List UInt8) : Lib.replaceAll s [45] [] = plainE s := by
  unfold Lib.replaceAll Lib.replace Lib.replaceNum
  rw [if_neg (by simp), if_pos (.inl (by decide))]
  exact replK_eq _ s (Nat.le_refl _)

/-- The last part grows, or a new one begins. -/
theorem spl_snoc : ∀ (s : List UInt8) (c : UInt8), ∃ xs x, spl s = xs ++ [x] ∧ spl (s ++ [c]) = if c = 45 then xs ++ [x] ++ [[]] else xs ++ [x ++ [c]]
  | [], c => ⟨[], [], rfl, by by_cases h : c = 45 <;> simp [spl, h]⟩
  | b :: s, c => by
    obtain ⟨xs, x, h1, h2⟩ := spl_snoc s c
    by_cases hb : b = 45
    · refine ⟨[] :: xs, x, by simp [spl, hb, h1], ?_⟩
      simp only [List.cons_append, spl, hb, if_true, h2]
      by_cases hc : c = 45 <;> simp [hc]
    · cases xs with
      | nil =>
        refine ⟨[], b :: x, by simp [spl, hb, h1], ?_⟩
        simp only [List.cons_append, spl, hb, if_false, h2]
        by_cases hc : c = 45 <;> simp [hc]
      | cons y ys =>
        refine ⟨(b :: y) :: ys, x, by simp [spl, hb, h1], ?_⟩
        simp only [List.cons_append, spl, hb, if_false, h2]
        by_cases hc : c = 45 <;> simp [hc]

/-! Letters, words, exceptions. -/
def letC (c : UInt8) : Bool := inR (c.toNat : Int) 97 122
def letTo (s : List UInt8) (n : Nat) : Bool := (List.range n).all fun i => letC (s.getD i 0)
theorem letTo_succ (s : List UInt8) (n : Nat) : letTo s (n + 1) = (letTo s n && letC (s.getD n 0)) := by
  simp [letTo, List.range_succ, List.all_append]
theorem letTo_bad {s : List UInt8} {n i : Nat} (hi : i < n) (h : letC (s.getD i 0) = false) : letTo s n = false := by
  cases hb : letTo s n with
  | false => rfl
  | true =>
    simp only [letTo, List.all_eq_true, List.mem_range] at hb
    rw [hb i hi] at h; cases h
def letB (s : List UInt8) (lo hi : Int) : Bool := letTo s s.length && inR (s.length : Int) lo hi
theorem letTo_all (s : List UInt8) : letTo s s.length = s.all letC := by
  rw [Bool.eq_iff_iff]
  simp only [letTo, List.all_eq_true, List.mem_range]
  constructor
  · intro h c hc
    obtain ⟨i, hi, rfl⟩ := List.getElem_of_mem hc
    have := h i hi
    rwa [List.getD_eq_getElem?_getD, List.getElem?_eq_getElem hi] at this
  · intro h i hi
    rw [List.getD_eq_getElem?_getD, List.getElem?_eq_getElem hi]
    exact h _ (List.getElem_mem hi)
theorem letB_iff (s : List UInt8) (lo hi : Int) : letB s lo hi = true ↔ (∀ c ∈ s, letC c = true) ∧ lo ≤ s.length ∧ (s.length : Int) ≤ hi := by
  rw [letB, letTo_all, Bool.and_eq_true, inR_iff, List.all_eq_true]
def excB (e : List UInt8) : Bool := (spl e).all (fun p => letB p 1 16) && inR ((plainE e).length : Int) 2 16

/-- Lengths summed up as they come. -/
def cums : Int → List (List UInt8) → List Int
  | _, [] => []
  | n, p :: ps => (n + p.length) :: cums (n + p.length) ps
def tot : List (List UInt8) → Int
  | [] => 0
  | p :: ps => p.length + tot ps
theorem tot_app : ∀ (ps qs : List (List UInt8)), tot (ps ++ qs) = tot ps + tot qs
  | [], _ => by simp [tot]
  | p :: ps, qs => by simp only [List.cons_append, tot, tot_app ps qs]; omega
theorem cums_app : ∀ (n : Int) (ps : List (List UInt8)) (p : List UInt8), cums n (ps ++ [p]) = cums n ps ++ [n + tot ps + p.length]
  | n, [], p => by simp [cums, tot]
  | n, q :: ps, p => by
    simp only [List.cons_append, cums, tot]
    rw [cums_app (n + q.length) ps p]
    simp only [List.cons.injEq, true_and]
    congr 2; omega
theorem plainE_cons (c : UInt8) (r : List UInt8) : plainE (c :: r) = if c = 45 then plainE r else c :: plainE r := by
  by_cases h : c = 45 <;> simp [plainE, h]
theorem plainE_snoc (r : List UInt8) (c : UInt8) : plainE (r ++ [c]) = if c = 45 then plainE r else plainE r ++ [c] := by
  by_cases h : c = 45 <;> simp [plainE, h]
theorem spl_tot : ∀ e : List UInt8, tot (spl e) = (plainE e).length
  | [] => rfl
  | c :: r => by
    by_cases h : c = 45
    · rw [plainE_cons, if_pos h]
      simp only [spl, h, if_true, tot, List.length_nil]
      rw [spl_tot r]; simp
    · obtain ⟨x, xs, h1, h2⟩ := spl_cons h r
      have ih := spl_tot r
      rw [h1] at ih
      rw [h2, plainE_cons, if_neg h]
      simp only [tot, List.length_cons] at ih ⊢
      omega

/-! What the specification reads of an exception: the letters, the places of its hyphens. -/
def bF (e : List UInt8) : Nat → Option (List UInt8 × List Int)
  | 0 => some ([], [])
  | i + 1 => match bF e i with
    | none => none
    | some (b, v) =>
      if e.getD i 0 ≠ 45 then some (b ++ [e.getD i 0], v)
      else if b = [] ∨ (i : Int) = (e.length : Int) - 1 ∨ e.getD (i - 1) 0 = 45 then none else some (b, v ++ [(b.length : Int)])
def bL (e : List UInt8) : List UInt8 := match bF e e.length with | some x => x.1 | none => []
def bP (e : List UInt8) : List Int := match bF e e.length with | some x => x.2 | none => []
def bB (e : List UInt8) : Bool := match bF e e.length with | some x => letB x.1 1 16 && decide (1 < (x.1.length : Int)) | none => false
theorem bF_none {e : List UInt8} {i : Nat} (h : bF e i = none) : ∀ j, i ≤ j → bF e j = none
  | 0, hj => by
    have : i = 0 := by omega
    subst this; exact h
  | j + 1, hj => by
    by_cases hij : i = j + 1
    · subst hij; exact h
    · rw [bF, bF_none h j (by omega)]
theorem take_snoc (e : List UInt8) {i : Nat} (hi : i < e.length) : e.take (i + 1) = e.take i ++ [e.getD i 0] := take_getD 0 e i hi
/-- All parts but the last hold something. -/
def initNe (ps : List (List UInt8)) : Prop := ∀ p ∈ ps.dropLast, p ≠ []
theorem spl_last {s : List UInt8} {c : UInt8} {xs : List (List UInt8)} (h : spl (s ++ [c]) = xs ++ [[]]) : c = 45 := by
  obtain ⟨ys, y, _, h2⟩ := spl_snoc s c
  by_cases hc : c = 45
  · exact hc
  · rw [if_neg hc] at h2
    rw [h2] at h
    have := List.append_inj_right' h rfl
    simp at this
theorem bF_inv (e : List UInt8) : ∀ i, i ≤ e.length → ∀ b v, bF e i = some (b, v) →
    b = plainE (e.take i) ∧ v = (cums 0 (spl (e.take i))).dropLast ∧ initNe (spl (e.take i)) ∧ (0 < i → i = e.length → e.getD (i - 1) 0 ≠ 45)
  | 0, _, b, v, h => by
    simp only [bF, Option.some.injEq, Prod.mk.injEq] at h
    obtain ⟨rfl, rfl⟩ := h
    refine ⟨rfl, rfl, by simp [initNe, spl], fun h => by omega⟩
  | i + 1, hi, b, v, h => by
    rw [bF] at h
    cases hb : bF e i with
    | none => rw [hb] at h; cases h
    | some x =>
      obtain ⟨b0, v0⟩ := x
      obtain ⟨h1, h2, h3, h4⟩ := bF_inv e i (by omega) b0 v0 hb
      rw [hb] at h
      simp only at h
      rw [take_snoc e (by omega), plainE_snoc]
      obtain ⟨xs, x, s1, s2⟩ := spl_snoc (e.take i) (e.getD i 0)
      have hx : (cums 0 (spl (e.take i))).dropLast = cums 0 xs := by rw [s1, cums_app]; simp
      by_cases hc : e.getD i 0 = 45
      · rw [if_neg (fun hn => hn hc)] at h
        split at h
        · cases h
        · rename_i hn
          simp only [Option.some.injEq, Prod.mk.injEq] at h
          obtain ⟨rfl, rfl⟩ := h
          rw [if_pos hc] at s2
          have ht := spl_tot (e.take i)
          rw [s1, tot_app] at ht
          simp only [tot] at ht
          refine ⟨by rw [if_pos hc]; exact h1, ?_, ?_, ?_⟩
          · rw [s2, cums_app, List.dropLast_concat, cums_app, h2, hx, h1]
            congr 2
            omega
          · intro p hp
            rw [s2, List.dropLast_concat] at hp
            rcases List.mem_append.1 hp with hp | hp
            · exact h3 p (by rw [s1, List.dropLast_concat]; exact hp)
            · simp at hp
              subst hp
              intro e0
              refine hn (.inr (.inr ?_))
              cases i with
              | zero =>
                exfalso
                exact hn (.inl (by rw [h1]; rfl))
              | succ k =>
                rw [take_snoc e (by omega), e0] at s1
                exact spl_last s1
          · intro _ he
            exact absurd (.inr (.inl (by omega))) hn
      · rw [if_pos hc] at h
        simp only [Option.some.injEq, Prod.mk.injEq] at h
        obtain ⟨rfl, rfl⟩ := h
        rw [if_neg hc] at s2
        refine ⟨by rw [if_neg hc, h1], ?_, ?_, ?_⟩
        · rw [s2, cums_app, List.dropLast_concat, h2, hx]
        · intro p hp
          rw [s2, List.dropLast_concat] at hp
          exact h3 p (by rw [s1, List.dropLast_concat]; exact hp)
        · intro _ _
          exact hc
theorem spl_app : ∀ (a r : List UInt8), spl (a ++ 45 :: r) = spl a ++ spl r
  | [], r => by simp [spl]
  | c :: a, r => by
    have ih := spl_app a r
    by_cases h : c = 45
    · simp [spl, h, ih]
    · obtain ⟨x, xs, h1, h2⟩ := spl_cons h a
      obtain ⟨y, ys, h3, h4⟩ := spl_cons h (a ++ 45 :: r)
      rw [h1, h3] at ih
      simp only [List.cons_append, List.cons.injEq] at ih
      obtain ⟨rfl, rfl⟩ := ih
      rw [List.cons_append, h4, h2]; rfl
theorem mem_spl {c : UInt8} : ∀ e : List UInt8, c ∈ plainE e ↔ ∃ p ∈ spl e, c ∈ p
  | [] => by simp [plainE, spl]
  | d :: r => by
    have ih := mem_spl (c := c) r
    rw [plainE_cons]
    by_cases h : d = 45
    · rw [if_pos h, ih]; simp [spl, h]
    · obtain ⟨x, xs, h1, h2⟩ := spl_cons h r
      rw [if_neg h, h2]
      rw [h1] at ih
      simp only [List.mem_cons, ih]
      constructor
      · rintro (rfl | ⟨p, hp, hc⟩)
        · exact ⟨c :: x, .inl rfl, by simp⟩
        · rcases hp with rfl | hp
          · exact ⟨d :: p, .inl rfl, by simp [hc]⟩
          · exact ⟨p, .inr hp, hc⟩
      · rintro ⟨p, hp, hc⟩
        rcases hp with rfl | hp
        · simp at hc
          rcases hc with rfl | hc
          · exact .inl rfl
          · exact .inr ⟨x, .inl rfl, hc⟩
        · exact .inr ⟨p, .inr hp, hc⟩
theorem len_spl : ∀ e : List UInt8, ∀ p ∈ spl e, p.length ≤ (plainE e).length := by
  intro e p hp
  have h := spl_tot e
  have key : ∀ ps : List (List UInt8), p ∈ ps → (p.length : Int) ≤ tot ps := by
    intro ps
    induction ps with
    | nil => intro h; cases h
    | cons q ps ih =>
      intro hm
      have hn : ∀ qs : List (List UInt8), 0 ≤ tot qs := by
        intro qs
        induction qs with
        | nil => simp [tot]
        | cons q qs ih => simp only [tot]; omega
      simp only [tot]
      rcases List.mem_cons.1 hm with rfl | hm
      · have := hn ps; omega
      · have := ih hm; omega
  have := key _ hp
  omega
theorem split_at {e : List UInt8} {i : Nat} (hi : i < e.length) (h : e.getD i 0 = 45) : e = e.take i ++ 45 :: e.drop (i + 1) := by
  have h2 := drop_getD 0 e i hi
  rw [h] at h2
  rw [← h2, List.take_append_drop]
theorem bF_some {e : List UInt8} (h : ∀ p ∈ spl e, p ≠ []) : ∀ i, i ≤ e.length → ∃ x, bF e i = some x
  | 0, _ => ⟨_, rfl⟩
  | i + 1, hi => by
    obtain ⟨⟨b, v⟩, hb⟩ := bF_some h i (by omega)
    obtain ⟨h1, _⟩ := bF_inv e i (by omega) b v hb
    rw [bF, hb]
    simp only
    by_cases hc : e.getD i 0 = 45
    · rw [if_neg (fun hn => hn hc)]
      have he := split_at (by omega) hc
      have hs : spl e = spl (e.take i) ++ spl (e.drop (i + 1)) := by
        have := spl_app (e.take i) (e.drop (i + 1))
        rwa [← he] at this
      rw [if_neg]
      · exact ⟨_, rfl⟩
      · rintro (hb0 | hb0 | hb0)
        · have hm : ([] : List UInt8) ∈ spl (e.take i) := by
            rw [hb0] at h1
            cases ht : e.take i with
            | nil => simp [spl]
            | cons c r =>
              rw [ht, plainE_cons] at h1
              split at h1
              · rename_i h45; simp [spl, h45]
              · cases h1
          exact h [] (by rw [hs]; exact List.mem_append_left _ hm) rfl
        · have : e.drop (i + 1) = [] := List.drop_of_length_le (by omega)
          rw [this] at hs
          exact h [] (by rw [hs]; exact List.mem_append_right _ (by simp [spl])) rfl
        · cases i with
          | zero =>
            exact h [] (by rw [hs]; exact List.mem_append_left _ (by simp [spl])) rfl
          | succ k =>
            have : spl (e.take (k + 1)) = spl (e.take k) ++ [[]] := by
              rw [take_snoc e (by omega)]
              have hb0 : e.getD k 0 = 45 := hb0
              rw [hb0, spl_app]; rfl
            exact h [] (by rw [hs, this]; simp) rfl
    · rw [if_pos hc]; exact ⟨_, rfl⟩
theorem bB_eq (e : List UInt8) : bB e = excB e := by
  rw [Bool.eq_iff_iff]
  constructor
  · intro h
    unfold bB at h
    split at h
    · rename_i x hx
      obtain ⟨b, v⟩ := x
      obtain ⟨h1, h2, h3, h4⟩ := bF_inv e e.length (Nat.le_refl _) b v hx
      rw [List.take_length] at h1 h3
      simp only [Bool.and_eq_true, decide_eq_true_eq, letB_iff] at h
      obtain ⟨⟨g1, g2, g3⟩, g4⟩ := h
      subst h1
      have hne : e ≠ [] := by intro e0; rw [e0] at g4; simp [plainE] at g4
      have hlen : 0 < e.length := List.length_pos_iff.2 hne
      have hl := h4 hlen rfl
      have hsp : e = e.take (e.length - 1) ++ [e.getD (e.length - 1) 0] := by
        rw [← take_snoc e (by omega), show e.length - 1 + 1 = e.length by omega, List.take_length]
      obtain ⟨xs, y, s1, s2⟩ := spl_snoc (e.take (e.length - 1)) (e.getD (e.length - 1) 0)
      rw [← hsp, if_neg hl] at s2
      simp only [excB, Bool.and_eq_true, List.all_eq_true, inR_iff, letB_iff]
      refine ⟨fun p hp => ⟨fun c hc => g1 c ((mem_spl e).2 ⟨p, hp, hc⟩), ?_, ?_⟩, by omega, g3⟩
      · have : p ≠ [] := by
          rw [s2] at hp
          rcases List.mem_append.1 hp with hp | hp
          · exact h3 p (by rw [s2, List.dropLast_concat]; exact hp)
          · simp at hp; rw [hp]; simp
        have := List.length_pos_iff.2 this
        omega
      · have := len_spl e p hp
        omega
    · cases h
  · intro h
    simp only [excB, Bool.and_eq_true, List.all_eq_true, inR_iff, letB_iff] at h
    obtain ⟨hp, g2, g3⟩ := h
    obtain ⟨⟨b, v⟩, hx⟩ := bF_some (e := e) (fun p hm => by have := (hp p hm).2.1; intro e0; rw [e0] at this; simp at this) e.length (Nat.le_refl _)
    obtain ⟨h1, h2, h3, h4⟩ := bF_inv e e.length (Nat.le_refl _) b v hx
    rw [List.take_length] at h1
    unfold bB
    rw [hx]
    simp only [Bool.and_eq_true, decide_eq_true_eq, letB_iff]
    subst h1
    refine ⟨⟨fun c hc => ?_, by omega, g3⟩, by omega⟩
    obtain ⟨p, hm, hc⟩ := (mem_spl e).1 hc
    exact (hp p hm).1 c hc
theorem bL_eq {e : List UInt8} (h : excB e = true) : bL e = plainE e ∧ bP e = (cums 0 (spl e)).dropLast := by
  rw [← bB_eq] at h
  unfold bB at h
  split at h
  · rename_i x hx
    obtain ⟨b, v⟩ := x
    obtain ⟨h1, h2, _⟩ := bF_inv e e.length (Nat.le_refl _) b v hx
    rw [List.take_length] at h1 h2
    simp [bL, bP, hx, h1, h2]
  · cases h
end Go.Proofs.YtcbfpkdcgbkfaaaDoor
