/-
  SOUNDNESS, PART NINE: append; all operations that write or make memory.
-/
import Derived.Test.YtdkpncnkhnmidaaDoorAb10
import Derived.Laws.RangeString
set_option linter.unusedSimpArgs false
set_option linter.unusedVariables false
namespace Go.Ab
open Go.RowKit

section
variable {P : Program} {tt : Nat → TI} {w0 w w' : World} {S0 : Base} {ρ : List Loc} {s : St} {a : Act} {o : Oper} {K : AV → St → Prop}

/-- A new object; an empty one may lie nowhere. -/
theorem Inv.new (hI : Inv w0 S0 ρ s a w) {loc' : Loc} {E : Nat} {r : Row} (hg : w.grownBy w' none) (hks : loc'.ks = []) (hnew : loc'.z = false → loc'.g = w.heap.size) (hz' : loc'.z = true → nl r = 0)
    (h6 : loc'.z = false → ∃ cur' cs', w'.heap[loc'.g]? = some (.cells cur' E (0, 0)) ∧ cur'.size = loc'.K ∧ RC w (okO w0 S0 ρ s.h) r cs' ∧ cur'.toList.take cs'.length = cs' ∧ cs'.length ≤ loc'.K) :
    Inv w0 S0 (ρ ++ [loc']) ⟨s.t, s.h ++ [.row E r]⟩ a w' := by
  have live_old : ∀ {o loc E' r'}, live (ρ ++ [loc']) (s.h ++ [.row E r]) o loc E' r' → (live ρ s.h o loc E' r') ∨ (o = s.h.length ∧ loc = loc' ∧ E' = E ∧ r' = r) := by
    intro o loc E' r' ⟨h1, h2⟩
    rcases Nat.lt_or_ge o s.h.length with ho | ho
    · rw [List.getElem?_append_left ho] at h1
      rw [List.getElem?_append_left (by rw [hI.len]; exact ho)] at h2
      exact .inl ⟨h1, h2⟩
    · rw [List.getElem?_append_right ho] at h1
      rw [List.getElem?_append_right (by rw [hI.len]; exact ho)] at h2
      obtain ⟨d, hd⟩ : ∃ d, o = s.h.length + d := ⟨o - s.h.length, by omega⟩
      subst hd
      rw [hI.len] at h2
      simp only [Nat.add_sub_cancel_left] at h1 h2
      cases d with
      | zero => simp at h1 h2; exact .inr ⟨rfl, h2.symm, h1.1.symm, h1.2.symm⟩
      | succ d => simp at h1
  have hfr : ∀ k, loc'.has k → w.heap.size ≤ k ∧ k < w'.heap.size := by
    rintro k ⟨hz, h1 | h1⟩
    · subst h1
      obtain ⟨_, _, q, _⟩ := h6 hz
      have := hnew hz
      exact ⟨by omega, (Array.getElem?_eq_some_iff.1 q).1⟩
    · rw [hks] at h1; cases h1
  have hblk : ∀ k, k < w.heap.size → w'.heap[k]? = w.heap[k]? := fun k hk => hg.block k hk (by simp)
  have hS : Same w w' (okB ρ s.h) (okB (ρ ++ [loc']) (s.h ++ [.row E r])) := by
    refine ⟨hg.size, fun k hk hok => ⟨hblk k hk, fun o loc E' r' hlv hz => ?_⟩⟩
    rcases live_old hlv with h | ⟨_, rfl, _⟩
    · exact hok o loc E' r' h hz
    · have := hfr k hz; omega
  refine hI.step ⟨hg.os, hg.tape, hg.output, hg.size, fun k hk _ => hblk k hk⟩ hS hI.pin_app (by simp [hI.len]) ?_ ?_ rfl ?_
  · intro o loc E' r' hlv
    rcases live_old hlv with h | ⟨_, rfl, rfl, rfl⟩
    · obtain ⟨h1, h2⟩ := hI.obj o loc E' r' h
      exact ⟨h1.same hS.o (fun k hz => hblk _ (hI.block h hz)), fun k hk => ⟨(h2 k hk).1, Nat.lt_of_lt_of_le (h2 k hk).2 hg.size⟩⟩
    · constructor
      · cases hzz : loc.z with
        | true => exact .inl ⟨hzz, hz' hzz⟩
        | false =>
          obtain ⟨cur', cs', q1, q2, q3, q4, q5⟩ := h6 hzz
          exact .inr ⟨hzz, .inl ⟨cur', cs', q1, q2, q3.same hS.o, q5, q4⟩⟩
      · intro k hk
        exact ⟨.inr (Nat.le_trans hI.keep.size (hfr k hk).1), (hfr k hk).2⟩
  · intro o o' loc loc2 E1 E2 r1 r2 k h1 h2 z1 z2
    rcases live_old h1 with q1 | ⟨rfl, rfl, _⟩ <;> rcases live_old h2 with q2 | ⟨rfl, rfl, _⟩
    · exact hI.inj _ _ _ _ _ _ _ _ k q1 q2 z1 z2
    · have := hI.block q1 z1; have := hfr k z2; omega
    · have := hI.block q2 z2; have := hfr k z1; omega
    · rfl
  · intro i x hx
    refine .inr ⟨hx, ⟨by simp, fun o _ ho E' r' hr' => ?_⟩⟩
    rw [List.getElem?_append_left ho] at hr'
    exact ⟨List.getElem?_append_left (by rw [hI.len]; exact ho), E', r', hr', rfl, rfl⟩

/-- The cells that a slice is read as. -/
theorem src_sound (hI : Inv w0 S0 ρ s a w) {y : AV} {v : Value} {r : Row} (hv : VR w (okB ρ s.h) ρ s.h y v) (h : src alg s.h y = some r) :
    ∃ A c news, v = .slice A (nl r) c ∧ RC w (okO w0 S0 ρ s.h) r news ∧ (0 < nl r → ∃ ad, A = some ad ∧ ∀ j u, news[j]? = some u → w.cell? (ad.add j) = some u) := by
  unfold src at h
  split at h
  · cases h
  · cases h
  rename_i hn1 hn2
  unfold view at h
  split at h
  · rename_i q
    simp at h; subst h
    obtain ⟨A, cap, cs, rfl, _, _, hr, hc⟩ := hv
    have hr' : RC w (okO w0 S0 ρ s.h) q cs := by
      cases q <;> first | exact hr | exact absurd rfl (hn1 _) | exact absurd rfl (hn2 _)
    exact ⟨A, cap, cs, rfl, hr', fun hp => by obtain ⟨ad, h1, _, _, h2⟩ := hc hp; exact ⟨ad, h1, h2⟩⟩
  · rename_i ob z
    split at h
    · rename_i E r' hob
      split at h
      case h_2 => cases h
      rename_i hrk
      simp at h; subst h
      obtain ⟨_, hv⟩ := hv
      obtain ⟨loc, hl, hv⟩ := hv E r' (gO hob)
      rcases hv with ⟨_, _, rfl, h0⟩ | ⟨hz, cap, rfl, _⟩
      · exact ⟨none, 0, [], by rw [h0], RC.of_zero (rowk_x hrk) h0, fun hp => by omega⟩
      · obtain ⟨_, cs, hr, _, hc⟩ := (hI.obj ob loc E r' ⟨gO hob, hl⟩).1.cell hz (rowk_x hrk)
        exact ⟨_, cap, cs, rfl, hr, fun _ => ⟨_, rfl, fun j u hu => by rw [add_lit', Nat.zero_add]; exact hc j u hu⟩⟩
    · cases h
  · rename_i ob b n
    split at h
    · rename_i E r' hob
      split at h
      case h_2 => cases h
      rename_i hrk
      simp at h; subst h
      obtain ⟨_, hv⟩ := hv
      obtain ⟨loc, hl, hv⟩ := hv E r' (gO hob)
      rcases hv with ⟨_, rfl, rfl, rfl, h0⟩ | ⟨hz, cap, ad, rfl, _, _, _, h6, h7⟩
      · have e : nl (r'.win alg 0 (alg.nadd 0 0)) = 0 := by rw [nl_win _ _ (by simp [alg])]; rfl
        exact ⟨none, 0, [], by rw [e], RC.of_zero (by rw [show (r'.win alg 0 (alg.nadd 0 0)).rk = r'.rk by cases r' <;> first | rfl | cases hrk]; exact rowk_x hrk) e, fun hp => by omega⟩
      · obtain ⟨_, cs, hr, hlen, hc⟩ := (hI.obj ob loc E r' ⟨gO hob, hl⟩).1.cell hz (rowk_x hrk)
        have e : nl (r'.win alg b (alg.nadd b n)) = n := by rw [nl_win _ _ (by simp only [alg]; omega)]; simp [alg]
        refine ⟨_, cap, _, by rw [e], hr.win _ _, fun hp => ⟨ad, rfl, fun j u hu => ?_⟩⟩
        rw [e] at hp
        have had := h7 (.inl hp)
        subst had
        rw [List.getElem?_drop, List.getElem?_take] at hu
        split at hu
        · rw [add_lit']; exact hc _ _ hu
        · cases hu
    · cases h
  · cases h

/-- Where an append goes. -/
def DestOK (w : World) (loc : Loc) (E size : Nat) (v : Value) (n : Nat) (cs : List Value) : Prop :=
  (loc.z = true ∧ v = .slice none 0 0 ∧ n = 0 ∧ cs = []) ∨
  (loc.z = false ∧ ∃ cap cur, v = .slice (some ⟨loc.g, 0, none⟩) n cap ∧ w.heap[loc.g]? = some (.cells cur E (0, 0)) ∧ cs.length = n * size ∧ n ≤ cap ∧ cap ≤ maxLen ∧ cap * size ≤ cur.size ∧ cur.size = loc.K ∧ cur.toList.take cs.length = cs)

def ResOK (w w' : World) (loc loc' : Loc) (E size : Nat) (v' : Value) (n : Nat) (cs : List Value) : Prop :=
  (loc'.z = true ∧ loc.z = true ∧ v' = .slice none 0 0 ∧ n = 0) ∨
  (loc'.z = false ∧ ((loc.z = false ∧ loc'.g = loc.g) ∨ loc'.g = w.heap.size) ∧
    ∃ cap' cur', v' = .slice (some ⟨loc'.g, 0, none⟩) n cap' ∧ n ≤ cap' ∧ cap' ≤ maxLen ∧ cap' * size ≤ loc'.K ∧ w'.heap[loc'.g]? = some (.cells cur' E (0, 0)) ∧ cur'.size = loc'.K ∧ cs.length ≤ loc'.K ∧ cur'.toList.take cs.length = cs)

theorem run_app {t ty E : Nat} {i : TypeInfo} {z : Value} (ht : P.underlying t = some (.slice E)) (hi : P.info? E = some i) (hz : i.zero = some z) (hzs : z.cells.size = i.size) (hby : i.bytes ≤ 64)
    {loc : Loc} {v : Value} {n m c : Nat} {cs news : List Value} {A : Option Addr} (hd : DestOK w loc E i.size v n cs) (hl : news.length = m * i.size) (h1 : ∀ u ∈ news, u.oneCell' = true)
    (hs : 0 < m → ∃ ad, A = some ad ∧ ∀ j u, news[j]? = some u → w.cell? (ad.add j) = some u) (hn : n ≤ 1099511627776) (hm : m ≤ 1099511627776) :
    ∃ v' w' loc', (Builtin.append_ #[t, t] ty #[v, .slice A m c]).run P w = .ok v' w' ∧ w.grownBy w' (rowOf loc) ∧ ResOK w w' loc loc' E i.size v' (n + m) (cs ++ news) := by
  have hbytes : (n + m) * i.bytes ≤ 140737488355328 := Nat.le_trans (Nat.mul_le_mul_left _ hby) (by omega)
  have hmax : n + m ≤ maxLen := by simp [maxLen]; omega
  -- a new array
  have grown : ∀ (old : Nat) (row : Option Nat), n + m ≤ grownCap w (n + m) old E → cs.length = n * i.size →
      w.grownBy (w.drew.alloc (.cells (cs.toArray ++ news.toArray ++ Builtin.zeroCells z.cells (grownCap w (n + m) old E - (n + m))) E)) row ∧
      ResOK w (w.drew.alloc (.cells (cs.toArray ++ news.toArray ++ Builtin.zeroCells z.cells (grownCap w (n + m) old E - (n + m))) E)) loc ⟨w.heap.size, grownCap w (n + m) old E * i.size, false, []⟩ E i.size
        (.slice (some ⟨w.heap.size, 0, none⟩) (n + m) (grownCap w (n + m) old E)) (n + m) (cs ++ news) := by
    intro old row hge hcl
    refine ⟨⟨rfl, rfl, rfl, by simp, fun k hk _ => Below.heap_alloc w.drew _ k hk⟩, .inr ⟨rfl, .inr rfl, _, _, rfl, hge, grownCap_le_maxLen w _ _ E hmax, Nat.le_refl _, heap_alloc_new w.drew _, ?_, ?_, ?_⟩⟩
    · simp only [Array.size_append, List.size_toArray, size_zeroCells, hzs, hcl, hl, ← Nat.add_mul]
      congr 1
      omega
    · rw [List.length_append, hcl, hl, ← Nat.add_mul]
      exact Nat.mul_le_mul_right _ hge
    · simp only [Array.toList_append, List.append_assoc]
      rw [← List.append_assoc]
      exact List.take_left
  rcases hd with ⟨hz', rfl, rfl, rfl⟩ | ⟨hz', cap, cur, rfl, hg, hcl, hnc, hcm, hck, hK, ht'⟩
  · by_cases hm0 : m = 0
    · subst hm0
      refine ⟨.slice none 0 0, w, ⟨0, 0, true, []⟩, ?_, World.grownBy.refl w _, .inl ⟨rfl, hz', rfl, rfl⟩⟩
      cases A <;> simp [Builtin.append_, run_underlying ht, sizeOf, typeInfo, hi, Builtin.lenOf, Builtin.firstCells, loadCells, loadCellsFrom]
    · obtain ⟨ad, rfl, hc⟩ := hs (by omega)
      have hr := run_append_nil (P := P) w t ty E i z ht hi hz ad m c news hl hc (by omega) (by simp [maxLen] at hmax; omega) (by simp at hbytes; omega)
      obtain ⟨g1, g2⟩ := grown 0 (rowOf loc) (grownCap_ge w _ 0 E) (by simp)
      simp only [Nat.zero_add, List.nil_append, Array.empty_append] at hr g1 g2 ⊢
      exact ⟨_, _, _, hr, g1, g2⟩
  · have hrow : rowOf loc = some loc.g := by simp [rowOf, hz']
    rw [hrow]
    have hcells : ∀ j u, cs[j]? = some u → w.cell? ((⟨loc.g, 0, none⟩ : Addr).add j) = some u := by
      intro j u hu
      rw [add_lit', Nat.zero_add, cell_of_row w loc.g j cur E (0, 0) hg]
      have : (cur.toList.take cs.length)[j]? = some u := by rw [ht']; exact hu
      rw [List.getElem?_take] at this
      split at this
      · simpa using this
      · cases this
    by_cases hroom : n + m ≤ cap
    · have hfit : n * i.size + news.length ≤ cur.size := by
        rw [hl, ← Nat.add_mul]; exact Nat.le_trans (Nat.mul_le_mul_right _ hroom) hck
      have hnew : news = [] ∨ ∃ ad, A = some ad ∧ ∀ j u, news[j]? = some u → w.cell? (ad.add j) = some u := by
        rcases Nat.eq_zero_or_pos m with h0 | h0
        · subst h0; exact .inl (List.eq_nil_of_length_eq_zero (by simpa using hl))
        · exact .inr (hs h0)
      have hr : (Builtin.append_ #[t, t] ty #[.slice (some ⟨loc.g, 0, none⟩) n cap, .slice A m c]).run P w =
          .ok (.slice (some ⟨loc.g, 0, none⟩) (n + m) cap) (w.setRow loc.g (cur.toList.take (n * i.size) ++ news ++ cur.toList.drop (n * i.size + news.length)).toArray) := by
        cases A with
        | some ad =>
          rcases hnew with rfl | ⟨ad', e, hc⟩
          · exact run_append_room (P := P) w t ty E i ht hi loc.g n cap cur hg ad m c [] hl (by simp) (by simp) hroom (by simpa using hfit)
          · cases e
            exact run_append_room (P := P) w t ty E i ht hi loc.g n cap cur hg ad m c news hl hc h1 hroom hfit
        | none =>
          have hm0 : m = 0 := by
            rcases Nat.eq_zero_or_pos m with h0 | h0
            · exact h0
            · obtain ⟨ad, e, _⟩ := hs h0; cases e
          subst hm0
          obtain rfl : news = [] := List.eq_nil_of_length_eq_zero (by simpa using hl)
          have e : (cur.toList.take (n * i.size) ++ [] ++ cur.toList.drop (n * i.size + ([] : List Value).length)).toArray = cur := by simp
          rw [e, setRow_self w loc.g cur E (0, 0) hg]
          simp [Builtin.append_, run_underlying ht, sizeOf, typeInfo, hi, Builtin.lenOf, Builtin.firstCells, hnc, storeCells]
      have hlen : (cs ++ news).length = n * i.size + news.length := by rw [List.length_append, hcl]
      refine ⟨_, _, ⟨loc.g, loc.K, false, []⟩, hr, ⟨rfl, rfl, rfl, by simp, fun k _ hk => setRow_other w loc.g k _ (fun e => hk (by rw [e]))⟩, .inr ⟨rfl, .inl ⟨hz', rfl⟩, cap, _, rfl, hroom, hcm, by rw [← hK]; exact hck, setRow_heap w loc.g cur _ E _ hg, ?_, ?_, ?_⟩⟩
      · simp only [List.size_toArray, List.length_append, List.length_take, List.length_drop, Array.length_toList]
        omega
      · rw [hlen, ← hK]; exact hfit
      · rw [← hcl, ht']
        exact List.take_left
    · by_cases hm0 : m = 0
      · omega
      · obtain ⟨ad, rfl, hc⟩ := hs (by omega)
        have hr := run_append_grow (P := P) w t ty E i z ht hi hz ⟨loc.g, 0, none⟩ n cap cs hcl hcells ad m c news hl hc (by omega) (by simp [maxLen] at hmax; omega) (growslice_fits (by omega) hbytes)
        obtain ⟨g1, g2⟩ := grown cap (some loc.g) (grownCap_ge w _ cap E) hcl
        exact ⟨_, _, _, hr, g1, g2⟩

theorem RC.app {ok : Nat → Prop} {q r q' : Row} {cs news : List Value} (hs : q.app alg r = some q') (h1 : RC w ok q cs) (h2 : RC w ok r news) : RC w ok q' (cs ++ news) ∧ nl q' = nl q + nl r ∧ wd q' = wd q ∧ q'.rk = q.rk := by
  unfold Row.app at hs
  split at hs
  · split at hs
    · rename_i hk
      cases kb_eq hk
      simp at hs; subst hs
      simp only [RC] at h1 h2; subst h1; subst h2
      exact ⟨by simp [RC, alg], by simp [nl, Row.nlen, alg], rfl, rfl⟩
    · cases hs
  · simp at hs; subst hs
    simp only [RC] at h1 h2; subst h1; subst h2
    exact ⟨by simp [RC, alg], by simp [nl, Row.nlen, alg], rfl, rfl⟩
  · simp at hs; subst hs
    simp only [RC] at h1 h2; subst h1; subst h2
    exact ⟨by simp [RC, alg], by simp [nl, Row.nlen, alg], rfl, rfl⟩
  · split at hs
    · rename_i hk
      cases nbeq hk
      simp at hs; subst hs
      obtain ⟨a1, rfl⟩ := h1
      obtain ⟨a2, rfl⟩ := h2
      refine ⟨⟨fun x hx => ?_, by simp [alg]⟩, by simp [nl, Row.nlen, alg], rfl, rfl⟩
      simp [alg] at hx
      rcases hx with hx | hx
      · exact a1 x hx
      · exact a2 x hx
    · cases hs
  · rename_i l l'
    simp at hs; subst hs
    refine ⟨⟨by simp [alg, h1.1, h2.1], fun i v hv => ?_⟩, by simp [nl, Row.nlen, alg], rfl, rfl⟩
    simp only [alg]
    rcases Nat.lt_or_ge i cs.length with hi | hi
    · rw [List.getElem?_append_left hi] at hv
      have := h1.2 i v hv
      rwa [show (l ++ l').getD i [] = l.getD i [] by simp [List.getD, List.getElem?_append_left (h1.1 ▸ hi)]]
    · rw [List.getElem?_append_right hi] at hv
      have := h2.2 _ v hv
      rwa [show (l ++ l').getD i [] = l'.getD (i - cs.length) [] by simp [List.getD, List.getElem?_append_right (h1.1 ▸ hi), h1.1]]
  · rename_i l l'
    simp at hs; subst hs
    refine ⟨⟨by simp [alg, h1.1, h2.1], fun i v hv => ?_⟩, by simp [nl, Row.nlen, alg], rfl, rfl⟩
    simp only [alg]
    rcases Nat.lt_or_ge i cs.length with hi | hi
    · rw [List.getElem?_append_left hi] at hv
      have := h1.2 i v hv
      rwa [show (l ++ l').getD i [] = l.getD i [] by simp [List.getD, List.getElem?_append_left (h1.1 ▸ hi)]]
    · rw [List.getElem?_append_right hi] at hv
      have := h2.2 _ v hv
      rwa [show (l ++ l').getD i [] = l'.getD (i - cs.length) [] by simp [List.getD, List.getElem?_append_right (h1.1 ▸ hi), h1.1]]
  · cases hs

theorem nil_nl (e : RK) (hrk : e.rowk = true) : nl e.nil = 0 := by cases e <;> first | (cases hrk; done) | simp [RK.nil, nl, Row.nlen, alg]

theorem ms_append (hT : TTok P tt) (hI : Inv w0 S0 ρ s a w) {args : Array Operand} {ts : Array TypeId} (ho : o.op = .call { callee := .builtin .append, args := args, argTypes := ts })
    (h : memOp alg tt s (.call { callee := .builtin .append, args := args, argTypes := ts }) K) : MS P o a w w0 S0 K := by
  simp only [memOp] at h
  split at h
  · rename_i x y t t' hxa hta
    obtain rfl := args2 hxa
    obtain rfl := args2 hta
    clear hxa hta
    have hx := ev_sound hI x
    have hy := ev_sound hI y
    split at h
    · rename_i htk
      split at h
      · rename_i ob ob2 htt hxe hye
        have htt := nbeq htt
        subst htt
        rw [hxe] at hx
        rw [hye] at hy
        split at h
        · rename_i E q E2 r hob hob2 hne hpos
          have hpos := nblt hpos
          have hne : ob ≠ ob2 := fun e => by subst e; simp at hne
          split at h
          · rename_i htE
            obtain ⟨e, he⟩ : ∃ e, (tt t).sl = some (E, e) := by
              unfold tabE at htE
              split at htE
              · rename_i E0 e' hsl
                exact ⟨e', by rw [hsl, nbeq htE]⟩
              · cases htE
            have hetab : e = .tab := by
              rw [he] at htk
              cases e <;> first | rfl | (cases htk; done)
            subst hetab
            obtain ⟨hu, hE⟩ := hT.sl _ _ _ he
            obtain ⟨i, hi, hsz, hby, hz⟩ := hE.info
            have hsz1 : i.size = 1 := hsz
            obtain ⟨hr1, hr2, hk⟩ := h
            simp only [alg] at hr1 hr2
            obtain ⟨hlt, hv⟩ := hx
            obtain ⟨loc, hloc, hv⟩ := hv E _ (gO hob)
            obtain ⟨_, hv2⟩ := hy
            obtain ⟨loc2, hloc2, hv2⟩ := hv2 E2 _ (gO hob2)
            rcases hv with ⟨_, hf, _⟩ | ⟨hzz, cap, ev1, c1, c2, c3⟩
            · cases hf
            rcases hv2 with ⟨_, hf, _⟩ | ⟨hzz2, cap2, ev2, d1, d2, d3⟩
            · cases hf
            have hlive : live ρ s.h ob loc E (.tabs q) := ⟨gO hob, hloc⟩
            have hlive2 : live ρ s.h ob2 loc2 E2 (.tabs r) := ⟨gO hob2, hloc2⟩
            have tab : ∀ {ok : Nat → Prop} {lc : Loc} {E0 : Nat} {l0 : List (List Int)}, lc.z = false → ObjOK w ok lc E0 (.tabs l0) → TabObj w lc E0 l0 := by
              intro ok lc E0 l0 h0 hO
              rcases hO with ⟨h, _⟩ | ⟨_, ⟨_, _, _, _, h, _⟩ | h⟩
              · rw [h0] at h; cases h
              · exact h.elim
              · exact h
            obtain ⟨nd1, gk1, kl1, cur1, cs1, a1, a2, a3, a4, a5, a6⟩ := tab hzz (hI.obj _ _ _ _ hlive).1
            obtain ⟨nd2, gk2, kl2, cur2, cs2, b1, b2, b3, b4, b5, b6⟩ := tab hzz2 (hI.obj _ _ _ _ hlive2).1
            have one2 : ∀ u ∈ cs2, u.oneCell' = true := by
              intro u hu
              obtain ⟨j, hj⟩ := List.mem_iff_getElem?.1 hu
              have hjl : j < r.length := by rw [← b3]; exact (List.getElem?_eq_some_iff.1 hj).1
              obtain ⟨cp, cu, E', g1, _⟩ := b6 j _ hjl (List.getElem?_eq_getElem (by omega))
              rw [hj] at g1
              cases g1; rfl
            have hdest : DestOK w loc E i.size (a.eval x) q.length cs1 := .inr ⟨hzz, cap, cur1, ev1, a1, by rw [a3, hsz1, Nat.mul_one], by simpa [nl, Row.nlen, alg] using c1, c2, by rw [a2, hsz1]; simpa [wd] using c3, a2, a5⟩
            obtain ⟨v', w', loc0, hr, hgrow, hres⟩ := run_app (P := P) (w := w) (ty := o.type) (c := cap2) (A := some ⟨loc2.g, 0, none⟩) (m := r.length) (news := cs2) hu hi hz (by rw [zv_len, hsz]) hby hdest (by rw [b3, hsz1, Nat.mul_one]) one2 (fun _ => ⟨_, rfl, fun j u hu => by
              rw [add_lit', Nat.zero_add, cell_of_row w loc2.g j cur2 E2 (0, 0) b1]
              have : (cur2.toList.take cs2.length)[j]? = some u := by rw [b5]; exact hu
              rw [List.getElem?_take] at this
              split at this
              · simpa using this
              · cases this⟩) (by omega) (by omega)
            obtain ⟨hz0, hg0, cap', cur', g0, g1, g2, g3, g4, g5, g6, g7⟩ : loc0.z = false ∧ ((loc.z = false ∧ loc0.g = loc.g) ∨ loc0.g = w.heap.size) ∧
                ∃ cap' cur', v' = .slice (some ⟨loc0.g, 0, none⟩) (q.length + r.length) cap' ∧ q.length + r.length ≤ cap' ∧ cap' ≤ maxLen ∧ cap' * i.size ≤ loc0.K ∧ w'.heap[loc0.g]? = some (.cells cur' E (0, 0)) ∧ cur'.size = loc0.K ∧ (cs1 ++ cs2).length ≤ loc0.K ∧ cur'.toList.take (cs1 ++ cs2).length = cs1 ++ cs2 := by
              rcases hres with ⟨_, h2, _⟩ | h
              · rw [hzz] at h2; cases h2
              · exact h
            have blk1 : ∀ k, loc.has k → k < w.heap.size := fun k hk => hI.block hlive hk
            have blk2 : ∀ k, loc2.has k → k < w.heap.size := fun k hk => hI.block hlive2 hk
            have dis : ∀ k, loc.has k → ¬ loc2.has k := fun k h1 h2 => hne (hI.inj _ _ _ _ _ _ _ _ k hlive hlive2 h1 h2)
            have keepk : ∀ k, k < w.heap.size → k ≠ loc.g → w'.heap[k]? = w.heap[k]? := by
              intro k hk hkg
              refine hgrow.block k hk (fun e => hkg ?_)
              unfold rowOf at e
              rw [hzz] at e
              simpa using e
            have m1 : ∀ k, k ∈ loc.ks.take q.length → loc.has k := fun k hk => ⟨hzz, .inr (List.mem_of_mem_take hk)⟩
            have m2 : ∀ k, k ∈ loc2.ks.take r.length → loc2.has k := fun k hk => ⟨hzz2, .inr (List.mem_of_mem_take hk)⟩
            have htl : (loc.ks.take q.length).length = q.length := by rw [List.length_take]; omega
            have htl2 : (loc2.ks.take r.length).length = r.length := by rw [List.length_take]; omega
            refine ⟨_, _, _, _, _, hk, hI.moveK (by omega) hlive hne hlive2 hgrow (loc' := ⟨loc0.g, loc0.K, false, loc.ks.take q.length ++ loc2.ks.take r.length⟩) (fun k hk => ?_) (fun ok' _ => .inr ⟨rfl, .inr ⟨?_, ?_, ?_, cur', cs1 ++ cs2, g4, g5, ?_, g6, g7, fun j k hj hjk => ?_⟩⟩), ?_, .inl ⟨v', rfl, ?_⟩, fun hh => by simp [wr, ho] at hh⟩
            · obtain ⟨_, h1 | h1⟩ := hk
              · simp only at h1
                subst h1
                rcases hg0 with ⟨_, e⟩ | e
                · exact .inl (by rw [e]; exact Loc.has_g hzz)
                · exact .inr (.inr ⟨by omega, (Array.getElem?_eq_some_iff.1 g4).1⟩)
              · rcases List.mem_append.1 h1 with h1 | h1
                · exact .inl (m1 k h1)
                · exact .inr (.inl (m2 k h1))
            · refine List.nodup_append.2 ⟨nd1.sublist (List.take_sublist _ _), nd2.sublist (List.take_sublist _ _), fun x hx y hy e => ?_⟩
              subst e
              exact dis x (m1 x hx) (m2 x hy)
            · simp only
              intro h1
              rcases List.mem_append.1 h1 with h1 | h1
              · rcases hg0 with ⟨_, e⟩ | e
                · rw [e] at h1; exact gk1 (List.mem_of_mem_take h1)
                · have := blk1 _ (m1 _ h1); omega
              · rcases hg0 with ⟨_, e⟩ | e
                · rw [e] at h1; exact dis _ (Loc.has_g hzz) (m2 _ h1)
                · have := blk2 _ (m2 _ h1); omega
            · simp [alg, htl, htl2]
            · simp [alg, a3, b3]
            · simp only [alg, List.length_append] at hj
              simp only [alg]
              rcases Nat.lt_or_ge j q.length with hjq | hjq
              · rw [List.getElem?_append_left (by rw [htl]; exact hjq), List.getElem?_take, if_pos hjq] at hjk
                obtain ⟨cp, cu, E', p1, p2, p3, p4, p5, p6⟩ := a6 j k hjq hjk
                have ek : (q ++ r).getD j [] = q.getD j [] := by simp [List.getD, List.getElem?_append_left hjq]
                rw [ek]
                refine ⟨cp, cu, E', by rw [List.getElem?_append_left (by omega)]; exact p1, p2, p3, p4, ?_, p6⟩
                rw [keepk k (Array.getElem?_eq_some_iff.1 p5).1 (fun e => gk1 (e ▸ List.mem_of_getElem? hjk))]
                exact p5
              · rw [List.getElem?_append_right (by rw [htl]; exact hjq), htl, List.getElem?_take, if_pos (by omega)] at hjk
                obtain ⟨cp, cu, E', p1, p2, p3, p4, p5, p6⟩ := b6 (j - q.length) k (by omega) hjk
                have ek : (q ++ r).getD j [] = r.getD (j - q.length) [] := by simp [List.getD, List.getElem?_append_right hjq]
                rw [ek]
                refine ⟨cp, cu, E', by rw [List.getElem?_append_right (by omega), a3]; exact p1, p2, p3, p4, ?_, p6⟩
                rw [keepk k (Array.getElem?_eq_some_iff.1 p5).1 (fun e => dis _ (Loc.has_g hzz) ⟨hzz2, .inr (e ▸ List.mem_of_getElem? hjk)⟩)]
                exact p5
            · have eyv : a.eval y = .slice (some ⟨loc2.g, 0, none⟩) r.length cap2 := by rw [ev2]; simp [nl, Row.nlen, alg]
              simp only [execOp, ho]
              simp [resolve, invoke, builtin, eyv, hr]
            · refine ⟨by simpa using hlt, fun E' r' hr' => ?_⟩
              rw [List.getElem?_set_self (by simpa using hlt)] at hr'
              simp at hr'
              obtain ⟨rfl, rfl⟩ := hr'
              refine ⟨_, List.getElem?_set_self (by rw [hI.len]; exact hlt), .inr ⟨rfl, cap', ?_, ?_, g2, ?_⟩⟩
              · rw [g0]; simp [nl, Row.nlen, alg]
              · simpa [nl, Row.nlen, alg] using g1
              · rw [hsz1] at g3; simpa [wd] using g3
          · exact h.elim
        · exact h.elim
      · exact h.elim
    rename_i htk
    split at h
    · rename_i E e r htt he hsrc
      have htt := nbeq htt
      subst htt
      obtain ⟨hu, hE⟩ := hT.sl _ _ _ he
      obtain ⟨i, hi, hsz, hby, hz⟩ := hE.info
      have src : ∃ A c news, a.eval y = .slice A (nl r) c ∧ RC w (okO w0 S0 ρ s.h) r news ∧ (0 < nl r → ∃ ad, A = some ad ∧ ∀ j u, news[j]? = some u → w.cell? (ad.add j) = some u) := by
        split at hsrc
        · rename_i hey
          rw [hey] at hy
          split at hsrc
          · rename_i E2 e2 hsl2
            simp at hsrc; subst hsrc
            have hrk2 := hT.slk _ _ _ hsl2 (fun e0 => by rw [hsl2, e0] at htk; cases htk)
            have hz2 := nil_nl e2 hrk2
            exact ⟨none, 0, [], by rw [hz2]; exact hy, RC.of_zero (by cases e2 <;> first | (simp [RK.nil, Row.rk]; done) | cases hrk2) hz2, fun hp => by rw [hz2] at hp; omega⟩
          · cases hsrc
        · exact src_sound hI hy hsrc
      obtain ⟨A, c, news, hyv, hrc, hcell⟩ := src
      split at h
      · exact h.elim
      · rename_i heq
        have her := RK.eqb_eq heq
        have hwr : wd r = i.size := by rw [hsz, ← her, sz_wd]
        have hl : news.length = nl r * i.size := by rw [hrc.length, hwr]
        have run : ∀ {v v' : Value} {w' : World}, a.eval x = v → (Builtin.append_ #[t, t] o.type #[v, .slice A (nl r) c]).run P w = .ok v' w' → (execOp a.eval o).run P w = .ok (.value v') w' := by
          intro v v' w' e hr
          simp only [execOp, ho]
          simp [resolve, invoke, builtin, e, hyv, hr]
        split at h
        · rename_i hex
          rw [hex] at hx
          obtain ⟨hroom, hk⟩ := h
          rw [len_nl] at hroom
          simp only [alg] at hroom
          obtain ⟨v', w', loc0, hr, hgrow, hres⟩ := run_app (P := P) (w := w) (ty := o.type) (loc := ⟨0, 0, true, []⟩) (v := .slice none 0 0) (n := 0) (c := c) (A := A) (cs := []) hu hi hz (by rw [zv_len, hsz]) hby (.inl ⟨rfl, rfl, rfl, rfl⟩) hl hrc.one hcell (by omega) (by omega)
          simp only [Nat.zero_add, List.nil_append] at hres
          obtain ⟨loc', hks, hres⟩ : ∃ loc' : Loc, loc'.ks = [] ∧ ResOK w w' ⟨0, 0, true, []⟩ loc' E i.size v' (nl r) news := ⟨⟨loc0.g, loc0.K, loc0.z, []⟩, rfl, hres⟩
          have hnew : loc'.z = false → loc'.g = w.heap.size := by
            intro hzz
            rcases hres with ⟨h1, _⟩ | ⟨_, h2, _⟩
            · rw [hzz] at h1; cases h1
            · rcases h2 with ⟨h2, _⟩ | h2
              · cases h2
              · exact h2
          refine ⟨_, _, _, _, _, hk, hI.new (loc' := loc') hgrow hks hnew (fun hzz => ?_) (fun hzz => ?_), run hx hr, .inl ⟨v', rfl, ?_⟩, fun hh => by simp [wr, ho] at hh⟩
          · rcases hres with ⟨_, _, _, h0⟩ | ⟨h1, _⟩
            · exact h0
            · rw [hzz] at h1; cases h1
          · rcases hres with ⟨h1, _⟩ | ⟨_, _, cap', cur', _, _, _, _, g1, g2, g3, g4⟩
            · rw [hzz] at h1; cases h1
            · exact ⟨cur', news, g1, g2, hrc, g4, g3⟩
          · refine ⟨by simp, fun E' r' hr' => ?_⟩
            simp at hr'
            obtain ⟨rfl, rfl⟩ := hr'
            refine ⟨loc', by rw [← hI.len]; simp, ?_⟩
            rcases hres with ⟨h1, _, h3, h0⟩ | ⟨h1, _, cap', cur', g0, g1, g2, g3, _⟩
            · exact .inl ⟨h1, rfl, h3, h0⟩
            · exact .inr ⟨h1, cap', g0, g1, g2, by rw [hwr]; exact g3⟩
        · rename_i ob z hex
          rw [hex] at hx
          split at h
          · rename_i E' q hob
            split at h
            · rename_i q' happ
              split at h
              · rename_i hEE hpos
                have hEE := nbeq hEE
                have hpos := nblt hpos
                subst hEE
                obtain ⟨hr1, hr2, hk⟩ := h
                rw [len_nl] at hr1 hr2
                simp only [alg] at hr1 hr2
                obtain ⟨hlt, hv⟩ := hx
                obtain ⟨loc, hloc, hv⟩ := hv E q (gO hob)
                have hlive : live ρ s.h ob loc E q := ⟨gO hob, hloc⟩
                have hO := (hI.obj ob loc E q hlive).1
                have hkind : q.rk = r.rk := by
                  unfold Row.app at happ
                  split at happ <;> first | rfl | (cases happ; done) | (split at happ <;> first | (rename_i hkk; cases kb_eq hkk; rfl) | (rename_i hkk; cases nbeq hkk; rfl) | (cases happ; done))
                have hwq : wd q = i.size := by rw [← sz_wd, hkind, sz_wd, hwr]
                obtain ⟨cs, hd, hqc⟩ : ∃ cs, DestOK w loc E i.size (a.eval x) (nl q) cs ∧ RC w (okO w0 S0 ρ s.h) q cs := by
                  rcases hv with ⟨z1, _, z3, h0⟩ | ⟨hzz, cap, e, g1, g2, g3⟩
                  · exact ⟨[], .inl ⟨z1, z3, h0, rfl⟩, RC.of_zero (by intro e; cases q <;> first | (cases e; done) | (cases happ; done)) h0⟩
                  · obtain ⟨cur, cs, p1, p2, p3, p4, p5⟩ := hO.solid hzz (by intro e; cases q <;> first | (cases e; done) | (cases happ; done))
                    exact ⟨cs, .inr ⟨hzz, cap, cur, e, p1, by rw [p3.length, hwq], g1, g2, by rw [p2, ← hwq]; exact g3, p2, p5⟩, p3⟩
                obtain ⟨v', w', loc0, hr, hgrow, hres⟩ := run_app (P := P) (w := w) (ty := o.type) (c := c) (A := A) hu hi hz (by rw [zv_len, hsz]) hby hd hl hrc.one hcell (by omega) (by omega)
                obtain ⟨hq', hnq, hwq', _⟩ := RC.app happ hqc hrc
                rw [← hnq] at hres
                obtain ⟨loc', hks, hres⟩ : ∃ loc' : Loc, loc'.ks = [] ∧ ResOK w w' loc loc' E i.size v' (nl q') (cs ++ news) := ⟨⟨loc0.g, loc0.K, loc0.z, []⟩, rfl, hres⟩
                refine ⟨_, _, _, _, _, hk, hI.move (by omega) hlive hgrow (loc' := loc') hks (fun hzz => ?_) (fun hzz => ?_) (fun hzz => ?_), run rfl hr, .inl ⟨v', rfl, ?_⟩, fun hh => by simp [wr, ho] at hh⟩
                · rcases hres with ⟨h1, _⟩ | ⟨_, h2, _⟩
                  · rw [hzz] at h1; cases h1
                  · exact h2
                · rcases hres with ⟨_, _, _, h0⟩ | ⟨h1, _⟩
                  · exact h0
                  · rw [hzz] at h1; cases h1
                · rcases hres with ⟨h1, _⟩ | ⟨_, _, cap', cur', _, _, _, _, g1, g2, g3, g4⟩
                  · rw [hzz] at h1; cases h1
                  · exact ⟨cur', _, g1, g2, hq', g4, g3⟩
                · refine ⟨by simpa using hlt, fun E' r' hr' => ?_⟩
                  simp only [List.getElem?_set_self hlt] at hr'
                  simp at hr'
                  obtain ⟨rfl, rfl⟩ := hr'
                  refine ⟨loc', by rw [List.getElem?_set_self (by rw [hI.len]; exact hlt)], ?_⟩
                  rcases hres with ⟨h1, h2, h3, h0⟩ | ⟨h1, _, cap', cur', g0, g1, g2, g3, _⟩
                  · refine .inl ⟨h1, ?_, h3, h0⟩
                    rcases hv with ⟨_, hzt, _⟩ | ⟨hzf, _⟩
                    · exact hzt
                    · rw [h2] at hzf; cases hzf
                  · exact .inr ⟨h1, cap', g0, g1, g2, by rw [hwq', hwq]; exact g3⟩
              · exact h.elim
            · exact h.elim
          · exact h.elim
        · exact h.elim
    · exact h.elim
  · exact h.elim

/-! ### a string's iterator; a map from integers to Booleans -/
theorem it_new {r : Row} {E K0 : Nat} {v : Value} {f : Nat → Value} {h : List AO} (hl : ρ.length = h.length) : ∀ E' r', (h ++ [AO.row E r])[h.length]? = some (.row E' r') → ∃ loc, (ρ ++ [(⟨w.heap.size, K0, false, []⟩ : Loc)])[h.length]? = some loc ∧ loc.z = false ∧ f w.heap.size = f loc.g := by
  intro E' r' _
  exact ⟨⟨w.heap.size, K0, false, []⟩, by rw [← hl]; simp, rfl, rfl⟩

theorem ms_range (hT : TTok P tt) (hI : Inv w0 S0 ρ s a w) {t : Nat} {x : Operand} (ho : o.op = .range t x) (h : memOp alg tt s (.range t x) K) : MS P o a w w0 S0 K := by
  simp only [memOp] at h
  have hx := ev_sound hI x
  split at h
  · rename_i b he hxe
    rw [hxe] at hx
    have e1 : a.eval x = .string ⟨b.toArray⟩ := hx
    have hu : P.underlying t = some .string := (hT.el t _ he).desc
    refine ⟨_, _, _, _, _, h, hI.allocX (ob := .stringIter ⟨b.toArray⟩ 0) (K := 0) (fun ok' _ => .inr ⟨rfl, .inr (heap_alloc_new w _)⟩), ?_, .inl ⟨.pointer (some ⟨w.heap.size, 0, none⟩), rfl, ⟨by simp, it_new (v := .nilIface) (f := fun k => .pointer (some ⟨k, 0, none⟩)) hI.len⟩⟩, fun _ => after_alloc _ _⟩
    simp only [execOp, ho, e1]
    have := run_range_string (P := P) w t ⟨b.toArray⟩ hu
    simp only [World.iter] at this
    simp [Sem.run_bind, this]
  · exact h.elim

theorem ms_makeMap (hI : Inv w0 S0 ρ s a w) {t : Nat} (ho : o.op = .makeMap t none) (h : memOp alg tt s (.makeMap t none) K) : MS P o a w w0 S0 K := by
  simp only [memOp] at h
  split at h
  · refine ⟨_, _, _, _, _, h, hI.allocX (ob := .map #[] 0) (K := 0) (fun ok' _ => .inr ⟨rfl, .inr ⟨#[], 0, heap_alloc_new w _, by simp⟩⟩), ?_, .inl ⟨.map (some w.heap.size), rfl, ⟨by simp, it_new (v := .nilIface) (f := fun k => .map (some k)) hI.len⟩⟩, fun _ => after_alloc _ _⟩
    simp only [execOp, ho]
    simp [Instr.makeMap, Sem.run_bind]
  · exact h.elim

def spPut (w : World) (k : Nat) (ob : Obj) : World := { w with heap := w.heap.setIfInBounds k ob }
theorem sp_other (w : World) (k j : Nat) (ob : Obj) (h : j ≠ k) : (spPut w k ob).heap[j]? = w.heap[j]? := by simp [spPut, Ne.symm h]
theorem sp_same (w : World) (k : Nat) (ob : Obj) (h : k < w.heap.size) : (spPut w k ob).heap[k]? = some ob := by simp [spPut, h]
theorem sp_size (w : World) (k : Nat) (ob : Obj) : (spPut w k ob).heap.size = w.heap.size := by simp [spPut]

theorem run_next_it {s : ByteArray} {pos k : Nat} {ty : TypeId} (hk : w.heap[k]? = some (.stringIter s pos)) (h : pos < s.size) (ha : (s[pos]'h).toNat < 128) :
    (Instr.next (.pointer (some ⟨k, 0, none⟩)) true ty).run P w = .ok (.tuple #[.bool true, .int .i64 pos, .int .i32 (s[pos]'h).toNat]) (spPut w k (.stringIter s (pos + 1))) := by
  simp only [Instr.next, getObj, setObj, Sem.run_bind, Sem.run, hk, Result.andThen, h, if_true, decode_ascii s pos h ha]
  simp [goInt, spPut]
theorem run_next_over {s : ByteArray} {pos k : Nat} {ty : TypeId} (hk : w.heap[k]? = some (.stringIter s pos)) (h : ¬ pos < s.size) :
    (Instr.next (.pointer (some ⟨k, 0, none⟩)) true ty).run P w = .ok (.tuple #[.bool false]) w := by
  simp [Instr.next, getObj, Sem.run, hk, h]

theorem ms_next (hI : Inv w0 S0 ρ s a w) {x : Operand} (ho : o.op = .next x true) (h : memOp alg tt s (.next x true) K) : MS P o a w w0 S0 K := by
  simp only [memOp] at h
  have hx := ev_sound hI x
  split at h
  · rename_i ob hxe
    rw [hxe] at hx
    split at h
    · rename_i E b p hob
      obtain ⟨_, hv⟩ := hx
      obtain ⟨loc, hl, hz, hv⟩ := hv _ _ (gO hob)
      have hlive : live ρ s.h ob loc E (.itr b p) := ⟨gO hob, hl⟩
      have hk : w.heap[loc.g]? = some (.stringIter ⟨b.toArray⟩ p) := by
        rcases (hI.obj _ _ _ _ hlive).1 with ⟨h, _⟩ | ⟨_, ⟨_, _, _, _, h, _⟩ | h⟩
        · rw [hz] at h; cases h
        · exact h.elim
        · exact h
      have hlt : loc.g < w.heap.size := (Array.getElem?_eq_some_iff.1 hk).1
      have hsz : (⟨b.toArray⟩ : ByteArray).size = b.length := by show b.toArray.size = _; simp
      by_cases hp : p < b.length
      · obtain ⟨hb, hk2⟩ := h.t (by simp only [alg]; exact decide_eq_true (by omega))
        have hps : p < (⟨b.toArray⟩ : ByteArray).size := by rw [hsz]; exact hp
        have hbe : (⟨b.toArray⟩ : ByteArray)[p]'hps = b.getD p 0 := by
          simp [ByteArray.getElem_eq_getElem_data, List.getD, hp]
        have ha : ((⟨b.toArray⟩ : ByteArray)[p]'hps).toNat < 128 := by
          rw [hbe]
          have := hb.2
          simp only [alg] at this
          omega
        refine ⟨_, _, _, _, .value (.tuple #[.bool true, .int .i64 p, .int .i32 ((⟨b.toArray⟩ : ByteArray)[p]'hps).toNat]), hk2, hI.writeX (w' := spPut w loc.g (.stringIter ⟨b.toArray⟩ (p + 1))) hlive hz rfl rfl rfl rfl rfl (sp_size _ _ _) (fun k hk => sp_other _ _ _ _ hk) (fun ok' _ => .inr ⟨hz, .inr (sp_same _ _ _ hlt)⟩), ?_, .inl ⟨_, rfl, ?_⟩, fun hh => by simp [wr, ho] at hh⟩
        · simp only [execOp, ho, hv]
          simp [Sem.run_bind, run_next_it (P := P) (ty := o.type) hk hps ha]
        · exact ⟨_, _, _, rfl, rfl, rfl, by rw [hbe]; rfl⟩
      · have hk2 := h.f (by simp only [alg]; exact decide_eq_false (by omega))
        refine ⟨_, _, _, _, _, hk2, hI, ?_, .inl ⟨.tuple #[.bool false], rfl, ?_⟩, fun hh => by simp [wr, ho] at hh⟩
        · simp only [execOp, ho, hv]
          simp [Sem.run_bind, run_next_over (P := P) (ty := o.type) hk (by rw [hsz]; exact hp)]
        · exact ⟨_, rfl, rfl⟩
    · exact h.elim
  · exact h.elim

theorem run_update_int {t k e b : Nat} {es : Array MapEntry} {c : Nat} {l : List (Int × Bool)} {n : Int} {v : Bool} (ht : P.underlying t = some (.map k e)) (hk : P.underlying k = some (.int .i64))
    (hb : w.heap[b]? = some (.map es c)) (he : es.toList.map (fun e => (e.key, e.val)) = l.map (fun p => (Value.int .i64 p.1, Value.bool p.2))) :
    ∃ es' c', (Instr.mapUpdate t (.map (some b)) (.int .i64 n) (.bool v)).run P w = .ok () (spPut w b (.map es' c')) ∧ es'.toList.map (fun e => (e.key, e.val)) = (msetF l n v).map (fun p => (Value.int .i64 p.1, Value.bool p.2)) := by
  have hck : (Instr.checkKey false 10000 k (.int .i64 n)).run P w = .ok () w := by
    have : ∀ d : Nat, (Instr.checkKey false (d + 1) k (.int .i64 n)).run P w = .ok () w := fun d => by
      simp only [Instr.checkKey, Sem.run_bind, run_underlying hk, Result.andThen_ok]; rfl
    exact this 9999
  rcases findNow_int (q := .i64) (n := n) l es.toList 0 he with ⟨h1, _, h3⟩ | ⟨j, e', h1, h2, h3, h4⟩
  · have hf : (Instr.findKey k (.int .i64 n) es.toList).run P w = .ok none w := by
      simp only [Instr.findKey, Sem.run_bind, run_underlying hk, Result.andThen_ok, h1]; rfl
    refine ⟨es.push { key := .int .i64 n, val := .bool v, born := c }, c + 1, ?_, by rw [h3]; simp [he]⟩
    simp [Instr.mapUpdate, run_underlying ht, getObj, setObj, Sem.run, hb, hck, hf, spPut]
  · have hf : (Instr.findKey k (.int .i64 n) es.toList).run P w = .ok (some (0 + j, .bool (mgetF l n))) w := by
      simp only [Instr.findKey, Sem.run_bind, run_underlying hk, Result.andThen_ok, h1]; rfl
    have hj : es[j]? = some e' := by rw [← Array.getElem?_toList]; exact h2
    have hst : (Instr.keyThatStays (.int .i64 n) (.int .i64 n)).run P w = .ok (.int .i64 n) w := by
      have : Instr.sameBits 10000 (.int .i64 n) (.int .i64 n) = true := by simp [Instr.sameBits]
      simp [Instr.keyThatStays, this]
    refine ⟨es.modify j (fun e => { e with key := .int .i64 n, val := .bool v }), c, ?_, ?_⟩
    · simp [Instr.mapUpdate, run_underlying ht, getObj, setObj, Sem.run, hb, hck, hf, hj, h3, hst, spPut]
    · rw [h4, List.map_set, ← he]
      apply List.ext_getElem?
      intro i
      simp only [List.getElem?_map, Array.toList_modify, List.getElem?_modify, List.getElem?_set, List.length_map]
      by_cases hij : j = i
      · subst hij
        have hlt : j < es.size := by simpa using (List.getElem?_eq_some_iff.1 h2).1
        simp [h2, hlt]
      · simp [hij]

theorem ms_mapUpdate (hT : TTok P tt) (hI : Inv w0 S0 ρ s a w) {t : Nat} {m k x : Operand} (ho : o.op = .mapUpdate t m k x) (h : memOp alg tt s (.mapUpdate t m k x) K) : MS P o a w w0 S0 K := by
  simp only [memOp] at h
  have hm := ev_sound hI m
  have hk := ev_sound hI k
  have hx := ev_sound hI x
  split at h
  · rename_i ob n b he hme hke hxe
    rw [hme] at hm
    rw [hke] at hk
    rw [hxe] at hx
    split at h
    · rename_i E l hob
      obtain ⟨_, hv⟩ := hm
      obtain ⟨loc, hl, hz, hv⟩ := hv _ _ (gO hob)
      have hlive : live ρ s.h ob loc E (.mpr l) := ⟨gO hob, hl⟩
      obtain ⟨es, c, h3, h4⟩ : SpOK w loc E (.mpr l) := by
        rcases (hI.obj _ _ _ _ hlive).1 with ⟨h, _⟩ | ⟨_, ⟨_, _, _, _, h, _⟩ | h⟩
        · rw [hz] at h; cases h
        · exact h.elim
        · exact h
      have hlt : loc.g < w.heap.size := (Array.getElem?_eq_some_iff.1 h3).1
      obtain ⟨kt, et, _, d1, d2, _⟩ := (hT.el t _ he).desc
      have e2 : a.eval k = .int .i64 n := hk
      have e3 : a.eval x = .bool b := hx
      obtain ⟨es', c', r1, r2⟩ := run_update_int (w := w) (n := n) (v := b) d1 d2 h3 h4
      refine ⟨_, _, _, _, .skip, h, hI.writeX (w' := spPut w loc.g (.map es' c')) hlive hz rfl rfl rfl rfl rfl (sp_size _ _ _) (fun k hk => sp_other _ _ _ _ hk) (fun ok' _ => .inr ⟨hz, .inr ⟨es', c', sp_same _ _ _ hlt, r2⟩⟩), ?_, .inr ⟨rfl, rfl⟩, fun hh => by simp [wr, ho] at hh⟩
      simp only [execOp, ho, hv, e2, e3]
      exact run_u r1
    · exact h.elim
  · exact h.elim

/-- EVERY OPERATION THAT WRITES OR MAKES MEMORY. -/
theorem memOp_sound (hT : TTok P tt) (hI : Inv w0 S0 ρ s a w) (h : memOp alg tt s o.op K) : MS P o a w w0 S0 K := by
  generalize ho : o.op = op at h
  have h0 := h
  unfold memOp at h
  split at h
  · exact ms_alloc hT hI ho h0
  · exact ms_box hI ho h0
  · exact ms_store hT hI ho h0
  · exact ms_range hT hI ho h0
  · exact ms_next hI ho h0
  · exact ms_makeMap hI ho h0
  · exact ms_mapUpdate hT hI ho h0
  · exact ms_make hT hI ho h0
  · exact ms_lit hT hI ho h0
  · exact ms_append hT hI ho h0
  · exact h.elim

end
end Go.Ab
