/-
  A CONTRACT from the abstract evaluation of a function's body.
-/
import Derived.Test.YtdkpncnkhnmidaaDoorAb15
set_option linter.unusedSimpArgs false
set_option linter.unusedVariables false
namespace Go.Ab
open Go.RowKit

/-- The rows among the results. -/
def sel (A : Alg) (h : List AO) : AV → Option (Nat × Nat × Row)
  | .own o _ => match getO h o with | some (E, r) => some (o, E, r) | none => none
  | .win o a n => match Nat.beq a 0, getO h o with | true, some (E, r) => (match r.rk.rowk with | true => some (o, E, r.win A 0 n) | false => none) | _, _ => none
  | _ => none
def ren (i : Nat) : AV → AV
  | .own _ z => .own i z
  | _ => .own i true
def plain : AV → Bool
  | .rc _ _ => true
  | v => scalar v
def isOwn : AV → Bool
  | .own _ _ => true
  | .win _ _ _ => true
  | _ => false

/-- The results as the caller sees them. -/
def rets (A : Alg) (h : List AO) : Nat → List AV → (List AV → List (Nat × Nat × Row) → Prop) → Prop
  | _, [], K => K [] []
  | i, x :: xs, K =>
    match isOwn x with
    | true => match sel A h x with | some e => rets A h (i + 1) xs fun vs es => K (ren i x :: vs) (e :: es) | none => False
    | false => match plain x with | true => rets A h i xs fun vs es => K (x :: vs) es | false => False

def tupOf : List AV → AV
  | [x] => x
  | [x, y] => .t2 x y
  | [x, y, z] => .t3 x y z
  | _ => .undef

def nodupB : List Nat → Bool
  | [] => true
  | x :: xs => !(xs.any (Nat.beq x ·)) && nodupB xs

/-- What the caller may be told: less than what is known. -/
def RW : AV → AV → List (Nat × Row) → List (Nat × Row) → Prop
  | .nilS, .own 0 true, [], [(_, row)] => row.nlen alg = 0
  | .t2 .nilS b, .t2 (.own 0 true) b', [], [(_, row)] => scalar b = true ∧ b = b' ∧ row.nlen alg = 0
  | .t3 .nilS b c, .t3 (.own 0 true) b' c', [], [(_, row)] => scalar b = true ∧ scalar c = true ∧ b = b' ∧ c = c' ∧ row.nlen alg = 0
  | .t3 (.str a) .nilS (.bool c), .t3 (.str a') (.own 0 true) (.bool c'), [], [(_, row)] => a = a' ∧ c = c' ∧ row.nlen alg = 0
  | .t3 (.str a) (.own o _) (.bool c), .t3 (.str a') (.own o' true) (.bool c'), fr, fr' => a = a' ∧ o = o' ∧ c = c' ∧ fr = fr'
  | .own o _, .own o' true, fr, fr' => o = o' ∧ fr = fr'
  | .t2 (.own o _) b, .t2 (.own o' true) b', fr, fr' => o = o' ∧ b = b' ∧ fr = fr'
  | .t3 (.own o _) b c, .t3 (.own o' true) b' c', fr, fr' => o = o' ∧ b = b' ∧ c = c' ∧ fr = fr'
  | r, r', fr, fr' => r = r' ∧ fr = fr'

structure retP (r r' : AV) (fr fr' : List (Nat × Row)) : Prop where
  w : RW r r' fr fr'

/-- One result variable. -/
def rvA (A : Alg) (tt : Nat → TI) (s : St) : ResultVar → AV
  | .tmp t => ev s.t (.tmp t)
  | .cell t ty =>
    match ev s.t (.tmp t) with
    | .po o k =>
      match getO s.h o, (tt ty).el with
      | some (_, .recs w l), some (.rc w') => match Nat.beq w w' with | true => .rc w (A.gL l k) | false => .undef
      | _, _ => .undef
    | _ => .undef

/-- What must stand at the return. -/
def done (A : Alg) (tt : Nat → TI) (res : List ResultVar) (r : AV) (fr : List (Nat × Row)) (s : St) : Prop :=
  rets A s.h 0 (res.map (rvA A tt s)) fun vs es => match nodupB (es.map (·.1)) with | true => retP (tupOf vs) r (es.map (·.2)) fr | false => False

def doneQ (A : Alg) (tt : Nat → TI) (res : List ResultVar) (r : AV) (fr : List (Nat × Row)) : Ex → St → Prop
  | .normal, s => done A tt res r fr s
  | .ret, s => done A tt res r fr s
  | _, _ => False

structure retM (r r' : AV) (h : AO) (E : Nat) (row : Row) : Prop where
  r : r = r'
  h : h = .row E row

/-- What must stand at the return of a function that writes into the row that it was handed. -/
def doneM (A : Alg) (tt : Nat → TI) (res : List ResultVar) (r : AV) (E : Nat) (row : Row) : Ex → St → Prop
  | .normal, s => rets A s.h 0 (res.map (rvA A tt s)) fun vs _ => retM (tupOf vs) r (s.h.getD 0 .dead) E row
  | .ret, s => rets A s.h 0 (res.map (rvA A tt s)) fun vs _ => retM (tupOf vs) r (s.h.getD 0 .dead) E row
  | _, _ => False

/-- What must stand at the return of a function that hands an argument back, and a value beside it. -/
structure retS (v v' : Value) (y b : AV) : Prop where
  v : v = v'
  y : y = b
def doneS (A : Alg) (tt : Nat → TI) (res : List ResultVar) (v0 : Value) (b : AV) : Ex → St → Prop
  | .normal, s => match res.map (rvA A tt s) with | [.sm v _, y] => retS v v0 y b | _ => False
  | .ret, s => match res.map (rvA A tt s) with | [.sm v _, y] => retS v v0 y b | _ => False
  | _, _ => False

def undefs : Nat → List AV
  | 0 => []
  | n + 1 => .undef :: undefs n

section
variable {P : Program} {tt : Nat → TI} {T : Nat → List AV → CR} {w0 w w' : World} {S0 : Base} {ρ ρ' : List Loc} {s s' : St} {a : Act}

theorem undefs_get (n : Nat) : ∀ (i : Nat) (x : AV), (undefs n)[i]? = some x → x = .undef := by
  induction n with
  | zero => intro i x h; simp [undefs] at h
  | succ n ih =>
    intro i x h
    cases i with
    | zero => simp [undefs] at h; exact h.symm
    | succ i => exact ih i x (by simpa [undefs] using h)
theorem undefs_len (n : Nat) : (undefs n).length = n := by induction n with | zero => rfl | succ n ih => simp [undefs, ih]

theorem VRs_len {ok : Nat → Prop} {h : List AO} : ∀ {xs : List AV} {vs : List Value}, VRs w ok ρ h xs vs → xs.length = vs.length
  | [], [], _ => rfl
  | _ :: _, _ :: _, h => by simp [VRs_len h.2]
  | [], _ :: _, h => h.elim
  | _ :: _, [], h => h.elim

theorem VRs_weak {ok ok' : Nat → Prop} {h : List AO} (ho : ∀ k, ok k → ok' k) : ∀ {xs : List AV} {vs : List Value}, VRs w ok ρ h xs vs → VRs w ok' ρ h xs vs
  | [], [], _ => trivial
  | _ :: _, _ :: _, h => ⟨h.1.weak ho, VRs_weak ho h.2⟩
  | [], _ :: _, h => h.elim
  | _ :: _, [], h => h.elim

/-- The state in which a body begins. -/
theorem init_slots {ok : Nat → Prop} {h : List AO} {xs : List AV} {vs : List Value} {n : Nat} (hv : VRs w ok ρ h xs vs) :
    (vs.toArray ++ Array.replicate (n - vs.toArray.size) undef).size = (xs ++ undefs (n - xs.length)).length ∧
    ∀ i x, (xs ++ undefs (n - xs.length))[i]? = some x → VR w ok ρ h x ((vs.toArray ++ Array.replicate (n - vs.toArray.size) undef).getD i undef) := by
  have hl := VRs_len hv
  refine ⟨by simp [undefs_len, hl], fun i x hx => ?_⟩
  rcases Nat.lt_or_ge i xs.length with hi | hi
  · rw [List.getElem?_append_left hi] at hx
    obtain ⟨v, h1, h2⟩ := VRs_at hv hx
    have : (vs.toArray ++ Array.replicate (n - vs.toArray.size) undef).getD i undef = v := by
      rw [Array.getD_eq_getD_getElem?, Array.getElem?_append_left (by simpa [hl] using hi)]
      simp [h1]
    rw [this]; exact h2
  · rw [List.getElem?_append_right hi] at hx
    rw [undefs_get _ _ _ hx]
    trivial

/-- An entry of the results' rows. -/
def entOK (w : World) (ok : Nat → Prop) (ρ : List Loc) (h : List AO) (e : Nat × Nat × Row) : Prop :=
  ∃ loc r0, live ρ h e.1 loc e.2.1 r0 ∧ ObjOK w ok loc e.2.1 e.2.2

def locs (ρ : List Loc) (es : List (Nat × Nat × Row)) : List Loc := es.map fun e => ρ.getD e.1 ⟨0, 0, true, []⟩

theorem nl_take {r : Row} {n : Nat} (h : n ≤ nl r) : nl (r.win alg 0 n) = n := by rw [nl_win _ _ h]; omega

theorem sel_sound {t : List AV} {h : List AO} (hI : Inv w0 S0 ρ ⟨t, h⟩ a w) {x : AV} {v : Value} {e : Nat × Nat × Row} (hs : sel alg h x = some e) (hv : VR w (okB ρ h) ρ h x v) :
    entOK w (okO w0 S0 ρ h) ρ h e ∧ ∀ (i : Nat) (ok' : Nat → Prop) (ρ2 : List Loc) (h2 : List AO), i < h2.length → ρ2[i]? = some (ρ.getD e.1 ⟨0, 0, true, []⟩) → h2[i]? = some (.row e.2.1 e.2.2) → VR w ok' ρ2 h2 (ren i x) v := by
  unfold sel at hs
  split at hs
  · rename_i o z
    split at hs
    · rename_i E r hob
      simp at hs; subst hs
      obtain ⟨_, hv⟩ := hv
      obtain ⟨loc, hl, hv⟩ := hv E r (gO hob)
      have hlive : live ρ h o loc E r := ⟨gO hob, hl⟩
      refine ⟨⟨loc, r, hlive, (hI.obj _ _ _ _ hlive).1⟩, fun i ok' ρ2 h2 hi hρ hh => ⟨hi, fun E' r' hr' => ?_⟩⟩
      rw [hh] at hr'
      simp at hr'
      obtain ⟨rfl, rfl⟩ := hr'
      exact ⟨loc, by rw [hρ]; simp [List.getD, hl], hv⟩
    · cases hs
  · rename_i o b n
    split at hs
    · rename_i E r hb hob
      split at hs
      case h_2 => cases hs
      rename_i hrk
      have hb := nbeq hb
      subst hb
      simp at hs; subst hs
      obtain ⟨_, hv⟩ := hv
      obtain ⟨loc, hl, hv⟩ := hv E r (gO hob)
      have hlive : live ρ h o loc E r := ⟨gO hob, hl⟩
      have hO := (hI.obj _ _ _ _ hlive).1
      have hn : n ≤ nl r := by
        rcases hv with ⟨_, _, h1, _, _⟩ | ⟨_, cap, ad, _, _, _, _, h6, _⟩ <;> omega
      refine ⟨⟨loc, r, hlive, ?_⟩, fun i ok' ρ2 h2 hi hρ hh => ⟨hi, fun E' r' hr' => ?_⟩⟩
      · rcases hv with ⟨hz, _, h1, _, _⟩ | ⟨hz, _⟩
        · exact .inl ⟨hz, by rw [nl_take hn]; exact h1⟩
        · obtain ⟨cur, cs, p1, p2, p3, p4, p5⟩ := hO.solid hz (rowk_x hrk)
          refine .inr ⟨hz, .inl ⟨cur, _, p1, p2, p3.win 0 n, ?_, ?_⟩⟩
          · simp only [Nat.zero_mul, List.drop_zero, List.length_take]; omega
          · simp only [Nat.zero_mul, List.drop_zero]
            have hle : n * wd r ≤ cs.length := by rw [p3.length]; exact Nat.mul_le_mul_right _ hn
            rw [List.length_take, Nat.min_eq_left hle]
            conv => rhs; rw [← p5]
            rw [List.take_take, Nat.min_eq_left hle]
      · rw [hh] at hr'
        simp at hr'
        obtain ⟨rfl, rfl⟩ := hr'
        refine ⟨loc, by rw [hρ]; simp [List.getD, hl], ?_⟩
        rw [nl_take hn, wd_win]
        rcases hv with ⟨hz, h0, h1, _, _⟩ | ⟨hz, cap, ad, e1, e2, e3, e4, _, e6⟩
        · exact .inl ⟨hz, rfl, h0, h1⟩
        · have had := e6 (.inr rfl)
          rw [Nat.zero_mul] at had
          subst had
          exact .inr ⟨hz, cap, e1, e2, e3, by simpa using e4⟩
    · cases hs
  · cases hs

theorem plain_any {ok ok' : Nat → Prop} {h h' : List AO} {x : AV} {v : Value} (hp : plain x = true) (hv : VR w ok ρ h x v) : VR w ok' ρ' h' x v := by
  cases x with
  | rc n l => exact hv
  | int k n => exact hv
  | bool b => exact hv
  | str b => exact hv
  | nilS => exact hv
  | t0 => exact hv
  | t2 a b => obtain ⟨v0, h1, h2⟩ := scalar_val (x := .t2 a b) hp; rw [h2 _ _ _ _ _ hv]; exact h1 _ _ _ _
  | t3 a b c => obtain ⟨v0, h1, h2⟩ := scalar_val (x := .t3 a b c) hp; rw [h2 _ _ _ _ _ hv]; exact h1 _ _ _ _
  | _ => cases hp

theorem rets_sound {t : List AV} {h : List AO} (hI : Inv w0 S0 ρ ⟨t, h⟩ a w) : ∀ (xs : List AV) (vals : List Value) (i : Nat) (pre : List (Nat × Nat × Row)) (K : List AV → List (Nat × Nat × Row) → Prop),
    rets alg h i xs K → pre.length = i → VRs w (okB ρ h) ρ h xs vals →
    ∃ vs es, K vs es ∧ (∀ e ∈ es, entOK w (okO w0 S0 ρ h) ρ h e) ∧ ∀ ok', VRs w ok' (locs ρ (pre ++ es)) (rowsOf ((pre ++ es).map (·.2))) vs vals
  | [], [], i, pre, K, hk, _, _ => ⟨[], [], hk, by simp, fun _ => trivial⟩
  | x :: xs, v :: vals, i, pre, K, hk, hp, hv => by
    simp only [rets] at hk
    split at hk
    · rename_i hown
      split at hk
      · rename_i e hs
        obtain ⟨h1, h2⟩ := sel_sound hI hs hv.1
        obtain ⟨vs, es, q1, q2, q3⟩ := rets_sound hI xs vals (i + 1) (pre ++ [e]) _ hk (by simp [hp]) hv.2
        have eapp : pre ++ [e] ++ es = pre ++ e :: es := by simp
        rw [eapp] at q3
        refine ⟨_, _, q1, ?_, fun ok' => ⟨h2 i ok' _ _ ?_ ?_ ?_, q3 ok'⟩⟩
        · intro e' he'
          simp at he'
          rcases he' with rfl | he'
          · exact h1
          · exact q2 e' he'
        · rw [rows_len]; simp [← hp]
        · simp [locs, ← hp]
        · rw [rows_get]; simp [← hp]
      · exact hk.elim
    · split at hk
      · rename_i hpl
        obtain ⟨vs, es, q1, q2, q3⟩ := rets_sound hI xs vals i pre _ hk hp hv.2
        exact ⟨_, _, q1, q2, fun ok' => ⟨plain_any hpl hv.1, q3 ok'⟩⟩
      · exact hk.elim
  | [], _ :: _, _, _, _, _, _, hv => hv.elim
  | _ :: _, [], _, _, _, _, _, hv => hv.elim

end
end Go.Ab
