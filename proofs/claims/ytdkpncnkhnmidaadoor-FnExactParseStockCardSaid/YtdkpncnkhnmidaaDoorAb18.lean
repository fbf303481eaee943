/-
  The table of types, checked; small words for the proofs.
-/
import Derived.Test.YtdkpncnkhnmidaaDoorAb17
import Derived.KernelRfl
set_option linter.unusedSimpArgs false
set_option linter.unusedVariables false
namespace Go.Ab
open Go.RowKit

def zeroI64 : List Value → Bool
  | [] => true
  | .int .i64 n :: r => decide (n = 0) && zeroI64 r
  | _ => false

def zeroOK : RK → Option Value → Bool
  | .i k, some (.int k' n) => kb k k' && decide (n = 0)
  | .b, some (.bool b) => !b
  | .s, some (.string b) => b.data.toList.isEmpty
  | .rc w, some (.agg cs) => Nat.beq cs.toList.length w && zeroI64 cs.toList
  | .mp, some (.map none) => true
  | .ifc, some .nilIface => true
  | .sli, some (.slice none n c) => Nat.beq n 0 && Nat.beq c 0
  | .slb, some (.slice none n c) => Nat.beq n 0 && Nat.beq c 0
  | .tab, some (.slice none n c) => Nat.beq n 0 && Nat.beq c 0
  | _, _ => false

def fieldsOK (P : Program) : Nat → List Field → Bool
  | _, [] => true
  | j, f :: r => Nat.beq f.offset j && (match P.info? f.type with | some i => Nat.beq i.size 1 | none => false) && fieldsOK P (j + 1) r

def descB (P : Program) (t : TypeId) (e : RK) : Bool :=
  match e, P.underlying t with
  | .i k, some (.int k') => kb k k'
  | .b, some .bool => true
  | .s, some .string => true
  | .rc w, some (.struct fs) => Nat.beq fs.toList.length w && fieldsOK P 0 fs.toList
  | .mp, some (.map k e) => (match P.underlying k, P.underlying e, P.info? e with | some (.int .i64), some .bool, some i => (match i.zero with | some (.bool false) => true | _ => false) | _, _, _ => false)
  | .ifc, some (.interface _) => true
  | .sli, some (.slice _) => true
  | .slb, some (.slice _) => true
  | .tab, some (.slice _) => true
  | _, _ => false

def elB (P : Program) (t : TypeId) (e : RK) : Bool :=
  descB P t e && Nat.blt 0 (sz e) && Nat.ble (sz e) 64 &&
    match P.info? t with
    | some i => Nat.beq i.size (sz e) && Nat.ble i.bytes 64 && zeroOK e i.zero
    | none => false

def isTab : RK → Bool
  | .tab => true
  | _ => false

def tiB (P : Program) (t : TypeId) (x : TI) : Bool :=
  (match x.el with | some e => elB P t e | none => true) &&
  (match x.sl with | some (E, e) => (match P.underlying t with | some (.slice E') => Nat.beq E E' | _ => false) && (elB P E e && (e.rowk || isTab e)) | none => true)

def look : List (Nat × TI) → Nat → TI
  | [], _ => ⟨none, none⟩
  | (k, v) :: r, t => match Nat.beq k t with | true => v | false => look r t

def tabB (P : Program) (L : List (Nat × TI)) : Bool := L.all fun x => tiB P x.1 x.2

theorem zeroI64_eq : ∀ {l : List Value}, zeroI64 l = true → l = List.replicate l.length (Value.int .i64 0)
  | [], _ => rfl
  | v :: r, h => by
    unfold zeroI64 at h
    split at h
    · rename_i hh; cases hh
    · rename_i n r' hh
      cases hh
      simp only [Bool.and_eq_true, decide_eq_true_eq] at h
      rw [h.1, List.length_cons, List.replicate_succ, ← zeroI64_eq h.2]
    · cases h

theorem zero_sound {e : RK} {z : Option Value} (h : zeroOK e z = true) : z = some (zv e) := by
  unfold zeroOK at h
  split at h
  · simp only [Bool.and_eq_true, decide_eq_true_eq] at h
    rw [kb_eq h.1, h.2]; rfl
  · simp at h; subst h; rfl
  · rename_i b
    have : b = .empty := by apply WideShapes.bytes_inj; simpa using h
    rw [this]; rfl
  · rename_i w cs
    simp only [Bool.and_eq_true] at h
    have h1 := nbeq h.1
    have h2 := zeroI64_eq h.2
    rw [h1] at h2
    simp only [zv]
    rw [← h2]
  · rfl
  · rfl
  · simp only [Bool.and_eq_true] at h
    rw [nbeq h.1, nbeq h.2]; rfl
  · simp only [Bool.and_eq_true] at h
    rw [nbeq h.1, nbeq h.2]; rfl
  · simp only [Bool.and_eq_true] at h
    rw [nbeq h.1, nbeq h.2]; rfl
  · cases h

theorem fields_sound {P : Program} : ∀ {l : List Field} {k : Nat}, fieldsOK P k l = true → ∀ (j : Nat) (f : Field), l[j]? = some f → f.offset = k + j ∧ ∃ i, P.info? f.type = some i ∧ i.size = 1
  | [], _, _, j, f, h => by simp at h
  | g :: r, k, h, j, f, hf => by
    simp only [fieldsOK, Bool.and_eq_true] at h
    obtain ⟨⟨h1, h2⟩, h3⟩ := h
    cases j with
    | zero =>
      simp at hf; subst hf
      refine ⟨nbeq h1, ?_⟩
      split at h2
      · rename_i i hi; exact ⟨i, hi, nbeq h2⟩
      · cases h2
    | succ j =>
      obtain ⟨q1, q2⟩ := fields_sound h3 j f (by simpa using hf)
      exact ⟨by omega, q2⟩

theorem el_sound {P : Program} {t : TypeId} {e : RK} (h : elB P t e = true) : ElOK P t e := by
  simp only [elB, Bool.and_eq_true] at h
  obtain ⟨⟨⟨h1, h2⟩, h3⟩, h4⟩ := h
  refine ⟨?_, nblt h2, by simpa using h3, ?_⟩
  · unfold descB at h1
    split at h1
    · rename_i k k' hu; rw [kb_eq h1]; exact hu
    · rename_i hu; exact hu
    · rename_i hu; exact hu
    · rename_i w fs hu
      simp only [Bool.and_eq_true] at h1
      refine ⟨fs, hu, by have := nbeq h1.1; simpa using this, fun j f hf => ?_⟩
      have := fields_sound h1.2 j f (by simpa using hf)
      simpa using this
    · rename_i k e hu
      split at h1
      · rename_i i h2 h3 h4
        split at h1
        · rename_i h5; exact ⟨k, e, i, hu, h2, h3, h4, h5⟩
        · cases h1
      · cases h1
    · rename_i ms hu; exact ⟨ms, hu⟩
    · rename_i E hu; exact ⟨E, hu⟩
    · rename_i E hu; exact ⟨E, hu⟩
    · rename_i E hu; exact ⟨E, hu⟩
    · cases h1
  · split at h4
    · rename_i i hi
      simp only [Bool.and_eq_true] at h4
      exact ⟨i, hi, nbeq h4.1.1, by simpa using h4.1.2, zero_sound h4.2⟩
    · cases h4

theorem tt_sound {P : Program} {L : List (Nat × TI)} (h : tabB P L = true) : TTok P (look L) := by
  have key : ∀ t, look L t = ⟨none, none⟩ ∨ tiB P t (look L t) = true := by
    intro t
    induction L with
    | nil => exact .inl rfl
    | cons x r ih =>
      obtain ⟨k, v⟩ := x
      simp only [tabB, List.all_cons, Bool.and_eq_true] at h
      simp only [look]
      split
      · rename_i hk; have := nbeq hk; subst this; exact .inr h.1
      · exact ih h.2
  constructor
  · intro t e he
    rcases key t with h0 | h0
    · rw [h0] at he; cases he
    · simp only [tiB, he, Bool.and_eq_true] at h0
      exact el_sound h0.1
  · intro t E e he
    rcases key t with h0 | h0
    · rw [h0] at he; cases he
    · simp only [tiB, he, Bool.and_eq_true] at h0
      obtain ⟨_, h1, h2, _⟩ := h0
      split at h1
      · rename_i E' hu; have e := nbeq h1; subst e; exact ⟨hu, el_sound h2⟩
      · cases h1
  · intro t E e he hnt
    rcases key t with h0 | h0
    · rw [h0] at he; cases he
    · simp only [tiB, he, Bool.and_eq_true, Bool.or_eq_true] at h0
      rcases h0.2.2.2 with h | h
      · exact h
      · cases e <;> first | exact absurd rfl hnt | cases h

/-! ### words for the proofs -/
/-- A table of contracts, as a list. -/
def tfind : List (Nat × (List AV → CR)) → Nat → List AV → CR
  | [], _, _ => .no
  | (k, g) :: r, f, args => match Nat.beq k f with | true => g args | false => tfind r f args

def EntG (G : World → Prop) (P : Program) (f : Nat) (args : List AV) (c : CR) : Prop :=
  (∀ p r fr, c = .pure p r fr → p → FCG G P f args r fr) ∧ (∀ i p r row, c = .mut i p r row → p → FCM P f args i r row) ∧
    (∀ i p r E row, c = .pat i p r E row → p → FCG G P f args r [(E, row)]) ∧ (∀ i p b, c = .same i p b → p → FCS G P f args i b)

section
variable {G : World → Prop}
theorem tab_nil (P : Program) : TabG G P (tfind []) := fun _ _ => ⟨(fun _ _ _ h => by cases h), (fun _ _ _ _ h => by cases h), (fun _ _ _ _ _ h => by cases h), (fun _ _ _ h => by cases h)⟩
theorem tab_cons {P : Program} {f : Nat} {g : List AV → CR} {L : List (Nat × (List AV → CR))} (h : ∀ args, EntG G P f args (g args)) (hL : TabG G P (tfind L)) : TabG G P (tfind ((f, g) :: L)) := by
  intro f' args
  simp only [tfind]
  cases hb : Nat.beq f f' with
  | true => have := nbeq hb; subst this; exact h args
  | false => exact hL f' args
theorem ent_pure {P : Program} {f : Nat} {args : List AV} {p0 : Prop} {r0 : AV} {fr0 : List (Nat × Row)} (h : p0 → FCG G P f args r0 fr0) : EntG G P f args (.pure p0 r0 fr0) :=
  ⟨(fun p r fr e hp => by cases e; exact h hp), (fun i p r row e => by cases e), (fun _ _ _ _ _ e => by cases e), (fun _ _ _ e => by cases e)⟩
theorem ent_mut {P : Program} {f : Nat} {args : List AV} {p0 : Prop} {i0 : Nat} {r0 : AV} {row0 : Row} (h : p0 → FCM P f args i0 r0 row0) : EntG G P f args (.mut i0 p0 r0 row0) :=
  ⟨(fun p r fr e => by cases e), (fun i p r row e hp => by cases e; exact h hp), (fun _ _ _ _ _ e => by cases e), (fun _ _ _ e => by cases e)⟩
theorem ent_pat {P : Program} {f : Nat} {args : List AV} {p0 : Prop} {i0 : Nat} {r0 : AV} {E0 : Nat} {row0 : Row} (h : p0 → FCG G P f args r0 [(E0, row0)]) : EntG G P f args (.pat i0 p0 r0 E0 row0) :=
  ⟨(fun p r fr e => by cases e), (fun i p r row e => by cases e), (fun _ _ _ _ _ e hp => by cases e; exact h hp), (fun _ _ _ e => by cases e)⟩
theorem ent_same {P : Program} {f : Nat} {args : List AV} {p0 : Prop} {i0 : Nat} {b0 : AV} (h : p0 → FCS G P f args i0 b0) : EntG G P f args (.same i0 p0 b0) :=
  ⟨(fun p r fr e => by cases e), (fun i p r row e => by cases e), (fun _ _ _ _ _ e => by cases e), (fun _ _ _ e hp => by cases e; exact h hp)⟩
theorem ent_no {P : Program} {f : Nat} {args : List AV} : EntG G P f args .no :=
  ⟨(fun p r fr e => by cases e), (fun i p r row e => by cases e), (fun _ _ _ _ _ e => by cases e), (fun _ _ _ e => by cases e)⟩
end

/-- 'fc_of', the names of what is evaluated behind variables. -/
theorem fc_eval {P : Program} {tt : Nat → TI} {σ : Type} (S0 : σ) (L : σ → List (Nat × (List AV → CR))) (hTab : TabOK P (tfind (L S0))) (hT : TTok P tt) (hm : P.follows .mixedOrders = true) {f : Nat} {fn : Func} {c : Code} {args : List AV} {r : AV} {fr : List (Nat × Row)}
    (hf : P.funcs[f]? = some fn) (hb : fn.body = some c) (hname : (fn.name == "runtime.NumGoroutine") = false) {res : List ResultVar} (hr : fn.results.toList = res) (h1 : Nat.blt 0 res.length && Nat.ble res.length 3 = true)
    (h : ∀ (A : Alg) (S : σ) (r0 : AV) (fr0 : List (Nat × Row)), A = alg → S = S0 → r0 = r → fr0 = fr → awp A tt (tfind (L S)) c (doneQ A tt res r0 fr0) ⟨args ++ undefs (fn.ntmps - args.length), [.dead]⟩) : FC P f args r fr := by
  simp only [Bool.and_eq_true] at h1
  exact fc_of (fun _ _ _ _ => trivial) hT hTab hm hf hb (by simpa using hname) hr (nblt h1.1) (by simpa using h1.2) (h alg S0 r fr rfl rfl rfl rfl)

theorem fcg_eval {G : World → Prop} (hst : ∀ w w', G w → Below w.heap.size w w' → G w') {P : Program} {tt : Nat → TI} {σ : Type} (S0 : σ) (L : σ → List (Nat × (List AV → CR))) (hTab : TabG G P (tfind (L S0))) (hT : TTok P tt) (hm : P.follows .mixedOrders = true) {f : Nat} {fn : Func} {c : Code} {args : List AV} {r : AV} {fr : List (Nat × Row)}
    (hf : P.funcs[f]? = some fn) (hb : fn.body = some c) (hname : (fn.name == "runtime.NumGoroutine") = false) {res : List ResultVar} (hr : fn.results.toList = res) (h1 : Nat.blt 0 res.length && Nat.ble res.length 3 = true)
    (h : ∀ (A : Alg) (S : σ) (r0 : AV) (fr0 : List (Nat × Row)), A = alg → S = S0 → r0 = r → fr0 = fr → awp A tt (tfind (L S)) c (doneQ A tt res r0 fr0) ⟨args ++ undefs (fn.ntmps - args.length), [.dead]⟩) : FCG G P f args r fr := by
  simp only [Bool.and_eq_true] at h1
  exact fc_of hst hT hTab hm hf hb (by simpa using hname) hr (nblt h1.1) (by simpa using h1.2) (h alg S0 r fr rfl rfl rfl rfl)

theorem fcs_eval {G : World → Prop} (hst : ∀ w w', G w → Below w.heap.size w w' → G w') {P : Program} {tt : Nat → TI} {σ : Type} (S0 : σ) (L : σ → List (Nat × (List AV → CR))) (hTab : TabG G P (tfind (L S0))) (hT : TTok P tt) (hm : P.follows .mixedOrders = true) {f : Nat} {fn : Func} {c : Code} {args : List AV} (i : Nat) {b : AV} {row : Row}
    (hf : P.funcs[f]? = some fn) (hb : fn.body = some c) (hname : (fn.name == "runtime.NumGoroutine") = false) {res : List ResultVar} (hr : fn.results.toList = res) (h1 : res.length = 2)
    (hrow : args[i]? = some (.ro row)) (hsc : scalar b = true)
    (h : ∀ (A : Alg) (S : σ) (v0 : Value) (b0 : AV), A = alg → S = S0 → b0 = b → awp A tt (tfind (L S)) c (doneS A tt res v0 b0) ⟨args.set i (.sm v0 row) ++ undefs (fn.ntmps - args.length), [.dead]⟩) : FCS G P f args i b :=
  fcs_of hst hT hTab hm hf hb (by simpa using hname) hr h1 hrow hsc (fun v0 => h alg S0 v0 b rfl rfl rfl)

theorem fcm_eval {P : Program} {tt : Nat → TI} {σ : Type} (S0 : σ) (L : σ → List (Nat × (List AV → CR))) (hTab : TabOK P (tfind (L S0))) (hT : TTok P tt) (hm : P.follows .mixedOrders = true) {f : Nat} {fn : Func} {c : Code} {args : List AV} (i : Nat) {r : AV} {row row' : Row}
    (hf : P.funcs[f]? = some fn) (hb : fn.body = some c) (hname : (fn.name == "runtime.NumGoroutine") = false) {res : List ResultVar} (hr : fn.results.toList = res) (h1 : Nat.blt 0 res.length && Nat.ble res.length 3 = true)
    (hrow : args[i]? = some (.ro row)) (hfl : flatT row' = true) (hn : nl row' = nl row) (hsc : scalar r = true)
    (h : ∀ (A : Alg) (S : σ) (r0 : AV) (row0 : Row) (E : Nat), A = alg → S = S0 → r0 = r → row0 = row' → awp A tt (tfind (L S)) c (doneM A tt res r0 E row0) ⟨args.set i (.own 0 true) ++ undefs (fn.ntmps - (args.set i (.own 0 true)).length), [.row E row]⟩) : FCM P f args i r row' := by
  simp only [Bool.and_eq_true] at h1
  exact fcm_of hT hTab hm hf hb (by simpa using hname) hr (nblt h1.1) (by simpa using h1.2) hrow hfl hn hsc (fun E => h alg S0 r row' E rfl rfl rfl rfl)

theorem ofNat_cast (k : Nat) : Int.ofNat k = (k : Int) := rfl
theorem condP_iff (b : Bool) (p q : Prop) : condP b p q ↔ (b = true → p) ∧ (b = false → q) := ⟨fun h => ⟨h.t, h.f⟩, fun h => ⟨h.1, h.2⟩⟩
theorem obP_iff (p k : Prop) : obP p k ↔ p ∧ k := ⟨fun h => ⟨h.p, h.k⟩, fun h => ⟨h.1, h.2⟩⟩
theorem retP_iff (r r' : AV) (f f' : List (Nat × Row)) : retP r r' f f' ↔ RW r r' f f' := ⟨fun h => h.w, fun h => ⟨h⟩⟩
theorem retM_iff (r r' : AV) (h : AO) (E : Nat) (row : Row) : retM r r' h E row ↔ r = r' ∧ h = .row E row := ⟨fun h => ⟨h.r, h.h⟩, fun h => ⟨h.1, h.2⟩⟩
theorem retS_iff (v v' : Value) (y b : AV) : retS v v' y b ↔ v = v' ∧ y = b := ⟨fun h => ⟨h.v, h.y⟩, fun h => ⟨h.1, h.2⟩⟩
theorem Wk_iff (s s' : St) : Wk s s' ↔ wkT s.h s'.h s.t s'.t ∧ wkH s.h s'.h ∧ Nat.blt 0 s'.h.length = true := ⟨fun h => ⟨h.t, h.h, h.l⟩, fun h => ⟨h.1, h.2.1, h.2.2⟩⟩

/-- n slots, the named ones filled. -/
def fr (n : Nat) (l : List (Nat × AV)) : List AV := l.foldl (fun t x => t.set x.1 x.2) (undefs n)

theorem loop_intro {W : (Ex → St → Prop) → St → Prop} {Q : Ex → St → Prop} {s : St} {γ : Type} (F : γ → St) (R : γ → Prop) (μ : γ → Nat) (g : γ) (h0 : Wk s (F g)) (r0 : R g)
    (h : ∀ g, R g → W (fun e s' => match e with | .normal => ∃ g', Wk s' (F g') ∧ R g' ∧ μ g' < μ g | e => Q e s') (F g)) : loopP W Q s := ⟨γ, [], F, R, μ, ⟨g, h0, r0⟩, h⟩
theorem loop_introN {W : (Ex → St → Prop) → St → Prop} {Q : Ex → St → Prop} {s : St} {γ : Type} (N : List (Nat × Nat)) (F : γ → St) (R : γ → Prop) (μ : γ → Nat) (g : γ) (h0 : Wk s (F g)) (r0 : R g)
    (h : ∀ g, R g → W (fun e s' => match e with | .normal => ∃ g', Wk (mvs N s') (F g') ∧ R g' ∧ μ g' < μ g | e => Q e s') (F g)) : loopP W Q s := ⟨γ, N, F, R, μ, ⟨g, h0, r0⟩, h⟩

theorem nc (k : Nat) : @NatCast.natCast Int instNatCastInt k = (k : Int) := rfl
theorem loop1 {W : (Ex → St → Prop) → St → Prop} {Q : Ex → St → Prop} {s : St} {α : Type} (F : α → St) (R : α → Prop) (μ : α → Nat) (a0 : α) (h0 : Wk s (F a0)) (r0 : R a0)
    (h : ∀ a, R a → W (fun ex s' => match ex with | .normal => ∃ a', Wk s' (F a') ∧ R a' ∧ μ a' < μ a | ex => Q ex s') (F a)) : loopP W Q s := by
  refine loop_intro (γ := α) (fun g => F (g)) (fun g => R (g)) (fun g => μ (g)) a0 h0 r0 (fun g hg => ?_)
  have hh := h (g) hg
  refine Eq.mp (congrArg (fun X => W X (F (g))) ?_) hh
  funext ex s'
  cases ex with
  | normal => exact propext ⟨fun ⟨a', hw⟩ => ⟨a', hw⟩, fun ⟨g', hw⟩ => ⟨g', hw⟩⟩
  | exit _ => rfl
  | ret => rfl
theorem loop2 {W : (Ex → St → Prop) → St → Prop} {Q : Ex → St → Prop} {s : St} {α β : Type} (F : α → β → St) (R : α → β → Prop) (μ : α → β → Nat) (a0 : α) (b0 : β) (h0 : Wk s (F a0 b0)) (r0 : R a0 b0)
    (h : ∀ a b, R a b → W (fun ex s' => match ex with | .normal => ∃ a' b', Wk s' (F a' b') ∧ R a' b' ∧ μ a' b' < μ a b | ex => Q ex s') (F a b)) : loopP W Q s := by
  refine loop_intro (γ := α × β) (fun g => F (g.1) (g.2)) (fun g => R (g.1) (g.2)) (fun g => μ (g.1) (g.2)) (a0, b0) h0 r0 (fun g hg => ?_)
  have hh := h (g.1) (g.2) hg
  refine Eq.mp (congrArg (fun X => W X (F (g.1) (g.2))) ?_) hh
  funext ex s'
  cases ex with
  | normal => exact propext ⟨fun ⟨a', b', hw⟩ => ⟨(a', b'), hw⟩, fun ⟨g', hw⟩ => ⟨g'.1, g'.2, hw⟩⟩
  | exit _ => rfl
  | ret => rfl
theorem loop2N {W : (Ex → St → Prop) → St → Prop} {Q : Ex → St → Prop} {s : St} {α β : Type} (N : List (Nat × Nat)) (F : α → β → St) (R : α → β → Prop) (μ : α → β → Nat) (a0 : α) (b0 : β) (h0 : Wk s (F a0 b0)) (r0 : R a0 b0)
    (h : ∀ a b, R a b → W (fun ex s' => match ex with | .normal => ∃ a' b', Wk (mvs N s') (F a' b') ∧ R a' b' ∧ μ a' b' < μ a b | ex => Q ex s') (F a b)) : loopP W Q s := by
  refine loop_introN (γ := α × β) N (fun g => F (g.1) (g.2)) (fun g => R (g.1) (g.2)) (fun g => μ (g.1) (g.2)) (a0, b0) h0 r0 (fun g hg => ?_)
  have hh := h (g.1) (g.2) hg
  refine Eq.mp (congrArg (fun X => W X (F (g.1) (g.2))) ?_) hh
  funext ex s'
  cases ex with
  | normal => exact propext ⟨fun ⟨a', b', hw⟩ => ⟨(a', b'), hw⟩, fun ⟨g', hw⟩ => ⟨g'.1, g'.2, hw⟩⟩
  | exit _ => rfl
  | ret => rfl
theorem loop3 {W : (Ex → St → Prop) → St → Prop} {Q : Ex → St → Prop} {s : St} {α β γ : Type} (F : α → β → γ → St) (R : α → β → γ → Prop) (μ : α → β → γ → Nat) (a0 : α) (b0 : β) (c0 : γ) (h0 : Wk s (F a0 b0 c0)) (r0 : R a0 b0 c0)
    (h : ∀ a b c, R a b c → W (fun ex s' => match ex with | .normal => ∃ a' b' c', Wk s' (F a' b' c') ∧ R a' b' c' ∧ μ a' b' c' < μ a b c | ex => Q ex s') (F a b c)) : loopP W Q s := by
  refine loop_intro (γ := α × β × γ) (fun g => F (g.1) (g.2.1) (g.2.2)) (fun g => R (g.1) (g.2.1) (g.2.2)) (fun g => μ (g.1) (g.2.1) (g.2.2)) (a0, b0, c0) h0 r0 (fun g hg => ?_)
  have hh := h (g.1) (g.2.1) (g.2.2) hg
  refine Eq.mp (congrArg (fun X => W X (F (g.1) (g.2.1) (g.2.2))) ?_) hh
  funext ex s'
  cases ex with
  | normal => exact propext ⟨fun ⟨a', b', c', hw⟩ => ⟨(a', b', c'), hw⟩, fun ⟨g', hw⟩ => ⟨g'.1, g'.2.1, g'.2.2, hw⟩⟩
  | exit _ => rfl
  | ret => rfl
theorem loop4 {W : (Ex → St → Prop) → St → Prop} {Q : Ex → St → Prop} {s : St} {α β γ δ : Type} (F : α → β → γ → δ → St) (R : α → β → γ → δ → Prop) (μ : α → β → γ → δ → Nat) (a0 : α) (b0 : β) (c0 : γ) (d0 : δ) (h0 : Wk s (F a0 b0 c0 d0)) (r0 : R a0 b0 c0 d0)
    (h : ∀ a b c d, R a b c d → W (fun ex s' => match ex with | .normal => ∃ a' b' c' d', Wk s' (F a' b' c' d') ∧ R a' b' c' d' ∧ μ a' b' c' d' < μ a b c d | ex => Q ex s') (F a b c d)) : loopP W Q s := by
  refine loop_intro (γ := α × β × γ × δ) (fun g => F (g.1) (g.2.1) (g.2.2.1) (g.2.2.2)) (fun g => R (g.1) (g.2.1) (g.2.2.1) (g.2.2.2)) (fun g => μ (g.1) (g.2.1) (g.2.2.1) (g.2.2.2)) (a0, b0, c0, d0) h0 r0 (fun g hg => ?_)
  have hh := h (g.1) (g.2.1) (g.2.2.1) (g.2.2.2) hg
  refine Eq.mp (congrArg (fun X => W X (F (g.1) (g.2.1) (g.2.2.1) (g.2.2.2))) ?_) hh
  funext ex s'
  cases ex with
  | normal => exact propext ⟨fun ⟨a', b', c', d', hw⟩ => ⟨(a', b', c', d'), hw⟩, fun ⟨g', hw⟩ => ⟨g'.1, g'.2.1, g'.2.2.1, g'.2.2.2, hw⟩⟩
  | exit _ => rfl
  | ret => rfl
theorem loop4N {W : (Ex → St → Prop) → St → Prop} {Q : Ex → St → Prop} {s : St} {α β γ δ : Type} (N : List (Nat × Nat)) (F : α → β → γ → δ → St) (R : α → β → γ → δ → Prop) (μ : α → β → γ → δ → Nat) (a0 : α) (b0 : β) (c0 : γ) (d0 : δ) (h0 : Wk s (F a0 b0 c0 d0)) (r0 : R a0 b0 c0 d0)
    (h : ∀ a b c d, R a b c d → W (fun ex s' => match ex with | .normal => ∃ a' b' c' d', Wk (mvs N s') (F a' b' c' d') ∧ R a' b' c' d' ∧ μ a' b' c' d' < μ a b c d | ex => Q ex s') (F a b c d)) : loopP W Q s := by
  refine loop_introN (γ := α × β × γ × δ) N (fun g => F (g.1) (g.2.1) (g.2.2.1) (g.2.2.2)) (fun g => R (g.1) (g.2.1) (g.2.2.1) (g.2.2.2)) (fun g => μ (g.1) (g.2.1) (g.2.2.1) (g.2.2.2)) (a0, b0, c0, d0) h0 r0 (fun g hg => ?_)
  have hh := h (g.1) (g.2.1) (g.2.2.1) (g.2.2.2) hg
  refine Eq.mp (congrArg (fun X => W X (F (g.1) (g.2.1) (g.2.2.1) (g.2.2.2))) ?_) hh
  funext ex s'
  cases ex with
  | normal => exact propext ⟨fun ⟨a', b', c', d', hw⟩ => ⟨(a', b', c', d'), hw⟩, fun ⟨g', hw⟩ => ⟨g'.1, g'.2.1, g'.2.2.1, g'.2.2.2, hw⟩⟩
  | exit _ => rfl
  | ret => rfl
theorem loop5 {W : (Ex → St → Prop) → St → Prop} {Q : Ex → St → Prop} {s : St} {α β γ δ ε : Type} (F : α → β → γ → δ → ε → St) (R : α → β → γ → δ → ε → Prop) (μ : α → β → γ → δ → ε → Nat) (a0 : α) (b0 : β) (c0 : γ) (d0 : δ) (p0 : ε) (h0 : Wk s (F a0 b0 c0 d0 p0)) (r0 : R a0 b0 c0 d0 p0)
    (h : ∀ a b c d p, R a b c d p → W (fun ex s' => match ex with | .normal => ∃ a' b' c' d' p', Wk s' (F a' b' c' d' p') ∧ R a' b' c' d' p' ∧ μ a' b' c' d' p' < μ a b c d p | ex => Q ex s') (F a b c d p)) : loopP W Q s := by
  refine loop_intro (γ := α × β × γ × δ × ε) (fun g => F (g.1) (g.2.1) (g.2.2.1) (g.2.2.2.1) (g.2.2.2.2)) (fun g => R (g.1) (g.2.1) (g.2.2.1) (g.2.2.2.1) (g.2.2.2.2)) (fun g => μ (g.1) (g.2.1) (g.2.2.1) (g.2.2.2.1) (g.2.2.2.2)) (a0, b0, c0, d0, p0) h0 r0 (fun g hg => ?_)
  have hh := h (g.1) (g.2.1) (g.2.2.1) (g.2.2.2.1) (g.2.2.2.2) hg
  refine Eq.mp (congrArg (fun X => W X (F (g.1) (g.2.1) (g.2.2.1) (g.2.2.2.1) (g.2.2.2.2))) ?_) hh
  funext ex s'
  cases ex with
  | normal => exact propext ⟨fun ⟨a', b', c', d', p', hw⟩ => ⟨(a', b', c', d', p'), hw⟩, fun ⟨g', hw⟩ => ⟨g'.1, g'.2.1, g'.2.2.1, g'.2.2.2.1, g'.2.2.2.2, hw⟩⟩
  | exit _ => rfl
  | ret => rfl
theorem loop6 {W : (Ex → St → Prop) → St → Prop} {Q : Ex → St → Prop} {s : St} {α β γ δ ε ζ : Type} (F : α → β → γ → δ → ε → ζ → St) (R : α → β → γ → δ → ε → ζ → Prop) (μ : α → β → γ → δ → ε → ζ → Nat) (a0 : α) (b0 : β) (c0 : γ) (d0 : δ) (p0 : ε) (q0 : ζ) (h0 : Wk s (F a0 b0 c0 d0 p0 q0)) (r0 : R a0 b0 c0 d0 p0 q0)
    (h : ∀ a b c d p q, R a b c d p q → W (fun ex s' => match ex with | .normal => ∃ a' b' c' d' p' q', Wk s' (F a' b' c' d' p' q') ∧ R a' b' c' d' p' q' ∧ μ a' b' c' d' p' q' < μ a b c d p q | ex => Q ex s') (F a b c d p q)) : loopP W Q s := by
  refine loop_intro (γ := α × β × γ × δ × ε × ζ) (fun g => F (g.1) (g.2.1) (g.2.2.1) (g.2.2.2.1) (g.2.2.2.2.1) (g.2.2.2.2.2)) (fun g => R (g.1) (g.2.1) (g.2.2.1) (g.2.2.2.1) (g.2.2.2.2.1) (g.2.2.2.2.2)) (fun g => μ (g.1) (g.2.1) (g.2.2.1) (g.2.2.2.1) (g.2.2.2.2.1) (g.2.2.2.2.2)) (a0, b0, c0, d0, p0, q0) h0 r0 (fun g hg => ?_)
  have hh := h (g.1) (g.2.1) (g.2.2.1) (g.2.2.2.1) (g.2.2.2.2.1) (g.2.2.2.2.2) hg
  refine Eq.mp (congrArg (fun X => W X (F (g.1) (g.2.1) (g.2.2.1) (g.2.2.2.1) (g.2.2.2.2.1) (g.2.2.2.2.2))) ?_) hh
  funext ex s'
  cases ex with
  | normal => exact propext ⟨fun ⟨a', b', c', d', p', q', hw⟩ => ⟨(a', b', c', d', p', q'), hw⟩, fun ⟨g', hw⟩ => ⟨g'.1, g'.2.1, g'.2.2.1, g'.2.2.2.1, g'.2.2.2.2.1, g'.2.2.2.2.2, hw⟩⟩
  | exit _ => rfl
  | ret => rfl
theorem loop7 {W : (Ex → St → Prop) → St → Prop} {Q : Ex → St → Prop} {s : St} {α β γ δ ε ζ η : Type} (F : α → β → γ → δ → ε → ζ → η → St) (R : α → β → γ → δ → ε → ζ → η → Prop) (μ : α → β → γ → δ → ε → ζ → η → Nat) (a0 : α) (b0 : β) (c0 : γ) (d0 : δ) (p0 : ε) (q0 : ζ) (k0 : η) (h0 : Wk s (F a0 b0 c0 d0 p0 q0 k0)) (r0 : R a0 b0 c0 d0 p0 q0 k0)
    (h : ∀ a b c d p q k, R a b c d p q k → W (fun ex s' => match ex with | .normal => ∃ a' b' c' d' p' q' k', Wk s' (F a' b' c' d' p' q' k') ∧ R a' b' c' d' p' q' k' ∧ μ a' b' c' d' p' q' k' < μ a b c d p q k | ex => Q ex s') (F a b c d p q k)) : loopP W Q s := by
  refine loop_intro (γ := α × β × γ × δ × ε × ζ × η) (fun g => F (g.1) (g.2.1) (g.2.2.1) (g.2.2.2.1) (g.2.2.2.2.1) (g.2.2.2.2.2.1) (g.2.2.2.2.2.2)) (fun g => R (g.1) (g.2.1) (g.2.2.1) (g.2.2.2.1) (g.2.2.2.2.1) (g.2.2.2.2.2.1) (g.2.2.2.2.2.2)) (fun g => μ (g.1) (g.2.1) (g.2.2.1) (g.2.2.2.1) (g.2.2.2.2.1) (g.2.2.2.2.2.1) (g.2.2.2.2.2.2)) (a0, b0, c0, d0, p0, q0, k0) h0 r0 (fun g hg => ?_)
  have hh := h (g.1) (g.2.1) (g.2.2.1) (g.2.2.2.1) (g.2.2.2.2.1) (g.2.2.2.2.2.1) (g.2.2.2.2.2.2) hg
  refine Eq.mp (congrArg (fun X => W X (F (g.1) (g.2.1) (g.2.2.1) (g.2.2.2.1) (g.2.2.2.2.1) (g.2.2.2.2.2.1) (g.2.2.2.2.2.2))) ?_) hh
  funext ex s'
  cases ex with
  | normal => exact propext ⟨fun ⟨a', b', c', d', p', q', k', hw⟩ => ⟨(a', b', c', d', p', q', k'), hw⟩, fun ⟨g', hw⟩ => ⟨g'.1, g'.2.1, g'.2.2.1, g'.2.2.2.1, g'.2.2.2.2.1, g'.2.2.2.2.2.1, g'.2.2.2.2.2.2, hw⟩⟩
  | exit _ => rfl
  | ret => rfl

end Go.Ab
