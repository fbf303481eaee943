/-
  SOUNDNESS, PART FOUR: slice expressions, lengths, min, max; all operations that only read.
-/
import Derived.Test.YtdkpncnkhnmidaaDoorAb5
import Derived.Laws.Tables
set_option linter.unusedSimpArgs false
set_option linter.unusedVariables false
namespace Go.Ab
open Go.RowKit

section
variable {P : Program} {tt : Nat → TI} {w0 w : World} {S0 : Base} {ρ : List Loc} {s : St} {a : Act} {g : Option Bool} {o : Oper} {K : AV → Prop}

theorem run_bound {n : Int} {y : Nat} {c : BoundsCode} (h0 : 0 ≤ n) (h1 : n ≤ y) (w : World) : (Instr.sliceBound (.int .i64 n) y c).run P w = .ok n.toNat w := by
  simp [Instr.sliceBound, asIntOf, h0, h1]

/-- What a bound comes to. -/
structure Bd (x : Option Value) (n : Int) (top d : Nat) : Prop where
  sm : ∀ v, x = some v → v = .int .i64 n ∧ 0 ≤ n ∧ n ≤ top
  nn : x = none → n = d

theorem run_bounds {isS : Bool} {len cap : Nat} {lo hi mx : Option Value} {l h m : Int} (hm : Bd mx m cap cap) (hh : Bd hi h m.toNat len) (hno : hi = none → mx = none) (hl : Bd lo l h.toNat 0) (w : World) :
    (Instr.sliceBounds isS len cap lo hi mx).run P w = .ok (l.toNat, h.toNat, m.toNat) w := by
  have em : ∀ v c, mx = some v → (Instr.sliceBound v cap c).run P w = .ok m.toNat w := by
    intro v c hv; obtain ⟨rfl, h0, h1⟩ := hm.sm v hv; exact run_bound h0 h1 w
  have eh : ∀ v c, hi = some v → (Instr.sliceBound v m.toNat c).run P w = .ok h.toNat w := by
    intro v c hv; obtain ⟨rfl, h0, h1⟩ := hh.sm v hv; exact run_bound h0 h1 w
  have el : ∀ v c, lo = some v → (Instr.sliceBound v h.toNat c).run P w = .ok l.toNat w := by
    intro v c hv; obtain ⟨rfl, h0, h1⟩ := hl.sm v hv; exact run_bound h0 h1 w
  have hm2 := hm.nn
  have hh2 := hh.nn
  have hl2 := hl.nn
  clear hm hh hl
  unfold Instr.sliceBounds
  cases mx with
  | none =>
    have := hm2 rfl; subst this
    simp only [Int.toNat_natCast] at *
    cases hi with
    | none =>
      have := hh2 rfl; subst this
      simp only [Int.toNat_natCast] at *
      cases lo with
      | none => have := hl2 rfl; subst this; simp
      | some v => simp [el _ _ rfl]
    | some u =>
      cases lo with
      | none => have := hl2 rfl; subst this; simp [eh _ _ rfl]
      | some v => simp [el _ _ rfl, eh _ _ rfl]
  | some t =>
    cases hi with
    | none => exact absurd (hno rfl) (by simp)
    | some u =>
      cases lo with
      | none => have := hl2 rfl; subst this; simp [eh _ _ rfl, em _ _ rfl]
      | some v => simp [el _ _ rfl, eh _ _ rfl, em _ _ rfl]

theorem bnd_sound (hI : Inv w0 S0 ρ s a w) {x : Option Operand} {d : Option Int} {k : Int → Prop} (h : bnd alg s.t g x d k) :
    ∃ n, k n ∧ (∀ y, x = some y → gt g → a.eval y = .int .i64 n) ∧ (x = none → d = some n) := by
  cases x with
  | none =>
    cases d with
    | none => exact h.elim
    | some n => exact ⟨n, h, (fun y hy => by cases hy), fun _ => rfl⟩
  | some y =>
    simp only [bnd] at h
    obtain ⟨yv, h1, hy⟩ := op1_sound h (ev_sound hI y)
    split at h1
    · rename_i n
      exact ⟨n, h1, (fun z hz hg => by cases hz; exact hy hg), (fun hz => by cases hz)⟩
    · exact h1.elim

theorem mkBd {x : Option Operand} {n : Int} {top d : Nat} (h1 : ∀ y, x = some y → a.eval y = .int .i64 n) (h2 : x = none → n = d) (h3 : 0 ≤ n ∧ n ≤ top) : Bd (x.map a.eval) n top d := by
  constructor
  · intro v hv
    cases x with
    | none => cases hv
    | some y => simp at hv; subst hv; exact ⟨h1 y rfl, h3⟩
  · intro hv
    cases x with
    | none => exact h2 rfl
    | some y => cases hv

theorem getD_take {α : Type} {l : List α} {k n : Nat} {d : α} (h : k < n) : (l.take n).getD k d = l.getD k d := by
  simp [List.getD, List.getElem?_take, h]
theorem getD_drop {α : Type} {l : List α} {k n : Nat} {d : α} : (l.drop n).getD k d = l.getD (n + k) d := by
  simp [List.getD]

theorem flat_take {n : Nat} : ∀ {l : List (List Int)}, (∀ x ∈ l, x.length = n) → ∀ k, (l.take k).flatMap (fun x => x.map (Value.int .i64)) = (l.flatMap (fun x => x.map (Value.int .i64))).take (k * n)
  | [], _, k => by simp
  | x :: l, h, 0 => by simp
  | x :: l, h, k + 1 => by
    have hx : x.length = n := h x (by simp)
    rw [List.take_succ_cons, List.flatMap_cons, List.flatMap_cons, flat_take (fun y hy => h y (by simp [hy])) k, List.take_append, Nat.add_mul, Nat.one_mul]
    congr 1
    · rw [List.take_of_length_le (by simp; omega)]
    · congr 1; simp; omega
theorem flat_drop {n : Nat} : ∀ {l : List (List Int)}, (∀ x ∈ l, x.length = n) → ∀ k, (l.drop k).flatMap (fun x => x.map (Value.int .i64)) = (l.flatMap (fun x => x.map (Value.int .i64))).drop (k * n)
  | [], _, k => by simp
  | x :: l, h, 0 => by simp
  | x :: l, h, k + 1 => by
    have hx : x.length = n := h x (by simp)
    rw [List.drop_succ_cons, List.flatMap_cons, flat_drop (fun y hy => h y (by simp [hy])) k, List.drop_append, Nat.add_mul, Nat.one_mul]
    have e : (x.map (Value.int .i64)).drop (k * n + n) = [] := List.drop_of_length_le (by simp only [List.length_map]; rw [hx]; exact Nat.le_add_left _ _)
    rw [e, List.nil_append]
    congr 1
    simp only [List.length_map]; omega

theorem RC.win {ok : Nat → Prop} {r : Row} {cs : List Value} (h : RC w ok r cs) (l m : Nat) : RC w ok (r.win alg l m) ((cs.take (m * wd r)).drop (l * wd r)) := by
  cases r with
  | ints k x => simp only [RC] at h; subst h; simp [RC, Row.win, alg, wd, List.map_take, List.map_drop]
  | bools x => simp only [RC] at h; subst h; simp [RC, Row.win, alg, wd, List.map_take, List.map_drop]
  | strs x => simp only [RC] at h; subst h; simp [RC, Row.win, alg, wd, List.map_take, List.map_drop]
  | recs n x =>
    obtain ⟨h1, rfl⟩ := h
    refine ⟨fun y hy => h1 y (List.mem_of_mem_take (List.mem_of_mem_drop hy)), ?_⟩
    simp only [alg, wd]
    rw [flat_drop (n := n) (fun y hy => h1 y (List.mem_of_mem_take hy)), flat_take h1]
  | intss x =>
    refine ⟨by simp [alg, wd, h.1], fun i v hv => ?_⟩
    simp only [wd, Nat.mul_one, List.getElem?_drop, List.getElem?_take] at hv
    split at hv
    · rename_i hlt
      have := h.2 _ v hv
      simp only [alg]
      rw [getD_drop, getD_take hlt]
      exact this
    · cases hv
  | boolss x =>
    refine ⟨by simp [alg, wd, h.1], fun i v hv => ?_⟩
    simp only [wd, Nat.mul_one, List.getElem?_drop, List.getElem?_take] at hv
    split at hv
    · rename_i hlt
      have := h.2 _ v hv
      simp only [alg]
      rw [getD_drop, getD_take hlt]
      exact this
    · cases hv
  | itr _ _ => exact h.elim
  | mpr _ => exact h.elim
  | tabs _ => exact h.elim

theorem nl_win {r : Row} (l m : Nat) (hm : m ≤ nl r) : nl (r.win alg l m) = m - l := by
  cases r <;> simp only [nl, Row.nlen, alg, Row.win] at * <;> (try simp) <;> omega

theorem wd_win {r : Row} (l m : Nat) : wd (r.win alg l m) = wd r := by cases r <;> rfl

theorem bytes_extract (b : List UInt8) (l h : Nat) : (⟨b.toArray⟩ : ByteArray).extract l h = ⟨((b.take h).drop l).toArray⟩ := by
  apply WideShapes.bytes_inj
  simp [ByteArray.data_extract, List.drop_take]

theorem sliceAt_string {t : Nat} {b : List UInt8} {lo hi : Option Value} {l h : Int} (hu : P.underlying t = some .string) (hh : Bd hi h b.length b.length) (hl : Bd lo l h.toNat 0) (w : World) :
    (Instr.sliceAt t (.string ⟨b.toArray⟩) lo hi none).run P w = .ok (.string ⟨((b.take h.toNat).drop l.toNat).toArray⟩) w := by
  have hs : (⟨b.toArray⟩ : ByteArray).size = b.length := by show b.toArray.size = _; simp
  have hm : Bd none (b.length : Int) b.length b.length := ⟨(fun v hv => by cases hv), fun _ => rfl⟩
  have := run_bounds (P := P) (isS := false) (len := b.length) (cap := b.length) hm (by simpa using hh) (fun _ => rfl) hl w
  simp [Instr.sliceAt, Instr.slice, run_underlying hu, hs, this, bytes_extract]

theorem sliceAt_slice {t E : Nat} {i : TypeInfo} {ad : Option Addr} {len cap : Nat} {lo hi mx : Option Value} {l h m : Int} (hu : P.underlying t = some (.slice E)) (hi' : P.info? E = some i) (hm : Bd mx m cap cap) (hh : Bd hi h m.toNat len) (hno : hi = none → mx = none) (hl : Bd lo l h.toNat 0) (w : World) :
    (Instr.sliceAt t (.slice ad len cap) lo hi mx).run P w = .ok (.slice (if m.toNat = l.toNat then ad else ad.map (·.add (l.toNat * i.size))) (h.toNat - l.toNat) (m.toNat - l.toNat)) w := by
  have := run_bounds (P := P) (isS := true) (len := len) (cap := cap) hm hh hno hl w
  simp [Instr.sliceAt, Instr.slice, run_underlying hu, this, sizeOf, typeInfo, hi']

theorem ps_slice (hT : TTok P tt) (hI : Inv w0 S0 ρ s a w) {t : Nat} {x : Operand} {lo hi mx : Option Operand} (ho : o.op = .slice t x lo hi mx) (h : pureOp alg tt g s (.slice t x lo hi mx) K) : PS P o a w ρ s.h g K := by
  simp only [pureOp] at h
  obtain ⟨xv, h1, hx⟩ := op1_sound h (ev_sound hI x)
  clear h
  split at h1
  · rename_i b
    split at h1
    · rename_i he
      have hu : P.underlying t = some .string := (hT.el _ _ he).desc
      obtain ⟨nh, h2, hhs, hhn⟩ := bnd_sound hI h1
      obtain ⟨n2, h3, hls, hln⟩ := bnd_sound hI h2
      obtain ⟨h4, p1⟩ := ob_sound h3
      obtain ⟨h5, p2⟩ := ob_sound h4
      refine ⟨_, h5, fun hg => ?_⟩
      have q1 := p1 hg; have q2 := p2 hg
      simp only [alg] at q1 q2
      refine ⟨.string ⟨((b.take nh.toNat).drop n2.toNat).toArray⟩, rfl, fun w' _ => ?_⟩
      have e1 : a.eval x = .string ⟨b.toArray⟩ := hx hg
      simp only [execOp, ho, e1]
      exact run_v (sliceAt_string hu (mkBd (fun y hy => hhs y hy hg) (fun h => by have := hhn h; simp [alg] at this; omega) (by omega))
        (mkBd (fun y hy => hls y hy hg) (fun h => by have := hln h; simp at this; omega) (by omega)) w')
    · exact h1.elim
  · rename_i r
    split at h1
    · rename_i E e he
      obtain ⟨hu, hE⟩ := hT.sl _ _ _ he
      obtain ⟨i, hi', hsz, _⟩ := hE.info
      split at h1
      · rename_i heq
        have her := RK.eqb_eq heq
        obtain ⟨nh, h2, hhs, hhn⟩ := bnd_sound hI h1
        obtain ⟨n2, h3, hls, hln⟩ := bnd_sound hI h2
        obtain ⟨h4, p1⟩ := ob_sound h3
        obtain ⟨h5, p2⟩ := ob_sound h4
        refine ⟨_, h5, fun hg => ?_⟩
        have q1 := p1 hg; have q2 := p2 hg
        rw [len_nl] at q1 hhn
        simp only [alg] at q1 q2
        obtain ⟨A, cap, cs, hv, c1, c2, hr, hc⟩ := hx hg
        have e1 : a.eval x = .slice A (nl r) cap := hv
        have hrun := fun w' => sliceAt_slice (P := P) (ad := A) (len := nl r) (cap := cap) (lo := lo.map a.eval) (hi := hi.map a.eval) (mx := none) (l := n2) (h := nh) (m := (cap : Int)) hu hi'
          ⟨(fun v hv => by cases hv), fun _ => rfl⟩
          (mkBd (fun y hy => hhs y hy hg) (fun h => by have := hhn h; simp at this; omega) (by simp; omega)) (fun _ => rfl)
          (mkBd (fun y hy => hls y hy hg) (fun h => by have := hln h; simp at this; omega) (by omega)) w'
        refine ⟨.slice (if (cap : Int).toNat = n2.toNat then A else A.map (·.add (n2.toNat * i.size))) (nh.toNat - n2.toNat) ((cap : Int).toNat - n2.toNat), ?_, fun w' _ => ?_⟩
        · have hnl : nl (r.win alg n2.toNat nh.toNat) = nh.toNat - n2.toNat := nl_win _ _ (by omega)
          change ROw w (okB ρ s.h) (r.win alg n2.toNat nh.toNat) _
          refine ⟨_, _, _, by rw [hnl], by rw [hnl]; simp; omega, by simp; omega, hr.win _ _, fun hp => ?_⟩
          rw [hnl] at hp
          have hne : ¬ (cap : Int).toNat = n2.toNat := by omega
          obtain ⟨ad, rfl, hb, hok, hc⟩ := hc (by omega)
          refine ⟨ad.add (n2.toNat * i.size), by rw [if_neg hne]; rfl, by rw [add_block]; exact hb, by rw [add_block]; exact hok, fun j u hu => ?_⟩
          rw [add_add, hsz, ← her, sz_wd]
          rw [List.getElem?_drop, List.getElem?_take] at hu
          split at hu
          · exact hc _ _ hu
          · cases hu
        · simp only [execOp, ho, e1]
          exact run_v (hrun w')
      · exact h1.elim
    · exact h1.elim
  · rename_i ob z
    split at h1
    · rename_i E' r E e hob he hhm
      obtain ⟨hu, hE⟩ := hT.sl _ _ _ he
      obtain ⟨i, hi', hsz, _⟩ := hE.info
      split at h1
      · rename_i heq
        have her := RK.eqb_eq heq
        obtain ⟨nh, h2, hhs, hhn⟩ := bnd_sound hI h1
        obtain ⟨n2, h3, hls, hln⟩ := bnd_sound hI h2
        obtain ⟨nm, h3', hms, hmn⟩ := bnd_sound hI h3
        obtain ⟨h4, p1⟩ := ob_sound h3'
        obtain ⟨h5, p2⟩ := ob_sound h4
        obtain ⟨h6, p3⟩ := ob_sound h5
        refine ⟨_, h6, fun hg => ?_⟩
        have q1 := p1 hg; have q2 := p2 hg; have q3 := p3 hg
        rw [len_nl] at q1 hhn
        simp only [alg] at q1 q2 q3
        obtain ⟨hlt, hv⟩ := hx hg
        obtain ⟨loc, hl, hv⟩ := hv E' r (gO hob)
        rcases hv with ⟨hz, _, hv, h0⟩ | ⟨hz, cap, hv, c1, c2, c3⟩
        · rw [h0] at q1 hhn
          have wb : IntKind.i64.wrap (nh - n2) = nh - n2 := IntWalk.i64_in _ ⟨by omega, by omega⟩
          have e1 : a.eval x = .slice none 0 0 := hv
          obtain ⟨mc, hmc⟩ : ∃ mc : Int, mc = if mx = none then ((0 : Nat) : Int) else nm := ⟨_, rfl⟩
          have mc1 : mc = 0 := by rw [hmc]; split <;> omega
          have hrun := fun w' => sliceAt_slice (P := P) (ad := none) (len := 0) (cap := 0) (lo := lo.map a.eval) (hi := hi.map a.eval) (mx := mx.map a.eval) (l := n2) (h := nh) (m := mc) hu hi'
            (mkBd (fun y hy => by rw [hmc, if_neg (by rw [hy]; simp)]; exact hms y hy hg) (fun h => by rw [hmc, if_pos h]) (by omega))
            (mkBd (fun y hy => hhs y hy hg) (fun h => by have := hhn h; simp at this; omega) (by omega))
            (fun hv => by cases hi <;> cases mx <;> first | rfl | (cases hv; done) | (simp [okHM] at hhm))
            (mkBd (fun y hy => hls y hy hg) (fun h => by have := hln h; simp at this; omega) (by omega)) w'
          refine ⟨.slice none 0 0, ⟨hlt, fun E2 r2 hr2 => ?_⟩, fun w' _ => ?_⟩
          · rw [gO hob] at hr2
            cases hr2
            exact ⟨loc, hl, .inl ⟨hz, rfl, by simp only [alg]; rw [wb]; omega, by simp only [alg]; omega, h0⟩⟩
          · simp only [execOp, ho, e1]
            refine run_v ((hrun w').trans ?_)
            have a1 : nh.toNat - n2.toNat = 0 := by omega
            have a2 : mc.toNat - n2.toNat = 0 := by omega
            rw [a1, a2]
            split <;> rfl
        · skip
          have e1 : a.eval x = .slice (some ⟨loc.g, 0, none⟩) (nl r) cap := hv
          have wb : IntKind.i64.wrap (nh - n2) = nh - n2 := by
            have := c2; simp only [maxLen] at this
            exact IntWalk.i64_in _ ⟨by omega, by omega⟩
          obtain ⟨mc, hmc⟩ : ∃ mc : Int, mc = if mx = none then (cap : Int) else nm := ⟨_, rfl⟩
          have mc1 : nh ≤ mc ∧ mc ≤ cap := by rw [hmc]; split <;> omega
          have hrun := fun w' => sliceAt_slice (P := P) (ad := some ⟨loc.g, 0, none⟩) (len := nl r) (cap := cap) (lo := lo.map a.eval) (hi := hi.map a.eval) (mx := mx.map a.eval) (l := n2) (h := nh) (m := mc) hu hi'
            (mkBd (fun y hy => by rw [hmc, if_neg (by rw [hy]; simp)]; exact hms y hy hg) (fun h => by rw [hmc, if_pos h]) (by omega))
            (mkBd (fun y hy => hhs y hy hg) (fun h => by have := hhn h; simp at this; omega) (by omega))
            (fun hv => by cases hi <;> cases mx <;> first | rfl | (cases hv; done) | (simp [okHM] at hhm))
            (mkBd (fun y hy => hls y hy hg) (fun h => by have := hln h; simp at this; omega) (by omega)) w'
          refine ⟨.slice (some (if mc.toNat = n2.toNat then ⟨loc.g, 0, none⟩ else ⟨loc.g, n2.toNat * wd r, none⟩)) (nh.toNat - n2.toNat) (mc.toNat - n2.toNat), ⟨hlt, fun E2 r2 hr2 => ?_⟩, fun w' _ => ?_⟩
          · rw [gO hob] at hr2
            cases hr2
            have ee : alg.tn (alg.sub IntKind.i64 nh n2) = nh.toNat - n2.toNat := by simp only [alg]; rw [wb]; omega
            rw [ee]
            refine ⟨loc, hl, .inr ⟨hz, _, _, rfl, by omega, by omega, ?_, ?_, fun hc => ?_⟩⟩
            · have : alg.tn n2 + (mc.toNat - n2.toNat) = mc.toNat := by simp only [alg]; omega
              rw [this]
              exact Nat.le_trans (Nat.mul_le_mul_right _ (by omega)) c3
            · simp only [alg]; omega
            · simp only [alg] at hc ⊢
              split
              · have : n2.toNat = 0 := by omega
                simp [this]
              · rfl
          · simp only [execOp, ho, e1]
            refine run_v ((hrun w').trans ?_)
            rw [hsz, ← her, sz_wd]
            split <;> simp [add_lit']
      · exact h1.elim
    · exact h1.elim
  · exact h1.elim

theorem ps_len (hT : TTok P tt) (hI : Inv w0 S0 ρ s a w) {args : Array Operand} {ts : Array TypeId} (ho : o.op = .call { callee := .builtin .len, args := args, argTypes := ts }) (h : pureOp alg tt g s (.call { callee := .builtin .len, args := args, argTypes := ts }) K) : PS P o a w ρ s.h g K := by
  simp only [pureOp] at h
  split at h
  · rename_i x t hxa hta
    obtain rfl : args = #[x] := by cases args; simp at hxa; subst hxa; rfl
    obtain rfl : ts = #[t] := by cases ts; simp at hta; subst hta; rfl
    obtain ⟨xv, h1, hx⟩ := op1_sound h (ev_sound hI x)
    clear h hxa hta
    have key : ∀ {v : Value} {n : Nat}, a.eval x = v → (∀ w', (Builtin.len_ #[t] o.type #[v]).run P w' = .ok (goInt n) w') → K (.int .i64 (n : Int)) → gt g → Yields P o a w ρ s.h (.int .i64 (n : Int)) := by
      intro v n e hr _ _
      refine ⟨goInt n, rfl, fun w' _ => ?_⟩
      simp [execOp, ho, resolve, invoke, builtin, e, hr w']
    have sl : ∀ {E : Nat} {e : RK}, (tt t).sl = some (E, e) → ∀ (A : Option Addr) (n c : Nat) (w' : World), (Builtin.len_ #[t] o.type #[.slice A n c]).run P w' = .ok (goInt n) w' := by
      intro E e he A n c w'
      simp [Builtin.len_, run_underlying (hT.sl _ _ _ he).1]
    split at h1
    · rename_i b
      split at h1
      · rename_i he
        have hu : P.underlying t = some .string := (hT.el _ _ he).desc
        refine ⟨_, h1, fun hg => key (hx hg) (fun w' => ?_) h1 hg⟩
        simp [Builtin.len_, run_underlying hu]; rfl
      · exact h1.elim
    · split at h1
      · rename_i p he
        exact ⟨_, h1, fun hg => key (n := 0) (hx hg) (fun w' => sl he _ _ _ w') h1 hg⟩
      · exact h1.elim
    · rename_i r
      split at h1
      · rename_i p he
        rw [len_nl] at h1
        refine ⟨_, h1, fun hg => ?_⟩
        obtain ⟨A, cap, cs, hv, _⟩ := hx hg
        exact key hv (fun w' => sl he _ _ _ w') h1 hg
      · exact h1.elim
    · rename_i ob z
      split at h1
      · rename_i p E r he hob
        rw [len_nl] at h1
        refine ⟨_, h1, fun hg => ?_⟩
        obtain ⟨_, hv⟩ := hx hg
        obtain ⟨loc, _, hv⟩ := hv E r (gO hob)
        rcases hv with ⟨_, _, hv, h0⟩ | ⟨_, cap, hv, _⟩
        · rw [h0] at h1 ⊢; exact key (n := 0) hv (fun w' => sl he _ _ _ w') h1 hg
        · exact key hv (fun w' => sl he _ _ _ w') h1 hg
      · exact h1.elim
    · rename_i ob b n
      split at h1
      · rename_i p q he hob
        obtain ⟨E, r⟩ := q
        refine ⟨_, h1, fun hg => ?_⟩
        obtain ⟨_, hv⟩ := hx hg
        obtain ⟨loc, _, hv⟩ := hv E r (gO hob)
        rcases hv with ⟨_, hv2, h0, _⟩ | ⟨_, cap, ad, hv2, _⟩
        · subst h0; exact key (n := 0) hv2 (fun w' => sl he _ _ _ w') h1 hg
        · exact key hv2 (fun w' => sl he _ _ _ w') h1 hg
      · exact h1.elim
    · exact h1.elim
  · exact h.elim

theorem args2 {α : Type} {a : Array α} {x y : α} (h : a.toList = [x, y]) : a = #[x, y] := by cases a; simp at h; subst h; rfl

theorem ps_min (hI : Inv w0 S0 ρ s a w) {args : Array Operand} {ts : Array TypeId} (ho : o.op = .call { callee := .builtin .min, args := args, argTypes := ts }) (h : pureOp alg tt g s (.call { callee := .builtin .min, args := args, argTypes := ts }) K) : PS P o a w ρ s.h g K := by
  simp only [pureOp] at h
  split at h
  · rename_i x y hxa
    obtain rfl := args2 hxa
    obtain ⟨xv, h1, hx⟩ := op1_sound h (ev_sound hI x)
    obtain ⟨yv, h2, hy⟩ := op1_sound h1 (ev_sound hI y)
    clear h h1 hxa
    split at h2
    · rename_i k m k' n
      split at h2
      · rename_i hk
        cases kb_eq hk
        refine ⟨_, h2, fun hg => ⟨_, rfl, fun w' _ => ?_⟩⟩
        have e1 : a.eval x = .int k m := hx hg
        have e2 : a.eval y = .int k n := hy hg
        simp [execOp, ho, resolve, invoke, builtin, e1, e2, Builtin.min_, Builtin.min2, alg]
      · exact h2.elim
    · exact h2.elim
  · exact h.elim

theorem ps_max (hI : Inv w0 S0 ρ s a w) {args : Array Operand} {ts : Array TypeId} (ho : o.op = .call { callee := .builtin .max, args := args, argTypes := ts }) (h : pureOp alg tt g s (.call { callee := .builtin .max, args := args, argTypes := ts }) K) : PS P o a w ρ s.h g K := by
  simp only [pureOp] at h
  split at h
  · rename_i x y hxa
    obtain rfl := args2 hxa
    obtain ⟨xv, h1, hx⟩ := op1_sound h (ev_sound hI x)
    obtain ⟨yv, h2, hy⟩ := op1_sound h1 (ev_sound hI y)
    clear h h1 hxa
    split at h2
    · rename_i k m k' n
      split at h2
      · rename_i hk
        cases kb_eq hk
        refine ⟨_, h2, fun hg => ⟨_, rfl, fun w' _ => ?_⟩⟩
        have e1 : a.eval x = .int k m := hx hg
        have e2 : a.eval y = .int k n := hy hg
        simp [execOp, ho, resolve, invoke, builtin, e1, e2, Builtin.max_, Builtin.max2, alg]
      · exact h2.elim
    · exact h2.elim
  · exact h.elim

/-! A struct literal. -/
theorem blds_sound (hI : Inv w0 S0 ρ s a w) (wd : Nat) : ∀ (parts : List (Nat × Operand)) (l : List Int) {K : List Int → Prop}, blds alg g s.t wd parts l K → l.length = wd →
    ∃ l', K l' ∧ l'.length = wd ∧ (gt g → ∀ (pl : Nat → Option (Nat × Nat)), (∀ j, j < wd → pl j = some (j, 1)) →
      Instr.fill pl (l.map (Value.int .i64)).toArray (parts.map fun p => (p.1, a.eval p.2)) = some (l'.map (Value.int .i64)).toArray)
  | [], l, K, h, hl => ⟨l, h, hl, fun _ _ _ => rfl⟩
  | (j, x) :: r, l, K, h, hl => by
    simp only [blds] at h
    obtain ⟨xv, h1, hx⟩ := op1_sound h (ev_sound hI x)
    split at h1
    · rename_i n
      split at h1
      · rename_i hj
        have hj := nblt hj
        obtain ⟨l', h2, h3, h4⟩ := blds_sound hI wd r (alg.set l j n) h1 (by simp only [alg, List.length_set]; exact hl)
        refine ⟨l', h2, h3, fun hg pl hpl => ?_⟩
        have e : a.eval x = .int .i64 n := hx hg
        have := h4 hg pl hpl
        simp only [List.map_cons, Instr.fill, hpl j hj, e]
        rw [if_neg (by simp [Value.cells]; omega)]
        rw [← this]
        congr 1
        simp [Value.cells, alg, List.map_set]
      · exact h1.elim
    · exact h1.elim
theorem fields_places : ∀ (fs : List Field) (k : Nat), (∀ (j : Nat) (f : Field), fs[j]? = some f → f.offset = k + j ∧ ∃ i, P.info? f.type = some i ∧ i.size = 1) →
    fs.mapM (fun f => (P.info? f.type).map fun i => (f.offset, i.size)) = some ((List.range fs.length).map fun j => (k + j, 1))
  | [], k, _ => rfl
  | f :: fs, k, h => by
    obtain ⟨h1, i, h2, h3⟩ := h 0 f rfl
    have ih := fields_places fs (k + 1) (fun j f' hf => by
      obtain ⟨q1, q2⟩ := h (j + 1) f' (by simpa using hf)
      exact ⟨by omega, q2⟩)
    simp only [List.mapM_cons, h2, Option.map_some, h3, ih, Option.bind_eq_bind, Option.bind_some, Option.pure_def, h1, List.length_cons, List.range_succ_eq_map, List.map_cons, List.map_map]
    congr 2
    apply List.map_congr_left
    intro j _
    simp; omega
theorem ps_build (hT : TTok P tt) (hI : Inv w0 S0 ρ s a w) {t : Nat} {parts : Array (Nat × Operand)} (ho : o.op = .build t parts) (h : pureOp alg tt g s (.build t parts) K) : PS P o a w ρ s.h g K := by
  simp only [pureOp] at h
  split at h
  · rename_i n he
    have hE := hT.el _ _ he
    obtain ⟨fs, hd, hn, hf⟩ := hE.desc
    obtain ⟨i, hi, _, _, hz⟩ := hE.info
    obtain ⟨l', h1, h2, h3⟩ := blds_sound hI n parts.toList (List.replicate n 0) h (by simp)
    refine ⟨_, h1, fun hg => ?_⟩
    have hpl := fields_places (P := P) fs.toList 0 (fun j f hj => by simpa using hf j f (by simpa using hj))
    have hfill := h3 hg (((List.range fs.toList.length).map fun j => (0 + j, 1)).toArray[·]?) (fun j hj => by
      have : j < fs.size := by omega
      simp [List.getElem?_range, this])
    refine ⟨.agg (l'.map (Value.int .i64)).toArray, ⟨h2, rfl⟩, fun w' _ => ?_⟩
    have hb : P.built t (parts.map fun (p : Nat × Operand) => (p.1, a.eval p.2)).toList = some (l'.map (Value.int .i64)).toArray := by
      unfold Program.built
      simp only [hi, hd, hz, hpl]
      rw [Array.toList_map]
      have e : (zv (.rc n)).cells = ((List.replicate n (0 : Int)).map (Value.int .i64)).toArray := by simp [zv, Value.cells]
      rw [e]
      exact hfill
    simp only [execOp, ho]
    exact run_v (run_build w' t _ _ hb)
  · exact h.elim

/-- EVERY OPERATION THAT ONLY READS. -/
theorem pureOp_any (hT : TTok P tt) (hI : Inv w0 S0 ρ s a w) (h : pureOp alg tt g s o.op K) : PS P o a w ρ s.h g K := by
  generalize ho : o.op = op at h
  have h0 := h
  unfold pureOp at h
  split at h
  · exact ps_move hI ho h
  · exact ps_assign hI ho h
  · exact ps_pick hI ho h0
  · exact ps_build hT hI ho h0
  · exact ps_bin hT hI ho h0
  · exact ps_not hI ho h0
  · exact ps_neg hI ho h0
  · exact ps_convert hT hI ho h0
  · exact ps_load hT hI ho h0
  · exact ps_fieldAddr hT hI ho h0
  · exact ps_indexAddr hT hI ho h0
  · exact ps_index hT hI ho h0
  · exact ps_extract hI ho h0
  · exact ps_slice hT hI ho h0
  · exact ps_lookup hT hI ho h0
  · exact ps_nilCheck hI ho h0
  · exact ps_len hT hI ho h0
  · exact ps_min hI ho h0
  · exact ps_max hI ho h0
  · exact h.elim

theorem pureOp_sound (hT : TTok P tt) (hI : Inv w0 S0 ρ s a w) (h : pureOp alg tt g s o.op K) : ∃ x, K x ∧ (gt g → ∃ v, VR w (okB ρ s.h) ρ s.h x v ∧ ∀ w', After w w' → (execOp a.eval o).run P w' = .ok (.value v) w') := by
  obtain ⟨x, hk, hr⟩ := pureOp_any hT hI h
  refine ⟨x, hk, fun hg => ?_⟩
  obtain ⟨v, hv, hrun⟩ := hr hg
  exact ⟨v, hv, fun w' hw => hrun w' fun _ => hw⟩

end
end Go.Ab
