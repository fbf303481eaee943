/-
  A CONTRACT of a function that hands back a row out of a table of its own making, to be read alone.
-/
import Derived.Test.YtbnnpcfagkdobaaAb19
set_option linter.unusedSimpArgs false
set_option linter.unusedVariables false
namespace Go.Ab
open Go.RowKit

structure eqP {α : Type} (a b : α) : Prop where
  h : a = b
theorem eqP_iff {α : Type} (a b : α) : eqP a b ↔ a = b := ⟨fun h => h.h, fun h => ⟨h⟩⟩
/-- Slot x holds a pointer to a row of a table of one's own. -/
def innP (A : Alg) (x y z : Nat) (row : List Int) (s : St) : Prop :=
  match Nat.blt y s.t.length, Nat.blt z s.t.length, ev s.t (.tmp x) with
  | true, true, .po o k => match getO s.h o with | some (_, .intss l) => eqP (A.gL l k) row | _ => False
  | _, _, _ => False

section
variable {P : Program} {tt : Nat → TI} {T : Nat → List AV → CR} {w0 w w' : World} {S0 : Base} {ρ ρ' : List Loc} {s s' : St} {a : Act}

theorem fc_inner {σ : Type} (S0 : σ) (L : σ → List (Nat × (List AV → CR))) (hTab : TabOK P (tfind (L S0))) (hT : TTok P tt) (hm : P.follows .mixedOrders = true) {f : Nat} {fn : Func} {c1 c2 : Code} {id : Nat} {ops : Array Oper} (n : Nat) {o1 o2 : Oper} {t x y z : Nat} {args : List AV} {row : List Int}
    (hf : P.funcs[f]? = some fn) (hb : fn.body = some (c1.seq (c2.seq ((Code.region id ops false).seq .ret)))) (hname : (fn.name == "runtime.NumGoroutine") = false) (hr : fn.results.toList = [.tmp z])
    (hops : ops.toList.drop n = [o1, o2]) (h1 : o1.op = .load t (.tmp x) ∧ o1.guard = none ∧ o1.dst = some y) (h2 : o2.op = .assign (.tmp y) ∧ o2.guard = none ∧ o2.dst = some z) (ht : (tt t).el = some .sli)
    (h : ∀ (A : Alg) (S : σ) (row0 : List Int), A = alg → S = S0 → row0 = row →
      awp A tt (tfind (L S)) c1 (fun e s => match e with
        | .normal => awp A tt (tfind (L S)) c2 (fun e s => match e with | .normal => regA A tt (tfind (L S)) false ops (ops.toList.take n) s (innP A x y z row0) | _ => False) s
        | _ => False) ⟨args ++ undefs (fn.ntmps - args.length), [.dead]⟩) : FC P f args (.ro (.ints .i64 row)) [] := by
  refine ⟨⟨fn, hf, by simpa using hname, by rw [hb]; simp⟩, fun w vals _ hv => ?_⟩
  refine calls_of_wp hf hb ?_
  have hnl : ∀ {o loc E r}, ¬ live [Loc.mk 0 0 true] [AO.dead] o loc E r := by
    rintro o loc E r ⟨h1, _⟩
    cases o <;> simp at h1
  have hv' : VRs w (okB [Loc.mk 0 0 true] [.dead]) [Loc.mk 0 0 true] [.dead] args vals := VRs_clean (VRs_weak (fun k _ o loc E r hl => (hnl hl).elim) hv)
  obtain ⟨i1, i2⟩ := init_slots (n := fn.ntmps) hv'
  have hTab' : TabIn P (tfind (L S0)) w ⟨fun _ => False, none⟩ := ⟨⟨GT, hTab, fun _ _ => trivial⟩⟩
  have hI : Inv w ⟨fun _ => False, none⟩ [Loc.mk 0 0 true] ⟨args ++ undefs (fn.ntmps - args.length), [.dead]⟩ { tmps := vals.toArray ++ Array.replicate (fn.ntmps - vals.toArray.size) undef, defers := [] } w :=
    ⟨Keeps.refl _ _, (fun _ h => by cases h), rfl, (fun o loc E r hl => (hnl hl).elim), (fun o o' loc loc' E E' r r' hl => (hnl hl).elim), i1, i2, rfl⟩
  have h := h alg S0 row rfl rfl rfl
  refine wp_seq (wp_mono (awp_sound hT hTab' hm _ _ _ _ _ _ h hI) ?_)
  intro e a1 w1 hq
  cases e with
  | normal =>
    obtain ⟨s1, ρ1, q1, hI1⟩ := hq
    refine wp_seq (wp_mono (awp_sound hT hTab' hm _ _ _ _ _ _ q1 hI1) ?_)
    intro e a2 w2 hq
    cases e with
    | normal =>
      obtain ⟨s2, ρ2, q2, hI2⟩ := hq
      refine wp_seq (wp_region_list ?_)
      rw [← List.take_append_drop n ops.toList, hops]
      refine reg_seqT hT hTab' ?_ _ _ _ _ _ q2 hI2
      intro s3 ρ3 a3 w3 q3 hI3
      unfold innP at q3
      split at q3
      · rename_i o k by' bz hev
        split at q3
        · rename_i E l hob
          have hrow := q3.h
          have hp := ev_sound hI3 (.tmp x)
          rw [hev] at hp
          obtain ⟨_, hp⟩ := hp
          obtain ⟨loc, hl, hz, hpv, hk⟩ := hp E _ (gO hob)
          have hlive : live ρ3 s3.h o loc E (.intss l) := ⟨gO hob, hl⟩
          obtain ⟨hblk, cs, hrc, hcl, hc⟩ := (hI3.obj _ _ _ _ hlive).1.cell hz
          have hk' : k < cs.length := by
            have := hrc.1
            simp only [nl, Row.nlen, alg] at hk
            omega
          obtain ⟨u, hu⟩ : ∃ u, cs[k]? = some u := ⟨_, List.getElem?_eq_getElem hk'⟩
          have hroi := hrc.2 k u hu
          have e1 : l.getD k [] = row := hrow
          rw [e1] at hroi
          have hcell : w3.cell? ⟨loc.g, k * wd (.intss l), none⟩ = some u := by
            have := hc k u hu
            simpa [wd] using this
          have hld : (Instr.loadAt t (.pointer (some ⟨loc.g, k * wd (.intss l), none⟩))).run P w3 = .ok u w3 := load_one (hT.el _ _ ht) (by simp) hcell
          have hsz := hI3.size
          have hy : y < a3.tmps.size := by rw [hsz]; exact nblt by'
          have hzz : z < a3.tmps.size := by rw [hsz]; exact nblt bz
          refine wpList_plain h1.2.1 fun K hK => ?_
          have r1 : (execOp a3.eval o1).run P w3 = .ok (.value u) w3 := by
            have e : a3.eval (.tmp x) = .pointer (some ⟨loc.g, k * wd (.intss l), none⟩) := hpv
            simp only [execOp, h1.1, e]
            exact run_v hld
          unfold Oper.wp
          rw [r1]
          refine hK _ _ (wpList_plain h2.2.1 fun K' hK' => ?_)
          have hput : (a3.put o1.dst u).eval (.tmp y) = u := by
            rw [h1.2.2]
            simp [Act.put, Act.eval, Array.getD_eq_getD_getElem?, hy]
          have r2 : (execOp (a3.put o1.dst u).eval o2).run P w3 = .ok (.value u) w3 := by
            simp [execOp, h2.1, hput]
          unfold Oper.wp
          rw [r2]
          refine hK' _ _ (wpList_nil (wp_ret ?_))
          have hres : (results fn ((a3.put o1.dst u).put o2.dst u).tmps).run P w3 = .ok u w3 := by
            have hr' : fn.results = #[.tmp z] := by rw [← hr]
            have hz2 : ((a3.put o1.dst u).put o2.dst u).tmps.getD z undef = u := by
              rw [h1.2.2, h2.2.2]
              simp [Act.put, Array.getD_eq_getD_getElem?, hzz]
            rw [Array.getD_eq_getD_getElem?] at hz2
            simp [results, hr', hz2]
          refine ⟨?_, u, hres, u, [], rfl, hI3.keep.below, rfl, ?_, ?_, ?_⟩
          · rw [h1.2.2, h2.2.2]; exact hI3.defers
          · rintro o loc E r ⟨h1, _⟩; simp [rowsOf] at h1
          · rintro o o' loc loc' E E' r r' ⟨h1, _⟩; simp [rowsOf] at h1
          · obtain ⟨A, cap, e1, e2, e3, e4⟩ := hroi
            refine ⟨A, cap, row.map (.int .i64), by simpa [nl, Row.nlen, alg] using e1, by simpa [nl, Row.nlen, alg] using e2, e3, rfl, fun hp => ?_⟩
            obtain ⟨ad, q1, q2, q3, q4⟩ := e4 (by simpa [nl, Row.nlen, alg] using hp)
            refine ⟨ad, q1, q2, ⟨fun o loc E r hlv => ?_, q3.2.resolve_left (fun h => h)⟩, q4⟩
            have := hlv.1
            simp [rowsOf] at this
        · exact q3.elim
      · exact q3.elim
    | exit i => obtain ⟨_, _, q, _⟩ := hq; exact q.elim
    | ret => obtain ⟨_, _, q, _⟩ := hq; exact q.elim
    | goto l => exact hq.elim
    | panic l => exact hq.elim
    | outgrown => exact hq.elim
  | exit i => obtain ⟨_, _, q, _⟩ := hq; exact q.elim
  | ret => obtain ⟨_, _, q, _⟩ := hq; exact q.elim
  | goto l => exact hq.elim
  | panic l => exact hq.elim
  | outgrown => exact hq.elim
end
end Go.Ab
