/-
  The library's fields and its numerals, as contracts.
-/
import Derived.Test.YtdkpncnkhnmidaaDoorK1
import Derived.Test.YtdkpncnkhnmidaaDoorU4
set_option linter.unusedSimpArgs false
set_option linter.unusedVariables false
namespace Go.Proofs.YtdkpncnkhnmidaaDoor
open Go.Ab Go.RowKit Go.Lib

theorem predN (w : World) : PredAt Tryd.prog 19 #[] encR nd w := fun W r _ => by
  unfold FnGives
  by_cases h1 : (r : Int) < 48 <;> by_cases h2 : (57 : Int) < (r : Int)
  all_goals
    go_enter Tryd.func19, Tryd.ntmps19
    go_wp2
    all_goals first | (exfalso; omega) | (go_ret; exact ⟨by simp [nd, h1, h2], 0, rfl⟩)
theorem flds_map (s : List UInt8) : (flds s).map (fun x => Value.string ⟨x.toArray⟩) = (Lib.goFieldsP nd ⟨s.toArray⟩).map Value.string := by
  rw [flds, List.map_map]
  apply List.map_congr_left
  intro x _
  simp
theorem ffs_ok (s : List UInt8) (hs : s.length ≤ 1048576) : FCG gW Tryd.prog 18 [.str s, .fn 19] (.own 0 false) [(9, .strs (flds s))] := by
  have hbd : ¬ Tryd.f18.body = none := by
    intro h
    have h2 : Tryd.f18.body.isNone = false := by kernel_rfl
    rw [h] at h2
    cases h2
  refine ⟨⟨Tryd.f18, Tryd.func18, (by decide +kernel), hbd⟩, fun w vals hw hv => ?_⟩
  match vals, hv with
  | [v, v2], hv =>
    obtain ⟨hv, hv2, _⟩ := hv
    obtain rfl : v = .string ⟨s.toArray⟩ := hv
    obtain rfl : v2 = .func (.func 19) #[] #[] := hv2
    have hsz : (⟨s.toArray⟩ : ByteArray).size = s.length := by show s.toArray.size = _; simp
    refine (Tryd.strings_FieldsFunc 19 #[] (enters_of Tryd.func19 (by kernel_rfl) rfl) nd ⟨s.toArray⟩ w (by omega) (predN w)).mono ?_
    rintro e w' ⟨A, rfl, hA, ⟨hl, hr⟩, hb⟩
    rcases hr with ⟨h, _⟩ | ⟨g, cap, cur, hv, hg, hh, hc1, hc2, hc3, hc4⟩
    · cases h
    · cases hv
      have hlen : (flds s).length = (Lib.goFieldsP nd ⟨s.toArray⟩).length := by rw [flds, List.length_map]
      rw [Nat.mul_one] at hc4 hc3
      have hlt : A < w'.heap.size := (Array.getElem?_eq_some_iff.1 hh).1
      refine ⟨_, [⟨A, cur.size, false, []⟩], rfl, hb, ⟨rfl, ?_, ?_, ?_⟩⟩
      · rintro (_ | o) loc E row ⟨h1, h2⟩
        · cases h1; cases h2
          refine ⟨.inr ⟨rfl, .inl ⟨cur, _, hh, rfl, (flds_map s).symm, ?_, ?_⟩⟩, ?_⟩
          · simp; omega
          · rw [List.length_map]; exact hc4
          · intro k hk; obtain ⟨_, rfl⟩ := Loc.has_one hk; exact ⟨hA, hlt⟩
        · cases h1
      · intro o o' loc loc' E E' r r' kk h h' _ _
        have e1 : o = 0 := by
          rcases o with _ | o
          · rfl
          · cases h.1
        have e2 : o' = 0 := by
          rcases o' with _ | o
          · rfl
          · cases h'.1
        rw [e1, e2]
      · refine ⟨Nat.zero_lt_one, fun E r h => ?_⟩
        cases h
        refine ⟨_, rfl, .inr ⟨rfl, (Lib.goFieldsP nd ⟨s.toArray⟩).length, ?_, ?_, hc2, ?_⟩⟩
        · show _ = Value.slice _ (flds s).length _
          rw [hlen]
        · show (flds s).length ≤ _
          omega
        · show _ * 1 ≤ cur.size
          omega
theorem atoi_ok (s : List UInt8) (hs : s.length ≤ 1048576) : FCG gW Tryd.prog 20 [.str s] (.t2 (.int .i64 (atV s)) (.ifc (atB s))) [] := by
  have hbd : ¬ Tryd.f20.body = none := by
    intro h
    have h2 : Tryd.f20.body.isNone = false := by kernel_rfl
    rw [h] at h2
    cases h2
  refine ⟨⟨Tryd.f20, Tryd.func20, (by decide +kernel), hbd⟩, fun w vals hw hv => ?_⟩
  match vals, hv with
  | [v], hv =>
    obtain ⟨hv, _⟩ := hv
    obtain rfl : v = .string ⟨s.toArray⟩ := hv
    have hsz : (⟨s.toArray⟩ : ByteArray).size = s.length := by show s.toArray.size = _; simp
    have hdl : (⟨s.toArray⟩ : ByteArray).data.toList = s := by simp
    cases ha : Lib.atoiAll s
    · rename_i v
      refine (Tryd.strconv_Atoi_ok ⟨s.toArray⟩ (by omega) v (by rw [hdl]; exact ha) w).mono ?_
      rintro e w' ⟨rfl, hw'⟩
      refine ⟨_, [], rfl, ?_, ⟨rfl, ?_, ?_, _, _, rfl, by show _ = _; rw [atV, ha], .inl ⟨by rw [atB, ha], rfl⟩⟩⟩
      · rcases hw' with rfl | ⟨t, rfl⟩
        · exact Below.refl _ _
        · exact Lib.bytesWorld_below _ _ _
      · intro o loc E row h; cases h.1
      · intro o o' loc loc' E E' r r' kk h; cases h.1
    · obtain ⟨ev, hc, hev⟩ := hw.2.1
      refine (Tryd.strconv_Atoi_none ⟨s.toArray⟩ (by omega) (by rw [hdl, ha]; exact ⟨(fun v h => by cases h), (fun h => by cases h)⟩) ev w hc hev).mono ?_
      rintro e w' ⟨n, rfl, _, _, hb⟩
      refine ⟨_, [], rfl, hb, ⟨rfl, ?_, ?_, _, _, rfl, by show _ = _; rw [atV, ha], .inr ⟨by rw [atB, ha], _, _, rfl⟩⟩⟩
      · intro o loc E row h; cases h.1
      · intro o o' loc loc' E E' r r' kk h; cases h.1
    · obtain ⟨ev, hc, hev⟩ := hw.2.2
      refine (Tryd.strconv_Atoi_range ⟨s.toArray⟩ (by omega) (by rw [hdl]; exact ha) ev w hc hev).mono ?_
      rintro e w' ⟨n, rfl, _, _, hb⟩
      refine ⟨_, [], rfl, hb, ⟨rfl, ?_, ?_, _, _, rfl, by show _ = _; rw [atV, ha], .inr ⟨by rw [atB, ha], _, _, rfl⟩⟩⟩
      · intro o loc E row h; cases h.1
      · intro o o' loc loc' E E' r r' kk h; cases h.1
end Go.Proofs.YtdkpncnkhnmidaaDoor
