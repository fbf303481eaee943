/-
  WHAT THE ABSTRACT VALUES MEAN in a world: rows of cells, slices to be read, objects of one's own; how it is carried from world to world.
-/
import Derived.Test.YtdkpncnkhnmidaaDoorAb1
import Derived.Laws.OwnMore
import Derived.Laws.MakeOwn
set_option linter.unusedSimpArgs false
set_option linter.unusedVariables false
namespace Go.Ab
open Go.RowKit

abbrev nl (r : Row) : Nat := Row.nlen alg r
def wd : Row → Nat
  | .recs w _ => w
  | _ => 1

/-- A slice of numbers that is only read. -/
def ROi (w : World) (ok : Nat → Prop) (vs : List Value) (v : Value) : Prop :=
  ∃ a cap, v = .slice a vs.length cap ∧ vs.length ≤ cap ∧ cap ≤ maxLen ∧
    (0 < vs.length → ∃ ad, a = some ad ∧ ad.block < w.heap.size ∧ ok ad.block ∧ ∀ j u, vs[j]? = some u → w.cell? (ad.add j) = some u)

/-- The cells of a row. -/
def RC (w : World) (ok : Nat → Prop) : Row → List Value → Prop
  | .ints k l, cs => cs = l.map (.int k)
  | .bools l, cs => cs = l.map .bool
  | .strs l, cs => cs = l.map (fun s => .string ⟨s.toArray⟩)
  | .recs n l, cs => (∀ x ∈ l, x.length = n) ∧ cs = l.flatMap (fun x => x.map (.int .i64))
  | .intss l, cs => cs.length = l.length ∧ ∀ i v, cs[i]? = some v → ROi w ok ((l.getD i []).map (.int .i64)) v
  | .boolss l, cs => cs.length = l.length ∧ ∀ i v, cs[i]? = some v → ROi w ok ((l.getD i []).map .bool) v
  | .itr _ _, _ => False
  | .mpr _, _ => False
  | .tabs _, _ => False

/-- A slice that is only read. -/
def ROw (w : World) (ok : Nat → Prop) (r : Row) (v : Value) : Prop :=
  ∃ a cap cs, v = .slice a (nl r) cap ∧ nl r ≤ cap ∧ cap ≤ maxLen ∧ RC w ok r cs ∧
    (0 < nl r → ∃ ad, a = some ad ∧ ad.block < w.heap.size ∧ ok ad.block ∧ ∀ j u, cs[j]? = some u → w.cell? (ad.add j) = some u)

structure Loc where
  g : Nat
  K : Nat
  z : Bool
  ks : List Nat
/-- The blocks of an object. -/
def Loc.has (l : Loc) (k : Nat) : Prop := l.z = false ∧ (k = l.g ∨ k ∈ l.ks)
theorem Loc.has_g {l : Loc} (h : l.z = false) : l.has l.g := ⟨h, .inl rfl⟩
theorem Loc.has_one {g K k : Nat} {z : Bool} (h : (Loc.mk g K z []).has k) : z = false ∧ k = g := ⟨h.1, h.2.resolve_right (by simp)⟩

/-- A table of one's own whose rows are one's own, each in a block. -/
structure TabObj (w : World) (loc : Loc) (E : Nat) (l : List (List Int)) : Prop where
  nd : loc.ks.Nodup
  gk : loc.g ∉ loc.ks
  kl : l.length ≤ loc.ks.length
  rows : ∃ cur cs, w.heap[loc.g]? = some (.cells cur E (0, 0)) ∧ cur.size = loc.K ∧ cs.length = l.length ∧ cs.length ≤ loc.K ∧ cur.toList.take cs.length = cs ∧
    ∀ i k, i < l.length → loc.ks[i]? = some k → ∃ cap cu E', cs[i]? = some (.slice (some ⟨k, 0, none⟩) (l.getD i []).length cap) ∧ (l.getD i []).length ≤ cap ∧ cap ≤ maxLen ∧ cap ≤ cu.size ∧
      w.heap[k]? = some (.cells cu E' (0, 0)) ∧ cu.toList.take (l.getD i []).length = (l.getD i []).map (.int .i64)

/-- An object that is no row of cells. -/
def SpOK (w : World) (loc : Loc) (E : Nat) : Row → Prop
  | .itr s p => w.heap[loc.g]? = some (.stringIter ⟨s.toArray⟩ p)
  | .mpr l => ∃ es c, w.heap[loc.g]? = some (.map es c) ∧ es.toList.map (fun e => (e.key, e.val)) = l.map (fun p => (Value.int .i64 p.1, Value.bool p.2))
  | .tabs l => TabObj w loc E l
  | _ => False

/-- A block of one's own; an empty row may have none. -/
def ObjOK (w : World) (ok : Nat → Prop) (loc : Loc) (E : Nat) (r : Row) : Prop :=
  (loc.z = true ∧ nl r = 0) ∨ loc.z = false ∧ ((∃ cur cs, w.heap[loc.g]? = some (.cells cur E (0, 0)) ∧ cur.size = loc.K ∧ RC w ok r cs ∧ cs.length ≤ loc.K ∧ cur.toList.take cs.length = cs) ∨ SpOK w loc E r)

def live (ρ : List Loc) (h : List AO) (o : Nat) (loc : Loc) (E : Nat) (r : Row) : Prop := h[o]? = some (.row E r) ∧ ρ[o]? = some loc

/-- What a body was handed to write into: its blocks, and the place of object 0. -/
structure Base where
  blk : Nat → Prop
  pin : Option Loc
instance : CoeFun Base (fun _ => Nat → Prop) := ⟨Base.blk⟩

/-- Blocks that are no object of one's own. -/
def okB (ρ : List Loc) (h : List AO) (k : Nat) : Prop := ∀ o loc E r, live ρ h o loc E r → ¬ loc.has k

/-- Blocks that a row of one's own may lead to: none that came in. -/
def okO (w0 : World) (S0 : Base) (ρ : List Loc) (h : List AO) (k : Nat) : Prop := okB ρ h k ∧ (S0 k ∨ w0.heap.size ≤ k)

/-- What a pointer to cells that are only read leads to. -/
def PV (w : World) (ok : Nat → Prop) : AV → Addr → Prop
  | .int k n, ad => w.cell? ad = some (.int k n)
  | .bool b, ad => w.cell? ad = some (.bool b)
  | .str s, ad => w.cell? ad = some (.string ⟨s.toArray⟩)
  | .ro (.ints k l), ad => ∃ v, w.cell? ad = some v ∧ ROw w ok (.ints k l) v
  | .ro (.bools l), ad => ∃ v, w.cell? ad = some v ∧ ROw w ok (.bools l) v
  | .rc n l, ad => l.length = n ∧ ∀ j u, l[j]? = some u → w.cell? (ad.add j) = some (.int .i64 u)
  | _, _ => False

def VR (w : World) (ok : Nat → Prop) (ρ : List Loc) (h : List AO) : AV → Value → Prop
  | .undef, _ => True
  | .int k n, v => v = .int k n
  | .bool b, v => v = .bool b
  | .str s, v => v = .string ⟨s.toArray⟩
  | .nilS, v => v = .slice none 0 0
  | .ro r, v => ROw w ok r v
  | .own o z, v => o < h.length ∧ ∀ E r, h[o]? = some (.row E r) → ∃ loc, ρ[o]? = some loc ∧ ((loc.z = true ∧ z = true ∧ v = .slice none 0 0 ∧ nl r = 0) ∨ loc.z = false ∧ ∃ cap, v = .slice (some ⟨loc.g, 0, none⟩) (nl r) cap ∧ nl r ≤ cap ∧ cap ≤ maxLen ∧ cap * wd r ≤ loc.K)
  | .win o a n, v => o < h.length ∧ ∀ E r, h[o]? = some (.row E r) → ∃ loc, ρ[o]? = some loc ∧ ((loc.z = true ∧ v = .slice none 0 0 ∧ n = 0 ∧ a = 0 ∧ nl r = 0) ∨ loc.z = false ∧ ∃ cap ad, v = .slice (some ad) n cap ∧ n ≤ cap ∧ cap ≤ maxLen ∧ (a + cap) * wd r ≤ loc.K ∧ a + n ≤ nl r ∧ (0 < n ∨ a = 0 → ad = ⟨loc.g, a * wd r, none⟩))
  | .pv x, v => ∃ ad, v = .pointer (some ad) ∧ ad.block < w.heap.size ∧ ok ad.block ∧ PV w ok x ad
  | .po o k, v => o < h.length ∧ ∀ E r, h[o]? = some (.row E r) → ∃ loc, ρ[o]? = some loc ∧ loc.z = false ∧ v = .pointer (some ⟨loc.g, k * wd r, none⟩) ∧ k < nl r
  | .pf o k j, v => o < h.length ∧ ∀ E r, h[o]? = some (.row E r) → ∃ loc, ρ[o]? = some loc ∧ loc.z = false ∧ v = .pointer (some ⟨loc.g, k * wd r + j, none⟩) ∧ k < nl r
  | .rc n l, v => l.length = n ∧ v = .agg (l.map (.int .i64)).toArray
  | .t2 a b, v => ∃ x y, v = .tuple #[x, y] ∧ VR w ok ρ h a x ∧ VR w ok ρ h b y
  | .t3 a b c, v => ∃ x y z, v = .tuple #[x, y, z] ∧ VR w ok ρ h a x ∧ VR w ok ρ h b y ∧ VR w ok ρ h c z
  | .gd g x, v => (g = true → VR w ok ρ h x v) ∧ (g = false → v = undef)
  | .sm v0 r, v => v = v0 ∧ ROw w ok r v
  | .t0, v => v = .tuple #[]
  | .t1 a, v => ∃ x, v = .tuple #[x] ∧ VR w ok ρ h a x
  | .ifc b, v => (b = true ∧ v = .nilIface) ∨ (b = false ∧ ∃ t p, v = .iface t p)
  | .fn f, v => v = .func (.func f) #[] #[]
  | .it o, v => o < h.length ∧ ∀ E r, h[o]? = some (.row E r) → ∃ loc, ρ[o]? = some loc ∧ loc.z = false ∧ v = .pointer (some ⟨loc.g, 0, none⟩)
  | .mp o, v => o < h.length ∧ ∀ E r, h[o]? = some (.row E r) → ∃ loc, ρ[o]? = some loc ∧ loc.z = false ∧ v = .map (some loc.g)

/-! ### Rows -/
theorem RC.length {w : World} {ok : Nat → Prop} {r : Row} {cs : List Value} (h : RC w ok r cs) : cs.length = nl r * wd r := by
  cases r with
  | recs n l =>
    obtain ⟨h1, rfl⟩ := h
    simp only [nl, Row.nlen, alg, wd]
    induction l with
    | nil => simp
    | cons x l ih => simp [ih (fun y hy => h1 y (by simp [hy])), h1 x (by simp), Nat.add_mul, Nat.add_comm]
  | intss l => simpa [nl, Row.nlen, alg, wd] using h.1
  | boolss l => simpa [nl, Row.nlen, alg, wd] using h.1
  | itr _ _ => exact h.elim
  | mpr _ => exact h.elim
  | tabs _ => exact h.elim
  | ints k l => simp only [RC] at h; subst h; simp [nl, Row.nlen, alg, wd]
  | bools l => simp only [RC] at h; subst h; simp [nl, Row.nlen, alg, wd]
  | strs l => simp only [RC] at h; subst h; simp [nl, Row.nlen, alg, wd]

theorem ROi.one {w : World} {ok : Nat → Prop} {vs : List Value} {v : Value} (h : ROi w ok vs v) : v.oneCell' = true := by
  obtain ⟨a, cap, rfl, _⟩ := h; rfl

theorem RC.one {w : World} {ok : Nat → Prop} {r : Row} {cs : List Value} (h : RC w ok r cs) : ∀ u ∈ cs, u.oneCell' = true := by
  intro u hu
  cases r with
  | recs n l => obtain ⟨_, rfl⟩ := h; simp at hu; obtain ⟨x, _, y, _, rfl⟩ := hu; rfl
  | intss l => obtain ⟨i, hi⟩ := List.mem_iff_getElem?.1 hu; exact (h.2 i u hi).one
  | boolss l => obtain ⟨i, hi⟩ := List.mem_iff_getElem?.1 hu; exact (h.2 i u hi).one
  | itr _ _ => exact h.elim
  | mpr _ => exact h.elim
  | tabs _ => exact h.elim
  | ints k l => simp only [RC] at h; subst h; simp at hu; obtain ⟨y, _, rfl⟩ := hu; rfl
  | bools l => simp only [RC] at h; subst h; simp at hu; rcases hu with ⟨_, rfl⟩ | ⟨_, rfl⟩ <;> rfl
  | strs l => simp only [RC] at h; subst h; simp at hu; obtain ⟨y, _, rfl⟩ := hu; rfl

/-- Reading: the world may turn where blocks are one's own. -/
structure Same (w w' : World) (ok ok' : Nat → Prop) : Prop where
  size : w.heap.size ≤ w'.heap.size
  block : ∀ k, k < w.heap.size → ok k → w'.heap[k]? = w.heap[k]? ∧ ok' k

theorem add_block (a : Addr) (n : Nat) : (a.add n).block = a.block := by unfold Addr.add; split <;> rfl
theorem add_add (a : Addr) (i j : Nat) : (a.add i).add j = a.add (i + j) := by
  unfold Addr.add
  by_cases hi : i = 0 <;> by_cases hj : j = 0 <;> simp [hi, hj, Nat.add_assoc]

theorem Same.cell {w w' : World} {ok ok' : Nat → Prop} (s : Same w w' ok ok') {ad : Addr} (h1 : ad.block < w.heap.size) (h2 : ok ad.block) : w'.cell? ad = w.cell? ad :=
  World.cell?_of_block (w := w) (s.block _ h1 h2).1

theorem ROi.same {w w' : World} {ok ok' : Nat → Prop} {vs : List Value} {v : Value} (s : Same w w' ok ok') (h : ROi w ok vs v) : ROi w' ok' vs v := by
  obtain ⟨a, cap, hv, h1, h2, h3⟩ := h
  refine ⟨a, cap, hv, h1, h2, fun hp => ?_⟩
  obtain ⟨ad, ha, hb, ho, hc⟩ := h3 hp
  exact ⟨ad, ha, Nat.lt_of_lt_of_le hb s.size, (s.block _ hb ho).2, fun j u hu => (s.cell (by rw [add_block]; exact hb) (by rw [add_block]; exact ho)).trans (hc j u hu)⟩

theorem RC.same {w w' : World} {ok ok' : Nat → Prop} {r : Row} {cs : List Value} (s : Same w w' ok ok') (h : RC w ok r cs) : RC w' ok' r cs := by
  cases r with
  | recs n l => exact h
  | intss l => exact ⟨h.1, fun i v hv => (h.2 i v hv).same s⟩
  | boolss l => exact ⟨h.1, fun i v hv => (h.2 i v hv).same s⟩
  | itr _ _ => exact h.elim
  | mpr _ => exact h.elim
  | tabs _ => exact h.elim
  | ints k l => exact h
  | bools l => exact h
  | strs l => exact h

theorem ROw.same {w w' : World} {ok ok' : Nat → Prop} {r : Row} {v : Value} (s : Same w w' ok ok') (h : ROw w ok r v) : ROw w' ok' r v := by
  obtain ⟨a, cap, cs, hv, h1, h2, hr, h3⟩ := h
  refine ⟨a, cap, cs, hv, h1, h2, hr.same s, fun hp => ?_⟩
  obtain ⟨ad, ha, hb, ho, hc⟩ := h3 hp
  exact ⟨ad, ha, Nat.lt_of_lt_of_le hb s.size, (s.block _ hb ho).2, fun j u hu => (s.cell (by rw [add_block]; exact hb) (by rw [add_block]; exact ho)).trans (hc j u hu)⟩

theorem PV.same {w w' : World} {ok ok' : Nat → Prop} {x : AV} {ad : Addr} (s : Same w w' ok ok') (hb : ad.block < w.heap.size) (ho : ok ad.block) (h : PV w ok x ad) : PV w' ok' x ad := by
  have e : w'.cell? ad = w.cell? ad := s.cell hb ho
  unfold PV at *
  split at h
  · exact e.trans h
  · exact e.trans h
  · exact e.trans h
  · obtain ⟨v, hc, hr⟩ := h; exact ⟨v, e.trans hc, hr.same s⟩
  · obtain ⟨v, hc, hr⟩ := h; exact ⟨v, e.trans hc, hr.same s⟩
  · exact ⟨h.1, fun j u hu => (s.cell (by rw [add_block]; exact hb) (by rw [add_block]; exact ho)).trans (h.2 j u hu)⟩
  · exact h.elim

/-- The objects that a value names. -/
def uses : AV → Nat → Prop
  | .own o' _, o => o' = o
  | .win o' _ _, o => o' = o
  | .po o' _, o => o' = o
  | .pf o' _ _, o => o' = o
  | .it o', o => o' = o
  | .mp o', o => o' = o
  | .t1 a, o => uses a o
  | .t2 a b, o => uses a o ∨ uses b o
  | .t3 a b c, o => uses a o ∨ uses b o ∨ uses c o
  | .gd _ x, o => uses x o
  | _, _ => False

/-- Objects may go, turn in place, and come. -/
structure Heaps (P : Nat → Prop) (ρ ρ' : List Loc) (h h' : List AO) : Prop where
  len : h.length ≤ h'.length
  keep : ∀ o, P o → o < h.length → ∀ E r, h'[o]? = some (.row E r) → ρ'[o]? = ρ[o]? ∧ ∃ E1 r1, h[o]? = some (.row E1 r1) ∧ nl r1 = nl r ∧ wd r1 = wd r

theorem VR.same {w w' : World} {ok ok' : Nat → Prop} {ρ ρ' : List Loc} {h h' : List AO} (s : Same w w' ok ok') :
    ∀ {x : AV} {v : Value}, Heaps (uses x) ρ ρ' h h' → VR w ok ρ h x v → VR w' ok' ρ' h' x v := by
  intro x
  induction x with
  | undef => intros; trivial
  | int k n => intro v _ hv; exact hv
  | bool b => intro v _ hv; exact hv
  | str b => intro v _ hv; exact hv
  | nilS => intro v _ hv; exact hv
  | ro r => intro v _ hv; exact ROw.same s hv
  | own o z =>
    intro v hh hv
    refine ⟨Nat.lt_of_lt_of_le hv.1 hh.len, fun E r hr => ?_⟩
    obtain ⟨e, E1, r1, h1, hn, hw⟩ := hh.keep o rfl hv.1 E r hr
    obtain ⟨loc, hl, hx⟩ := hv.2 E1 r1 h1
    rw [hn, hw] at hx
    exact ⟨loc, e.trans hl, hx⟩
  | win o a n =>
    intro v hh hv
    refine ⟨Nat.lt_of_lt_of_le hv.1 hh.len, fun E r hr => ?_⟩
    obtain ⟨e, E1, r1, h1, hn, hw⟩ := hh.keep o rfl hv.1 E r hr
    obtain ⟨loc, hl, hx⟩ := hv.2 E1 r1 h1
    rw [hn, hw] at hx
    exact ⟨loc, e.trans hl, hx⟩
  | pv x _ =>
    intro v _ hv
    obtain ⟨ad, h1, h2, h3, h4⟩ := hv
    exact ⟨ad, h1, Nat.lt_of_lt_of_le h2 s.size, (s.block _ h2 h3).2, PV.same s h2 h3 h4⟩
  | po o k =>
    intro v hh hv
    refine ⟨Nat.lt_of_lt_of_le hv.1 hh.len, fun E r hr => ?_⟩
    obtain ⟨e, E1, r1, h1, hn, hw⟩ := hh.keep o rfl hv.1 E r hr
    obtain ⟨loc, hl, hx⟩ := hv.2 E1 r1 h1
    rw [hn, hw] at hx
    exact ⟨loc, e.trans hl, hx⟩
  | pf o k j =>
    intro v hh hv
    refine ⟨Nat.lt_of_lt_of_le hv.1 hh.len, fun E r hr => ?_⟩
    obtain ⟨e, E1, r1, h1, hn, hw⟩ := hh.keep o rfl hv.1 E r hr
    obtain ⟨loc, hl, hx⟩ := hv.2 E1 r1 h1
    rw [hn, hw] at hx
    exact ⟨loc, e.trans hl, hx⟩
  | rc n l => intro v _ hv; exact hv
  | t2 a b iha ihb =>
    intro v hh hv
    obtain ⟨x, y, h1, h2, h3⟩ := hv
    exact ⟨x, y, h1, iha ⟨hh.len, fun o ho => hh.keep o (.inl ho)⟩ h2, ihb ⟨hh.len, fun o ho => hh.keep o (.inr ho)⟩ h3⟩
  | t3 a b c iha ihb ihc =>
    intro v hh hv
    obtain ⟨x, y, z, h1, h2, h3, h4⟩ := hv
    exact ⟨x, y, z, h1, iha ⟨hh.len, fun o ho => hh.keep o (.inl ho)⟩ h2, ihb ⟨hh.len, fun o ho => hh.keep o (.inr (.inl ho))⟩ h3, ihc ⟨hh.len, fun o ho => hh.keep o (.inr (.inr ho))⟩ h4⟩
  | gd g x ih =>
    intro v hh hv
    exact ⟨fun hg => ih ⟨hh.len, hh.keep⟩ (hv.1 hg), hv.2⟩
  | sm v0 r => intro v _ hv; exact ⟨hv.1, ROw.same s hv.2⟩
  | t0 => intro v _ hv; exact hv
  | t1 a iha =>
    intro v hh hv
    obtain ⟨x, h1, h2⟩ := hv
    exact ⟨x, h1, iha hh h2⟩
  | ifc b => intro v _ hv; exact hv
  | fn f => intro v _ hv; exact hv
  | it o =>
    intro v hh hv
    refine ⟨Nat.lt_of_lt_of_le hv.1 hh.len, fun E r hr => ?_⟩
    obtain ⟨e, E1, r1, h1, hn, hw⟩ := hh.keep o rfl hv.1 E r hr
    obtain ⟨loc, hl, hx⟩ := hv.2 E1 r1 h1
    exact ⟨loc, e.trans hl, hx⟩
  | mp o =>
    intro v hh hv
    refine ⟨Nat.lt_of_lt_of_le hv.1 hh.len, fun E r hr => ?_⟩
    obtain ⟨e, E1, r1, h1, hn, hw⟩ := hh.keep o rfl hv.1 E r hr
    obtain ⟨loc, hl, hx⟩ := hv.2 E1 r1 h1
    exact ⟨loc, e.trans hl, hx⟩

theorem Same.o {w w' w0 : World} {S0 : Base} {ρ ρ' : List Loc} {h h' : List AO} (s : Same w w' (okB ρ h) (okB ρ' h')) : Same w w' (okO w0 S0 ρ h) (okO w0 S0 ρ' h') :=
  ⟨s.size, fun k hk ho => ⟨(s.block k hk ho.1).1, (s.block k hk ho.1).2, ho.2⟩⟩
theorem same_weak {w : World} {ok ok' : Nat → Prop} (h : ∀ k, ok k → ok' k) : Same w w ok ok' := ⟨Nat.le_refl _, fun k _ ho => ⟨rfl, h k ho⟩⟩
theorem Heaps.refl (P : Nat → Prop) (ρ : List Loc) (h : List AO) : Heaps P ρ ρ h h := ⟨Nat.le_refl _, fun _ _ _ E r hr => ⟨rfl, E, r, hr, rfl, rfl⟩⟩
theorem VR.weak {w : World} {ok ok' : Nat → Prop} {ρ : List Loc} {h : List AO} {x : AV} {v : Value} (ho : ∀ k, ok k → ok' k) (hv : VR w ok ρ h x v) : VR w ok' ρ h x v :=
  VR.same (same_weak ho) (Heaps.refl _ _ _) hv

/-- The world has kept what was there at the start, but for the blocks S0. -/
structure Keeps (S0 : Nat → Prop) (w w' : World) : Prop where
  os : w'.os = w.os
  tape : w'.tape = w.tape
  output : w'.output = w.output
  size : w.heap.size ≤ w'.heap.size
  block : ∀ k, k < w.heap.size → ¬ S0 k → w'.heap[k]? = w.heap[k]?

theorem Keeps.refl (S0 : Nat → Prop) (w : World) : Keeps S0 w w := ⟨rfl, rfl, rfl, Nat.le_refl _, fun _ _ _ => rfl⟩
theorem Keeps.trans {S0 : Nat → Prop} {a b c : World} (h : Keeps S0 a b) (k : Keeps (fun i => S0 i ∨ a.heap.size ≤ i) b c) : Keeps S0 a c :=
  ⟨k.os.trans h.os, k.tape.trans h.tape, k.output.trans h.output, Nat.le_trans h.size k.size, fun i hi hs => (k.block i (Nat.lt_of_lt_of_le hi h.size) (by rintro (h | h); exact hs h; omega)).trans (h.block i hi hs)⟩
theorem Keeps.below {a b : World} (h : Keeps (fun _ => False) a b) : Below a.heap.size a b := ⟨h.os, h.tape, h.output, h.size, fun k hk => h.block k hk id⟩
theorem Keeps.of_below {S0 : Nat → Prop} {a b : World} (h : Below a.heap.size a b) : Keeps S0 a b := ⟨h.os, h.tape, h.output, h.size, fun k hk _ => h.block k hk⟩

/-- The state of a body under way. -/
structure Inv (w0 : World) (S0 : Base) (ρ : List Loc) (s : St) (a : Act) (w : World) : Prop where
  keep : Keeps S0.blk w0 w
  pin : ∀ loc, S0.pin = some loc → ρ[0]? = some loc
  len : ρ.length = s.h.length
  obj : ∀ o loc E r, live ρ s.h o loc E r → ObjOK w (okO w0 S0 ρ s.h) loc E r ∧ ∀ k, loc.has k → (S0 k ∨ w0.heap.size ≤ k) ∧ k < w.heap.size
  inj : ∀ o o' loc loc' E E' r r' k, live ρ s.h o loc E r → live ρ s.h o' loc' E' r' → loc.has k → loc'.has k → o = o'
  size : a.tmps.size = s.t.length
  slot : ∀ i x, s.t[i]? = some x → VR w (okB ρ s.h) ρ s.h x (a.tmps.getD i undef)
  defers : a.defers = []

end Go.Ab
