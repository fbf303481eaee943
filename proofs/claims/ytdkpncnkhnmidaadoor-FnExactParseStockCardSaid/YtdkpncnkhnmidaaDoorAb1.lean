/-
  AN ABSTRACT EVALUATOR for the subset of the model's code that these laws use: definitions alone. Values are symbolic data (numbers, lists); memory is a short list of objects, each a typed list. Nothing here speaks of a program's text.
-/
import Derived.WalkKit
import Derived.Deep.Quiet
import Derived.StillTail
set_option linter.unusedSimpArgs false
set_option linter.unusedVariables false
namespace Go.Ab

/-- The operations on numbers and lists, behind one variable, so that evaluation leaves them as they stand. -/
structure Alg where
  add : IntKind → Int → Int → Int
  sub : IntKind → Int → Int → Int
  mul : IntKind → Int → Int → Int
  quo : IntKind → Int → Int → Int
  rem : IntKind → Int → Int → Int
  conv : IntKind → Int → Int
  lt : Int → Int → Bool
  le : Int → Int → Bool
  eq : Int → Int → Bool
  not : Bool → Bool
  and : Bool → Bool → Bool
  or : Bool → Bool → Bool
  beq : Bool → Bool → Bool
  mn : Int → Int → Int
  mx : Int → Int → Int
  seq : List UInt8 → List UInt8 → Bool
  slt : List UInt8 → List UInt8 → Bool
  tn : Int → Nat
  nadd : Nat → Nat → Nat
  ofN : Nat → Int
  len : {α : Type} → List α → Int
  nlen : {α : Type} → List α → Nat
  inb : Int → Int → Prop
  inc : Int → Int → Prop
  room : Int → Prop
  nz : Int → Prop
  imp : Bool → Prop → Prop
  tr : Bool → Prop
  gI : List Int → Nat → Int
  gB : List Bool → Nat → Bool
  gS : List (List UInt8) → Nat → List UInt8
  gL : List (List Int) → Nat → List Int
  gLB : List (List Bool) → Nat → List Bool
  byte : List UInt8 → Nat → Int
  bytes : List Int → List UInt8
  set : {α : Type} → List α → Nat → α → List α
  app : {α : Type} → List α → List α → List α
  win : {α : Type} → List α → Nat → Nat → List α
  repl : {α : Type} → Nat → α → List α
  mget : List (Int × Bool) → Int → Bool
  mset : List (Int × Bool) → Int → Bool → List (Int × Bool)

/-- What a map of one's own holds; a store into it. -/
def mgetF : List (Int × Bool) → Int → Bool
  | [], _ => false
  | (k, b) :: r, n => if n = k then b else mgetF r n
def msetF : List (Int × Bool) → Int → Bool → List (Int × Bool)
  | [], n, v => [(n, v)]
  | (k, b) :: r, n, v => if n = k then (n, v) :: r else (k, b) :: msetF r n v

def alg : Alg where
  add k a b := k.wrap (a + b)
  sub k a b := k.wrap (a - b)
  mul k a b := k.wrap (a * b)
  quo k a b := k.wrap (a.tdiv b)
  rem _ a b := a.tmod b
  conv k n := k.wrap n
  lt a b := decide (a < b)
  le a b := decide (a ≤ b)
  eq a b := a == b
  not b := !b
  and a b := a && b
  or a b := a || b
  beq a b := a == b
  mn x y := if y < x then y else x
  mx x y := if y > x then y else x
  seq a b := a == b
  slt a b := Op.bytesLess a b
  tn n := n.toNat
  nadd a b := a + b
  ofN n := (n : Int)
  len l := (l.length : Int)
  nlen l := l.length
  inb i n := 0 ≤ i ∧ i < n
  inc i n := 0 ≤ i ∧ i ≤ n
  room n := 0 ≤ n ∧ n ≤ 1099511627776
  nz n := n ≠ 0
  imp b p := b = true → p
  tr b := b = true
  gI l k := l.getD k 0
  gB l k := l.getD k false
  gS l k := l.getD k []
  gL l k := l.getD k []
  gLB l k := l.getD k []
  byte s k := ((s.getD k 0).toNat : Int)
  bytes l := l.map fun n => UInt8.ofNat n.toNat
  set l k x := l.set k x
  app a b := a ++ b
  win l lo hi := (l.take hi).drop lo
  repl n x := List.replicate n x
  mget := mgetF
  mset := msetF

/-- Kinds of elements. -/
inductive RK where
  | i (k : IntKind)
  | b
  | s
  | rc (w : Nat)
  | sli
  | slb
  | mp
  | ifc
  | nx
  | tab

def kb : IntKind → IntKind → Bool
  | .i8, .i8 => true | .i16, .i16 => true | .i32, .i32 => true | .i64, .i64 => true
  | .u8, .u8 => true | .u16, .u16 => true | .u32, .u32 => true | .u64, .u64 => true
  | _, _ => false

def RK.eqb : RK → RK → Bool
  | .i k, .i k' => kb k k'
  | .b, .b => true
  | .s, .s => true
  | .rc w, .rc w' => Nat.beq w w'
  | .sli, .sli => true
  | .slb, .slb => true
  | _, _ => false

/-- A kind that a row may have. -/
def RK.rowk : RK → Bool
  | .mp => false
  | .ifc => false
  | .nx => false
  | .tab => false
  | _ => true

/-- A row of elements, as a list. -/
inductive Row where
  | ints (k : IntKind) (l : List Int)
  | bools (l : List Bool)
  | strs (l : List (List UInt8))
  | recs (w : Nat) (l : List (List Int))
  | intss (l : List (List Int))
  | boolss (l : List (List Bool))
  | itr (s : List UInt8) (pos : Nat)
  | mpr (l : List (Int × Bool))
  | tabs (l : List (List Int))

/-- Abstract values. -/
inductive AV where
  | undef
  | int (k : IntKind) (n : Int)
  | bool (b : Bool)
  | str (s : List UInt8)
  | nilS
  | ro (r : Row)
  | own (o : Nat) (z : Bool)
  | win (o a n : Nat)
  | pv (v : AV)
  | po (o k : Nat)
  | pf (o k j : Nat)
  | rc (w : Nat) (l : List Int)
  | t2 (a b : AV)
  | t3 (a b c : AV)
  | gd (g : Bool) (v : AV)
  | sm (v : Value) (r : Row)
  | t0
  | t1 (a : AV)
  | ifc (b : Bool)
  | fn (f : Nat)
  | it (o : Nat)
  | mp (o : Nat)

inductive AO where
  | dead
  | row (E : Nat) (r : Row)

structure St where
  t : List AV
  h : List AO

structure TI where
  el : Option RK
  sl : Option (Nat × RK)

inductive Ex where
  | normal
  | exit (id : Nat)
  | ret

structure condP (b : Bool) (p q : Prop) : Prop where
  t : b = true → p
  f : b = false → q
structure obP (p k : Prop) : Prop where
  p : p
  k : k
structure lexP (ops : Array Oper) : Prop where
  h : Region.lexB .any ops = true

/-- What is known of a callee: nothing; its result and the rows that it makes; its result, and what becomes of the row that is handed over at place i. -/
inductive CR where
  | no
  | pure (p : Prop) (r : AV) (fr : List (Nat × Row))
  | mut (i : Nat) (p : Prop) (r : AV) (row : Row)
  | pat (i : Nat) (p : Prop) (r : AV) (E : Nat) (row : Row)
  | same (i : Nat) (p : Prop) (b : AV)

section
variable (A : Alg)

def Row.rk : Row → RK
  | .ints k _ => .i k
  | .bools _ => .b
  | .strs _ => .s
  | .recs w _ => .rc w
  | .intss _ => .sli
  | .boolss _ => .slb
  | .itr _ _ => .nx
  | .mpr _ => .nx
  | .tabs _ => .nx

def Row.len : Row → Int
  | .tabs l => A.len l
  | .ints _ l => A.len l
  | .bools l => A.len l
  | .strs l => A.len l
  | .recs _ l => A.len l
  | .intss l => A.len l
  | .boolss l => A.len l
  | .itr _ _ => 1
  | .mpr _ => 1

def Row.nlen : Row → Nat
  | .tabs l => A.nlen l
  | .ints _ l => A.nlen l
  | .bools l => A.nlen l
  | .strs l => A.nlen l
  | .recs _ l => A.nlen l
  | .intss l => A.nlen l
  | .boolss l => A.nlen l
  | .itr _ _ => 1
  | .mpr _ => 1

def Row.get : Row → Nat → AV
  | .ints k l, i => .int k (A.gI l i)
  | .bools l, i => .bool (A.gB l i)
  | .strs l, i => .str (A.gS l i)
  | .recs w l, i => .rc w (A.gL l i)
  | .intss l, i => .ro (.ints .i64 (A.gL l i))
  | .boolss l, i => .ro (.bools (A.gLB l i))
  | .itr _ _, _ => .undef
  | .mpr _, _ => .undef
  | .tabs _, _ => .undef

/-- The row with one element set; 'none' where the value does not fit. -/
def Row.set : Row → Nat → AV → Option Row
  | .ints k l, i, .int k' n => match kb k k' with | true => some (.ints k (A.set l i n)) | false => none
  | .bools l, i, .bool b => some (.bools (A.set l i b))
  | .strs l, i, .str s => some (.strs (A.set l i s))
  | .recs w l, i, .rc w' r => match Nat.beq w w' with | true => some (.recs w (A.set l i r)) | false => none
  | _, _, _ => none

def Row.setF : Row → Nat → Nat → AV → Option Row
  | .recs w l, i, j, .int .i64 n => match Nat.blt j w with | true => some (.recs w (A.set l i (A.set (A.gL l i) j n))) | false => none
  | _, _, _, _ => none

def Row.app : Row → Row → Option Row
  | .ints k l, .ints k' l' => match kb k k' with | true => some (.ints k (A.app l l')) | false => none
  | .bools l, .bools l' => some (.bools (A.app l l'))
  | .strs l, .strs l' => some (.strs (A.app l l'))
  | .recs w l, .recs w' l' => match Nat.beq w w' with | true => some (.recs w (A.app l l')) | false => none
  | .intss l, .intss l' => some (.intss (A.app l l'))
  | .boolss l, .boolss l' => some (.boolss (A.app l l'))
  | _, _ => none

def Row.win : Row → Nat → Nat → Row
  | .ints k l, a, b => .ints k (A.win l a b)
  | .bools l, a, b => .bools (A.win l a b)
  | .strs l, a, b => .strs (A.win l a b)
  | .recs w l, a, b => .recs w (A.win l a b)
  | .intss l, a, b => .intss (A.win l a b)
  | .boolss l, a, b => .boolss (A.win l a b)
  | .itr _ _, a, b => .ints .i64 (A.win [0] a b)
  | .mpr _, a, b => .ints .i64 (A.win [0] a b)
  | .tabs l, a, b => .intss (A.win l a b)

def RK.zeros : RK → Nat → Row
  | .i k, n => .ints k (A.repl n 0)
  | .b, n => .bools (A.repl n false)
  | .s, n => .strs (A.repl n [])
  | .rc w, n => .recs w (A.repl n (List.replicate w 0))
  | .sli, n => .intss (A.repl n [])
  | .slb, n => .boolss (A.repl n [])
  | .mp, _ => .mpr []
  | .ifc, _ => .mpr []
  | .nx, _ => .mpr []
  | .tab, _ => .mpr []

def RK.nil : RK → Row
  | .i k => .ints k []
  | .b => .bools []
  | .s => .strs []
  | .rc w => .recs w []
  | .sli => .intss []
  | .slb => .boolss []
  | .mp => .mpr []
  | .ifc => .mpr []
  | .nx => .mpr []
  | .tab => .tabs []

/-- The row of one element. -/
def Row.cons : AV → Row → Option Row
  | .int k n, .ints k' l => match kb k k' with | true => some (.ints k' (n :: l)) | false => none
  | .bool b, .bools l => some (.bools (b :: l))
  | .str s, .strs l => some (.strs (s :: l))
  | .rc w r, .recs w' l => match Nat.beq w w' with | true => some (.recs w' (r :: l)) | false => none
  | .ro (.ints .i64 r), .intss l => some (.intss (r :: l))
  | .ro (.bools r), .boolss l => some (.boolss (r :: l))
  | _, _ => none

def ofConst : Value → AV
  | .int k n => .int k n
  | .bool b => .bool b
  | .string s => .str s.data.toList
  | .slice none 0 0 => .nilS
  | .nilIface => .ifc true
  | _ => .undef

def ev (t : List AV) : Operand → AV
  | .tmp i => t.getD i .undef
  | .const v => ofConst v
  | .func f => .fn f
  | _ => .undef

def put (t : List AV) : Option Nat → AV → List AV
  | some d, v => t.set d v
  | none, _ => t

/-- An obligation, under the guard where there is one. -/
def ob (g : Option Bool) (p k : Prop) : Prop :=
  match g with
  | none => obP p k
  | some b => obP (A.imp b p) k

/-- An operand's value, taken under the guard. -/
def op1 (g : Option Bool) (v : AV) (k : AV → Prop) : Prop :=
  match v, g with
  | .gd g' v', some b => obP (A.imp b (A.tr g')) (k v')
  | .gd _ _, none => False
  | v, _ => k v

def getO (h : List AO) (o : Nat) : Option (Nat × Row) :=
  match h.getD o .dead with
  | .row E r => some (E, r)
  | .dead => none

/-- What a slice value reads as. -/
def view (h : List AO) : AV → Option Row
  | .ro r => some r
  | .own o _ => match getO h o with | some (_, r) => (match r.rk.rowk with | true => some r | false => none) | none => none
  | .win o a n => match getO h o with | some (_, r) => (match r.rk.rowk with | true => some (r.win A a (A.nadd a n)) | false => none) | none => none
  | _ => none

def intOp (g : Option Bool) (op : BinOp) (k : IntKind) (a b : Int) (K : AV → Prop) : Prop :=
  match op with
  | .add => K (.int k (A.add k a b))
  | .sub => K (.int k (A.sub k a b))
  | .mul => K (.int k (A.mul k a b))
  | .quo => ob A g (A.nz b) (K (.int k (A.quo k a b)))
  | .rem => ob A g (A.nz b) (K (.int k (A.rem k a b)))
  | .eql => K (.bool (A.eq a b))
  | .neq => K (.bool (A.not (A.eq a b)))
  | .lss => K (.bool (A.lt a b))
  | .leq => K (.bool (A.le a b))
  | .gtr => K (.bool (A.lt b a))
  | .geq => K (.bool (A.le b a))
  | _ => False

def binA (tt : Nat → TI) (h : List AO) (g : Option Bool) (op : BinOp) (t : Nat) (x y : AV) (K : AV → Prop) : Prop :=
  match x, y with
  | .int k a, .int k' b => match kb k k' with | true => intOp A g op k a b K | false => False
  | .bool a, .bool b =>
    match (tt t).el with
    | some .b =>
      match op with
      | .eql => K (.bool (A.beq a b))
      | .neq => K (.bool (A.not (A.beq a b)))
      | _ => False
    | _ => False
  | .nilS, .nilS =>
    match (tt t).sl with
    | some _ => match op with | .eql => K (.bool true) | .neq => K (.bool false) | _ => False
    | none => False
  | .own o false, .nilS =>
    match (tt t).sl, getO h o with
    | some _, some _ => match op with | .eql => K (.bool false) | .neq => K (.bool true) | _ => False
    | _, _ => False
  | .str a, .str b =>
    match op with
    | .add => ob A g (A.room (A.add .i64 (A.len a) (A.len b))) (ob A g (A.room (A.len a)) (ob A g (A.room (A.len b)) (K (.str (A.app a b)))))
    | .eql => K (.bool (A.seq a b))
    | .neq => K (.bool (A.not (A.seq a b)))
    | .lss => K (.bool (A.slt a b))
    | .geq => K (.bool (A.not (A.slt a b)))
    | _ => False
  | _, _ => False

def okHM : Option Operand → Option Operand → Bool
  | none, some _ => false
  | _, _ => true

/-- A bound of a slice expression: the given one, or the default. -/
def bnd (t : List AV) (g : Option Bool) : Option Operand → Option Int → (Int → Prop) → Prop
  | some x, _, k => op1 A g (ev t x) fun v => match v with | .int .i64 n => k n | _ => False
  | none, some n, k => k n
  | none, none, _ => False

/-- The fields of a struct literal. -/
def blds (g : Option Bool) (t : List AV) (w : Nat) : List (Nat × Operand) → List Int → (List Int → Prop) → Prop
  | [], l, K => K l
  | (j, x) :: r, l, K => op1 A g (ev t x) fun v => match v with
    | .int .i64 n => (match Nat.blt j w with | true => blds g t w r (A.set l j n) K | false => False)
    | _ => False

def isNilI : Operand → Bool
  | .const .nilIface => true
  | _ => false

/-- An operation that only reads. -/
def pureOp (tt : Nat → TI) (g : Option Bool) (s : St) (op : Op) (K : AV → Prop) : Prop :=
  match op with
  | .move x => op1 A g (ev s.t x) K
  | .assign x => op1 A g (ev s.t x) K
  | .pick c a b =>
    op1 A g (ev s.t c) fun cv =>
      match cv with
      | .bool c' =>
        match a, b with
        | .const (.bool true), b => op1 A (some (match g with | none => A.not c' | some g' => A.and g' (A.not c'))) (ev s.t b) fun v => match v with | .bool y => K (.bool (A.or c' y)) | _ => False
        | a, .const (.bool false) => op1 A (some (match g with | none => c' | some g' => A.and g' c')) (ev s.t a) fun v => match v with | .bool y => K (.bool (A.and c' y)) | _ => False
        | _, _ => False
      | _ => False
  | .build t parts =>
    match (tt t).el with
    | some (.rc w) => blds A g s.t w parts.toList (List.replicate w 0) fun l => K (.rc w l)
    | _ => False
  | .binOp op t x y _ => match isNilI y with
    | true => op1 A g (ev s.t x) fun a => match a, (tt t).el with | .ifc b, some .ifc => (match op with | .eql => K (.bool b) | .neq => K (.bool (A.not b)) | _ => False) | _, _ => False
    | false => op1 A g (ev s.t x) fun a => op1 A g (ev s.t y) fun b => binA A tt s.h g op t a b K
  | .unOp .not _ x => op1 A g (ev s.t x) fun v => match v with | .bool b => K (.bool (A.not b)) | _ => False
  | .unOp .neg _ x => op1 A g (ev s.t x) fun v => match v with | .int k n => K (.int k (A.sub k 0 n)) | _ => False
  | .convert src dst x =>
    op1 A g (ev s.t x) fun v =>
      match v, (tt src).el, (tt dst).el with
      | .int _ n, some _, some (.i k) => K (.int k (A.conv k n))
      | .own o _, _, some .s => match (tt src).sl, getO s.h o with | some (_, .i .u8), some (_, .ints .u8 l) => K (.str (A.bytes l)) | _, _ => False
      | _, _, _ => False
  | .load t x =>
    op1 A g (ev s.t x) fun v =>
      match v with
      | .pv (.int k n) => match (tt t).el with | some (.i k') => (match kb k k' with | true => K (.int k n) | false => False) | _ => False
      | .pv (.bool b) => match (tt t).el with | some .b => K (.bool b) | _ => False
      | .pv (.str b) => match (tt t).el with | some .s => K (.str b) | _ => False
      | .pv (.rc w l) => match (tt t).el with | some (.rc w') => (match Nat.beq w w' with | true => K (.rc w l) | false => False) | _ => False
      | .pv (.ro (.ints .i64 l)) => match (tt t).el with | some .sli => K (.ro (.ints .i64 l)) | _ => False
      | .pv (.ro (.bools l)) => match (tt t).el with | some .slb => K (.ro (.bools l)) | _ => False
      | .po o k =>
        match getO s.h o, (tt t).el with
        | some (_, r), some e => match r.rk.eqb e with | true => K (r.get A k) | false => False
        | _, _ => False
      | .pf o k j =>
        match getO s.h o, (tt t).el with
        | some (_, .recs w l), some (.i .i64) => match Nat.blt j w with | true => K (.int .i64 (A.gI (A.gL l k) j)) | false => False
        | _, _ => False
      | _ => False
  | .fieldAddr t x j =>
    op1 A g (ev s.t x) fun v =>
      match v, (tt t).el with
      | .pv (.rc w l), some (.rc w') => match Nat.beq w w', Nat.blt j w with | true, true => K (.pv (.int .i64 (A.gI l j))) | _, _ => False
      | .po o k, some (.rc w') =>
        match getO s.h o with
        | some (_, .recs w _) => match Nat.beq w w', Nat.blt j w with | true, true => K (.pf o k j) | _, _ => False
        | _ => False
      | _, _ => False
  | .indexAddr t x i =>
    op1 A g (ev s.t x) fun xv => op1 A g (ev s.t i) fun iv =>
      match iv, (tt t).sl with
      | .int _ n, some (_, e) =>
        match xv with
        | .ro r => match r.rk.eqb e with | true => ob A g (A.inb n (r.len A)) (K (.pv (r.get A (A.tn n)))) | false => False
        | .own o _ =>
          match getO s.h o with
          | some (_, r) => match r.rk.eqb e with | true => ob A g (A.inb n (r.len A)) (K (.po o (A.tn n))) | false => False
          | none => False
        | .win o a m =>
          match getO s.h o with
          | some (_, r) => match r.rk.eqb e with | true => ob A g (A.inb n (A.ofN m)) (K (.po o (A.nadd a (A.tn n)))) | false => False
          | none => False
        | _ => False
      | _, _ => False
  | .index t x i =>
    op1 A g (ev s.t x) fun xv => op1 A g (ev s.t i) fun iv =>
      match xv, iv, (tt t).el with
      | .str b, .int _ n, some .s => ob A g (A.inb n (A.len b)) (K (.int .u8 (A.byte b (A.tn n))))
      | _, _, _ => False
  | .extract x i =>
    op1 A g (ev s.t x) fun v =>
      match v, i with
      | .t1 a, 0 => K a
      | .t2 a _, 0 => K a
      | .t2 _ b, 1 => K b
      | .t3 a _ _, 0 => K a
      | .t3 _ b _, 1 => K b
      | .t3 _ _ c, 2 => K c
      | _, _ => False
  | .slice t x lo hi mx =>
    op1 A g (ev s.t x) fun xv =>
      match xv, mx with
      | .str b, none =>
        match (tt t).el with
        | some .s => bnd A s.t g hi (some (A.len b)) fun h => bnd A s.t g lo (some 0) fun l =>
            ob A g (A.inc h (A.len b)) (ob A g (A.inc l h) (K (.str (A.win b (A.tn l) (A.tn h)))))
        | _ => False
      | .ro r, none =>
        match (tt t).sl with
        | some (_, e) =>
          match r.rk.eqb e with
          | true => bnd A s.t g hi (some (r.len A)) fun h => bnd A s.t g lo (some 0) fun l =>
              ob A g (A.inc h (r.len A)) (ob A g (A.inc l h) (K (.ro (r.win A (A.tn l) (A.tn h)))))
          | false => False
        | _ => False
      | .own o _, mx =>
        match getO s.h o, (tt t).sl, okHM hi mx with
        | some (_, r), some (_, e), true =>
          match r.rk.eqb e with
          | true => bnd A s.t g hi (some (r.len A)) fun h => bnd A s.t g lo (some 0) fun l => bnd A s.t g mx (some h) fun m =>
              ob A g (A.inc m (r.len A)) (ob A g (A.inc h m) (ob A g (A.inc l h) (K (.win o (A.tn l) (A.tn (A.sub .i64 h l))))))
          | false => False
        | _, _, _ => False
      | _, _ => False
  | .lookup t m x false =>
    op1 A g (ev s.t m) fun mv => op1 A g (ev s.t x) fun xv =>
      match mv, xv, (tt t).el with
      | .mp o, .int .i64 n, some .mp => match getO s.h o with | some (_, .mpr l) => K (.bool (A.mget l n)) | _ => False
      | _, _, _ => False
  | .nilCheck x =>
    op1 A g (ev s.t x) fun v =>
      match v with
      | .pv v' => K (.pv v')
      | .po o k => match getO s.h o with | some _ => K (.po o k) | none => False
      | _ => False
  | .call { callee := .builtin .len, args := args, argTypes := ts } =>
    match args.toList, ts.toList with
    | [x], [t] =>
      op1 A g (ev s.t x) fun v =>
        match v with
        | .str b => match (tt t).el with | some .s => K (.int .i64 (A.len b)) | _ => False
        | .nilS => match (tt t).sl with | some _ => K (.int .i64 0) | none => False
        | .ro r => match (tt t).sl with | some _ => K (.int .i64 (r.len A)) | none => False
        | .own o _ => match (tt t).sl, getO s.h o with | some _, some (_, r) => K (.int .i64 (r.len A)) | _, _ => False
        | .win o _ n => match (tt t).sl, getO s.h o with | some _, some _ => K (.int .i64 (A.ofN n)) | _, _ => False
        | _ => False
    | _, _ => False
  | .call { callee := .builtin .min, args := args, argTypes := _ } =>
    match args.toList with
    | [x, y] => op1 A g (ev s.t x) fun a => op1 A g (ev s.t y) fun b => match a, b with | .int k m, .int k' n => (match kb k k' with | true => K (.int k (A.mn m n)) | false => False) | _, _ => False
    | _ => False
  | .call { callee := .builtin .max, args := args, argTypes := _ } =>
    match args.toList with
    | [x, y] => op1 A g (ev s.t x) fun a => op1 A g (ev s.t y) fun b => match a, b with | .int k m, .int k' n => (match kb k k' with | true => K (.int k (A.mx m n)) | false => False) | _, _ => False
    | _ => False
  | _ => False

/-- The values of a slice literal, in order; a slice among them is handed over for good. -/
def lits (t : List AV) : Nat → List (Nat × Operand) → Row → List AO → (Row → List AO → Prop) → Prop
  | _, [], r, h, K => K r h
  | n, (i, x) :: rest, r, h, K =>
    match Nat.beq i n with
    | false => False
    | true =>
      lits t (n + 1) rest r h fun r' h' =>
        match ev t x with
        | .own o _ =>
          match getO h' o with
          | some (_, row) => match Row.cons (.ro row) r' with | some r'' => K r'' (h'.set o .dead) | none => False
          | none => False
        | .gd _ _ => False
        | .ro _ => False
        | v => match Row.cons v r' with | some r'' => K r'' h' | none => False

/-- What may be appended: no rows of slices that came in. -/
def src (h : List AO) : AV → Option Row
  | .ro (.intss _) => none
  | .ro (.boolss _) => none
  | v => view A h v

/-- Handles of object o are forgotten. -/
def clr (o : Nat) : AV → AV
  | .own o' z => match Nat.beq o o' with | true => .undef | false => .own o' z
  | .win o' a n => match Nat.beq o o' with | true => .undef | false => .win o' a n
  | .po o' k => match Nat.beq o o' with | true => .undef | false => .po o' k
  | .pf o' k j => match Nat.beq o o' with | true => .undef | false => .pf o' k j
  | .t1 _ => .undef
  | .t2 _ _ => .undef
  | .t3 _ _ _ => .undef
  | .gd _ _ => .undef
  | .it o' => match Nat.beq o o' with | true => .undef | false => .it o'
  | .mp o' => match Nat.beq o o' with | true => .undef | false => .mp o'
  | v => v

/-- Handles of object o, handed over for good, are to be read alone. -/
def frz (o : Nat) (r : Row) : AV → AV
  | .own o' z => match Nat.beq o o' with | true => .ro r | false => .own o' z
  | v => v
/-- A literal of one slice of one's own. -/
def oneOwn (s : St) : RK → Nat → List (Nat × Operand) → Option (Nat × List Int)
  | .sli, 1, [(0, x)] => match ev s.t x with | .own o _ => (match getO s.h o with | some (_, .ints .i64 l) => some (o, l) | _ => none) | _ => none
  | _, _, _ => none

/-- A table whose rows are one's own. -/
def tabK : Option (Nat × RK) → Bool
  | some (_, .tab) => true
  | _ => false
def tabE : Option (Nat × RK) → Nat → Bool
  | some (E, _), E' => Nat.beq E E'
  | none, _ => false

/-- An operation that writes or makes memory. -/
def memOp (tt : Nat → TI) (s : St) (op : Op) (K : AV → St → Prop) : Prop :=
  match op with
  | .alloc t =>
    match (tt t).el with
    | some (.rc w) => K (.po s.h.length 0) ⟨s.t, s.h ++ [.row t (.recs w [List.replicate w 0])]⟩
    | some (.i k) => K (.po s.h.length 0) ⟨s.t, s.h ++ [.row t (.ints k [0])]⟩
    | _ => False
  | .box t x =>
    match (tt t).el, ev s.t x with
    | some (.rc w), .rc w' l => match Nat.beq w w' with | true => K (.po s.h.length 0) ⟨s.t, s.h ++ [.row t (.recs w [l])]⟩ | false => False
    | some (.i k), .int k' n => match kb k k' with | true => K (.po s.h.length 0) ⟨s.t, s.h ++ [.row t (.ints k [n])]⟩ | false => False
    | _, _ => False
  | .store t p x =>
    match ev s.t p with
    | .po o k =>
      match getO s.h o, (tt t).el with
      | some (E, r), some e =>
        match r.rk.eqb e with
        | true => match r.set A k (ev s.t x) with | some r' => K .undef ⟨s.t, s.h.set o (.row E r')⟩ | none => False
        | false => False
      | _, _ => False
    | .pf o k j =>
      match getO s.h o, (tt t).el with
      | some (E, r), some (.i .i64) => match r.setF A k j (ev s.t x) with | some r' => K .undef ⟨s.t, s.h.set o (.row E r')⟩ | none => False
      | _, _ => False
    | _ => False
  | .range t x =>
    match (tt t).el, ev s.t x with
    | some .s, .str b => K (.it s.h.length) ⟨s.t, s.h ++ [.row 0 (.itr b 0)]⟩
    | _, _ => False
  | .next x true =>
    match ev s.t x with
    | .it o =>
      match getO s.h o with
      | some (E, .itr b p) =>
        condP (A.lt (A.ofN p) (A.len b))
          (obP (A.inb (A.byte b p) 128) (K (.t3 (.bool true) (.int .i64 (A.ofN p)) (.int .i32 (A.byte b p))) ⟨s.t, s.h.set o (.row E (.itr b (A.nadd p 1)))⟩))
          (K (.t1 (.bool false)) s)
      | _ => False
    | _ => False
  | .makeMap t none =>
    match (tt t).el with
    | some .mp => K (.mp s.h.length) ⟨s.t, s.h ++ [.row 0 (.mpr [])]⟩
    | _ => False
  | .mapUpdate t m k x =>
    match (tt t).el, ev s.t m, ev s.t k, ev s.t x with
    | some .mp, .mp o, .int .i64 n, .bool b =>
      match getO s.h o with
      | some (E, .mpr l) => K .undef ⟨s.t, s.h.set o (.row E (.mpr (A.mset l n b)))⟩
      | _ => False
    | _, _, _, _ => False
  | .makeSlice t l c =>
    match (tt t).sl, ev s.t l, ev s.t c with
    | some (_, .tab), _, _ => False
    | some (E, e), .int .i64 n, .int .i64 m => obP (A.room n) (obP (A.tr (A.eq m n)) (K (.own s.h.length false) ⟨s.t, s.h ++ [.row E (e.zeros A (A.tn n))]⟩))
    | _, _, _ => False
  | .buildSlice t n parts =>
    match (tt t).sl with
    | some (E, .tab) =>
      match n, parts.toList with
      | 0, [] => K (.own s.h.length false) ⟨s.t, s.h ++ [.row E (.tabs [])]⟩
      | 1, [(0, x)] =>
        match ev s.t x with
        | .own o false =>
          match getO s.h o with
          | some (_, .ints .i64 l) => K (.own s.h.length false) ⟨s.t, s.h.set o .dead ++ [.row E (.tabs [l])]⟩
          | _ => False
        | _ => False
      | _, _ => False
    | some (E, e) =>
      match oneOwn s e n parts.toList with
      | some (ob, l) => K (.own s.h.length false) ⟨s.t.map (frz ob (.ints .i64 l)), s.h.set ob .dead ++ [.row E (.intss [l])]⟩
      | none =>
      match Nat.beq parts.size n, Nat.blt n 1000 with
      | true, true => lits s.t 0 parts.toList e.nil s.h fun r h => K (.own h.length false) ⟨s.t, h ++ [.row E r]⟩
      | _, _ => False
    | none => False
  | .call { callee := .builtin .append, args := args, argTypes := ts } =>
    match args.toList, ts.toList with
    | [x, y], [t, t'] =>
      match tabK (tt t).sl with
      | true =>
        match Nat.beq t t', ev s.t x, ev s.t y with
        | true, .own o false, .own o2 false =>
          match getO s.h o, getO s.h o2, Nat.beq o o2, Nat.blt 0 o with
          | some (E, .tabs q), some (E2, .tabs r), false, true =>
            match tabE (tt t).sl E with
            | true => obP (A.room (A.len q)) (obP (A.room (A.len r)) (K (.own o false) ⟨s.t.map (clr o), (s.h.set o2 .dead).set o (.row E (.tabs (A.app q r)))⟩))
            | false => False
          | _, _, _, _ => False
        | _, _, _ => False
      | false =>
      match Nat.beq t t', (tt t).sl, (match ev s.t y with | .nilS => (match (tt t).sl with | some (_, e) => some e.nil | none => none) | v => src A s.h v) with
      | true, some (E, e), some r =>
        match r.rk.eqb e with
        | false => False
        | true =>
          match ev s.t x with
          | .nilS => obP (A.room (r.len A)) (K (.own s.h.length true) ⟨s.t, s.h ++ [.row E r]⟩)
          | .own o z =>
            match getO s.h o with
            | some (E', q) =>
              match q.app A r with
              | some q' => match Nat.beq E E', Nat.blt 0 o with | true, true => obP (A.room (q.len A)) (obP (A.room (r.len A)) (K (.own o z) ⟨s.t.map (clr o), s.h.set o (.row E q')⟩)) | _, _ => False
              | none => False
            | none => False
          | _ => False
      | _, _, _ => False
    | _, _ => False
  | _ => False

/-- An argument as the callee sees it: to be read alone. -/
def borrow (h : List AO) : AV → AV
  | .own o _ => match getO h o with | some (_, .tabs l) => .ro (.intss l) | some (_, r) => (match r.rk.rowk with | true => .ro r | false => .undef) | none => .undef
  | .win o a n => match getO h o with | some (_, r) => (match r.rk.rowk with | true => .ro (r.win A a (A.nadd a n)) | false => .undef) | none => .undef
  | .po _ _ => .undef
  | .pf _ _ _ => .undef
  | .t1 _ => .undef
  | .t2 _ _ => .undef
  | .t3 _ _ _ => .undef
  | .gd _ _ => .undef
  | .it _ => .undef
  | .mp _ => .undef
  | .sm _ r => .ro r
  | v => v

/-- A result whose row takes the place of object o. -/
def shiftAt (o : Nat) : AV → AV
  | .own _ z => .own o z
  | .int k n => .int k n
  | .bool b => .bool b
  | .str s => .str s
  | .t2 x y => .t2 (shiftAt o x) (shiftAt o y)
  | _ => .undef

def shift (b : Nat) : AV → AV
  | .own o z => .own (b + o) z
  | .t2 x y => .t2 (shift b x) (shift b y)
  | .t3 x y z => .t3 (shift b x) (shift b y) (shift b z)
  | .win _ _ _ => .undef
  | .po _ _ => .undef
  | .pf _ _ _ => .undef
  | .gd _ _ => .undef
  | .t1 _ => .undef
  | .it _ => .undef
  | .mp _ => .undef
  | v => v

/-- A result with no memory in it. -/
def scalar : AV → Bool
  | .int _ _ => true
  | .bool _ => true
  | .str _ => true
  | .nilS => true
  | .t0 => true
  | .t2 x y => scalar x && scalar y
  | .t3 x y z => scalar x && scalar y && scalar z
  | _ => false

/-- A row with no slices in it. -/
def flat : Row → Bool
  | .intss _ => false
  | .boolss _ => false
  | _ => true

def scalars : List AV → Bool
  | [] => true
  | x :: r => scalar x && scalars r

/-- The operands' values, each taken under the guard. -/
def opL (g : Option Bool) (t : List AV) : List Operand → (List AV → Prop) → Prop
  | [], K => K []
  | x :: r, K => op1 A g (ev t x) fun v => opL g t r fun vs => K (v :: vs)

/-- Rows of one kind. -/
def sameK : Row → Row → Bool
  | .tabs _, .tabs _ => true
  | a, b => a.rk.eqb b.rk

def rowsOf : List (Nat × Row) → List AO
  | [] => []
  | (E, r) :: x => .row E r :: rowsOf x

def callOp (T : Nat → List AV → CR) (q : Bool) (g : Option Bool) (s : St) (f : Nat) (args : List Operand) (K : AV → St → Prop) : Prop :=
  opL A g s.t args fun vs =>
    match T f (vs.map (borrow A s.h)) with
    | .no => False
    | .pure p r fr =>
      match q, g, fr with
      | false, none, _ => obP p (K (shift s.h.length r) ⟨s.t, s.h ++ rowsOf fr⟩)
      | _, _, [] => match scalar r with | true => ob A g p (K r s) | false => False
      | _, _, _ => False
    | .mut i p r row =>
      match q, g, vs.getD i .undef with
      | false, none, .own o _ =>
        match getO s.h o with
        | some (E, row0) => match scalar r && flat row && sameK row row0 && scalars (vs.set i (.bool true)) with | true => obP p (K r ⟨s.t, s.h.set o (.row E row)⟩) | false => False
        | none => False
      | _, _, _ => False
    | .pat i p r E row =>
      match q, g, vs.getD i .undef with
      | false, none, .own o _ =>
        match getO s.h o, Nat.blt 0 o with
        | some _, true => obP p (K (shiftAt o r) ⟨s.t.map (clr o), s.h.set o (.row E row)⟩)
        | _, _ => False
      | _, _, _ => False
    | .same i p b =>
      match q, g with
      | false, none => match scalar b, vs[i]? with | true, some x => obP p (K (.t2 x b) s) | _, _ => False
      | _, _ => False

/-- Does this operation make or write memory? -/
def isMem : Op → Bool
  | .alloc _ => true
  | .box _ _ => true
  | .store _ _ _ => true
  | .range _ _ => true
  | .next _ _ => true
  | .makeMap _ _ => true
  | .mapUpdate _ _ _ _ => true
  | .makeSlice _ _ _ => true
  | .buildSlice _ _ _ => true
  | .call { callee := .builtin .append, args := _, argTypes := _ } => true
  | _ => false

def callee : Op → Option (Nat × List Operand)
  | .call { callee := .value (.func f), args := args, argTypes := _ } => some (f, args.toList)
  | _ => none

def stepOp (tt : Nat → TI) (T : Nat → List AV → CR) (q : Bool) (g : Option Bool) (s : St) (op : Op) (K : AV → St → Prop) : Prop :=
  match callee op with
  | some (f, args) => callOp A T q g s f args K
  | none =>
    match isMem op with
    | true => match q, g with | false, none => memOp A tt s op K | _, _ => False
    | false => pureOp A tt g s op fun v => K v s

/-- The guard's value. -/
def guardOf (ops : Array Oper) (t : List AV) (j : Nat) (want : Bool) : Option Bool :=
  match (ops.toList[j]?).bind (·.dst) with
  | some d =>
    match t.getD d .undef with
    | .bool c => some (match want with | true => c | false => A.not c)
    | .gd g (.bool c) => some (A.and g (match want with | true => c | false => A.not c))
    | _ => none
  | none => none

/-- A value that stands for an operation that is not carried out. -/
def dfl : Option RK → AV
  | some (.i k) => .int k 0
  | some .b => .bool false
  | some .s => .str []
  | _ => .undef
/-- In order, where the guard is known not to hold. -/
def regF (tt : Nat → TI) (T : Nat → List AV → CR) (ops : Array Oper) (j : Nat) (want : Bool) : List Oper → St → (St → Prop) → Prop
  | [], s, K => K s
  | o :: rest, s, K =>
    match o.guard with
    | none => stepOp A tt T false none s o.op fun v s' => regF tt T ops j want rest ⟨put s'.t o.dst v, s'.h⟩ K
    | some (j', want') =>
      match guardOf A ops s.t j' want' with
      | none => False
      | some g =>
        match Nat.beq j' j, want', want with
        | true, true, true => obP (g = false) (regF tt T ops j want rest ⟨put s.t o.dst (.gd g (dfl (tt o.type).el)), s.h⟩ K)
        | true, false, false => obP (g = false) (regF tt T ops j want rest ⟨put s.t o.dst (.gd g (dfl (tt o.type).el)), s.h⟩ K)
        | _, _, _ => stepOp A tt T false (some g) s o.op fun v s' => regF tt T ops j want rest ⟨put s'.t o.dst (.gd g v), s'.h⟩ K
/-- Does a guarded operation make memory? -/
def splitB (tt : Nat → TI) (q : Bool) (o : Oper) : Bool :=
  match q with
  | true => false
  | false =>
    match callee o.op with
    | some _ => (match (tt o.type).el with | some (.i _) => false | some .b => false | some .s => false | _ => true)
    | none => false
/-- A guarded call, where the guard is known to hold. -/
def callU (T : Nat → List AV → CR) (g : Bool) (s : St) (op : Op) (K : AV → St → Prop) : Prop :=
  match callee op with
  | some (f, args) => opL A (some g) s.t args fun vs => match T f (vs.map (borrow A s.h)) with | .pure p r fr => obP p (K (shift s.h.length r) ⟨s.t, s.h ++ rowsOf fr⟩) | _ => False
  | none => False

def regA (tt : Nat → TI) (T : Nat → List AV → CR) (q : Bool) (ops : Array Oper) : List Oper → St → (St → Prop) → Prop
  | [], s, K => K s
  | o :: rest, s, K =>
    match o.guard with
    | none => stepOp A tt T q none s o.op fun v s' => regA tt T q ops rest ⟨put s'.t o.dst v, s'.h⟩ K
    | some (j, want) =>
      match guardOf A ops s.t j want with
      | some g =>
        match splitB tt q o with
        | true => condP g (callU A T g s o.op fun v s' => regA tt T q ops rest ⟨put s'.t o.dst (.gd g v), s'.h⟩ K) (regF A tt T ops j want rest ⟨put s.t o.dst (.gd g .undef), s.h⟩ K)
        | false => stepOp A tt T q (some g) s o.op fun v s' => regA tt T q ops rest ⟨put s'.t o.dst (.gd g v), s'.h⟩ K
      | none => False

def okid (n : Nat) : AV → Bool
  | .own o _ => Nat.blt o n
  | .win o _ _ => Nat.blt o n
  | .po o _ => Nat.blt o n
  | .pf o _ _ => Nat.blt o n
  | .it o => Nat.blt o n
  | .mp o => Nat.blt o n
  | .t1 _ => false
  | .t2 _ _ => false
  | .t3 _ _ _ => false
  | .gd _ _ => false
  | _ => true

/-- Less may be known: a slot forgotten; a slice of one's own that is only read from now on. -/
def wkV (h h' : List AO) : AV → AV → Prop
  | _, .undef => True
  | .own o _, .ro r' => ∃ E r, getO h o = some (E, r) ∧ r = r' ∧ r'.rk.rowk = true ∧ getO h' o = none
  | .own o _, .own o' true => o = o' ∧ Nat.blt o' h'.length = true
  | .nilS, .own o true => h.length ≤ o ∧ o < h'.length
  | a, b => a = b ∧ okid h'.length b = true
def wkT (h h' : List AO) : List AV → List AV → Prop
  | [], [] => True
  | a :: x, b :: y => wkV h h' a b ∧ wkT h h' x y
  | _, _ => False
def wkH : List AO → List AO → Prop
  | _, [] => True
  | _ :: x, .dead :: y => wkH x y
  | [], .dead :: y => wkH [] y
  | a :: x, b :: y => a = b ∧ wkH x y
  | [], .row _ r :: y => r.nlen alg = 0 ∧ wkH [] y

/-- Weakening: slots forgotten, objects forgotten. -/
structure Wk (s s' : St) : Prop where
  t : wkT s.h s'.h s.t s'.t
  h : wkH s.h s'.h
  l : Nat.blt 0 s'.h.length = true

/-- Does it write into memory that is there? -/
def wr : Op → Bool
  | .store _ _ _ => true
  | .next _ _ => true
  | .mapUpdate _ _ _ _ => true
  | .call _ => true
  | _ => false
/-- No memory is made or written, and no function is entered. -/
def still (op : Op) : Bool :=
  match callee op with
  | some _ => false
  | none => !isMem op

/-! An order for a region that draws its order: what is still comes first. -/
def bindE (e : Edge) : Bool :=
  match e.ground with
  | .textOnly _ => false
  | .gcOnly _ => false
  | _ => true
def memN (i : Nat) : List Nat → Bool
  | [] => false
  | j :: r => match Nat.beq i j with | true => true | false => memN i r
def depsIn (l : List Nat) : List Edge → Bool
  | [] => true
  | e :: r => match bindE e with | true => (match memN e.on l with | true => depsIn l r | false => false) | false => depsIn l r
def pickO (f : Op → Bool) (l : List Nat) : Nat → List Oper → Option Nat
  | _, [] => none
  | i, o :: r => match memN i l, depsIn l o.after.toList, f o.op with | false, true, true => some i | _, _, _ => pickO f l (i + 1) r
def sched (ops : List Oper) : Nat → List Nat → List Nat → List Nat
  | 0, _, acc => acc.reverse
  | n + 1, l, acc =>
    match pickO still l 0 ops with
    | some i => sched ops n (i :: l) (i :: acc)
    | none => match pickO (fun _ => true) l 0 ops with
      | some i => sched ops n (i :: l) (i :: acc)
      | none => acc.reverse
def heldB (ops : Array Oper) : List Nat → Array Bool → Bool
  | [], listed => (Region.ready .any ops listed).isEmpty
  | i :: r, listed =>
    (decide (Region.ready .any ops listed = [i]) || (match ops[i]? with | some o => still o.op | none => false) && (Region.ready .any ops listed).contains i && Region.free .any ops listed i) &&
      heldB ops r (listed.setIfInBounds i true)
structure heldP (ops : Array Oper) (l : List Nat) : Prop where
  h : (Region.noSelect ops && decide (l.length = ops.size) && heldB ops l (Array.replicate ops.size false)) = true

/-- An operation in its turn, in a region that draws its order: nothing that is there is written. -/
def heldOp (tt : Nat → TI) (T : Nat → List AV → CR) (g : Option Bool) (s : St) (op : Op) (K : AV → St → Prop) : Prop :=
  match callee op with
  | some (f, args) =>
    match g with
    | none => opL A none s.t args fun vs => match T f (vs.map (borrow A s.h)) with
      | .pure p r fr => obP p (K (shift s.h.length r) ⟨s.t, s.h ++ rowsOf fr⟩)
      | .same i p b => match scalar b, vs[i]? with | true, some x => obP p (K (.t2 x b) s) | _, _ => False
      | _ => False
    | some _ => callOp A T true g s f args K
  | none =>
    match isMem op with
    | true => match wr op, g with | false, none => memOp A tt s op K | _, _ => False
    | false => pureOp A tt g s op fun v => K v s

def regH (tt : Nat → TI) (T : Nat → List AV → CR) (ops : Array Oper) : List Nat → St → (St → Prop) → Prop
  | [], s, K => K s
  | i :: rest, s, K =>
    match ops.toList[i]? with
    | none => False
    | some o =>
      match o.guard with
      | none => heldOp A tt T none s o.op fun v s' => regH tt T ops rest ⟨put s'.t o.dst v, s'.h⟩ K
      | some (j, want) =>
        match guardOf A ops s.t j want with
        | some g => heldOp A tt T (some g) s o.op fun v s' => regH tt T ops rest ⟨put s'.t o.dst (.gd g v), s'.h⟩ K
        | none => False

/-- Are all results plain, and no memory made? -/
def plainB (tt : Nat → TI) : List Oper → Bool
  | [] => true
  | o :: r =>
    match callee o.op with
    | some _ => (match (tt o.type).el with | some (.i _) => plainB tt r | some .b => plainB tt r | some .s => plainB tt r | _ => false)
    | none => match isMem o.op with | true => false | false => plainB tt r

/-! Regions that draw their order and write: all that is still ahead of the writes; or every order. -/
def isLd : Op → Bool
  | .load _ _ => true
  | .lookup _ _ _ _ => true
  | .convert _ _ _ => true
  | _ => false
def isWr : Op → Bool
  | .store _ _ _ => true
  | .next _ _ => true
  | .mapUpdate _ _ _ _ => true
  | .call { callee := .builtin .append, args := _, argTypes := _ } => true
  | _ => false
def anyWr : List Oper → Bool
  | [] => false
  | o :: r => match isWr o.op with | true => true | false => anyWr r
def tailLike : Op → Bool
  | .assign _ => true
  | op => isMem op
def allTail : List Oper → Bool
  | [] => true
  | o :: r => match tailLike o.op with | true => allTail r | false => false
def tailN : List Oper → Nat → Option Nat
  | [], _ => none
  | o :: r, n => match still o.op with | true => tailN r (n + 1) | false => match allTail (o :: r) with | true => some n | false => none
def waitsA (i : Nat) : List Edge → Bool
  | [] => false
  | e :: r => match bindE e, Nat.beq e.on i with | true, true => true | _, _ => waitsA i r
def waitedA (i : Nat) : Nat → List Oper → Bool
  | _, [] => false
  | 0, o :: _ => waitsA i o.after.toList
  | n + 1, o :: r => match waitsA i o.after.toList with | true => true | false => waitedA i n r
/-- Is each of the first n operations waited for by one of those behind it, n at most? -/
def sinkA : Nat → Nat → List Oper → Bool
  | _, 0, _ => true
  | _, _, [] => true
  | i, n + 1, _ :: r => match waitedA i n r with | true => sinkA (i + 1) n r | false => false
structure tailP (ops : Array Oper) (n : Nat) : Prop where
  h : Region.lexTailB .any ops n = true

/-- Operations that only read, one after the other. -/
def regS (tt : Nat → TI) (ops : Array Oper) : List Oper → St → (St → Prop) → Prop
  | [], s, K => K s
  | o :: rest, s, K =>
    match o.guard with
    | none => pureOp A tt none s o.op fun v => regS tt ops rest ⟨put s.t o.dst v, s.h⟩ K
    | some (j, want) =>
      match guardOf A ops s.t j want with
      | some g => pureOp A tt (some g) s o.op fun v => regS tt ops rest ⟨put s.t o.dst (.gd g v), s.h⟩ K
      | none => False

def readyO (l : List Nat) : Nat → List Oper → List Nat
  | _, [] => []
  | i, o :: r => match memN i l, depsIn l o.after.toList with | false, true => i :: readyO l (i + 1) r | _, _ => readyO l (i + 1) r
/-- Is what is not still always alone in its turn? -/
def linB (ops : List Oper) : Nat → List Nat → Bool
  | 0, _ => true
  | n + 1, l =>
    match pickO still l 0 ops with
    | some i => linB ops n (i :: l)
    | none => match readyO l 0 ops with
      | [] => true
      | [i] => linB ops n (i :: l)
      | _ => false

/-- A tree of orders. -/
inductive PT where
  | done
  | nil
  | take (i : Nat) (t : PT)
  | br (i : Nat) (t : PT) (r : PT)
def free1 (op : Op) : Bool := match isLd op with | true => false | false => still op
def alts (f : Nat → PT) : List Nat → PT
  | [] => .nil
  | i :: r => .br i (f i) (alts f r)
def planF (ops : List Oper) : Nat → List Nat → PT
  | 0, _ => .done
  | n + 1, l =>
    match pickO free1 l 0 ops with
    | some i => .take i (planF ops n (i :: l))
    | none =>
      match readyO l 0 ops with
      | [] => .done
      | r => alts (fun i => planF ops n (i :: l)) r
def idxs : PT → List Nat
  | .br i _ r => i :: idxs r
  | _ => []
def chk (ops : Array Oper) : Nat → Bool → PT → Array Bool → Bool
  | _, _, .done, L => (Region.ready .any ops L).isEmpty
  | _, top, .nil, _ => !top
  | 0, _, _, _ => false
  | n + 1, _, .take i t, L => (match ops[i]? with | some o => free1 o.op | none => false) && (Region.ready .any ops L).contains i && Region.free .any ops L i && chk ops n true t (L.setIfInBounds i true)
  | n + 1, top, .br i t r, L => (!top || decide (Region.ready .any ops L = i :: idxs r)) && chk ops n true t (L.setIfInBounds i true) && chk ops (n + 1) false r L
structure planP (ops : Array Oper) (t : PT) : Prop where
  h : (Region.noSelect ops && chk ops ops.size true t (Array.replicate ops.size false)) = true

def oneA (tt : Nat → TI) (T : Nat → List AV → CR) (ops : Array Oper) (i : Nat) (s : St) (K : St → Prop) : Prop :=
  match ops.toList[i]? with
  | none => False
  | some o =>
    match o.guard with
    | none => stepOp A tt T false none s o.op fun v s' => K ⟨put s'.t o.dst v, s'.h⟩
    | some (j, want) =>
      match guardOf A ops s.t j want with
      | some g => stepOp A tt T false (some g) s o.op fun v s' => K ⟨put s'.t o.dst (.gd g v), s'.h⟩
      | none => False
def regT (tt : Nat → TI) (T : Nat → List AV → CR) (ops : Array Oper) : PT → St → (St → Prop) → Prop
  | .done, s, K => K s
  | .nil, _, _ => True
  | .take i t, s, K =>
    match ops.toList[i]? with
    | none => False
    | some o => regS A tt ops [o] s fun s' => regT tt T ops t s' K
  | .br i t r, s, K => obP (oneA A tt T ops i s fun s' => regT tt T ops t s' K) (regT tt T ops r s K)

/-! Object j takes the place of object i. -/
def mvV (i j : Nat) : AV → AV
  | .own o z => match Nat.beq o j, Nat.beq o i with | true, _ => .own i z | _, true => .undef | _, _ => .own o z
  | .win o a n => match Nat.beq o j, Nat.beq o i with | true, _ => .win i a n | _, true => .undef | _, _ => .win o a n
  | .po _ _ => .undef
  | .pf _ _ _ => .undef
  | .t1 _ => .undef
  | .t2 _ _ => .undef
  | .t3 _ _ _ => .undef
  | .gd _ _ => .undef
  | .it o => match Nat.beq o j, Nat.beq o i with | false, false => .it o | _, _ => .undef
  | .mp o => match Nat.beq o j, Nat.beq o i with | false, false => .mp o | _, _ => .undef
  | v => v
def mv (i j : Nat) (s : St) : St :=
  match Nat.blt 0 i, Nat.blt i s.h.length, Nat.blt j s.h.length, Nat.beq i j with
  | true, true, true, false => ⟨s.t.map (mvV i j), (s.h.set i (s.h.getD j .dead)).set j .dead⟩
  | _, _, _, _ => s
/-- The objects of slots are brought to their places. -/
def mvs : List (Nat × Nat) → St → St
  | [], s => s
  | (i, k) :: r, s => match s.t.getD k .undef with | .own j _ => mvs r (mv i j s) | _ => mvs r s

structure loopP (W : (Ex → St → Prop) → St → Prop) (Q : Ex → St → Prop) (s : St) : Prop where
  ex : ∃ (γ : Type) (N : List (Nat × Nat)) (F : γ → St) (R : γ → Prop) (μ : γ → Nat), (∃ g, Wk s (F g) ∧ R g) ∧
    ∀ g, R g → W (fun e s' => match e with | .normal => ∃ g', Wk (mvs N s') (F g') ∧ R g' ∧ μ g' < μ g | e => Q e s') (F g)

def awp (tt : Nat → TI) (T : Nat → List AV → CR) : Code → (Ex → St → Prop) → St → Prop
  | .skip, Q, s => Q .normal s
  | .region _ ops draw, Q, s =>
    match draw with
    | true =>
      match plainB tt ops.toList with
      | true => obP (lexP ops) (regA A tt T true ops ops.toList s fun s' => Q .normal s')
      | false =>
        match anyWr ops.toList with
        | false =>
          match linB ops.toList ops.toList.length [] with
          | true => obP (heldP ops (sched ops.toList ops.toList.length [] [])) (regH A tt T ops (sched ops.toList ops.toList.length [] []) s fun s' => Q .normal s')
          | false => obP (planP ops (planF ops.toList ops.toList.length [])) (regT A tt T ops (planF ops.toList ops.toList.length []) s fun s' => Q .normal s')
        | true =>
          match (match tailN ops.toList 0 with | some n => (match sinkA 0 n ops.toList with | true => some n | false => none) | none => none) with
          | some n => obP (tailP ops n) (regS A tt ops (ops.toList.take n) s fun s' => regA A tt T false ops (ops.toList.drop n) s' fun s'' => Q .normal s'')
          | none => obP (planP ops (planF ops.toList ops.toList.length [])) (regT A tt T ops (planF ops.toList ops.toList.length []) s fun s' => Q .normal s')
    | false => regA A tt T false ops ops.toList s fun s' => Q .normal s'
  | .seq a b, Q, s => awp tt T a (fun e s' => match e with | .normal => awp tt T b Q s' | e => Q e s') s
  | .cond c x y, Q, s => match ev s.t c with | .bool b => condP b (awp tt T x Q s) (awp tt T y Q s) | _ => False
  | .block id c, Q, s => awp tt T c (fun e s' => match e with | .exit i => (match Nat.beq i id with | true => Q .normal s' | false => Q (.exit i) s') | e => Q e s') s
  | .loop c, Q, s => loopP (awp tt T c) Q s
  | .exit i, Q, s => Q (.exit i) s
  | .ret, Q, s => Q .ret s
  | _, _, _ => False
end
end Go.Ab
