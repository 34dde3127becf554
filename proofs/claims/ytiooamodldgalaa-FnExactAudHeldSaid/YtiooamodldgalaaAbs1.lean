/-
Plain definitions: pure data (codes and their elements), abstract values, abstract objects, and an evaluator over the model's operations.
-/
import Derived.Calls
namespace Go.Proofs.Ytiooamodldgalaa.Abs
open Go

/-! ### Codes of plain data -/
inductive RT where
  | int (k : IntKind) | bool | str
  | pair (a b : RT)
  | list (e : TypeId) (a : RT)
  deriving DecidableEq

@[reducible] def El : RT → Type
  | .int _ => Int
  | .bool => Bool
  | .str => ByteArray
  | .pair a b => El a × El b
  | .list _ a => List (El a)

namespace RT
def sz : RT → Nat
  | .pair a b => a.sz + b.sz
  | _ => 1
def flat : RT → Bool
  | .list _ _ => false
  | .pair a b => a.flat && b.flat
  | _ => true
def zero : (t : RT) → El t
  | .int _ => (0 : Int)
  | .bool => false
  | .str => ByteArray.empty
  | .pair a b => (a.zero, b.zero)
  | .list _ _ => []
end RT

/-! ### Abstract values -/
/-- A value of one cell. ids: numbers of objects. -/
inductive LV where
  | undef | void
  | int (k : IntKind) (n : Int)
  | bool (b : Bool)
  | str (s : ByteArray)
  | nilp | nils
  | ptr (o off : Nat)
  | eptr (o i off : Nat)
  | iptr (o i j off : Nat)
  | rptr (t : RT) (x : El t) (off : Nat)
  | own (o : Nat)
  | view (o lo hi : Nat)
  | inn (o i : Nat)
  | ro (t : RT) (xs : List (El t))
  | mp (o : Nat)
  | sref (o n : Nat)
  | fn (f : FuncId) (caps : List Nat)

inductive CV where
  | leaf (x : LV)
  | agg (l : List LV)

inductive AV where
  | c (x : CV)
  | tup (l : List CV)

/-- What an object holds: a box of cells, a row of plain data, a set of numbers (a map to true). -/
inductive AO where
  | cells (t : TypeId) (vs : List LV)
  | rows (e : TypeId) (t : RT) (xs : List (El t))
  | mset (es : List Int)

abbrev Objs := List (Nat × AO)

def AV.undef : AV := .c (.leaf .undef)
def AV.lf (x : LV) : AV := .c (.leaf x)
def AV.ag (l : List LV) : AV := .c (.agg l)

def lku : Objs → Nat → Option AO
  | [], _ => none
  | (k, a) :: r, o => bif Nat.beq k o then some a else lku r o

/-! ### Cells of plain data -/
def lvs : (t : RT) → El t → List LV
  | .int k, n => [.int k n]
  | .bool, b => [.bool b]
  | .str, s => [.str s]
  | .pair a b, x => lvs a x.1 ++ lvs b x.2
  | .list _ a, xs => [.ro a xs]

def unlv : (t : RT) → List LV → Option (El t × List LV)
  | .int k, .int l n :: r => if k = l then some (n, r) else none
  | .bool, .bool b :: r => some (b, r)
  | .str, .str s :: r => some (s, r)
  | .pair a b, l =>
    match unlv a l with
    | some (x, r) => match unlv b r with
      | some (y, r') => some ((x, y), r')
      | none => none
    | none => none
  | _, _ => none

def vals : (t : RT) → El t → List Value
  | .int k, n => [.int k n]
  | .bool, b => [.bool b]
  | .str, s => [.string s]
  | .pair a b, x => vals a x.1 ++ vals b x.2
  | .list _ _, _ => []

/-- The cells of element i of a row, as they are laid open. -/
def rowLv (o i : Nat) : (t : RT) → List (El t) → List LV
  | .list _ _, _ => [.inn o i]
  | .int k, xs => [.int k (xs.getD i (0 : Int))]
  | .bool, xs => [.bool (xs.getD i false)]
  | .str, xs => [.str (xs.getD i ByteArray.empty)]
  | .pair a b, xs => lvs (.pair a b) (xs.getD i (RT.zero (.pair a b)))

/-- The rows inside a row of rows. -/
def inner : (t : RT) → List (El t) → Nat → Option ((a : RT) × List (El a))
  | .list _ a, xs, i => some ⟨a, xs.getD i []⟩
  | _, _, _ => none

/-! ### Types -/
inductive TD where
  | int (k : IntKind) | bool | str | ptr | slice (e : TypeId)
  | struct (fs : List (Nat × Nat × Bool))
  | map | func | array (n : Nat) (e : TypeId) | other

structure TI where
  td : TD
  agg : Bool
  size : Nat
  bytes : Nat
  zero : List LV
  rt : Option RT

/-! ### Results of one operation -/
inductive Res (α : Type) : Type 1 where
  | stuck
  | ok (a : α)
  | chk (c : Prop) (d : Decidable c) (a : α)
  | go (X : Type) (g : Option X) (f : X → α)

namespace Res
def map {α β : Type} (r : Res α) (h : α → β) : Res β :=
  match r with
  | .stuck => .stuck
  | .ok a => .ok (h a)
  | .chk c d a => .chk c d (h a)
  | .go X g f => .go X g (fun x => h (f x))
def ifs {α : Type} (c : Prop) [d : Decidable c] (a : α) : Res α := .chk c d a
def ofO {α : Type} (o : Option α) : Res α :=
  match o with
  | some a => .ok a
  | none => .stuck
def run {α R : Type} (r : Res α) (k : α → Option R) : Option R :=
  match r with
  | .stuck => none
  | .ok a => k a
  | .chk c d a => @ite _ c d (k a) none
  | .go _ g f => g.bind fun x => k (f x)
def gives {α : Type} (r : Res α) (u : α) : Prop :=
  match r with
  | .stuck => False
  | .ok a => u = a
  | .chk c _ a => c ∧ u = a
  | .go _ g f => ∃ x, g = some x ∧ u = f x
end Res

structure Upd where
  val : AV
  set : Objs
  del : List Nat
  new : Objs
  ok : Bool

def Upd.pure (v : AV) : Upd := ⟨v, [], [], [], true⟩

/-! ### The setting -/
/-- Where a nil slice is taken for an owned one of no elements: cell j of the value in tmp t, or (thru) of what it points to. -/
structure Lift where
  t : Nat
  thru : Bool
  j : Nat
  e : TypeId
  rt : RT
structure Hd where
  live : List Nat
  lifts : List Lift

structure Env : Type 1 where
  ty : List (TypeId × TI)
  O : FuncId → List AV → Objs → Res (AV × Objs)
  mask : List (FuncId × List (List (Option RT)))
  fuel : Nat
  np : Nat
  ann : List (Nat × Hd)
  lan : List (Nat × Hd)
  fin : List Lift
  eqs : List (TypeId × List LV)
  gate : Nat → Bool

def assoc {β : Type} : List (Nat × β) → Nat → Option β
  | [], _ => none
  | (k, a) :: r, o => bif Nat.beq k o then some a else assoc r o

def Env.ti (T : Env) (t : TypeId) : Option TI := assoc T.ty t

structure St where
  tm : List AV
  ob : Objs

def ofLeaf : Value → LV
  | .int k n => .int k n
  | .bool b => .bool b
  | .string s => .str s
  | .pointer none => .nilp
  | .slice none 0 0 => .nils
  | _ => .undef

def ofVal : Value → AV
  | .agg cs => .ag (cs.toList.map ofLeaf)
  | v => .lf (ofLeaf v)

def St.ev (st : St) : Operand → AV
  | .tmp t => st.tm.getD t .undef
  | .const v => ofVal v
  | .func f => .lf (.fn f [])
  | .global _ => .undef

/-! ### Ids -/
def LV.ids : LV → List Nat
  | .ptr o _ | .eptr o _ _ | .iptr o _ _ _ | .own o | .view o _ _ | .inn o _ | .mp o | .sref o _ => [o]
  | .fn _ cs => cs
  | _ => []
def CV.ids : CV → List Nat
  | .leaf x => x.ids
  | .agg l => l.flatMap LV.ids
def AV.ids : AV → List Nat
  | .c x => x.ids
  | .tup l => l.flatMap CV.ids
def AO.ids : AO → List Nat
  | .cells _ vs => vs.flatMap LV.ids
  | _ => []

def nub : List Nat → List Nat → List Nat
  | [], acc => acc
  | x :: r, acc => bif acc.any (Nat.beq x) then nub r acc else nub r (acc ++ [x])

def grow (lk : Nat → Option AO) (l : List Nat) : List Nat :=
  nub (l.flatMap fun o => match lk o with | some a => a.ids | none => []) l
def reach (lk : Nat → Option AO) (l : List Nat) : List Nat := grow lk (grow lk (grow lk (nub l [])))

def LV.ren (r : Nat → Nat) : LV → LV
  | .ptr o a => .ptr (r o) a
  | .eptr o a b => .eptr (r o) a b
  | .iptr o a b c => .iptr (r o) a b c
  | .own o => .own (r o)
  | .view o a b => .view (r o) a b
  | .inn o a => .inn (r o) a
  | .mp o => .mp (r o)
  | .sref o n => .sref (r o) n
  | .fn f cs => .fn f (cs.map r)
  | x => x
def CV.ren (r : Nat → Nat) : CV → CV
  | .leaf x => .leaf (x.ren r)
  | .agg l => .agg (l.map (LV.ren r))
def AV.ren (r : Nat → Nat) : AV → AV
  | .c x => .c (x.ren r)
  | .tup l => .tup (l.map (CV.ren r))
def AO.ren (r : Nat → Nat) : AO → AO
  | .cells t vs => .cells t (vs.map (LV.ren r))
  | a => a

/-- A value that may lie in a cell: known, and what it leads to is there. -/
def LV.solid (lk : Nat → Option AO) : LV → Bool
  | .undef | .void | .rptr _ _ _ | .eptr _ _ _ | .iptr _ _ _ _ | .view _ _ _ | .inn _ _ | .sref _ _ => false
  | .ptr o _ => match lk o with | some (.cells _ _) => true | _ => false
  | .own o => match lk o with | some (.rows _ _ _) => true | _ => false
  | .mp o => match lk o with | some (.mset _) => true | _ => false
  | .fn _ cs => cs.all fun o => match lk o with | some (.cells _ _) => true | _ => false
  | _ => true

def LV.noRo : LV → Bool
  | .ro _ _ | .rptr _ _ _ => false
  | _ => true
def CV.noRo : CV → Bool
  | .leaf x => x.noRo
  | .agg l => l.all LV.noRo
def AV.noRo : AV → Bool
  | .c x => x.noRo
  | .tup l => l.all CV.noRo
def AO.noRo : AO → Bool
  | .cells _ vs => vs.all LV.noRo
  | _ => true

def AV.cells? : AV → Option (List LV)
  | .c (.leaf x) => some [x]
  | .c (.agg l) => some l
  | _ => none

/-! ### Bounds -/
def LB : Nat := 4294967296
def SB : Nat := 4611686018427387904

def bt (s : ByteArray) (i : Int) : Int := if h : i.toNat < s.size then ((s[i.toNat]'h).toNat : Int) else 0
def strOf (xs : List Int) : ByteArray := ⟨(xs.map fun n => UInt8.ofNat n.toNat).toArray⟩

/-! ### Operations on plain values -/
def evBin (op : BinOp) (x y : LV) : Res LV :=
  match x, y with
  | .int k a, .int l b =>
    match op with
    | .shr => if k = .i64 ∨ k = .u64 then .ifs (0 ≤ b ∧ b ≤ 64) (.int k (a.fdiv (2 ^ b.toNat))) else .stuck
    | .add => if k = l then .ok (.int k (k.wrap (a + b))) else .stuck
    | .sub => if k = l then .ok (.int k (k.wrap (a - b))) else .stuck
    | .mul => if k = l then .ok (.int k (k.wrap (a * b))) else .stuck
    | .quo => if k = l then .ifs (¬ b = 0) (.int k (k.wrap (a.tdiv b))) else .stuck
    | .rem => if k = l then .ifs (¬ b = 0) (.int k (a.tmod b)) else .stuck
    | .and => if k = l then .ok (.int k (k.wrap ((BitVec.ofInt k.bits a &&& BitVec.ofInt k.bits b).toNat : Int))) else .stuck
    | .or => if k = l then .ok (.int k (k.wrap ((BitVec.ofInt k.bits a ||| BitVec.ofInt k.bits b).toNat : Int))) else .stuck
    | .xor => if k = l then .ok (.int k (k.wrap ((BitVec.ofInt k.bits a ^^^ BitVec.ofInt k.bits b).toNat : Int))) else .stuck
    | .eql => if k = l then .ok (.bool (decide (a = b))) else .stuck
    | .neq => if k = l then .ok (.bool (decide (¬ a = b))) else .stuck
    | .lss => if k = l then .ok (.bool (decide (a < b))) else .stuck
    | .leq => if k = l then .ok (.bool (decide (a ≤ b))) else .stuck
    | .gtr => if k = l then .ok (.bool (decide (b < a))) else .stuck
    | .geq => if k = l then .ok (.bool (decide (b ≤ a))) else .stuck
    | _ => .stuck
  | .str a, .str b =>
    match op with
    | .add => .ifs (a.size + b.size ≤ SB) (.str (a ++ b))
    | .eql => .ok (.bool (decide (a = b)))
    | .neq => .ok (.bool (decide (¬ a = b)))
    | _ => .stuck
  | _, _ => .stuck

/-- The first argument tells the kind alone. -/
def eqLv : LV → LV → LV → Option Bool
  | .int _ _, .int k a, .int l b => if k = l then some (decide (a = b)) else none
  | .bool _, .bool a, .bool b => some (a == b)
  | .str _, .str a, .str b => some (decide (a = b))
  | _, _, _ => none
def eqLvs : List LV → List LV → List LV → Option Bool
  | [], [], [] => some true
  | [p], [x], [y] => eqLv p x y
  | p :: q, x :: r, y :: s =>
    match eqLv p x y, eqLvs q r s with
    | some a, some b => some (a && b)
    | _, _ => none
  | _, _, _ => none

def evBinA (T : Env) (op : BinOp) (t : TypeId) (x y : AV) : Res AV :=
  match x, y with
  | .c (.leaf (.bool a)), .c (.leaf (.bool b)) =>
    match T.ti t with
    | some i => match i.td, op with
      | .bool, .eql => .ok (.lf (.bool (a == b)))
      | .bool, .neq => .ok (.lf (.bool (!(a == b))))
      | _, _ => .stuck
    | none => .stuck
  | .c (.leaf a), .c (.leaf b) => (evBin op a b).map AV.lf
  | .c (.agg a), .c (.agg b) =>
    match assoc T.eqs t with
    | some pat => match op, eqLvs pat a b with
      | .eql, some r => .ok (.lf (.bool r))
      | .neq, some r => .ok (.lf (.bool (!r)))
      | _, _ => .stuck
    | none => .stuck
  | _, _ => .stuck

def evUn (op : UnOp) (x : LV) : Res LV :=
  match op, x with
  | .not, .bool b => .ok (.bool (!b))
  | .neg, .int k n => .ok (.int k (k.wrap (0 - n)))
  | _, _ => .stuck

/-- What a slice value reads as: its elements' code and its elements. -/
def slc (lk : Nat → Option AO) : LV → Option ((t : RT) × List (El t))
  | .own o => match lk o with
    | some (.rows _ t xs) => some ⟨t, xs⟩
    | _ => none
  | .ro t xs => some ⟨t, xs⟩
  | .view o lo hi => match lk o with
    | some (.rows _ t xs) => some ⟨t, (xs.take hi).drop lo⟩
    | _ => none
  | .inn o i => match lk o with
    | some (.rows _ t xs) => inner t xs i
    | _ => none
  | _ => none

def castL (t : RT) : (u : RT) × List (El u) → Option (List (El t))
  | ⟨u, xs⟩ => if h : u = t then some (h ▸ xs) else none

/-- .. of elements of a code that is known: nil too. -/
def slcOf (lk : Nat → Option AO) (t : RT) : LV → Option (List (El t))
  | .nils => some []
  | x => match slc lk x with
    | some p => castL t p
    | none => none

def evConv (T : Env) (lk : Nat → Option AO) (src dst : TI) (x : LV) : Res LV :=
  match src.td, dst.td, x with
  | .int _, .int k, .int _ n => .ok (.int k (k.wrap n))
  | .str, .str, .str s => .ok (.str s)
  | .slice e, .str, x => match T.ti e with
    | some ei => match ei.td with
      | .int .u8 => match slcOf lk (.int .u8) x with
        | some xs => .ok (.str (strOf xs))
        | none => .stuck
      | _ => .stuck
    | none => .stuck
  | _, _, _ => .stuck

/-! ### Memory -/
def seg (l : List LV) (off n : Nat) : Option (List LV) :=
  bif Nat.ble (off + n) l.length then some ((l.drop off).take n) else none
def splice (l : List LV) (off : Nat) (new : List LV) : Option (List LV) :=
  bif Nat.ble (off + new.length) l.length then some (l.take off ++ new ++ l.drop (off + new.length)) else none

def ldc (lk : Nat → Option AO) (n : Nat) : LV → Option (List LV)
  | .ptr o off => match lk o with
    | some (.cells _ vs) => seg vs off n
    | _ => none
  | .eptr o i off => match lk o with
    | some (.rows _ t xs) => seg (rowLv o i t xs) off n
    | _ => none
  | .iptr o i j off => match lk o with
    | some (.rows _ t xs) => match inner t xs i with
      | some ⟨a, ys⟩ => bif a.flat then seg (lvs a (ys.getD j a.zero)) off n else none
      | none => none
    | _ => none
  | .rptr t x off => seg (lvs t x) off n
  | _ => none

def evLoad (T : Env) (lk : Nat → Option AO) (t : TypeId) (x : AV) : Res AV :=
  match T.ti t, x with
  | some i, .c (.leaf p) => match ldc lk i.size p with
    | some l => bif i.agg then .ok (.ag l) else match l with
      | [y] => .ok (.lf y)
      | _ => .stuck
    | none => .stuck
  | _, _ => .stuck

def setEl (t : RT) (xs : List (El t)) (i off : Nat) (new : List LV) : Option (List (El t)) :=
  match splice (lvs t (xs.getD i t.zero)) off new with
  | some l => match unlv t l with
    | some (x, []) => some (xs.set i x)
    | _ => none
  | none => none

def evStore (T : Env) (lk : Nat → Option AO) (t : TypeId) (x v : AV) : Res Upd :=
  match T.ti t, x, v.cells? with
  | some i, .c (.leaf p), some new =>
    bif Nat.beq new.length i.size && new.all (LV.solid lk) then
      match p with
      | .ptr o off => match lk o with
        | some (.cells u vs) => match splice vs off new with
          | some l => .ok ⟨.lf .void, [(o, .cells u l)], [], [], true⟩
          | none => .stuck
        | _ => .stuck
      | .eptr o i off => match lk o with
        | some (.rows e t xs) =>
          bif t.flat then match setEl t xs i off new with
            | some ys => .ok ⟨.lf .void, [(o, .rows e t ys)], [], [], true⟩
            | none => .stuck
          else .stuck
        | _ => .stuck
      | .iptr o i j off => match lk o with
        | some (.rows e (.list e2 a) xs) =>
          bif a.flat then match setEl a (xs.getD i []) j off new with
            | some ys => .ok ⟨.lf .void, [(o, .rows e (.list e2 a) (xs.set i ys))], [], [], true⟩
            | none => .stuck
          else .stuck
        | _ => .stuck
      | _ => .stuck
    else .stuck
  | _, _, _ => .stuck

/-- A pointer that leads somewhere. -/
def ptrOk (lk : Nat → Option AO) : LV → Bool
  | .ptr o _ => match lk o with | some (.cells _ _) => true | _ => false
  | .eptr o _ _ => match lk o with | some (.rows _ _ _) => true | _ => false
  | .iptr o _ _ _ => match lk o with | some (.rows _ t _) => (match t with | .list _ _ => true | _ => false) | _ => false
  | .rptr _ _ _ => true
  | _ => false

def asInt : AV → Option Int
  | .c (.leaf (.int _ n)) => some n
  | _ => none

def addOff (off : Nat) : LV → Option LV
  | .ptr o a => some (.ptr o (a + off))
  | .eptr o i a => some (.eptr o i (a + off))
  | .iptr o i j a => some (.iptr o i j (a + off))
  | .rptr t x a => some (.rptr t x (a + off))
  | _ => none

def evIndexAddr (T : Env) (lk : Nat → Option AO) (t : TypeId) (x : AV) (ix : AV) : Res AV :=
  match T.ti t, x, asInt ix with
  | some i, .c (.leaf p), some n =>
    match i.td with
    | .slice e => match T.ti e with
      | some ei => match p with
        | .own o => match lk o with
          | some (.rows _ u xs) => bif Nat.beq ei.size u.sz then .ifs (0 ≤ n ∧ n < xs.length) (.lf (.eptr o n.toNat 0)) else .stuck
          | _ => .stuck
        | .ro u xs => bif Nat.beq ei.size u.sz then .ifs (0 ≤ n ∧ n < xs.length) (.lf (.rptr u (xs.getD n.toNat u.zero) 0)) else .stuck
        | .inn o i => match lk o with
          | some (.rows _ u xs) => match inner u xs i with
            | some ⟨a, ys⟩ => bif Nat.beq ei.size a.sz then .ifs (0 ≤ n ∧ n < ys.length) (.lf (.iptr o i n.toNat 0)) else .stuck
            | none => .stuck
          | _ => .stuck
        | _ => .stuck
      | none => .stuck
    | _ => .stuck
  | _, _, _ => .stuck

def szIs (T : Env) (e : TypeId) (n : Nat) : Bool :=
  match T.ti e with
  | some ei => Nat.beq ei.size n
  | none => false
def bnd (x : Option AV) (d : Int) : Option Int :=
  match x with
  | none => some d
  | some v => asInt v

def evSlice (T : Env) (lk : Nat → Option AO) (t : TypeId) (x : AV) (lo hi mx : Option AV) : Res AV :=
  match T.ti t, x, mx with
  | some i, .c (.leaf p), none =>
    match i.td, p with
    | .str, .str s => match bnd lo 0, bnd hi s.size with
      | some l, some h => .ifs (0 ≤ l ∧ l ≤ h ∧ h ≤ s.size) (.lf (.str (s.extract l.toNat h.toNat)))
      | _, _ => .stuck
    | .slice e, .ro u xs => match bnd lo 0, bnd hi xs.length with
      | some l, some h => bif (szIs T e u.sz) then .ifs (0 ≤ l ∧ l ≤ h ∧ h ≤ xs.length) (.lf (.ro u ((xs.take h.toNat).drop l.toNat))) else .stuck
      | _, _ => .stuck
    | .slice e, .own o => match lk o with
      | some (.rows _ u xs) => match bnd lo 0, bnd hi xs.length with
        | some l, some h => bif (szIs T e u.sz) then .ifs (0 ≤ l ∧ l ≤ h ∧ h ≤ xs.length) (.lf (.view o l.toNat h.toNat)) else .stuck
        | _, _ => .stuck
      | _ => .stuck
    | .slice e, .nils => match bnd lo 0, bnd hi 0, T.ti e with
      | some l, some h, some _ => .ifs (0 ≤ l ∧ l ≤ h ∧ h ≤ 0) (.lf .nils)
      | _, _, _ => .stuck
    | _, _ => .stuck
  | _, _, _ => .stuck

def nid (dst : Option Tmp) (j : Nat) : Nat :=
  match dst with
  | some d => 64 * (d + 1) + j
  | none => 64 * 1000000 + j

def fillC (lk : Nat → Option AO) : List LV → List (Nat × Nat) → List (Nat × AV) → Option (List LV)
  | l, _, [] => some l
  | l, fs, (i, v) :: r =>
    match fs[i]?, v.cells? with
    | some (off, n), some new => bif Nat.beq new.length n && new.all (LV.solid lk) then
        match splice l off new with
        | some l' => fillC lk l' fs r
        | none => none
      else none
    | _, _ => none

def evBuild (T : Env) (lk : Nat → Option AO) (t : TypeId) (parts : List (Nat × AV)) : Res AV :=
  match T.ti t with
  | some i => match i.td with
    | .struct fs => match fillC lk i.zero (fs.map fun f => (f.1, f.2.1)) parts with
      | some l => .ok (.ag l)
      | none => .stuck
    | _ => .stuck
  | none => .stuck

def fillR (t : RT) : List (El t) → List (Nat × AV) → Option (List (El t))
  | l, [] => some l
  | l, (i, v) :: r =>
    match v.cells? with
    | some new => match unlv t new with
      | some (x, []) => bif Nat.blt i l.length then fillR t (l.set i x) r else none
      | _ => none
    | none => none

def rowOf (T : Env) (e : TypeId) : Option RT :=
  match T.ti e with
  | some i => i.rt
  | none => none

/-- A slice type's element type and its code, of a size that is told right. -/
def elemOf (T : Env) (st : TypeId) : Option (TypeId × RT) :=
  match T.ti st with
  | some i => match i.td with
    | .slice e => match T.ti e with
      | some ei => match ei.rt with
        | some u => bif Nat.ble ei.bytes 32768 && Nat.beq ei.size u.sz then some (e, u) else none
        | none => none
      | none => none
    | _ => none
  | none => none

def appDst (lk : Nat → Option AO) (e : TypeId) (u : RT) (s : LV) : Option (List (El u) × List Nat) :=
  match s with
  | .nils => some ([], [])
  | .own o => match lk o with
    | some (.rows e' t xs) => if e = e' then (castL u ⟨t, xs⟩).map fun zs => (zs, [o]) else none
    | _ => none
  | _ => none
def evBuildSlice (T : Env) (lk : Nat → Option AO) (dst : Option Tmp) (t : TypeId) (n : Nat) (parts : List (Nat × AV)) : Res Upd :=
  match elemOf T t with
  | some (e, .list e2 a) => match n, parts with
    | 1, [(0, .c (.leaf x))] => match appDst lk e2 a x with
      | some (ys, ds) => .ok ⟨.lf (.own (nid dst 0)), [], ds, [(nid dst 0, .rows e (.list e2 a) [ys])], true⟩
      | none => .stuck
    | _, _ => match fillC lk (List.replicate n .nils) ((List.range n).map fun i => (i, 1)) parts with
      | some l => bif Nat.ble n 4096 && l.all (LV.solid lk) then .ok ⟨.lf (.sref (nid dst 0) n), [], [], [(nid dst 0, .cells e l)], true⟩ else .stuck
      | none => .stuck
  | some (e, u) => bif u.flat && Nat.ble n 4096 && Nat.ble (n * u.sz) 16777216 then
      match fillR u (List.replicate n u.zero) parts with
      | some xs => .ok ⟨.lf (.own (nid dst 0)), [], [], [(nid dst 0, .rows e u xs)], true⟩
      | none => .stuck
    else .stuck
  | none => .stuck

def evMakeSlice (T : Env) (dst : Option Tmp) (t : TypeId) (len cap : AV) : Res Upd :=
  match elemOf T t, asInt len, asInt cap with
  | some (e, u), some n, some m =>
    bif u.flat then .ifs (0 ≤ n ∧ n ≤ LB ∧ m = n) ⟨.lf (.own (nid dst 0)), [], [], [(nid dst 0, .rows e u (List.replicate n.toNat u.zero))], true⟩
    else .ifs (0 ≤ n ∧ n ≤ LB ∧ m = n) ⟨.lf (.own (nid dst 0)), [], [], [(nid dst 0, .rows e u (List.replicate n.toNat u.zero))], true⟩
  | _, _, _ => .stuck

def appSrc (lk : Nat → Option AO) (e : TypeId) (u : RT) (x : LV) : Option (List (El u) × List Nat) :=
  bif u.flat then (slcOf lk u x).map fun ys => (ys, []) else match x with
    | .own o => appDst lk e u (.own o)
    | _ => none

def evAppend (T : Env) (lk : Nat → Option AO) (dst : Option Tmp) (st xt : TypeId) (s x : AV) : Res Upd :=
  match elemOf T st, s, x with
  | some (e, u), .c (.leaf s), .c (.leaf x) =>
    match appSrc lk e u x, appDst lk e u s with
    | some (ys, ds), some (zs, bs) =>
      bif Nat.beq st xt && !(ds.any fun d => bs.any (Nat.beq d)) && Nat.blt 0 u.sz then
        .ifs (zs.length + ys.length ≤ LB) ⟨.lf (.own (nid dst 0)), [], bs ++ ds, [(nid dst 0, .rows e u (zs ++ ys))], true⟩
      else .stuck
    | _, _ => .stuck
  | _, _, _ => .stuck

/-- n zeros behind nil. -/
def evAppZ (T : Env) (dst : Option Tmp) (st : TypeId) (s x : AV) : Res Upd :=
  match elemOf T st, s, asInt x with
  | some (e, u), .c (.leaf .nils), some n =>
    bif u.flat && Nat.blt 0 u.sz then .ifs (0 ≤ n ∧ n ≤ LB) ⟨.lf (.own (nid dst 0)), [], [], [(nid dst 0, .rows e u (List.replicate n.toNat u.zero))], true⟩ else .stuck
  | _, _, _ => .stuck
def isInt (T : Env) (t : TypeId) : Bool :=
  match T.ti t with
  | some i => match i.td with
    | .int _ => true
    | _ => false
  | none => false
def evApp (T : Env) (lk : Nat → Option AO) (dst : Option Tmp) (st xt : TypeId) (s x : AV) : Res Upd :=
  bif isInt T xt then evAppZ T dst st s x else evAppend T lk dst st xt s x

/-- Where a slice's head is taken, and the rest given up: told by the number of the tmp. -/
def cutOf (T : Env) (dst : Option Tmp) : Bool :=
  match dst with
  | some d => (assoc T.lan (1000000 + d)).isSome
  | none => false
def evCut (T : Env) (lk : Nat → Option AO) (dst : Option Tmp) (t : TypeId) (x hi : AV) : Res Upd :=
  match T.ti t, x, asInt hi with
  | some i, .c (.leaf (.own o)), some h =>
    match i.td, lk o with
    | .slice e, some (.rows e' u xs) =>
      bif szIs T e u.sz && u.flat then .ifs (0 ≤ h ∧ h ≤ xs.length) ⟨.lf (.own (nid dst 0)), [], [o], [(nid dst 0, .rows e' u (xs.take h.toNat))], true⟩ else .stuck
    | _, _ => .stuck
  | _, _, _ => .stuck

def evCap (T : Env) (t : TypeId) (x : AV) : Res AV :=
  match T.ti t, x with
  | some i, .c (.leaf .nils) => match i.td with
    | .slice _ => .ok (.lf (.int .i64 0))
    | _ => .stuck
  | _, _ => .stuck

def evLen (T : Env) (lk : Nat → Option AO) (t : TypeId) (x : AV) : Res AV :=
  match T.ti t, x with
  | some i, .c (.leaf x) =>
    match i.td, x with
    | .str, .str s => .ok (.lf (.int .i64 s.size))
    | .slice _, .nils => .ok (.lf (.int .i64 0))
    | .slice _, x => match slc lk x with
      | some ⟨_, xs⟩ => .ok (.lf (.int .i64 xs.length))
      | none => .stuck
    | _, _ => .stuck
  | _, _ => .stuck

/-! ### Calls -/
def toRows (lk : Nat → Option AO) (a : RT) : List LV → Option (List (List (El a)) × List Nat)
  | [] => some ([], [])
  | x :: r => match slcOf lk a x, toRows lk a r with
    | some y, some (ys, b) => some (y :: ys, x.ids ++ b)
    | _, _ => none
def toRo (lk : Nat → Option AO) : Option RT → LV → Option (LV × List Nat)
  | some (.list e a), .sref o n => match lk o with
    | some (.cells _ vs) => bif a.flat && Nat.beq vs.length n && Nat.ble n 4096 then (toRows lk a vs).map fun p => (.ro (.list e a) p.1, o :: p.2) else none
    | _ => none
  | none, x => some (x, [])
  | some t, .ro u xs => (castL t ⟨u, xs⟩).map fun ys => (.ro t ys, [])
  | some t, x => bif t.flat then (slcOf lk t x).map fun ys => (.ro t ys, x.ids) else none
def toRos (lk : Nat → Option AO) : List (Option RT) → List LV → Option (List LV × List Nat)
  | [], [] => some ([], [])
  | m :: ms, x :: xs =>
    match toRo lk m x, toRos lk ms xs with
    | some (y, a), some (ys, b) => some (y :: ys, a ++ b)
    | _, _ => none
  | _, _ => none
def toRoA (lk : Nat → Option AO) (m : List (Option RT)) : AV → Option (AV × List Nat)
  | .c (.leaf x) => match toRos lk m [x] with
    | some ([y], a) => some (.lf y, a)
    | _ => none
  | .c (.agg l) => match toRos lk m l with
    | some (ys, a) => some (.ag ys, a)
    | none => none
  | _ => none
def toRoAs (lk : Nat → Option AO) : List (List (Option RT)) → List AV → Option (List AV × List Nat)
  | [], [] => some ([], [])
  | m :: ms, x :: xs =>
    match toRoA lk m x, toRoAs lk ms xs with
    | some (y, a), some (ys, b) => some (y :: ys, a ++ b)
    | _, _ => none
  | _, _ => none

def idx (l : List Nat) (o : Nat) : Nat :=
  match l with
  | [] => 0
  | x :: r => bif Nat.beq x o then 0 else idx r o + 1

def back (L : List Nat) (dst : Option Tmp) (j : Nat) : Nat :=
  match L[j]? with
  | some o => o
  | none => nid dst (j - L.length)

/-- Every number told is one that was passed, or an object's that is told. -/
def closedIds (n : Nat) (v : AV) (ob : Objs) : Bool :=
  (v.ids ++ ob.flatMap fun p => p.2.ids).all fun o => Nat.blt o n || ob.any fun p => Nat.beq p.1 o

def evCall (T : Env) (lk : Nat → Option AO) (dst : Option Tmp) (f : FuncId) (args : List AV) : Res Upd :=
  match (match assoc T.mask f with
    | some m => toRoAs lk m args
    | none => some (args, [])) with
  | some (as, snap) =>
    let L := reach lk (as.flatMap AV.ids)
    bif L.all (fun o => (lk o).isSome) && !(L.any fun o => snap.any (Nat.beq o)) then
      let r := idx L
      let objs : Objs := L.filterMap fun o => (lk o).map fun a => (r o, a.ren r)
      (T.O f (as.map (AV.ren r)) objs).map fun (v, ob) =>
        let b := back L dst
        ⟨v.ren b,
         (ob.filter fun p => Nat.blt p.1 L.length).map fun p => (b p.1, p.2.ren b),
         L.filter (fun o => !(ob.any fun p => Nat.beq p.1 (r o))),
         (ob.filter fun p => !(Nat.blt p.1 L.length)).map fun p => (b p.1, p.2.ren b),
         (snap.isEmpty || (v.noRo && ob.all fun p => p.2.noRo)) && closedIds L.length v ob⟩
    else .stuck
  | none => .stuck

def capsOf (cs : List Nat) : List AV := cs.map fun o => .lf (.ptr o 0)

def evCore (T : Env) (ρ : Operand → AV) (lk : Nat → Option AO) (o : Oper) : Res Upd :=
  match o.op with
  | .move x | .assign x => .ok (.pure (ρ x))
  | .pick c a b => match ρ c with
    | .c (.leaf (.bool t)) => .ok (.pure (match t with | true => ρ a | false => ρ b))
    | _ => .stuck
  | .alloc e => match T.ti e with
    | some i => .ok ⟨.lf (.ptr (nid o.dst 0) 0), [], [], [(nid o.dst 0, .cells e i.zero)], true⟩
    | none => .stuck
  | .box e x => match T.ti e, (ρ x).cells? with
    | some i, some l => bif Nat.beq l.length i.size && l.all (LV.solid lk) then .ok ⟨.lf (.ptr (nid o.dst 0) 0), [], [], [(nid o.dst 0, .cells e l)], true⟩ else .stuck
    | _, _ => .stuck
  | .build t ps => (evBuild T lk t (ps.toList.map fun p => (p.1, ρ p.2))).map .pure
  | .buildSlice t n ps => evBuildSlice T lk o.dst t n (ps.toList.map fun p => (p.1, ρ p.2))
  | .load t a => (evLoad T lk t (ρ a)).map .pure
  | .store t a x => evStore T lk t (ρ a) (ρ x)
  | .nilCheck x => match ρ x with
    | .c (.leaf (.fn f cs)) => bif (LV.fn f cs).solid lk then .ok (.pure (.lf (.fn f cs))) else .stuck
    | .c (.leaf p) => bif ptrOk lk p then .ok (.pure (.lf p)) else .stuck
    | _ => .stuck
  | .binOp op t x y _ => (evBinA T op t (ρ x) (ρ y)).map .pure
  | .unOp op _ x => match ρ x with
    | .c (.leaf v) => (evUn op v).map fun w => .pure (.lf w)
    | _ => .stuck
  | .convert s d x => match T.ti s, T.ti d, ρ x with
    | some si, some di, .c (.leaf v) => (evConv T lk si di v).map fun w => .pure (.lf w)
    | _, _, _ => .stuck
  | .makeFunc (.func f) first caps =>
    bif Nat.beq first.size 0 then
      match (caps.toList.map ρ).mapM fun | .c (.leaf (.ptr p 0)) => some p | _ => none with
      | some cs => .ok (.pure (.lf (.fn f cs)))
      | none => .stuck
    else .stuck
  | .makeMap _ none => .ok ⟨.lf (.mp (nid o.dst 0)), [], [], [(nid o.dst 0, .mset [])], true⟩
  | .makeSlice t l c => evMakeSlice T o.dst t (ρ l) (ρ c)
  | .slice t x lo hi mx => match cutOf T o.dst, lo, hi, mx with
    | true, none, some h, none => evCut T lk o.dst t (ρ x) (ρ h)
    | _, _, _, _ => (evSlice T lk t (ρ x) (lo.map ρ) (hi.map ρ) (mx.map ρ)).map .pure
  | .fieldAddr t x k => match T.ti t, ρ x with
    | some i, .c (.leaf p) => match i.td with
      | .struct fs => match fs[k]? with
        | some (off, n, _) => bif Nat.beq n 0 || !(ptrOk lk p) then .stuck else match addOff off p with
          | some q => .ok (.pure (.lf q))
          | none => .stuck
        | none => .stuck
      | _ => .stuck
    | _, _ => .stuck
  | .field t x k => match T.ti t, ρ x with
    | some i, .c (.agg l) => match i.td with
      | .struct fs => match fs[k]? with
        | some (off, n, ag) => match seg l off n with
          | some l' => bif ag then .ok (.pure (.ag l')) else match l' with
            | [y] => .ok (.pure (.lf y))
            | _ => .stuck
          | none => .stuck
        | none => .stuck
      | _ => .stuck
    | _, _ => .stuck
  | .indexAddr t x ix => (evIndexAddr T lk t (ρ x) (ρ ix)).map .pure
  | .index t x ix => match T.ti t, ρ x, asInt (ρ ix) with
    | some i, .c (.leaf (.str s)), some n => match i.td with
      | .str => .ifs (0 ≤ n ∧ n < s.size) (.pure (.lf (.int .u8 (bt s n))))
      | _ => .stuck
    | _, _, _ => .stuck
  | .lookup t m k false => match T.ti t, ρ m, ρ k with
    | some i, .c (.leaf (.mp p)), .c (.leaf (.int .i64 n)) => match i.td, lk p with
      | .map, some (.mset es) => .ok (.pure (.lf (.bool (es.contains n))))
      | _, _ => .stuck
    | _, _, _ => .stuck
  | .mapUpdate t m k v => match T.ti t, ρ m, ρ k, ρ v with
    | some i, .c (.leaf (.mp p)), .c (.leaf (.int .i64 n)), .c (.leaf (.bool true)) => match i.td, lk p with
      | .map, some (.mset es) => .ok ⟨.lf .void, [(p, .mset (if es.contains n then es else es ++ [n]))], [], [], true⟩
      | _, _ => .stuck
    | _, _, _, _ => .stuck
  | .extract x k => match ρ x with
    | .tup l => match l[k]? with
      | some y => .ok (.pure (.c y))
      | none => .stuck
    | _ => .stuck
  | .call c => match c.callee with
    | .value f => match ρ f with
      | .c (.leaf (.fn g cs)) => bif (LV.fn g cs).solid lk then evCall T lk o.dst g (c.args.toList.map ρ ++ capsOf cs) else .stuck
      | _ => .stuck
    | .builtin b => match b, c.args.toList, c.argTypes.toList with
      | .append, [s, x], [ts, tx] => evApp T lk o.dst ts tx (ρ s) (ρ x)
      | .cap, [x], [tx] => (evCap T tx (ρ x)).map .pure
      | .len, [x], [tx] => (evLen T lk tx (ρ x)).map .pure
      | .min, [x, y], _ => match ρ x, ρ y with
        | .c (.leaf (.int k a)), .c (.leaf (.int _ b)) => .ok (.pure (.lf (.int k (if b < a then b else a))))
        | _, _ => .stuck
      | _, _, _ => .stuck
    | _ => .stuck
  | _ => .stuck

end Go.Proofs.Ytiooamodldgalaa.Abs
