/- Texts of one proof, gathered: Vm1 Vm2 Vm3 Vm4 Vm5 Vm6 Vm7 Vm8 Vm9. -/
import Derived.Tactics
import Derived.Orders
import Derived.Below
import Derived.Deep.LoopGhost
import Derived.Laws.AppendOwn
import Derived.Laws.BytesString
import Derived.ChangeKeysEq
import Derived.Laws.Concat
import Derived.Laws.Slices
import Derived.Laws.Strings2
import Derived.Laws.Tables
import Derived.Laws.MakeOwn
import Derived.Laws.RangeString
set_option linter.unusedSimpArgs false
set_option linter.unusedVariables false
set_option linter.unnecessarySimpa false
/- The symbolic machine, part 1: abstract values, abstract operations, and the function 'run' that executes a function's code on them. No theorem about Go here. -/
namespace Go.Proofs.YtipomdmlkkifcaaGreatDoor.Vm
open Go

/-- Abstract values. 'b' a bool by a Lean term, 'bl' a known bool; 'sl', 'rp': memory that is never written again; 'ref', 'p': a slice of, a pointer into, an object of the abstract heap (id, generation). -/
inductive T where
  | top
  | b (x : Bool) | bl (x : Bool)
  | i (k : IntKind) (n : Int)
  | fl (k : FloatKind) (x : Nat) | cx (k : FloatKind) (x y : Nat)
  | s (l : List UInt8)
  | agg (cs : List T) | tup (cs : List T)
  | sl (n : Nat) (cs : List T) | nsl
  | rp (cs : List T) (off : Nat) | np
  | fn (f : Fn) (first caps : List T) | nfn
  | ifc (t : TypeId) (v : T) | nif
  | ref (id g off n : Nat)
  | p (id g off : Nat)
  deriving Inhabited

/-- What is told of an object's block: the cells per element; these and the elements' type; or the type of the one value that it is. -/
inductive Mk where
  | sz (n : Nat) | row (n e : Nat) | cell (t : Nat)
  deriving Inhabited
instance (n : Nat) : OfNat Mk n := ⟨.sz n⟩
def szOf : Mk → Nat
  | .sz n => n | .row n _ => n | .cell _ => 0
/-- Abstract objects: 'row pu esz cs': cells; 'pu': all of them plain (no reference to an object); 'esz': cells per element. 'it': an iterator over a string. -/
inductive Obj where
  | dead
  | row (pu : Bool) (esz : Mk) (cs : List T)
  | it (l : List UInt8) (pos : Nat)
  deriving Inhabited

def szB : Nat := 100000
abbrev Env := List (Nat × T)
abbrev Heap := List (Nat × Nat × Obj)

/-- Answers of the proof to what the machine cannot see: a bool's value; the cells that a load gives; the bytes of a slice; a call's result, which objects it takes and what it leaves. -/
inductive Or where
  | a | t | f
  | v (cs : List T)
  | l (x : List UInt8)
  | c (r : T) (use : List Nat) (out : Heap)

/-- What there is to know of a type. -/
inductive TK where
  | other | bool | int (k : IntKind) | fl (k : FloatKind) | cx (k : FloatKind) | str
  | slice (e : Nat) | arr (n e : Nat) | struct (fs : List (Nat × Nat × Bool)) | ptr (e : Nat) | func
structure TI where
  k : TK
  size : Nat
  bytes : Nat
  agg : Bool
  zero : List T
/-- A table of types by halving. -/
inductive Tab where
  | leaf (n : Nat) (t : TI)
  | node (m : Nat) (l r : Tab)
def TI.none : TI := ⟨.other, 0, 0, false, []⟩
def Tab.get : Tab → Nat → TI
  | .leaf m t, n => match Nat.beq m n with | true => t | false => .none
  | .node m l r, n => match Nat.blt n m with | true => l.get n | false => r.get n
structure Ctx where
  ty : Tab
  glob : List (Nat × T)

def look : Env → Nat → T
  | [], _ => .top
  | (r, v) :: e, n => match Nat.beq r n with | true => v | false => look e n
def hlook : Heap → Nat → Option (Nat × Obj)
  | [], _ => none
  | (r, g, o) :: e, n => match Nat.beq r n with | true => some (g, o) | false => hlook e n

def force {α : Type} (v : T) (K : T → α) : α := match v with
  | .top => K .top | .b x => K (.b x) | .bl x => K (.bl x) | .i k n => K (.i k n) | .fl k x => K (.fl k x) | .cx k x y => K (.cx k x y)
  | .s l => K (.s l) | .agg c => K (.agg c) | .tup c => K (.tup c) | .sl n c => K (.sl n c) | .nsl => K .nsl | .rp c o => K (.rp c o) | .np => K .np
  | .fn f x c => K (.fn f x c) | .nfn => K .nfn | .ifc t v => K (.ifc t v) | .nif => K .nif | .ref i g o n => K (.ref i g o n) | .p i g o => K (.p i g o)
/-- A list, its spine and each value brought to sight. -/
def forceL {α : Type} : List T → (List T → α) → α
  | [], K => K []
  | x :: xs, K => force x fun x => forceL xs fun xs => K (x :: xs)
def pushAll {α β : Type} : List α → List α → (List α → β) → β
  | [], h, K => K h
  | e :: d, h, K => pushAll d h fun h => K (e :: h)

def ofConst : Value → T
  | .bool x => .bl x | .int k n => .i k n | .float k x => .fl k x | .complex k x y => .cx k x y | .string ⟨⟨l⟩⟩ => .s l
  | .pointer none => .np | .slice none 0 0 => .nsl | .nilFunc => .nfn | .nilIface => .nif | _ => .top
def opdF (C : Ctx) (ef : Nat → T) : Operand → T
  | .tmp t => ef t | .const v => ofConst v | .global g => look C.glob g | .func f => .fn (.func f) [] []
def opd (C : Ctx) (e : Env) : Operand → T
  | .tmp t => look e t | .const v => ofConst v | .global g => look C.glob g | .func f => .fn (.func f) [] []

/-- What an operation yields: the value, the objects written, the objects looked at, what is to be shown. -/
structure AR where
  t : T
  d : Heap
  u : List Nat
  q : List Prop

def bt (l : List UInt8) (n : Int) : Int := ((l.getD n.toNat 0).toNat : Int)
def bitsI (op : BinOp) (k : IntKind) (x y : Int) : Int :=
  let a := BitVec.ofInt k.bits x
  let b := BitVec.ofInt k.bits y
  k.wrap (match op with
    | .and => (a &&& b).toNat | .or => (a ||| b).toNat | .xor => (a ^^^ b).toNat | _ => (a &&& ~~~b).toNat)
def ok (t : T) : Option AR := some ⟨t, [], [], []⟩
def okq (t : T) (q : Prop) : Option AR := some ⟨t, [], [], [q]⟩
/-- Is the reference the object's own, and the object a row? -/
def cur (hl : Nat → Option (Nat × Obj)) (id g : Nat) : Bool := match hl id with
  | some (g', .row _ _ _) => Nat.beq g g'
  | _ => false
/-- A value that leans on an object. -/
def oku (hl : Nat → Option (Nat × Obj)) (id g : Nat) (t : T) (q : List Prop) : Option AR := match cur hl id g with
  | true => some ⟨t, [], [id], q⟩
  | false => none
/-- A slice of an object whose elements have 'n' cells. -/
def okz (hl : Nat → Option (Nat × Obj)) (id g n : Nat) (t : T) (q : List Prop) : Option AR := match hl id with
  | some (g', .row _ esz _) => match Nat.beq g g', Nat.beq (szOf esz) n with
    | true, true => some ⟨t, [], [id], q⟩
    | _, _ => none
  | _ => none
def ikN : IntKind → Nat
  | .i8 => 0 | .i16 => 1 | .i32 => 2 | .i64 => 3 | .u8 => 4 | .u16 => 5 | .u32 => 6 | .u64 => 7
def fkN : FloatKind → Nat
  | .f32 => 0 | .f64 => 1

def binI (op : BinOp) (k : IntKind) (x y : Int) : Option AR := match op with
  | .add => ok (.i k (k.wrap (x + y))) | .sub => ok (.i k (k.wrap (x - y))) | .mul => ok (.i k (k.wrap (x * y)))
  | .quo => okq (.i k (k.wrap (x.tdiv y))) (y ≠ 0) | .rem => okq (.i k (x.tmod y)) (y ≠ 0)
  | .and => ok (.i k (bitsI .and k x y)) | .or => ok (.i k (bitsI .or k x y)) | .xor => ok (.i k (bitsI .xor k x y)) | .andNot => ok (.i k (bitsI .andNot k x y))
  | .eql => ok (.b (x == y)) | .neq => ok (.b (x != y))
  | .lss => ok (.b (decide (x < y))) | .leq => ok (.b (decide (x ≤ y))) | .gtr => ok (.b (decide (x > y))) | .geq => ok (.b (decide (x ≥ y)))
  | _ => none
def shiftI (op : BinOp) (k : IntKind) (x y : Int) : Option AR := match op with
  | .shl => okq (.i k (k.wrap (x * 2 ^ (min y.toNat k.bits)))) (0 ≤ y)
  | .shr => okq (.i k (x.fdiv (2 ^ (min y.toNat k.bits)))) (0 ≤ y)
  | _ => none
def binS (op : BinOp) (x y : List UInt8) : Option AR := match op with
  | .add => okq (.s (x ++ y)) (x.length + y.length ≤ 9223372036854775807)
  | .eql => ok (.b (x == y)) | .neq => ok (.b (!(x == y)))
  | .lss => ok (.b (Op.bytesLess x y)) | .leq => ok (.b (Op.bytesLess x y || x == y))
  | .gtr => ok (.b (!(Op.bytesLess x y || x == y))) | .geq => ok (.b (!Op.bytesLess x y))
  | _ => none
def binF (op : BinOp) (k : FloatKind) (x y : Nat) : Option AR := match op with
  | .eql => ok (.b (k.format.order x y == some .eq)) | .neq => ok (.b (k.format.order x y != some .eq))
  | .lss => ok (.b (k.format.order x y == some .lt)) | .leq => ok (.b (k.format.order x y == some .lt || k.format.order x y == some .eq))
  | .gtr => ok (.b (k.format.order x y == some .gt)) | .geq => ok (.b (k.format.order x y == some .gt || k.format.order x y == some .eq))
  | _ => none
/-- 'sq': what must be shown of an answer. -/
def bin (hl : Nat → Option (Nat × Obj)) (op : BinOp) (k : TK) (x y : T) (or : Or) (sq : Bool → Prop) : Option AR := match x, y with
  | .i k a, .i k' c => match op with
    | .shl => shiftI .shl k a c | .shr => shiftI .shr k a c
    | op => match Nat.beq (ikN k) (ikN k') with | true => binI op k a c | false => none
  | .s a, .s c => binS op a c
  | .fl k a, .fl k' c => match Nat.beq (fkN k) (fkN k') with
   | false => none
   | true => match op, or with
    | .add, .v [.fl _ r] => okq (.fl k r) (k.format.add a c = some r) | .sub, .v [.fl _ r] => okq (.fl k r) (k.format.sub a c = some r)
    | op, _ => binF op k a c
  | .cx k a1 a2, .cx k' c1 c2 => match Nat.beq (fkN k) (fkN k') with
   | false => none
   | true => match op, or with
    | .add, .v [.cx _ r1 r2] => okq (.cx k r1 r2) (k.format.add a1 c1 = some r1 ∧ k.format.add a2 c2 = some r2)
    | .sub, .v [.cx _ r1 r2] => okq (.cx k r1 r2) (k.format.sub a1 c1 = some r1 ∧ k.format.sub a2 c2 = some r2)
    | .eql, _ => ok (.b (k.format.order a1 c1 == some .eq && k.format.order a2 c2 == some .eq))
    | .neq, _ => ok (.b (!(k.format.order a1 c1 == some .eq && k.format.order a2 c2 == some .eq)))
    | _, _ => none
  | .bl a, .bl c => match k, op with | .bool, .eql => ok (.bl (a == c)) | .bool, .neq => ok (.bl (!(a == c))) | _, _ => none
  | .b a, .bl c => match k, op with | .bool, .eql => ok (.b (a == c)) | .bool, .neq => ok (.b (!(a == c))) | _, _ => none
  | .bl a, .b c => match k, op with | .bool, .eql => ok (.b (a == c)) | .bool, .neq => ok (.b (!(a == c))) | _, _ => none
  | .b a, .b c => match k, op with | .bool, .eql => ok (.b (a == c)) | .bool, .neq => ok (.b (!(a == c))) | _, _ => none
  | .np, .np => match k, op with | .ptr _, .eql => ok (.bl true) | .ptr _, .neq => ok (.bl false) | _, _ => none
  | .p id g _, .np => match k, op with | .ptr _, .eql => oku hl id g (.bl false) [] | .ptr _, .neq => oku hl id g (.bl true) [] | _, _ => none
  | .rp _ _, .np => match k, op with | .ptr _, .eql => ok (.bl false) | .ptr _, .neq => ok (.bl true) | _, _ => none
  | .nsl, .nsl => match k, op with | .slice _, .eql => ok (.bl true) | .slice _, .neq => ok (.bl false) | _, _ => none
  | _, _ => match or with
    | .v [.b z] => okq (.b z) (sq z)
    | .v [.bl z] => okq (.bl z) (sq z)
    | _ => none

/-! ### Operations -/
def tin (C : Ctx) (t : Nat) : TI := C.ty.get t
/-- The mark of a row of elements of a type. -/
def tsz (C : Ctx) (e : Nat) : Mk := .row (tin C e).size e
def cellsT : T → List T
  | .agg cs => cs
  | t => [t]
/-- A value that bears no reference to an object. -/
def plain : T → Bool
  | .ref .. | .p .. | .top | .tup _ | .fn .. | .ifc .. => false
  | .agg _ => false
  | _ => true
/-- A value of one cell. -/
def celly : T → Bool
  | .agg _ => false
  | .tup _ => false
  | .top => false
  | _ => true
def cellyL : List T → Bool
  | [] => true
  | t :: l => match celly t with | true => cellyL l | false => false
def plainL : List T → Bool
  | [] => true
  | t :: l => match plain t with | true => plainL l | false => false
/-- Each operand's value, brought to sight. -/
def evL {α : Type} (ev : Operand → T) : List Operand → (List T → α) → α
  | [], K => K []
  | x :: xs, K => force (ev x) fun v => evL ev xs fun vs => K (v :: vs)
def newG (hl : Nat → Option (Nat × Obj)) (d : Nat) : Nat := match hl d with | some (g, _) => g + 1 | none => 0
/-- A new object at the operation's own slot. -/
def mkObj (hl : Nat → Option (Nat × Obj)) (d : Option Nat) (o : Obj) (K : Nat → Nat → T) (q : List Prop) : Option AR := match d with
  | some d => match newG hl d with
    | g => some ⟨K d g, [(d, g, o)], [d], q⟩
  | none => none
/-- The cells 'xs' written from 'off' on. -/
def splice (cs : List T) (off : Nat) (xs : List T) : List T := match xs with
  | [x] => cs.set off x
  | xs => cs.take off ++ xs ++ cs.drop (off + xs.length)
/-- What is read at 'off', of size 'n'; 'lit': the cells are written out. -/
def readAt (cs : List T) (off n : Nat) (agg : Bool) (or : Or) (u : List Nat) : Option AR := match or with
  | .a => match agg with
    | true => match Nat.ble (off + n) cs.length with
      | true => forceL ((cs.drop off).take n) fun ys => some ⟨.agg ys, [], u, []⟩
      | false => none
    | false => match cs.drop off with
      | y :: _ => force y fun y => some ⟨y, [], u, []⟩
      | [] => none
  | .v ys => match Nat.beq ys.length n with
    | true => match agg, ys with
      | true, ys => some ⟨.agg ys, [], u, [(cs.drop off).take n = ys]⟩
      | false, [y] => some ⟨y, [], u, [cs[off]? = some y]⟩
      | _, _ => none
    | false => none
  | _ => none
def aLoad (C : Ctx) (hl : Nat → Option (Nat × Obj)) (t : Nat) (a : T) (or : Or) : Option AR := match Nat.beq (tin C t).size 0 with
 | true => none
 | false => match a with
  | .p id g off => match hl id with
    | some (g', .row _ _ cs) => match Nat.beq g g' with
      | true => readAt cs off (tin C t).size (tin C t).agg or [id]
      | false => none
    | _ => none
  | .rp cs off => readAt cs off (tin C t).size (tin C t).agg or []
  | _ => none
def aStore (C : Ctx) (hl : Nat → Option (Nat × Obj)) (t : Nat) (a x : T) : Option AR := match Nat.beq (tin C t).size 0 with
 | true => none
 | false => match a with
  | .p id g off => match hl id with
    | some (g', .row pu esz cs) => match Nat.beq g g' with
      | true => match Nat.beq (cellsT x).length (tin C t).size with
        | true => match pu with
          | true => match plainL (cellsT x) with
            | true => some ⟨.top, [(id, g, .row true esz (splice cs off (cellsT x)))], [id], [off + (tin C t).size ≤ cs.length]⟩
            | false => match cellyL (cellsT x), Nat.ble (off + (tin C t).size) cs.length with
              | true, true => forceL (splice cs off (cellsT x)) fun cs => some ⟨.top, [(id, g, .row false esz cs)], [id], []⟩
              | _, _ => none
          | false => match cellyL (cellsT x), Nat.ble (off + (tin C t).size) cs.length with
            | true, true => forceL (splice cs off (cellsT x)) fun cs => some ⟨.top, [(id, g, .row false esz cs)], [id], []⟩
            | _, _ => none
        | false => none
      | false => none
    | _ => none
  | _ => none
/-- Parts laid over zero cells. -/
def fillT (place : Nat → Option (Nat × Nat)) : List (Nat × T) → List T → Option (List T)
  | [], cs => some cs
  | (j, v) :: rest, cs => match place j with
    | some (off, n) => match Nat.beq (cellsT v).length n, cellyL (cellsT v) with
      | true, true => match Nat.ble (off + n) cs.length with
        | true => forceL (splice cs off (cellsT v)) fun cs => fillT place rest cs
        | false => none
      | _, _ => none
    | none => none
def evP {α : Type} (ev : Operand → T) : List (Nat × Operand) → (List (Nat × T) → α) → α
  | [], K => K []
  | (j, x) :: xs, K => force (ev x) fun v => evP ev xs fun vs => K ((j, v) :: vs)
def nth {α : Type} : List α → Nat → Option α
  | [], _ => none
  | x :: _, 0 => some x
  | _ :: l, n + 1 => nth l n
def aBuild (C : Ctx) (t : Nat) (ps : List (Nat × T)) : Option AR := match Nat.beq (tin C t).size 0 with
 | true => none
 | false => match (tin C t).k with
  | .struct fs => match fillT (fun j => match nth fs j with | some (off, n, _) => some (off, n) | none => none) ps (tin C t).zero with
    | some cs => forceL cs fun cs => ok (.agg cs)
    | none => none
  | .arr _ e => match fillT (fun j => some (j * (tin C e).size, (tin C e).size)) ps (tin C t).zero with
    | some cs => forceL cs fun cs => ok (.agg cs)
    | none => none
  | _ => none
def reps : Nat → List T → List T
  | 0, _ => []
  | n + 1, z => z ++ reps n z
def aBuildSlice (C : Ctx) (hl : Nat → Option (Nat × Obj)) (dst : Option Nat) (t len : Nat) (ps : List (Nat × T)) : Option AR := match (tin C t).k with
  | .slice e => match Nat.ble (len * (tin C e).size) 16777216, Nat.beq (len * (tin C e).size) 0 with
    | true, false => match fillT (fun j => some (j * (tin C e).size, (tin C e).size)) ps (reps len (tin C e).zero) with
      | some cs => forceL cs fun cs => mkObj hl dst (.row (plainL cs) (tsz C e) cs) (fun d g => .ref d g 0 len) []
      | none => none
    | _, _ => none
  | _ => none
/-- 'n' zero elements. -/
def zeros (n : Nat) (z : List T) : List T := match z with
  | [x] => List.replicate n x
  | z => reps n z
def aMakeSlice (C : Ctx) (hl : Nat → Option (Nat × Obj)) (dst : Option Nat) (t : Nat) (l c : T) : Option AR := match (tin C t).k, l, c with
  | .slice e, .i _ l, .i _ c => match plainL (tin C e).zero with
    | true => mkObj hl dst (.row true (tsz C e) (zeros l.toNat (tin C e).zero)) (fun d g => .ref d g 0 l.toNat) [0 ≤ l ∧ l ≤ c ∧ c * (tin C e).bytes ≤ 281474976710656 ∧ c ≤ 4611686018427387904]
    | false => none
  | _, _, _ => none
def intOr (v : Option T) (d : Int) : Option Int := match v with
  | none => some d | some (.i _ n) => some n | _ => none
def aSlice (C : Ctx) (hl : Nat → Option (Nat × Obj)) (t : Nat) (x : T) (lo hi : Option T) : Option AR := match x with
  | .s l => match (tin C t).k, lo, hi with
    | .str, none, none => ok (.s l)
    | .str, some (.i _ a), none => okq (.s (l.drop a.toNat)) (0 ≤ a ∧ a ≤ l.length)
    | .str, none, some (.i _ c) => okq (.s (l.take c.toNat)) (0 ≤ c ∧ c ≤ l.length)
    | .str, some (.i _ a), some (.i _ c) => okq (.s ((l.take c.toNat).drop a.toNat)) (0 ≤ a ∧ a ≤ c ∧ c ≤ l.length)
    | _, _, _ => none
  | .ref id g off n => match (tin C t).k, intOr lo 0, intOr hi n with
    | .slice e, some a, some c => okz hl id g (tin C e).size (.ref id g (off + a.toNat * (tin C e).size) (c.toNat - a.toNat)) [0 ≤ a ∧ a ≤ c ∧ c ≤ n]
    | _, _, _ => none
  | .sl n cs => match (tin C t).k, intOr lo 0, intOr hi n with
    | .slice e, some a, some c => okq (.sl (c.toNat - a.toNat) ((cs.take (c.toNat * (tin C e).size)).drop (a.toNat * (tin C e).size))) (0 ≤ a ∧ a ≤ c ∧ c ≤ n)
    | _, _, _ => none
  | .nsl => match (tin C t).k, intOr lo 0, intOr hi 0 with
    | .slice _, some a, some c => okq .nsl (a = 0 ∧ c = 0)
    | _, _, _ => none
  | .p id g off => match (tin C t).k, intOr lo 0 with
    | .arr n e, some a => match intOr hi n with
      | some c => match hl id with
        | some (g', .row _ esz cs) => match Nat.beq g g', Nat.beq (szOf esz) (tin C e).size with
          | true, true => some ⟨.ref id g (off + a.toNat * (tin C e).size) (c.toNat - a.toNat), [], [id], [0 ≤ a ∧ a ≤ c ∧ c ≤ n ∧ off + n * (tin C e).size ≤ cs.length]⟩
          | _, _ => none
        | _ => none
      | none => none
    | _, _ => none
  | _ => none
def aFieldAddr (C : Ctx) (hl : Nat → Option (Nat × Obj)) (t : Nat) (x : T) (f : Nat) : Option AR := match (tin C t).k with
  | .struct fs => match nth fs f with
    | some (off, n + 1, _) => match x with
      | .p id g o => oku hl id g (.p id g (o + off)) []
      | .rp cs o => ok (.rp cs (o + off))
      | _ => none
    | _ => none
  | _ => none
def aField (C : Ctx) (t : Nat) (x : T) (f : Nat) : Option AR := match (tin C t).k, x with
  | .struct fs, .agg cs => match nth fs f with
    | some (off, n + 1, agg) => readAt cs off (n + 1) agg .a []
    | _ => none
  | _, _ => none
def aIndexAddr (C : Ctx) (hl : Nat → Option (Nat × Obj)) (t : Nat) (x i : T) : Option AR := match (tin C t).k, x, i with
  | .arr n e, .p id g off, .i _ j => oku hl id g (.p id g (off + j.toNat * (tin C e).size)) [0 ≤ j ∧ j < n]
  | .arr n e, .rp cs off, .i _ j => okq (.rp cs (off + j.toNat * (tin C e).size)) (0 ≤ j ∧ j < n)
  | .slice e, .ref id g off n, .i _ j => oku hl id g (.p id g (off + j.toNat * (tin C e).size)) [0 ≤ j ∧ j < n]
  | .slice e, .sl n cs, .i _ j => okq (.rp cs (j.toNat * (tin C e).size)) (0 ≤ j ∧ j < n)
  | _, _, _ => none
def addq (q : Prop) : Option AR → Option AR
  | some ⟨t, d, u, qs⟩ => some ⟨t, d, u, q :: qs⟩
  | none => none
def aIndex (C : Ctx) (t : Nat) (x i : T) (or : Or) : Option AR := match (tin C t).k, x, i with
  | .str, .s l, .i _ j => okq (.i .u8 (bt l j)) (0 ≤ j ∧ j < l.length)
  | .arr n e, .agg cs, .i _ j => match Nat.beq (tin C e).size 0 with | true => none | false => addq (0 ≤ j ∧ j < n) (readAt cs (j.toNat * (tin C e).size) (tin C e).size (tin C e).agg or [])
  | _, _, _ => none
def bytesT (l : List UInt8) : List T := l.map fun c => .i .u8 (c.toNat : Int)
/-- What a slice holds: how many elements, its cells, and the object looked at. -/
def cellsOf (hl : Nat → Option (Nat × Obj)) (x : T) : Option (Nat × List T × List Nat) := match x with
  | .ref id g off n => match hl id with
    | some (g', .row _ esz cs) => match Nat.beq g g' with
      | true => some (n, (cs.drop off).take (n * szOf esz), [id])
      | false => none
    | _ => none
  | .sl n cs => some (n, cs, [])
  | .nsl => some (0, [], [])
  | _ => none
def known : TK → Bool
  | .other => false
  | _ => true
def aConvert (C : Ctx) (hl : Nat → Option (Nat × Obj)) (dst : Option Nat) (s d : Nat) (x : T) (or : Or) : Option AR := match known (tin C s).k with
 | false => none
 | true => match (tin C d).k, x with
  | .int k, .i _ n => ok (.i k (k.wrap n))
  | .fl k, .i _ n => ok (.fl k (k.nearest n))
  | .int k, .fl f b => match or with
    | .v [.i _ n] => okq (.i k n) ((f.decode b).toInt .zero = some n ∧ k.min ≤ n ∧ n ≤ k.max)
    | _ => none
  | .str, .s l => ok (.s l)
  | .slice e, .s l => match (tin C e).k with
    | .int .u8 => mkObj hl dst (.row true (.row 1 e) (bytesT l)) (fun d g => .ref d g 0 l.length) []
    | _ => none
  | .str, x => match (tin C s).k, or with
    | .slice e, .l y => match (tin C e).k with
      | .int .u8 => match cellsOf hl x with
        | some (n, cs, u) => some ⟨.s y, [], u, [cs = bytesT y ∧ n = y.length]⟩
        | none => none
      | _ => none
    | _, _ => none
  | _, _ => none
def aUn (op : UnOp) (x : T) : Option AR := match op, x with
  | .neg, .i k n => ok (.i k (k.wrap (0 - n)))
  | .xor, .i k n => ok (.i k (bitsI .xor k (if k.signed then -1 else k.max) n))
  | .not, .b x => ok (.b (!x))
  | .not, .bl x => ok (.bl (!x))
  | _, _ => none
def aLen (hl : Nat → Option (Nat × Obj)) (x : T) : Option AR := match x with
  | .ref id g _ n => oku hl id g (.i .i64 n) []
  | .sl n _ => ok (.i .i64 n)
  | .nsl => ok (.i .i64 0)
  | _ => none
def srcOf (hl : Nat → Option (Nat × Obj)) (s : T) : Option (Nat × List T × List Nat) := match s with
  | .s l => some (l.length, bytesT l, [])
  | s => cellsOf hl s
/-- The mark behind an append: the type is told still if it is the very one. -/
def amark (e : Nat) (esz : Mk) : Mk := match esz with
  | .sz n => .sz n
  | .row n e' => match Nat.beq e' e with | true => .row n e' | false => .sz n
  | .cell _ => .sz 0
/-- 'append(dst, src...)'. -/
def aAppend (C : Ctx) (hl : Nat → Option (Nat × Obj)) (dst : Option Nat) (t : Nat) (d s : T) : Option AR := match (tin C t).k with
  | .slice e =>
    match srcOf hl s with
    | none => none
    | some (m, xs, u) => match d with
      | .ref id g 0 n => match hl id with
        | some (g', .row pu esz cs) => match Nat.beq g g', Nat.beq (szOf esz) (tin C e).size, u.contains id with
          | true, true, false => some ⟨.ref id (g + 1) 0 (n + m), [(id, g + 1, .row pu (amark e esz) (cs ++ xs))], id :: u,
              [n * szOf esz = cs.length ∧ m * szOf esz = xs.length ∧ (n + m) * (tin C e).bytes ≤ 140737488355328 ∧ n + m ≤ 140737488355328 ∧ (if pu then plainL xs else cellyL xs) = true]⟩
          | _, _, _ => none
        | _ => none
      | .nsl => match dst with
        | some r => match newG hl r with
          | g => some ⟨.ref r g 0 m, [(r, g, .row (plainL xs) (tsz C e) xs)], r :: u,
              [0 < m ∧ m * (tin C e).size = xs.length ∧ m * (tin C e).bytes ≤ 140737488355328 ∧ m ≤ 140737488355328]⟩
        | none => none
      | _ => none
  | _ => none
/-- 'copy(dst, src)', of elements of one cell. -/
def aCopy (C : Ctx) (hl : Nat → Option (Nat × Obj)) (t : Nat) (d s : T) : Option AR := match (tin C t).k with
  | .slice e =>
    match srcOf hl s with
    | none => none
    | some (m, xs, u) => match d with
      | .ref id g off n => match hl id with
        | some (g', .row true esz cs) => match Nat.beq g g', Nat.beq (szOf esz) 1, Nat.beq (tin C e).size 1 with
          | true, true, true => some ⟨.i .i64 (Nat.min m n : Nat), [(id, g, .row true esz (cs.take off ++ xs.take (Nat.min m n) ++ cs.drop (off + Nat.min m n)))], id :: u, [off + n ≤ cs.length ∧ m = xs.length ∧ plainL xs = true]⟩
          | _, _, _ => none
        | _ => none
      | _ => none
  | _ => none
def minI (x y : Int) : Int := if y < x then y else x
def maxI (x y : Int) : Int := if x < y then y else x
def foldI (f : Int → Int → Int) (k : IntKind) : List T → Int → Option Int
  | [], x => some x
  | .i k' y :: l, x => match Nat.beq (ikN k) (ikN k') with | true => foldI f k l (f x y) | false => none
  | _ :: _, _ => none
def aBuiltin (C : Ctx) (hl : Nat → Option (Nat × Obj)) (dst : Option Nat) (b : Builtin) (ats : List Nat) (args : List T) : Option AR := match b, ats, args with
  | .len, t :: _, [x] => match (tin C t).k with
    | .arr n _ => ok (.i .i64 n)
    | .str => match x with | .s l => ok (.i .i64 l.length) | _ => none
    | .slice _ => aLen hl x
    | .ptr e => match (tin C e).k with | .arr n _ => ok (.i .i64 n) | _ => none
    | _ => none
  | .append, [t, t2], [d, s] => match (tin C t2).k with
    | .slice _ => aAppend C hl dst t d s
    | .str => aAppend C hl dst t d s
    | _ => none
  | .copy, t :: _, [d, s] => aCopy C hl t d s
  | .min, _, .i k x :: l => match foldI minI k l x with | some r => ok (.i k r) | none => none
  | .max, _, .i k x :: l => match foldI maxI k l x with | some r => ok (.i k r) | none => none
  | .complex, _, [.fl k x, .fl k' y] => match Nat.beq (fkN k) (fkN k') with | true => ok (.cx k x y) | false => none
  | .real, _, [.cx k x _] => ok (.fl k x)
  | .imag, _, [.cx k _ y] => ok (.fl k y)
  | _, _, _ => none
end Go.Proofs.YtipomdmlkkifcaaGreatDoor.Vm
/- The symbolic machine, part 2: what abstract values and objects say of Go's memory; a function's contract; the function 'run'. -/
namespace Go.Proofs.YtipomdmlkkifcaaGreatDoor.Vm
open Go

/-- What is known of memory that is never written again. -/
abbrev Mem := Addr → Option Value
/-- The values 'vs' lie from the address 'a' on. -/
def Lies (I : Mem) (a : Option Addr) (off : Nat) (vs : List Value) : Prop := match a with
  | none => vs = [] ∧ off = 0
  | some a => a.spot = none ∧ ∀ j v, vs[j]? = some v → I ⟨a.block, a.off + j, none⟩ = some v

mutual
/-- A value without references to objects. -/
def PV (I : Mem) : T → Value → Prop
  | .top, _ => False
  | .b x, v => v = .bool x
  | .bl x, v => v = .bool x
  | .i k n, v => v = .int k n
  | .fl k x, v => v = .float k x
  | .cx k x y, v => v = .complex k x y
  | .s l, v => v = .string ⟨⟨l⟩⟩
  | .agg cs, v => ∃ vs, v = .agg ⟨vs⟩ ∧ PVs I cs vs
  | .tup cs, v => ∃ vs, v = .tuple ⟨vs⟩ ∧ PVs I cs vs
  | .sl n cs, v => ∃ a cap vs, v = .slice a n cap ∧ (n ≤ cap ∧ (a = none → n = 0)) ∧ PVs I cs vs ∧ Lies I a 0 vs
  | .nsl, v => v = .slice none 0 0
  | .rp cs off, v => ∃ a b vs, v = .pointer (some ⟨a, b + off, none⟩) ∧ PVs I cs vs ∧ Lies I (some ⟨a, b, none⟩) 0 vs
  | .np, v => v = .pointer none
  | .fn f x c, v => ∃ xs cs, v = .func f ⟨xs⟩ ⟨cs⟩ ∧ PVs I x xs ∧ PVs I c cs
  | .nfn, v => v = .nilFunc
  | .ifc t x, v => ∃ y, v = .iface t y ∧ PV I x y
  | .nif, v => v = .nilIface
  | .ref .., _ => False
  | .p .., _ => False
def PVs (I : Mem) : List T → List Value → Prop
  | [], vs => vs = []
  | t :: ts, vs => ∃ v r, vs = v :: r ∧ PV I t v ∧ PVs I ts r
end

/-- Where the objects lie: block and number of cells. -/
abbrev Place := Nat → Nat × Nat
abbrev Objs := Nat → Option (Nat × Obj)
mutual
/-- Any value: references are right as long as their generation is the object's. -/
def VR (ρ : Place) (h : Objs) (I : Mem) : T → Value → Prop
  | .top, _ => True
  | .agg cs, v => ∃ vs, v = .agg ⟨vs⟩ ∧ VRs ρ h I cs vs
  | .tup cs, v => ∃ vs, v = .tuple ⟨vs⟩ ∧ VRs ρ h I cs vs
  | .fn f x c, v => ∃ xs cs, v = .func f ⟨xs⟩ ⟨cs⟩ ∧ VRs ρ h I x xs ∧ VRs ρ h I c cs
  | .ifc t x, v => ∃ y, v = .iface t y ∧ VR ρ h I x y
  | .ref id g off n, v => v.oneCell' = true ∧ ∃ g' o, h id = some (g', o) ∧ g ≤ g' ∧ (g = g' → ∀ pu esz cs, o = .row pu esz cs →
      ∃ b cap, v = .slice (some ⟨(ρ id).1, b, none⟩) n cap ∧ (b = off ∨ cap = 0) ∧ b + cap * szOf esz ≤ (ρ id).2 ∧ n ≤ cap)
  | .p id g off, v => v.oneCell' = true ∧ ∃ g' o, h id = some (g', o) ∧ g ≤ g' ∧ (g = g' → o ≠ .dead → v = .pointer (some ⟨(ρ id).1, off, none⟩))
  | .b x, v => v = .bool x
  | .bl x, v => v = .bool x
  | .i k n, v => v = .int k n
  | .fl k x, v => v = .float k x
  | .cx k x y, v => v = .complex k x y
  | .s l, v => v = .string ⟨⟨l⟩⟩
  | .sl n cs, v => PV I (.sl n cs) v
  | .nsl, v => v = .slice none 0 0
  | .rp cs off, v => PV I (.rp cs off) v
  | .np, v => v = .pointer none
  | .nfn, v => v = .nilFunc
  | .nif, v => v = .nilIface
def VRs (ρ : Place) (h : Objs) (I : Mem) : List T → List Value → Prop
  | [], vs => vs = []
  | t :: ts, vs => ∃ v r, vs = v :: r ∧ VR ρ h I t v ∧ VRs ρ h I ts r
end

def Obj.live : Obj → Prop
  | .dead => False
  | _ => True
/-- The range of cells that may not be written misses the first 'n'. -/
def Thawed (fz : Nat × Nat) (n : Nat) : Prop := ∀ o, o < n → ¬ (fz.1 ≤ o ∧ o < fz.2)
/-- What an object's mark tells of its block: the type, and, of an object of one value, the size. -/
def Fit (esz : Mk) (n m : Nat) (e : TypeId) (fz : Nat × Nat) : Prop := Thawed fz m ∧ (∀ t, esz = .cell t → e = t ∧ m = n) ∧ (∀ t s, esz = .row s t → e = t)
def OR (ρ : Place) (h : Objs) (I : Mem) (w : World) (id : Nat) : Obj → Prop
  | .dead => True
  | .row pu esz cs => ∃ c e fz, w.heap[(ρ id).1]? = some (.cells c e fz) ∧ c.size = (ρ id).2 ∧ Fit esz cs.length c.size e fz ∧
      (if pu then PVs I cs (c.toList.take cs.length) else VRs ρ h I cs (c.toList.take cs.length))
  | .it l pos => w.heap[(ρ id).1]? = some (.stringIter ⟨⟨l⟩⟩ pos)
/-- The abstract heap fits the world. -/
structure HS (ρ : Place) (h : Objs) (I : Mem) (w : World) : Prop where
  mem : ∀ a v, I a = some v → w.cell? a = some v
  obj : ∀ id g o, h id = some (g, o) → OR ρ h I w id o
  inj : ∀ id id' g o g' o', h id = some (g, o) → h id' = some (g', o') → o.live → o'.live → id ≠ id' → (ρ id).1 ≠ (ρ id').1
  dis : ∀ a v id g o, I a = some v → h id = some (g, o) → o.live → a.block ≠ (ρ id).1
/-- What has become of the world since a call began: of what was there only the blocks 'own' may have turned; what is known for good only grew, by new memory or by those. -/
structure Ext (w0 : World) (own : Nat → Prop) (I0 : Mem) (ρ : Place) (h : Objs) (I : Mem) (w : World) : Prop where
  os : w.os = w0.os
  tape : w.tape = w0.tape
  output : w.output = w0.output
  size : w0.heap.size ≤ w.heap.size
  blk : ∀ b, b < w0.heap.size → ¬ own b → w.heap[b]? = w0.heap[b]?
  sub : ∀ a v, I0 a = some v → I a = some v
  new : ∀ a v, I a = some v → I0 a = some v ∨ w0.heap.size ≤ a.block ∨ own a.block
  own : ∀ id g o, h id = some (g, o) → o.live → w0.heap.size ≤ (ρ id).1 ∨ own (ρ id).1
/-- The blocks of the objects that a call is given. -/
def owned (ρ : Place) (h : Objs) (b : Nat) : Prop := ∃ id g o, h id = some (g, o) ∧ o.live ∧ (ρ id).1 = b
/-- A function that has a body, and is none of those that the machine carries out by name. -/
def Callable (P : Program) (f : FuncId) : Prop := ∃ fn, P.funcs[f]? = some fn ∧ (fn.name == "runtime.NumGoroutine") = false ∧ fn.body.isNone = false
/-- The objects go on: each keeps its place as long as its generation stays. -/
def HLe (ρ : Place) (h : Objs) (ρ' : Place) (h' : Objs) : Prop := ∀ id g o, h id = some (g, o) → ∃ g' o', h' id = some (g', o') ∧ g ≤ g' ∧
  (g = g' → o' ≠ .dead → ρ' id = ρ id ∧ o ≠ .dead ∧ ∀ pu esz cs, o' = .row pu esz cs → ∃ pu' esz' cs', o = .row pu' esz' cs' ∧ szOf esz' = szOf esz)
/-- The package-level variables that are looked at hold what the table says. -/
def GlobOk (C : Ctx) (I : Mem) : Prop := ∀ g, look C.glob g = .top ∨ PV I (look C.glob g) (.pointer (some ⟨g, 0, none⟩))
/-- A function's contract: called with these values, over these objects, it returns a value of which 'post' holds, with the objects that it leaves. -/
def HR (P : Program) (C : Ctx) (f : FuncId) (args : List T) (hin : Heap) (post : T → Heap → Prop) : Prop :=
  Callable P f ∧ ∀ ρ I w vals, GlobOk C I → HS ρ (hlook hin) I w → VRs ρ (hlook hin) I args vals →
    Calls P f ⟨vals⟩ w fun e w' => ∃ v r ρ' hout I', e = .returned v ∧ VR ρ' (hlook hout) I' r v ∧ HS ρ' (hlook hout) I' w' ∧
      Ext w (owned ρ (hlook hin)) I ρ' (hlook hout) I' w' ∧ HLe ρ (hlook hin) ρ' (hlook hout) ∧ post r hout
/-- The contract of a function whose result is known. -/
def Ret (P : Program) (C : Ctx) (f : FuncId) (args : List T) (r : T) : Prop := HR P C f args [] fun r' h' => r' = r ∧ h' = []
def HRet (P : Program) (C : Ctx) (f : FuncId) (args : List T) (hin : Heap) (r : T) (hout : Heap) : Prop := HR P C f args hin fun r' h' => r' = r ∧ h' = hout

/-! ### Operations that take an answer; calls -/
def restrict (hl : Objs) : List Nat → Heap
  | [] => []
  | id :: l => match hl id with
    | some (g, o) => (id, g, o) :: restrict hl l
    | none => restrict hl l
def memb (n : Nat) : List Nat → Bool
  | [] => false
  | m :: l => match Nat.beq m n with | true => true | false => memb n l
/-- What a call leaves may take the place of what was there. -/
def fits (hl : Objs) (use : List Nat) : Heap → Bool
  | [] => true
  | (id, g, _) :: l => match hl id with
    | none => fits hl use l
    | some (g0, _) => match memb id use with
      | true => match Nat.ble g0 g with | true => fits hl use l | false => false
      | false => match Nat.blt g0 g with | true => fits hl use l | false => false
def has (id : Nat) : Heap → Bool
  | [] => false
  | (m, _) :: l => match Nat.beq m id with | true => true | false => has id l
def covers (out : Heap) : List Nat → Bool
  | [] => true
  | id :: l => match has id out with | true => covers out l | false => false
def ids : Heap → List Nat
  | [] => []
  | (id, _) :: l => id :: ids l
/-- All objects that a value names are among these. -/
def okIds (use : List Nat) : T → Bool
  | .ref id _ _ _ => memb id use
  | .p id _ _ => memb id use
  | .agg cs => okIdsL use cs
  | .tup cs => okIdsL use cs
  | .fn _ x c => match okIdsL use x with | true => okIdsL use c | false => false
  | .ifc _ v => okIds use v
  | _ => true
where
  okIdsL (use : List Nat) : List T → Bool
  | [] => true
  | t :: ts => match okIds use t with | true => okIdsL use ts | false => false
def closedH (use : List Nat) : Heap → Bool
  | [] => true
  | (_, _, .row false _ cs) :: l => match okIds.okIdsL use cs with | true => closedH use l | false => false
  | _ :: l => closedH use l
def apps {α : Type} : List T → List T → (List T → α) → α
  | [], l, K => K l
  | x :: xs, l, K => apps xs l fun l => K (x :: l)
def aCall (P : Program) (C : Ctx) (hl : Objs) (f : T) (args : List T) (or : Or) : Option AR := match f, or with
  | .fn (.func f) x c, .c r use out => apps args c fun ac => apps x ac fun all =>
    match fits hl use out, covers out use, okIds.okIdsL use all, closedH use (restrict hl use) with
    | true, true, true, true => apps' use (ids out) fun u => some ⟨r, out, u, [HRet P C f all (restrict hl use) r out]⟩
    | _, _, _, _ => none
  | _, _ => none
where
  apps' {α : Type} : List Nat → List Nat → (List Nat → α) → α
  | [], l, K => K l
  | x :: xs, l, K => apps' xs l fun l => K (x :: l)
def aPick (c x y : T) (or : Or) : Option AR := match c with
  | .bl true => ok x
  | .bl false => ok y
  | .b z => match or with
    | .t => okq x (z = true)
    | .f => okq y (z = false)
    | _ => none
  | _ => none
def aNext (hl : Objs) (x : T) (or : Or) : Option AR := match x with
  | .p id g 0 => match hl id with
    | some (g', .it l pos) => match Nat.beq g g', or with
      | true, .t => some ⟨.tup [.bl true, .i .i64 pos, .i .i32 (Utf8.decode ⟨⟨l⟩⟩ pos).1], [(id, g, .it l (pos + (Utf8.decode ⟨⟨l⟩⟩ pos).2))], [id], [decide (pos < l.length) = true]⟩
      | true, .f => some ⟨.tup [.bl false], [], [id], [decide (pos < l.length) = false]⟩
      | _, _ => none
    | _ => none
  | _ => none
/-- A comparison comes to 'z', whatever values these are. -/
def Says (P : Program) (op : BinOp) (t : TypeId) (X Y : Operand) (x y : T) (z : Bool) : Prop := ∀ (ρ : Place) (hf : Objs) (I : Mem) (vx vy : Value) (w : World), VR ρ hf I x vx → VR ρ hf I y vy →
  (do eqGuard op t X Y vx vy; binOp op t vx vy).run P w = .ok (.bool z) w
def isArr (C : Ctx) (t : Nat) : Bool := match (tin C t).k with | .arr .. => true | _ => false
def eszOf (C : Ctx) (t : Nat) : Mk := match (tin C t).k with | .arr _ e => .sz (tin C e).size | _ => .cell t
def both (x y : Bool) : Bool := match x with | true => y | false => false
def aop (P : Program) (C : Ctx) (o : Oper) (ev : Operand → T) (hl : Objs) (or : Or) : Option AR := match o.op with
  | .move x => force (ev x) ok
  | .assign x => force (ev x) ok
  | .pick c x y => force (ev c) fun c => force (ev x) fun x => force (ev y) fun y => aPick c x y or
  | .alloc e => match Nat.beq (tin C e).size 0 with
    | true => none
    | false => forceL (tin C e).zero fun cs => mkObj hl o.dst (.row (both (isArr C e) (plainL cs)) (eszOf C e) cs) (fun d g => .p d g 0) []
  | .box e x => force (ev x) fun x => match Nat.beq (cellsT x).length (tin C e).size, cellyL (cellsT x) with
    | true, true => mkObj hl o.dst (.row (both (isArr C e) (plainL (cellsT x))) (eszOf C e) (cellsT x)) (fun d g => .p d g 0) []
    | _, _ => none
  | .build t ps => evP ev ps.toList fun ps => aBuild C t ps
  | .buildSlice t n ps => evP ev ps.toList fun ps => aBuildSlice C hl o.dst t n ps
  | .load t x => force (ev x) fun x => aLoad C hl t x or
  | .store t x y => force (ev x) fun x => force (ev y) fun y => aStore C hl t x y
  | .nilCheck x => force (ev x) fun x => match x with
    | .p id g o => oku hl id g (.p id g o) [] | .rp cs o => ok (.rp cs o) | .fn (.func f) a c => ok (.fn (.func f) a c) | _ => none
  | .binOp op t X Y _ => force (ev X) fun x => force (ev Y) fun y => bin hl op (tin C t).k x y or (Says P op t X Y x y)
  | .unOp op _ x => force (ev x) fun x => aUn op x
  | .convert s d x => force (ev x) fun x => aConvert C hl o.dst s d x or
  | .makeInterface t x => force (ev x) fun x => match (tin C t).k with
    | .other => none
    | _ => ok (.ifc t x)
  | .makeFunc f a c => evL ev a.toList fun a => evL ev c.toList fun c => ok (.fn f a c)
  | .makeSlice t l c => force (ev l) fun l => force (ev c) fun c => aMakeSlice C hl o.dst t l c
  | .slice t x lo hi none => force (ev x) fun x => match lo, hi with
    | none, none => aSlice C hl t x none none
    | some a, none => force (ev a) fun a => aSlice C hl t x (some a) none
    | none, some b => force (ev b) fun b => aSlice C hl t x none (some b)
    | some a, some b => force (ev a) fun a => force (ev b) fun b => aSlice C hl t x (some a) (some b)
  | .fieldAddr t x f => force (ev x) fun x => aFieldAddr C hl t x f
  | .field t x f => force (ev x) fun x => aField C t x f
  | .indexAddr t x i => force (ev x) fun x => force (ev i) fun i => aIndexAddr C hl t x i
  | .index t x i => force (ev x) fun x => force (ev i) fun i => aIndex C t x i or
  | .range t x => force (ev x) fun x => match (tin C t).k, x with
    | .str, .s l => mkObj hl o.dst (.it l 0) (fun d g => .p d g 0) []
    | _, _ => none
  | .next x true => force (ev x) fun x => aNext hl x or
  | .extract x n => force (ev x) fun x => match x with
    | .tup cs => match nth cs n with | some y => force y ok | none => none
    | _ => none
  | .call ⟨.builtin b, args, ats⟩ => evL ev args.toList fun args => aBuiltin C hl o.dst b ats.toList args
  | .call ⟨.value f, args, _⟩ => force (ev f) fun f => evL ev args.toList fun args => aCall P C hl f args or
  | _ => none
/-- Does the operation take an answer? -/
def asksOr (C : Ctx) (o : Oper) (ev : Operand → T) (hl : Objs) : Bool := match o.op with
  | .pick c _ _ => match ev c with | .b _ => true | _ => false
  | .load _ x => match ev x with
    | .p id _ _ => match hl id with | some (_, .row pu _ _) => pu | _ => false
    | .rp .. => true
    | _ => false
  | .index t _ _ => isArr C t
  | .binOp op _ x y _ => match ev x with
    | .fl .. => match op with | .add => true | .sub => true | _ => false
    | .cx .. => match op with | .add => true | .sub => true | _ => false
    | .agg _ => true
    | .ifc .. => true
    | .nif => true
    | .p .. => match ev y with | .p .. => true | .rp .. => true | _ => false
    | _ => false
  | .convert _ d x => match (tin C d).k, ev x with
    | .int _, .fl .. => true
    | .str, .s _ => false
    | .str, _ => true
    | _, _ => false
  | .next .. => true
  | .call ⟨.value _, _, _⟩ => true
  | _ => false

/-! ### Regions -/
/-- What an operation of a region has done: for the hold of its order. -/
structure Rec where
  u : List Nat
  d : List Nat
def meet : List Nat → List Nat → Bool
  | [], _ => false
  | x :: l, m => match memb x m with | true => true | false => meet l m
/-- Two operations' objects are apart. -/
def apartH (x y : Rec) : Bool := match meet x.d y.u with
  | true => false
  | false => match meet x.d y.d with
    | true => false
    | false => match meet y.d x.u with | true => false | false => true
/-- Operation 'i' against all that stand ahead of it ('j', .. in falling order). -/
def chkOne (b : Nat) (r : Rec) : List Rec → Nat → Bool
  | [], _ => true
  | s :: l, n => match apartH s r with
    | true => chkOne b r l (n - 1)
    | false => match Nat.testBit b n with | true => chkOne b r l (n - 1) | false => false
/-- The records in falling order. -/
def chkAll (b : List Nat) : List Rec → Bool
  | [] => true
  | r :: l => match nth b l.length with
    | some m => match chkOne m r l (l.length - 1) with | true => chkAll b l | false => false
    | none => false
/-- All of them apart. -/
def apartOne (r : Rec) : List Rec → Bool
  | [] => true
  | s :: l => match apartH s r with | true => apartOne r l | false => false
def apartAll : List Rec → Bool
  | [] => true
  | r :: l => match apartOne r l with | true => apartAll l | false => false
/-- Which operations stand ahead of which, by bits. -/
def bitsOf (acc : List Nat) : List Edge → Nat → Nat
  | [], s => s
  | e :: l, s => bitsOf acc l (match Region.binds .any e with
    | true => s ||| 2 ^ e.on ||| (nth acc e.on).getD 0
    | false => s)
def befores : List Oper → List Nat → List Nat
  | [], acc => acc
  | o :: l, acc => befores l (acc ++ [bitsOf acc o.after.toList 0])
def edgesB (i : Nat) : List Edge → Bool
  | [] => true
  | e :: l => match Region.binds .any e with
    | true => match Nat.blt e.on i with | true => edgesB i l | false => false
    | false => edgesB i l
def pairsB (ops : Array Oper) (o : Oper) (b : Nat) : List Oper → Nat → Bool
  | [], _ => true
  | x :: l, j => match Oper.apart ops x o with
    | true => pairsB ops o b l (j + 1)
    | false => match Nat.testBit b j with | true => pairsB ops o b l (j + 1) | false => false
/-- A region whose order is drawn: what names one variable is ordered. -/
def rgOkFrom (ops : Array Oper) (bs : List Nat) (pre : List Oper) : List Oper → Nat → Bool
  | [], _ => true
  | o :: l, i => match edgesB i o.after.toList, pairsB ops o ((nth bs i).getD 0) pre 0 with
    | true, true => rgOkFrom ops bs (pre ++ [o]) l (i + 1)
    | _, _ => false
def rgOk (ops : Array Oper) : Bool := both (Region.noSelect ops) (rgOkFrom ops (befores ops.toList []) [] ops.toList 0)
def cOk : Code → Bool
  | .region _ ops true => rgOk ops
  | .seq x y => both (cOk x) (cOk y)
  | .cond _ x y => both (cOk x) (cOk y)
  | .block _ x => cOk x
  | .loop x => cOk x
  | .rangeFunc _ _ x y => both (cOk x) (cOk y)
  | .scope x => cOk x
  | _ => true
inductive GD where
  | yes | no
  | sym (d : Nat) (x : Bool) (want : Bool)
  | bad
def beqB : Bool → Bool → Bool
  | true, y => y
  | false, true => false
  | false, false => true
def guardOf (all : List Oper) (o : Oper) (e : Env) : GD := match o.guard with
  | none => .yes
  | some (j, want) => match nth all j with
    | some oj => match oj.dst with
      | some d => match look e d with
        | .bl g => match beqB g want with | true => .yes | false => .no
        | .b x => .sym d x want
        | .tup [] => .no
        | _ => .bad
      | none => .bad
    | none => .bad
abbrev Known := List (Nat × Bool)
def klook : Known → Nat → Option Bool
  | [], _ => none
  | (m, g) :: l, n => match Nat.beq m n with | true => some g | false => klook l n
def kdel (d : Nat) : Known → Known
  | [] => []
  | (m, g) :: l => match Nat.beq m d with | true => kdel d l | false => (m, g) :: kdel d l
def orOf (C : Ctx) (o : Oper) (ev : Operand → T) (hl : Objs) (kn : Known) (ors : List Or) : Option (Or × List Or) := match asksOr C o ev hl with
  | false => some (.a, ors)
  | true => match o.op with
    | .pick (.tmp d) _ _ => match klook kn d, ors with
      | some true, ors => some (.t, ors)
      | some false, ors => some (.f, ors)
      | none, x :: ors => some (x, ors)
      | none, [] => none
    | _ => match ors with
      | x :: ors => some (x, ors)
      | [] => none
abbrev Ds := List (FuncId × List T × List T)
inductive Item where
  | code (c : Code)
  | blk (id : Nat)
inductive Res where
  | cut (k : List Item) (e : Env) (h : Heap) (ds : Ds) (obs : List Prop)
  | fin (x : Exit) (e : Env) (h : Heap) (ds : Ds) (obs : List Prop)
  | bad
/-- The rest of a region's operations, in the order of the text. 'r0': what is told where an answer lacks. -/
def rops (P : Program) (C : Ctx) (nt : Nat) (all : List Oper) (r0 : Res) : List Oper → Env → Heap → Known → List Or → List Prop → List Rec → (Env → Heap → List Or → List Prop → List Rec → Res) → Res
  | [], e, h, _, ors, obs, rs, K => K e h ors obs rs
  | o :: rest, e, h, kn, ors, obs, rs, K =>
    let skip (kn : Known) (ors : List Or) (obs : List Prop) : Res := match o.dst with
      | some d => match Nat.blt d nt with
        | true => rops P C nt all r0 rest ((d, .tup []) :: e) h (kdel d kn) ors obs (⟨[], []⟩ :: rs) K
        | false => .bad
      | none => rops P C nt all r0 rest e h kn ors obs (⟨[], []⟩ :: rs) K
    let exec (kn : Known) (ors : List Or) (obs : List Prop) : Res := match orOf C o (opd C e) (hlook h) kn ors with
      | none => r0
      | some (or, ors) => match aop P C o (opd C e) (hlook h) or with
        | none => .bad
        | some ⟨t, d, u, q⟩ => pushAll q obs fun obs => pushAll d h fun h' => match o.dst with
          | some s => match Nat.blt s nt with
            | true => force t fun t => rops P C nt all r0 rest ((s, t) :: e) h' (kdel s kn) ors obs (⟨u, ids d⟩ :: rs) K
            | false => .bad
          | none => rops P C nt all r0 rest e h' kn ors obs (⟨u, ids d⟩ :: rs) K
    match guardOf all o e with
    | .yes => exec kn ors obs
    | .no => skip kn ors obs
    | .sym d x want => match klook kn d, ors with
      | some g, ors => match beqB g want with | true => exec kn ors obs | false => skip kn ors obs
      | none, .t :: ors => match want with
        | true => exec ((d, true) :: kn) ors ((x = true) :: obs)
        | false => skip ((d, true) :: kn) ors ((x = true) :: obs)
      | none, .f :: ors => match want with
        | false => exec ((d, false) :: kn) ors ((x = false) :: obs)
        | true => skip ((d, false) :: kn) ors ((x = false) :: obs)
      | none, _ => r0
    | .bad => .bad
def unwind (id : Nat) : List Item → Option (List Item)
  | [] => none
  | .blk j :: k => match Nat.beq j id with | true => some k | false => unwind id k
  | .code _ :: k => unwind id k
/-- The machine. -/
def run (P : Program) (C : Ctx) (nt : Nat) : Nat → List Item → Env → Heap → Ds → List Or → List Prop → Res
  | 0, k, e, h, ds, _, obs => .cut k e h ds obs
  | _ + 1, [], e, h, ds, _, obs => .fin .normal e h ds obs
  | n + 1, .blk _ :: k, e, h, ds, ors, obs => run P C nt n k e h ds ors obs
  | n + 1, .code c :: k, e, h, ds, ors, obs => match c with
    | .skip => run P C nt n k e h ds ors obs
    | .label _ => run P C nt n k e h ds ors obs
    | .seq a b => run P C nt n (.code a :: .code b :: k) e h ds ors obs
    | .region id ops draw => match draw with
      | false => rops P C nt ops.toList (.cut (.code (.region id ops false) :: k) e h ds obs) ops.toList e h [] ors obs [] fun e h ors obs _ => run P C nt n k e h ds ors obs
      | true => rops P C nt ops.toList (.cut (.code (.region id ops true) :: k) e h ds obs) ops.toList e h [] ors obs [] fun e h ors obs rs =>
          match apartAll rs with
          | true => run P C nt n k e h ds ors obs
          | false => run P C nt n k e h ds ors ((chkAll (befores ops.toList []) rs = true) :: obs)
    | .cond c a b => match opd C e c, ors with
      | .bl true, ors => run P C nt n (.code a :: k) e h ds ors obs
      | .bl false, ors => run P C nt n (.code b :: k) e h ds ors obs
      | .b x, .t :: ors => run P C nt n (.code a :: k) e h ds ors ((x = true) :: obs)
      | .b x, .f :: ors => run P C nt n (.code b :: k) e h ds ors ((x = false) :: obs)
      | _, _ => .cut (.code (.cond c a b) :: k) e h ds obs
    | .block id c => run P C nt n (.code c :: .blk id :: k) e h ds ors obs
    | .exit id => match unwind id k with | some k => run P C nt n k e h ds ors obs | none => .fin (.exit id) e h ds obs
    | .goto l => .fin (.goto l) e h ds obs
    | .ret => .fin .ret e h ds obs
    | .loop c => .cut (.code (.loop c) :: k) e h ds obs
    | .scope c => .cut (.code (.scope c) :: k) e h ds obs
    | c => .cut (.code c :: k) e h ds obs
end Go.Proofs.YtipomdmlkkifcaaGreatDoor.Vm
/- The symbolic machine, part 3: the table of types; what is known stays known; the lemmas on values. -/
namespace Go.Proofs.YtipomdmlkkifcaaGreatDoor.Vm
open Go

/-! ### The table of types -/
def isAggD : TypeDesc → Bool
  | .struct _ | .array _ _ => true
  | _ => false
def gndB : T → Value → Bool
  | .bl x, .bool y => x == y
  | .i k n, .int k' m => ikN k == ikN k' && n == m
  | .fl k x, .float k' y => fkN k == fkN k' && x == y
  | .cx k x y, .complex k' z u => fkN k == fkN k' && x == z && y == u
  | .s [], .string ⟨⟨[]⟩⟩ => true
  | .np, .pointer none => true
  | .nsl, .slice none 0 0 => true
  | .nfn, .nilFunc => true
  | .nif, .nilIface => true
  | _, _ => false
def gndL : List T → List Value → Bool
  | [], [] => true
  | t :: ts, v :: vs => gndB t v && gndL ts vs
  | _, _ => false
def SizeOk (P : Program) (t : TypeId) (ti : TI) : Prop :=
  ∃ inf z, P.info? t = some inf ∧ inf.size = ti.size ∧ inf.bytes = ti.bytes ∧ inf.zero = some z ∧ gndL ti.zero z.cells.toList = true ∧ ti.zero.length = ti.size ∧ ti.size < szB
def fld (P : Program) (f : Field) : Option (Nat × Nat × Bool) := match P.info? f.type, P.underlying f.type with
  | some inf, some d => some (f.offset, inf.size, isAggD d)
  | _, _ => none
def KindOk (P : Program) (C : Ctx) (t : TypeId) : TK → Prop
  | .other => True
  | .bool => P.underlying t = some .bool
  | .int k => P.underlying t = some (.int k)
  | .fl k => P.underlying t = some (.float k)
  | .cx k => P.underlying t = some (.complex k)
  | .str => P.underlying t = some .string
  | .slice e => P.underlying t = some (.slice e) ∧ SizeOk P e (tin C e) ∧ ∃ d, P.underlying e = some d ∧ isAggD d = (tin C e).agg
  | .arr n e => P.underlying t = some (.array n e) ∧ SizeOk P e (tin C e) ∧ ∃ d, P.underlying e = some d ∧ isAggD d = (tin C e).agg
  | .struct fs => ∃ fields, P.underlying t = some (.struct fields) ∧ fields.toList.map (fld P) = fs.map some
  | .ptr e => P.underlying t = some (.pointer e)
  | .func => ∃ a b c, P.underlying t = some (.func a b c)
def TIok (P : Program) (C : Ctx) (t : TypeId) (ti : TI) : Prop :=
  KindOk P C t ti.k ∧ (ti.size = 0 ∨ (SizeOk P t ti ∧ ∃ d, P.underlying t = some d ∧ isAggD d = ti.agg))
def TabOk (P : Program) (C : Ctx) : Prop := ∀ t, TIok P C t (tin C t)

def sizeB (P : Program) (t : TypeId) (ti : TI) : Bool := match P.info? t with
  | some inf => match inf.zero with
    | some z => Nat.beq inf.size ti.size && Nat.beq inf.bytes ti.bytes && gndL ti.zero z.cells.toList && Nat.beq ti.zero.length ti.size && Nat.blt ti.size szB
    | none => false
  | none => false
theorem sizeB_ok {P : Program} {t : TypeId} {ti : TI} (h : sizeB P t ti = true) : SizeOk P t ti := by
  unfold sizeB at h
  cases hi : P.info? t with
  | none => rw [hi] at h; simp at h
  | some inf =>
    rw [hi] at h
    cases hz : inf.zero with
    | none => simp [hz] at h
    | some z => simp [hz] at h; exact ⟨inf, z, hi, h.1.1.1.1, h.1.1.1.2, hz, h.1.1.2, h.1.2, by simpa [Nat.blt_eq] using h.2⟩
def aggB (P : Program) (t : TypeId) (b : Bool) : Bool := match P.underlying t with
  | some d => beqB (isAggD d) b
  | none => false
theorem beqB_eq {x y : Bool} (h : beqB x y = true) : x = y := by cases x <;> cases y <;> simp_all [beqB]
theorem aggB_ok {P : Program} {t : TypeId} {b : Bool} (h : aggB P t b = true) : ∃ d, P.underlying t = some d ∧ isAggD d = b := by
  unfold aggB at h
  cases hu : P.underlying t with
  | none => rw [hu] at h; simp at h
  | some d => rw [hu] at h; exact ⟨d, rfl, beqB_eq h⟩
theorem ikN_inj {k k' : IntKind} (h : ikN k = ikN k') : k = k' := by cases k <;> cases k' <;> simp_all [ikN]
theorem fkN_inj {k k' : FloatKind} (h : fkN k = fkN k') : k = k' := by cases k <;> cases k' <;> simp_all [fkN]
def eqO (a : Option (Nat × Nat × Bool)) (b : Nat × Nat × Bool) : Bool := match a, b with
  | some (x, y, z), (x', y', z') => Nat.beq x x' && Nat.beq y y' && beqB z z'
  | none, _ => false
def fldsB (P : Program) : List Field → List (Nat × Nat × Bool) → Bool
  | [], [] => true
  | f :: fs, x :: xs => eqO (fld P f) x && fldsB P fs xs
  | _, _ => false
theorem fldsB_ok {P : Program} : ∀ {fs : List Field} {xs : List (Nat × Nat × Bool)}, fldsB P fs xs = true → fs.map (fld P) = xs.map some
  | [], [], _ => rfl
  | f :: fs, x :: xs, h => by
    simp only [fldsB, Bool.and_eq_true] at h
    obtain ⟨h1, h2⟩ := h
    obtain ⟨a, b, c⟩ := x
    cases hf : fld P f with
    | none => rw [hf] at h1; simp [eqO] at h1
    | some y =>
      obtain ⟨a', b', c'⟩ := y
      rw [hf] at h1; simp [eqO] at h1
      simp [hf, fldsB_ok h2, h1.1.1, h1.1.2, beqB_eq h1.2]
  | [], _ :: _, h => by simp [fldsB] at h
  | _ :: _, [], h => by simp [fldsB] at h
def kindB (P : Program) (C : Ctx) (t : TypeId) (k : TK) : Bool := match k, P.underlying t with
  | .other, _ => true
  | .bool, some .bool => true
  | .int k, some (.int k') => Nat.beq (ikN k) (ikN k')
  | .fl k, some (.float k') => Nat.beq (fkN k) (fkN k')
  | .cx k, some (.complex k') => Nat.beq (fkN k) (fkN k')
  | .str, some .string => true
  | .slice e, some (.slice e') => Nat.beq e e' && sizeB P e (tin C e) && aggB P e (tin C e).agg
  | .arr n e, some (.array n' e') => Nat.beq n n' && Nat.beq e e' && sizeB P e (tin C e) && aggB P e (tin C e).agg
  | .struct fs, some (.struct fields) => fldsB P fields.toList fs
  | .ptr e, some (.pointer e') => Nat.beq e e'
  | .func, some (.func _ _ _) => true
  | _, _ => false
theorem kindB_ok {P : Program} {C : Ctx} {t : TypeId} {k : TK} (h : kindB P C t k = true) : KindOk P C t k := by
  unfold kindB at h
  split at h <;> (try simp only [Bool.and_eq_true, Nat.beq_eq] at h) <;> (try simp only [KindOk]) <;> first
    | assumption
    | (obtain rfl := ikN_inj h; assumption)
    | (obtain rfl := fkN_inj h; assumption)
    | (obtain ⟨⟨⟨rfl, rfl⟩, h2⟩, h3⟩ := h; exact ⟨by assumption, sizeB_ok h2, aggB_ok h3⟩)
    | (obtain ⟨⟨rfl, h2⟩, h3⟩ := h; exact ⟨by assumption, sizeB_ok h2, aggB_ok h3⟩)
    | exact ⟨_, by assumption, fldsB_ok h⟩
    | (subst h; assumption)
    | exact ⟨_, _, _, by assumption⟩
    | trivial
def tiB (P : Program) (C : Ctx) (t : TypeId) (ti : TI) : Bool := kindB P C t ti.k && sizeB P t ti && aggB P t ti.agg
def tabB (P : Program) (C : Ctx) : Tab → Bool
  | .leaf n t => tiB P C n t
  | .node _ l r => tabB P C l && tabB P C r
theorem get_ok {P : Program} {C : Ctx} : ∀ {tb : Tab}, tabB P C tb = true → ∀ t, TIok P C t (tb.get t)
  | .leaf m ti, h, t => by
    simp only [Tab.get]
    cases hm : Nat.beq m t with
    | false => exact ⟨trivial, .inl rfl⟩
    | true =>
      obtain rfl := Nat.eq_of_beq_eq_true hm
      simp only [tabB, tiB, Bool.and_eq_true] at h
      exact ⟨kindB_ok h.1.1, .inr ⟨sizeB_ok h.1.2, aggB_ok h.2⟩⟩
  | .node m l r, h, t => by
    simp only [tabB, Bool.and_eq_true] at h
    simp only [Tab.get]
    cases Nat.blt t m with
    | true => exact get_ok h.1 t
    | false => exact get_ok h.2 t
theorem tabOk_of {P : Program} {C : Ctx} (h : tabB P C C.ty = true) : TabOk P C := fun t => get_ok h t

/-! ### Updates -/
def updF (ef : Nat → T) (dst : Option Nat) (t : T) : Nat → T := match dst with
  | some d => fun n => if d = n then t else ef n
  | none => ef
def updH (hf : Objs) (d : Heap) : Objs := fun n => match hlook d n with
  | some x => some x
  | none => hf n
theorem look_cons (d : Nat) (t : T) (e : Env) : look ((d, t) :: e) = updF (look e) (some d) t := by
  funext n
  simp only [look, updF]
  by_cases h : d = n
  · subst h; simp
  · rw [if_neg h]; cases hb : Nat.beq d n with
    | true => exact absurd (Nat.eq_of_beq_eq_true hb) h
    | false => rfl
theorem hlook_append (d h : Heap) : hlook (d ++ h) = updH (hlook h) d := by
  funext n
  induction d with
  | nil => rfl
  | cons x d ih =>
    obtain ⟨m, g, o⟩ := x
    simp only [List.cons_append, hlook, updH]
    cases Nat.beq m n with
    | true => rfl
    | false => simpa [updH] using ih
theorem updH_nil (hf : Objs) : updH hf [] = hf := rfl
theorem hlook_one (id g : Nat) (o : Obj) (n : Nat) : hlook [(id, g, o)] n = if id = n then some (g, o) else none := by
  simp only [hlook]
  by_cases h : id = n
  · subst h; simp
  · rw [if_neg h]; cases hb : Nat.beq id n with
    | true => exact absurd (Nat.eq_of_beq_eq_true hb) h
    | false => rfl
theorem updH_one (hf : Objs) (id g : Nat) (o : Obj) (n : Nat) : updH hf [(id, g, o)] n = if id = n then some (g, o) else hf n := by
  simp only [updH, hlook_one]
  by_cases h : id = n
  · rw [if_pos h, if_pos h]
  · rw [if_neg h, if_neg h]
theorem force_eq {α : Type} (v : T) (K : T → α) : force v K = K v := by cases v <;> rfl
theorem forceL_eq {α : Type} (l : List T) (K : List T → α) : forceL l K = K l := by
  induction l generalizing K with
  | nil => rfl
  | cons x l ih => simp only [forceL, force_eq, ih]
theorem pushAll_eq {α β : Type} (d h : List α) (K : List α → β) : pushAll d h K = K (d ++ h) := by
  induction d generalizing K with
  | nil => rfl
  | cons x d ih => simp only [pushAll, ih, List.cons_append]
theorem evL_eq {α : Type} (ev : Operand → T) (l : List Operand) (K : List T → α) : evL ev l K = K (l.map ev) := by
  induction l generalizing K with
  | nil => rfl
  | cons x l ih => simp only [evL, force_eq, ih, List.map_cons]
theorem evP_eq {α : Type} (ev : Operand → T) (l : List (Nat × Operand)) (K : List (Nat × T) → α) : evP ev l K = K (l.map fun x => (x.1, ev x.2)) := by
  induction l generalizing K with
  | nil => rfl
  | cons x l ih => obtain ⟨j, x⟩ := x; simp only [evP, force_eq, ih, List.map_cons]
theorem nth_eq {α : Type} : ∀ (l : List α) (n : Nat), nth l n = l[n]?
  | [], _ => by simp [nth]
  | _ :: _, 0 => rfl
  | _ :: l, n + 1 => by simp [nth, nth_eq l n]

/-! ### What is known stays known -/
def MLe (I I' : Mem) : Prop := ∀ a v, I a = some v → I' a = some v
theorem MLe.refl (I : Mem) : MLe I I := fun _ _ h => h
theorem Lies.mono {I I' : Mem} (h : MLe I I') {a : Option Addr} {off : Nat} {vs : List Value} (hl : Lies I a off vs) : Lies I' a off vs := by
  cases a with
  | none => exact hl
  | some a => exact ⟨hl.1, fun j v hj => h _ _ (hl.2 j v hj)⟩
mutual
theorem PV.mono {I I' : Mem} (h : MLe I I') : ∀ (t : T) (v : Value), PV I t v → PV I' t v
  | .top, _, hv => hv
  | .b _, _, hv => hv
  | .bl _, _, hv => hv
  | .i _ _, _, hv => hv
  | .fl _ _, _, hv => hv
  | .cx _ _ _, _, hv => hv
  | .s _, _, hv => hv
  | .agg cs, v, hv => by
    simp only [PV] at hv ⊢
    obtain ⟨vs, e, h1⟩ := hv
    exact ⟨vs, e, PVs.mono h cs vs h1⟩
  | .tup cs, v, hv => by
    simp only [PV] at hv ⊢
    obtain ⟨vs, e, h1⟩ := hv
    exact ⟨vs, e, PVs.mono h cs vs h1⟩
  | .sl n cs, v, hv => by
    simp only [PV] at hv ⊢
    obtain ⟨a, cap, vs, e, h0, h1, h2⟩ := hv
    exact ⟨a, cap, vs, e, h0, PVs.mono h cs vs h1, h2.mono h⟩
  | .nsl, _, hv => hv
  | .rp cs off, v, hv => by
    simp only [PV] at hv ⊢
    obtain ⟨a, b, vs, e, h1, h2⟩ := hv
    exact ⟨a, b, vs, e, PVs.mono h cs vs h1, h2.mono h⟩
  | .np, _, hv => hv
  | .fn f x c, v, hv => by
    simp only [PV] at hv ⊢
    obtain ⟨xs, cs, e, h1, h2⟩ := hv
    exact ⟨xs, cs, e, PVs.mono h x xs h1, PVs.mono h c cs h2⟩
  | .nfn, _, hv => hv
  | .ifc t x, v, hv => by
    simp only [PV] at hv ⊢
    obtain ⟨y, e, h1⟩ := hv
    exact ⟨y, e, PV.mono h x y h1⟩
  | .nif, _, hv => hv
  | .ref .., _, hv => hv
  | .p .., _, hv => hv
theorem PVs.mono {I I' : Mem} (h : MLe I I') : ∀ (ts : List T) (vs : List Value), PVs I ts vs → PVs I' ts vs
  | [], _, hv => hv
  | t :: ts, vs, hv => by
    simp only [PVs] at hv ⊢
    obtain ⟨v, r, e, h1, h2⟩ := hv
    exact ⟨v, r, e, PV.mono h t v h1, PVs.mono h ts r h2⟩
end
theorem HLe.trans {ρ ρ' ρ'' : Place} {h h' h'' : Objs} (h1 : HLe ρ h ρ' h') (h2 : HLe ρ' h' ρ'' h'') : HLe ρ h ρ'' h'' := by
  intro id g o e
  obtain ⟨g', o', e', l1, k1⟩ := h1 id g o e
  obtain ⟨g'', o'', e'', l2, k2⟩ := h2 id g' o' e'
  refine ⟨g'', o'', e'', Nat.le_trans l1 l2, fun hg hd => ?_⟩
  obtain ⟨a1, a2, a3⟩ := k2 (by omega) hd
  obtain ⟨b1, b2, b3⟩ := k1 (by omega) a2
  refine ⟨a1.trans b1, b2, fun pu esz cs e => ?_⟩
  obtain ⟨pu', s', cs', e1, e2⟩ := a3 _ _ _ e
  obtain ⟨pu2, s2, cs2, e3, e4⟩ := b3 _ _ _ e1
  exact ⟨pu2, s2, cs2, e3, e4.trans e2⟩
theorem HLe.refl (ρ : Place) (h : Objs) : HLe ρ h ρ h := fun _ g o e => ⟨g, o, e, Nat.le_refl _, fun _ hd => ⟨rfl, hd, fun pu s cs e => ⟨pu, s, cs, e, rfl⟩⟩⟩
mutual
theorem VR.mono {ρ ρ' : Place} {h h' : Objs} {I I' : Mem} (hI : MLe I I') (hh : HLe ρ h ρ' h') : ∀ (t : T) (v : Value), VR ρ h I t v → VR ρ' h' I' t v
  | .top, _, _ => by simp [VR]
  | .b _, _, hv => by simpa [VR] using hv
  | .bl _, _, hv => by simpa [VR] using hv
  | .i _ _, _, hv => by simpa [VR] using hv
  | .fl _ _, _, hv => by simpa [VR] using hv
  | .cx _ _ _, _, hv => by simpa [VR] using hv
  | .s _, _, hv => by simpa [VR] using hv
  | .agg cs, v, hv => by
    simp only [VR] at hv ⊢
    obtain ⟨vs, e, h1⟩ := hv
    exact ⟨vs, e, VRs.mono hI hh cs vs h1⟩
  | .tup cs, v, hv => by
    simp only [VR] at hv ⊢
    obtain ⟨vs, e, h1⟩ := hv
    exact ⟨vs, e, VRs.mono hI hh cs vs h1⟩
  | .sl n cs, v, hv => by simp only [VR] at hv ⊢; exact PV.mono hI _ _ hv
  | .nsl, _, hv => by simpa [VR] using hv
  | .rp cs off, v, hv => by simp only [VR] at hv ⊢; exact PV.mono hI _ _ hv
  | .np, _, hv => by simpa [VR] using hv
  | .fn f x c, v, hv => by
    simp only [VR] at hv ⊢
    obtain ⟨xs, cs, e, h1, h2⟩ := hv
    exact ⟨xs, cs, e, VRs.mono hI hh x xs h1, VRs.mono hI hh c cs h2⟩
  | .nfn, _, hv => by simpa [VR] using hv
  | .ifc t x, v, hv => by
    simp only [VR] at hv ⊢
    obtain ⟨y, e, h1⟩ := hv
    exact ⟨y, e, VR.mono hI hh x y h1⟩
  | .nif, _, hv => by simpa [VR] using hv
  | .ref id g off n, v, hv => by
    simp only [VR] at hv ⊢
    obtain ⟨hone, g1, o1, e1, hle, hr⟩ := hv
    obtain ⟨g2, o2, e2, hle2, h2⟩ := hh _ _ _ e1
    refine ⟨hone, g2, o2, e2, Nat.le_trans hle hle2, fun hg pu esz cs ho => ?_⟩
    have hg1 : g = g1 := by omega
    obtain ⟨hp, _, hk⟩ := h2 (by omega) (by rw [ho]; simp)
    obtain ⟨pu', s', cs', ho1, hs'⟩ := hk _ _ _ ho
    rw [← hs']
    rw [hp]
    exact hr hg1 _ _ _ ho1
  | .p id g off, v, hv => by
    simp only [VR] at hv ⊢
    obtain ⟨hone, g1, o1, e1, hle, hr⟩ := hv
    obtain ⟨g2, o2, e2, hle2, h2⟩ := hh _ _ _ e1
    refine ⟨hone, g2, o2, e2, Nat.le_trans hle hle2, fun hg ho => ?_⟩
    obtain ⟨hp, hl, _⟩ := h2 (by omega) ho
    rw [hp]
    exact hr (by omega) hl
theorem VRs.mono {ρ ρ' : Place} {h h' : Objs} {I I' : Mem} (hI : MLe I I') (hh : HLe ρ h ρ' h') : ∀ (ts : List T) (vs : List Value), VRs ρ h I ts vs → VRs ρ' h' I' ts vs
  | [], _, hv => by simpa [VRs] using hv
  | t :: ts, vs, hv => by
    simp only [VRs] at hv ⊢
    obtain ⟨v, r, e, h1, h2⟩ := hv
    exact ⟨v, r, e, VR.mono hI hh t v h1, VRs.mono hI hh ts r h2⟩
end
mutual
theorem PV.vr {ρ : Place} {h : Objs} {I : Mem} : ∀ (t : T) (v : Value), PV I t v → VR ρ h I t v
  | .top, _, hv => by simp [PV] at hv
  | .b _, _, hv => by simpa [VR, PV] using hv
  | .bl _, _, hv => by simpa [VR, PV] using hv
  | .i _ _, _, hv => by simpa [VR, PV] using hv
  | .fl _ _, _, hv => by simpa [VR, PV] using hv
  | .cx _ _ _, _, hv => by simpa [VR, PV] using hv
  | .s _, _, hv => by simpa [VR, PV] using hv
  | .agg cs, v, hv => by
    simp only [VR, PV] at hv ⊢
    obtain ⟨vs, e, h1⟩ := hv
    exact ⟨vs, e, PVs.vrs cs vs h1⟩
  | .tup cs, v, hv => by
    simp only [VR, PV] at hv ⊢
    obtain ⟨vs, e, h1⟩ := hv
    exact ⟨vs, e, PVs.vrs cs vs h1⟩
  | .sl n cs, v, hv => by simpa only [VR] using hv
  | .nsl, _, hv => by simpa [VR, PV] using hv
  | .rp cs off, v, hv => by simpa only [VR] using hv
  | .np, _, hv => by simpa [VR, PV] using hv
  | .fn f x c, v, hv => by
    simp only [VR, PV] at hv ⊢
    obtain ⟨xs, cs, e, h1, h2⟩ := hv
    exact ⟨xs, cs, e, PVs.vrs x xs h1, PVs.vrs c cs h2⟩
  | .nfn, _, hv => by simpa [VR, PV] using hv
  | .ifc t x, v, hv => by
    simp only [VR, PV] at hv ⊢
    obtain ⟨y, e, h1⟩ := hv
    exact ⟨y, e, PV.vr x y h1⟩
  | .nif, _, hv => by simpa [VR, PV] using hv
  | .ref .., _, hv => by simp [PV] at hv
  | .p .., _, hv => by simp [PV] at hv
theorem PVs.vrs {ρ : Place} {h : Objs} {I : Mem} : ∀ (ts : List T) (vs : List Value), PVs I ts vs → VRs ρ h I ts vs
  | [], _, hv => by simpa [VRs, PVs] using hv
  | t :: ts, vs, hv => by
    simp only [VRs, PVs] at hv ⊢
    obtain ⟨v, r, e, h1, h2⟩ := hv
    exact ⟨v, r, e, PV.vr t v h1, PVs.vrs ts r h2⟩
end
theorem plain_pv {ρ : Place} {h : Objs} {I : Mem} {t : T} {v : Value} (hp : plain t = true) (hv : VR ρ h I t v) : PV I t v := by
  cases t <;> simp_all [plain, VR, PV]
theorem plainL_pvs {ρ : Place} {h : Objs} {I : Mem} : ∀ {ts : List T} {vs : List Value}, plainL ts = true → VRs ρ h I ts vs → PVs I ts vs
  | [], _, _, hv => by simpa [VRs, PVs] using hv
  | t :: ts, vs, hp, hv => by
    simp only [VRs, PVs] at hv ⊢
    obtain ⟨v, r, e, h1, h2⟩ := hv
    simp only [plainL] at hp
    cases hb : plain t with
    | false => rw [hb] at hp; simp at hp
    | true => rw [hb] at hp; exact ⟨v, r, e, plain_pv hb h1, plainL_pvs hp h2⟩
theorem gndB_pv {I : Mem} {t : T} {v : Value} (h : gndB t v = true) : PV I t v := by
  unfold gndB at h
  split at h <;> simp at h <;> simp only [PV]
  · rw [h]
  · obtain ⟨h1, rfl⟩ := h; rw [ikN_inj h1]
  · obtain ⟨h1, rfl⟩ := h; rw [fkN_inj h1]
  · obtain ⟨⟨h1, rfl⟩, rfl⟩ := h; rw [fkN_inj h1]
theorem gndL_pvs {I : Mem} : ∀ {ts : List T} {vs : List Value}, gndL ts vs = true → PVs I ts vs
  | [], [], _ => by simp [PVs]
  | t :: ts, v :: vs, h => by
    simp only [gndL, Bool.and_eq_true] at h
    exact ⟨v, vs, rfl, gndB_pv h.1, gndL_pvs h.2⟩
  | [], _ :: _, h => by simp [gndL] at h
  | _ :: _, [], h => by simp [gndL] at h
end Go.Proofs.YtipomdmlkkifcaaGreatDoor.Vm
/- The symbolic machine, part 4: the state's relation; lists of values; memory written and made. -/
namespace Go.Proofs.YtipomdmlkkifcaaGreatDoor.Vm
open Go

/-! ### Lists of values -/
section
variable {ρ : Place} {h : Objs} {I : Mem}
theorem VRs.length : ∀ {ts : List T} {vs : List Value}, VRs ρ h I ts vs → vs.length = ts.length
  | [], _, hv => by simp only [VRs] at hv; subst hv; rfl
  | t :: ts, _, hv => by
    simp only [VRs] at hv
    obtain ⟨v, r, rfl, _, h2⟩ := hv
    simp [VRs.length h2]
theorem PVs.length {ts : List T} {vs : List Value} (hv : PVs I ts vs) : vs.length = ts.length := VRs.length (ρ := fun _ => (0, 0)) (h := fun _ => none) (PVs.vrs _ _ hv)
theorem VRs.get : ∀ {ts : List T} {vs : List Value}, VRs ρ h I ts vs → ∀ (j : Nat) (t : T), ts[j]? = some t → ∃ v, vs[j]? = some v ∧ VR ρ h I t v
  | [], _, _, j, t, hj => by simp at hj
  | t :: ts, _, hv, j, u, hj => by
    simp only [VRs] at hv
    obtain ⟨v, r, rfl, h1, h2⟩ := hv
    cases j with
    | zero => simp at hj; subst hj; exact ⟨v, rfl, h1⟩
    | succ j => simp at hj; simpa using VRs.get h2 j u hj
theorem VRs.of_get : ∀ {ts : List T} {vs : List Value}, vs.length = ts.length → (∀ (j : Nat) (t : T) (v : Value), ts[j]? = some t → vs[j]? = some v → VR ρ h I t v) → VRs ρ h I ts vs
  | [], vs, hl, _ => by simp [VRs]; exact List.length_eq_zero_iff.1 hl
  | t :: ts, [], hl, _ => by simp at hl
  | t :: ts, v :: vs, hl, hg => ⟨v, vs, rfl, hg 0 t v rfl rfl, VRs.of_get (by simpa using hl) fun j t' v' h1 h2 => hg (j + 1) t' v' (by simpa using h1) (by simpa using h2)⟩
theorem PVs.of_get : ∀ {ts : List T} {vs : List Value}, vs.length = ts.length → (∀ (j : Nat) (t : T) (v : Value), ts[j]? = some t → vs[j]? = some v → PV I t v) → PVs I ts vs
  | [], vs, hl, _ => by simp [PVs]; exact List.length_eq_zero_iff.1 hl
  | t :: ts, [], hl, _ => by simp at hl
  | t :: ts, v :: vs, hl, hg => ⟨v, vs, rfl, hg 0 t v rfl rfl, PVs.of_get (by simpa using hl) fun j t' v' h1 h2 => hg (j + 1) t' v' (by simpa using h1) (by simpa using h2)⟩
theorem PVs.get : ∀ {ts : List T} {vs : List Value}, PVs I ts vs → ∀ (j : Nat) (t : T), ts[j]? = some t → ∃ v, vs[j]? = some v ∧ PV I t v
  | [], _, _, j, t, hj => by simp at hj
  | t :: ts, _, hv, j, u, hj => by
    simp only [PVs] at hv
    obtain ⟨v, r, rfl, h1, h2⟩ := hv
    cases j with
    | zero => simp at hj; subst hj; exact ⟨v, rfl, h1⟩
    | succ j => simp at hj; simpa using PVs.get h2 j u hj
theorem VRs.at {ts : List T} {vs : List Value} (hv : VRs ρ h I ts vs) {j : Nat} {t : T} {v : Value} (h1 : ts[j]? = some t) (h2 : vs[j]? = some v) : VR ρ h I t v := by
  obtain ⟨v', e, r⟩ := hv.get j t h1; rw [e] at h2; obtain rfl := Option.some.inj h2; exact r
theorem PVs.at {ts : List T} {vs : List Value} (hv : PVs I ts vs) {j : Nat} {t : T} {v : Value} (h1 : ts[j]? = some t) (h2 : vs[j]? = some v) : PV I t v := by
  obtain ⟨v', e, r⟩ := hv.get j t h1; rw [e] at h2; obtain rfl := Option.some.inj h2; exact r
theorem VRs.append {ts us : List T} {vs ws : List Value} (h1 : VRs ρ h I ts vs) (h2 : VRs ρ h I us ws) : VRs ρ h I (ts ++ us) (vs ++ ws) := by
  refine VRs.of_get (by simp [h1.length, h2.length]) fun j t v e1 e2 => ?_
  rw [List.getElem?_append] at e1 e2
  rw [h1.length] at e2
  split at e1
  · rename_i hl; rw [if_pos hl] at e2; exact h1.at e1 e2
  · rename_i hl; rw [if_neg hl] at e2; exact h2.at e1 e2
theorem PVs.append {ts us : List T} {vs ws : List Value} (h1 : PVs I ts vs) (h2 : PVs I us ws) : PVs I (ts ++ us) (vs ++ ws) := by
  refine PVs.of_get (by simp [h1.length, h2.length]) fun j t v e1 e2 => ?_
  rw [List.getElem?_append] at e1 e2
  rw [h1.length] at e2
  split at e1
  · rename_i hl; rw [if_pos hl] at e2; exact h1.at e1 e2
  · rename_i hl; rw [if_neg hl] at e2; exact h2.at e1 e2
theorem VRs.take {ts : List T} {vs : List Value} (h1 : VRs ρ h I ts vs) (n : Nat) : VRs ρ h I (ts.take n) (vs.take n) := by
  refine VRs.of_get (by simp [h1.length]) fun j t v e1 e2 => ?_
  rw [List.getElem?_take] at e1 e2
  split at e1
  · rename_i hl; rw [if_pos hl] at e2; exact h1.at e1 e2
  · simp at e1
theorem VRs.drop {ts : List T} {vs : List Value} (h1 : VRs ρ h I ts vs) (n : Nat) : VRs ρ h I (ts.drop n) (vs.drop n) := by
  refine VRs.of_get (by simp [h1.length]) fun j t v e1 e2 => ?_
  rw [List.getElem?_drop] at e1 e2
  exact h1.at e1 e2
theorem PVs.take {ts : List T} {vs : List Value} (h1 : PVs I ts vs) (n : Nat) : PVs I (ts.take n) (vs.take n) := by
  refine PVs.of_get (by simp [h1.length]) fun j t v e1 e2 => ?_
  rw [List.getElem?_take] at e1 e2
  split at e1
  · rename_i hl; rw [if_pos hl] at e2; exact h1.at e1 e2
  · simp at e1
theorem PVs.drop {ts : List T} {vs : List Value} (h1 : PVs I ts vs) (n : Nat) : PVs I (ts.drop n) (vs.drop n) := by
  refine PVs.of_get (by simp [h1.length]) fun j t v e1 e2 => ?_
  rw [List.getElem?_drop] at e1 e2
  exact h1.at e1 e2
theorem VRs.map {α : Type} (f : α → T) (g : α → Value) (hf : ∀ x, VR ρ h I (f x) (g x)) : ∀ l : List α, VRs ρ h I (l.map f) (l.map g)
  | [] => by simp [VRs]
  | x :: l => ⟨_, _, rfl, hf x, VRs.map f g hf l⟩
theorem splice_eq (cs : List T) (off : Nat) (xs : List T) (hl : off + xs.length ≤ cs.length) : splice cs off xs = cs.take off ++ xs ++ cs.drop (off + xs.length) := by
  unfold splice
  split
  · rename_i x
    simp only [List.length_cons, List.length_nil] at hl ⊢
    rw [List.set_eq_take_append_cons_drop, if_pos (by omega)]
    simp
  · rfl
end

/-! ### The state -/
def DR (ρ : Place) (h : Objs) (I : Mem) : Ds → List Deferred → Prop
  | [], l => l = []
  | (f, x, c) :: ds, l => ∃ xs cs r, l = { target := .fn (.func f) ⟨cs⟩, args := ⟨xs⟩ } :: r ∧ VRs ρ h I x xs ∧ VRs ρ h I c cs ∧ DR ρ h I ds r
theorem DR.mono {ρ ρ' : Place} {h h' : Objs} {I I' : Mem} (hI : MLe I I') (hh : HLe ρ h ρ' h') : ∀ {ds : Ds} {l : List Deferred}, DR ρ h I ds l → DR ρ' h' I' ds l
  | [], _, hd => hd
  | (f, x, c) :: ds, _, hd => by
    simp only [DR] at hd ⊢
    obtain ⟨xs, cs, r, e, h1, h2, h3⟩ := hd
    exact ⟨xs, cs, r, e, VRs.mono hI hh _ _ h1, VRs.mono hI hh _ _ h2, DR.mono hI hh h3⟩
/-- A call's begin. -/
structure Ent where
  w0 : World
  own : Nat → Prop
  I0 : Mem
  p0 : Place
  h0 : Objs
  nt : Nat
structure SR (C : Ctx) (E : Ent) (ef : Nat → T) (hf : Objs) (ds : Ds) (ρ : Place) (I : Mem) (a : Act) (w : World) : Prop where
  glob : GlobOk C I
  hs : HS ρ hf I w
  ext : Ext E.w0 E.own E.I0 ρ hf I w
  hle : HLe E.p0 E.h0 ρ hf
  env : ∀ n, VR ρ hf I (ef n) (a.tmps.getD n undef)
  sz : a.tmps.size = E.nt
  dfs : DR ρ hf I ds a.defers
theorem GlobOk.mono {C : Ctx} {I I' : Mem} (hI : MLe I I') (h : GlobOk C I) : GlobOk C I' := fun g => (h g).imp id (PV.mono hI _ _)
theorem put_getD (a : Act) (dst : Option Nat) (v : Value) (n nt : Nat) (hs : a.tmps.size = nt) (hd : ∀ d, dst = some d → d < nt) :
    (a.put dst v).tmps.getD n undef = match dst with | some d => if d = n then v else a.tmps.getD n undef | none => a.tmps.getD n undef := by
  cases dst with
  | none => rfl
  | some d =>
    have hlt := hd d rfl
    simp only [Act.put, Array.getD_eq_getD_getElem?, Array.getElem?_setIfInBounds]
    by_cases h : d = n
    · subst h; simp [hs, hlt]
    · simp [h]
/-- What an operation must show: it runs, and its value, its objects and what it knows are right. -/
def Does (P : Program) (E : Ent) (hf : Objs) (ρ : Place) (I : Mem) (o : Oper) (t : T) (d : Heap) (a : Act) (w : World) : Prop :=
  ∃ nx v ρ' I' w', (execOp a.eval o).run P w = .ok nx w' ∧ (nx = .value v ∨ (nx = .skip ∧ v = undef)) ∧ MLe I I' ∧ HLe ρ hf ρ' (updH hf d) ∧
    HS ρ' (updH hf d) I' w' ∧ Ext E.w0 E.own E.I0 ρ' (updH hf d) I' w' ∧ VR ρ' (updH hf d) I' t v
theorem SR.step {C : Ctx} {E : Ent} {ef : Nat → T} {hf hf' : Objs} {ds : Ds} {ρ ρ' : Place} {I I' : Mem} {a : Act} {w w' : World} {dst : Option Nat} {t : T} {v : Value}
    (sr : SR C E ef hf ds ρ I a w) (hd : ∀ d, dst = some d → d < E.nt) (hI : MLe I I') (hh : HLe ρ hf ρ' hf') (hs : HS ρ' hf' I' w')
    (hx : Ext E.w0 E.own E.I0 ρ' hf' I' w') (hv : VR ρ' hf' I' t v) : SR C E (updF ef dst t) hf' ds ρ' I' (a.put dst v) w' := by
  refine ⟨sr.glob.mono hI, hs, hx, sr.hle.trans hh, fun n => ?_, ?_, ?_⟩
  · rw [put_getD a dst v n E.nt sr.sz hd]
    cases dst with
    | none => exact VR.mono hI hh _ _ (sr.env n)
    | some d =>
      simp only [updF]
      by_cases h : d = n
      · rw [if_pos h, if_pos h]; exact hv
      · rw [if_neg h, if_neg h]; exact VR.mono hI hh _ _ (sr.env n)
  · cases dst <;> simp [Act.put, sr.sz]
  · have : (a.put dst v).defers = a.defers := by cases dst <;> rfl
    rw [this]; exact sr.dfs.mono hI hh
/-- An operation that leaves the world as it is. -/
theorem Does.pure {P : Program} {C : Ctx} {E : Ent} {ef : Nat → T} {hf : Objs} {ds : Ds} {ρ : Place} {I : Mem} {o : Oper} {t : T} {a : Act} {w : World} (v : Value)
    (sr : SR C E ef hf ds ρ I a w) (hr : (execOp a.eval o).run P w = .ok (.value v) w) (hv : VR ρ hf I t v) : Does P E hf ρ I o t [] a w :=
  ⟨_, v, ρ, I, w, hr, .inl rfl, MLe.refl _, HLe.refl _ _, sr.hs, sr.ext, hv⟩
theorem VR_const (ρ : Place) (h : Objs) (I : Mem) (v : Value) : VR ρ h I (ofConst v) v := by
  unfold ofConst
  split <;> simp [VR]
theorem VR_opd {C : Ctx} {E : Ent} {ef : Nat → T} {hf : Objs} {ds : Ds} {ρ : Place} {I : Mem} {a : Act} {w : World} (sr : SR C E ef hf ds ρ I a w) (x : Operand) :
    VR ρ hf I (opdF C ef x) (a.eval x) := by
  cases x with
  | tmp t => exact sr.env t
  | const v => exact VR_const _ _ _ v
  | global g =>
    rcases sr.glob g with h | h
    · simp [opdF, h, VR]
    · exact PV.vr _ _ h
  | func f => simp [opdF, VR, Act.eval, VRs]

/-! ### New memory -/
theorem live_lt {ρ : Place} {hf : Objs} {I : Mem} {w : World} {id : Nat} {o : Obj} (ho : OR ρ hf I w id o) (hl : o.live) : (ρ id).1 < w.heap.size := by
  cases o with
  | dead => exact hl.elim
  | row pu esz cs => obtain ⟨c, e, fz, hh, _⟩ := ho; exact (Array.getElem?_eq_some_iff.1 hh).1
  | it l pos => exact (Array.getElem?_eq_some_iff.1 ho).1
/-- The object that was made. -/
def made (ρ : Place) (w : World) (id n : Nat) : Place := fun m => if m = id then (w.heap.size, n) else ρ m
theorem made_HLe {ρ : Place} {hf : Objs} {w : World} {id g n : Nat} {o : Obj} (hg : ∀ g0 o0, hf id = some (g0, o0) → g0 < g) :
    HLe ρ hf (made ρ w id n) (updH hf [(id, g, o)]) := by
  intro m g1 o1 h1
  rw [updH_one]
  by_cases h : id = m
  · subst h; rw [if_pos rfl]; exact ⟨g, o, rfl, Nat.le_of_lt (hg _ _ h1), fun e => by have := hg _ _ h1; omega⟩
  · rw [if_neg h]
    exact ⟨g1, o1, h1, Nat.le_refl _, fun _ hd => ⟨by simp [made, Ne.symm h], hd, fun pu s cs e => ⟨pu, s, cs, e, rfl⟩⟩⟩
theorem OR.keep {ρ ρ' : Place} {hf hf' : Objs} {I I' : Mem} {w w' : World} {id : Nat} {o : Obj} (hI : MLe I I') (hh : HLe ρ hf ρ' hf') (hp : ρ' id = ρ id)
    (hb : w'.heap[(ρ id).1]? = w.heap[(ρ id).1]?) (ho : OR ρ hf I w id o) : OR ρ' hf' I' w' id o := by
  cases o with
  | dead => trivial
  | row pu esz cs =>
    obtain ⟨c, e, fz, h1, h2, h3, h4⟩ := ho
    refine ⟨c, e, fz, by rw [hp, hb]; exact h1, by rw [hp]; exact h2, h3, ?_⟩
    cases pu with
    | true => exact PVs.mono hI _ _ h4
    | false => exact VRs.mono hI hh _ _ h4
  | it l pos => show w'.heap[(ρ' id).1]? = _; rw [hp, hb]; exact ho
theorem newG_lt {hf : Objs} {d g0 : Nat} {o0 : Obj} (h : hf d = some (g0, o0)) : g0 < newG hf d := by simp [newG, h]
/-- A new block, whatever it is. -/
theorem alloc_HS {ρ : Place} {hf : Objs} {I : Mem} {w : World} {id g n : Nat} {o : Obj} {ob : Go.Obj} (hs : HS ρ hf I w) (hg : ∀ g0 o0, hf id = some (g0, o0) → g0 < g)
    (ho : OR (made ρ w id n) (updH hf [(id, g, o)]) I (w.alloc ob) id o) : HS (made ρ w id n) (updH hf [(id, g, o)]) I (w.alloc ob) := by
  have hle := made_HLe (ρ := ρ) (hf := hf) (w := w) (id := id) (g := g) (n := n) (o := o) hg
  have hlt : ∀ {m g1 o1}, hf m = some (g1, o1) → o1.live → (ρ m).1 < w.heap.size := fun h1 hl => live_lt (hs.obj _ _ _ h1) hl
  have hmem : ∀ {a v}, I a = some v → a.block < w.heap.size := fun h => World.block_lt_of_cell? _ _ (hs.mem _ _ h)
  refine ⟨fun a v h => ?_, fun m g1 o1 h1 => ?_, fun m m' g1 o1 g2 o2 h1 h2 l1 l2 hne => ?_, fun a v m g1 o1 h h1 l1 => ?_⟩
  · rw [World.cell?_alloc_lt _ _ _ (hmem h)]; exact hs.mem _ _ h
  · rw [updH_one] at h1
    by_cases h : id = m
    · subst h; rw [if_pos rfl] at h1; simp only [Option.some.injEq, Prod.mk.injEq] at h1; obtain ⟨_, rfl⟩ := h1; exact ho
    · rw [if_neg h] at h1
      by_cases hd : o1.live
      · exact (hs.obj _ _ _ h1).keep (MLe.refl _) hle (by simp [made, Ne.symm h]) (RowKit.Below.heap_alloc _ _ _ (hlt h1 hd))
      · cases o1 with
        | dead => trivial
        | row => exact absurd trivial hd
        | it => exact absurd trivial hd
  · rw [updH_one] at h1 h2
    by_cases h : id = m
    · subst h
      rw [if_neg hne] at h2
      simp only [made, if_pos, if_neg (Ne.symm hne)]
      exact Nat.ne_of_gt (hlt h2 l2)
    · rw [if_neg h] at h1
      by_cases h' : id = m'
      · subst h'
        simp only [made, if_pos, if_neg hne]
        exact Nat.ne_of_lt (hlt h1 l1)
      · rw [if_neg h'] at h2
        simp only [made, if_neg (Ne.symm h), if_neg (Ne.symm h')]
        exact hs.inj _ _ _ _ _ _ h1 h2 l1 l2 hne
  · rw [updH_one] at h1
    by_cases h' : id = m
    · subst h'; simp only [made, if_pos]; exact Nat.ne_of_lt (hmem h)
    · rw [if_neg h'] at h1
      simp only [made, if_neg (Ne.symm h')]
      exact hs.dis _ _ _ _ _ h h1 l1
theorem alloc_Ext {w0 : World} {own : Nat → Prop} {I0 : Mem} {ρ : Place} {hf : Objs} {I : Mem} {w : World} {id g n : Nat} {o : Obj} {ob : Go.Obj}
    (hx : Ext w0 own I0 ρ hf I w) : Ext w0 own I0 (made ρ w id n) (updH hf [(id, g, o)]) I (w.alloc ob) := by
  refine ⟨hx.os, hx.tape, hx.output, ?_, fun b hb hn => ?_, hx.sub, hx.new, fun m g1 o1 h1 l1 => ?_⟩
  · rw [World.size_alloc]; exact Nat.le_succ_of_le hx.size
  · rw [RowKit.Below.heap_alloc _ _ _ (Nat.lt_of_lt_of_le hb hx.size)]; exact hx.blk b hb hn
  · rw [updH_one] at h1
    by_cases h : id = m
    · subst h; left; simp only [made, if_pos]; exact hx.size
    · rw [if_neg h] at h1; simp only [made, if_neg (Ne.symm h)]; exact hx.own _ _ _ h1 l1
theorem HS.drew {ρ : Place} {hf : Objs} {I : Mem} {w : World} (hs : HS ρ hf I w) : HS ρ hf I w.drew := ⟨hs.mem, fun id g o h => by
  have := hs.obj id g o h
  cases o <;> exact this, hs.inj, hs.dis⟩
theorem Ext.drew {w0 : World} {own : Nat → Prop} {I0 : Mem} {ρ : Place} {hf : Objs} {I : Mem} {w : World} (hx : Ext w0 own I0 ρ hf I w) : Ext w0 own I0 ρ hf I w.drew :=
  ⟨hx.os, hx.tape, hx.output, hx.size, hx.blk, hx.sub, hx.new, hx.own⟩
/-- A new row of cells. -/
theorem row_OR {ρ : Place} {hf : Objs} {I : Mem} {w : World} {id g : Nat} {pu : Bool} {esz : Mk} {cs : List T} {c : Array Value} {e : TypeId} {fz : Nat × Nat} (hfz : Fit esz cs.length c.size e fz)
    (hg : ∀ g0 o0, hf id = some (g0, o0) → g0 < g) (hc : VRs ρ hf I cs (c.toList.take cs.length)) (hp : pu = true → PVs I cs (c.toList.take cs.length)) :
    OR (made ρ w id c.size) (updH hf [(id, g, .row pu esz cs)]) I (w.alloc (.cells c e fz)) id (.row pu esz cs) := by
  refine ⟨c, e, fz, ?_, by simp [made], hfz, ?_⟩
  · simp only [made, if_pos]; show (w.heap.push _)[w.heap.size]? = _; simp
  · cases pu with
    | true => exact hp rfl
    | false => exact VRs.mono (MLe.refl _) (made_HLe hg) _ _ hc

/-! ### Memory written -/
/-- One object turned, at its place: what stands in its block is new. -/
theorem write_HS {ρ : Place} {hf : Objs} {I : Mem} {w w' : World} {id g0 g : Nat} {o0 o : Obj} (hs : HS ρ hf I w) (hi : hf id = some (g0, o0)) (hl : o0.live)
    (hb : ∀ b, b ≠ (ρ id).1 → w'.heap[b]? = w.heap[b]?) (hh : HLe ρ hf ρ (updH hf [(id, g, o)]))
    (ho : OR ρ (updH hf [(id, g, o)]) I w' id o) : HS ρ (updH hf [(id, g, o)]) I w' := by
  refine ⟨fun a v h => ?_, fun m g1 o1 h1 => ?_, fun m m' g1 o1 g2 o2 h1 h2 l1 l2 hne => ?_, fun a v m g1 o1 h h1 l1 => ?_⟩
  · have := hb a.block (hs.dis _ _ _ _ _ h hi hl)
    rw [← hs.mem _ _ h]; simp only [World.cell?, this]
  · rw [updH_one] at h1
    by_cases h : id = m
    · subst h; rw [if_pos rfl] at h1; simp only [Option.some.injEq, Prod.mk.injEq] at h1; obtain ⟨_, rfl⟩ := h1; exact ho
    · rw [if_neg h] at h1
      by_cases hd : o1.live
      · exact (hs.obj _ _ _ h1).keep (MLe.refl _) hh rfl (hb _ (hs.inj _ _ _ _ _ _ h1 hi hd hl (Ne.symm h)))
      · cases o1 with
        | dead => trivial
        | row => exact absurd trivial hd
        | it => exact absurd trivial hd
  · have f1 : ∃ g1 o1, hf m = some (g1, o1) ∧ o1.live := by
      rw [updH_one] at h1
      by_cases h : id = m
      · subst h; exact ⟨_, _, hi, hl⟩
      · rw [if_neg h] at h1; exact ⟨_, _, h1, l1⟩
    have f2 : ∃ g1 o1, hf m' = some (g1, o1) ∧ o1.live := by
      rw [updH_one] at h2
      by_cases h : id = m'
      · subst h; exact ⟨_, _, hi, hl⟩
      · rw [if_neg h] at h2; exact ⟨_, _, h2, l2⟩
    obtain ⟨_, _, a1, b1⟩ := f1
    obtain ⟨_, _, a2, b2⟩ := f2
    exact hs.inj _ _ _ _ _ _ a1 a2 b1 b2 hne
  · rw [updH_one] at h1
    by_cases h' : id = m
    · subst h'; exact hs.dis _ _ _ _ _ h hi hl
    · rw [if_neg h'] at h1; exact hs.dis _ _ _ _ _ h h1 l1
theorem write_Ext {w0 : World} {own : Nat → Prop} {I0 : Mem} {ρ : Place} {hf : Objs} {I : Mem} {w w' : World} {id g : Nat} {o0 o : Obj} (hx : Ext w0 own I0 ρ hf I w)
    (hi : hf id = some (g, o0)) (hl : o0.live) (hos : w'.os = w.os) (ht : w'.tape = w.tape) (hout : w'.output = w.output) (hsz : w'.heap.size = w.heap.size)
    (hb : ∀ b, b ≠ (ρ id).1 → w'.heap[b]? = w.heap[b]?) (g' : Nat) : Ext w0 own I0 ρ (updH hf [(id, g', o)]) I w' := by
  refine ⟨hos.trans hx.os, ht.trans hx.tape, hout.trans hx.output, hsz ▸ hx.size, fun b hlt hn => ?_, hx.sub, hx.new, fun m g1 o1 h1 l1 => ?_⟩
  · have hne : b ≠ (ρ id).1 := fun e => by
      rcases hx.own _ _ _ hi hl with h | h
      · omega
      · exact hn (e ▸ h)
    rw [hb b hne]; exact hx.blk b hlt hn
  · rw [updH_one] at h1
    by_cases h : id = m
    · subst h; exact hx.own _ _ _ hi hl
    · rw [if_neg h] at h1; exact hx.own _ _ _ h1 l1
theorem same_HLe {ρ : Place} {hf : Objs} {id g : Nat} {pu pu' : Bool} {esz : Mk} {cs cs' : List T} (hi : hf id = some (g, .row pu esz cs)) :
    HLe ρ hf ρ (updH hf [(id, g, .row pu' esz cs')]) := by
  intro m g1 o1 h1
  rw [updH_one]
  by_cases h : id = m
  · subst h; rw [if_pos rfl]; rw [hi] at h1; simp only [Option.some.injEq, Prod.mk.injEq] at h1; obtain ⟨rfl, rfl⟩ := h1
    exact ⟨g, _, rfl, Nat.le_refl _, fun _ _ => ⟨rfl, by simp, fun pu1 esz1 cs1 e => by
      simp only [Obj.row.injEq] at e; obtain ⟨_, rfl, _⟩ := e; exact ⟨pu, esz, cs, rfl, rfl⟩⟩⟩
  · rw [if_neg h]; exact ⟨g1, o1, h1, Nat.le_refl _, fun _ hd => ⟨rfl, hd, fun pu s cs e => ⟨pu, s, cs, e, rfl⟩⟩⟩
end Go.Proofs.YtipomdmlkkifcaaGreatDoor.Vm
/- The symbolic machine, part 5: each operation does in Go's model what it does here. Numbers, strings, conversions. -/
namespace Go.Proofs.YtipomdmlkkifcaaGreatDoor.Vm
open Go
theorem toList_mk (l : List UInt8) : (ByteArray.mk ⟨l⟩).toList = l := by rw [ByteArray.toList_eq]
theorem size_mk (l : List UInt8) : (ByteArray.mk ⟨l⟩).size = l.length := rfl
/-- What is got out of the machine's own answer. -/
theorem okq_inv {t : T} {q : Prop} {r : AR} (h : okq t q = some r) : r.t = t ∧ r.d = [] ∧ r.q = [q] := by cases h; exact ⟨rfl, rfl, rfl⟩
theorem ok_inv {t : T} {r : AR} (h : ok t = some r) : r.t = t ∧ r.d = [] ∧ r.q = [] := by cases h; exact ⟨rfl, rfl, rfl⟩
theorem cur_inv {hl : Objs} {id g : Nat} (h : cur hl id g = true) : ∃ pu esz cs, hl id = some (g, .row pu esz cs) := by
  unfold cur at h
  split at h
  · rename_i g' pu esz cs e; exact ⟨pu, esz, cs, by rw [e, Nat.eq_of_beq_eq_true h]⟩
  · simp at h
theorem oku_inv {hl : Objs} {id g : Nat} {t : T} {q : List Prop} {r : AR} (h : oku hl id g t q = some r) : r.t = t ∧ r.d = [] ∧ r.q = q ∧ ∃ pu esz cs, hl id = some (g, .row pu esz cs) := by
  unfold oku at h
  split at h
  · rename_i hc; cases h; exact ⟨rfl, rfl, rfl, cur_inv hc⟩
  · simp at h
/-- An operation that yields a value and changes nothing. -/
def Yv (P : Program) (ρ : Place) (hf : Objs) (I : Mem) (r : AR) (s : Sem Value) (w : World) : Prop := r.d = [] ∧ ∃ v, s.run P w = .ok v w ∧ VR ρ hf I r.t v
section
variable {P : Program} {C : Ctx} {ρ : Place} {hf : Objs} {I : Mem} {w : World}

theorem binI_ok {op : BinOp} {k : IntKind} {x y : Int} {ty : TypeId} {X Y : Operand} {r : AR} (h : binI op k x y = some r) (hq : ∀ p ∈ r.q, p) :
    Yv P ρ hf I r (do eqGuard op ty X Y (.int k x) (.int k y); binOp op ty (.int k x) (.int k y)) w := by
  cases op <;> simp only [binI] at h <;> first
    | (cases h; done)
    | (obtain ⟨h1, h2, h3⟩ := ok_inv h; refine ⟨h2, ?_⟩; rw [h1]
       exact ⟨_, by simp [eqGuard, binOp, Op.intArith, Op.intBits, Op.intCmp, bitsI]; rfl, by simp [VR, bitsI]⟩)
    | (obtain ⟨h1, h2, h3⟩ := okq_inv h; refine ⟨h2, ?_⟩; rw [h1]
       have hy : y ≠ 0 := hq _ (by rw [h3]; simp)
       exact ⟨_, by simp [eqGuard, binOp, Op.intDiv, hy]; rfl, by simp [VR]⟩)
theorem shiftI_ok {op : BinOp} {k k' : IntKind} {x y : Int} {ty : TypeId} {X Y : Operand} {r : AR} (h : shiftI op k x y = some r) (hq : ∀ p ∈ r.q, p) :
    Yv P ρ hf I r (do eqGuard op ty X Y (.int k x) (.int k' y); binOp op ty (.int k x) (.int k' y)) w := by
  cases op <;> simp only [shiftI] at h <;> first
    | (cases h; done)
    | (obtain ⟨h1, h2, h3⟩ := okq_inv h; refine ⟨h2, ?_⟩; rw [h1]
       have hy : 0 ≤ y := hq _ (by rw [h3]; simp)
       have hy' : ¬ y < 0 := by omega
       exact ⟨_, by simp [eqGuard, binOp, Op.shift, hy']; rfl, by simp [VR]⟩)
theorem binS_ok {op : BinOp} {x y : List UInt8} {ty : TypeId} {X Y : Operand} {r : AR} (h : binS op x y = some r) (hq : ∀ p ∈ r.q, p) :
    Yv P ρ hf I r (do eqGuard op ty X Y (.string ⟨⟨x⟩⟩) (.string ⟨⟨y⟩⟩); binOp op ty (.string ⟨⟨x⟩⟩) (.string ⟨⟨y⟩⟩)) w := by
  cases op <;> simp only [binS] at h <;> first
    | (cases h; done)
    | (obtain ⟨h1, h2, h3⟩ := ok_inv h; refine ⟨h2, ?_⟩; rw [h1]
       exact ⟨_, by simp [eqGuard, binOp, Op.stringOp, toList_mk]; rfl, by simp [VR]⟩)
    | (obtain ⟨h1, h2, h3⟩ := okq_inv h; refine ⟨h2, ?_⟩; rw [h1]
       have hy : x.length + y.length ≤ 9223372036854775807 := hq _ (by rw [h3]; simp)
       have e := run_string_add_sum (P := P) w ⟨⟨x⟩⟩ ⟨⟨y⟩⟩ (by rw [size_mk, size_mk]; exact hy)
       refine ⟨_, by simp only [eqGuard, binOp, Sem.run_bind]; simp [e]; rfl, ?_⟩
       simp only [VR]; rw [ByteArray.mk_append_mk])
theorem binF_ok {op : BinOp} {k : FloatKind} {x y : Nat} {ty : TypeId} {X Y : Operand} {r : AR} (h : binF op k x y = some r) (hq : ∀ p ∈ r.q, p) :
    Yv P ρ hf I r (do eqGuard op ty X Y (.float k x) (.float k y); binOp op ty (.float k x) (.float k y)) w := by
  cases op <;> simp only [binF] at h <;> first
    | (cases h; done)
    | (obtain ⟨h1, h2, h3⟩ := ok_inv h; refine ⟨h2, ?_⟩; rw [h1]
       exact ⟨_, by simp [eqGuard, binOp, Op.floatCmp]; rfl, by simp [VR]⟩)

theorem eqIn_bool {ty : TypeId} {x y : Bool} (hk : P.underlying ty = some .bool) (d : Nat) : (Op.equalIn (d + 1) ty (.bool x) (.bool y)).run P w = .ok (x == y) w := by
  simp [Op.equalIn, run_underlying hk]
theorem eqIn_ptr {ty e : TypeId} {a : Option Addr} (hk : P.underlying ty = some (.pointer e)) (d : Nat) : (Op.equalIn (d + 1) ty (.pointer a) (.pointer none)).run P w = .ok a.isNone w := by
  cases a <;> simp [Op.equalIn, run_underlying hk]
theorem eqIn_nils {ty e : TypeId} (hk : P.underlying ty = some (.slice e)) (d : Nat) : (Op.equalIn (d + 1) ty (.slice none 0 0) (.slice none 0 0)).run P w = .ok true w := by
  simp [Op.equalIn, run_underlying hk]
theorem eq_eql {ty : TypeId} {x y : Value} {b : Bool} (h : (Op.equalIn (9999 + 1) ty x y).run P w = .ok b w) : (Op.equal ty x y).run P w = .ok b w := h
theorem bool_eql {ty : TypeId} {X Y : Operand} {x y : Bool} (hk : P.underlying ty = some .bool) :
    (do eqGuard .eql ty X Y (.bool x) (.bool y); binOp .eql ty (.bool x) (.bool y)).run P w = .ok (.bool (x == y)) w := by
  simp only [eqGuard, binOp, Sem.run_bind]; simp [eq_eql (eqIn_bool (w := w) (x := x) (y := y) hk 9999)]
theorem bool_neq {ty : TypeId} {X Y : Operand} {x y : Bool} (hk : P.underlying ty = some .bool) :
    (do eqGuard .neq ty X Y (.bool x) (.bool y); binOp .neq ty (.bool x) (.bool y)).run P w = .ok (.bool (!(x == y))) w := by
  simp only [eqGuard, binOp, Sem.run_bind]; simp [eq_eql (eqIn_bool (w := w) (x := x) (y := y) hk 9999)]
theorem nilp_eql {ty e : TypeId} {X Y : Operand} {a : Option Addr} (hk : P.underlying ty = some (.pointer e)) :
    (do eqGuard .eql ty X Y (.pointer a) (.pointer none); binOp .eql ty (.pointer a) (.pointer none)).run P w = .ok (.bool a.isNone) w := by
  simp only [eqGuard, binOp, Sem.run_bind]; simp [eq_eql (eqIn_ptr (w := w) (a := a) hk 9999)]
theorem nilp_neq {ty e : TypeId} {X Y : Operand} {a : Option Addr} (hk : P.underlying ty = some (.pointer e)) :
    (do eqGuard .neq ty X Y (.pointer a) (.pointer none); binOp .neq ty (.pointer a) (.pointer none)).run P w = .ok (.bool (!a.isNone)) w := by
  simp only [eqGuard, binOp, Sem.run_bind]; simp [eq_eql (eqIn_ptr (w := w) (a := a) hk 9999)]
theorem nils_eql {ty e : TypeId} {X Y : Operand} (hk : P.underlying ty = some (.slice e)) :
    (do eqGuard .eql ty X Y (.slice none 0 0) (.slice none 0 0); binOp .eql ty (.slice none 0 0) (.slice none 0 0)).run P w = .ok (.bool true) w := by
  simp only [eqGuard, binOp, Sem.run_bind]; simp [eq_eql (eqIn_nils (w := w) hk 9999)]
theorem nils_neq {ty e : TypeId} {X Y : Operand} (hk : P.underlying ty = some (.slice e)) :
    (do eqGuard .neq ty X Y (.slice none 0 0) (.slice none 0 0); binOp .neq ty (.slice none 0 0) (.slice none 0 0)).run P w = .ok (.bool false) w := by
  simp only [eqGuard, binOp, Sem.run_bind]; simp [eq_eql (eqIn_nils (w := w) hk 9999)]
theorem VR_p {id g off : Nat} {v : Value} {pu : Bool} {esz : Mk} {cs : List T} (h : VR ρ hf I (.p id g off) v) (hi : hf id = some (g, .row pu esz cs)) :
    v = .pointer (some ⟨(ρ id).1, off, none⟩) := by
  simp only [VR] at h
  obtain ⟨_, g', o, e, _, hr⟩ := h
  rw [hi] at e; simp only [Option.some.injEq, Prod.mk.injEq] at e; obtain ⟨rfl, rfl⟩ := e
  exact hr rfl (by simp)
theorem VR_ref {id g off n : Nat} {v : Value} {pu : Bool} {esz : Mk} {cs : List T} (h : VR ρ hf I (.ref id g off n) v) (hi : hf id = some (g, .row pu esz cs)) :
    ∃ b cap, v = .slice (some ⟨(ρ id).1, b, none⟩) n cap ∧ (b = off ∨ cap = 0) ∧ b + cap * szOf esz ≤ (ρ id).2 ∧ n ≤ cap := by
  simp only [VR] at h
  obtain ⟨_, g', o, e, _, hr⟩ := h
  rw [hi] at e; simp only [Option.some.injEq, Prod.mk.injEq] at e; obtain ⟨rfl, rfl⟩ := e
  exact hr rfl _ _ _ rfl
theorem VR_p_mk {id g off : Nat} {pu : Bool} {esz : Mk} {cs : List T} (hi : hf id = some (g, .row pu esz cs)) :
    VR ρ hf I (.p id g off) (.pointer (some ⟨(ρ id).1, off, none⟩)) := by
  simp only [VR]; exact ⟨rfl, g, _, hi, Nat.le_refl _, fun _ _ => trivial⟩
theorem bin_ok {op : BinOp} {x y : T} {ty : TypeId} {X Y : Operand} {vx vy : Value} {or : Or} {r : AR} (hT : TabOk P C)
    (h : bin hf op (tin C ty).k x y or (Says P op ty X Y x y) = some r) (hq : ∀ p ∈ r.q, p) (hx : VR ρ hf I x vx) (hy : VR ρ hf I y vy) :
    Yv P ρ hf I r (do eqGuard op ty X Y vx vy; binOp op ty vx vy) w := by
  have hk := (hT ty).1
  generalize (tin C ty).k = k at h hk
  unfold bin at h
  split at h
  · simp only [VR] at hx hy; subst hx; subst hy
    split at h
    · exact shiftI_ok h hq
    · exact shiftI_ok h hq
    · split at h
      · rename_i hb; obtain rfl := ikN_inj (Nat.eq_of_beq_eq_true hb); exact binI_ok h hq
      · cases h
  · simp only [VR] at hx hy; subst hx; subst hy; exact binS_ok h hq
  · simp only [VR] at hx hy; subst hx; subst hy
    split at h
    · cases h
    · rename_i hb; obtain rfl := fkN_inj (Nat.eq_of_beq_eq_true hb)
      split at h
      · obtain ⟨h1, h2, h3⟩ := okq_inv h
        have hy : _ = _ := hq _ (by rw [h3]; exact List.mem_singleton.2 rfl)
        exact ⟨h2, _, by simp only [eqGuard, binOp, Sem.run_bind, Op.floatArith]; simp [hy]; rfl, by rw [h1]; simp [VR]⟩
      · obtain ⟨h1, h2, h3⟩ := okq_inv h
        have hy : _ = _ := hq _ (by rw [h3]; exact List.mem_singleton.2 rfl)
        exact ⟨h2, _, by simp only [eqGuard, binOp, Sem.run_bind, Op.floatArith]; simp [hy]; rfl, by rw [h1]; simp [VR]⟩
      · exact binF_ok h hq
  · simp only [VR] at hx hy; subst hx; subst hy
    split at h
    · cases h
    · rename_i hb; obtain rfl := fkN_inj (Nat.eq_of_beq_eq_true hb)
      split at h
      · obtain ⟨h1, h2, h3⟩ := okq_inv h
        obtain ⟨e1, e2⟩ : _ ∧ _ := hq _ (by rw [h3]; exact List.mem_singleton.2 rfl)
        exact ⟨h2, _, by simp only [eqGuard, binOp, Sem.run_bind, Op.complexOp, Op.Complex.arith, Op.floatArith]; simp [e1, e2]; rfl, by rw [h1]; simp [VR]⟩
      · obtain ⟨h1, h2, h3⟩ := okq_inv h
        obtain ⟨e1, e2⟩ : _ ∧ _ := hq _ (by rw [h3]; exact List.mem_singleton.2 rfl)
        exact ⟨h2, _, by simp only [eqGuard, binOp, Sem.run_bind, Op.complexOp, Op.Complex.arith, Op.floatArith]; simp [e1, e2]; rfl, by rw [h1]; simp [VR]⟩
      · obtain ⟨h1, h2, h3⟩ := ok_inv h
        rw [Yv, h1]
        refine ⟨h2, _, by simp [eqGuard, binOp, Op.complexOp, Op.Complex.cmp, Op.floatCmp, asBool]; rfl, ?_⟩
        simp only [VR]
      · obtain ⟨h1, h2, h3⟩ := ok_inv h
        rw [Yv, h1]
        refine ⟨h2, _, by simp [eqGuard, binOp, Op.complexOp, Op.Complex.cmp, Op.floatCmp, asBool]; rfl, ?_⟩
        simp only [VR]; rw [Bool.not_and]
      · cases h
  · simp only [VR] at hx hy; subst hx; subst hy
    split at h <;> first
      | (obtain ⟨h1, h2, h3⟩ := ok_inv h; rw [Yv, h1]; exact ⟨h2, _, bool_eql hk, by simp [VR]⟩)
      | (obtain ⟨h1, h2, h3⟩ := ok_inv h; rw [Yv, h1]; exact ⟨h2, _, bool_neq hk, by simp [VR]⟩)
      | (cases h; done)
  · simp only [VR] at hx hy; subst hx; subst hy
    split at h <;> first
      | (obtain ⟨h1, h2, h3⟩ := ok_inv h; rw [Yv, h1]; exact ⟨h2, _, bool_eql hk, by simp [VR]⟩)
      | (obtain ⟨h1, h2, h3⟩ := ok_inv h; rw [Yv, h1]; exact ⟨h2, _, bool_neq hk, by simp [VR]⟩)
      | (cases h; done)
  · simp only [VR] at hx hy; subst hx; subst hy
    split at h <;> first
      | (obtain ⟨h1, h2, h3⟩ := ok_inv h; rw [Yv, h1]; exact ⟨h2, _, bool_eql hk, by simp [VR]⟩)
      | (obtain ⟨h1, h2, h3⟩ := ok_inv h; rw [Yv, h1]; exact ⟨h2, _, bool_neq hk, by simp [VR]⟩)
      | (cases h; done)
  · simp only [VR] at hx hy; subst hx; subst hy
    split at h <;> first
      | (obtain ⟨h1, h2, h3⟩ := ok_inv h; rw [Yv, h1]; exact ⟨h2, _, bool_eql hk, by simp [VR]⟩)
      | (obtain ⟨h1, h2, h3⟩ := ok_inv h; rw [Yv, h1]; exact ⟨h2, _, bool_neq hk, by simp [VR]⟩)
      | (cases h; done)
  · simp only [VR] at hx hy; subst hx; subst hy
    split at h <;> first
      | (obtain ⟨h1, h2, h3⟩ := ok_inv h; rw [Yv, h1]; exact ⟨h2, _, nilp_eql hk, by simp [VR]⟩)
      | (obtain ⟨h1, h2, h3⟩ := ok_inv h; rw [Yv, h1]; exact ⟨h2, _, nilp_neq hk, by simp [VR]⟩)
      | (cases h; done)
  · split at h
    · obtain ⟨h1, h2, h3, pu, esz, cs, hi⟩ := oku_inv h
      obtain rfl := VR_p hx hi
      simp only [VR] at hy; subst hy; rw [Yv, h1]; exact ⟨h2, _, nilp_eql hk, by simp [VR]⟩
    · obtain ⟨h1, h2, h3, pu, esz, cs, hi⟩ := oku_inv h
      obtain rfl := VR_p hx hi
      simp only [VR] at hy; subst hy; rw [Yv, h1]; exact ⟨h2, _, nilp_neq hk, by simp [VR]⟩
    · cases h
  · simp only [VR, PV] at hx hy
    obtain ⟨a, b, vs, rfl, _, _⟩ := hx
    subst hy
    split at h <;> first
      | (obtain ⟨h1, h2, h3⟩ := ok_inv h; rw [Yv, h1]; exact ⟨h2, _, nilp_eql hk, by simp [VR]⟩)
      | (obtain ⟨h1, h2, h3⟩ := ok_inv h; rw [Yv, h1]; exact ⟨h2, _, nilp_neq hk, by simp [VR]⟩)
      | (cases h; done)
  · simp only [VR] at hx hy; subst hx; subst hy
    split at h <;> first
      | (obtain ⟨h1, h2, h3⟩ := ok_inv h; rw [Yv, h1]; exact ⟨h2, _, nils_eql hk.1, by simp [VR]⟩)
      | (obtain ⟨h1, h2, h3⟩ := ok_inv h; rw [Yv, h1]; exact ⟨h2, _, nils_neq hk.1, by simp [VR]⟩)
      | (cases h; done)
  · split at h
    · obtain ⟨h1, h2, h3⟩ := okq_inv h
      have hs : Says _ _ _ _ _ _ _ _ := hq _ (by rw [h3]; exact List.mem_singleton.2 rfl)
      rw [Yv, h1]; exact ⟨h2, _, hs ρ hf I vx vy w hx hy, by simp [VR]⟩
    · obtain ⟨h1, h2, h3⟩ := okq_inv h
      have hs : Says _ _ _ _ _ _ _ _ := hq _ (by rw [h3]; exact List.mem_singleton.2 rfl)
      rw [Yv, h1]; exact ⟨h2, _, hs ρ hf I vx vy w hx hy, by simp [VR]⟩
    · cases h
theorem un_ok {op : UnOp} {x : T} {vx : Value} {r : AR} (h : aUn op x = some r) (hx : VR ρ hf I x vx) : Yv P ρ hf I r (Op.unary op vx) w := by
  unfold aUn at h
  split at h
  · obtain ⟨h1, h2, h3⟩ := ok_inv h; simp only [VR] at hx; subst hx; rw [Yv, h1]; exact ⟨h2, _, by simp [Op.unary, Op.intArith]; rfl, by simp [VR]⟩
  · obtain ⟨h1, h2, h3⟩ := ok_inv h; simp only [VR] at hx; subst hx; rw [Yv, h1]; exact ⟨h2, _, by simp [Op.unary, Op.intBits]; rfl, by simp [VR, bitsI]⟩
  · obtain ⟨h1, h2, h3⟩ := ok_inv h; simp only [VR] at hx; subst hx; rw [Yv, h1]; exact ⟨h2, _, by simp [Op.unary]; rfl, by simp [VR]⟩
  · obtain ⟨h1, h2, h3⟩ := ok_inv h; simp only [VR] at hx; subst hx; rw [Yv, h1]; exact ⟨h2, _, by simp [Op.unary]; rfl, by simp [VR]⟩
  · cases h
theorem len_ok {t ty : TypeId} {x : T} {vx : Value} {r : AR} {e : TypeId} (hk : P.underlying t = some (.slice e)) (h : aLen hf x = some r) (hx : VR ρ hf I x vx) :
    Yv P ρ hf I r (Builtin.len_ #[t] ty #[vx]) w := by
  unfold aLen at h
  split at h
  · obtain ⟨h1, h2, h3, pu, esz, cs, hi⟩ := oku_inv h
    obtain ⟨b, cap, rfl, _⟩ := VR_ref hx hi
    rw [Yv, h1]; exact ⟨h2, _, by simp [Builtin.len_, run_underlying hk]; rfl, by simp [VR, goInt]⟩
  · obtain ⟨h1, h2, h3⟩ := ok_inv h
    simp only [VR, PV] at hx; obtain ⟨a, cap, vs, rfl, _⟩ := hx
    rw [Yv, h1]; exact ⟨h2, _, by simp [Builtin.len_, run_underlying hk]; rfl, by simp [VR, goInt]⟩
  · obtain ⟨h1, h2, h3⟩ := ok_inv h
    simp only [VR] at hx; subst hx
    rw [Yv, h1]; exact ⟨h2, _, by simp [Builtin.len_, run_underlying hk]; rfl, by simp [VR, goInt]⟩
  · cases h
theorem minI_run {k : IntKind} : ∀ {l : List T} {vs : List Value} {x z : Int}, foldI minI k l x = some z → VRs ρ hf I l vs →
    (vs.foldlM Builtin.min2 (.int k x)).run P w = .ok (.int k z) w
  | [], vs, x, z, h, hv => by simp only [VRs] at hv; subst hv; simp only [foldI, Option.some.injEq] at h; subst h; simp
  | t :: l, vs, x, z, h, hv => by
    simp only [VRs] at hv
    obtain ⟨v, r, rfl, h1, h2⟩ := hv
    unfold foldI at h
    split at h
    · rename_i heq; simp at heq
    · rename_i k' y l' x' heq
      simp only [List.cons.injEq] at heq
      obtain ⟨rfl, rfl⟩ := heq
      split at h
      · rename_i hb; obtain rfl := ikN_inj (Nat.eq_of_beq_eq_true hb)
        simp only [VR] at h1; subst h1
        have := minI_run h h2
        simp only [List.foldlM_cons, Sem.run_bind, Builtin.min2, Sem.run_pure, Result.andThen_ok]
        exact this
      · cases h
    · cases h
theorem maxI_run {k : IntKind} : ∀ {l : List T} {vs : List Value} {x z : Int}, foldI maxI k l x = some z → VRs ρ hf I l vs →
    (vs.foldlM Builtin.max2 (.int k x)).run P w = .ok (.int k z) w
  | [], vs, x, z, h, hv => by simp only [VRs] at hv; subst hv; simp only [foldI, Option.some.injEq] at h; subst h; simp
  | t :: l, vs, x, z, h, hv => by
    simp only [VRs] at hv
    obtain ⟨v, r, rfl, h1, h2⟩ := hv
    unfold foldI at h
    split at h
    · rename_i heq; simp at heq
    · rename_i k' y l' x' heq
      simp only [List.cons.injEq] at heq
      obtain ⟨rfl, rfl⟩ := heq
      split at h
      · rename_i hb; obtain rfl := ikN_inj (Nat.eq_of_beq_eq_true hb)
        simp only [VR] at h1; subst h1
        have := maxI_run h h2
        simp only [List.foldlM_cons, Sem.run_bind, Builtin.max2, Sem.run_pure, Result.andThen_ok]
        exact this
      · cases h
    · cases h
theorem bound_run {k : IntKind} {i : Int} {y : Nat} {code : BoundsCode} (h0 : 0 ≤ i) (h1 : i ≤ y) : (Instr.sliceBound (.int k i) y code).run P w = .ok i.toNat w :=
  run_sliceBound w k i y code h0 h1
theorem extract_mk (l : List UInt8) (a b : Nat) : (ByteArray.mk ⟨l⟩).extract a b = ⟨⟨(l.take b).drop a⟩⟩ := by
  rw [show (ByteArray.mk ⟨l⟩) = ByteArray.mk l.toArray from rfl, ByteArray.extract_mk]
  rw [List.drop_take]
theorem sliceS_ok {t : TypeId} {l : List UInt8} {lo hi : Option T} {vlo vhi : Option Value} {r : AR} (hT : TabOk P C) (h : aSlice C hf t (.s l) lo hi = some r) (hq : ∀ p ∈ r.q, p)
    (hlo : ∀ x, lo = some x → ∃ v, vlo = some v ∧ VR ρ hf I x v) (hlo' : lo = none → vlo = none) (hhi : ∀ x, hi = some x → ∃ v, vhi = some v ∧ VR ρ hf I x v) (hhi' : hi = none → vhi = none) :
    Yv P ρ hf I r (Instr.sliceAt t (.string ⟨⟨l⟩⟩) vlo vhi none) w := by
  have hk := (hT t).1
  unfold aSlice at h
  simp only at h
  split at h
  · rename_i e; rw [e] at hk
    obtain ⟨h1, h2, h3⟩ := ok_inv h
    rw [Yv, h1, hlo' rfl, hhi' rfl]
    exact ⟨h2, _, by rw [run_sliceAt_string w _ _ _ _ _ hk]; simp [Instr.slice, run_underlying hk, Instr.sliceBounds]; rfl, by simp [VR, extract_mk, size_mk]⟩
  · rename_i k a e; rw [e] at hk
    obtain ⟨h1, h2, h3⟩ := okq_inv h
    obtain ⟨b1, b2⟩ : _ ∧ _ := hq _ (by rw [h3]; exact List.mem_singleton.2 rfl)
    obtain ⟨v, rfl, hv⟩ := hlo _ rfl
    simp only [VR] at hv; subst hv
    rw [Yv, h1, hhi' rfl]
    exact ⟨h2, _, by rw [run_sliceAt_string w _ _ _ _ _ hk]; simp [Instr.slice, run_underlying hk, Instr.sliceBounds, bound_run b1 (show a ≤ ((ByteArray.mk ⟨l⟩).size : Int) from b2)]; rfl, by simp [VR, extract_mk, size_mk]⟩
  · rename_i k a e; rw [e] at hk
    obtain ⟨h1, h2, h3⟩ := okq_inv h
    obtain ⟨b1, b2⟩ : _ ∧ _ := hq _ (by rw [h3]; exact List.mem_singleton.2 rfl)
    obtain ⟨v, rfl, hv⟩ := hhi _ rfl
    simp only [VR] at hv; subst hv
    rw [Yv, h1, hlo' rfl]
    exact ⟨h2, _, by rw [run_sliceAt_string w _ _ _ _ _ hk]; simp [Instr.slice, run_underlying hk, Instr.sliceBounds, bound_run b1 (show a ≤ ((ByteArray.mk ⟨l⟩).size : Int) from b2)]; rfl, by simp [VR, extract_mk, size_mk]⟩
  · rename_i k a k2 c e; rw [e] at hk
    obtain ⟨h1, h2, h3⟩ := okq_inv h
    obtain ⟨b1, b2, b3⟩ : _ ∧ _ ∧ _ := hq _ (by rw [h3]; exact List.mem_singleton.2 rfl)
    obtain ⟨v, rfl, hv⟩ := hlo _ rfl
    obtain ⟨v2, rfl, hv2⟩ := hhi _ rfl
    simp only [VR] at hv hv2; subst hv; subst hv2
    rw [Yv, h1]
    have b2' : a ≤ (c.toNat : Int) := by omega
    exact ⟨h2, _, by rw [run_sliceAt_string w _ _ _ _ _ hk]; simp [Instr.slice, run_underlying hk, Instr.sliceBounds, bound_run (show 0 ≤ c by omega) (show c ≤ ((ByteArray.mk ⟨l⟩).size : Int) from b3), bound_run b1 b2']; rfl, by simp [VR, extract_mk]⟩
  · cases h
end
end Go.Proofs.YtipomdmlkkifcaaGreatDoor.Vm
/- The symbolic machine, part 6: the operations on memory. -/
namespace Go.Proofs.YtipomdmlkkifcaaGreatDoor.Vm
open Go
theorem celly_one {ρ : Place} {hf : Objs} {I : Mem} {t : T} {v : Value} (hc : celly t = true) (hv : VR ρ hf I t v) : v.oneCell' = true := by
  cases t <;> simp only [celly, Bool.false_eq_true] at hc
  all_goals simp only [VR, PV] at hv
  all_goals first
    | (subst hv; rfl)
    | exact hv.1
    | (obtain ⟨_, _, _, rfl, _⟩ := hv; rfl)
    | (obtain ⟨_, _, rfl, _⟩ := hv; rfl)
    | (obtain ⟨_, rfl, _⟩ := hv; rfl)
theorem cellyL_one {ρ : Place} {hf : Objs} {I : Mem} : ∀ {ts : List T} {vs : List Value}, cellyL ts = true → VRs ρ hf I ts vs → ∀ v ∈ vs, v.oneCell' = true
  | [], _, _, hv, v, hm => by simp only [VRs] at hv; subst hv; simp at hm
  | t :: ts, _, hc, hv, u, hm => by
    simp only [VRs] at hv
    obtain ⟨v, r, rfl, h1, h2⟩ := hv
    simp only [cellyL] at hc
    cases hb : celly t with
    | false => rw [hb] at hc; simp at hc
    | true =>
      rw [hb] at hc
      rcases List.mem_cons.1 hm with rfl | hm
      · exact celly_one hb h1
      · exact cellyL_one hc h2 u hm
theorem plain_celly {t : T} (h : plain t = true) : celly t = true := by cases t <;> simp_all [plain, celly]
theorem plainL_celly : ∀ {ts : List T}, plainL ts = true → cellyL ts = true
  | [], _ => rfl
  | t :: ts, h => by
    simp only [plainL] at h
    cases hb : plain t with
    | false => rw [hb] at h; simp at h
    | true => rw [hb] at h; simp only [cellyL, plain_celly hb, plainL_celly h]
theorem cells_one {v : Value} (h : v.oneCell' = true) : v.cells = #[v] := by cases v <;> simp_all [Value.oneCell', Value.cells]
theorem cells_of {ρ : Place} {hf : Objs} {I : Mem} {x : T} {v : Value} (hc : cellyL (cellsT x) = true) (hv : VR ρ hf I x v) : VRs ρ hf I (cellsT x) v.cells.toList := by
  cases x with
  | agg cs => simp only [VR] at hv; obtain ⟨vs, rfl, h⟩ := hv; exact h
  | _ =>
    simp only [cellsT, cellyL] at hc ⊢
    first
      | (simp only [celly, Bool.false_eq_true] at hc; done)
      | (rw [cells_one (celly_one (t := _) rfl hv)]; exact ⟨v, [], rfl, hv, rfl⟩)

/-! ### Reading -/
theorem readAt_inv {cs : List T} {off n : Nat} {agg : Bool} {or : Or} {u : List Nat} {r : AR} (h : readAt cs off n agg or u = some r) (hq : ∀ p ∈ r.q, p) (hn : 0 < n) :
    r.d = [] ∧ (agg = false → cs[off]? = some r.t) ∧ (agg = true → r.t = .agg ((cs.drop off).take n) ∧ off + n ≤ cs.length) := by
  unfold readAt at h
  split at h
  · split at h
    · split at h
      · rename_i hb
        rw [forceL_eq] at h; cases h
        exact ⟨rfl, fun e => by simp at e, fun _ => ⟨rfl, Nat.le_of_ble_eq_true hb⟩⟩
      · cases h
    · split at h
      · rename_i y l hd
        rw [force_eq] at h; cases h
        refine ⟨rfl, fun _ => ?_, fun e => by simp at e⟩
        have := List.getElem?_drop (xs := cs) (i := off) (j := 0)
        rw [hd] at this; simpa using this.symm
      · cases h
  · rename_i ys
    split at h
    · rename_i hl
      have hl' := Nat.eq_of_beq_eq_true hl
      split at h
      · cases h
        have e : (cs.drop off).take n = ys := hq _ (by simp)
        refine ⟨rfl, fun e => by simp at e, fun _ => ⟨by rw [e], ?_⟩⟩
        have := congrArg List.length e
        rw [List.length_take, List.length_drop, hl'] at this
        omega
      · cases h
        exact ⟨rfl, fun _ => hq _ (by simp), fun e => by simp at e⟩
      · cases h
    · cases h
  · cases h
theorem add_off (b o n : Nat) : Addr.add ⟨b, o, none⟩ n = ⟨b, o + n, none⟩ := Addr.add_lit b o n
/-- A variable of a known size is read out of cells that lie in a row. -/
theorem loadVar_run {P : Program} {C : Ctx} {ρ : Place} {hf : Objs} {I : Mem} {w : World} {t : TypeId} {cs : List T} {vals : List Value} {blk b off : Nat} {or : Or} {u : List Nat} {r : AR}
    (hT : TabOk P C) (hsz : Nat.beq (tin C t).size 0 = false) (h : readAt cs off (tin C t).size (tin C t).agg or u = some r) (hq : ∀ p ∈ r.q, p)
    (hv : VRs ρ hf I cs vals) (hm : ∀ j v, vals[j]? = some v → w.cell? ⟨blk, b + j, none⟩ = some v) :
    r.d = [] ∧ ∃ v, (loadVar t ⟨blk, b + off, none⟩).run P w = .ok v w ∧ VR ρ hf I r.t v := by
  have hk := (hT t).2.resolve_left (fun e => by rw [e] at hsz; simp at hsz)
  obtain ⟨⟨inf, z, hi, hs, _⟩, d, hd, ha⟩ := hk
  obtain ⟨h1, h2, h3⟩ := readAt_inv h hq (Nat.pos_of_ne_zero fun e => by rw [e] at hsz; simp at hsz)
  refine ⟨h1, ?_⟩
  have hagg : (isAgg t).run P w = .ok (tin C t).agg w := by
    rw [← ha]
    simp only [isAgg, Sem.run_bind, run_underlying hd, Result.andThen_ok]
    cases d <;> simp [isAggD]
  have hsize : (sizeOf t).run P w = .ok (tin C t).size w := by
    rw [run_sizeOf w hi]; simp [Program.cellsOf, hi, hs]
  cases hg : (tin C t).agg with
  | false =>
    obtain ⟨v, hv1, hv2⟩ := hv.get _ _ (h2 hg)
    refine ⟨v, ?_, hv2⟩
    rw [hg] at hagg
    have := hm _ _ hv1
    simp [loadVar, hagg, this]
  | true =>
    obtain ⟨e, hle⟩ := h3 hg
    rw [hg] at hagg
    have hl : (loadCells ⟨blk, b + off, none⟩ ((vals.drop off).take (tin C t).size).length).run P w = .ok ((vals.drop off).take (tin C t).size).toArray w := by
      refine run_loadCells_list w _ _ fun j v hj => ?_
      rw [add_off]
      rw [List.getElem?_take] at hj
      split at hj
      · rw [List.getElem?_drop] at hj; rw [Nat.add_assoc]; exact hm _ _ hj
      · simp at hj
    have hlen : ((vals.drop off).take (tin C t).size).length = (tin C t).size := by
      rw [List.length_take, List.length_drop, hv.length]; omega
    rw [hlen] at hl
    refine ⟨.agg ((vals.drop off).take (tin C t).size).toArray, by simp [loadVar, hagg, hsize, hl], ?_⟩
    rw [e]; exact ⟨_, rfl, (hv.drop off).take _⟩
theorem cell_of {w : World} {blk : Nat} {c : Array Value} {e : TypeId} {fz : Nat × Nat} (h : w.heap[blk]? = some (.cells c e fz)) (j : Nat) : w.cell? ⟨blk, j, none⟩ = c[j]? := by
  simp [World.cell?, h]
/-- The cells of a row. -/
theorem row_cells {ρ : Place} {hf : Objs} {I : Mem} {w : World} {id g : Nat} {pu : Bool} {esz : Mk} {cs : List T} (hs : HS ρ hf I w) (hi : hf id = some (g, .row pu esz cs)) :
    ∃ c e fz, w.heap[(ρ id).1]? = some (.cells c e fz) ∧ c.size = (ρ id).2 ∧ Fit esz cs.length c.size e fz ∧ VRs ρ hf I cs (c.toList.take cs.length) ∧ cs.length ≤ c.size ∧
      (∀ j v, (c.toList.take cs.length)[j]? = some v → w.cell? ⟨(ρ id).1, j, none⟩ = some v) ∧ (pu = true → PVs I cs (c.toList.take cs.length)) := by
  obtain ⟨c, e, fz, h1, h2, h3, h4⟩ := hs.obj _ _ _ hi
  have h5 : VRs ρ hf I cs (c.toList.take cs.length) := by
    cases pu with
    | true => exact PVs.vrs _ _ h4
    | false => exact h4
  refine ⟨c, e, fz, h1, h2, h3, h5, ?_, fun j v hj => ?_, fun hp => by subst hp; exact h4⟩
  · have := h5.length; rw [List.length_take] at this; simp at this; omega
  · rw [cell_of h1]
    rw [List.getElem?_take] at hj
    split at hj
    · simpa using hj
    · simp at hj
theorem load_ok {P : Program} {C : Ctx} {ρ : Place} {hf : Objs} {I : Mem} {w : World} {t : TypeId} {x : T} {vx : Value} {or : Or} {r : AR} (hT : TabOk P C) (hs : HS ρ hf I w)
    (h : aLoad C hf t x or = some r) (hq : ∀ p ∈ r.q, p) (hx : VR ρ hf I x vx) : Yv P ρ hf I r (Instr.loadAt t vx) w := by
  unfold aLoad at h
  split at h
  · cases h
  · rename_i hsz
    split at h
    · split at h
      · rename_i id g off g' pu esz cs hi
        split at h
        · rename_i hg; obtain rfl := Nat.eq_of_beq_eq_true hg
          obtain rfl := VR_p hx hi
          obtain ⟨c, e, fz, _, _, _, h5, _, h6, _⟩ := row_cells hs hi
          obtain ⟨a1, v, a2, a3⟩ := loadVar_run (b := 0) hT hsz h hq h5 (fun j v hj => by rw [Nat.zero_add]; exact h6 j v hj)
          rw [Nat.zero_add] at a2
          exact ⟨a1, v, by simpa [Instr.loadAt, Instr.sureAddr] using a2, a3⟩
        · cases h
      · cases h
    · simp only [VR, PV] at hx
      obtain ⟨blk, b, vs, rfl, h5, h6⟩ := hx
      obtain ⟨a1, v, a2, a3⟩ := loadVar_run (b := b) hT hsz h hq (PVs.vrs (ρ := ρ) (h := hf) _ _ h5) (fun j v hj => hs.mem _ _ (h6.2 j v hj))
      exact ⟨a1, v, by simpa [Instr.loadAt, Instr.sureAddr] using a2, a3⟩
    · cases h

/-! ### Writing -/
theorem storeCells_run {P : Program} {blk off : Nat} {e : TypeId} {fz : Nat × Nat} : ∀ (vs : List Value) (i : Nat) (w : World) (c : Array Value), w.heap[blk]? = some (.cells c e fz) → Thawed fz c.size →
    off + i + vs.length ≤ c.size → (∀ v ∈ vs, v.oneCell' = true) →
    ∃ w' c', (storeCells ⟨blk, off, none⟩ vs i).run P w = .ok () w' ∧ w'.os = w.os ∧ w'.tape = w.tape ∧ w'.output = w.output ∧ w'.heap.size = w.heap.size ∧
      (∀ b, b ≠ blk → w'.heap[b]? = w.heap[b]?) ∧ w'.heap[blk]? = some (.cells c' e fz) ∧ c'.size = c.size ∧
      c'.toList = c.toList.take (off + i) ++ vs ++ c.toList.drop (off + i + vs.length) := by
  intro vs
  induction vs with
  | nil =>
    intro i w c h _ _ _
    exact ⟨w, c, by simp [storeCells], rfl, rfl, rfl, rfl, fun _ _ => rfl, h, rfl, by simp⟩
  | cons v vs ih =>
    intro i w c h hz hl ho
    simp only [List.length_cons] at hl
    have hcell : w.cell? ⟨blk, off + i, none⟩ = c[off + i]? := cell_of h _
    have hsome : c[off + i]? = some c[off + i] := by simp
    have hfz : w.frozen? ⟨blk, off + i, none⟩ = false := by
      have := hz (off + i) (by omega)
      simp only [World.frozen?, h]
      by_cases h1 : fz.1 ≤ off + i <;> by_cases h2 : off + i < fz.2 <;> simp [h1, h2] <;> omega
    have hs1 : (store ((⟨blk, off, none⟩ : Addr).add i) v).run P w = .ok () (w.setCell ⟨blk, off + i, none⟩ v) := by
      rw [add_off, run_store P w _ v .plain (ho v (by simp)), hcell, hsome]; simp [hfz]
    have hb : (w.setCell ⟨blk, off + i, none⟩ v).heap[blk]? = some (.cells (c.setIfInBounds (off + i) v) e fz) := by
      simp [World.setCell, Array.getElem?_modify, h]
    obtain ⟨w', c', r1, r2, r3, r4, r5, r6, r7, r8, r9⟩ := ih (i + 1) (w.setCell ⟨blk, off + i, none⟩ v) (c.setIfInBounds (off + i) v) hb (by simpa using hz) (by simp; omega) (fun v hv => ho v (by simp [hv]))
    refine ⟨w', c', ?_, r2, r3, r4, r5.trans (by simp [World.setCell]), fun b hb' => (r6 b hb').trans ?_, r7, by simpa using r8, ?_⟩
    · simp only [storeCells, Sem.run_bind, hs1, Result.andThen_ok]; exact r1
    · simp [World.setCell, Array.getElem?_modify, Ne.symm hb']
    · rw [r9]
      have e1 : (c.setIfInBounds (off + i) v).toList = c.toList.set (off + i) v := by simp
      rw [e1, ← Nat.add_assoc, List.take_set, List.drop_set]
      rw [if_pos (by omega)]
      rw [List.length_cons, show off + i + (vs.length + 1) = off + i + 1 + vs.length from by omega]
      congr 1
      have : (c.toList.take (off + i + 1)).set (off + i) v = c.toList.take (off + i) ++ [v] := by
        rw [List.set_eq_take_append_cons_drop, if_pos (by rw [List.length_take]; simp; omega)]
        rw [List.take_take, List.drop_take]; simp
      rw [this]; simp
theorem toList_take_splice {α : Type} (l : List α) (off : Nat) (xs : List α) (n : Nat) (h : off + xs.length ≤ n) : (l.take off ++ xs ++ l.drop (off + xs.length)).take n = (l.take n).take off ++ xs ++ (l.take n).drop (off + xs.length) := by
  by_cases hl : off ≤ l.length
  · have e1 : (l.take off).length = off := by rw [List.length_take]; omega
    rw [List.take_append, List.take_append, List.take_take, List.length_append, e1, List.drop_take, List.take_take]
    rw [Nat.min_eq_right (show off ≤ n by omega), Nat.min_eq_left (show off ≤ n by omega), List.take_of_length_le (show xs.length ≤ n - off by omega)]
  · have e1 : l.take off = l := List.take_of_length_le (by omega)
    have e2 : l.drop (off + xs.length) = [] := List.drop_eq_nil_of_le (by omega)
    rw [e1, e2, List.append_nil, List.take_append, List.take_of_length_le (show l.length ≤ n by omega), List.take_of_length_le (show xs.length ≤ n - l.length by omega), e1, e2, List.append_nil]
theorem VRs.splice {ρ : Place} {hf : Objs} {I : Mem} {cs xs : List T} {vals ys : List Value} {off : Nat} (h1 : VRs ρ hf I cs vals) (h2 : VRs ρ hf I xs ys) (hl : off + xs.length ≤ cs.length) :
    VRs ρ hf I (Vm.splice cs off xs) (vals.take off ++ ys ++ vals.drop (off + ys.length)) := by
  rw [splice_eq _ _ _ hl, h2.length]
  exact ((h1.take off).append h2).append (h1.drop _)
theorem PVs.splice {I : Mem} {cs xs : List T} {vals ys : List Value} {off : Nat} (h1 : PVs I cs vals) (h2 : PVs I xs ys) (hl : off + xs.length ≤ cs.length) :
    PVs I (Vm.splice cs off xs) (vals.take off ++ ys ++ vals.drop (off + ys.length)) := by
  rw [splice_eq _ _ _ hl, h2.length]
  exact ((h1.take off).append h2).append (h1.drop _)
theorem splice_length {cs xs : List T} {off : Nat} (hl : off + xs.length ≤ cs.length) : (Vm.splice cs off xs).length = cs.length := by
  rw [splice_eq _ _ _ hl]; simp; omega
/-- Cells written into a row: the world behind it, and the object. -/
theorem write_row {P : Program} {ρ : Place} {hf : Objs} {I : Mem} {w : World} {id g off : Nat} {pu pu' : Bool} {esz : Mk} {cs xs : List T} {ys : List Value} {w0 : World} {own : Nat → Prop} {I0 : Mem}
    (hs : HS ρ hf I w) (hx : Ext w0 own I0 ρ hf I w) (hi : hf id = some (g, .row pu esz cs)) (hl : off + xs.length ≤ cs.length) (hv : VRs ρ hf I xs ys) (ho : ∀ v ∈ ys, v.oneCell' = true)
    (hp : pu' = true → pu = true ∧ plainL xs = true) :
    ∃ w', (storeCells ⟨(ρ id).1, off, none⟩ ys).run P w = .ok () w' ∧ HLe ρ hf ρ (updH hf [(id, g, .row pu' esz (Vm.splice cs off xs))]) ∧
      HS ρ (updH hf [(id, g, .row pu' esz (Vm.splice cs off xs))]) I w' ∧ Ext w0 own I0 ρ (updH hf [(id, g, .row pu' esz (Vm.splice cs off xs))]) I w' := by
  obtain ⟨c, e, fz, h1, h2, h3, h4, h5, h6, h7⟩ := row_cells hs hi
  have hyl := hv.length
  obtain ⟨w', c', r1, r2, r3, r4, r5, r6, r7, r8, r9⟩ := storeCells_run (P := P) (off := off) ys 0 w c h1 h3.1 (by omega) ho
  have hle : HLe ρ hf ρ (updH hf [(id, g, .row pu' esz (Vm.splice cs off xs))]) := same_HLe hi
  refine ⟨w', r1, hle, write_HS hs hi trivial r6 hle ?_, write_Ext hx hi trivial r2 r3 r4 r5 r6 g⟩
  refine ⟨c', e, fz, r7, r8.trans h2, by rw [r8, splice_length hl]; exact h3, ?_⟩
  rw [splice_length hl, r9, Nat.add_zero, toList_take_splice _ _ _ _ (by omega)]
  cases pu' with
  | true =>
    obtain ⟨rfl, hp2⟩ := hp rfl
    exact (h7 rfl).splice (plainL_pvs hp2 hv) hl
  | false => exact VRs.mono (MLe.refl _) hle _ _ (h4.splice hv hl)
theorem store_ok {P : Program} {C : Ctx} {E : Ent} {ρ : Place} {hf : Objs} {I : Mem} {w : World} {a : Act} {o : Oper} {t : TypeId} {x y : T} {X Y : Operand} {r : AR} (hT : TabOk P C) (hs : HS ρ hf I w)
    (hext : Ext E.w0 E.own E.I0 ρ hf I w) (ho : o.op = .store t X Y) (h : aStore C hf t x y = some r) (hq : ∀ p ∈ r.q, p) (hx : VR ρ hf I x (a.eval X)) (hy : VR ρ hf I y (a.eval Y)) :
    Does P E hf ρ I o r.t r.d a w := by
  unfold aStore at h
  split at h
  · cases h
  · rename_i hsz
    split at h
    · rename_i id g off
      split at h
      · rename_i g' pu esz cs hi
        split at h
        · rename_i hg; obtain rfl := Nat.eq_of_beq_eq_true hg
          split at h
          · rename_i hlen
            have hlen' := Nat.eq_of_beq_eq_true hlen
            have hk := (hT t).2.resolve_left (fun e => by rw [e] at hsz; simp at hsz)
            obtain ⟨⟨inf, z, hinf, hsi, _⟩, _⟩ := hk
            have hsize : (sizeOf t).run P w = .ok (tin C t).size w := by rw [run_sizeOf w hinf]; simp [Program.cellsOf, hinf, hsi]
            have key : ∀ pu' : Bool, cellyL (cellsT y) = true → off + (cellsT y).length ≤ cs.length → (pu' = true → pu = true ∧ plainL (cellsT y) = true) →
                Does P E hf ρ I o .top [(id, g, .row pu' esz (Vm.splice cs off (cellsT y)))] a w := by
              intro pu' hc hl hp
              have hv := cells_of hc hy
              obtain ⟨w', r1, r2, r3, r4⟩ := write_row (P := P) (pu' := pu') hs hext hi hl hv (cellyL_one hc hv) hp
              have hsz2 : (a.eval Y).cells.size = (tin C t).size := by
                have := hv.length; rw [Array.length_toList] at this; omega
              refine ⟨.skip, undef, ρ, I, w', ?_, .inr ⟨rfl, rfl⟩, MLe.refl _, r2, r3, r4, by simp [VR]⟩
              rw [execOp, ho]
              simp only [VR_p hx hi, Instr.storeAt, Instr.sureAddr, storeVar, Sem.run_bind, Sem.run_pure, Result.andThen_ok, hsize, hsz2, ne_eq, not_true_eq_false, if_false, r1]
            split at h
            · split at h
              · rename_i hp
                cases h
                have hle : off + (tin C t).size ≤ cs.length := hq _ (by simp)
                exact key true (plainL_celly hp) (by omega) fun _ => ⟨rfl, hp⟩
              · split at h
                · rename_i hc hle
                  rw [forceL_eq] at h; cases h
                  exact key false hc (by have := Nat.le_of_ble_eq_true hle; omega) (fun e => by simp at e)
                · cases h
            · split at h
              · rename_i hc hle
                rw [forceL_eq] at h; cases h
                exact key false hc (by have := Nat.le_of_ble_eq_true hle; omega) (fun e => by simp at e)
              · cases h
          · cases h
        · cases h
      · cases h
    · cases h
end Go.Proofs.YtipomdmlkkifcaaGreatDoor.Vm
/- The symbolic machine, part 7: new memory; parts of memory. -/
namespace Go.Proofs.YtipomdmlkkifcaaGreatDoor.Vm
open Go
theorem mkObj_inv {hl : Objs} {d : Option Nat} {o : Obj} {K : Nat → Nat → T} {q : List Prop} {r : AR} (h : mkObj hl d o K q = some r) :
    ∃ s, d = some s ∧ r.t = K s (newG hl s) ∧ r.d = [(s, newG hl s, o)] ∧ r.q = q := by
  unfold mkObj at h
  split at h
  · cases h; exact ⟨_, rfl, rfl, rfl, rfl⟩
  · cases h
section
variable {P : Program} {C : Ctx} {E : Ent} {ρ : Place} {hf : Objs} {I : Mem} {w : World} {a : Act} {o : Oper}
theorem thaw0 {n : Nat} : Thawed (0, 0) n := fun o _ h => by have := h.2; simp at this
theorem szOf_tsz (C : Ctx) (e : TypeId) : szOf (tsz C e) = (tin C e).size := rfl
theorem fitM {s n m : Nat} {e : TypeId} {fz : Nat × Nat} (hz : Thawed fz m) : Fit (.row s e) n m e fz := ⟨hz, fun t he => (by cases he), fun t s' he => (by cases he; rfl)⟩
theorem fitS {C : Ctx} {n m : Nat} {e : TypeId} : Fit (tsz C e) n m e (0, 0) := fitM thaw0
theorem fitL {s n m : Nat} {e : TypeId} {fz : Nat × Nat} (hz : Thawed fz m) : Fit (.sz s) n m e fz := ⟨hz, fun t he => (by cases he), fun t s' he => (by cases he)⟩
theorem fit1 {C : Ctx} {t n m : Nat} (h : m = n) : Fit (eszOf C t) n m t (0, 0) := by
  cases hk : (tin C t).k with
  | arr k e' => simp only [eszOf, hk]; exact fitL thaw0
  | _ => simp only [eszOf, hk]; exact ⟨thaw0, fun t' he => ⟨(Mk.cell.inj he), h⟩, fun t' s he => (by cases he)⟩
theorem szOf_amark (e : Nat) (esz : Mk) : szOf (amark e esz) = szOf esz := by
  cases esz with
  | sz n => rfl
  | cell t => rfl
  | row n e' => simp only [amark]; cases Nat.beq e' e <;> rfl
theorem fit_in {esz : Mk} {n m n' m' : Nat} {e ce : TypeId} {fz fz' : Nat × Nat} (h : Fit esz n m ce fz) (hz : Thawed fz' m') : Fit (amark e esz) n' m' ce fz' := by
  cases esz with
  | sz n => exact fitL hz
  | cell t => exact fitL hz
  | row n e' =>
    obtain rfl := h.2.2 e' n rfl
    simp only [amark]
    cases Nat.beq ce e with
    | true => exact fitM hz
    | false => exact fitL hz
theorem fit_new {esz : Mk} {n m : Nat} {e : TypeId} {fz : Nat × Nat} (hz : Thawed fz m) : Fit (amark e esz) n m e fz := by
  cases esz with
  | sz n => exact fitL hz
  | cell t => exact fitL hz
  | row n e' =>
    simp only [amark]
    cases hb : Nat.beq e' e with
    | true => obtain rfl := Nat.eq_of_beq_eq_true hb; exact fitM hz
    | false => exact fitL hz
/-- An operation that makes one row. -/
theorem new_does {s : Nat} {w1 : World} {c : Array Value} {e : TypeId} {pu : Bool} {esz : Mk} {cs : List T} {v : Value} {t : T} {fz : Nat × Nat} (hfz : Fit esz cs.length c.size e fz) (hw : w1 = w ∨ w1 = w.drew)
    (hs : HS ρ hf I w) (hx : Ext E.w0 E.own E.I0 ρ hf I w) (hr : (execOp a.eval o).run P w = .ok (.value v) (w1.alloc (.cells c e fz)))
    (hc : VRs ρ hf I cs (c.toList.take cs.length)) (hp : pu = true → plainL cs = true)
    (hv : VR (made ρ w1 s c.size) (updH hf [(s, newG hf s, .row pu esz cs)]) I t v) : Does P E hf ρ I o t [(s, newG hf s, .row pu esz cs)] a w := by
  have hs1 : HS ρ hf I w1 := by rcases hw with rfl | rfl; exact hs; exact hs.drew
  have hx1 : Ext E.w0 E.own E.I0 ρ hf I w1 := by rcases hw with rfl | rfl; exact hx; exact hx.drew
  exact ⟨_, v, made ρ w1 s c.size, I, _, hr, .inl rfl, MLe.refl _, made_HLe (fun _ _ => newG_lt), alloc_HS hs1 (fun _ _ => newG_lt) (row_OR hfz (fun _ _ => newG_lt) hc (fun h => plainL_pvs (hp h) hc)), alloc_Ext hx1, hv⟩
theorem VR_new_p {s n : Nat} {w1 : World} {pu : Bool} {esz : Mk} {cs : List T} :
    VR (made ρ w1 s n) (updH hf [(s, newG hf s, .row pu esz cs)]) I (.p s (newG hf s) 0) (.pointer (some ⟨w1.heap.size, 0, none⟩)) := by
  have := VR_p_mk (ρ := made ρ w1 s n) (I := I) (hf := updH hf [(s, newG hf s, .row pu esz cs)]) (id := s) (g := newG hf s) (off := 0) (pu := pu) (esz := esz) (cs := cs) (by rw [updH_one, if_pos rfl])
  simpa [made] using this
theorem VR_new_ref {s n m cap : Nat} {w1 : World} {pu : Bool} {esz : Mk} {cs : List T} (h1 : cap * szOf esz ≤ n) (h2 : m ≤ cap) :
    VR (made ρ w1 s n) (updH hf [(s, newG hf s, .row pu esz cs)]) I (.ref s (newG hf s) 0 m) (.slice (some ⟨w1.heap.size, 0, none⟩) m cap) := by
  simp only [VR]
  refine ⟨rfl, newG hf s, _, by rw [updH_one, if_pos rfl], Nat.le_refl _, fun _ pu' esz' cs' e => ?_⟩
  simp only [Obj.row.injEq] at e
  obtain ⟨_, rfl, _⟩ := e
  exact ⟨0, cap, by simp [made], .inl rfl, by simpa [made] using h1, h2⟩
theorem size_of {t : TypeId} (hT : TabOk P C) (hsz : Nat.beq (tin C t).size 0 = false) : SizeOk P t (tin C t) :=
  ((hT t).2.resolve_left (fun e => by rw [e] at hsz; simp at hsz)).1
theorem zero_run {t : TypeId} {ti : TI} (h : SizeOk P t ti) : ∃ z, (zeroValue t).run P w = .ok z w ∧ VRs ρ hf I ti.zero z.cells.toList ∧ z.cells.size = ti.size ∧ ti.zero.length = ti.size := by
  obtain ⟨inf, z, h1, h2, h3, h4, h5, h6⟩ := h
  have hv : VRs ρ hf I ti.zero z.cells.toList := PVs.vrs _ _ (gndL_pvs h5)
  obtain ⟨h6, _⟩ := h6
  refine ⟨z, by simp [zeroValue, typeInfo, h1, h4], hv, ?_, h6⟩
  have := hv.length; rw [Array.length_toList] at this; omega
theorem both_inv {x y : Bool} (h : both x y = true) : y = true := by cases x <;> simp_all [both]
theorem take_self {c : Array Value} {cs : List T} (h : VRs ρ hf I cs c.toList) : VRs ρ hf I cs (c.toList.take cs.length) := by
  rw [List.take_of_length_le (by have := h.length; omega)]; exact h
theorem alloc_ok {e : TypeId} {r : AR} (hT : TabOk P C) (hs : HS ρ hf I w) (hx : Ext E.w0 E.own E.I0 ρ hf I w) (ho : o.op = .alloc e) (hsz : Nat.beq (tin C e).size 0 = false) {b : Bool}
    (h : mkObj hf o.dst (.row (both b (plainL (tin C e).zero)) (eszOf C e) (tin C e).zero) (fun d g => .p d g 0) [] = some r) : Does P E hf ρ I o r.t r.d a w := by
  obtain ⟨s, hd, h1, h2, h3⟩ := mkObj_inv h
  obtain ⟨z, z1, z2, z3, z4⟩ := zero_run (w := w) (ρ := ρ) (hf := hf) (I := I) (size_of hT hsz)
  rw [h1, h2]
  refine new_does (w1 := w) (c := z.cells) (e := e) (v := .pointer (some ⟨w.heap.size, 0, none⟩)) (fit1 (by rw [z3, z4])) (.inl rfl) hs hx ?_ (take_self z2) both_inv VR_new_p
  rw [execOp, ho]; simp [Instr.alloc, z1, newVar, newRow]
theorem box_ok {e : TypeId} {x : T} {X : Operand} {r : AR} (hT : TabOk P C) (hs : HS ρ hf I w) (hx : Ext E.w0 E.own E.I0 ρ hf I w) (ho : o.op = .box e X) {b : Bool} (hc : cellyL (cellsT x) = true)
    (h : mkObj hf o.dst (.row (both b (plainL (cellsT x))) (eszOf C e) (cellsT x)) (fun d g => .p d g 0) [] = some r) (hv : VR ρ hf I x (a.eval X)) : Does P E hf ρ I o r.t r.d a w := by
  obtain ⟨s, hd, h1, h2, h3⟩ := mkObj_inv h
  rw [h1, h2]
  refine new_does (w1 := w) (c := (a.eval X).cells) (e := e) (v := .pointer (some ⟨w.heap.size, 0, none⟩)) (fit1 (by have := (cells_of hc hv).length; rw [Array.length_toList] at this; exact this)) (.inl rfl) hs hx ?_ (take_self (cells_of hc hv)) both_inv VR_new_p
  rw [execOp, ho]; simp [Instr.box, newVar, newRow]

/-! ### Parts laid together -/
theorem foldl_set : ∀ (l : List Value) (k off : Nat) (cells : Array Value), off + k + l.length ≤ cells.size →
    ((l.zipIdx k).foldl (fun cs (x : Value × Nat) => cs.setIfInBounds (off + x.2) x.1) cells).toList = cells.toList.take (off + k) ++ l ++ cells.toList.drop (off + k + l.length)
  | [], k, off, cells, _ => by simp
  | v :: l, k, off, cells, h => by
    simp only [List.length_cons] at h
    rw [List.zipIdx_cons, List.foldl_cons, foldl_set l (k + 1) off _ (by simp; omega)]
    simp only [Array.toList_setIfInBounds]
    rw [← Nat.add_assoc, List.take_set, List.drop_set, if_pos (by omega), List.length_cons, show off + k + (l.length + 1) = off + k + 1 + l.length from by omega]
    congr 1
    have : (cells.toList.take (off + k + 1)).set (off + k) v = cells.toList.take (off + k) ++ [v] := by
      rw [List.set_eq_take_append_cons_drop, if_pos (by rw [List.length_take]; simp; omega)]
      rw [List.take_take, List.drop_take]; simp
    rw [this]; simp
theorem fill_run {place : Nat → Option (Nat × Nat)} : ∀ {ps : List (Nat × T)} {vs : List (Nat × Value)} {cs cs' : List T} {cells : Array Value}, fillT place ps cs = some cs' → VRs ρ hf I cs cells.toList →
    vs.map Prod.fst = ps.map Prod.fst → VRs ρ hf I (ps.map Prod.snd) (vs.map Prod.snd) → ∃ cells', Instr.fill place cells vs = some cells' ∧ VRs ρ hf I cs' cells'.toList
  | [], vs, cs, cs', cells, h, hv, h1, _ => by
    have : vs = [] := by simpa using h1
    subst this
    simp only [fillT, Option.some.injEq] at h; subst h
    exact ⟨cells, rfl, hv⟩
  | (j, x) :: ps, [], cs, cs', cells, h, hv, h1, _ => by simp at h1
  | (j, x) :: ps, (j', v) :: vs, cs, cs', cells, h, hv, h1, h2 => by
    simp only [List.map_cons, List.cons.injEq] at h1
    obtain ⟨rfl, h1⟩ := h1
    simp only [List.map_cons, VRs, List.cons.injEq] at h2
    obtain ⟨_, _, ⟨rfl, rfl⟩, h3, h4⟩ := h2
    unfold fillT at h
    split at h
    · rename_i off n hp
      split at h
      · rename_i hn hc
        have hn' := Nat.eq_of_beq_eq_true hn
        split at h
        · rename_i hle
          rw [forceL_eq] at h
          have hle' := Nat.le_of_ble_eq_true hle
          have hcv := cells_of hc h3
          have hl1 := hcv.length
          have hl2 := hv.length
          rw [Array.length_toList] at hl1 hl2
          have hf1 := foldl_set v.cells.toList 0 off cells (by rw [Array.length_toList]; omega)
          have hnew : VRs ρ hf I (Vm.splice cs off (cellsT x)) (v.cells.zipIdx.foldl (fun cs (c, j) => cs.setIfInBounds (off + j) c) cells).toList := by
            have e : (v.cells.zipIdx.foldl (fun cs (c, j) => cs.setIfInBounds (off + j) c) cells) = ((v.cells.toList.zipIdx 0).foldl (fun cs (x : Value × Nat) => cs.setIfInBounds (off + x.2) x.1) cells) := by
              rw [← Array.foldl_toList]; simp
            rw [e, hf1]
            simpa using hv.splice hcv (by omega)
          obtain ⟨cells', f1, f2⟩ := fill_run h hnew h1 h4
          refine ⟨cells', ?_, f2⟩
          simp only [Instr.fill, hp]
          rw [if_neg (by simp; omega)]
          exact f1
        · cases h
      · cases h
    · cases h
theorem parts_rel {ps : Array (Nat × Operand)} {ev : Operand → T} (hev : ∀ x, VR ρ hf I (ev x) (a.eval x)) :
    ((ps.map fun (i, x) => (i, a.eval x)).toList.map Prod.fst = (ps.toList.map fun x => (x.1, ev x.2)).map Prod.fst) ∧
    VRs ρ hf I ((ps.toList.map fun x => (x.1, ev x.2)).map Prod.snd) ((ps.map fun (i, x) => (i, a.eval x)).toList.map Prod.snd) := by
  rw [Array.toList_map]
  refine ⟨by simp, ?_⟩
  rw [List.map_map, List.map_map]
  exact VRs.map _ _ (fun x => hev x.2) ps.toList
theorem places_of : ∀ {fs : List Field} {xs : List (Nat × Nat × Bool)}, fs.map (fld P) = xs.map some →
    fs.mapM (fun f => (P.info? f.type).map fun i => (f.offset, i.size)) = some (xs.map fun x => (x.1, x.2.1))
  | [], [], _ => rfl
  | f :: fs, x :: xs, h => by
    simp only [List.map_cons, List.cons.injEq] at h
    obtain ⟨h1, h2⟩ := h
    have ih := places_of h2
    unfold fld at h1
    split at h1
    · rename_i inf d hi hd
      simp only [Option.some.injEq] at h1; subst h1
      simp [List.mapM_cons, hi, ih]
    · cases h1
  | [], _ :: _, h => by simp at h
  | _ :: _, [], h => by simp at h
theorem build_ok {t : TypeId} {ps : Array (Nat × Operand)} {ev : Operand → T} {r : AR} (hT : TabOk P C) (hev : ∀ x, VR ρ hf I (ev x) (a.eval x))
    (h : aBuild C t (ps.toList.map fun x => (x.1, ev x.2)) = some r) : Yv P ρ hf I r (Instr.build t (ps.map fun (i, x) => (i, a.eval x))) w := by
  unfold aBuild at h
  split at h
  · cases h
  · rename_i hsz
    obtain ⟨inf, z, h1, h2, h3, h4, h5, h6⟩ := size_of hT hsz
    have hz : VRs ρ hf I (tin C t).zero z.cells.toList := PVs.vrs _ _ (gndL_pvs h5)
    obtain ⟨p1, p2⟩ := parts_rel (ps := ps) hev
    have hk := (hT t).1
    split at h
    · rename_i fs e; rw [e] at hk
      obtain ⟨fields, hu, hfs⟩ := hk
      split at h
      · rename_i cs hfill
        rw [forceL_eq] at h
        obtain ⟨r1, r2, r3⟩ := ok_inv h
        obtain ⟨cells', f1, f2⟩ := fill_run hfill hz p1 p2
        refine ⟨r2, .agg cells', ?_, by rw [r1]; exact ⟨_, rfl, f2⟩⟩
        refine run_build w t _ _ ?_
        unfold Program.built
        rw [h1, hu]; simp only [h4, places_of hfs]
        rw [← f1]; congr 1; funext j
        rw [List.getElem?_toArray, List.getElem?_map, nth_eq]
        cases fs[j]? <;> rfl
      · cases h
    · rename_i n e hke; rw [hke] at hk
      obtain ⟨hu, ⟨ie, ze, i1, i2, _⟩, _⟩ := hk
      split at h
      · rename_i cs hfill
        rw [forceL_eq] at h
        obtain ⟨r1, r2, r3⟩ := ok_inv h
        obtain ⟨cells', f1, f2⟩ := fill_run hfill hz p1 p2
        refine ⟨r2, .agg cells', ?_, by rw [r1]; exact ⟨_, rfl, f2⟩⟩
        refine run_build w t _ _ ?_
        unfold Program.built
        rw [h1, hu]; simp only [h4, i1, i2]
        exact f1
      · cases h
    · cases h
theorem reps_length {z : List T} : ∀ n, (reps n z).length = n * z.length
  | 0 => by simp [reps]
  | n + 1 => by simp [reps, reps_length n, Nat.add_mul, Nat.add_comm]
theorem reps_get {z : List T} {k : Nat} (hz : z.length = k) (hk : 0 < k) : ∀ (n j : Nat), j < n * k → (reps n z)[j]? = z[j % k]?
  | 0, j, h => by simp at h
  | n + 1, j, h => by
    simp only [reps, List.getElem?_append]
    split
    · rename_i hj; rw [Nat.mod_eq_of_lt (by omega)]
    · rename_i hj
      have e : (n + 1) * k = n * k + k := by rw [Nat.add_mul, Nat.one_mul]
      rw [hz, reps_get hz hk n (j - k) (by omega)]
      rw [Nat.mod_eq_sub_mod (show j ≥ k by omega)]
theorem run_buildSlice (w : World) (t e : TypeId) (len : Nat) (parts : Array (Nat × Value)) (cells : Array Value) (ie : TypeInfo) (z : Value)
    (hu : P.underlying t = some (.slice e)) (hie : P.info? e = some ie) (hz : ie.zero = some z) (hsmall : ¬ len * ie.size > 2 ^ 24) (hpos : ¬ len * ie.size = 0)
    (h : Instr.fill (fun i => some (i * ie.size, ie.size)) ((Array.range (len * ie.size)).map (z.cells[· % z.cells.size]!)) parts.toList = some cells) :
    (Instr.buildSlice t len parts).run P w = .ok (.slice (some ⟨w.heap.size, 0, none⟩) len len) (w.alloc (.cells cells e)) := by
  simp [Instr.buildSlice, run_underlying hu, sizeOf, typeInfo, zeroValue, hie, hz, hsmall, hpos, h, newRow]
/-- Zero cells, again and again. -/
theorem reps_rel {z : List T} {zs : Array Value} {k n : Nat} (hv : VRs ρ hf I z zs.toList) (hk : z.length = k) (h0 : 0 < k) :
    VRs ρ hf I (reps n z) ((Array.range (n * k)).map (zs[· % zs.size]!)).toList := by
  have hl := hv.length
  rw [Array.length_toList] at hl
  refine VRs.of_get (by simp [reps_length, hk]) fun j t v e1 e2 => ?_
  have hj : j < n * k := by
    have := (List.getElem?_eq_some_iff.1 e1).1; rwa [reps_length, hk] at this
  rw [reps_get hk h0 n j hj] at e1
  have hlt : j % k < zs.size := by rw [hl, hk]; exact Nat.mod_lt _ h0
  refine hv.at e1 ?_
  simp only [Array.toList_map, List.getElem?_map, Array.getElem?_toList] at e2
  rw [Array.getElem?_range, if_pos hj] at e2
  simp only [Option.map_some, Option.some.injEq] at e2
  rw [← e2, hl, hk]
  rw [Array.getElem?_toList, Array.getElem!_eq_getD, Array.getD_eq_getD_getElem?, Array.getElem?_eq_getElem hlt]; rfl
theorem buildSlice_ok {t : TypeId} {n : Nat} {ps : Array (Nat × Operand)} {ev : Operand → T} {r : AR} (hT : TabOk P C) (hs : HS ρ hf I w) (hx : Ext E.w0 E.own E.I0 ρ hf I w) (ho : o.op = .buildSlice t n ps)
    (hev : ∀ x, VR ρ hf I (ev x) (a.eval x)) (h : aBuildSlice C hf o.dst t n (ps.toList.map fun x => (x.1, ev x.2)) = some r) : Does P E hf ρ I o r.t r.d a w := by
  unfold aBuildSlice at h
  have hk := (hT t).1
  split at h
  · rename_i e hke; rw [hke] at hk
    obtain ⟨hu, ⟨ie, z, i1, i2, i3, i4, i5, i6, _⟩, _⟩ := hk
    split at h
    · rename_i hle hne
      have hle' := Nat.le_of_ble_eq_true hle
      have hne' : ¬ n * (tin C e).size = 0 := fun e0 => by rw [e0] at hne; simp at hne
      have hpos : 0 < (tin C e).size := Nat.pos_of_ne_zero fun e0 => hne' (by rw [e0]; simp)
      have hz : VRs ρ hf I (tin C e).zero z.cells.toList := PVs.vrs _ _ (gndL_pvs i5)
      obtain ⟨p1, p2⟩ := parts_rel (ps := ps) hev
      split at h
      · rename_i cs hfill
        rw [forceL_eq] at h
        obtain ⟨s, hd, h1, h2, h3⟩ := mkObj_inv h
        obtain ⟨cells', f1, f2⟩ := fill_run hfill (reps_rel (n := n) hz i6 hpos) p1 p2
        rw [← i2] at f1
        have hcells : cells'.size = n * (tin C e).size := by
          have := f2.length; rw [Array.length_toList] at this
          have hcs : cs.length = n * (tin C e).size := by
            have : ∀ {place : Nat → Option (Nat × Nat)} {ps : List (Nat × T)} {c1 c2 : List T}, fillT place ps c1 = some c2 → c2.length = c1.length := by
              intro place ps
              induction ps with
              | nil => intro c1 c2 h; simp only [fillT, Option.some.injEq] at h; rw [h]
              | cons x ps ih =>
                intro c1 c2 h
                unfold fillT at h
                split at h
                · split at h
                  · rename_i hb _
                    split at h
                    · rename_i hl
                      rw [forceL_eq] at h
                      have := Nat.le_of_ble_eq_true hl
                      have := Nat.eq_of_beq_eq_true hb
                      rw [ih h, splice_length (by omega)]
                    · cases h
                  · cases h
                · cases h
            rw [this hfill, reps_length, i6]
          omega
        rw [h1, h2]
        refine new_does (w1 := w) (c := cells') (e := e) (v := .slice (some ⟨w.heap.size, 0, none⟩) n n) fitS (.inl rfl) hs hx ?_ (take_self f2) (fun e => e) (VR_new_ref (by rw [hcells, szOf_tsz C]; exact Nat.le_refl _) (Nat.le_refl _))
        rw [execOp, ho]
        simp only [Sem.run_bind, run_buildSlice w t e n _ cells' ie z hu i1 i4 (by rw [i2]; omega) (by rw [i2]; exact hne') f1, Result.andThen_ok]
        rfl
      · cases h
    · cases h
  · cases h
end
end Go.Proofs.YtipomdmlkkifcaaGreatDoor.Vm
/- The symbolic machine, part 8: slices, fields, elements; conversions; append; iterators. -/
namespace Go.Proofs.YtipomdmlkkifcaaGreatDoor.Vm
open Go
section
variable {P : Program} {C : Ctx} {E : Ent} {ρ : Place} {hf : Objs} {I : Mem} {w : World} {a : Act} {o : Oper}
theorem zeros_eq (n : Nat) (z : List T) : zeros n z = reps n z := by
  unfold zeros
  split
  · rename_i x
    induction n with
    | zero => rfl
    | succ n ih => simp [reps, List.replicate_succ, ← ih]
  · rfl
theorem plainL_append : ∀ {x y : List T}, plainL x = true → plainL y = true → plainL (x ++ y) = true
  | [], _, _, h => h
  | t :: x, y, h1, h2 => by
    simp only [plainL] at h1
    cases hb : plain t with
    | false => rw [hb] at h1; simp at h1
    | true => rw [hb] at h1; simp only [List.cons_append, plainL, hb]; exact plainL_append h1 h2
theorem plainL_reps {z : List T} (h : plainL z = true) : ∀ n, plainL (reps n z) = true
  | 0 => rfl
  | n + 1 => plainL_append h (plainL_reps h n)
theorem makeSlice_ok {t : TypeId} {l c : T} {L K : Operand} {r : AR} (hT : TabOk P C) (hs : HS ρ hf I w) (hx : Ext E.w0 E.own E.I0 ρ hf I w) (ho : o.op = .makeSlice t L K)
    (h : aMakeSlice C hf o.dst t l c = some r) (hq : ∀ p ∈ r.q, p) (hl : VR ρ hf I l (a.eval L)) (hc : VR ρ hf I c (a.eval K)) : Does P E hf ρ I o r.t r.d a w := by
  unfold aMakeSlice at h
  have hk := (hT t).1
  split at h
  · rename_i e k1 l1 k2 c1 hke; rw [hke] at hk
    obtain ⟨hu, ⟨ie, z, i1, i2, i3, i4, i5, i6, _⟩, _⟩ := hk
    split at h
    · rename_i hp
      obtain ⟨s, hd, h1, h2, h3⟩ := mkObj_inv h
      obtain ⟨b1, b2, b3, b4⟩ : _ ∧ _ ∧ _ ∧ _ := hq _ (by rw [h3]; exact List.mem_singleton.2 rfl)
      simp only [VR] at hl hc
      have hz : VRs ρ hf I (tin C e).zero z.cells.toList := PVs.vrs _ _ (gndL_pvs i5)
      have hrun := run_make (P := P) w t e ie z hu i1 i4 k1 k2 l1 c1 b1 b2 (by rw [i3, Int.mul_comm]; exact b3) (by omega)
      have hsz : (madeCells z.cells (c1.toNat * ie.size)).size = c1.toNat * (tin C e).size := by rw [size_madeCells, i2]
      have hle : l1.toNat ≤ c1.toNat := by omega
      rw [h1, h2, zeros_eq]
      refine new_does (w1 := w) (c := madeCells z.cells (c1.toNat * ie.size)) (e := e) (v := .slice (some ⟨w.heap.size, 0, none⟩) l1.toNat c1.toNat) fitS (.inl rfl) hs hx ?_ ?_ (fun _ => plainL_reps hp _) (VR_new_ref (by rw [hsz, szOf_tsz C]; exact Nat.le_refl _) hle)
      · rw [execOp, ho]; simp only [hl, hc, Sem.run_bind, hrun, Result.andThen_ok]; rfl
      · rw [reps_length, i6]
        rcases Nat.eq_zero_or_pos (tin C e).size with h0 | h0
        · have : (tin C e).zero = [] := List.length_eq_zero_iff.1 (by omega)
          rw [h0, this]; simp
          have : ∀ n, reps n ([] : List T) = [] := fun n => List.length_eq_zero_iff.1 (by rw [reps_length]; simp)
          rw [this]; rfl
        · have := (reps_rel (n := c1.toNat) hz i6 h0).take (l1.toNat * (tin C e).size)
          rw [i2]
          have e1 : (reps c1.toNat (tin C e).zero).take (l1.toNat * (tin C e).size) = reps l1.toNat (tin C e).zero := by
            apply List.ext_getElem?
            intro j
            rw [List.getElem?_take]
            split
            · rename_i hj
              rw [reps_get i6 h0 _ _ (Nat.lt_of_lt_of_le hj (Nat.mul_le_mul_right _ hle)), reps_get i6 h0 _ _ hj]
            · rename_i hj
              rw [List.getElem?_eq_none]; rw [reps_length, i6]; omega
          rw [e1] at this
          exact this
    · cases h
  · cases h
/-- A bound that was told or not. -/
theorem intOr_inv {x : Option T} {v : Option Value} {d n : Int} (h : intOr x d = some n) (hv : ∀ y, x = some y → ∃ u, v = some u ∧ VR ρ hf I y u) (hv' : x = none → v = none) :
    (v = none ∧ n = d) ∨ ∃ k, v = some (.int k n) := by
  unfold intOr at h
  split at h
  · simp only [Option.some.injEq] at h; exact .inl ⟨hv' rfl, h.symm⟩
  · simp only [Option.some.injEq] at h; subst h
    obtain ⟨u, rfl, hu⟩ := hv _ rfl
    simp only [VR] at hu; subst hu
    exact .inr ⟨_, rfl⟩
  · cases h
theorem slice_run {t e : TypeId} {inf : TypeInfo} (hu : P.underlying t = some (.slice e)) (hi : P.info? e = some inf) {b : Option Addr} {n cap : Nat} {vlo vhi : Option Value} {x y : Int}
    (hlo : (vlo = none ∧ x = 0) ∨ ∃ k, vlo = some (.int k x)) (hhi : (vhi = none ∧ y = (n : Int)) ∨ ∃ k, vhi = some (.int k y)) (h0 : 0 ≤ x) (h1 : x ≤ y) (h2 : y ≤ n) (h3 : n ≤ cap) :
    (Instr.sliceAt t (.slice b n cap) vlo vhi none).run P w = .ok (.slice (if cap = x.toNat then b else b.map (·.add (x.toNat * inf.size))) (y.toNat - x.toNat) (cap - x.toNat)) w := by
  have hs : (sizeOf e).run P w = .ok inf.size w := by simp [sizeOf, typeInfo, hi]
  have hxy : x ≤ (y.toNat : Int) := by omega
  have hyc : y ≤ (cap : Int) := by omega
  have hy0 : 0 ≤ y := by omega
  have hnn : (n : Int).toNat = n := by omega
  rcases hlo with ⟨rfl, rfl⟩ | ⟨k, rfl⟩ <;> rcases hhi with ⟨rfl, rfl⟩ | ⟨k', rfl⟩
  · simp [Instr.sliceAt, Instr.slice, run_underlying hu, Instr.sliceBounds, hs]
  · simp [Instr.sliceAt, Instr.slice, run_underlying hu, Instr.sliceBounds, hs, bound_run hy0 hyc]
  · simp [Instr.sliceAt, Instr.slice, run_underlying hu, Instr.sliceBounds, hs, bound_run h0 h1]
  · simp [Instr.sliceAt, Instr.slice, run_underlying hu, Instr.sliceBounds, hs, bound_run hy0 hyc, bound_run h0 hxy]
theorem sliceA_run {t e : TypeId} {m : Nat} {inf : TypeInfo} (hu : P.underlying t = some (.array m e)) (hi : P.info? e = some inf) {b : Addr} {vlo vhi : Option Value} {x y : Int}
    (hlo : (vlo = none ∧ x = 0) ∨ ∃ k, vlo = some (.int k x)) (hhi : (vhi = none ∧ y = (m : Int)) ∨ ∃ k, vhi = some (.int k y)) (h0 : 0 ≤ x) (h1 : x ≤ y) (h2 : y ≤ m) :
    (Instr.sliceAt t (.pointer (some b)) vlo vhi none).run P w = .ok (.slice (some (if m = x.toNat then b else b.add (x.toNat * inf.size))) (y.toNat - x.toNat) (m - x.toNat)) w := by
  have hs : (sizeOf e).run P w = .ok inf.size w := by simp [sizeOf, typeInfo, hi]
  have hxy : x ≤ (y.toNat : Int) := by omega
  have hy0 : 0 ≤ y := by omega
  rcases hlo with ⟨rfl, rfl⟩ | ⟨k, rfl⟩ <;> rcases hhi with ⟨rfl, rfl⟩ | ⟨k', rfl⟩
  · simp [Instr.sliceAt, Instr.sureAddr, run_underlying hu, Instr.sliceBounds, hs]
  · simp [Instr.sliceAt, Instr.sureAddr, run_underlying hu, Instr.sliceBounds, hs, bound_run hy0 h2]
  · simp [Instr.sliceAt, Instr.sureAddr, run_underlying hu, Instr.sliceBounds, hs, bound_run h0 h1]
  · simp [Instr.sliceAt, Instr.sureAddr, run_underlying hu, Instr.sliceBounds, hs, bound_run hy0 h2, bound_run h0 hxy]
theorem VR_ref_mk {id g off n cap b : Nat} {pu : Bool} {esz : Mk} {cs : List T} (hi : hf id = some (g, .row pu esz cs)) (h1 : b = off ∨ cap = 0) (h2 : b + cap * szOf esz ≤ (ρ id).2) (h3 : n ≤ cap) :
    VR ρ hf I (.ref id g off n) (.slice (some ⟨(ρ id).1, b, none⟩) n cap) := by
  simp only [VR]
  refine ⟨rfl, g, _, hi, Nat.le_refl _, fun _ pu' esz' cs' e => ?_⟩
  simp only [Obj.row.injEq] at e
  obtain ⟨_, rfl, _⟩ := e
  exact ⟨b, cap, rfl, h1, h2, h3⟩
theorem okz_inv {hl : Objs} {id g n : Nat} {t : T} {q : List Prop} {r : AR} (h : okz hl id g n t q = some r) : r.t = t ∧ r.d = [] ∧ r.q = q ∧ ∃ pu esz cs, hl id = some (g, .row pu esz cs) ∧ szOf esz = n := by
  unfold okz at h
  split at h
  · rename_i g' pu esz cs e
    split at h
    · rename_i h1 h2
      cases h
      exact ⟨rfl, rfl, rfl, pu, esz, cs, by rw [e, Nat.eq_of_beq_eq_true h1], Nat.eq_of_beq_eq_true h2⟩
    · cases h
  · cases h
theorem mul_room {b x cap sz m : Nat} (h1 : b + cap * sz ≤ m) (h2 : x ≤ cap) : b + x * sz + (cap - x) * sz ≤ m := by
  have : x * sz + (cap - x) * sz = cap * sz := by rw [← Nat.add_mul]; congr 1; omega
  omega
theorem Lies.part {I : Mem} {blk b off : Nat} {vs : List Value} (h : Lies I (some ⟨blk, b, none⟩) 0 vs) (n : Nat) : Lies I (some ⟨blk, b + off, none⟩) 0 ((vs.drop off).take n) := by
  refine ⟨rfl, fun j v hj => ?_⟩
  rw [List.getElem?_take] at hj
  split at hj
  · rw [List.getElem?_drop] at hj
    have := h.2 (off + j) v hj
    simpa [Nat.add_assoc] using this
  · simp at hj
theorem slice_ok {t : TypeId} {x : T} {vx : Value} {lo hi : Option T} {vlo vhi : Option Value} {r : AR} (hT : TabOk P C) (hs : HS ρ hf I w) (h : aSlice C hf t x lo hi = some r) (hq : ∀ p ∈ r.q, p)
    (hx : VR ρ hf I x vx) (hlo : ∀ x, lo = some x → ∃ v, vlo = some v ∧ VR ρ hf I x v) (hlo' : lo = none → vlo = none) (hhi : ∀ x, hi = some x → ∃ v, vhi = some v ∧ VR ρ hf I x v) (hhi' : hi = none → vhi = none) :
    Yv P ρ hf I r (Instr.sliceAt t vx vlo vhi none) w := by
  cases x with
  | s l => simp only [VR] at hx; subst hx; exact sliceS_ok hT h hq hlo hlo' hhi hhi'
  | ref id g off n =>
    unfold aSlice at h
    simp only at h
    have hk := (hT t).1
    split at h
    · rename_i e x y hke hl hh; rw [hke] at hk
      obtain ⟨hu, ⟨ie, z, i1, i2, _⟩, _⟩ := hk
      obtain ⟨h1, h2, h3, pu, esz, cs, hi', hez⟩ := okz_inv h
      obtain ⟨b1, b2, b3⟩ : _ ∧ _ ∧ _ := hq _ (by rw [h3]; exact List.mem_singleton.2 rfl)
      obtain ⟨b, cap, rfl, c1, c2, c3⟩ := VR_ref hx hi'
      rw [hez] at c2
      rw [Yv, h1]
      refine ⟨h2, _, slice_run (w := w) hu i1 (b := some ⟨(ρ id).1, b, none⟩) (intOr_inv hl hlo hlo') (intOr_inv hh hhi hhi') b1 b2 b3 c3, ?_⟩
      by_cases hc : cap = x.toNat
      · rw [if_pos hc]
        exact VR_ref_mk hi' (.inr (by omega)) (by rw [show cap - x.toNat = 0 by omega]; omega) (by omega)
      · rw [if_neg hc, Option.map_some, add_off, i2]
        have hb : b = off := c1.resolve_right (by omega)
        subst hb
        exact VR_ref_mk hi' (.inl rfl) (by rw [hez]; exact mul_room c2 (by omega)) (by omega)
    · cases h
  | sl n cs =>
    unfold aSlice at h
    simp only at h
    have hk := (hT t).1
    split at h
    · rename_i e x y hke hl hh; rw [hke] at hk
      obtain ⟨hu, ⟨ie, z, i1, i2, _⟩, _⟩ := hk
      obtain ⟨h1, h2, h3⟩ := okq_inv h
      obtain ⟨b1, b2, b3⟩ : _ ∧ _ ∧ _ := hq _ (by rw [h3]; exact List.mem_singleton.2 rfl)
      simp only [VR, PV] at hx
      obtain ⟨ad, cap, vs, rfl, p0, p1, p2⟩ := hx
      rw [Yv, h1]
      refine ⟨h2, _, slice_run (w := w) hu i1 (b := ad) (intOr_inv hl hlo hlo') (intOr_inv hh hhi hhi') b1 b2 b3 p0.1, ?_⟩
      simp only [VR, PV]
      have e1 : (cs.take (y.toNat * (tin C e).size)).drop (x.toNat * (tin C e).size) = (cs.drop (x.toNat * (tin C e).size)).take ((y.toNat * (tin C e).size) - (x.toNat * (tin C e).size)) := List.drop_take
      by_cases hc : cap = x.toNat
      · rw [if_pos hc]
        have : (cs.take (y.toNat * (tin C e).size)).drop (x.toNat * (tin C e).size) = [] := by
          rw [e1, show y.toNat = x.toNat by omega]; simp
        rw [this]
        refine ⟨ad, _, [], rfl, ⟨by omega, fun _ => by omega⟩, rfl, ?_⟩
        cases ad with
        | none => exact ⟨rfl, rfl⟩
        | some a => exact ⟨p2.1, fun j v hj => by simp at hj⟩
      · rw [if_neg hc]
        refine ⟨_, _, (vs.drop (x.toNat * (tin C e).size)).take ((y.toNat * (tin C e).size) - (x.toNat * (tin C e).size)), rfl, ⟨by omega, fun hn => ?_⟩, by rw [e1]; exact (p1.drop _).take _, ?_⟩
        · cases ad with
          | none => have := p0.2 rfl; omega
          | some a => simp at hn
        cases ad with
        | none => obtain ⟨rfl, _⟩ := p2; exact ⟨by simp, rfl⟩
        | some a =>
          obtain ⟨blk, b, sp⟩ := a
          obtain rfl : sp = none := p2.1
          rw [Option.map_some, add_off, i2]
          exact p2.part _
    · cases h
  | nsl =>
    unfold aSlice at h
    simp only at h
    have hk := (hT t).1
    split at h
    · rename_i e x y hke hl hh; rw [hke] at hk
      obtain ⟨hu, ⟨ie, z, i1, i2, _⟩, _⟩ := hk
      obtain ⟨h1, h2, h3⟩ := okq_inv h
      obtain ⟨b1, b2⟩ : _ ∧ _ := hq _ (by rw [h3]; exact List.mem_singleton.2 rfl)
      subst b1; subst b2
      simp only [VR] at hx
      subst hx
      rw [Yv, h1]
      refine ⟨h2, _, slice_run (w := w) hu i1 (b := none) (intOr_inv hl hlo hlo') (intOr_inv hh hhi hhi') (by omega) (by omega) (by omega) (by simp), ?_⟩
      simp [VR]
    · cases h
  | p id g off =>
    unfold aSlice at h
    simp only at h
    have hk := (hT t).1
    split at h
    · rename_i m e x hke hl; rw [hke] at hk
      obtain ⟨hu, ⟨ie, z, i1, i2, _⟩, _⟩ := hk
      split at h
      · rename_i y hh
        split at h
        · rename_i g' pu esz cs hi'
          split at h
          · rename_i e1 e2
            obtain rfl := Nat.eq_of_beq_eq_true e1
            have e2 := Nat.eq_of_beq_eq_true e2
            cases h
            obtain ⟨b1, b2, b3, b4⟩ : _ ∧ _ ∧ _ ∧ _ := hq _ (by simp; rfl)
            obtain rfl := VR_p hx hi'
            obtain ⟨c, ce, fz, q1, q2, q3, q4, q5, q6, q7⟩ := row_cells hs hi'
            refine ⟨rfl, _, sliceA_run (w := w) hu i1 (intOr_inv hl hlo hlo') (intOr_inv hh hhi hhi') b1 b2 b3, ?_⟩
            by_cases hc : m = x.toNat
            · rw [if_pos hc]
              exact VR_ref_mk hi' (.inr (by omega)) (by rw [show m - x.toNat = 0 by omega]; omega) (by omega)
            · rw [if_neg hc, add_off, i2]
              exact VR_ref_mk hi' (.inl rfl) (by rw [e2]; exact mul_room (by omega) (by omega)) (by omega)
          · cases h
        · cases h
      · cases h
    · cases h
  | _ => unfold aSlice at h; simp at h
theorem fields_get {fs : List Field} {xs : List (Nat × Nat × Bool)} (h : fs.map (fld P) = xs.map some) {j : Nat} {y : Nat × Nat × Bool} (hj : nth xs j = some y) :
    ∃ f inf d, fs[j]? = some f ∧ P.info? f.type = some inf ∧ P.underlying f.type = some d ∧ y = (f.offset, inf.size, isAggD d) := by
  rw [nth_eq] at hj
  have := congrArg (·[j]?) h
  simp only [List.getElem?_map, hj, Option.map_some] at this
  cases hf : fs[j]? with
  | none => rw [hf] at this; simp at this
  | some f =>
    rw [hf] at this
    simp only [Option.map_some, Option.some.injEq] at this
    unfold fld at this
    split at this
    · rename_i inf d h1 h2
      simp only [Option.some.injEq] at this
      exact ⟨f, inf, d, rfl, h1, h2, this.symm⟩
    · cases this
theorem fieldAddr_ok {t : TypeId} {x : T} {vx : Value} {f : Nat} {r : AR} (hT : TabOk P C) (h : aFieldAddr C hf t x f = some r) (hx : VR ρ hf I x vx) :
    Yv P ρ hf I r (Instr.fieldAt t vx f) w := by
  unfold aFieldAddr at h
  have hk := (hT t).1
  split at h
  · rename_i fs hke; rw [hke] at hk
    obtain ⟨fields, hu, hfs⟩ := hk
    split at h
    · rename_i off n ag hn
      obtain ⟨f', inf, d, g1, g2, g3, g4⟩ := fields_get hfs hn
      simp only [Prod.mk.injEq] at g4
      obtain ⟨rfl, g5, rfl⟩ := g4
      have hg : fields[f]? = some f' := by simpa using g1
      have hne : ¬ inf.size = 0 := by omega
      split at h
      · rename_i id g o
        obtain ⟨h1, h2, h3, pu, esz, cs, hi⟩ := oku_inv h
        obtain rfl := VR_p hx hi
        rw [Yv, h1]
        exact ⟨h2, .pointer (some ⟨(ρ id).1, o + f'.offset, none⟩), by simp [Instr.fieldAt, run_underlying hu, hg, Instr.sureAddr, fieldPlace, sizeOf, typeInfo, g2, hne, add_off], VR_p_mk hi⟩
      · rename_i cs o
        obtain ⟨h1, h2, h3⟩ := ok_inv h
        simp only [VR, PV] at hx
        obtain ⟨blk, b, vs, rfl, p1, p2⟩ := hx
        rw [Yv, h1]
        exact ⟨h2, .pointer (some ⟨blk, b + (o + f'.offset), none⟩), by simp [Instr.fieldAt, run_underlying hu, hg, Instr.sureAddr, fieldPlace, sizeOf, typeInfo, g2, hne, add_off, Nat.add_assoc],
          by simp only [VR, PV]; exact ⟨blk, b, vs, rfl, p1, p2⟩⟩
      · cases h
    · cases h
  · cases h
/-- A part of a struct or an array. -/
theorem part_run {t : TypeId} {inf : TypeInfo} {d : TypeDesc} {cs : List T} {vs : List Value} {off n : Nat} {or : Or} {u : List Nat} {r : AR} (h1 : P.info? t = some inf) (h2 : P.underlying t = some d)
    (hn : inf.size = n) (h0 : 0 < n) (h : readAt cs off n (isAggD d) or u = some r) (hq : ∀ p ∈ r.q, p) (hv : VRs ρ hf I cs vs) :
    r.d = [] ∧ ∃ v, (part t ⟨vs⟩ off).run P w = .ok v w ∧ VR ρ hf I r.t v := by
  obtain ⟨a1, a2, a3⟩ := readAt_inv h hq h0
  refine ⟨a1, ?_⟩
  have hagg : (isAgg t).run P w = .ok (isAggD d) w := by
    simp only [isAgg, Sem.run_bind, run_underlying h2, Result.andThen_ok]
    cases d <;> simp [isAggD]
  have hsize : (sizeOf t).run P w = .ok n w := by simp [sizeOf, typeInfo, h1, hn]
  cases hg : isAggD d with
  | false =>
    obtain ⟨v, hv1, hv2⟩ := hv.get _ _ (a2 hg)
    rw [hg] at hagg
    exact ⟨v, by simp [part, hagg, hv1], hv2⟩
  | true =>
    obtain ⟨e, hle⟩ := a3 hg
    rw [hg] at hagg
    refine ⟨.agg ((vs.drop off).take n).toArray, ?_, by rw [e]; exact ⟨_, rfl, (hv.drop off).take _⟩⟩
    simp only [part, Sem.run_bind, hagg, Result.andThen_ok, if_true, hsize, Sem.run_pure]
    congr 2
    apply Array.ext'
    simp
theorem field_ok {t : TypeId} {x : T} {vx : Value} {f : Nat} {r : AR} (hT : TabOk P C) (h : aField C t x f = some r) (hq : ∀ p ∈ r.q, p) (hx : VR ρ hf I x vx) :
    Yv P ρ hf I r (Instr.field t vx f) w := by
  unfold aField at h
  have hk := (hT t).1
  split at h
  · rename_i fs cs hke; rw [hke] at hk
    obtain ⟨fields, hu, hfs⟩ := hk
    split at h
    · rename_i off n ag hn
      obtain ⟨f', inf, d, g1, g2, g3, g4⟩ := fields_get hfs hn
      simp only [Prod.mk.injEq] at g4
      obtain ⟨rfl, g5, rfl⟩ := g4
      have hg : fields[f]? = some f' := by simpa using g1
      simp only [VR] at hx
      obtain ⟨vs, rfl, hv⟩ := hx
      obtain ⟨a1, v, a2, a3⟩ := part_run (w := w) g2 g3 g5.symm (Nat.succ_pos _) h hq hv
      exact ⟨a1, v, by simp [Instr.field, run_underlying hu, hg, asAgg, a2], a3⟩
    · cases h
  · cases h
theorem indexAddr_ok {t : TypeId} {x i : T} {vx vi : Value} {r : AR} (hT : TabOk P C) (h : aIndexAddr C hf t x i = some r) (hq : ∀ p ∈ r.q, p) (hx : VR ρ hf I x vx) (hi : VR ρ hf I i vi) :
    Yv P ρ hf I r (Instr.indexAt t vx vi) w := by
  unfold aIndexAddr at h
  have hk := (hT t).1
  split at h
  · rename_i n e id g off k j hke; rw [hke] at hk
    obtain ⟨hu, ⟨ie, z, i1, i2, _⟩, _⟩ := hk
    obtain ⟨h1, h2, h3, pu, esz, cs, hi'⟩ := oku_inv h
    obtain ⟨b1, b2⟩ : _ ∧ _ := hq _ (by rw [h3]; exact List.mem_singleton.2 rfl)
    obtain rfl := VR_p hx hi'
    simp only [VR] at hi; subst hi
    rw [Yv, h1]
    have hs : (sizeOf e).run P w = .ok (tin C e).size w := by simp [sizeOf, typeInfo, i1, i2]
    exact ⟨h2, .pointer (some ⟨(ρ id).1, off + j.toNat * (tin C e).size, none⟩), by simp [Instr.indexAt, asIntOf, run_underlying hu, Instr.sureAddr, b1, b2, hs, add_off], VR_p_mk hi'⟩
  · rename_i n e cs off k j hke; rw [hke] at hk
    obtain ⟨hu, ⟨ie, z, i1, i2, _⟩, _⟩ := hk
    obtain ⟨h1, h2, h3⟩ := okq_inv h
    obtain ⟨b1, b2⟩ : _ ∧ _ := hq _ (by rw [h3]; exact List.mem_singleton.2 rfl)
    simp only [VR, PV] at hx hi; subst hi
    obtain ⟨blk, b, vs, rfl, p1, p2⟩ := hx
    rw [Yv, h1]
    have hs : (sizeOf e).run P w = .ok (tin C e).size w := by simp [sizeOf, typeInfo, i1, i2]
    exact ⟨h2, .pointer (some ⟨blk, b + (off + j.toNat * (tin C e).size), none⟩), by simp [Instr.indexAt, asIntOf, run_underlying hu, Instr.sureAddr, b1, b2, hs, add_off, Nat.add_assoc],
      by simp only [VR, PV]; exact ⟨blk, b, vs, rfl, p1, p2⟩⟩
  · rename_i e id g off n k j hke; rw [hke] at hk
    obtain ⟨hu, ⟨ie, z, i1, i2, _⟩, _⟩ := hk
    obtain ⟨h1, h2, h3, pu, esz, cs, hi'⟩ := oku_inv h
    obtain ⟨b1, b2⟩ : _ ∧ _ := hq _ (by rw [h3]; exact List.mem_singleton.2 rfl)
    obtain ⟨b, cap, rfl, c1, c2, c3⟩ := VR_ref hx hi'
    have hb : b = off := c1.resolve_right (by omega)
    subst hb
    simp only [VR] at hi; subst hi
    rw [Yv, h1]
    have hs : (sizeOf e).run P w = .ok (tin C e).size w := by simp [sizeOf, typeInfo, i1, i2]
    exact ⟨h2, .pointer (some ⟨(ρ id).1, b + j.toNat * (tin C e).size, none⟩), by simp [Instr.indexAt, asIntOf, run_underlying hu, Instr.sureAddr, b1, b2, hs, add_off], VR_p_mk hi'⟩
  · rename_i e n cs k j hke; rw [hke] at hk
    obtain ⟨hu, ⟨ie, z, i1, i2, _⟩, _⟩ := hk
    obtain ⟨h1, h2, h3⟩ := okq_inv h
    obtain ⟨b1, b2⟩ : _ ∧ _ := hq _ (by rw [h3]; exact List.mem_singleton.2 rfl)
    simp only [VR, PV] at hx hi; subst hi
    obtain ⟨ad, cap, vs, rfl, p0, p1, p2⟩ := hx
    rw [Yv, h1]
    have hs : (sizeOf e).run P w = .ok (tin C e).size w := by simp [sizeOf, typeInfo, i1, i2]
    cases ad with
    | none => have := p0.2 rfl; omega
    | some ad =>
      obtain ⟨blk, b, sp⟩ := ad
      obtain rfl : sp = none := p2.1
      exact ⟨h2, .pointer (some ⟨blk, b + j.toNat * (tin C e).size, none⟩), by simp [Instr.indexAt, asIntOf, run_underlying hu, Instr.sureAddr, b1, b2, hs, add_off],
        by simp only [VR, PV]; exact ⟨blk, b, vs, rfl, p1, p2⟩⟩
  · cases h
theorem index_ok {t : TypeId} {x i : T} {vx vi : Value} {or : Or} {r : AR} (hT : TabOk P C) (h : aIndex C t x i or = some r) (hq : ∀ p ∈ r.q, p) (hx : VR ρ hf I x vx) (hi : VR ρ hf I i vi) :
    Yv P ρ hf I r (Instr.index t vx vi) w := by
  unfold aIndex at h
  have hk := (hT t).1
  split at h
  · rename_i l k j hke; rw [hke] at hk
    obtain ⟨h1, h2, h3⟩ := okq_inv h
    obtain ⟨b1, b2⟩ : _ ∧ _ := hq _ (by rw [h3]; exact List.mem_singleton.2 rfl)
    simp only [VR] at hx hi; subst hx; subst hi
    rw [Yv, h1]
    have hlt : j.toNat < l.length := by omega
    have he : (ByteArray.mk ⟨l⟩)[j.toNat]? = some l[j.toNat] := by
      rw [getElem?_pos (c := ByteArray.mk ⟨l⟩) (i := j.toNat) (h := hlt)]; rfl
    refine ⟨h2, .int .u8 (l[j.toNat].toNat : Int), by simp [Instr.index, asIntOf, run_underlying hk, b1, he], ?_⟩
    simp only [VR, bt, List.getD_eq_getElem?_getD, List.getElem?_eq_getElem hlt, Option.getD_some]
  · rename_i n e cs k j hke; rw [hke] at hk
    obtain ⟨hu, ⟨ie, z, i1, i2, i3, i4, i5, i6, _⟩, d, hd, ha⟩ := hk
    split at h
    · cases h
    rename_i hsz0
    unfold addq at h
    split at h
    · rename_i t' d' u' qs hr
      cases h
      obtain ⟨b1, b2⟩ : 0 ≤ j ∧ j < n := hq _ (by simp)
      simp only [VR] at hx hi; subst hi
      obtain ⟨vs, rfl, hv⟩ := hx
      have h0 : 0 < (tin C e).size := Nat.pos_of_ne_zero fun e0 => by rw [e0] at hsz0; simp at hsz0
      rw [← ha] at hr
      obtain ⟨a1, v, a2, a3⟩ := part_run (w := w) i1 hd i2 h0 hr (fun p hp => hq p (by simp [hp])) hv
      have hs : (sizeOf e).run P w = .ok (tin C e).size w := by simp [sizeOf, typeInfo, i1, i2]
      exact ⟨a1, v, by simp [Instr.index, asIntOf, run_underlying hu, b1, b2, hs, a2], a3⟩
    · cases h
  · cases h
end
end Go.Proofs.YtipomdmlkkifcaaGreatDoor.Vm
/- The symbolic machine, part 9: conversions, append, iterators, built-in functions. -/
namespace Go.Proofs.YtipomdmlkkifcaaGreatDoor.Vm
open Go
section
variable {P : Program} {C : Ctx} {E : Ent} {ρ : Place} {hf : Objs} {I : Mem} {w : World} {a : Act} {o : Oper}
theorem bytes_rel : ∀ l : List UInt8, VRs ρ hf I (bytesT l) (l.map fun c => Value.int .u8 (c.toNat : Int)) := fun l => VRs.map _ _ (fun c => by simp [VR]) l
theorem bytesT_length (l : List UInt8) : (bytesT l).length = l.length := by simp [bytesT]
theorem bytesT_plain : ∀ l : List UInt8, plainL (bytesT l) = true
  | [] => rfl
  | c :: l => by simp only [bytesT, List.map_cons, plainL, plain]; exact bytesT_plain l
theorem plain_celly' {xs : List T} {pu : Bool} (h : (if pu then plainL xs else cellyL xs) = true) : cellyL xs = true := by
  cases pu with
  | true => exact plainL_celly h
  | false => exact h
theorem bytes_inv : ∀ {l : List UInt8} {vs : List Value}, VRs ρ hf I (bytesT l) vs → vs = l.map fun c => Value.int .u8 (c.toNat : Int)
  | [], vs, h => by simpa [bytesT, VRs] using h
  | c :: l, vs, h => by
    simp only [bytesT, List.map_cons, VRs] at h
    obtain ⟨v, r, rfl, h1, h2⟩ := h
    simp only [VR] at h1
    rw [h1, List.map_cons, bytes_inv (l := l) h2]
/-- The cells of a slice, in memory. -/
theorem cellsOf_run {x : T} {vx : Value} {n : Nat} {xs : List T} {u : List Nat} (hs : HS ρ hf I w) (h : cellsOf hf x = some (n, xs, u)) (hx : VR ρ hf I x vx) :
    ∃ base cap vals, vx = .slice base n cap ∧ VRs ρ hf I xs vals ∧ (base = none → vals = []) ∧ ∀ ad, base = some ad → ∀ j v, vals[j]? = some v → w.cell? (ad.add j) = some v := by
  unfold cellsOf at h
  split at h
  · rename_i id g off m
    split at h
    · rename_i g' pu esz cs hi
      split at h
      · rename_i hg; obtain rfl := Nat.eq_of_beq_eq_true hg
        simp only [Option.some.injEq, Prod.mk.injEq] at h
        obtain ⟨rfl, rfl, rfl⟩ := h
        obtain ⟨b, cap, rfl, c1, c2, c3⟩ := VR_ref hx hi
        obtain ⟨c, ce, fz, q1, q2, q3, q4, q5, q6, q7⟩ := row_cells hs hi
        refine ⟨some ⟨(ρ id).1, b, none⟩, cap, ((c.toList.take cs.length).drop off).take (m * szOf esz), rfl, (q4.drop off).take _, by simp, fun ad had j v hj => ?_⟩
        simp only [Option.some.injEq] at had; subst had
        rw [add_off]
        rw [List.getElem?_take] at hj
        split at hj
        · rename_i hlt
          have hb : b = off := c1.resolve_right (fun e0 => by
            have : m = 0 := by omega
            rw [this] at hlt; simp at hlt)
          subst hb
          rw [List.getElem?_drop] at hj
          exact q6 _ _ hj
        · simp at hj
      · cases h
    · cases h
  · simp only [Option.some.injEq, Prod.mk.injEq] at h
    obtain ⟨rfl, rfl, rfl⟩ := h
    simp only [VR, PV] at hx
    obtain ⟨ad, cap, vs, rfl, p0, p1, p2⟩ := hx
    refine ⟨ad, cap, vs, rfl, PVs.vrs _ _ p1, fun e => by subst e; exact p2.1, fun a ha j v hj => ?_⟩
    subst ha
    obtain ⟨blk, b, sp⟩ := a
    obtain rfl : sp = none := p2.1
    rw [add_off]
    exact hs.mem _ _ (p2.2 j v hj)
  · simp only [Option.some.injEq, Prod.mk.injEq] at h
    obtain ⟨rfl, rfl, rfl⟩ := h
    simp only [VR] at hx; subst hx
    exact ⟨none, 0, [], rfl, rfl, fun _ => rfl, by simp⟩
  · cases h
theorem push_bytes : ∀ (l : List UInt8) (s : List UInt8), (l.map fun c => (c.toNat : Int)).foldl (fun (r : ByteArray) n => r.push (UInt8.ofNat n.toNat)) ⟨⟨s⟩⟩ = ⟨⟨s ++ l⟩⟩
  | [], s => by simp
  | c :: l, s => by
    simp only [List.map_cons, List.foldl_cons]
    have : (ByteArray.mk ⟨s⟩).push (UInt8.ofNat (c.toNat : Int).toNat) = ⟨⟨s ++ [c]⟩⟩ := by
      simp [ByteArray.push, Array.push, List.concat_eq_append]
    rw [this, push_bytes l (s ++ [c])]; simp
theorem known_ok {t : TypeId} (hT : TabOk P C) (h : known (tin C t).k = true) : ∃ d, P.underlying t = some d := by
  have hk := (hT t).1
  cases e : (tin C t).k <;> rw [e] at hk h <;> first
    | (simp [known] at h; done)
    | exact ⟨_, hk⟩
    | exact ⟨_, hk.1⟩
    | (obtain ⟨_, hk, _⟩ := hk; exact ⟨_, hk⟩)
    | (obtain ⟨_, _, _, hk⟩ := hk; exact ⟨_, hk⟩)
theorem freeze_new (w : World) (c : Array Value) (e : TypeId) : (w.alloc (.cells c e)).freeze ⟨w.heap.size, c.size, none⟩ 1 = w.alloc (.cells c e (c.size, c.size + 1)) := by
  simp only [World.freeze, World.alloc]
  rw [if_neg (by decide)]
  congr 1
  apply Array.ext_getElem?
  intro i
  rw [Array.getElem?_modify, Array.getElem?_push, Array.getElem?_push]
  by_cases hi : i = w.heap.size
  · subst hi; simp
  · rw [if_neg (Ne.symm hi), if_neg hi, if_neg hi]
theorem thaw_end {n : Nat} : Thawed (n, n + 1) n := fun o h h' => by have := h'.1; simp at this; omega
def bytesV (l : List UInt8) : List Value := l.map fun c => Value.int .u8 (c.toNat : Int)
theorem stringToBytes_run (l : List UInt8) (e : TypeId) : (Conv.stringToBytes e ⟨⟨l⟩⟩).run P w = .ok (.slice (some ⟨w.drew.heap.size, 0, none⟩) l.length (grownCap w l.length 0 e))
    (w.drew.alloc (.cells ((bytesV l).toArray ++ Array.replicate (grownCap w l.length 0 e - l.length) (.int .u8 0)) e
      (((bytesV l).toArray ++ Array.replicate (grownCap w l.length 0 e - l.length) (Value.int .u8 0)).size, ((bytesV l).toArray ++ Array.replicate (grownCap w l.length 0 e - l.length) (Value.int .u8 0)).size + 1))) := by
  rw [← freeze_new]
  have e1 : (Array.map (fun b : UInt8 => Value.int .u8 (b.toNat : Int)) ⟨l⟩) = (bytesV l).toArray := by apply Array.ext'; simp [bytesV]
  have hsh : ∀ (w1 : World) (c : Array Value), (w1.alloc (.cells c e)).shape? w1.heap.size = some (e, c.size) := fun w1 c => by
    simp only [World.shape?, heap_alloc_new]
  simp only [Conv.stringToBytes, Sem.run_bind, run_choose, Question.forced, size_mk, Result.andThen_ok, e1, newRow, run_newObj, Sem.run_pure, markStringish, run_shape, Bool.false_eq_true, if_false, World.drew_eq, World.alloc_eq, hsh, run_freeze]
  rfl
theorem convert_ok {s d : TypeId} {x : T} {X : Operand} {or : Or} {r : AR} (hT : TabOk P C) (hs : HS ρ hf I w) (hx : Ext E.w0 E.own E.I0 ρ hf I w) (ho : o.op = .convert s d X)
    (h : aConvert C hf o.dst s d x or = some r) (hq : ∀ p ∈ r.q, p) (hv : VR ρ hf I x (a.eval X)) :
    Yv P ρ hf I r (convert s d (a.eval X)) w ∨ Does P E hf ρ I o r.t r.d a w := by
  unfold aConvert at h
  split at h
  · cases h
  · rename_i hkn
    obtain ⟨ds, hds⟩ := known_ok hT hkn
    have hk := (hT d).1
    split at h
    · rename_i k k' n hke; rw [hke] at hk
      obtain ⟨h1, h2, h3⟩ := ok_inv h
      simp only [VR] at hv; left; rw [Yv, h1, hv]
      exact ⟨h2, _, by simp [convert, run_underlying hds, run_underlying hk, Conv.intToInt]; rfl, by simp [VR]⟩
    · rename_i k k' n hke; rw [hke] at hk
      obtain ⟨h1, h2, h3⟩ := ok_inv h
      simp only [VR] at hv; left; rw [Yv, h1, hv]
      exact ⟨h2, _, by simp [convert, run_underlying hds, run_underlying hk, Conv.intToFloat]; rfl, by simp [VR]⟩
    · rename_i k f b hke; rw [hke] at hk
      split at h
      · rename_i k' n
        obtain ⟨h1, h2, h3⟩ := okq_inv h
        obtain ⟨b1, b2, b3⟩ : _ ∧ _ ∧ _ := hq _ (by rw [h3]; exact List.mem_singleton.2 rfl)
        simp only [VR] at hv; left; rw [Yv, h1, hv]
        exact ⟨h2, .int k n, by simp [convert, run_underlying hds, run_underlying hk, Conv.floatToInt, b1, b2, b3], by simp [VR]⟩
      · cases h
    · rename_i l hke; rw [hke] at hk
      obtain ⟨h1, h2, h3⟩ := ok_inv h
      simp only [VR] at hv; left; rw [Yv, h1, hv]
      exact ⟨h2, _, by simp [convert, run_underlying hds, run_underlying hk]; rfl, by simp [VR]⟩
    · rename_i e l hke; rw [hke] at hk
      split at h
      · rename_i hee
        have hke' := (hT e).1
        rw [hee] at hke'
        obtain ⟨s', hd, h1, h2, h3⟩ := mkObj_inv h
        simp only [VR] at hv
        right
        rw [h1, h2]
        have hcap : l.length ≤ grownCap w l.length 0 e := grownCap_ge w l.length 0 e
        have hl : (bytesV l).length = l.length := by simp [bytesV]
        refine new_does (w1 := w.drew) (c := (bytesV l).toArray ++ Array.replicate (grownCap w l.length 0 e - l.length) (.int .u8 0)) (e := e)
          (v := .slice (some ⟨w.drew.heap.size, 0, none⟩) l.length (grownCap w l.length 0 e)) (fitM thaw_end) (.inr rfl) hs hx ?_ ?_ (fun _ => bytesT_plain l)
          (VR_new_ref (by rw [show szOf (.row 1 e) = 1 from rfl, Nat.mul_one]; simp only [Array.size_append, List.size_toArray, hl, Array.size_replicate]; omega) hcap)
        · rw [execOp, ho]
          simp only [hv, Sem.run_bind]
          rw [show (convert s d (.string ⟨⟨l⟩⟩)).run P w = _ from by
            simp only [convert, Sem.run_bind, run_underlying hds, run_underlying hk.1, run_underlying hke', Result.andThen_ok]
            exact stringToBytes_run l e]
          rfl
        · rw [bytesT_length]
          have : (((bytesV l).toArray ++ Array.replicate (grownCap w l.length 0 e - l.length) (Value.int .u8 0)).toList.take l.length) = bytesV l := by
            simp [List.take_append, hl]
          rw [this]; exact bytes_rel l
      · cases h
    · rename_i hke hns; rw [hke] at hk
      split at h
      · rename_i e y hse
        have hks := (hT s).1
        rw [hse] at hks
        obtain ⟨hu, _⟩ := hks
        split at h
        · rename_i hee
          have hke' := (hT e).1
          rw [hee] at hke'
          split at h
          · rename_i n cs u hc
            cases h
            obtain ⟨b1, b2⟩ : cs = bytesT y ∧ n = y.length := hq _ (by simp)
            obtain ⟨base, cap, vals, e1, e2, e3, e4⟩ := cellsOf_run hs hc hv
            left
            rw [b1] at e2
            have hvals := bytes_inv e2
            refine ⟨rfl, .string ⟨⟨y⟩⟩, ?_, by simp [VR]⟩
            rw [e1]
            cases base with
            | none =>
              have : y = [] := by
                have := e3 rfl; rw [hvals] at this; simpa using this
              subst this
              rw [run_convert_bytes_string w s d e _ _ _ hu hke' hk]
              simp [Conv.bytesToString]; rfl
            | some ad =>
              have hl := run_loadCells_list (P := P) w ad vals (e4 ad rfl)
              rw [run_convert_bytes_string w s d e _ _ _ hu hke' hk]
              have hlen : vals.length = n := by rw [hvals, b2]; simp
              rw [hlen] at hl
              rw [run_bytesToString w ad n cap (y.map fun c => (c.toNat : Int)) (by rw [hl, hvals]; simp [List.map_map, Function.comp_def])]
              have := push_bytes y []
              simp only [List.nil_append] at this
              rw [← this]; rfl
          · cases h
        · cases h
      · cases h
    · cases h
def notInt (d : TypeDesc) : Prop := d = .string ∨ ∃ e, d = .slice e
theorem append_in {t t2 ty e : TypeId} {inf : TypeInfo} {d2 : TypeDesc} {x : Value} {m n cap blk b : Nat} {ys : List Value} {w' : World} (hu : P.underlying t = some (.slice e)) (hi : P.info? e = some inf)
    (hu2 : P.underlying t2 = some d2) (hd2 : notInt d2) (hlen : (Builtin.lenOf x).run P w = .ok m w) (hf1 : (Builtin.firstCells inf.size m x).run P w = .ok ⟨ys⟩ w) (hroom : n + m ≤ cap)
    (hst : (storeCells ⟨blk, b + n * inf.size, none⟩ ys).run P w = .ok () w') :
    (Builtin.append_ #[t, t2] ty #[.slice (some ⟨blk, b, none⟩) n cap, x]).run P w = .ok (.slice (some ⟨blk, b, none⟩) (n + m) cap) w' := by
  have hs : (sizeOf e).run P w = .ok inf.size w := by simp [sizeOf, typeInfo, hi]
  rcases hd2 with rfl | ⟨e', rfl⟩ <;> simp [Builtin.append_, run_underlying hu, run_underlying hu2, hs, hlen, hroom, hf1, add_off, hst]
theorem append_new {t t2 ty e : TypeId} {inf : TypeInfo} {z : Value} {d2 : TypeDesc} {x : Value} {m n cap : Nat} {base : Option Addr} {olds ys : List Value} (hu : P.underlying t = some (.slice e)) (hi : P.info? e = some inf) (hz : inf.zero = some z)
    (hu2 : P.underlying t2 = some d2) (hd2 : notInt d2) (hlen : (Builtin.lenOf x).run P w = .ok m w) (hf1 : (Builtin.firstCells inf.size m x).run P w.drew = .ok ⟨ys⟩ w.drew)
    (hold : (Builtin.firstCells inf.size n (.slice base n cap)).run P w.drew = .ok ⟨olds⟩ w.drew) (hroom : cap < n + m) (h63 : n + m ≤ 140737488355328) (h48 : (n + m) * inf.bytes ≤ 140737488355328) :
    (Builtin.append_ #[t, t2] ty #[.slice base n cap, x]).run P w = .ok (.slice (some ⟨w.drew.heap.size, 0, none⟩) (n + m) (grownCap w (n + m) cap e))
      (w.drew.alloc (.cells (⟨olds⟩ ++ ⟨ys⟩ ++ Builtin.zeroCells z.cells (grownCap w (n + m) cap e - (n + m))) e)) := by
  have hn : ¬ (n + m ≤ cap) := by omega
  have hfit := growslice_fits hroom h48
  have h63' : ¬ (9223372036854775807 < ((n : Int) + (m : Int))) := by omega
  have h48' : ¬ (281474976710656 < Builtin.nextslicecap (n + m) cap * inf.bytes) := by omega
  have hs : ∀ w : World, (sizeOf e).run P w = .ok inf.size w := fun w => by simp [sizeOf, typeInfo, hi]
  have hzr : ∀ w : World, (zeroValue e).run P w = .ok z w := fun w => by simp [zeroValue, typeInfo, hi, hz]
  have hti : ∀ w : World, (typeInfo e).run P w = .ok inf w := fun w => by simp [typeInfo, hi]
  rcases hd2 with rfl | ⟨e', rfl⟩ <;> simp [Builtin.append_, run_underlying hu, run_underlying hu2, hs, hzr, hti, hlen, hn, h63', h48', Question.forced, hf1, hold, newRow, grownCap] <;> (congr 2; apply Array.ext'; simp)
/-- What is appended. -/
theorem src_run {s : T} {vs : Value} {m size : Nat} {xs : List T} {u : List Nat} (hs : HS ρ hf I w)
    (h : srcOf hf s = some (m, xs, u)) (hv : VR ρ hf I s vs) (hl : m * size = xs.length) :
    ∃ ys, VRs ρ hf I xs ys ∧ (Builtin.lenOf vs).run P w = .ok m w ∧ (Builtin.firstCells size m vs).run P w = .ok ⟨ys⟩ w ∧ (Builtin.firstCells size m vs).run P w.drew = .ok ⟨ys⟩ w.drew := by
  unfold srcOf at h
  split at h
  · rename_i l
    simp only [Option.some.injEq, Prod.mk.injEq] at h
    obtain ⟨rfl, rfl, rfl⟩ := h
    simp only [VR] at hv; subst hv
    have e : Array.map (fun b : UInt8 => Value.int IntKind.u8 (b.toNat : Int)) ((ByteArray.mk ⟨l⟩).extract 0 l.length).data = ⟨bytesV l⟩ := by
      rw [extract_mk]; apply Array.ext'; simp [bytesV]
    exact ⟨bytesV l, bytes_rel l, by simp [Builtin.lenOf, size_mk], by simp only [Builtin.firstCells, Sem.run_pure, e], by simp only [Builtin.firstCells, Sem.run_pure, e]⟩
  · obtain ⟨base, cap, vals, rfl, e2, e3, e4⟩ := cellsOf_run hs h hv
    have hlen := e2.length
    refine ⟨vals, e2, by simp [Builtin.lenOf], ?_, ?_⟩
    · cases base with
      | none => rw [e3 rfl]; simp [Builtin.firstCells]
      | some ad =>
        have := run_loadCells_list (P := P) w ad vals (e4 ad rfl)
        rw [hlen, ← hl] at this
        simpa [Builtin.firstCells] using this
    · cases base with
      | none => rw [e3 rfl]; simp [Builtin.firstCells]
      | some ad =>
        have := run_loadCells_list (P := P) w.drew ad vals (fun j v hj => e4 ad rfl j v hj)
        rw [hlen, ← hl] at this
        simpa [Builtin.firstCells] using this
theorem append_ok {t t2 ty : TypeId} {d s : T} {dst : Option Nat} {vd vs : Value} {r : AR} {d2 : TypeDesc} (hT : TabOk P C) (hs : HS ρ hf I w) (hx : Ext E.w0 E.own E.I0 ρ hf I w)
    (hu2 : P.underlying t2 = some d2) (hd2 : notInt d2) (hrun : ∀ v w', (Builtin.append_ #[t, t2] ty #[vd, vs]).run P w = .ok v w' → (execOp a.eval o).run P w = .ok (.value v) w') (hdst : o.dst = dst)
    (h : aAppend C hf dst t d s = some r) (hq : ∀ p ∈ r.q, p) (hvd : VR ρ hf I d vd) (hvs : VR ρ hf I s vs) : Does P E hf ρ I o r.t r.d a w := by
  unfold aAppend at h
  have hk := (hT t).1
  split at h
  · rename_i e hke; rw [hke] at hk
    obtain ⟨hu, ⟨inf, z, i1, i2, i3, i4, i5, i6, _⟩, _⟩ := hk
    split at h
    · cases h
    · rename_i m xs u hnew
      split at h
      · rename_i id g n
        split at h
        · rename_i g' pu esz cs hi
          split at h
          · rename_i hb1 hb2 hb3
            obtain rfl := Nat.eq_of_beq_eq_true hb1
            have hez : szOf esz = (tin C e).size := Nat.eq_of_beq_eq_true hb2
            cases h
            obtain ⟨q1, q2, q3, q4, q5⟩ : n * szOf esz = cs.length ∧ m * szOf esz = xs.length ∧ (n + m) * (tin C e).bytes ≤ 140737488355328 ∧ n + m ≤ 140737488355328 ∧ (if pu then plainL xs else cellyL xs) = true := hq _ (by simp)
            obtain ⟨ys, y1, y2, y3, y4⟩ := src_run (P := P) (size := inf.size) hs hnew hvs (by rw [i2, ← hez]; exact q2)
            obtain ⟨b, cap, rfl, c1, c2, c3⟩ := VR_ref hvd hi
            obtain ⟨c, ce, fz, r1, r2, r3, r4, r5, r6, r7⟩ := row_cells hs hi
            have hyl := y1.length
            have hcl : c.toList.length = c.size := Array.length_toList
            have hle : HLe ρ hf ρ (updH hf [(id, g + 1, .row pu (amark e esz) (cs ++ xs))]) := by
              intro m' g1 o1 h1
              rw [updH_one]
              by_cases hm : id = m'
              · subst hm; rw [hi] at h1; simp only [Option.some.injEq, Prod.mk.injEq] at h1; obtain ⟨rfl, rfl⟩ := h1
                rw [if_pos rfl]; exact ⟨g + 1, _, rfl, Nat.le_succ _, fun e => by omega⟩
              · rw [if_neg hm]; exact ⟨g1, o1, h1, Nat.le_refl _, fun _ hd => ⟨rfl, hd, fun pu s cs e => ⟨pu, s, cs, e, rfl⟩⟩⟩
            by_cases hroom : n + m ≤ cap
            · -- in place
              have hoff : b + n * inf.size + ys.length ≤ c.size := by
                rw [i2, ← hez, hyl, ← q2, r2]
                have : n * szOf esz + m * szOf esz ≤ cap * szOf esz := by rw [← Nat.add_mul]; exact Nat.mul_le_mul_right _ hroom
                omega
              obtain ⟨w', c', s1, s2, s3, s4, s5, s6, s7, s8, s9⟩ := storeCells_run (P := P) (off := b + n * inf.size) ys 0 w c r1 r3.1 (by omega) (cellyL_one (plain_celly' q5) y1)
              have hgo := append_in (ty := ty) hu i1 hu2 hd2 y2 y3 hroom s1
              have hb0 : b = 0 ∨ cap = 0 := c1
              have hct : c'.toList.take (cs ++ xs).length = c.toList.take cs.length ++ ys := by
                rw [s9, List.length_append, ← q1, ← q2, Nat.add_zero]
                rcases hb0 with rfl | h0
                · rw [Nat.zero_add, i2, ← hez]
                  have e1 : (c.toList.take (n * szOf esz)).length = n * szOf esz := by rw [List.length_take]; omega
                  rw [List.append_assoc, List.take_append, e1, List.take_take, Nat.min_eq_right (by omega)]
                  congr 1
                  rw [List.take_append, List.take_of_length_le (by omega), show n * szOf esz + m * szOf esz - n * szOf esz - ys.length = 0 by omega]; simp
                · have hn0 : n = 0 := by omega
                  have hm0 : m = 0 := by omega
                  have hy0 : ys = [] := List.length_eq_zero_iff.1 (by rw [hyl, ← q2, hm0]; simp)
                  rw [hn0, hm0, hy0]; simp
              refine ⟨_, _, ρ, I, w', hrun _ _ hgo, .inl rfl, MLe.refl _, hle, write_HS hs hi trivial s6 hle ?_, write_Ext hx hi trivial s2 s3 s4 s5 s6 (g + 1), ?_⟩
              · refine ⟨c', ce, fz, s7, s8.trans r2, by rw [s8]; exact fit_in r3 r3.1, ?_⟩
                rw [hct]
                cases pu with
                | true => exact (r7 rfl).append (plainL_pvs q5 y1)
                | false => exact VRs.mono (MLe.refl _) hle _ _ (r4.append y1)
              · exact VR_ref_mk (by rw [updH_one, if_pos rfl]) c1 (by rw [szOf_amark]; exact c2) hroom
            · -- a new row
              have hold : (Builtin.firstCells inf.size n (.slice (some ⟨(ρ id).1, b, none⟩) n cap)).run P w.drew = .ok ⟨c.toList.take cs.length⟩ w.drew := by
                have hlc : (c.toList.take cs.length).length = n * inf.size := by rw [List.length_take, i2, ← hez, q1]; omega
                have := run_loadCells_list (P := P) w.drew ⟨(ρ id).1, b, none⟩ (c.toList.take cs.length) (fun j v hj => by
                  rw [add_off]
                  have hb : b = 0 := c1.resolve_right (fun h0 => by
                    have hn0 : n = 0 := by omega
                    rw [hn0] at q1; simp at q1; rw [← q1] at hj; simp at hj)
                  subst hb; rw [Nat.zero_add]; exact r6 j v hj)
                rw [hlc] at this
                simpa [Builtin.firstCells] using this
              have hgo := append_new (ty := ty) hu i1 i4 hu2 hd2 y2 y4 hold (by omega) q4 (by rw [i3]; exact q3)
              have hge : n + m ≤ grownCap w (n + m) cap e := grownCap_ge _ _ _ _
              have hzl : z.cells.size = inf.size := by
                have := (PVs.length (gndL_pvs (I := I) i5)); rw [Array.length_toList, i6] at this; omega
              have hlc : (c.toList.take cs.length).length = cs.length := by rw [List.length_take]; omega
              have hsz : ((⟨c.toList.take cs.length⟩ ++ ⟨ys⟩ ++ Builtin.zeroCells z.cells (grownCap w (n + m) cap e - (n + m)) : Array Value)).size = grownCap w (n + m) cap e * szOf esz := by
                rw [Array.size_append, Array.size_append, size_zeroCells, hzl, i2, ← hez]
                show (c.toList.take cs.length).length + ys.length + _ = _
                rw [hlc, hyl, ← q1, ← q2, ← Nat.add_mul, ← Nat.add_mul]; congr 1; omega
              have hg1 : ∀ g0 o0, hf id = some (g0, o0) → g0 < g + 1 := fun g0 o0 h0 => by rw [hi] at h0; simp only [Option.some.injEq, Prod.mk.injEq] at h0; omega
              have hct : ((⟨c.toList.take cs.length⟩ ++ ⟨ys⟩ ++ Builtin.zeroCells z.cells (grownCap w (n + m) cap e - (n + m)) : Array Value)).toList.take (cs ++ xs).length = c.toList.take cs.length ++ ys := by
                have hl2 : (cs ++ xs).length = (c.toList.take cs.length ++ ys).length := by rw [List.length_append, List.length_append, hlc, hyl]
                rw [hl2, Array.toList_append, Array.toList_append]
                exact List.take_left
              refine ⟨_, _, made ρ w.drew id _, I, _, hrun _ _ hgo, .inl rfl, MLe.refl _, made_HLe hg1, alloc_HS hs.drew hg1 (row_OR (fit_new thaw0) hg1 ?_ ?_), alloc_Ext hx.drew, ?_⟩
              · rw [hct]; exact r4.append y1
              · intro hp; subst hp; rw [hct]; exact (r7 rfl).append (plainL_pvs q5 y1)
              · simp only [VR]
                refine ⟨rfl, g + 1, _, by rw [updH_one, if_pos rfl], Nat.le_refl _, fun _ pu' esz' cs' e => ?_⟩
                simp only [Obj.row.injEq] at e
                obtain ⟨_, rfl, _⟩ := e
                exact ⟨0, _, by simp [made], .inl rfl, by simp only [made, if_pos]; rw [hsz, szOf_amark]; omega, hge⟩
          · cases h
        · cases h
      · split at h
        · rename_i rr
          cases h
          obtain ⟨q1, q2, q3, q4⟩ : 0 < m ∧ m * (tin C e).size = xs.length ∧ m * (tin C e).bytes ≤ 140737488355328 ∧ m ≤ 140737488355328 := hq _ (by simp)
          obtain ⟨ys, y1, y2, y3, y4⟩ := src_run (P := P) (size := inf.size) hs hnew hvs (by rw [i2]; exact q2)
          simp only [VR] at hvd; subst hvd
          have hold : (Builtin.firstCells inf.size 0 (.slice none 0 0)).run P w.drew = .ok ⟨[]⟩ w.drew := by simp [Builtin.firstCells]
          have hgo := append_new (ty := ty) hu i1 i4 hu2 hd2 y2 y4 hold (by omega) (by omega) (by rw [i3, Nat.zero_add]; exact q3)
          simp only [Nat.zero_add] at hgo
          have hge : m ≤ grownCap w m 0 e := grownCap_ge _ _ _ _
          have hyl := y1.length
          have hzl : z.cells.size = inf.size := by
            have := (PVs.length (gndL_pvs (I := I) i5)); rw [Array.length_toList, i6] at this; omega
          have hct : ((⟨[]⟩ ++ ⟨ys⟩ ++ Builtin.zeroCells z.cells (grownCap w m 0 e - m) : Array Value)).toList.take xs.length = ys := by
            rw [Array.toList_append, Array.toList_append, ← hyl]; simp
          refine new_does (w1 := w.drew) (e := e) fitS (.inr rfl) hs hx (hrun _ _ hgo) (by rw [hct]; exact y1) (fun e => e) (VR_new_ref ?_ hge)
          rw [Array.size_append, Array.size_append, size_zeroCells, hzl, i2]
          show _ * _ ≤ 0 + ys.length + _
          rw [szOf_tsz C, hyl, ← q2, Nat.zero_add, ← Nat.add_mul]
          exact Nat.mul_le_mul_right _ (by omega)
        · cases h
      · cases h
  · cases h
end
end Go.Proofs.YtipomdmlkkifcaaGreatDoor.Vm
