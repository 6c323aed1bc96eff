/- The symbolic machine, part 1: abstract values, abstract operations, and the function 'run' that executes a function's code on them. No theorem about Go here. -/
import Derived.Tactics
import Derived.Orders
import Derived.Below
import Derived.Deep.LoopGhost
namespace Go.Proofs.YtdiippegaidpkaaDoor.Vm
open Go

/-- Abstract values. 'b' a bool by a Lean term, 'bl' a known bool; 'sl', 'rp': memory that is never written again; 'ref', 'p': a slice of, a pointer into, an object of the abstract heap (id, generation). -/
inductive T where
  | top
  | b (x : Bool) | bl (x : Bool)
  | i (k : IntKind) (n : Int)
  | fl (k : FloatKind) (x : Nat) | cx (k : FloatKind) (x y : Nat)
  | s (l : List UInt8)
  | agg (cs : List T) | tup (cs : List T)
  | sl (n : Nat) (cs : List T) | nsl
  | rp (cs : List T) (off : Nat) | np
  | fn (f : Fn) (first caps : List T) | nfn
  | ifc (t : TypeId) (v : T) | nif
  | ref (id g off n : Nat)
  | p (id g off : Nat)
  deriving Inhabited

/-- What is told of an object's block: the cells per element; these and the elements' type; or the type of the one value that it is. -/
inductive Mk where
  | sz (n : Nat) | row (n e : Nat) | cell (t : Nat)
  deriving Inhabited
instance (n : Nat) : OfNat Mk n := ⟨.sz n⟩
def szOf : Mk → Nat
  | .sz n => n | .row n _ => n | .cell _ => 0
/-- Abstract objects: 'row pu esz cs': cells; 'pu': all of them plain (no reference to an object); 'esz': cells per element. 'it': an iterator over a string. -/
inductive Obj where
  | dead
  | row (pu : Bool) (esz : Mk) (cs : List T)
  | it (l : List UInt8) (pos : Nat)
  deriving Inhabited

def szB : Nat := 100000
abbrev Env := List (Nat × T)
abbrev Heap := List (Nat × Nat × Obj)

/-- Answers of the proof to what the machine cannot see: a bool's value; the cells that a load gives; the bytes of a slice; a call's result, which objects it takes and what it leaves. -/
inductive Or where
  | a | t | f
  | v (cs : List T)
  | l (x : List UInt8)
  | c (r : T) (use : List Nat) (out : Heap)

/-- What there is to know of a type. -/
inductive TK where
  | other | bool | int (k : IntKind) | fl (k : FloatKind) | cx (k : FloatKind) | str
  | slice (e : Nat) | arr (n e : Nat) | struct (fs : List (Nat × Nat × Bool)) | ptr (e : Nat) | func
structure TI where
  k : TK
  size : Nat
  bytes : Nat
  agg : Bool
  zero : List T
/-- A table of types by halving. -/
inductive Tab where
  | leaf (n : Nat) (t : TI)
  | node (m : Nat) (l r : Tab)
def TI.none : TI := ⟨.other, 0, 0, false, []⟩
def Tab.get : Tab → Nat → TI
  | .leaf m t, n => match Nat.beq m n with | true => t | false => .none
  | .node m l r, n => match Nat.blt n m with | true => l.get n | false => r.get n
structure Ctx where
  ty : Tab
  glob : List (Nat × T)

def look : Env → Nat → T
  | [], _ => .top
  | (r, v) :: e, n => match Nat.beq r n with | true => v | false => look e n
def hlook : Heap → Nat → Option (Nat × Obj)
  | [], _ => none
  | (r, g, o) :: e, n => match Nat.beq r n with | true => some (g, o) | false => hlook e n

def force {α : Type} (v : T) (K : T → α) : α := match v with
  | .top => K .top | .b x => K (.b x) | .bl x => K (.bl x) | .i k n => K (.i k n) | .fl k x => K (.fl k x) | .cx k x y => K (.cx k x y)
  | .s l => K (.s l) | .agg c => K (.agg c) | .tup c => K (.tup c) | .sl n c => K (.sl n c) | .nsl => K .nsl | .rp c o => K (.rp c o) | .np => K .np
  | .fn f x c => K (.fn f x c) | .nfn => K .nfn | .ifc t v => K (.ifc t v) | .nif => K .nif | .ref i g o n => K (.ref i g o n) | .p i g o => K (.p i g o)
/-- A list, its spine and each value brought to sight. -/
def forceL {α : Type} : List T → (List T → α) → α
  | [], K => K []
  | x :: xs, K => force x fun x => forceL xs fun xs => K (x :: xs)
def pushAll {α β : Type} : List α → List α → (List α → β) → β
  | [], h, K => K h
  | e :: d, h, K => pushAll d h fun h => K (e :: h)

def ofConst : Value → T
  | .bool x => .bl x | .int k n => .i k n | .float k x => .fl k x | .complex k x y => .cx k x y | .string ⟨⟨l⟩⟩ => .s l
  | .pointer none => .np | .slice none 0 0 => .nsl | .nilFunc => .nfn | .nilIface => .nif | _ => .top
def opdF (C : Ctx) (ef : Nat → T) : Operand → T
  | .tmp t => ef t | .const v => ofConst v | .global g => look C.glob g | .func f => .fn (.func f) [] []
def opd (C : Ctx) (e : Env) : Operand → T
  | .tmp t => look e t | .const v => ofConst v | .global g => look C.glob g | .func f => .fn (.func f) [] []

/-- What an operation yields: the value, the objects written, the objects looked at, what is to be shown. -/
structure AR where
  t : T
  d : Heap
  u : List Nat
  q : List Prop

def bt (l : List UInt8) (n : Int) : Int := ((l.getD n.toNat 0).toNat : Int)
def bitsI (op : BinOp) (k : IntKind) (x y : Int) : Int :=
  let a := BitVec.ofInt k.bits x
  let b := BitVec.ofInt k.bits y
  k.wrap (match op with
    | .and => (a &&& b).toNat | .or => (a ||| b).toNat | .xor => (a ^^^ b).toNat | _ => (a &&& ~~~b).toNat)
def ok (t : T) : Option AR := some ⟨t, [], [], []⟩
def okq (t : T) (q : Prop) : Option AR := some ⟨t, [], [], [q]⟩
/-- Is the reference the object's own, and the object a row? -/
def cur (hl : Nat → Option (Nat × Obj)) (id g : Nat) : Bool := match hl id with
  | some (g', .row _ _ _) => Nat.beq g g'
  | _ => false
/-- A value that leans on an object. -/
def oku (hl : Nat → Option (Nat × Obj)) (id g : Nat) (t : T) (q : List Prop) : Option AR := match cur hl id g with
  | true => some ⟨t, [], [id], q⟩
  | false => none
/-- A slice of an object whose elements have 'n' cells. -/
def okz (hl : Nat → Option (Nat × Obj)) (id g n : Nat) (t : T) (q : List Prop) : Option AR := match hl id with
  | some (g', .row _ esz _) => match Nat.beq g g', Nat.beq (szOf esz) n with
    | true, true => some ⟨t, [], [id], q⟩
    | _, _ => none
  | _ => none
def ikN : IntKind → Nat
  | .i8 => 0 | .i16 => 1 | .i32 => 2 | .i64 => 3 | .u8 => 4 | .u16 => 5 | .u32 => 6 | .u64 => 7
def fkN : FloatKind → Nat
  | .f32 => 0 | .f64 => 1

def binI (op : BinOp) (k : IntKind) (x y : Int) : Option AR := match op with
  | .add => ok (.i k (k.wrap (x + y))) | .sub => ok (.i k (k.wrap (x - y))) | .mul => ok (.i k (k.wrap (x * y)))
  | .quo => okq (.i k (k.wrap (x.tdiv y))) (y ≠ 0) | .rem => okq (.i k (x.tmod y)) (y ≠ 0)
  | .and => ok (.i k (bitsI .and k x y)) | .or => ok (.i k (bitsI .or k x y)) | .xor => ok (.i k (bitsI .xor k x y)) | .andNot => ok (.i k (bitsI .andNot k x y))
  | .eql => ok (.b (x == y)) | .neq => ok (.b (x != y))
  | .lss => ok (.b (decide (x < y))) | .leq => ok (.b (decide (x ≤ y))) | .gtr => ok (.b (decide (x > y))) | .geq => ok (.b (decide (x ≥ y)))
  | _ => none
def shiftI (op : BinOp) (k : IntKind) (x y : Int) : Option AR := match op with
  | .shl => okq (.i k (k.wrap (x * 2 ^ (min y.toNat k.bits)))) (0 ≤ y)
  | .shr => okq (.i k (x.fdiv (2 ^ (min y.toNat k.bits)))) (0 ≤ y)
  | _ => none
def binS (op : BinOp) (x y : List UInt8) : Option AR := match op with
  | .add => okq (.s (x ++ y)) (x.length + y.length ≤ 9223372036854775807)
  | .eql => ok (.b (x == y)) | .neq => ok (.b (!(x == y)))
  | .lss => ok (.b (Op.bytesLess x y)) | .leq => ok (.b (Op.bytesLess x y || x == y))
  | .gtr => ok (.b (!(Op.bytesLess x y || x == y))) | .geq => ok (.b (!Op.bytesLess x y))
  | _ => none
def binF (op : BinOp) (k : FloatKind) (x y : Nat) : Option AR := match op with
  | .eql => ok (.b (k.format.order x y == some .eq)) | .neq => ok (.b (k.format.order x y != some .eq))
  | .lss => ok (.b (k.format.order x y == some .lt)) | .leq => ok (.b (k.format.order x y == some .lt || k.format.order x y == some .eq))
  | .gtr => ok (.b (k.format.order x y == some .gt)) | .geq => ok (.b (k.format.order x y == some .gt || k.format.order x y == some .eq))
  | _ => none
/-- 'sq': what must be shown of an answer. -/
def bin (hl : Nat → Option (Nat × Obj)) (op : BinOp) (k : TK) (x y : T) (or : Or) (sq : Bool → Prop) : Option AR := match x, y with
  | .i k a, .i k' c => match op with
    | .shl => shiftI .shl k a c | .shr => shiftI .shr k a c
    | op => match Nat.beq (ikN k) (ikN k') with | true => binI op k a c | false => none
  | .s a, .s c => binS op a c
  | .fl k a, .fl k' c => match Nat.beq (fkN k) (fkN k') with
   | false => none
   | true => match op, or with
    | .add, .v [.fl _ r] => okq (.fl k r) (k.format.add a c = some r) | .sub, .v [.fl _ r] => okq (.fl k r) (k.format.sub a c = some r)
    | op, _ => binF op k a c
  | .cx k a1 a2, .cx k' c1 c2 => match Nat.beq (fkN k) (fkN k') with
   | false => none
   | true => match op, or with
    | .add, .v [.cx _ r1 r2] => okq (.cx k r1 r2) (k.format.add a1 c1 = some r1 ∧ k.format.add a2 c2 = some r2)
    | .sub, .v [.cx _ r1 r2] => okq (.cx k r1 r2) (k.format.sub a1 c1 = some r1 ∧ k.format.sub a2 c2 = some r2)
    | .eql, _ => ok (.b (k.format.order a1 c1 == some .eq && k.format.order a2 c2 == some .eq))
    | .neq, _ => ok (.b (!(k.format.order a1 c1 == some .eq && k.format.order a2 c2 == some .eq)))
    | _, _ => none
  | .bl a, .bl c => match k, op with | .bool, .eql => ok (.bl (a == c)) | .bool, .neq => ok (.bl (!(a == c))) | _, _ => none
  | .b a, .bl c => match k, op with | .bool, .eql => ok (.b (a == c)) | .bool, .neq => ok (.b (!(a == c))) | _, _ => none
  | .bl a, .b c => match k, op with | .bool, .eql => ok (.b (a == c)) | .bool, .neq => ok (.b (!(a == c))) | _, _ => none
  | .b a, .b c => match k, op with | .bool, .eql => ok (.b (a == c)) | .bool, .neq => ok (.b (!(a == c))) | _, _ => none
  | .np, .np => match k, op with | .ptr _, .eql => ok (.bl true) | .ptr _, .neq => ok (.bl false) | _, _ => none
  | .p id g _, .np => match k, op with | .ptr _, .eql => oku hl id g (.bl false) [] | .ptr _, .neq => oku hl id g (.bl true) [] | _, _ => none
  | .rp _ _, .np => match k, op with | .ptr _, .eql => ok (.bl false) | .ptr _, .neq => ok (.bl true) | _, _ => none
  | .nsl, .nsl => match k, op with | .slice _, .eql => ok (.bl true) | .slice _, .neq => ok (.bl false) | _, _ => none
  | _, _ => match or with
    | .v [.b z] => okq (.b z) (sq z)
    | .v [.bl z] => okq (.bl z) (sq z)
    | _ => none

/-! ### Operations -/
def tin (C : Ctx) (t : Nat) : TI := C.ty.get t
/-- The mark of a row of elements of a type. -/
def tsz (C : Ctx) (e : Nat) : Mk := .row (tin C e).size e
def cellsT : T → List T
  | .agg cs => cs
  | t => [t]
/-- A value that bears no reference to an object. -/
def plain : T → Bool
  | .ref .. | .p .. | .top | .tup _ | .fn .. | .ifc .. => false
  | .agg _ => false
  | _ => true
/-- A value of one cell. -/
def celly : T → Bool
  | .agg _ => false
  | .tup _ => false
  | .top => false
  | _ => true
def cellyL : List T → Bool
  | [] => true
  | t :: l => match celly t with | true => cellyL l | false => false
def plainL : List T → Bool
  | [] => true
  | t :: l => match plain t with | true => plainL l | false => false
/-- Each operand's value, brought to sight. -/
def evL {α : Type} (ev : Operand → T) : List Operand → (List T → α) → α
  | [], K => K []
  | x :: xs, K => force (ev x) fun v => evL ev xs fun vs => K (v :: vs)
def newG (hl : Nat → Option (Nat × Obj)) (d : Nat) : Nat := match hl d with | some (g, _) => g + 1 | none => 0
/-- A new object at the operation's own slot. -/
def mkObj (hl : Nat → Option (Nat × Obj)) (d : Option Nat) (o : Obj) (K : Nat → Nat → T) (q : List Prop) : Option AR := match d with
  | some d => match newG hl d with
    | g => some ⟨K d g, [(d, g, o)], [d], q⟩
  | none => none
/-- The cells 'xs' written from 'off' on. -/
def splice (cs : List T) (off : Nat) (xs : List T) : List T := match xs with
  | [x] => cs.set off x
  | xs => cs.take off ++ xs ++ cs.drop (off + xs.length)
/-- What is read at 'off', of size 'n'; 'lit': the cells are written out. -/
def readAt (cs : List T) (off n : Nat) (agg : Bool) (or : Or) (u : List Nat) : Option AR := match or with
  | .a => match agg with
    | true => match Nat.ble (off + n) cs.length with
      | true => forceL ((cs.drop off).take n) fun ys => some ⟨.agg ys, [], u, []⟩
      | false => none
    | false => match cs.drop off with
      | y :: _ => force y fun y => some ⟨y, [], u, []⟩
      | [] => none
  | .v ys => match Nat.beq ys.length n with
    | true => match agg, ys with
      | true, ys => some ⟨.agg ys, [], u, [(cs.drop off).take n = ys]⟩
      | false, [y] => some ⟨y, [], u, [cs[off]? = some y]⟩
      | _, _ => none
    | false => none
  | _ => none
def aLoad (C : Ctx) (hl : Nat → Option (Nat × Obj)) (t : Nat) (a : T) (or : Or) : Option AR := match Nat.beq (tin C t).size 0 with
 | true => none
 | false => match a with
  | .p id g off => match hl id with
    | some (g', .row _ _ cs) => match Nat.beq g g' with
      | true => readAt cs off (tin C t).size (tin C t).agg or [id]
      | false => none
    | _ => none
  | .rp cs off => readAt cs off (tin C t).size (tin C t).agg or []
  | _ => none
def aStore (C : Ctx) (hl : Nat → Option (Nat × Obj)) (t : Nat) (a x : T) : Option AR := match Nat.beq (tin C t).size 0 with
 | true => none
 | false => match a with
  | .p id g off => match hl id with
    | some (g', .row pu esz cs) => match Nat.beq g g' with
      | true => match Nat.beq (cellsT x).length (tin C t).size with
        | true => match pu with
          | true => match plainL (cellsT x) with
            | true => some ⟨.top, [(id, g, .row true esz (splice cs off (cellsT x)))], [id], [off + (tin C t).size ≤ cs.length]⟩
            | false => none
          | false => match cellyL (cellsT x), Nat.ble (off + (tin C t).size) cs.length with
            | true, true => forceL (splice cs off (cellsT x)) fun cs => some ⟨.top, [(id, g, .row false esz cs)], [id], []⟩
            | _, _ => none
        | false => none
      | false => none
    | _ => none
  | _ => none
/-- Parts laid over zero cells. -/
def fillT (place : Nat → Option (Nat × Nat)) : List (Nat × T) → List T → Option (List T)
  | [], cs => some cs
  | (j, v) :: rest, cs => match place j with
    | some (off, n) => match Nat.beq (cellsT v).length n, cellyL (cellsT v) with
      | true, true => match Nat.ble (off + n) cs.length with
        | true => forceL (splice cs off (cellsT v)) fun cs => fillT place rest cs
        | false => none
      | _, _ => none
    | none => none
def evP {α : Type} (ev : Operand → T) : List (Nat × Operand) → (List (Nat × T) → α) → α
  | [], K => K []
  | (j, x) :: xs, K => force (ev x) fun v => evP ev xs fun vs => K ((j, v) :: vs)
def nth {α : Type} : List α → Nat → Option α
  | [], _ => none
  | x :: _, 0 => some x
  | _ :: l, n + 1 => nth l n
def aBuild (C : Ctx) (t : Nat) (ps : List (Nat × T)) : Option AR := match Nat.beq (tin C t).size 0 with
 | true => none
 | false => match (tin C t).k with
  | .struct fs => match fillT (fun j => match nth fs j with | some (off, n, _) => some (off, n) | none => none) ps (tin C t).zero with
    | some cs => forceL cs fun cs => ok (.agg cs)
    | none => none
  | .arr _ e => match fillT (fun j => some (j * (tin C e).size, (tin C e).size)) ps (tin C t).zero with
    | some cs => forceL cs fun cs => ok (.agg cs)
    | none => none
  | _ => none
def reps : Nat → List T → List T
  | 0, _ => []
  | n + 1, z => z ++ reps n z
def aBuildSlice (C : Ctx) (hl : Nat → Option (Nat × Obj)) (dst : Option Nat) (t len : Nat) (ps : List (Nat × T)) : Option AR := match (tin C t).k with
  | .slice e => match Nat.ble (len * (tin C e).size) 16777216, Nat.beq (len * (tin C e).size) 0 with
    | true, false => match fillT (fun j => some (j * (tin C e).size, (tin C e).size)) ps (reps len (tin C e).zero) with
      | some cs => forceL cs fun cs => mkObj hl dst (.row (plainL cs) (tsz C e) cs) (fun d g => .ref d g 0 len) []
      | none => none
    | _, _ => none
  | _ => none
/-- 'n' zero elements. -/
def zeros (n : Nat) (z : List T) : List T := match z with
  | [x] => List.replicate n x
  | z => reps n z
def aMakeSlice (C : Ctx) (hl : Nat → Option (Nat × Obj)) (dst : Option Nat) (t : Nat) (l c : T) : Option AR := match (tin C t).k, l, c with
  | .slice e, .i _ l, .i _ c => match plainL (tin C e).zero with
    | true => mkObj hl dst (.row true (tsz C e) (zeros l.toNat (tin C e).zero)) (fun d g => .ref d g 0 l.toNat) [0 ≤ l ∧ l ≤ c ∧ c * (tin C e).bytes ≤ 281474976710656 ∧ c ≤ 4611686018427387904]
    | false => none
  | _, _, _ => none
def intOr (v : Option T) (d : Int) : Option Int := match v with
  | none => some d | some (.i _ n) => some n | _ => none
def aSlice (C : Ctx) (hl : Nat → Option (Nat × Obj)) (t : Nat) (x : T) (lo hi : Option T) : Option AR := match x with
  | .s l => match (tin C t).k, lo, hi with
    | .str, none, none => ok (.s l)
    | .str, some (.i _ a), none => okq (.s (l.drop a.toNat)) (0 ≤ a ∧ a ≤ l.length)
    | .str, none, some (.i _ c) => okq (.s (l.take c.toNat)) (0 ≤ c ∧ c ≤ l.length)
    | .str, some (.i _ a), some (.i _ c) => okq (.s ((l.take c.toNat).drop a.toNat)) (0 ≤ a ∧ a ≤ c ∧ c ≤ l.length)
    | _, _, _ => none
  | .ref id g off n => match (tin C t).k, intOr lo 0, intOr hi n with
    | .slice e, some a, some c => okz hl id g (tin C e).size (.ref id g (off + a.toNat * (tin C e).size) (c.toNat - a.toNat)) [0 ≤ a ∧ a ≤ c ∧ c ≤ n]
    | _, _, _ => none
  | .sl n cs => match (tin C t).k, intOr lo 0, intOr hi n with
    | .slice e, some a, some c => okq (.sl (c.toNat - a.toNat) ((cs.take (c.toNat * (tin C e).size)).drop (a.toNat * (tin C e).size))) (0 ≤ a ∧ a ≤ c ∧ c ≤ n)
    | _, _, _ => none
  | .p id g off => match (tin C t).k, intOr lo 0 with
    | .arr n e, some a => match intOr hi n with
      | some c => match hl id with
        | some (g', .row _ esz cs) => match Nat.beq g g', Nat.beq (szOf esz) (tin C e).size with
          | true, true => some ⟨.ref id g (off + a.toNat * (tin C e).size) (c.toNat - a.toNat), [], [id], [0 ≤ a ∧ a ≤ c ∧ c ≤ n ∧ off + n * (tin C e).size ≤ cs.length]⟩
          | _, _ => none
        | _ => none
      | none => none
    | _, _ => none
  | _ => none
def aFieldAddr (C : Ctx) (hl : Nat → Option (Nat × Obj)) (t : Nat) (x : T) (f : Nat) : Option AR := match (tin C t).k with
  | .struct fs => match nth fs f with
    | some (off, n + 1, _) => match x with
      | .p id g o => oku hl id g (.p id g (o + off)) []
      | .rp cs o => ok (.rp cs (o + off))
      | _ => none
    | _ => none
  | _ => none
def aField (C : Ctx) (t : Nat) (x : T) (f : Nat) : Option AR := match (tin C t).k, x with
  | .struct fs, .agg cs => match nth fs f with
    | some (off, n + 1, agg) => readAt cs off (n + 1) agg .a []
    | _ => none
  | _, _ => none
def aIndexAddr (C : Ctx) (hl : Nat → Option (Nat × Obj)) (t : Nat) (x i : T) : Option AR := match (tin C t).k, x, i with
  | .arr n e, .p id g off, .i _ j => oku hl id g (.p id g (off + j.toNat * (tin C e).size)) [0 ≤ j ∧ j < n]
  | .arr n e, .rp cs off, .i _ j => okq (.rp cs (off + j.toNat * (tin C e).size)) (0 ≤ j ∧ j < n)
  | .slice e, .ref id g off n, .i _ j => oku hl id g (.p id g (off + j.toNat * (tin C e).size)) [0 ≤ j ∧ j < n]
  | .slice e, .sl n cs, .i _ j => okq (.rp cs (j.toNat * (tin C e).size)) (0 ≤ j ∧ j < n)
  | _, _, _ => none
def addq (q : Prop) : Option AR → Option AR
  | some ⟨t, d, u, qs⟩ => some ⟨t, d, u, q :: qs⟩
  | none => none
def aIndex (C : Ctx) (t : Nat) (x i : T) (or : Or) : Option AR := match (tin C t).k, x, i with
  | .str, .s l, .i _ j => okq (.i .u8 (bt l j)) (0 ≤ j ∧ j < l.length)
  | .arr n e, .agg cs, .i _ j => match Nat.beq (tin C e).size 0 with | true => none | false => addq (0 ≤ j ∧ j < n) (readAt cs (j.toNat * (tin C e).size) (tin C e).size (tin C e).agg or [])
  | _, _, _ => none
def bytesT (l : List UInt8) : List T := l.map fun c => .i .u8 (c.toNat : Int)
/-- What a slice holds: how many elements, its cells, and the object looked at. -/
def cellsOf (hl : Nat → Option (Nat × Obj)) (x : T) : Option (Nat × List T × List Nat) := match x with
  | .ref id g off n => match hl id with
    | some (g', .row _ esz cs) => match Nat.beq g g' with
      | true => some (n, (cs.drop off).take (n * szOf esz), [id])
      | false => none
    | _ => none
  | .sl n cs => some (n, cs, [])
  | .nsl => some (0, [], [])
  | _ => none
def known : TK → Bool
  | .other => false
  | _ => true
def aConvert (C : Ctx) (hl : Nat → Option (Nat × Obj)) (dst : Option Nat) (s d : Nat) (x : T) (or : Or) : Option AR := match known (tin C s).k with
 | false => none
 | true => match (tin C d).k, x with
  | .int k, .i _ n => ok (.i k (k.wrap n))
  | .fl k, .i _ n => ok (.fl k (k.nearest n))
  | .int k, .fl f b => match or with
    | .v [.i _ n] => okq (.i k n) ((f.decode b).toInt .zero = some n ∧ k.min ≤ n ∧ n ≤ k.max)
    | _ => none
  | .str, .s l => ok (.s l)
  | .slice e, .s l => match (tin C e).k with
    | .int .u8 => mkObj hl dst (.row true (.row 1 e) (bytesT l)) (fun d g => .ref d g 0 l.length) []
    | _ => none
  | .str, x => match (tin C s).k, or with
    | .slice e, .l y => match (tin C e).k with
      | .int .u8 => match cellsOf hl x with
        | some (n, cs, u) => some ⟨.s y, [], u, [cs = bytesT y ∧ n = y.length]⟩
        | none => none
      | _ => none
    | _, _ => none
  | _, _ => none
def aUn (op : UnOp) (x : T) : Option AR := match op, x with
  | .neg, .i k n => ok (.i k (k.wrap (0 - n)))
  | .xor, .i k n => ok (.i k (bitsI .xor k (if k.signed then -1 else k.max) n))
  | .not, .b x => ok (.b (!x))
  | .not, .bl x => ok (.bl (!x))
  | _, _ => none
def aLen (hl : Nat → Option (Nat × Obj)) (x : T) : Option AR := match x with
  | .ref id g _ n => oku hl id g (.i .i64 n) []
  | .sl n _ => ok (.i .i64 n)
  | .nsl => ok (.i .i64 0)
  | _ => none
def srcOf (hl : Nat → Option (Nat × Obj)) (s : T) : Option (Nat × List T × List Nat) := match s with
  | .s l => some (l.length, bytesT l, [])
  | s => cellsOf hl s
/-- The mark behind an append: the type is told still if it is the very one. -/
def amark (e : Nat) (esz : Mk) : Mk := match esz with
  | .sz n => .sz n
  | .row n e' => match Nat.beq e' e with | true => .row n e' | false => .sz n
  | .cell _ => .sz 0
/-- 'append(dst, src...)'. -/
def aAppend (C : Ctx) (hl : Nat → Option (Nat × Obj)) (dst : Option Nat) (t : Nat) (d s : T) : Option AR := match (tin C t).k with
  | .slice e =>
    match srcOf hl s with
    | none => none
    | some (m, xs, u) => match d with
      | .ref id g 0 n => match hl id with
        | some (g', .row pu esz cs) => match Nat.beq g g', Nat.beq (szOf esz) (tin C e).size, u.contains id with
          | true, true, false => some ⟨.ref id (g + 1) 0 (n + m), [(id, g + 1, .row pu (amark e esz) (cs ++ xs))], id :: u,
              [n * szOf esz = cs.length ∧ m * szOf esz = xs.length ∧ (n + m) * (tin C e).bytes ≤ 140737488355328 ∧ n + m ≤ 140737488355328 ∧ (if pu then plainL xs else cellyL xs) = true]⟩
          | _, _, _ => none
        | _ => none
      | .nsl => match dst with
        | some r => match newG hl r with
          | g => some ⟨.ref r g 0 m, [(r, g, .row (plainL xs) (tsz C e) xs)], r :: u,
              [0 < m ∧ m * (tin C e).size = xs.length ∧ m * (tin C e).bytes ≤ 140737488355328 ∧ m ≤ 140737488355328]⟩
        | none => none
      | _ => none
  | _ => none
def minI (x y : Int) : Int := if y < x then y else x
def maxI (x y : Int) : Int := if x < y then y else x
def foldI (f : Int → Int → Int) (k : IntKind) : List T → Int → Option Int
  | [], x => some x
  | .i k' y :: l, x => match Nat.beq (ikN k) (ikN k') with | true => foldI f k l (f x y) | false => none
  | _ :: _, _ => none
def aBuiltin (C : Ctx) (hl : Nat → Option (Nat × Obj)) (dst : Option Nat) (b : Builtin) (ats : List Nat) (args : List T) : Option AR := match b, ats, args with
  | .len, t :: _, [x] => match (tin C t).k with
    | .arr n _ => ok (.i .i64 n)
    | .str => match x with | .s l => ok (.i .i64 l.length) | _ => none
    | .slice _ => aLen hl x
    | .ptr e => match (tin C e).k with | .arr n _ => ok (.i .i64 n) | _ => none
    | _ => none
  | .append, [t, t2], [d, s] => match (tin C t2).k with
    | .slice _ => aAppend C hl dst t d s
    | .str => aAppend C hl dst t d s
    | _ => none
  | .min, _, .i k x :: l => match foldI minI k l x with | some r => ok (.i k r) | none => none
  | .max, _, .i k x :: l => match foldI maxI k l x with | some r => ok (.i k r) | none => none
  | .complex, _, [.fl k x, .fl k' y] => match Nat.beq (fkN k) (fkN k') with | true => ok (.cx k x y) | false => none
  | .real, _, [.cx k x _] => ok (.fl k x)
  | .imag, _, [.cx k _ y] => ok (.fl k y)
  | _, _, _ => none
end Go.Proofs.YtdiippegaidpkaaDoor.Vm
