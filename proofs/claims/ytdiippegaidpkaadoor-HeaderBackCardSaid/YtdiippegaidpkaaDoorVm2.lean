/- The symbolic machine, part 2: what abstract values and objects say of Go's memory; a function's contract; the function 'run'. -/
import Derived.Test.YtdiippegaidpkaaDoorVm1
namespace Go.Proofs.YtdiippegaidpkaaDoor.Vm
open Go

/-- What is known of memory that is never written again. -/
abbrev Mem := Addr → Option Value
/-- The values 'vs' lie from the address 'a' on. -/
def Lies (I : Mem) (a : Option Addr) (off : Nat) (vs : List Value) : Prop := match a with
  | none => vs = [] ∧ off = 0
  | some a => a.spot = none ∧ ∀ j v, vs[j]? = some v → I ⟨a.block, a.off + j, none⟩ = some v

mutual
/-- A value without references to objects. -/
def PV (I : Mem) : T → Value → Prop
  | .top, _ => False
  | .b x, v => v = .bool x
  | .bl x, v => v = .bool x
  | .i k n, v => v = .int k n
  | .fl k x, v => v = .float k x
  | .cx k x y, v => v = .complex k x y
  | .s l, v => v = .string ⟨⟨l⟩⟩
  | .agg cs, v => ∃ vs, v = .agg ⟨vs⟩ ∧ PVs I cs vs
  | .tup cs, v => ∃ vs, v = .tuple ⟨vs⟩ ∧ PVs I cs vs
  | .sl n cs, v => ∃ a cap vs, v = .slice a n cap ∧ (n ≤ cap ∧ (a = none → n = 0)) ∧ PVs I cs vs ∧ Lies I a 0 vs
  | .nsl, v => v = .slice none 0 0
  | .rp cs off, v => ∃ a b vs, v = .pointer (some ⟨a, b + off, none⟩) ∧ PVs I cs vs ∧ Lies I (some ⟨a, b, none⟩) 0 vs
  | .np, v => v = .pointer none
  | .fn f x c, v => ∃ xs cs, v = .func f ⟨xs⟩ ⟨cs⟩ ∧ PVs I x xs ∧ PVs I c cs
  | .nfn, v => v = .nilFunc
  | .ifc t x, v => ∃ y, v = .iface t y ∧ PV I x y
  | .nif, v => v = .nilIface
  | .ref .., _ => False
  | .p .., _ => False
def PVs (I : Mem) : List T → List Value → Prop
  | [], vs => vs = []
  | t :: ts, vs => ∃ v r, vs = v :: r ∧ PV I t v ∧ PVs I ts r
end

/-- Where the objects lie: block and number of cells. -/
abbrev Place := Nat → Nat × Nat
abbrev Objs := Nat → Option (Nat × Obj)
mutual
/-- Any value: references are right as long as their generation is the object's. -/
def VR (ρ : Place) (h : Objs) (I : Mem) : T → Value → Prop
  | .top, _ => True
  | .agg cs, v => ∃ vs, v = .agg ⟨vs⟩ ∧ VRs ρ h I cs vs
  | .tup cs, v => ∃ vs, v = .tuple ⟨vs⟩ ∧ VRs ρ h I cs vs
  | .fn f x c, v => ∃ xs cs, v = .func f ⟨xs⟩ ⟨cs⟩ ∧ VRs ρ h I x xs ∧ VRs ρ h I c cs
  | .ifc t x, v => ∃ y, v = .iface t y ∧ VR ρ h I x y
  | .ref id g off n, v => v.oneCell' = true ∧ ∃ g' o, h id = some (g', o) ∧ g ≤ g' ∧ (g = g' → ∀ pu esz cs, o = .row pu esz cs →
      ∃ b cap, v = .slice (some ⟨(ρ id).1, b, none⟩) n cap ∧ (b = off ∨ cap = 0) ∧ b + cap * szOf esz ≤ (ρ id).2 ∧ n ≤ cap)
  | .p id g off, v => v.oneCell' = true ∧ ∃ g' o, h id = some (g', o) ∧ g ≤ g' ∧ (g = g' → o ≠ .dead → v = .pointer (some ⟨(ρ id).1, off, none⟩))
  | .b x, v => v = .bool x
  | .bl x, v => v = .bool x
  | .i k n, v => v = .int k n
  | .fl k x, v => v = .float k x
  | .cx k x y, v => v = .complex k x y
  | .s l, v => v = .string ⟨⟨l⟩⟩
  | .sl n cs, v => PV I (.sl n cs) v
  | .nsl, v => v = .slice none 0 0
  | .rp cs off, v => PV I (.rp cs off) v
  | .np, v => v = .pointer none
  | .nfn, v => v = .nilFunc
  | .nif, v => v = .nilIface
def VRs (ρ : Place) (h : Objs) (I : Mem) : List T → List Value → Prop
  | [], vs => vs = []
  | t :: ts, vs => ∃ v r, vs = v :: r ∧ VR ρ h I t v ∧ VRs ρ h I ts r
end

def Obj.live : Obj → Prop
  | .dead => False
  | _ => True
/-- The range of cells that may not be written misses the first 'n'. -/
def Thawed (fz : Nat × Nat) (n : Nat) : Prop := ∀ o, o < n → ¬ (fz.1 ≤ o ∧ o < fz.2)
/-- What an object's mark tells of its block: the type, and, of an object of one value, the size. -/
def Fit (esz : Mk) (n m : Nat) (e : TypeId) (fz : Nat × Nat) : Prop := Thawed fz m ∧ (∀ t, esz = .cell t → e = t ∧ m = n) ∧ (∀ t s, esz = .row s t → e = t)
def OR (ρ : Place) (h : Objs) (I : Mem) (w : World) (id : Nat) : Obj → Prop
  | .dead => True
  | .row pu esz cs => ∃ c e fz, w.heap[(ρ id).1]? = some (.cells c e fz) ∧ c.size = (ρ id).2 ∧ Fit esz cs.length c.size e fz ∧
      (if pu then PVs I cs (c.toList.take cs.length) else VRs ρ h I cs (c.toList.take cs.length))
  | .it l pos => w.heap[(ρ id).1]? = some (.stringIter ⟨⟨l⟩⟩ pos)
/-- The abstract heap fits the world. -/
structure HS (ρ : Place) (h : Objs) (I : Mem) (w : World) : Prop where
  mem : ∀ a v, I a = some v → w.cell? a = some v
  obj : ∀ id g o, h id = some (g, o) → OR ρ h I w id o
  inj : ∀ id id' g o g' o', h id = some (g, o) → h id' = some (g', o') → o.live → o'.live → id ≠ id' → (ρ id).1 ≠ (ρ id').1
  dis : ∀ a v id g o, I a = some v → h id = some (g, o) → o.live → a.block ≠ (ρ id).1
/-- What has become of the world since a call began: of what was there only the blocks 'own' may have turned; what is known for good only grew, by new memory or by those. -/
structure Ext (w0 : World) (own : Nat → Prop) (I0 : Mem) (ρ : Place) (h : Objs) (I : Mem) (w : World) : Prop where
  os : w.os = w0.os
  tape : w.tape = w0.tape
  output : w.output = w0.output
  size : w0.heap.size ≤ w.heap.size
  blk : ∀ b, b < w0.heap.size → ¬ own b → w.heap[b]? = w0.heap[b]?
  sub : ∀ a v, I0 a = some v → I a = some v
  new : ∀ a v, I a = some v → I0 a = some v ∨ w0.heap.size ≤ a.block ∨ own a.block
  own : ∀ id g o, h id = some (g, o) → o.live → w0.heap.size ≤ (ρ id).1 ∨ own (ρ id).1
/-- The blocks of the objects that a call is given. -/
def owned (ρ : Place) (h : Objs) (b : Nat) : Prop := ∃ id g o, h id = some (g, o) ∧ o.live ∧ (ρ id).1 = b
/-- A function that has a body, and is none of those that the machine carries out by name. -/
def Callable (P : Program) (f : FuncId) : Prop := ∃ fn, P.funcs[f]? = some fn ∧ (fn.name == "runtime.NumGoroutine") = false ∧ fn.body.isNone = false
/-- The objects go on: each keeps its place as long as its generation stays. -/
def HLe (ρ : Place) (h : Objs) (ρ' : Place) (h' : Objs) : Prop := ∀ id g o, h id = some (g, o) → ∃ g' o', h' id = some (g', o') ∧ g ≤ g' ∧
  (g = g' → o' ≠ .dead → ρ' id = ρ id ∧ o ≠ .dead ∧ ∀ pu esz cs, o' = .row pu esz cs → ∃ pu' esz' cs', o = .row pu' esz' cs' ∧ szOf esz' = szOf esz)
/-- The package-level variables that are looked at hold what the table says. -/
def GlobOk (C : Ctx) (I : Mem) : Prop := ∀ g, look C.glob g = .top ∨ PV I (look C.glob g) (.pointer (some ⟨g, 0, none⟩))
/-- A function's contract: called with these values, over these objects, it returns a value of which 'post' holds, with the objects that it leaves. -/
def HR (P : Program) (C : Ctx) (f : FuncId) (args : List T) (hin : Heap) (post : T → Heap → Prop) : Prop :=
  Callable P f ∧ ∀ ρ I w vals, GlobOk C I → HS ρ (hlook hin) I w → VRs ρ (hlook hin) I args vals →
    Calls P f ⟨vals⟩ w fun e w' => ∃ v r ρ' hout I', e = .returned v ∧ VR ρ' (hlook hout) I' r v ∧ HS ρ' (hlook hout) I' w' ∧
      Ext w (owned ρ (hlook hin)) I ρ' (hlook hout) I' w' ∧ HLe ρ (hlook hin) ρ' (hlook hout) ∧ post r hout
/-- The contract of a function whose result is known. -/
def Ret (P : Program) (C : Ctx) (f : FuncId) (args : List T) (r : T) : Prop := HR P C f args [] fun r' h' => r' = r ∧ h' = []
def HRet (P : Program) (C : Ctx) (f : FuncId) (args : List T) (hin : Heap) (r : T) (hout : Heap) : Prop := HR P C f args hin fun r' h' => r' = r ∧ h' = hout

/-! ### Operations that take an answer; calls -/
def restrict (hl : Objs) : List Nat → Heap
  | [] => []
  | id :: l => match hl id with
    | some (g, o) => (id, g, o) :: restrict hl l
    | none => restrict hl l
def memb (n : Nat) : List Nat → Bool
  | [] => false
  | m :: l => match Nat.beq m n with | true => true | false => memb n l
/-- What a call leaves may take the place of what was there. -/
def fits (hl : Objs) (use : List Nat) : Heap → Bool
  | [] => true
  | (id, g, _) :: l => match hl id with
    | none => fits hl use l
    | some (g0, _) => match memb id use with
      | true => match Nat.ble g0 g with | true => fits hl use l | false => false
      | false => match Nat.blt g0 g with | true => fits hl use l | false => false
def has (id : Nat) : Heap → Bool
  | [] => false
  | (m, _) :: l => match Nat.beq m id with | true => true | false => has id l
def covers (out : Heap) : List Nat → Bool
  | [] => true
  | id :: l => match has id out with | true => covers out l | false => false
def ids : Heap → List Nat
  | [] => []
  | (id, _) :: l => id :: ids l
/-- All objects that a value names are among these. -/
def okIds (use : List Nat) : T → Bool
  | .ref id _ _ _ => memb id use
  | .p id _ _ => memb id use
  | .agg cs => okIdsL use cs
  | .tup cs => okIdsL use cs
  | .fn _ x c => match okIdsL use x with | true => okIdsL use c | false => false
  | .ifc _ v => okIds use v
  | _ => true
where
  okIdsL (use : List Nat) : List T → Bool
  | [] => true
  | t :: ts => match okIds use t with | true => okIdsL use ts | false => false
def closedH (use : List Nat) : Heap → Bool
  | [] => true
  | (_, _, .row false _ cs) :: l => match okIds.okIdsL use cs with | true => closedH use l | false => false
  | _ :: l => closedH use l
def apps {α : Type} : List T → List T → (List T → α) → α
  | [], l, K => K l
  | x :: xs, l, K => apps xs l fun l => K (x :: l)
def aCall (P : Program) (C : Ctx) (hl : Objs) (f : T) (args : List T) (or : Or) : Option AR := match f, or with
  | .fn (.func f) x c, .c r use out => apps args c fun ac => apps x ac fun all =>
    match fits hl use out, covers out use, okIds.okIdsL use all, closedH use (restrict hl use) with
    | true, true, true, true => apps' use (ids out) fun u => some ⟨r, out, u, [HRet P C f all (restrict hl use) r out]⟩
    | _, _, _, _ => none
  | _, _ => none
where
  apps' {α : Type} : List Nat → List Nat → (List Nat → α) → α
  | [], l, K => K l
  | x :: xs, l, K => apps' xs l fun l => K (x :: l)
def aPick (c x y : T) (or : Or) : Option AR := match c with
  | .bl true => ok x
  | .bl false => ok y
  | .b z => match or with
    | .t => okq x (z = true)
    | .f => okq y (z = false)
    | _ => none
  | _ => none
def aNext (hl : Objs) (x : T) (or : Or) : Option AR := match x with
  | .p id g 0 => match hl id with
    | some (g', .it l pos) => match Nat.beq g g', or with
      | true, .t => some ⟨.tup [.bl true, .i .i64 pos, .i .i32 (Utf8.decode ⟨⟨l⟩⟩ pos).1], [(id, g, .it l (pos + (Utf8.decode ⟨⟨l⟩⟩ pos).2))], [id], [decide (pos < l.length) = true]⟩
      | true, .f => some ⟨.tup [.bl false], [], [id], [decide (pos < l.length) = false]⟩
      | _, _ => none
    | _ => none
  | _ => none
/-- A comparison comes to 'z', whatever values these are. -/
def Says (P : Program) (op : BinOp) (t : TypeId) (X Y : Operand) (x y : T) (z : Bool) : Prop := ∀ (ρ : Place) (hf : Objs) (I : Mem) (vx vy : Value) (w : World), VR ρ hf I x vx → VR ρ hf I y vy →
  (do eqGuard op t X Y vx vy; binOp op t vx vy).run P w = .ok (.bool z) w
def isArr (C : Ctx) (t : Nat) : Bool := match (tin C t).k with | .arr .. => true | _ => false
def eszOf (C : Ctx) (t : Nat) : Mk := match (tin C t).k with | .arr _ e => .sz (tin C e).size | _ => .cell t
def both (x y : Bool) : Bool := match x with | true => y | false => false
def aop (P : Program) (C : Ctx) (o : Oper) (ev : Operand → T) (hl : Objs) (or : Or) : Option AR := match o.op with
  | .move x => force (ev x) ok
  | .assign x => force (ev x) ok
  | .pick c x y => force (ev c) fun c => force (ev x) fun x => force (ev y) fun y => aPick c x y or
  | .alloc e => match Nat.beq (tin C e).size 0 with
    | true => none
    | false => forceL (tin C e).zero fun cs => mkObj hl o.dst (.row (both (isArr C e) (plainL cs)) (eszOf C e) cs) (fun d g => .p d g 0) []
  | .box e x => force (ev x) fun x => match Nat.beq (cellsT x).length (tin C e).size, cellyL (cellsT x) with
    | true, true => mkObj hl o.dst (.row (both (isArr C e) (plainL (cellsT x))) (eszOf C e) (cellsT x)) (fun d g => .p d g 0) []
    | _, _ => none
  | .build t ps => evP ev ps.toList fun ps => aBuild C t ps
  | .buildSlice t n ps => evP ev ps.toList fun ps => aBuildSlice C hl o.dst t n ps
  | .load t x => force (ev x) fun x => aLoad C hl t x or
  | .store t x y => force (ev x) fun x => force (ev y) fun y => aStore C hl t x y
  | .nilCheck x => force (ev x) fun x => match x with
    | .p id g o => oku hl id g (.p id g o) [] | .rp cs o => ok (.rp cs o) | .fn (.func f) a c => ok (.fn (.func f) a c) | _ => none
  | .binOp op t X Y _ => force (ev X) fun x => force (ev Y) fun y => bin hl op (tin C t).k x y or (Says P op t X Y x y)
  | .unOp op _ x => force (ev x) fun x => aUn op x
  | .convert s d x => force (ev x) fun x => aConvert C hl o.dst s d x or
  | .makeInterface t x => force (ev x) fun x => match (tin C t).k with
    | .other => none
    | _ => ok (.ifc t x)
  | .makeFunc f a c => evL ev a.toList fun a => evL ev c.toList fun c => ok (.fn f a c)
  | .makeSlice t l c => force (ev l) fun l => force (ev c) fun c => aMakeSlice C hl o.dst t l c
  | .slice t x lo hi none => force (ev x) fun x => match lo, hi with
    | none, none => aSlice C hl t x none none
    | some a, none => force (ev a) fun a => aSlice C hl t x (some a) none
    | none, some b => force (ev b) fun b => aSlice C hl t x none (some b)
    | some a, some b => force (ev a) fun a => force (ev b) fun b => aSlice C hl t x (some a) (some b)
  | .fieldAddr t x f => force (ev x) fun x => aFieldAddr C hl t x f
  | .field t x f => force (ev x) fun x => aField C t x f
  | .indexAddr t x i => force (ev x) fun x => force (ev i) fun i => aIndexAddr C hl t x i
  | .index t x i => force (ev x) fun x => force (ev i) fun i => aIndex C t x i or
  | .range t x => force (ev x) fun x => match (tin C t).k, x with
    | .str, .s l => mkObj hl o.dst (.it l 0) (fun d g => .p d g 0) []
    | _, _ => none
  | .next x true => force (ev x) fun x => aNext hl x or
  | .extract x n => force (ev x) fun x => match x with
    | .tup cs => match nth cs n with | some y => force y ok | none => none
    | _ => none
  | .call ⟨.builtin b, args, ats⟩ => evL ev args.toList fun args => aBuiltin C hl o.dst b ats.toList args
  | .call ⟨.value f, args, _⟩ => force (ev f) fun f => evL ev args.toList fun args => aCall P C hl f args or
  | _ => none
/-- Does the operation take an answer? -/
def asksOr (C : Ctx) (o : Oper) (ev : Operand → T) (hl : Objs) : Bool := match o.op with
  | .pick c _ _ => match ev c with | .b _ => true | _ => false
  | .load _ x => match ev x with
    | .p id _ _ => match hl id with | some (_, .row pu _ _) => pu | _ => false
    | .rp .. => true
    | _ => false
  | .index t _ _ => isArr C t
  | .binOp op _ x y _ => match ev x with
    | .fl .. => match op with | .add => true | .sub => true | _ => false
    | .cx .. => match op with | .add => true | .sub => true | _ => false
    | .agg _ => true
    | .ifc .. => true
    | .nif => true
    | .p .. => match ev y with | .p .. => true | .rp .. => true | _ => false
    | _ => false
  | .convert _ d x => match (tin C d).k, ev x with
    | .int _, .fl .. => true
    | .str, .s _ => false
    | .str, _ => true
    | _, _ => false
  | .next .. => true
  | .call ⟨.value _, _, _⟩ => true
  | _ => false

/-! ### Regions -/
/-- What an operation of a region has done: for the hold of its order. -/
structure Rec where
  u : List Nat
  d : List Nat
def meet : List Nat → List Nat → Bool
  | [], _ => false
  | x :: l, m => match memb x m with | true => true | false => meet l m
/-- Two operations' objects are apart. -/
def apartH (x y : Rec) : Bool := match meet x.d y.u with
  | true => false
  | false => match meet x.d y.d with
    | true => false
    | false => match meet y.d x.u with | true => false | false => true
/-- Operation 'i' against all that stand ahead of it ('j', .. in falling order). -/
def chkOne (b : Nat) (r : Rec) : List Rec → Nat → Bool
  | [], _ => true
  | s :: l, n => match apartH s r with
    | true => chkOne b r l (n - 1)
    | false => match Nat.testBit b n with | true => chkOne b r l (n - 1) | false => false
/-- The records in falling order. -/
def chkAll (b : List Nat) : List Rec → Bool
  | [] => true
  | r :: l => match nth b l.length with
    | some m => match chkOne m r l (l.length - 1) with | true => chkAll b l | false => false
    | none => false
/-- All of them apart. -/
def apartOne (r : Rec) : List Rec → Bool
  | [] => true
  | s :: l => match apartH s r with | true => apartOne r l | false => false
def apartAll : List Rec → Bool
  | [] => true
  | r :: l => match apartOne r l with | true => apartAll l | false => false
/-- Which operations stand ahead of which, by bits. -/
def bitsOf (acc : List Nat) : List Edge → Nat → Nat
  | [], s => s
  | e :: l, s => bitsOf acc l (match Region.binds .any e with
    | true => s ||| 2 ^ e.on ||| (nth acc e.on).getD 0
    | false => s)
def befores : List Oper → List Nat → List Nat
  | [], acc => acc
  | o :: l, acc => befores l (acc ++ [bitsOf acc o.after.toList 0])
def edgesB (i : Nat) : List Edge → Bool
  | [] => true
  | e :: l => match Region.binds .any e with
    | true => match Nat.blt e.on i with | true => edgesB i l | false => false
    | false => edgesB i l
def pairsB (ops : Array Oper) (o : Oper) (b : Nat) : List Oper → Nat → Bool
  | [], _ => true
  | x :: l, j => match Oper.apart ops x o with
    | true => pairsB ops o b l (j + 1)
    | false => match Nat.testBit b j with | true => pairsB ops o b l (j + 1) | false => false
/-- A region whose order is drawn: what names one variable is ordered. -/
def rgOkFrom (ops : Array Oper) (bs : List Nat) (pre : List Oper) : List Oper → Nat → Bool
  | [], _ => true
  | o :: l, i => match edgesB i o.after.toList, pairsB ops o ((nth bs i).getD 0) pre 0 with
    | true, true => rgOkFrom ops bs (pre ++ [o]) l (i + 1)
    | _, _ => false
def rgOk (ops : Array Oper) : Bool := both (Region.noSelect ops) (rgOkFrom ops (befores ops.toList []) [] ops.toList 0)
def cOk : Code → Bool
  | .region _ ops true => rgOk ops
  | .seq x y => both (cOk x) (cOk y)
  | .cond _ x y => both (cOk x) (cOk y)
  | .block _ x => cOk x
  | .loop x => cOk x
  | .rangeFunc _ _ x y => both (cOk x) (cOk y)
  | .scope x => cOk x
  | _ => true
inductive GD where
  | yes | no
  | sym (d : Nat) (x : Bool) (want : Bool)
  | bad
def beqB : Bool → Bool → Bool
  | true, y => y
  | false, true => false
  | false, false => true
def guardOf (all : List Oper) (o : Oper) (e : Env) : GD := match o.guard with
  | none => .yes
  | some (j, want) => match nth all j with
    | some oj => match oj.dst with
      | some d => match look e d with
        | .bl g => match beqB g want with | true => .yes | false => .no
        | .b x => .sym d x want
        | .tup [] => .no
        | _ => .bad
      | none => .bad
    | none => .bad
abbrev Known := List (Nat × Bool)
def klook : Known → Nat → Option Bool
  | [], _ => none
  | (m, g) :: l, n => match Nat.beq m n with | true => some g | false => klook l n
def kdel (d : Nat) : Known → Known
  | [] => []
  | (m, g) :: l => match Nat.beq m d with | true => kdel d l | false => (m, g) :: kdel d l
def orOf (C : Ctx) (o : Oper) (ev : Operand → T) (hl : Objs) (kn : Known) (ors : List Or) : Option (Or × List Or) := match asksOr C o ev hl with
  | false => some (.a, ors)
  | true => match o.op with
    | .pick (.tmp d) _ _ => match klook kn d, ors with
      | some true, ors => some (.t, ors)
      | some false, ors => some (.f, ors)
      | none, x :: ors => some (x, ors)
      | none, [] => none
    | _ => match ors with
      | x :: ors => some (x, ors)
      | [] => none
abbrev Ds := List (FuncId × List T × List T)
inductive Item where
  | code (c : Code)
  | blk (id : Nat)
inductive Res where
  | cut (k : List Item) (e : Env) (h : Heap) (ds : Ds) (obs : List Prop)
  | fin (x : Exit) (e : Env) (h : Heap) (ds : Ds) (obs : List Prop)
  | bad
/-- The rest of a region's operations, in the order of the text. 'r0': what is told where an answer lacks. -/
def rops (P : Program) (C : Ctx) (nt : Nat) (all : List Oper) (r0 : Res) : List Oper → Env → Heap → Known → List Or → List Prop → List Rec → (Env → Heap → List Or → List Prop → List Rec → Res) → Res
  | [], e, h, _, ors, obs, rs, K => K e h ors obs rs
  | o :: rest, e, h, kn, ors, obs, rs, K =>
    let skip (kn : Known) (ors : List Or) (obs : List Prop) : Res := match o.dst with
      | some d => match Nat.blt d nt with
        | true => rops P C nt all r0 rest ((d, .tup []) :: e) h (kdel d kn) ors obs (⟨[], []⟩ :: rs) K
        | false => .bad
      | none => rops P C nt all r0 rest e h kn ors obs (⟨[], []⟩ :: rs) K
    let exec (kn : Known) (ors : List Or) (obs : List Prop) : Res := match orOf C o (opd C e) (hlook h) kn ors with
      | none => r0
      | some (or, ors) => match aop P C o (opd C e) (hlook h) or with
        | none => .bad
        | some ⟨t, d, u, q⟩ => pushAll q obs fun obs => pushAll d h fun h' => match o.dst with
          | some s => match Nat.blt s nt with
            | true => force t fun t => rops P C nt all r0 rest ((s, t) :: e) h' (kdel s kn) ors obs (⟨u, ids d⟩ :: rs) K
            | false => .bad
          | none => rops P C nt all r0 rest e h' kn ors obs (⟨u, ids d⟩ :: rs) K
    match guardOf all o e with
    | .yes => exec kn ors obs
    | .no => skip kn ors obs
    | .sym d x want => match klook kn d, ors with
      | some g, ors => match beqB g want with | true => exec kn ors obs | false => skip kn ors obs
      | none, .t :: ors => match want with
        | true => exec ((d, true) :: kn) ors ((x = true) :: obs)
        | false => skip ((d, true) :: kn) ors ((x = true) :: obs)
      | none, .f :: ors => match want with
        | false => exec ((d, false) :: kn) ors ((x = false) :: obs)
        | true => skip ((d, false) :: kn) ors ((x = false) :: obs)
      | none, _ => r0
    | .bad => .bad
def unwind (id : Nat) : List Item → Option (List Item)
  | [] => none
  | .blk j :: k => match Nat.beq j id with | true => some k | false => unwind id k
  | .code _ :: k => unwind id k
/-- A region that is one 'defer'. -/
def isDefer : List Oper → Option (Option Nat × Call)
  | [o] => match o.op, o.guard with | .defer c, none => some (o.dst, c) | _, _ => none
  | _ => none
/-- The machine. -/
def run (P : Program) (C : Ctx) (nt : Nat) : Nat → List Item → Env → Heap → Ds → List Or → List Prop → Res
  | 0, k, e, h, ds, _, obs => .cut k e h ds obs
  | _ + 1, [], e, h, ds, _, obs => .fin .normal e h ds obs
  | n + 1, .blk _ :: k, e, h, ds, ors, obs => run P C nt n k e h ds ors obs
  | n + 1, .code c :: k, e, h, ds, ors, obs => match c with
    | .skip => run P C nt n k e h ds ors obs
    | .label _ => run P C nt n k e h ds ors obs
    | .seq a b => run P C nt n (.code a :: .code b :: k) e h ds ors obs
    | .region id ops draw => match draw with
      | false => rops P C nt ops.toList (.cut (.code (.region id ops false) :: k) e h ds obs) ops.toList e h [] ors obs [] fun e h ors obs _ => run P C nt n k e h ds ors obs
      | true => rops P C nt ops.toList (.cut (.code (.region id ops true) :: k) e h ds obs) ops.toList e h [] ors obs [] fun e h ors obs rs =>
          match apartAll rs with
          | true => run P C nt n k e h ds ors obs
          | false => run P C nt n k e h ds ors ((chkAll (befores ops.toList []) rs = true) :: obs)
    | .cond c a b => match opd C e c, ors with
      | .bl true, ors => run P C nt n (.code a :: k) e h ds ors obs
      | .bl false, ors => run P C nt n (.code b :: k) e h ds ors obs
      | .b x, .t :: ors => run P C nt n (.code a :: k) e h ds ors ((x = true) :: obs)
      | .b x, .f :: ors => run P C nt n (.code b :: k) e h ds ors ((x = false) :: obs)
      | _, _ => .cut (.code (.cond c a b) :: k) e h ds obs
    | .block id c => run P C nt n (.code c :: .blk id :: k) e h ds ors obs
    | .exit id => match unwind id k with | some k => run P C nt n k e h ds ors obs | none => .fin (.exit id) e h ds obs
    | .goto l => .fin (.goto l) e h ds obs
    | .ret => .fin .ret e h ds obs
    | .loop c => .cut (.code (.loop c) :: k) e h ds obs
    | .scope c => .cut (.code (.scope c) :: k) e h ds obs
    | c => .cut (.code c :: k) e h ds obs
end Go.Proofs.YtdiippegaidpkaaDoor.Vm
