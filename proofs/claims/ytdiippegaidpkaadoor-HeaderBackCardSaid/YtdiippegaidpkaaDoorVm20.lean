/- The symbolic machine, part 20: contracts of the library's, told of worlds, become contracts of the machine's. -/
import Derived.Test.YtdiippegaidpkaaDoorVm19
set_option linter.unusedVariables false
namespace Go.Proofs.YtdiippegaidpkaaDoor.Vm
open Go Go.Proofs Go.RowKit
variable {C : Ctx}
/-- A function that leaves all that was there as it was, and returns a value without references. -/
theorem ret_of_calls {f : FuncId} {args : List T} {r : T} (hc : Callable P f) (h : ∀ ρ I w vals, GlobOk C I → (∀ a v, I a = some v → w.cell? a = some v) → VRs ρ (hlook []) I args vals →
    Calls P f ⟨vals⟩ w fun e w' => ∃ v, e = .returned v ∧ PV I r v ∧ Below w.heap.size w w') : Ret P C f args r := by
  refine ⟨hc, fun ρ I w vals hg hs hv => (h ρ I w vals hg hs.mem hv).mono ?_⟩
  rintro e w' ⟨v, rfl, hp, hb⟩
  refine ⟨v, r, ρ, [], I, rfl, PV.vr _ _ hp, ⟨fun a v hv => ?_, fun id g o ho => by simp [hlook] at ho, fun id id' g o g' o' ho => by simp [hlook] at ho, fun a v id g o _ ho => by simp [hlook] at ho⟩,
    ⟨hb.os, hb.tape, hb.output, hb.size, fun b hlt _ => hb.block b hlt, fun a v h => h, fun a v h => .inl h, fun id g o ho => by simp [hlook] at ho⟩, HLe.refl _ _, rfl, rfl⟩
  have h1 := hs.mem a v hv
  have hlt : a.block < w.heap.size := by
    refine Nat.lt_of_not_le fun hge => ?_
    have : w.heap[a.block]? = none := Array.getElem?_eq_none hge
    simp [World.cell?, this] at h1
  have h2 : w'.heap[a.block]? = w.heap[a.block]? := hb.block _ hlt
  simp only [World.cell?, h2] at h1 ⊢; exact h1
theorem Ext.refl {ρ : Place} {hin : Heap} {I : Mem} {w : World} : Ext w (owned ρ (hlook hin)) I ρ (hlook hin) I w :=
  ⟨rfl, rfl, rfl, Nat.le_refl _, fun _ _ _ => rfl, fun _ _ h => h, fun _ _ h => .inl h, fun id g o h l => .inr ⟨id, g, o, h, l, rfl⟩⟩
theorem callable_of {f : FuncId} {fn : Func} (hf : P.funcs[f]? = some fn) (h1 : (fn.name == "runtime.NumGoroutine") = false) (h2 : fn.body.isNone = false) : Callable P f := ⟨fn, hf, h1, h2⟩
/-- A contract as the answer to a call. -/
abbrev cc {P : Program} {C : Ctx} {f : FuncId} {args : List T} {r : T} (_ : Ret P C f args r) : Or := .c r [] []
/-- What a comparison says. -/
abbrev sz {P : Program} {op : BinOp} {t : TypeId} {X Y : Operand} {x y : T} {z : Bool} (_ : Says P op t X Y x y z) : Or := .v [.b z]
/-- What lies where an answer loads; what bytes are. -/
abbrev ldv {cs ys : List T} {off n : Nat} (_ : (cs.drop off).take n = ys) : Or := .v ys
abbrev ld1 {cs : List T} {y : T} {off : Nat} (_ : cs[off]? = some y) : Or := .v [y]
abbrev ldb {cs : List T} {l : List UInt8} (_ : cs = bytesT l) : Or := .l l
abbrev ch {P : Program} {C : Ctx} {f : FuncId} {args : List T} {hin hout : Heap} {r : T} (_ : HRet P C f args hin r hout) : Or := .c r (ids hin) hout
end Go.Proofs.YtdiippegaidpkaaDoor.Vm
