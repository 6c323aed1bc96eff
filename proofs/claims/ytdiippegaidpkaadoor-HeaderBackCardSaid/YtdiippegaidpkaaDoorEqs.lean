/- '==' of structs. -/
import Derived.Test.YtdiippegaidpkaaDoorVm22
import Derived.Test.YtdiippegaidpkaaDoorTab
set_option linter.unusedVariables false
set_option linter.unusedSimpArgs false
set_option linter.unnecessarySimpa false
set_option maxRecDepth 100000
namespace Go.Proofs.YtdiippegaidpkaaDoor.Vm
open Go Go.Proofs Go.RowKit
variable {ml : Int}
theorem eqStr (d : Nat) (w : World) (x y : ByteArray) : (Op.equalIn (d + 1) 9 (.string x) (.string y)).run P w = .ok (x == y) w := by simp [Op.equalIn, run_underlying Tryd.underlying9]
theorem eqInt (d : Nat) (w : World) (x y : Int) : (Op.equalIn (d + 1) 3 (.int .i64 x) (.int .i64 y)).run P w = .ok (x == y) w := by simp [Op.equalIn, run_underlying Tryd.underlying3]
theorem eqHead (d : Nat) (w : World) (a b c e a' b' c' e' : ByteArray) : (Op.equalIn (d + 2) 35 (.agg #[.string a, .string b, .string c, .string e]) (.agg #[.string a', .string b', .string c', .string e'])).run P w = .ok (a == a' && (b == b' && (c == c' && e == e'))) w := by
  have hs : P.stoodInHeld 35 = false := by kernel_rfl
  have hi := Tryd.isAgg9
  rw [Op.equalIn]
  simp [run_underlying Tryd.underlying35, hs, part, hi, eqStr]
  cases a == a' <;> cases b == b' <;> cases c == c' <;> cases e == e' <;> rfl
theorem ba_beq (a b : List UInt8) : ((⟨⟨a⟩⟩ : ByteArray) == ⟨⟨b⟩⟩) = (a == b) := by
  show ((⟨a⟩ : Array UInt8) == ⟨b⟩) = _
  rw [Bool.eq_iff_iff]; simp
theorem says_agg {t : TypeId} {X Y : Operand} {xs ys : List T} {z : Bool} (hg : P.eqGuardType P.depth t = false)
    (h : ∀ (ρ : Place) (hf : Objs) (I : Mem) (us vs : List Value) (w : World), VRs ρ hf I xs us → VRs ρ hf I ys vs → (Op.equalIn 10000 t (.agg ⟨us⟩) (.agg ⟨vs⟩)).run P w = .ok z w) :
    Says P .eql t X Y (.agg xs) (.agg ys) z ∧ Says P .neq t X Y (.agg xs) (.agg ys) (!z) := by
  have key : ∀ (ρ : Place) (hf : Objs) (I : Mem) (vx vy : Value) (w : World), VR ρ hf I (.agg xs) vx → VR ρ hf I (.agg ys) vy → ∃ us vs, vx = .agg ⟨us⟩ ∧ vy = .agg ⟨vs⟩ ∧ (Op.equal t (.agg ⟨us⟩) (.agg ⟨vs⟩)).run P w = .ok z w := by
    intro ρ hf I vx vy w hx hy
    simp only [VR] at hx hy
    obtain ⟨us, rfl, h1⟩ := hx
    obtain ⟨vs, rfl, h2⟩ := hy
    exact ⟨us, vs, rfl, rfl, h ρ hf I us vs w h1 h2⟩
  constructor
  · intro ρ hf I vx vy w hx hy
    obtain ⟨us, vs, rfl, rfl, h1⟩ := key ρ hf I vx vy w hx hy
    simp only [eqGuard, binOp, Sem.run_bind]; simp [hg, h1]
  · intro ρ hf I vx vy w hx hy
    obtain ⟨us, vs, rfl, rfl, h1⟩ := key ρ hf I vx vy w hx hy
    simp only [eqGuard, binOp, Sem.run_bind]; simp [hg, h1]
theorem says_head {X Y : Operand} (a b c e a' b' c' e' : List UInt8) :
    Says P .eql 35 X Y (.agg [.s a, .s b, .s c, .s e]) (.agg [.s a', .s b', .s c', .s e']) (a == a' && (b == b' && (c == c' && e == e'))) ∧
    Says P .neq 35 X Y (.agg [.s a, .s b, .s c, .s e]) (.agg [.s a', .s b', .s c', .s e']) (!(a == a' && (b == b' && (c == c' && e == e')))) := by
  refine says_agg (by kernel_rfl) fun ρ hf I us vs w h1 h2 => ?_
  simp only [VRs, VR] at h1 h2
  obtain ⟨_, _, rfl, rfl, _, _, rfl, rfl, _, _, rfl, rfl, _, _, rfl, rfl, rfl⟩ := h1
  obtain ⟨_, _, rfl, rfl, _, _, rfl, rfl, _, _, rfl, rfl, _, _, rfl, rfl, rfl⟩ := h2
  have := eqHead 9998 w ⟨⟨a⟩⟩ ⟨⟨b⟩⟩ ⟨⟨c⟩⟩ ⟨⟨e⟩⟩ ⟨⟨a'⟩⟩ ⟨⟨b'⟩⟩ ⟨⟨c'⟩⟩ ⟨⟨e'⟩⟩
  simpa only [ba_beq] using this
theorem eqHeader1 (d : Nat) (w : World) (n k n' k' : Int) (l a b c e l' a' b' c' e' : ByteArray) : (Op.equalIn (d + 3) 42 (.agg #[.int .i64 n, .string l, .int .i64 k, .string a, .string b, .string c, .string e]) (.agg #[.int .i64 n', .string l', .int .i64 k', .string a', .string b', .string c', .string e'])).run P w = .ok (n == n' && (l == l' && (k == k' && (a == a' && (b == b' && (c == c' && e == e')))))) w := by
  have hs : P.stoodInHeld 42 = false := by kernel_rfl
  have hi := Tryd.isAgg9
  have hj := Tryd.isAgg3
  have hk := Tryd.isAgg35
  have hz := Tryd.sizeOf35
  rw [Op.equalIn]
  simp [run_underlying Tryd.underlying42, hs, part, hi, hj, hk, hz, eqStr, eqInt, eqHead]
  by_cases h1 : n = n' <;> by_cases h2 : k = k' <;> cases l == l' <;> cases a == a' <;> cases b == b' <;> cases c == c' <;> cases e == e' <;> simp [h1, h2]
theorem says_header1 {X Y : Operand} (n k n' k' : Int) (l a b c e l' a' b' c' e' : List UInt8) :
    Says P .eql 42 X Y (.agg [.i .i64 n, .s l, .i .i64 k, .s a, .s b, .s c, .s e]) (.agg [.i .i64 n', .s l', .i .i64 k', .s a', .s b', .s c', .s e']) (n == n' && (l == l' && (k == k' && (a == a' && (b == b' && (c == c' && e == e')))))) ∧
    Says P .neq 42 X Y (.agg [.i .i64 n, .s l, .i .i64 k, .s a, .s b, .s c, .s e]) (.agg [.i .i64 n', .s l', .i .i64 k', .s a', .s b', .s c', .s e']) (!(n == n' && (l == l' && (k == k' && (a == a' && (b == b' && (c == c' && e == e'))))))) := by
  refine says_agg (by kernel_rfl) fun ρ hf I us vs w h1 h2 => ?_
  simp only [VRs, VR] at h1 h2
  obtain ⟨_, _, rfl, rfl, _, _, rfl, rfl, _, _, rfl, rfl, _, _, rfl, rfl, _, _, rfl, rfl, _, _, rfl, rfl, _, _, rfl, rfl, rfl⟩ := h1
  obtain ⟨_, _, rfl, rfl, _, _, rfl, rfl, _, _, rfl, rfl, _, _, rfl, rfl, _, _, rfl, rfl, _, _, rfl, rfl, _, _, rfl, rfl, rfl⟩ := h2
  have := eqHeader1 9997 w n k n' k' ⟨⟨l⟩⟩ ⟨⟨a⟩⟩ ⟨⟨b⟩⟩ ⟨⟨c⟩⟩ ⟨⟨e⟩⟩ ⟨⟨l'⟩⟩ ⟨⟨a'⟩⟩ ⟨⟨b'⟩⟩ ⟨⟨c'⟩⟩ ⟨⟨e'⟩⟩
  simpa only [ba_beq] using this
theorem eqHeader2 (d : Nat) (w : World) (n k n' k' : Int) (l a b c e l' a' b' c' e' : ByteArray) : (Op.equalIn (d + 3) 37 (.agg #[.int .i64 n, .string l, .int .i64 k, .string a, .string b, .string c, .string e]) (.agg #[.int .i64 n', .string l', .int .i64 k', .string a', .string b', .string c', .string e'])).run P w = .ok (n == n' && (l == l' && (k == k' && (a == a' && (b == b' && (c == c' && e == e')))))) w := by
  have hs : P.stoodInHeld 37 = false := by kernel_rfl
  have hi := Tryd.isAgg9
  have hj := Tryd.isAgg3
  have hk := Tryd.isAgg35
  have hz := Tryd.sizeOf35
  rw [Op.equalIn]
  simp [run_underlying Tryd.underlying37, hs, part, hi, hj, hk, hz, eqStr, eqInt, eqHead]
  by_cases h1 : n = n' <;> by_cases h2 : k = k' <;> cases l == l' <;> cases a == a' <;> cases b == b' <;> cases c == c' <;> cases e == e' <;> simp [h1, h2]
theorem says_header2 {X Y : Operand} (n k n' k' : Int) (l a b c e l' a' b' c' e' : List UInt8) :
    Says P .eql 37 X Y (.agg [.i .i64 n, .s l, .i .i64 k, .s a, .s b, .s c, .s e]) (.agg [.i .i64 n', .s l', .i .i64 k', .s a', .s b', .s c', .s e']) (n == n' && (l == l' && (k == k' && (a == a' && (b == b' && (c == c' && e == e')))))) ∧
    Says P .neq 37 X Y (.agg [.i .i64 n, .s l, .i .i64 k, .s a, .s b, .s c, .s e]) (.agg [.i .i64 n', .s l', .i .i64 k', .s a', .s b', .s c', .s e']) (!(n == n' && (l == l' && (k == k' && (a == a' && (b == b' && (c == c' && e == e'))))))) := by
  refine says_agg (by kernel_rfl) fun ρ hf I us vs w h1 h2 => ?_
  simp only [VRs, VR] at h1 h2
  obtain ⟨_, _, rfl, rfl, _, _, rfl, rfl, _, _, rfl, rfl, _, _, rfl, rfl, _, _, rfl, rfl, _, _, rfl, rfl, _, _, rfl, rfl, rfl⟩ := h1
  obtain ⟨_, _, rfl, rfl, _, _, rfl, rfl, _, _, rfl, rfl, _, _, rfl, rfl, _, _, rfl, rfl, _, _, rfl, rfl, _, _, rfl, rfl, rfl⟩ := h2
  have := eqHeader2 9997 w n k n' k' ⟨⟨l⟩⟩ ⟨⟨a⟩⟩ ⟨⟨b⟩⟩ ⟨⟨c⟩⟩ ⟨⟨e⟩⟩ ⟨⟨l'⟩⟩ ⟨⟨a'⟩⟩ ⟨⟨b'⟩⟩ ⟨⟨c'⟩⟩ ⟨⟨e'⟩⟩
  simpa only [ba_beq] using this
end Go.Proofs.YtdiippegaidpkaaDoor.Vm
