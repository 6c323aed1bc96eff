/- The symbolic machine, part 19: small things for its use: ends, rounds, arithmetic. -/
import Derived.Test.YtdiippegaidpkaaDoorTab
set_option linter.unusedVariables false
set_option linter.unusedSimpArgs false
set_option linter.unnecessarySimpa false
namespace Go.Proofs.YtdiippegaidpkaaDoor.Vm
open Go Go.Proofs
noncomputable abbrev P : Program := Tryd.prog
section
variable {P : Program} {C : Ctx} {nt : Nat} {kp : List Nat} {Φ : APost} {rs : Array ResultVar} {r t : T} {hout h : Heap} {e : Env}
def isEnd : Exit → Bool
  | .ret => true | .normal => true | _ => false
theorem ret_of {x : Exit} (ht : resT C e h rs.toList = some t) (hl : tle h hout t r) (h1 : heapLE h hout hout) (h2 : keepLE h hout kp) (hx : isEnd x = true := by rfl) : RetP C rs kp r hout x e h [] := by
  refine ⟨?_, rfl, ?_, h1, h2⟩
  · cases x <;> simp_all [isEnd]
  · rw [ht]; exact hl
section
variable {α : Type} {emb : α → Env} {hp : α → Heap} {pre : α → Prop} {μ : α → Nat} {x : α} {k : List Item} {ds : Ds}
/-- A round that goes back to the head. -/
theorem rd_next (y : α) (h1 : pre y) (h2 : μ y < μ x) (h3 : envLE h (hp y) e (emb y)) (h4 : heapLE h (hp y) (hp y)) (h5 : keepLE h (hp y) kp) : Round P C nt kp Φ k emb hp pre μ x .normal e h [] := ⟨rfl, y, h1, h2, h3, h4, h5⟩
theorem rd_exit {id : Nat} {k' : List Item} (hu : unwind id k = some k') (g : G P C nt kp Φ k' e h ds) : Round P C nt kp Φ k emb hp pre μ x (.exit id) e h ds := by
  simp only [Round, KG, hu]; exact g
theorem rd_out {id : Nat} (hu : unwind id k = none) (g : Φ (.exit id) e h ds) : Round P C nt kp Φ k emb hp pre μ x (.exit id) e h ds := by
  simp only [Round, KG, hu]; exact g
theorem rd_ret (g : Φ .ret e h ds) : Round P C nt kp Φ k emb hp pre μ x .ret e h ds := g
theorem rd_goto {l : Nat} (g : Φ (.goto l) e h ds) : Round P C nt kp Φ k emb hp pre μ x (.goto l) e h ds := g
end
end
@[simp] theorem szOf_1 : szOf 1 = 1 := rfl
@[simp] theorem szOf_2 : szOf 2 = 2 := rfl
@[simp] theorem szOf_3 : szOf 3 = 3 := rfl
attribute [simp] szOf_tsz
@[simp] theorem szOf_row (n e : Nat) : szOf (.row n e) = n := rfl
@[simp] theorem szOf_sz (n : Nat) : szOf (.sz n) = n := rfl
@[simp] theorem szOf_cell (n : Nat) : szOf (.cell n) = 0 := rfl
@[simp] theorem wrap_i64 (x : Int) : IntKind.i64.wrap x = (x + 9223372036854775808) % 18446744073709551616 - 9223372036854775808 := by
  simp only [IntKind.wrap, IntKind.signed, IntKind.bits]; simp; try omega
@[simp] theorem wrap_i32 (x : Int) : IntKind.i32.wrap x = (x + 2147483648) % 4294967296 - 2147483648 := by
  simp only [IntKind.wrap, IntKind.signed, IntKind.bits]; simp; try omega
@[simp] theorem wrap_i16 (x : Int) : IntKind.i16.wrap x = (x + 32768) % 65536 - 32768 := by
  simp only [IntKind.wrap, IntKind.signed, IntKind.bits]; simp; try omega
@[simp] theorem wrap_i8 (x : Int) : IntKind.i8.wrap x = (x + 128) % 256 - 128 := by
  simp only [IntKind.wrap, IntKind.signed, IntKind.bits]; simp; try omega
@[simp] theorem wrap_u8 (x : Int) : IntKind.u8.wrap x = x % 256 := by
  simp only [IntKind.wrap, IntKind.signed, IntKind.bits]; simp; try omega
@[simp] theorem wrap_u16 (x : Int) : IntKind.u16.wrap x = x % 65536 := by
  simp only [IntKind.wrap, IntKind.signed, IntKind.bits]; simp; try omega
@[simp] theorem wrap_u32 (x : Int) : IntKind.u32.wrap x = x % 4294967296 := by
  simp only [IntKind.wrap, IntKind.signed, IntKind.bits]; simp; try omega
@[simp] theorem wrap_u64 (x : Int) : IntKind.u64.wrap x = x % 18446744073709551616 := by
  simp only [IntKind.wrap, IntKind.signed, IntKind.bits]; simp; try omega
@[simp] theorem bits_u64 : IntKind.u64.bits = 64 := rfl
@[simp] theorem bits_i64 : IntKind.i64.bits = 64 := rfl
@[simp] theorem bits_u32 : IntKind.u32.bits = 32 := rfl
@[simp] theorem bits_i32 : IntKind.i32.bits = 32 := rfl
@[simp] theorem bits_u16 : IntKind.u16.bits = 16 := rfl
@[simp] theorem bits_i16 : IntKind.i16.bits = 16 := rfl
@[simp] theorem bits_u8 : IntKind.u8.bits = 8 := rfl
@[simp] theorem bits_i8 : IntKind.i8.bits = 8 := rfl
theorem w64 {x : Int} (h : -9223372036854775808 ≤ x) (h' : x ≤ 9223372036854775807) : IntKind.i64.wrap x = x := by rw [wrap_i64]; omega
@[simp] theorem look_c (r : Nat) (v : T) (e : Env) (n : Nat) : look ((r, v) :: e) n = if r = n then v else look e n := by
  simp only [look]
  by_cases h : r = n
  · subst h; simp
  · rw [if_neg h]
    cases hb : Nat.beq r n with
    | true => exact absurd (Nat.eq_of_beq_eq_true hb) h
    | false => rfl
@[simp] theorem look_nil (n : Nat) : look [] n = .top := rfl
@[simp] theorem tmod_pos {a b : Int} (h : 0 ≤ a) : a.tmod b = a % b := Int.tmod_eq_emod_of_nonneg h
@[simp] theorem tdiv_pos {a b : Int} (h : 0 ≤ a) : a.tdiv b = a / b := Int.tdiv_eq_ediv_of_nonneg h
@[simp] theorem bt_lo (l : List UInt8) (n : Int) : 0 ≤ bt l n := by simp [bt]
theorem bt_hi (l : List UInt8) (n : Int) : bt l n < 256 := by
  have := (l.getD n.toNat 0).toNat_lt
  simp only [bt]; omega
theorem bt_nat (l : List UInt8) (n : Nat) : bt l n = ((l.getD n 0).toNat : Int) := rfl
/-- A number's low bits. -/
theorem bitsI_and (k : IntKind) (x y : Nat) (hx : x < 2 ^ k.bits) (hy : y < 2 ^ k.bits) : bitsI .and k x y = k.wrap ((x &&& y : Nat) : Int) := by
  simp [bitsI, Nat.mod_eq_of_lt hx, Nat.mod_eq_of_lt hy]
theorem bitsI_or (k : IntKind) (x y : Nat) (hx : x < 2 ^ k.bits) (hy : y < 2 ^ k.bits) : bitsI .or k x y = k.wrap ((x ||| y : Nat) : Int) := by
  simp [bitsI, Nat.mod_eq_of_lt hx, Nat.mod_eq_of_lt hy]
theorem bitsI_xor (k : IntKind) (x y : Nat) (hx : x < 2 ^ k.bits) (hy : y < 2 ^ k.bits) : bitsI .xor k x y = k.wrap ((x ^^^ y : Nat) : Int) := by
  simp [bitsI, Nat.mod_eq_of_lt hx, Nat.mod_eq_of_lt hy]
end Go.Proofs.YtdiippegaidpkaaDoor.Vm
