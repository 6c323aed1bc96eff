/- Texts of one proof, gathered: Gf AesL SchedL CbcL SealL Field. -/
import Derived.Test.YtipomdmlkkifcaaGreatDoorPart3
import Derived.Test.YtipomdmlkkifcaaGreatDoorPart11
set_option linter.unusedSimpArgs false
set_option linter.unusedVariables false
set_option linter.unnecessarySimpa false
/- Bytes as the machine has them; the field of 256 (plain). -/
set_option maxRecDepth 100000
namespace Go.Proofs.YtipomdmlkkifcaaGreatDoor.Vm
open Go Go.Proofs Go.RowKit
variable {ml : Int}
abbrev bi (x : UInt8) : Int := (x.toNat : Int)
theorem ofInt_byte (x : UInt8) : BitVec.ofInt 8 (bi x) = x.toBitVec := by
  apply BitVec.eq_of_toNat_eq
  have := x.toNat_lt
  simp [BitVec.toNat_ofInt]
theorem wrap_byte (n : Nat) (h : n < 256) : IntKind.u8.wrap (n : Int) = n := by
  show _ = _
  simp [IntKind.wrap, IntKind.bits, IntKind.signed]
  omega
theorem b_xor (x y : UInt8) : bitsI .xor .u8 (bi x) (bi y) = bi (x ^^^ y) := by
  have h : bitsI .xor .u8 (bi x) (bi y) = IntKind.u8.wrap (((BitVec.ofInt 8 (bi x)) ^^^ (BitVec.ofInt 8 (bi y))).toNat : Nat) := rfl
  rw [h, ofInt_byte, ofInt_byte, wrap_byte _ (by have := (x.toBitVec ^^^ y.toBitVec).isLt; omega)]
  simp [bi]
theorem b_and (x y : UInt8) : bitsI .and .u8 (bi x) (bi y) = bi (x &&& y) := by
  have h : bitsI .and .u8 (bi x) (bi y) = IntKind.u8.wrap (((BitVec.ofInt 8 (bi x)) &&& (BitVec.ofInt 8 (bi y))).toNat : Nat) := rfl
  rw [h, ofInt_byte, ofInt_byte, wrap_byte _ (by have := (x.toBitVec &&& y.toBitVec).isLt; omega)]
  simp [bi]
theorem b_or (x y : UInt8) : bitsI .or .u8 (bi x) (bi y) = bi (x ||| y) := by
  have h : bitsI .or .u8 (bi x) (bi y) = IntKind.u8.wrap (((BitVec.ofInt 8 (bi x)) ||| (BitVec.ofInt 8 (bi y))).toNat : Nat) := rfl
  rw [h, ofInt_byte, ofInt_byte, wrap_byte _ (by have := (x.toBitVec ||| y.toBitVec).isLt; omega)]
  simp [bi]
theorem b_shl1 (x : UInt8) : IntKind.u8.wrap (bi x * 2 ^ (min (1 : Int).toNat IntKind.u8.bits)) = bi (UInt8.ofNat (x.toNat * 2)) := by
  have := x.toNat_lt
  show IntKind.u8.wrap (bi x * 2) = _
  simp [IntKind.wrap, IntKind.bits, IntKind.signed, bi]
theorem b_shr1 (x : UInt8) : (bi x).fdiv (2 ^ (min (1 : Int).toNat IntKind.u8.bits)) = bi (UInt8.ofNat (x.toNat / 2)) := by
  have := x.toNat_lt
  show (bi x).fdiv 2 = _
  rw [Int.fdiv_eq_ediv_of_nonneg _ (by decide)]
  simp [bi]; omega
/-- A byte times x. -/
def gTw (x : UInt8) : UInt8 := if x &&& 128 = 0 then UInt8.ofNat (x.toNat * 2) else UInt8.ofNat (x.toNat * 2) ^^^ 27
/-- The product, as the program goes: 'f' bits at most. -/
def gML : Nat → UInt8 → UInt8 → UInt8 → UInt8
  | 0, o, _, _ => o
  | f + 1, o, a, b => if b = 0 then o else gML f (if b &&& 1 = 1 then o ^^^ a else o) (gTw a) (UInt8.ofNat (b.toNat / 2))
def gMul (a b : UInt8) : UInt8 := gML 8 0 a b
/-- The product, as the document says: the whole polynomial first, then its remainder. -/
def pWhole (a b : Nat) : Nat := (List.range 8).foldl (fun p k => if b / 2 ^ k % 2 = 1 then p ^^^ (a * 2 ^ k) else p) 0
def pRest (p : Nat) : Nat := [14, 13, 12, 11, 10, 9, 8].foldl (fun p k => if p / 2 ^ k % 2 = 1 then p ^^^ (283 * 2 ^ (k - 8)) else p) p
def gMulR (a b : UInt8) : UInt8 := UInt8.ofNat (pRest (pWhole a.toNat b.toNat))
def allB (p : Nat → Bool) : Bool := (List.range 256).all p
theorem allB_iff {p : Nat → Bool} (h : allB p = true) (x : UInt8) : p x.toNat = true := by
  unfold allB at h
  rw [List.all_eq_true] at h
  exact h _ (List.mem_range.2 x.toNat_lt)
/-- A power, by squares: 'f' bits at most. -/
def gPL : Nat → UInt8 → UInt8 → Nat → UInt8
  | 0, o, _, _ => o
  | f + 1, o, a, n => if n = 0 then o else gPL f (if n % 2 = 1 then gMul o a else o) (gMul a a) (n / 2)
def gPow (a : UInt8) (n : Nat) : UInt8 := gPL 8 1 a n
def gInv (a : UInt8) : UInt8 := gPow a 254
def gTurn (a : UInt8) (n : Nat) : UInt8 := UInt8.ofNat (a.toNat * 2 ^ n) ||| UInt8.ofNat (a.toNat / 2 ^ (8 - n))
def gMix (b : UInt8) : UInt8 := b ^^^ gTurn b 1 ^^^ gTurn b 2 ^^^ gTurn b 3 ^^^ gTurn b 4 ^^^ 99
/-- The table as the program makes it: what it has behind so many rounds. -/
def tabAt : Nat → List UInt8 × UInt8 × UInt8
  | 0 => (List.replicate 256 0, 1, 1)
  | i + 1 => ((tabAt i).1.set (tabAt i).2.1.toNat (gMix (tabAt i).2.2), gMul (tabAt i).2.1 3, gMul (tabAt i).2.2 (gInv 3))
def sbox : List UInt8 := (tabAt 255).1.set 0 99
def sboxHex : List UInt8 := [54, 51, 55, 67, 55, 55, 55, 66, 70, 50, 54, 66, 54, 70, 67, 53, 51, 48, 48, 49, 54, 55, 50, 66, 70, 69, 68, 55, 65, 66, 55, 54, 67, 65, 56, 50, 67, 57, 55, 68, 70, 65, 53, 57, 52, 55, 70, 48, 65, 68, 68, 52, 65, 50, 65, 70, 57, 67, 65, 52, 55, 50, 67, 48, 66, 55, 70, 68, 57, 51, 50, 54, 51, 54, 51, 70, 70, 55, 67, 67, 51, 52, 65, 53, 69, 53, 70, 49, 55, 49, 68, 56, 51, 49, 49, 53, 48, 52, 67, 55, 50, 51, 67, 51, 49, 56, 57, 54, 48, 53, 57, 65, 48, 55, 49, 50, 56, 48, 69, 50, 69, 66, 50, 55, 66, 50, 55, 53, 48, 57, 56, 51, 50, 67, 49, 65, 49, 66, 54, 69, 53, 65, 65, 48, 53, 50, 51, 66, 68, 54, 66, 51, 50, 57, 69, 51, 50, 70, 56, 52, 53, 51, 68, 49, 48, 48, 69, 68, 50, 48, 70, 67, 66, 49, 53, 66, 54, 65, 67, 66, 66, 69, 51, 57, 52, 65, 52, 67, 53, 56, 67, 70, 68, 48, 69, 70, 65, 65, 70, 66, 52, 51, 52, 68, 51, 51, 56, 53, 52, 53, 70, 57, 48, 50, 55, 70, 53, 48, 51, 67, 57, 70, 65, 56, 53, 49, 65, 51, 52, 48, 56, 70, 57, 50, 57, 68, 51, 56, 70, 53, 66, 67, 66, 54, 68, 65, 50, 49, 49, 48, 70, 70, 70, 51, 68, 50, 67, 68, 48, 67, 49, 51, 69, 67, 53, 70, 57, 55, 52, 52, 49, 55, 67, 52, 65, 55, 55, 69, 51, 68, 54, 52, 53, 68, 49, 57, 55, 51, 54, 48, 56, 49, 52, 70, 68, 67, 50, 50, 50, 65, 57, 48, 56, 56, 52, 54, 69, 69, 66, 56, 49, 52, 68, 69, 53, 69, 48, 66, 68, 66, 69, 48, 51, 50, 51, 65, 48, 65, 52, 57, 48, 54, 50, 52, 53, 67, 67, 50, 68, 51, 65, 67, 54, 50, 57, 49, 57, 53, 69, 52, 55, 57, 69, 55, 67, 56, 51, 55, 54, 68, 56, 68, 68, 53, 52, 69, 65, 57, 54, 67, 53, 54, 70, 52, 69, 65, 54, 53, 55, 65, 65, 69, 48, 56, 66, 65, 55, 56, 50, 53, 50, 69, 49, 67, 65, 54, 66, 52, 67, 54, 69, 56, 68, 68, 55, 52, 49, 70, 52, 66, 66, 68, 56, 66, 56, 65, 55, 48, 51, 69, 66, 53, 54, 54, 52, 56, 48, 51, 70, 54, 48, 69, 54, 49, 51, 53, 53, 55, 66, 57, 56, 54, 67, 49, 49, 68, 57, 69, 69, 49, 70, 56, 57, 56, 49, 49, 54, 57, 68, 57, 56, 69, 57, 52, 57, 66, 49, 69, 56, 55, 69, 57, 67, 69, 53, 53, 50, 56, 68, 70, 56, 67, 65, 49, 56, 57, 48, 68, 66, 70, 69, 54, 52, 50, 54, 56, 52, 49, 57, 57, 50, 68, 48, 70, 66, 48, 53, 52, 66, 66, 49, 54]
def sboxHexBack : List UInt8 := [53, 50, 48, 57, 54, 65, 68, 53, 51, 48, 51, 54, 65, 53, 51, 56, 66, 70, 52, 48, 65, 51, 57, 69, 56, 49, 70, 51, 68, 55, 70, 66, 55, 67, 69, 51, 51, 57, 56, 50, 57, 66, 50, 70, 70, 70, 56, 55, 51, 52, 56, 69, 52, 51, 52, 52, 67, 52, 68, 69, 69, 57, 67, 66, 53, 52, 55, 66, 57, 52, 51, 50, 65, 54, 67, 50, 50, 51, 51, 68, 69, 69, 52, 67, 57, 53, 48, 66, 52, 50, 70, 65, 67, 51, 52, 69, 48, 56, 50, 69, 65, 49, 54, 54, 50, 56, 68, 57, 50, 52, 66, 50, 55, 54, 53, 66, 65, 50, 52, 57, 54, 68, 56, 66, 68, 49, 50, 53, 55, 50, 70, 56, 70, 54, 54, 52, 56, 54, 54, 56, 57, 56, 49, 54, 68, 52, 65, 52, 53, 67, 67, 67, 53, 68, 54, 53, 66, 54, 57, 50, 54, 67, 55, 48, 52, 56, 53, 48, 70, 68, 69, 68, 66, 57, 68, 65, 53, 69, 49, 53, 52, 54, 53, 55, 65, 55, 56, 68, 57, 68, 56, 52, 57, 48, 68, 56, 65, 66, 48, 48, 56, 67, 66, 67, 68, 51, 48, 65, 70, 55, 69, 52, 53, 56, 48, 53, 66, 56, 66, 51, 52, 53, 48, 54, 68, 48, 50, 67, 49, 69, 56, 70, 67, 65, 51, 70, 48, 70, 48, 50, 67, 49, 65, 70, 66, 68, 48, 51, 48, 49, 49, 51, 56, 65, 54, 66, 51, 65, 57, 49, 49, 49, 52, 49, 52, 70, 54, 55, 68, 67, 69, 65, 57, 55, 70, 50, 67, 70, 67, 69, 70, 48, 66, 52, 69, 54, 55, 51, 57, 54, 65, 67, 55, 52, 50, 50, 69, 55, 65, 68, 51, 53, 56, 53, 69, 50, 70, 57, 51, 55, 69, 56, 49, 67, 55, 53, 68, 70, 54, 69, 52, 55, 70, 49, 49, 65, 55, 49, 49, 68, 50, 57, 67, 53, 56, 57, 54, 70, 66, 55, 54, 50, 48, 69, 65, 65, 49, 56, 66, 69, 49, 66, 70, 67, 53, 54, 51, 69, 52, 66, 67, 54, 68, 50, 55, 57, 50, 48, 57, 65, 68, 66, 67, 48, 70, 69, 55, 56, 67, 68, 53, 65, 70, 52, 49, 70, 68, 68, 65, 56, 51, 51, 56, 56, 48, 55, 67, 55, 51, 49, 66, 49, 49, 50, 49, 48, 53, 57, 50, 55, 56, 48, 69, 67, 53, 70, 54, 48, 53, 49, 55, 70, 65, 57, 49, 57, 66, 53, 52, 65, 48, 68, 50, 68, 69, 53, 55, 65, 57, 70, 57, 51, 67, 57, 57, 67, 69, 70, 65, 48, 69, 48, 51, 66, 52, 68, 65, 69, 50, 65, 70, 53, 66, 48, 67, 56, 69, 66, 66, 66, 51, 67, 56, 51, 53, 51, 57, 57, 54, 49, 49, 55, 50, 66, 48, 52, 55, 69, 66, 65, 55, 55, 68, 54, 50, 54, 69, 49, 54, 57, 49, 52, 54, 51, 53, 53, 50, 49, 48, 67, 55, 68]
def nib (c : UInt8) : Nat := if c.toNat < 58 then c.toNat - 48 else c.toNat - 55
def pairs : List UInt8 → List UInt8
  | a :: b :: l => UInt8.ofNat (16 * nib a + nib b) :: pairs l
  | _ => []
/-- The tables of the standard. -/
def subR : List UInt8 := pairs sboxHex
def backR : List UInt8 := pairs sboxHexBack
theorem sbox_same : (sbox == subR) = true := by decide +kernel
theorem back_same : ((List.range 256).all fun i => backR.getD (subR.getD i 0).toNat 0 == UInt8.ofNat i) = true := by decide +kernel
end Go.Proofs.YtipomdmlkkifcaaGreatDoor.Vm
/- The cipher, plain: a round, a round back, and that one undoes the other. -/
set_option maxRecDepth 100000
namespace Go.Proofs.YtipomdmlkkifcaaGreatDoor.Vm
open Go Go.Proofs Go.RowKit
def xorL (a b : List UInt8) : List UInt8 := List.zipWith (· ^^^ ·) a b
def sb (x : UInt8) : UInt8 := subR.getD x.toNat 0
def bk (x : UInt8) : UInt8 := backR.getD x.toNat 0
def g3 (x : UInt8) : UInt8 := gTw x ^^^ x
def g9 (x : UInt8) : UInt8 := gTw (gTw (gTw x)) ^^^ x
def g11 (x : UInt8) : UInt8 := gTw (gTw (gTw x)) ^^^ gTw x ^^^ x
def g13 (x : UInt8) : UInt8 := gTw (gTw (gTw x)) ^^^ gTw (gTw x) ^^^ x
def g14 (x : UInt8) : UInt8 := gTw (gTw (gTw x)) ^^^ gTw (gTw x) ^^^ gTw x
def shL (s : List UInt8) : List UInt8 := (List.range 16).map fun i => s.getD (5 * i % 16) 0
def ushL (s : List UInt8) : List UInt8 := (List.range 16).map fun i => s.getD (13 * i % 16) 0
def mix4 (m n o q : UInt8 → UInt8) (s : List UInt8) : List UInt8 :=
  (List.range 16).map fun i => m (s.getD (i / 4 * 4 + i % 4) 0) ^^^ n (s.getD (i / 4 * 4 + (i + 1) % 4) 0) ^^^ o (s.getD (i / 4 * 4 + (i + 2) % 4) 0) ^^^ q (s.getD (i / 4 * 4 + (i + 3) % 4) 0)
def mixL (s : List UInt8) : List UInt8 := mix4 gTw g3 id id s
def unmixL (s : List UInt8) : List UInt8 := mix4 g14 g11 g13 g9 s
/-- A round, and a round back. -/
def doL (s k : List UInt8) (last : Bool) : List UInt8 := xorL (if last then shL (s.map sb) else mixL (shL (s.map sb))) k
def undoL (s k : List UInt8) (last : Bool) : List UInt8 := (ushL (if last then xorL s k else unmixL (xorL s k))).map bk
def fwdAt (ks : List (List UInt8)) (s : List UInt8) : Nat → List UInt8
  | 0 => xorL s (ks.getD 0 [])
  | i + 1 => doL (fwdAt ks s i) (ks.getD (i + 1) []) (i + 1 == ks.length - 1)
def fwd (ks : List (List UInt8)) (s : List UInt8) : List UInt8 := fwdAt ks s (ks.length - 1)
def bwdAt (ks : List (List UInt8)) (s : List UInt8) : Nat → List UInt8
  | 0 => s
  | j + 1 => undoL (bwdAt ks s j) (ks.getD (ks.length - 1 - j) []) (j == 0)
def bwd (ks : List (List UInt8)) (s : List UInt8) : List UInt8 := xorL (bwdAt ks s (ks.length - 1)) (ks.getD 0 [])
theorem sb_bk (x : UInt8) : sb (bk x) = x := by
  have h := allB_iff (p := fun i => subR.getD (backR.getD i 0).toNat 0 == UInt8.ofNat i) (by decide +kernel) x
  simpa [sb, bk] using h
theorem bk_sb (x : UInt8) : bk (sb x) = x := by
  have h := allB_iff (p := fun i => backR.getD (subR.getD i 0).toNat 0 == UInt8.ofNat i) back_same x
  simpa [sb, bk] using h
theorem gTw_xor (x y : UInt8) : gTw (x ^^^ y) = gTw x ^^^ gTw y := by
  have h := allB_iff (p := fun i => allB fun j => gTw (UInt8.ofNat (i ^^^ j)) == gTw (UInt8.ofNat i) ^^^ gTw (UInt8.ofNat j)) (by decide +kernel) x
  have h := allB_iff h y
  simpa using h
theorem x_self (a : UInt8) : a ^^^ a = 0 := UInt8.xor_self
theorem x_cancel (a b : UInt8) : a ^^^ (a ^^^ b) = b := by rw [← UInt8.xor_assoc, UInt8.xor_self, UInt8.zero_xor]
theorem xac1 (a b c : UInt8) : a ^^^ b ^^^ c = a ^^^ (b ^^^ c) := UInt8.xor_assoc ..
theorem xac2 (a b : UInt8) : a ^^^ b = b ^^^ a := UInt8.xor_comm ..
theorem xac3 (a b c : UInt8) : a ^^^ (b ^^^ c) = b ^^^ (a ^^^ c) := by rw [← UInt8.xor_assoc, UInt8.xor_comm a b, UInt8.xor_assoc]
theorem g3_x (x y : UInt8) : g3 (x ^^^ y) = g3 x ^^^ g3 y := by simp only [g3, gTw_xor, xac1, xac2, xac3]
theorem g9_x (x y : UInt8) : g9 (x ^^^ y) = g9 x ^^^ g9 y := by simp only [g9, gTw_xor, xac1, xac2, xac3]
theorem g11_x (x y : UInt8) : g11 (x ^^^ y) = g11 x ^^^ g11 y := by simp only [g11, gTw_xor, xac1, xac2, xac3]
theorem g13_x (x y : UInt8) : g13 (x ^^^ y) = g13 x ^^^ g13 y := by simp only [g13, gTw_xor, xac1, xac2, xac3]
theorem g14_x (x y : UInt8) : g14 (x ^^^ y) = g14 x ^^^ g14 y := by simp only [g14, gTw_xor, xac1, xac2, xac3]
theorem x16 (a1 a2 a3 a4 b1 b2 b3 b4 c1 c2 c3 c4 d1 d2 d3 d4 : UInt8) : a1 ^^^ b1 ^^^ c1 ^^^ d1 ^^^ (b2 ^^^ c2 ^^^ d2 ^^^ a2) ^^^ (c3 ^^^ d3 ^^^ a3 ^^^ b3) ^^^ (d4 ^^^ a4 ^^^ b4 ^^^ c4) =
    a1 ^^^ a2 ^^^ a3 ^^^ a4 ^^^ (b1 ^^^ b2 ^^^ b3 ^^^ b4) ^^^ (c1 ^^^ c2 ^^^ c3 ^^^ c4) ^^^ (d1 ^^^ d2 ^^^ d3 ^^^ d4) := by ac_rfl
theorem oneB {f g : UInt8 → UInt8} (h : allB (fun i => f (UInt8.ofNat i) == g (UInt8.ofNat i)) = true) (x : UInt8) : f x = g x := by
  have := allB_iff h x; simpa using this
theorem unm (a b c d : UInt8) : g14 (gTw a ^^^ g3 b ^^^ id c ^^^ id d) ^^^ g11 (gTw b ^^^ g3 c ^^^ id d ^^^ id a) ^^^ g13 (gTw c ^^^ g3 d ^^^ id a ^^^ id b) ^^^ g9 (gTw d ^^^ g3 a ^^^ id b ^^^ id c) = a := by
  simp only [g14_x, g11_x, g13_x, g9_x, id]
  rw [x16, oneB (f := fun a => g14 (gTw a) ^^^ g11 a ^^^ g13 a ^^^ g9 (g3 a)) (g := fun a => a) (by decide +kernel) a,
    oneB (f := fun b => g14 (g3 b) ^^^ g11 (gTw b) ^^^ g13 b ^^^ g9 b) (g := fun _ => 0) (by decide +kernel) b,
    oneB (f := fun c => g14 c ^^^ g11 (g3 c) ^^^ g13 (gTw c) ^^^ g9 c) (g := fun _ => 0) (by decide +kernel) c,
    oneB (f := fun d => g14 d ^^^ g11 d ^^^ g13 (g3 d) ^^^ g9 (gTw d)) (g := fun _ => 0) (by decide +kernel) d]
  simp
theorem mun (a b c d : UInt8) : gTw (g14 a ^^^ g11 b ^^^ g13 c ^^^ g9 d) ^^^ g3 (g14 b ^^^ g11 c ^^^ g13 d ^^^ g9 a) ^^^ id (g14 c ^^^ g11 d ^^^ g13 a ^^^ g9 b) ^^^ id (g14 d ^^^ g11 a ^^^ g13 b ^^^ g9 c) = a := by
  simp only [gTw_xor, g3_x, id]
  rw [x16, oneB (f := fun a => gTw (g14 a) ^^^ g3 (g9 a) ^^^ g13 a ^^^ g11 a) (g := fun a => a) (by decide +kernel) a,
    oneB (f := fun b => gTw (g11 b) ^^^ g3 (g14 b) ^^^ g9 b ^^^ g13 b) (g := fun _ => 0) (by decide +kernel) b,
    oneB (f := fun c => gTw (g13 c) ^^^ g3 (g11 c) ^^^ g14 c ^^^ g9 c) (g := fun _ => 0) (by decide +kernel) c,
    oneB (f := fun d => gTw (g9 d) ^^^ g3 (g13 d) ^^^ g11 d ^^^ g14 d) (g := fun _ => 0) (by decide +kernel) d]
  simp
theorem len16 : ∀ {s : List UInt8}, s.length = 16 → ∃ a b c d e f g h i j k l m n o p, s = [a, b, c, d, e, f, g, h, i, j, k, l, m, n, o, p]
  | [a, b, c, d, e, f, g, h, i, j, k, l, m, n, o, p], _ => ⟨a, b, c, d, e, f, g, h, i, j, k, l, m, n, o, p, rfl⟩
theorem xorL_length (a b : List UInt8) : (xorL a b).length = min a.length b.length := List.length_zipWith
theorem xorL_twice : ∀ {a b : List UInt8}, a.length ≤ b.length → xorL (xorL a b) b = a
  | [], _, _ => by simp [xorL]
  | x :: a, y :: b, h => by
    have := xorL_twice (a := a) (b := b) (by simpa using h)
    unfold xorL at this ⊢
    simp only [List.zipWith_cons_cons, this, UInt8.xor_assoc, UInt8.xor_self, UInt8.xor_zero]
theorem shL_length (s : List UInt8) : (shL s).length = 16 := by simp [shL]
theorem ushL_length (s : List UInt8) : (ushL s).length = 16 := by simp [ushL]
theorem mixL_length (s : List UInt8) : (mixL s).length = 16 := by simp [mixL, mix4]
theorem unmixL_length (s : List UInt8) : (unmixL s).length = 16 := by simp [unmixL, mix4]
theorem shL_ush {s : List UInt8} (h : s.length = 16) : shL (ushL s) = s := by
  obtain ⟨a, b, c, d, e, f, g, h, i, j, k, l, m, n, o, p, rfl⟩ := len16 h; rfl
theorem ushL_sh {s : List UInt8} (h : s.length = 16) : ushL (shL s) = s := by
  obtain ⟨a, b, c, d, e, f, g, h, i, j, k, l, m, n, o, p, rfl⟩ := len16 h; rfl
theorem mix4_eq (m n o q : UInt8 → UInt8) (x0 x1 x2 x3 y0 y1 y2 y3 z0 z1 z2 z3 w0 w1 w2 w3 : UInt8) : mix4 m n o q [x0, x1, x2, x3, y0, y1, y2, y3, z0, z1, z2, z3, w0, w1, w2, w3] =
    [m x0 ^^^ n x1 ^^^ o x2 ^^^ q x3, m x1 ^^^ n x2 ^^^ o x3 ^^^ q x0, m x2 ^^^ n x3 ^^^ o x0 ^^^ q x1, m x3 ^^^ n x0 ^^^ o x1 ^^^ q x2,
     m y0 ^^^ n y1 ^^^ o y2 ^^^ q y3, m y1 ^^^ n y2 ^^^ o y3 ^^^ q y0, m y2 ^^^ n y3 ^^^ o y0 ^^^ q y1, m y3 ^^^ n y0 ^^^ o y1 ^^^ q y2,
     m z0 ^^^ n z1 ^^^ o z2 ^^^ q z3, m z1 ^^^ n z2 ^^^ o z3 ^^^ q z0, m z2 ^^^ n z3 ^^^ o z0 ^^^ q z1, m z3 ^^^ n z0 ^^^ o z1 ^^^ q z2,
     m w0 ^^^ n w1 ^^^ o w2 ^^^ q w3, m w1 ^^^ n w2 ^^^ o w3 ^^^ q w0, m w2 ^^^ n w3 ^^^ o w0 ^^^ q w1, m w3 ^^^ n w0 ^^^ o w1 ^^^ q w2] := rfl
theorem unmix_mix {s : List UInt8} (h : s.length = 16) : unmixL (mixL s) = s := by
  obtain ⟨a, b, c, d, e, f, g, h, i, j, k, l, m, n, o, p, rfl⟩ := len16 h
  unfold unmixL mixL
  rw [mix4_eq, mix4_eq]
  simp only [unm]
theorem mix_unmix {s : List UInt8} (h : s.length = 16) : mixL (unmixL s) = s := by
  obtain ⟨a, b, c, d, e, f, g, h, i, j, k, l, m, n, o, p, rfl⟩ := len16 h
  unfold unmixL mixL
  rw [mix4_eq, mix4_eq]
  simp only [mun]
theorem map_sb_bk (s : List UInt8) : (s.map bk).map sb = s := by simp [List.map_map, Function.comp_def, sb_bk]
theorem map_bk_sb (s : List UInt8) : (s.map sb).map bk = s := by simp [List.map_map, Function.comp_def, bk_sb]
theorem doL_length {s k : List UInt8} {last : Bool} (h : k.length = 16) : (doL s k last).length = 16 := by
  unfold doL; rw [xorL_length]; cases last <;> simp [shL_length, mixL_length, h]
theorem undoL_length {s k : List UInt8} {last : Bool} : (undoL s k last).length = 16 := by
  unfold undoL; rw [List.length_map, ushL_length]
theorem undo_do {s k : List UInt8} {last : Bool} (hs : s.length = 16) (hk : k.length = 16) : undoL (doL s k last) k last = s := by
  have h0 : (s.map sb).length = 16 := by simpa using hs
  cases last with
  | true => simp only [undoL, doL, if_true]; rw [xorL_twice (by rw [shL_length, hk]; exact Nat.le_refl _), ushL_sh h0, map_bk_sb]
  | false =>
    simp only [undoL, doL, Bool.false_eq_true, if_false]
    rw [xorL_twice (by rw [mixL_length, hk]; exact Nat.le_refl _), unmix_mix (shL_length _), ushL_sh h0, map_bk_sb]
theorem do_undo {s k : List UInt8} {last : Bool} (hs : s.length = 16) (hk : k.length = 16) : doL (undoL s k last) k last = s := by
  have h1 : (xorL s k).length = 16 := by rw [xorL_length, hs, hk]; rfl
  cases last with
  | true => simp only [undoL, doL, if_true]; rw [map_sb_bk, shL_ush h1, xorL_twice (by rw [hs, hk]; exact Nat.le_refl _)]
  | false =>
    simp only [undoL, doL, Bool.false_eq_true, if_false]
    rw [map_sb_bk, shL_ush (unmixL_length _), mix_unmix h1, xorL_twice (by rw [hs, hk]; exact Nat.le_refl _)]
def keysOk (ks : List (List UInt8)) : Prop := 2 ≤ ks.length ∧ ∀ i, i < ks.length → (ks.getD i []).length = 16
theorem fwdAt_length {ks : List (List UInt8)} {s : List UInt8} (hk : keysOk ks) (hs : s.length = 16) : ∀ {i : Nat}, i < ks.length → (fwdAt ks s i).length = 16
  | 0, h => by unfold fwdAt; rw [xorL_length, hs, hk.2 0 h]; rfl
  | i + 1, h => doL_length (hk.2 (i + 1) h)
theorem bwdAt_length {ks : List (List UInt8)} {s : List UInt8} (hs : s.length = 16) : ∀ {i : Nat}, (bwdAt ks s i).length = 16
  | 0 => hs
  | i + 1 => undoL_length
theorem bwd_length {ks : List (List UInt8)} {s : List UInt8} (hk : keysOk ks) (hs : s.length = 16) : (bwd ks s).length = 16 := by
  have := hk.1
  unfold bwd; rw [xorL_length, bwdAt_length hs, hk.2 0 (by omega)]; rfl
theorem fwd_length {ks : List (List UInt8)} {s : List UInt8} (hk : keysOk ks) (hs : s.length = 16) : (fwd ks s).length = 16 := by
  have := hk.1
  exact fwdAt_length hk hs (by omega)
theorem bwd_fwd {ks : List (List UInt8)} {s : List UInt8} (hk : keysOk ks) (hs : s.length = 16) : bwd ks (fwd ks s) = s := by
  have h2 := hk.1
  have h : ∀ j, j ≤ ks.length - 1 → bwdAt ks (fwd ks s) j = fwdAt ks s (ks.length - 1 - j) := by
    intro j
    induction j with
    | zero => intro _; rfl
    | succ j ih =>
      intro hj
      obtain ⟨m, hm⟩ : ∃ m, ks.length - 1 - j = m + 1 := ⟨ks.length - 1 - j - 1, by omega⟩
      have e : ks.length - 1 - (j + 1) = m := by omega
      have el : (j == 0) = (m + 1 == ks.length - 1) := by rw [Bool.eq_iff_iff]; simp; omega
      show undoL (bwdAt ks (fwd ks s) j) (ks.getD (ks.length - 1 - j) []) (j == 0) = _
      rw [ih (by omega), hm, e, el]
      exact undo_do (fwdAt_length hk hs (by omega)) (hk.2 _ (by omega))
  unfold bwd
  rw [h _ (Nat.le_refl _), Nat.sub_self]
  exact xorL_twice (by rw [hs, hk.2 0 (by omega)]; exact Nat.le_refl _)
theorem fwd_bwd {ks : List (List UInt8)} {s : List UInt8} (hk : keysOk ks) (hs : s.length = 16) : fwd ks (bwd ks s) = s := by
  have h2 := hk.1
  have h : ∀ i, i ≤ ks.length - 1 → fwdAt ks (bwd ks s) i = bwdAt ks s (ks.length - 1 - i) := by
    intro i
    induction i with
    | zero => intro _; exact xorL_twice (by rw [bwdAt_length hs, hk.2 0 (by omega)]; exact Nat.le_refl _)
    | succ i ih =>
      intro hi
      obtain ⟨m, hm⟩ : ∃ m, ks.length - 1 - i = m + 1 := ⟨ks.length - 1 - i - 1, by omega⟩
      have e : ks.length - 1 - (i + 1) = m := by omega
      have el : (i + 1 == ks.length - 1) = (m == 0) := by rw [Bool.eq_iff_iff]; simp; omega
      have ek : i + 1 = ks.length - 1 - m := by omega
      show doL (fwdAt ks (bwd ks s) i) (ks.getD (i + 1) []) (i + 1 == ks.length - 1) = _
      rw [ih (by omega), hm, e, el, ek]
      exact do_undo (bwdAt_length hs) (hk.2 _ (by omega))
  unfold fwd
  rw [h _ (Nat.le_refl _), Nat.sub_self]; rfl
end Go.Proofs.YtipomdmlkkifcaaGreatDoor.Vm
/- The keys of the rounds, plain. -/
set_option maxRecDepth 100000
namespace Go.Proofs.YtipomdmlkkifcaaGreatDoor.Vm
open Go Go.Proofs Go.RowKit
/-- Four bytes as a number. -/
def wN (w : List UInt8) : Nat := (((w.getD 0 0).toNat * 256 + (w.getD 1 0).toNat) * 256 + (w.getD 2 0).toNat) * 256 + (w.getD 3 0).toNat
theorem xor_split (a b c d : Nat) (hb : b < 256) (hd : d < 256) : (a * 256 + b) ^^^ (c * 256 + d) = (a ^^^ c) * 256 + (b ^^^ d) := by
  have h1 : ((a * 256 + b) ^^^ (c * 256 + d)) / 2 ^ 8 = a ^^^ c := by rw [Nat.xor_div_two_pow]; congr 1 <;> omega
  have h2 : ((a * 256 + b) ^^^ (c * 256 + d)) % 2 ^ 8 = b ^^^ d := by
    rw [Nat.xor_mod_two_pow, show (a * 256 + b) % 2 ^ 8 = b by omega, show (c * 256 + d) % 2 ^ 8 = d by omega]
  omega
theorem u32_xor (x y : Nat) (hx : x < 4294967296) (hy : y < 4294967296) : bitsI .xor .u32 x y = ((x ^^^ y : Nat) : Int) := by
  have h : bitsI .xor .u32 x y = IntKind.u32.wrap (((BitVec.ofInt 32 (x : Int)) ^^^ (BitVec.ofInt 32 (y : Int))).toNat : Nat) := rfl
  have e : ∀ z : Nat, z < 4294967296 → (BitVec.ofInt 32 (z : Int)).toNat = z := fun z hz => by simp [BitVec.toNat_ofInt]; omega
  have hl : x ^^^ y < 2 ^ 32 := Nat.xor_lt_two_pow (by omega) (by omega)
  rw [h, BitVec.toNat_xor, e x hx, e y hy]
  simp [IntKind.wrap, IntKind.bits, IntKind.signed]; omega
theorem u32_or (x y : Nat) (hx : x < 4294967296) (hy : y < 4294967296) : bitsI .or .u32 x y = ((x ||| y : Nat) : Int) := by
  have h : bitsI .or .u32 x y = IntKind.u32.wrap (((BitVec.ofInt 32 (x : Int)) ||| (BitVec.ofInt 32 (y : Int))).toNat : Nat) := rfl
  have e : ∀ z : Nat, z < 4294967296 → (BitVec.ofInt 32 (z : Int)).toNat = z := fun z hz => by simp [BitVec.toNat_ofInt]; omega
  have hl : x ||| y < 2 ^ 32 := Nat.or_lt_two_pow (by omega) (by omega)
  rw [h, BitVec.toNat_or, e x hx, e y hy]
  simp [IntKind.wrap, IntKind.bits, IntKind.signed]; omega
theorem u32_and (x : Nat) (hx : x < 4294967296) : bitsI .and .u32 x 255 = ((x % 256 : Nat) : Int) := by
  have h : bitsI .and .u32 x 255 = IntKind.u32.wrap (((BitVec.ofInt 32 (x : Int)) &&& (BitVec.ofInt 32 255)).toNat : Nat) := rfl
  have e : (BitVec.ofInt 32 (x : Int)).toNat = x := by simp [BitVec.toNat_ofInt]; omega
  have hl : x &&& 255 = x % 256 := Nat.and_two_pow_sub_one_eq_mod x 8
  rw [h, BitVec.toNat_and, e, show (BitVec.ofInt 32 255).toNat = 255 from rfl, hl]
  simp [IntKind.wrap, IntKind.bits, IntKind.signed]; omega
theorem or_hi (x y k : Nat) (h : y < 2 ^ k) : x * 2 ^ k ||| y = x * 2 ^ k + y := by
  rw [← Nat.shiftLeft_eq, Nat.shiftLeft_add_eq_or_of_lt h]
theorem wN4 (a b c d : UInt8) : wN [a, b, c, d] = ((a.toNat * 256 + b.toNat) * 256 + c.toNat) * 256 + d.toNat := rfl
theorem wN_xor (a b c d e f g h : UInt8) : wN [a, b, c, d] ^^^ wN [e, f, g, h] = wN [a ^^^ e, b ^^^ f, c ^^^ g, d ^^^ h] := by
  have := b.toNat_lt; have := c.toNat_lt; have := d.toNat_lt; have := f.toNat_lt; have := g.toNat_lt; have := h.toNat_lt
  rw [wN4, wN4, wN4, xor_split _ _ _ _ (by omega) (by omega), xor_split _ _ _ _ (by omega) (by omega), xor_split _ _ _ _ (by omega) (by omega)]
  simp only [UInt8.toNat_xor]
theorem wN_lt (w : List UInt8) : wN w < 4294967296 := by
  have := (w.getD 0 0).toNat_lt; have := (w.getD 1 0).toNat_lt; have := (w.getD 2 0).toNat_lt; have := (w.getD 3 0).toNat_lt
  unfold wN; omega
theorem or4 (a b c d : UInt8) : ((a.toNat * 2 ^ 24 ||| b.toNat * 2 ^ 16) ||| c.toNat * 2 ^ 8) ||| d.toNat = wN [a, b, c, d] := by
  have := a.toNat_lt; have := b.toNat_lt; have := c.toNat_lt; have := d.toNat_lt
  rw [or_hi _ _ 24 (by omega), show a.toNat * 2 ^ 24 + b.toNat * 2 ^ 16 = (a.toNat * 256 + b.toNat) * 2 ^ 16 by omega, or_hi _ _ 16 (by omega),
    show (a.toNat * 256 + b.toNat) * 2 ^ 16 + c.toNat * 2 ^ 8 = ((a.toNat * 256 + b.toNat) * 256 + c.toNat) * 2 ^ 8 by omega, or_hi _ _ 8 (by omega), wN4]
theorem rotW (a b c d : UInt8) : (wN [a, b, c, d] * 256 % 4294967296) ||| wN [a, b, c, d] / 2 ^ 24 = wN [b, c, d, a] := by
  have := a.toNat_lt; have := b.toNat_lt; have := c.toNat_lt; have := d.toNat_lt
  rw [wN4, wN4, show (((a.toNat * 256 + b.toNat) * 256 + c.toNat) * 256 + d.toNat) * 256 % 4294967296 = ((b.toNat * 256 + c.toNat) * 256 + d.toNat) * 2 ^ 8 by omega,
    show (((a.toNat * 256 + b.toNat) * 256 + c.toNat) * 256 + d.toNat) / 2 ^ 24 = a.toNat by omega, or_hi _ _ 8 (by omega)]
/-- What is added where the key's length comes round. -/
def rc : Nat → UInt8
  | 0 => 1
  | j + 1 => gTw (rc j)
def rotL (w : List UInt8) : List UInt8 := [w.getD 1 0, w.getD 2 0, w.getD 3 0, w.getD 0 0]
/-- The word 'i' of a key of 'n' words, behind those ahead of it. -/
def wNext (key : List UInt8) (n : Nat) (out : List (List UInt8)) (i : Nat) : List UInt8 :=
  if i < n then (key.drop (4 * i)).take 4
  else xorL (out.getD (i - n) []) (if i % n = 0 then xorL ((rotL (out.getD (i - 1) [])).map sb) [rc (i / n - 1), 0, 0, 0]
    else if n = 8 ∧ i % 8 = 4 then (out.getD (i - 1) []).map sb else out.getD (i - 1) [])
def wAt (key : List UInt8) (n : Nat) : Nat → List (List UInt8)
  | 0 => []
  | i + 1 => wAt key n i ++ [wNext key n (wAt key n i) i]
def nRounds (n : Nat) : Nat := if n = 16 ∨ n = 24 ∨ n = 32 then 6 + n / 4 else 0
def wordsL (key : List UInt8) : List (List UInt8) := wAt key (key.length / 4) (4 * nRounds key.length + 4)
def keysL (key : List UInt8) : List (List UInt8) := (List.range (nRounds key.length + 1)).map fun j =>
  (wordsL key).getD (4 * j) [] ++ (wordsL key).getD (4 * j + 1) [] ++ (wordsL key).getD (4 * j + 2) [] ++ (wordsL key).getD (4 * j + 3) []
theorem wAt_length (key : List UInt8) (n : Nat) : ∀ i, (wAt key n i).length = i
  | 0 => rfl
  | i + 1 => by rw [wAt, List.length_append, wAt_length key n i]; rfl
theorem getD_app {α : Type} (l : List α) (x d : α) (j : Nat) (h : j < l.length + 1) : (l ++ [x]).getD j d = if j < l.length then l.getD j d else x := by
  rw [List.getD_eq_getElem?_getD, List.getD_eq_getElem?_getD]
  by_cases hj : j < l.length
  · rw [if_pos hj, List.getElem?_append_left hj]
  · have e : j = l.length := by omega
    subst e
    rw [if_neg hj, List.getElem?_append_right (Nat.le_refl _), Nat.sub_self]; rfl
theorem wNext_len {key : List UInt8} {n i : Nat} {out : List (List UInt8)} (hk : key.length = 4 * n) (h0 : 1 ≤ n) (ho : ∀ j, j < i → (out.getD j []).length = 4) : (wNext key n out i).length = 4 := by
  unfold wNext
  by_cases h : i < n
  · rw [if_pos h, List.length_take, List.length_drop]; omega
  · rw [if_neg h, xorL_length, ho _ (by omega)]
    split
    · simp [xorL_length, rotL]
    · split
      · rw [List.length_map, ho _ (by omega)]; rfl
      · rw [ho _ (by omega)]; rfl
theorem wAt_len4 {key : List UInt8} {n : Nat} (hk : key.length = 4 * n) (h0 : 1 ≤ n) : ∀ i, ∀ j, j < i → ((wAt key n i).getD j []).length = 4
  | 0, _, h => absurd h (by omega)
  | i + 1, j, h => by
    have hl := wAt_length key n i
    have ih := wAt_len4 hk h0 i
    rw [wAt, getD_app _ _ _ _ (by omega), hl]
    split
    · exact ih j (by assumption)
    · exact wNext_len hk h0 ih
theorem wordsL_length (key : List UInt8) : (wordsL key).length = 4 * nRounds key.length + 4 := wAt_length ..
theorem nR_pos {n : Nat} (h : nRounds n ≠ 0) : n = 16 ∨ n = 24 ∨ n = 32 := by
  unfold nRounds at h
  split at h
  · assumption
  · exact absurd rfl h
theorem wordsL_len4 {key : List UInt8} (h : nRounds key.length ≠ 0) (j : Nat) (hj : j < 4 * nRounds key.length + 4) : ((wordsL key).getD j []).length = 4 := by
  have := nR_pos h
  exact wAt_len4 (by omega) (by omega) _ j hj
theorem keysL_length (key : List UInt8) : (keysL key).length = nRounds key.length + 1 := by simp [keysL]
theorem keysL_ok {key : List UInt8} (h : nRounds key.length ≠ 0) : keysOk (keysL key) := by
  have h3 := nR_pos h
  refine ⟨by rw [keysL_length]; omega, fun i hi => ?_⟩
  rw [keysL_length] at hi
  have e : (keysL key).getD i [] = (wordsL key).getD (4 * i) [] ++ (wordsL key).getD (4 * i + 1) [] ++ (wordsL key).getD (4 * i + 2) [] ++ (wordsL key).getD (4 * i + 3) [] := by
    rw [List.getD_eq_getElem?_getD, keysL, List.getElem?_map, List.getElem?_range hi]; rfl
  rw [e]
  simp only [List.length_append, wordsL_len4 h (4 * i) (by omega), wordsL_len4 h (4 * i + 1) (by omega), wordsL_len4 h (4 * i + 2) (by omega), wordsL_len4 h (4 * i + 3) (by omega)]
end Go.Proofs.YtipomdmlkkifcaaGreatDoor.Vm
/- Chains of blocks and tags, plain. -/
set_option maxRecDepth 100000
namespace Go.Proofs.YtipomdmlkkifcaaGreatDoor.Vm
open Go Go.Proofs Go.RowKit
/-- The 16 bytes at place 'i'. -/
def blkL (s : List UInt8) (i : Nat) : List UInt8 := (s.drop (16 * i)).take 16
def catL (f : Nat → List UInt8) : Nat → List UInt8
  | 0 => []
  | n + 1 => catL f n ++ f n
theorem catL_length {f : Nat → List UInt8} {n : Nat} (h : ∀ i, i < n → (f i).length = 16) : (catL f n).length = 16 * n := by
  induction n with
  | zero => rfl
  | succ n ih => rw [catL, List.length_append, ih (fun i hi => h i (by omega)), h n (by omega)]; omega
theorem blkL_catL {f : Nat → List UInt8} {n : Nat} (h : ∀ i, i < n → (f i).length = 16) (i : Nat) (hi : i < n) : blkL (catL f n) i = f i := by
  induction n with
  | zero => exact absurd hi (by omega)
  | succ n ih =>
    have hl := catL_length (f := f) (n := n) (fun i hi => h i (by omega))
    unfold blkL catL
    by_cases e : i = n
    · subst e
      rw [List.drop_append_of_le_length (by omega), ← hl, List.drop_length, List.nil_append, List.take_of_length_le (by rw [h i (by omega)]; exact Nat.le_refl _)]
    · rw [List.drop_append_of_le_length (by omega), List.take_append_of_le_length (by rw [List.length_drop]; omega)]
      exact ih (fun i hi => h i (by omega)) (by omega)
theorem catL_blkL (s : List UInt8) : ∀ n, catL (blkL s) n = s.take (16 * n)
  | 0 => by simp [catL]
  | n + 1 => by
    rw [catL, catL_blkL s n, blkL, show 16 * (n + 1) = 16 * n + 16 by omega, List.take_add]
theorem catL_congr {f g : Nat → List UInt8} {n : Nat} (h : ∀ i, i < n → f i = g i) : catL f n = catL g n := by
  induction n with
  | zero => rfl
  | succ n ih => rw [catL, catL, ih (fun i hi => h i (by omega)), h n (by omega)]
theorem blkL_length {s : List UInt8} {n i : Nat} (h : s.length = 16 * n) (hi : i < n) : (blkL s i).length = 16 := by
  unfold blkL; rw [List.length_take, List.length_drop]; omega
def encAt (E : List UInt8 → List UInt8) (iv s : List UInt8) : Nat → List UInt8
  | 0 => iv
  | i + 1 => E (xorL (blkL s i) (encAt E iv s i))
def cbcE (E : List UInt8 → List UInt8) (iv s : List UInt8) : List UInt8 := catL (fun i => encAt E iv s (i + 1)) (s.length / 16)
def aheadL (iv s : List UInt8) (i : Nat) : List UInt8 := if i = 0 then iv else blkL s (i - 1)
def cbcD (D : List UInt8 → List UInt8) (iv s : List UInt8) : List UInt8 := catL (fun i => xorL (D (blkL s i)) (aheadL iv s i)) (s.length / 16)
/-- Two functions of blocks, one the other's way back. -/
structure Two (E D : List UInt8 → List UInt8) : Prop where
  e16 : ∀ x, x.length = 16 → (E x).length = 16
  d16 : ∀ x, x.length = 16 → (D x).length = 16
  de : ∀ x, x.length = 16 → D (E x) = x
  ed : ∀ x, x.length = 16 → E (D x) = x
theorem encAt_length {E D : List UInt8 → List UInt8} (t : Two E D) {iv s : List UInt8} {n : Nat} (hi : iv.length = 16) (hs : s.length = 16 * n) : ∀ i, i ≤ n → (encAt E iv s i).length = 16
  | 0, _ => hi
  | i + 1, h => t.e16 _ (by rw [xorL_length, blkL_length hs (by omega), encAt_length t hi hs i (by omega)]; rfl)
theorem cbcE_length {E D : List UInt8 → List UInt8} (t : Two E D) {iv s : List UInt8} {n : Nat} (hi : iv.length = 16) (hs : s.length = 16 * n) : (cbcE E iv s).length = 16 * n := by
  unfold cbcE
  rw [show s.length / 16 = n by omega]
  exact catL_length fun i h => encAt_length t hi hs (i + 1) (by omega)
theorem aheadL_length {iv s : List UInt8} {n i : Nat} (hi : iv.length = 16) (hs : s.length = 16 * n) (h : i < n) : (aheadL iv s i).length = 16 := by
  unfold aheadL; split
  · exact hi
  · exact blkL_length hs (by omega)
theorem cbcD_length {E D : List UInt8 → List UInt8} (t : Two E D) {iv s : List UInt8} {n : Nat} (hi : iv.length = 16) (hs : s.length = 16 * n) : (cbcD D iv s).length = 16 * n := by
  unfold cbcD
  rw [show s.length / 16 = n by omega]
  exact catL_length fun i h => by rw [xorL_length, t.d16 _ (blkL_length hs h), aheadL_length hi hs h]; rfl
theorem cbc_de {E D : List UInt8 → List UInt8} (t : Two E D) {iv s : List UInt8} {n : Nat} (hi : iv.length = 16) (hs : s.length = 16 * n) : cbcD D iv (cbcE E iv s) = s := by
  have hl := cbcE_length t hi hs
  have hb : ∀ i, i < n → blkL (cbcE E iv s) i = encAt E iv s (i + 1) := fun i h => by
    unfold cbcE
    rw [show s.length / 16 = n by omega]
    exact blkL_catL (fun i h => encAt_length t hi hs (i + 1) (by omega)) i h
  unfold cbcD
  rw [hl, show 16 * n / 16 = n by omega]
  refine (catL_congr (g := blkL s) fun i h => ?_).trans (by rw [catL_blkL, List.take_of_length_le (by omega)])
  have ha : aheadL iv (cbcE E iv s) i = encAt E iv s i := by
    unfold aheadL; split
    · subst_vars; rfl
    · obtain ⟨j, rfl⟩ : ∃ j, i = j + 1 := ⟨i - 1, by omega⟩
      exact hb j (by omega)
  have h1 := blkL_length hs h
  have h2 := encAt_length t hi hs i (by omega)
  rw [hb i h, ha, encAt, t.de _ (by rw [xorL_length, h1, h2]; rfl)]
  exact xorL_twice (by omega)
theorem cbc_ed {E D : List UInt8 → List UInt8} (t : Two E D) {iv s : List UInt8} {n : Nat} (hi : iv.length = 16) (hs : s.length = 16 * n) : cbcE E iv (cbcD D iv s) = s := by
  have hl := cbcD_length t hi hs
  have hb : ∀ i, i < n → blkL (cbcD D iv s) i = xorL (D (blkL s i)) (aheadL iv s i) := fun i h => by
    unfold cbcD
    rw [show s.length / 16 = n by omega]
    exact blkL_catL (fun i h => by rw [xorL_length, t.d16 _ (blkL_length hs h), aheadL_length hi hs h]; rfl) i h
  have he : ∀ i, i ≤ n → encAt E iv (cbcD D iv s) i = aheadL iv s i := by
    intro i
    induction i with
    | zero => intro _; rfl
    | succ i ih =>
      intro h
      have h1 := blkL_length hs (show i < n by omega)
      rw [encAt, ih (by omega), hb i (by omega), xorL_twice (by rw [t.d16 _ h1, aheadL_length hi hs (by omega)]; exact Nat.le_refl _), t.ed _ h1]
      rfl
  unfold cbcE
  rw [hl, show 16 * n / 16 = n by omega]
  refine (catL_congr (g := blkL s) fun i h => ?_).trans (by rw [catL_blkL, List.take_of_length_le (by omega)])
  rw [he (i + 1) (by omega)]; rfl
/-- A number of 128 bits, moved up. -/
def dbl (b : List UInt8) : List UInt8 := if 2 ^ 127 ≤ getN b then (putL (2 * getN b) 16).set 15 ((putL (2 * getN b) 16).getD 15 0 ^^^ 135) else putL (2 * getN b) 16
theorem dbl_length (b : List UInt8) : (dbl b).length = 16 := by
  unfold dbl; split <;> simp [putL_length]
def zero16 : List UInt8 := List.replicate 16 0
/-- A text's tag. -/
def chain (E : List UInt8 → List UInt8) (s : List UInt8) : Nat → List UInt8
  | 0 => zero16
  | i + 1 => E (xorL (chain E s i) (blkL s i))
def lastL (s whole part : List UInt8) : List UInt8 := if s.length = 16 then xorL s whole else xorL (s ++ 128 :: List.replicate (15 - s.length) 0) part
def tagE (E : List UInt8 → List UInt8) (s : List UInt8) : List UInt8 :=
  E (xorL (chain E s ((s.length - 1) / 16)) (lastL (s.drop (16 * ((s.length - 1) / 16))) (dbl (E zero16)) (dbl (dbl (E zero16)))))
theorem chain_length {E D : List UInt8 → List UInt8} (t : Two E D) {s : List UInt8} : ∀ {i : Nat}, 16 * i ≤ s.length → (chain E s i).length = 16
  | 0, _ => by simp [chain, zero16]
  | i + 1, h => t.e16 _ (by rw [xorL_length, chain_length t (by omega), blkL, List.length_take, List.length_drop]; omega)
theorem lastL_length {s a b : List UInt8} (h : s.length ≤ 16) (ha : a.length = 16) (hb : b.length = 16) : (lastL s a b).length = 16 := by
  unfold lastL; split
  · rw [xorL_length]; omega
  · rw [xorL_length, List.length_append, List.length_cons, List.length_replicate]; omega
theorem tagE_length {E D : List UInt8 → List UInt8} (t : Two E D) (s : List UInt8) : (tagE E s).length = 16 := by
  refine t.e16 _ ?_
  rw [xorL_length, chain_length t (by omega), lastL_length (by rw [List.length_drop]; omega) (dbl_length _) (dbl_length _)]; rfl
end Go.Proofs.YtipomdmlkkifcaaGreatDoor.Vm
/- What is sealed is opened, and back; plain. -/
set_option maxRecDepth 100000
namespace Go.Proofs.YtipomdmlkkifcaaGreatDoor.Vm
open Go Go.Proofs Go.RowKit
def encK (key : List UInt8) : List UInt8 → List UInt8 := fwd (keysL key)
def decK (key : List UInt8) : List UInt8 → List UInt8 := bwd (keysL key)
theorem twoK {key : List UInt8} (h : nRounds key.length ≠ 0) : Two (encK key) (decK key) :=
  ⟨fun _ hx => fwd_length (keysL_ok h) hx, fun _ hx => bwd_length (keysL_ok h) hx, fun _ hx => bwd_fwd (keysL_ok h) hx, fun _ hx => fwd_bwd (keysL_ok h) hx⟩
def tagL (key s : List UInt8) : List UInt8 := tagE (encK key) s
/-- What a key is derived from. -/
def inL (p n : Nat) : List UInt8 := putL p 2 ++ [0] ++ putL (n / 8) 2 ++ putL (8 * n) 2
def kdfL (key fixed : List UInt8) (n : Nat) : List UInt8 := (catL (fun i => tagL key (UInt8.ofNat (i + 1) :: fixed)) ((n + 15) / 16)).take n
def dKey (kek : List UInt8) (p : Nat) : List UInt8 := kdfL kek (inL p kek.length) kek.length
theorem tagL_length {key : List UInt8} (h : nRounds key.length ≠ 0) (s : List UInt8) : (tagL key s).length = 16 := tagE_length (twoK h) s
theorem dKey_length {kek : List UInt8} (h : nRounds kek.length ≠ 0) (p : Nat) : (dKey kek p).length = kek.length := by
  unfold dKey kdfL
  rw [List.length_take, catL_length (fun i _ => tagL_length h _)]; omega
theorem dKey_ok {kek : List UInt8} (h : nRounds kek.length ≠ 0) (p : Nat) : nRounds (dKey kek p).length ≠ 0 := by rw [dKey_length h]; exact h
def tagB (kek top x : List UInt8) : List UInt8 := tagL (dKey kek 1) (top ++ x)
def sealC (kek top x : List UInt8) : List UInt8 := cbcE (encK (dKey kek 0)) (tagB kek top x) x
def openP (kek c g : List UInt8) : List UInt8 := cbcD (decK (dKey kek 0)) g c
theorem tagB_length {kek : List UInt8} (h : nRounds kek.length ≠ 0) (top x : List UInt8) : (tagB kek top x).length = 16 := tagL_length (dKey_ok h 1) _
theorem sealC_length {kek : List UInt8} (h : nRounds kek.length ≠ 0) {top x : List UInt8} {n : Nat} (hx : x.length = 16 * n) : (sealC kek top x).length = 16 * n := cbcE_length (twoK (dKey_ok h 0)) (tagB_length h _ _) hx
theorem openP_length {kek : List UInt8} (h : nRounds kek.length ≠ 0) {c g : List UInt8} {n : Nat} (hg : g.length = 16) (hc : c.length = 16 * n) : (openP kek c g).length = 16 * n := cbcD_length (twoK (dKey_ok h 0)) hg hc
/-- What is sealed is opened. -/
theorem open_seal {kek : List UInt8} (h : nRounds kek.length ≠ 0) {top x : List UInt8} {n : Nat} (hx : x.length = 16 * n) : openP kek (sealC kek top x) (tagB kek top x) = x := cbc_de (twoK (dKey_ok h 0)) (tagB_length h _ _) hx
/-- What is opened, sealed again, is what it was. -/
theorem seal_open {kek : List UInt8} (h : nRounds kek.length ≠ 0) {top c g : List UInt8} {n : Nat} (hg : g.length = 16) (hc : c.length = 16 * n) (ht : tagB kek top (openP kek c g) = g) : sealC kek top (openP kek c g) = c := by
  unfold sealC
  rw [ht]
  exact cbc_ed (twoK (dKey_ok h 0)) hg hc
end Go.Proofs.YtipomdmlkkifcaaGreatDoor.Vm
/- Contracts: field.Twice, Mul, Pow, Inv; sbox.Turn, mixed. -/
set_option maxRecDepth 100000
namespace Go.Proofs.YtipomdmlkkifcaaGreatDoor.Vm
open Go Go.Proofs Go.RowKit
variable {ml : Int}
theorem bi_bne0 (x : UInt8) : (bi x != 0) = !(x == 0) := by
  rw [Bool.eq_iff_iff]; simp [bi, ← UInt8.toNat_inj]
theorem bi_beq (x y : UInt8) : (bi x == bi y) = (x == y) := by
  rw [Bool.eq_iff_iff]; simp [bi, ← UInt8.toNat_inj, Int.ofNat_inj]
theorem fTwice (a : UInt8) : Ret P (C ml) 271 [.i .u8 (bi a)] (.i .u8 (bi (gTw a))) := by
  refine hR Tryz.func271 ?_
  have h1 := b_shl1 a
  have h2 := b_and a 128
  have h3 := b_xor (UInt8.ofNat (a.toNat * 2)) 27
  by_cases h : a &&& 128 = 0
  · have c : (bitsI .and .u8 (bi a) 128 != 0) = false := by rw [show (128 : Int) = bi 128 from rfl, h2, bi_bne0, h]; rfl
    rw [show gTw a = UInt8.ofNat (a.toNat * 2) by rw [gTw, if_pos h]]
    refine gF [.f] rfl (ret_of rfl ?_ trivial trivial)
    exact congrArg (T.i _) h1
  · have c : (bitsI .and .u8 (bi a) 128 != 0) = true := by rw [show (128 : Int) = bi 128 from rfl, h2, bi_bne0]; simpa using h
    rw [show gTw a = UInt8.ofNat (a.toNat * 2) ^^^ 27 by rw [gTw, if_neg h]]
    refine gF [.t] rfl (ret_of rfl ?_ trivial trivial)
    exact congrArg (T.i _) ((congrArg (bitsI .xor .u8 · 27) h1).trans h3)
theorem fMul (a b : UInt8) : Ret P (C ml) 310 [.i .u8 (bi a), .i .u8 (bi b)] (.i .u8 (bi (gMul a b))) := by
  refine hR Tryz.func310 ?_
  refine gR [] rfl ?_
  refine g_loop (fun x : UInt8 × UInt8 × UInt8 => [(0, .i .u8 (bi x.2.1)), (1, .i .u8 (bi x.2.2)), (5, .i .u8 (bi x.1))]) (fun _ => []) (fun x => ∃ f, x.2.2.toNat < 2 ^ f ∧ gML f x.1 x.2.1 x.2.2 = gMul a b) (fun x => x.2.2.toNat) (0, a, b) ⟨⟨rfl, rfl, rfl, trivial⟩, trivial, trivial⟩ ⟨8, b.toNat_lt, rfl⟩ ?_
  rintro ⟨o, x, y⟩ ⟨f, h1, h2⟩
  dsimp only at *
  have k1 := fTwice (ml := ml) x
  by_cases hy : y = 0
  · subst hy
    have e : o = gMul a b := by rw [← h2]; cases f <;> simp [gML]
    refine gF [.f] rfl (rd_exit rfl ?_)
    refine gF [] rfl (ret_of rfl ?_ trivial trivial)
    exact congrArg (fun z => T.i .u8 (bi z)) e
  · have c1 : (bi y != 0) = true := by rw [bi_bne0]; simpa using hy
    have hy0 : y.toNat ≠ 0 := fun h => hy (UInt8.toNat_inj.1 h)
    obtain ⟨f, rfl⟩ : ∃ g, f = g + 1 := ⟨f - 1, by cases f with | zero => simp at h1; omega | succ f => rfl⟩
    have e1 := b_shr1 y
    have e2 : (UInt8.ofNat (y.toNat / 2)).toNat = y.toNat / 2 := by have := y.toNat_lt; simp; omega
    have e3 := b_xor o x
    have e4 := b_and y 1
    rw [gML, if_neg hy] at h2
    have hlt : (UInt8.ofNat (y.toNat / 2)).toNat < 2 ^ f := by rw [e2]; omega
    have hdec : (UInt8.ofNat (y.toNat / 2)).toNat < y.toNat := by rw [e2]; omega
    by_cases hz : y &&& 1 = 1
    · have c2 : (bitsI .and .u8 (bi y) 1 == 1) = true := by rw [show (1 : Int) = bi 1 from rfl, e4, bi_beq, hz]; rfl
      rw [if_pos hz] at h2
      refine gF [.t, .t, cc k1] rfl (rd_next (o ^^^ x, gTw x, UInt8.ofNat (y.toNat / 2)) ⟨f, hlt, h2⟩ hdec ⟨?_, ?_, ?_, trivial⟩ trivial trivial)
      · rfl
      · exact congrArg (T.i _) e1
      · exact congrArg (T.i _) e3
    · have c2 : (bitsI .and .u8 (bi y) 1 == 1) = false := by rw [show (1 : Int) = bi 1 from rfl, e4, bi_beq]; simpa using hz
      rw [if_neg hz] at h2
      refine gF [.t, .f, cc k1] rfl (rd_next (o, gTw x, UInt8.ofNat (y.toNat / 2)) ⟨f, hlt, h2⟩ hdec ⟨?_, ?_, ?_, trivial⟩ trivial trivial)
      · rfl
      · exact congrArg (T.i _) e1
      · rfl
theorem i64_and1 (n : Nat) (h : n < 2 ^ 63) : bitsI .and .i64 (n : Int) 1 = ((n % 2 : Nat) : Int) := by
  have := bitsI_and .i64 n 1 (by show n < 2 ^ 64; omega) (by decide)
  rw [show n &&& 1 = n % 2 from Nat.and_two_pow_sub_one_eq_mod n 1] at this
  exact this.trans (w64 (by omega) (by omega))
theorem fPow (a : UInt8) (m : Nat) (hm : m < 256) : Ret P (C ml) 333 [.i .u8 (bi a), .i .i64 m] (.i .u8 (bi (gPow a m))) := by
  refine hR Tryz.func333 ?_
  refine gR [] rfl ?_
  refine g_loop (fun x : UInt8 × UInt8 × Nat => [(0, .i .u8 (bi x.2.1)), (1, .i .i64 x.2.2), (5, .i .u8 (bi x.1))]) (fun _ => []) (fun x => ∃ f, f ≤ 8 ∧ x.2.2 < 2 ^ f ∧ gPL f x.1 x.2.1 x.2.2 = gPow a m) (fun x => x.2.2) (1, a, m) ⟨⟨rfl, rfl, rfl, trivial⟩, trivial, trivial⟩ ⟨8, by omega, hm, rfl⟩ ?_
  rintro ⟨o, x, n⟩ ⟨f, h0, h1, h2⟩
  dsimp only at *
  have k1 := fMul (ml := ml) x x
  have k2 := fMul (ml := ml) o x
  have hb : 2 ^ f ≤ 2 ^ 8 := Nat.pow_le_pow_right (by decide) h0
  by_cases hy : n = 0
  · subst hy
    have e : o = gPow a m := by rw [← h2]; cases f <;> simp [gPL]
    refine gF [.f] rfl (rd_exit rfl ?_)
    refine gF [] rfl (ret_of rfl ?_ trivial trivial)
    exact congrArg (fun z => T.i .u8 (bi z)) e
  · obtain ⟨f, rfl⟩ : ∃ g, f = g + 1 := ⟨f - 1, by cases f with | zero => simp at h1; omega | succ f => rfl⟩
    have e1 : ((n : Int)).fdiv (2 ^ (min (1 : Int).toNat IntKind.i64.bits)) = ((n / 2 : Nat) : Int) := by
      show (n : Int).fdiv 2 = _
      rw [Int.fdiv_eq_ediv_of_nonneg _ (by decide)]; omega
    have e4 := i64_and1 n (by omega)
    rw [gPL, if_neg hy] at h2
    have c1 : decide ((n : Int) > 0) = true := decide_eq_true (by omega)
    by_cases hz : n % 2 = 1
    · have c2 : (bitsI .and .i64 (n : Int) 1 == 1) = true := by rw [e4, hz]; rfl
      rw [if_pos hz] at h2
      refine gF [.t, .t, cc k2, cc k1] rfl (rd_next (gMul o x, gMul x x, n / 2) ⟨f, by omega, by show n / 2 < 2 ^ f; omega, h2⟩ (by show n / 2 < n; omega) ⟨?_, ?_, ?_, trivial⟩ trivial trivial)
      · rfl
      · exact congrArg (T.i _) e1
      · rfl
    · have c2 : (bitsI .and .i64 (n : Int) 1 == 1) = false := by rw [e4, show n % 2 = 0 by omega]; rfl
      rw [if_neg hz] at h2
      refine gF [.t, .f, cc k1] rfl (rd_next (o, gMul x x, n / 2) ⟨f, by omega, by show n / 2 < 2 ^ f; omega, h2⟩ (by show n / 2 < n; omega) ⟨?_, ?_, ?_, trivial⟩ trivial trivial)
      · rfl
      · exact congrArg (T.i _) e1
      · rfl
theorem fInv (a : UInt8) : Ret P (C ml) 308 [.i .u8 (bi a)] (.i .u8 (bi (gInv a))) := by
  have k1 := fPow (ml := ml) a 254 (by decide)
  have k1 : Ret P (C ml) 333 [.i .u8 (bi a), .i .i64 254] (.i .u8 (bi (gPow a 254))) := k1
  refine hR Tryz.func308 ?_
  refine gF [cc k1] rfl (ret_of rfl ?_ trivial trivial)
  rfl
theorem sTurn (a : UInt8) (n : Nat) (hn : n < 8) (h0 : 0 < n) : Ret P (C ml) 334 [.i .u8 (bi a), .i .i64 n] (.i .u8 (bi (gTurn a n))) := by
  have h1 : bitsI .and .i64 (n : Int) 7 = (n : Int) := by
    have := bitsI_and .i64 n 7 (by show n < 2 ^ 64; omega) (by decide)
    rw [show n &&& 7 = n % 8 from Nat.and_two_pow_sub_one_eq_mod n 3, Nat.mod_eq_of_lt hn] at this
    exact this.trans (w64 (by omega) (by omega))
  have ha := a.toNat_lt
  have h2 : IntKind.u8.wrap (bi a * 2 ^ (min ((bitsI .and .i64 (n : Int) 7)).toNat IntKind.u8.bits)) = bi (UInt8.ofNat (a.toNat * 2 ^ n)) := by
    rw [h1, wrap_u8, show min ((n : Int)).toNat IntKind.u8.bits = n by show min _ 8 = _; omega]
    simp [bi]
  have h3 : IntKind.i64.wrap (8 - bitsI .and .i64 (n : Int) 7) = ((8 - n : Nat) : Int) := by rw [h1, w64 (by omega) (by omega)]; omega
  have h4 : (bi a).fdiv (2 ^ (min (IntKind.i64.wrap (8 - bitsI .and .i64 (n : Int) 7)).toNat IntKind.u8.bits)) = bi (UInt8.ofNat (a.toNat / 2 ^ (8 - n))) := by
    rw [h3, show min (((8 - n : Nat) : Int)).toNat IntKind.u8.bits = 8 - n by show min _ 8 = _; omega, Int.fdiv_eq_ediv_of_nonneg _ (Int.le_of_lt (Int.pow_pos (by decide)))]
    have h5 : a.toNat / 2 ^ (8 - n) ≤ a.toNat := Nat.div_le_self _ _
    have e : bi a / 2 ^ (8 - n) = ((a.toNat / 2 ^ (8 - n) : Nat) : Int) := by simp [bi]
    rw [e]
    have : ((a.toNat / 2 ^ (8 - n) : Nat) : Int) = bi (UInt8.ofNat (a.toNat / 2 ^ (8 - n))) := by
      show _ = (((UInt8.ofNat (a.toNat / 2 ^ (8 - n))).toNat : Nat) : Int)
      rw [UInt8.toNat_ofNat', Nat.mod_eq_of_lt (by omega)]
    exact this
  have q1 : 0 ≤ bitsI .and .i64 (n : Int) 7 := by rw [h1]; omega
  have q2 : 0 ≤ IntKind.i64.wrap (8 - bitsI .and .i64 (n : Int) 7) := by rw [h3]; omega
  refine hR Tryz.func334 ?_
  refine gF [] rfl (ret_of rfl ?_ trivial trivial)
  exact congrArg (T.i _) ((congr (congrArg (bitsI .or .u8) h2) h4).trans (b_or _ _))
theorem sMixed (b : UInt8) : Ret P (C ml) 309 [.i .u8 (bi b)] (.i .u8 (bi (gMix b))) := by
  have k1 : Ret P (C ml) 334 [.i .u8 (bi b), .i .i64 1] _ := sTurn (ml := ml) b 1 (by decide) (by decide)
  have k2 : Ret P (C ml) 334 [.i .u8 (bi b), .i .i64 2] _ := sTurn (ml := ml) b 2 (by decide) (by decide)
  have k3 : Ret P (C ml) 334 [.i .u8 (bi b), .i .i64 3] _ := sTurn (ml := ml) b 3 (by decide) (by decide)
  have k4 : Ret P (C ml) 334 [.i .u8 (bi b), .i .i64 4] _ := sTurn (ml := ml) b 4 (by decide) (by decide)
  refine hR Tryz.func309 ?_
  refine gF [cc k1, cc k2, cc k3, cc k4] rfl (ret_of rfl ?_ trivial trivial)
  refine congrArg (T.i _) ?_
  simp only [b_xor, show (99 : Int) = bi 99 from rfl]
  rfl
end Go.Proofs.YtipomdmlkkifcaaGreatDoor.Vm
