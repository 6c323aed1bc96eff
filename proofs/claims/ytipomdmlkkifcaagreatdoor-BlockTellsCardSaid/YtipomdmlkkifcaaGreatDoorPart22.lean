/- Texts of one proof, gathered: Dbl Cmac Equal Kdf Tag Kdf2 Vm24 Seal. -/
import Derived.Test.YtipomdmlkkifcaaGreatDoorPart21
import Derived.Test.YtipomdmlkkifcaaGreatDoorPart13
import Derived.Test.YtipomdmlkkifcaaGreatDoorPart3
import Derived.Defers
set_option linter.unusedSimpArgs false
set_option linter.unusedVariables false
set_option linter.unnecessarySimpa false
/- The doubling of a number of 128 bits, by halves (plain); contracts: cmac.Double. -/
set_option maxRecDepth 100000
namespace Go.Proofs.YtipomdmlkkifcaaGreatDoor.Vm
open Go Go.Proofs Go.RowKit
variable {ml : Int}
theorem putL_add (n j : Nat) : ∀ k, putL n (k + j) = putL (n / 256 ^ j) k ++ putL n j
  | 0 => by simp [putL]
  | k + 1 => by
    rw [show k + 1 + j = (k + j) + 1 by omega, putL, putL_add n j k, putL, Nat.div_div_eq_div_mul, ← Nat.pow_add, Nat.add_comm j k]; rfl
theorem putL_mod (n j : Nat) : ∀ k, k ≤ j → putL (n % 256 ^ j) k = putL n k
  | 0, _ => rfl
  | k + 1, h => by
    rw [putL, putL, putL_mod n j k (by omega)]
    congr 1
    apply UInt8.toNat_inj.1
    rw [UInt8.toNat_ofNat', UInt8.toNat_ofNat']
    obtain ⟨m, rfl⟩ : ∃ m, j = k + 1 + m := ⟨j - k - 1, by omega⟩
    rw [show 256 ^ (k + 1 + m) = 256 ^ k * (256 * 256 ^ m) by rw [show k + 1 + m = k + (1 + m) by omega, Nat.pow_add, Nat.pow_add], Nat.mod_mul_right_div_self, Nat.mod_mul_right_mod]
theorem putL_x (n x : Nat) (hx : x < 256) : putL (n ^^^ x) 8 = (putL n 8).set 7 ((putL n 8).getD 7 0 ^^^ UInt8.ofNat x) := by
  have h1 : (n ^^^ x) / 256 = n / 256 := by
    have := Nat.xor_div_two_pow (a := n) (b := x) (n := 8)
    rw [show x / 2 ^ 8 = 0 by omega, Nat.xor_zero] at this
    exact this
  have h2 : ∀ j, (n ^^^ x) / 256 ^ (j + 1) = n / 256 ^ (j + 1) := fun j => by
    rw [Nat.pow_succ, Nat.mul_comm, ← Nat.div_div_eq_div_mul, h1, Nat.div_div_eq_div_mul]
  have h3 : UInt8.ofNat (n ^^^ x) = UInt8.ofNat n ^^^ UInt8.ofNat x := by
    apply UInt8.toNat_inj.1
    rw [UInt8.toNat_xor, UInt8.toNat_ofNat', UInt8.toNat_ofNat', UInt8.toNat_ofNat']
    exact Nat.xor_mod_two_pow (n := 8)
  simp only [putL, h2 6, h2 5, h2 4, h2 3, h2 2, h2 1, h2 0, Nat.pow_zero, Nat.div_one, h3]
  rfl
theorem getN_append (a b : List UInt8) : getN (a ++ b) = getN a * 256 ^ b.length + getN b := by
  unfold getN
  rw [List.foldl_append]
  generalize a.foldl (fun a c => a * 256 + c.toNat) 0 = x
  induction b generalizing x with
  | nil => simp
  | cons c b ih =>
    rw [List.foldl_cons, ih, List.foldl_cons, ih (0 * 256 + c.toNat), List.length_cons, Nat.pow_succ]
    rw [Nat.add_mul, Nat.mul_assoc, Nat.mul_comm 256 (256 ^ b.length), Nat.zero_mul, Nat.zero_add, Nat.add_assoc]
/-- By halves. -/
theorem dbl_halves (b : List UInt8) (h : b.length = 16) : dbl b = putL (2 * getN (b.take 8) % 2 ^ 64 + getN (b.drop 8) / 2 ^ 63) 8 ++ putL ((2 * getN (b.drop 8) % 2 ^ 64) ^^^ (getN (b.take 8) / 2 ^ 63 * 135)) 8 := by
  have e : getN b = getN (b.take 8) * 256 ^ 8 + getN (b.drop 8) := by
    have := getN_append (b.take 8) (b.drop 8)
    rw [List.take_append_drop, show (b.drop 8).length = 8 by rw [List.length_drop]; omega] at this
    exact this
  have hH := getN_lt (b.take 8)
  have hL := getN_lt (b.drop 8)
  rw [show (b.take 8).length = 8 by rw [List.length_take]; omega] at hH
  rw [show (b.drop 8).length = 8 by rw [List.length_drop]; omega] at hL
  unfold dbl
  rw [e]
  generalize getN (b.take 8) = H at *
  generalize getN (b.drop 8) = L at *
  have p8 : (256 : Nat) ^ 8 = 2 ^ 64 := by decide
  rw [p8] at hH hL ⊢
  have es : putL (2 * (H * 2 ^ 64 + L)) 16 = putL (2 * H % 2 ^ 64 + L / 2 ^ 63) 8 ++ putL (2 * L % 2 ^ 64) 8 := by
    have a1 := putL_add (2 * (H * 2 ^ 64 + L)) 8 8
    rw [p8] at a1
    rw [show (16 : Nat) = 8 + 8 from rfl, a1]
    have m1 := putL_mod (2 * (H * 2 ^ 64 + L) / 2 ^ 64) 8 8 (Nat.le_refl _)
    have m2 := putL_mod (2 * (H * 2 ^ 64 + L)) 8 8 (Nat.le_refl _)
    rw [p8] at m1 m2
    rw [← m1, ← m2]
    congr 2
    · omega
    · omega
  rw [es]
  by_cases hc : 2 ^ 63 ≤ H
  · rw [if_pos (by omega), show H / 2 ^ 63 * 135 = 135 by omega, putL_x _ 135 (by decide), List.set_append_right _ _ (by rw [putL_length]; omega), putL_length]
    congr 2
  · rw [if_neg (by omega), show H / 2 ^ 63 * 135 = 0 by omega, Nat.xor_zero]
theorem u64_xor (x y : Nat) (hx : x < 2 ^ 64) (hy : y < 2 ^ 64) : bitsI .xor .u64 (x : Int) (y : Int) = ((x ^^^ y : Nat) : Int) := by
  have hl : x ^^^ y < 2 ^ 64 := Nat.xor_lt_two_pow hx hy
  rw [bitsI_xor .u64 x y hx hy, wrap_u64]; omega
theorem u64_or (x y : Nat) (hx : x < 2 ^ 64) (hy : y < 2 ^ 64) : bitsI .or .u64 (x : Int) (y : Int) = ((x ||| y : Nat) : Int) := by
  have hl : x ||| y < 2 ^ 64 := Nat.or_lt_two_pow hx hy
  rw [bitsI_or .u64 x y hx hy, wrap_u64]; omega
theorem cDouble (b : List UInt8) (h : b.length = 16) : Ret P (C ml) 225 [.s b] (.s (dbl b)) := by
  have e := dbl_halves b h
  have hH := getN_lt (b.take 8)
  have hL := getN_lt (b.drop 8)
  have h8 : (b.take 8).length = 8 := by rw [List.length_take]; omega
  have l8 : (b.drop 8).length = 8 := by rw [List.length_drop]; omega
  have k1 := pGet (ml := ml) (b.take 8) (by omega)
  have k2 := pGet (ml := ml) (b.drop 8) (by omega)
  rw [if_neg (by omega)] at k1 k2
  rw [h8] at hH
  rw [l8] at hL
  have c1 : ((b.length : Int) != 16) = false := by simp; omega
  have c2 : (8 : Int) ≤ (b.length : Int) := by omega
  generalize hb1 : b.take 8 = b1 at *
  generalize hb2 : b.drop 8 = b2 at *
  generalize getN b1 = H at *
  generalize getN b2 = L at *
  have p8 : (256 : Nat) ^ 8 = 2 ^ 64 := by decide
  rw [p8] at hH hL
  have f : ∀ w : Nat, (w : Int).fdiv (2 ^ (min (63 : Int).toNat IntKind.u64.bits)) = ((w / 2 ^ 63 : Nat) : Int) := fun w => by
    show (w : Int).fdiv (2 ^ 63) = _
    rw [Int.fdiv_eq_ediv_of_nonneg _ (by decide)]; omega
  have g : ∀ w : Nat, IntKind.u64.wrap ((w : Int) * 2 ^ (min (1 : Int).toNat IntKind.u64.bits)) = ((2 * w % 2 ^ 64 : Nat) : Int) := fun w => by
    show IntKind.u64.wrap ((w : Int) * 2) = _
    rw [wrap_u64]; omega
  have hi : bitsI .or .u64 (IntKind.u64.wrap ((H : Int) * 2 ^ (min (1 : Int).toNat IntKind.u64.bits))) ((L : Int).fdiv (2 ^ (min (63 : Int).toNat IntKind.u64.bits))) = ((2 * H % 2 ^ 64 + L / 2 ^ 63 : Nat) : Int) := by
    rw [g, f, u64_or _ _ (by omega) (by omega), show 2 * H % 2 ^ 64 = (H % 2 ^ 63) * 2 ^ 1 by omega, or_hi _ _ 1 (by omega)]
  have lo : bitsI .xor .u64 (IntKind.u64.wrap ((L : Int) * 2 ^ (min (1 : Int).toNat IntKind.u64.bits))) (IntKind.u64.wrap (((H : Int).fdiv (2 ^ (min (63 : Int).toNat IntKind.u64.bits))) * 135)) = (((2 * L % 2 ^ 64) ^^^ (H / 2 ^ 63 * 135) : Nat) : Int) := by
    rw [g, f, show IntKind.u64.wrap (((H / 2 ^ 63 : Nat) : Int) * 135) = ((H / 2 ^ 63 * 135 : Nat) : Int) by rw [wrap_u64]; omega, u64_xor _ _ (by omega) (by omega)]
  have k3 := pPut (ml := ml) (2 * H % 2 ^ 64 + L / 2 ^ 63) 8 (by omega)
  have k4 := pPut (ml := ml) ((2 * L % 2 ^ 64) ^^^ (H / 2 ^ 63 * 135)) 8 (by have : (2 * L % 2 ^ 64) ^^^ (H / 2 ^ 63 * 135) < 2 ^ 64 := Nat.xor_lt_two_pow (by omega) (by omega); omega)
  rw [if_neg (by omega), show (8 : Int).toNat = 8 from rfl] at k3 k4
  rw [e]
  have z1 := putL_length (2 * H % 2 ^ 64 + L / 2 ^ 63) 8
  have z2 := putL_length ((2 * L % 2 ^ 64) ^^^ (H / 2 ^ 63 * 135)) 8
  rw [← hi] at k3
  rw [← lo] at k4
  clear hi lo f g e hH hL p8
  generalize putL (2 * H % 2 ^ 64 + L / 2 ^ 63) 8 = x1 at *
  generalize putL ((2 * L % 2 ^ 64) ^^^ (H / 2 ^ 63 * 135)) 8 = x2 at *
  subst hb1 hb2
  refine hR Tryz.func225 ?_
  refine gF [.f, cc k1, cc k2, cc k3, cc k4] rfl (ret_of rfl ?_ trivial trivial)
  rfl
end Go.Proofs.YtipomdmlkkifcaaGreatDoor.Vm
/- Contracts: cmac.subkeys, last. -/
set_option maxRecDepth 100000
namespace Go.Proofs.YtipomdmlkkifcaaGreatDoor.Vm
open Go Go.Proofs Go.RowKit
variable {ml : Int}
theorem mSub (key : List UInt8) (h : nRounds key.length ≠ 0) : Ret P (C ml) 150 [cph key.length (keysL key) (bytesT (tB 256))] (.tup [.s (dbl (encK key zero16)), .s (dbl (dbl (encK key zero16)))]) := by
  have hko := keysL_ok h
  have hkl := keysL_length key
  have hRn : nRounds key.length ≤ 14 := by unfold nRounds; split <;> omega
  have k1 : Ret P (C ml) 153 [.i .i64 16] (.s zero16) := oZeros (ml := ml) 16 (by decide) (by decide)
  have k2 : Ret P (C ml) 154 [cph key.length (keysL key) (bytesT (tB 256)), .s zero16] (.tup [.s (encK key zero16), .i .i64 0]) := aesE key.length (keysL key) (bytesT (tB 256)) zero16 hko (by omega) tabsT (by simp [zero16])
  have k3 := cDouble (ml := ml) (encK key zero16) ((twoK h).e16 _ (by simp [zero16]))
  have k4 := cDouble (ml := ml) (dbl (encK key zero16)) (dbl_length _)
  generalize keysL key = ks at *
  generalize bytesT (tB 256) = tb at *
  generalize encK key zero16 = l at *
  generalize dbl (dbl l) = d2 at *
  generalize dbl l = d1 at *
  generalize zero16 = z at *
  refine hR Tryz.func150 ?_
  refine gF [cc k1, cc k2, cc k3, cc k4] rfl (ret_of rfl ?_ trivial trivial)
  exact ⟨rfl, rfl, rfl⟩
theorem mLast (s whole part : List UInt8) (hs : s.length ≤ 16) (hw : whole.length = 16) (hp : part.length = 16) : Ret P (C ml) 152 [.s s, .s whole, .s part] (.s (lastL s whole part)) := by
  unfold lastL
  by_cases h : s.length = 16
  · rw [if_pos h]
    have c1 : ((s.length : Int) == 16) = true := by simp; omega
    have k1 := oXor (ml := ml) s whole (by omega) (by omega)
    generalize xorL s whole = w at *
    refine hR Tryz.func152 ?_
    refine gF [.t, cc k1] rfl (ret_of rfl ?_ trivial trivial)
    rfl
  · rw [if_neg h]
    have c1 : ((s.length : Int) == 16) = false := by simp; omega
    have k1 := oPad16 (ml := ml) (s ++ [128]) (by simp; omega)
    have e : s ++ [128] ++ zeroL ((16 - (s ++ [128]).length % 16) % 16) = s ++ 128 :: List.replicate (15 - s.length) 0 := by
      rw [List.length_append, show (16 - (s.length + [(128 : UInt8)].length) % 16) % 16 = 15 - s.length by simp; omega]
      simp [zeroL]
    rw [e] at k1
    have k2 := oXor (ml := ml) (s ++ 128 :: List.replicate (15 - s.length) 0) part (by simp; omega) (by omega)
    clear e
    generalize xorL (s ++ 128 :: List.replicate (15 - s.length) 0) part = w at *
    generalize s ++ 128 :: List.replicate (15 - s.length) 0 = v at *
    refine hR Tryz.func152 ?_
    refine gF [.f, cc k1, cc k2] rfl (ret_of rfl ?_ trivial trivial)
    rfl
end Go.Proofs.YtipomdmlkkifcaaGreatDoor.Vm
/- Contracts: equal.at, Scan (of texts of one length). -/
set_option maxRecDepth 100000
namespace Go.Proofs.YtipomdmlkkifcaaGreatDoor.Vm
open Go Go.Proofs Go.RowKit
variable {ml : Int}
theorem eAt (s : List UInt8) (i : Nat) (h : i < s.length) : Ret P (C ml) 237 [.s s, .i .i64 i] (.agg [.i .u8 (bt s i), .i .u8 1]) := by
  have c1 : decide ((i : Int) < (s.length : Int)) = true := decide_eq_true (by omega)
  refine hR Tryz.func237 ?_
  refine gF [.t] rfl (ret_of rfl ?_ trivial trivial)
  exact ⟨rfl, rfl⟩
def scanA (a b : List UInt8) : Nat → UInt8
  | 0 => 0
  | i + 1 => scanA a b i ||| ((a.getD i 0 ^^^ b.getD i 0) ||| (1 ^^^ 1))
theorem or_zero (x y : UInt8) : x ||| y = 0 ↔ x = 0 ∧ y = 0 := by
  simp only [← UInt8.toNat_inj, UInt8.toNat_or, UInt8.toNat_zero, Nat.or_eq_zero_iff]
theorem xor_zero (x y : UInt8) : x ^^^ y = 0 ↔ x = y := by
  refine ⟨fun h => ?_, fun h => by rw [h, UInt8.xor_self]⟩
  have : x ^^^ y ^^^ y = 0 ^^^ y := by rw [h]
  rwa [UInt8.xor_assoc, UInt8.xor_self, UInt8.xor_zero, UInt8.zero_xor] at this
theorem scanA_zero (a b : List UInt8) : ∀ i, scanA a b i = 0 ↔ ∀ j, j < i → a.getD j 0 = b.getD j 0
  | 0 => by simp [scanA]
  | i + 1 => by
    rw [scanA, or_zero, or_zero, scanA_zero a b i, xor_zero]
    constructor
    · rintro ⟨h1, h2, _⟩ j hj
      by_cases e : j = i
      · rw [e]; exact h2
      · exact h1 j (by omega)
    · intro h
      exact ⟨fun j hj => h j (by omega), h i (by omega), by decide⟩
theorem scanA_all (a b : List UInt8) (h : a.length = b.length) : (scanA a b a.length == 0) = (a == b) := by
  rw [Bool.eq_iff_iff, beq_iff_eq, beq_iff_eq, scanA_zero]
  constructor
  · intro hh
    apply List.ext_getElem h
    intro i h1 h2
    have := hh i h1
    rw [List.getD_eq_getElem?_getD, List.getD_eq_getElem?_getD, List.getElem?_eq_getElem h1, List.getElem?_eq_getElem h2] at this
    exact this
  · rintro rfl j _; rfl
theorem eScan (a b : List UInt8) (h : a.length = b.length) (hl : a.length ≤ 1000000) : Ret P (C ml) 167 [.s a, .s b] (.tup [.b (a == b), .i .i64 a.length]) := by
  have hm : maxI (a.length : Int) (b.length : Int) = (a.length : Int) := by unfold maxI; split <;> omega
  refine hR Tryz.func167 ?_
  refine gR [] rfl ?_
  refine g_loop (fun i : Nat => [(0, .s a), (1, .s b), (6, .i .u8 (bi (scanA a b i))), (7, .i .i64 a.length), (16, .i .i64 a.length), (17, .i .i64 i)]) (fun _ => []) (fun i => i ≤ a.length) (fun i => a.length - i) 0 ⟨⟨rfl, rfl, rfl, congrArg (T.i _) hm, congrArg (T.i _) hm, rfl, trivial⟩, trivial, trivial⟩ (by omega) ?_
  intro i hi
  clear hm
  by_cases hil : i < a.length
  · have c1 : decide ((i : Int) < (a.length : Int)) = true := decide_eq_true (by omega)
    have k1 := eAt (ml := ml) a i hil
    have k2 := eAt (ml := ml) b i (by omega)
    refine gF [.t, cc k1, cc k2, .a, .a, .a, .a] rfl (rd_next (i + 1) (by omega) (by omega) ⟨rfl, rfl, ?_, rfl, rfl, ?_, trivial⟩ trivial trivial)
    · show T.i _ (bitsI .or .u8 (bi (scanA a b i)) (bitsI .or .u8 (bitsI .xor .u8 (bt a i) (bt b i)) (bitsI .xor .u8 (bi 1) (bi 1)))) = T.i _ (bi (scanA a b (i + 1)))
      rw [bt_bi, bt_bi, b_xor, b_xor, b_or, b_or]; rfl
    · show T.i _ _ = T.i _ _
      rw [w64 (by omega) (by omega)]; simp
  · have e : i = a.length := by omega
    subst e
    have c1 : decide ((a.length : Int) < (a.length : Int)) = false := decide_eq_false (by omega)
    have hs := scanA_all a b h
    refine gF [.f] rfl (rd_exit rfl ?_)
    refine gF [] rfl (ret_of rfl ?_ trivial trivial)
    refine ⟨.inl (congrArg T.b ?_), rfl, rfl⟩
    rw [← hs]; exact bi_beq _ 0
end Go.Proofs.YtipomdmlkkifcaaGreatDoor.Vm
/- Contracts: kdf.Rounds, derive.algorithm. -/
set_option maxRecDepth 100000
namespace Go.Proofs.YtipomdmlkkifcaaGreatDoor.Vm
open Go Go.Proofs Go.RowKit
variable {ml : Int}
theorem kRnds (n : Nat) (h0 : 1 ≤ n) (h1 : n ≤ 4080) : Ret P (C ml) 278 [.i .i64 n] (.i .i64 ((n + 15) / 16 : Nat)) := by
  have c1 : decide ((n : Int) < 1) = false := decide_eq_false (by omega)
  have c2 : decide ((n : Int) > 4080) = false := decide_eq_false (by omega)
  have e : IntKind.i64.wrap ((IntKind.i64.wrap ((n : Int) + 15)).tdiv 16) = (((n + 15) / 16 : Nat) : Int) := by
    rw [w64 (x := (n : Int) + 15) (by omega) (by omega), Int.tdiv_eq_ediv_of_nonneg (by omega), w64 (by omega) (by omega)]; omega
  refine hR Tryz.func278 ?_
  refine gF [.f, .f] rfl (ret_of rfl (congrArg (T.i _) e) trivial trivial)
theorem dAlg (n : Nat) (h : nRounds n ≠ 0) : Ret P (C ml) 277 [.i .i64 n] (.i .i64 (n / 8 : Nat)) := by
  have hk := nR_pos h
  have k1 := pRounds (ml := ml) n (by omega)
  rcases hk with rfl | rfl | rfl
  · have k2 : Ret P (C ml) 38 [.i .i64 (16 : Nat)] (.i .i64 10) := k1
    refine hR Tryz.func277 ?_
    refine gF [cc k1] rfl (ret_of rfl ?_ trivial trivial)
    rfl
  · have k2 : Ret P (C ml) 38 [.i .i64 (24 : Nat)] (.i .i64 12) := k1
    refine hR Tryz.func277 ?_
    refine gF [cc k1] rfl (ret_of rfl ?_ trivial trivial)
    rfl
  · have k2 : Ret P (C ml) 38 [.i .i64 (32 : Nat)] (.i .i64 14) := k1
    refine hR Tryz.func277 ?_
    refine gF [cc k1] rfl (ret_of rfl ?_ trivial trivial)
    rfl
end Go.Proofs.YtipomdmlkkifcaaGreatDoor.Vm
/- Contracts: cmac.Tag, Check. -/
set_option maxRecDepth 100000
namespace Go.Proofs.YtipomdmlkkifcaaGreatDoor.Vm
open Go Go.Proofs Go.RowKit
variable {ml : Int}
/-- The pieces of a text behind its last one's turn; what is reached ahead of each. -/
def tagP (s L : List UInt8) (n i : Nat) : List UInt8 := if i = n then L else blkL s i
def tagX (E : List UInt8 → List UInt8) (s : List UInt8) (n i : Nat) : List UInt8 := if i ≤ n then chain E s i else tagE E s
theorem tagX_next (E : List UInt8 → List UInt8) (s : List UInt8) (n i : Nat) (hn : (s.length - 1) / 16 = n) (h : i ≤ n) :
    tagX E s n (i + 1) = E (xorL (tagX E s n i) (tagP s (lastL (s.drop (16 * n)) (dbl (E zero16)) (dbl (dbl (E zero16)))) n i)) := by
  unfold tagX tagP
  rw [if_pos h]
  by_cases e : i = n
  · subst e; rw [if_neg (by omega), if_pos rfl, tagE, hn]
  · rw [if_pos (by omega), if_neg e]; rfl
theorem cTag1 (key s : List UInt8) (n : Nat) (h : nRounds key.length ≠ 0) (h0 : 1 ≤ s.length) (hs : s.length ≤ 100000) (hn : (s.length - 1) / 16 = n) : Ret P (C ml) 87 [.s key, .s s] (.tup [.s (tagL key s), .i .i64 0]) := by
  have k1 := aNew (ml := ml) key h
  have k2 := mSub (ml := ml) key h
  have hko := keysL_ok h
  have hkl := keysL_length key
  have hRn : nRounds key.length ≤ 14 := by unfold nRounds; split <;> omega
  have t2 := twoK h
  have hen : (s.length + 16 - 1) / 16 = n + 1 := by omega
  have k3 := oPc (ml := ml) 130 s (n + 1) hen h0 hs (by decide)
  have hl16 : (s.drop (16 * n)).length ≤ 16 := by rw [List.length_drop]; omega
  have hd1 := dbl_length (encK key zero16)
  have hd2 := dbl_length (dbl (encK key zero16))
  have k4 := mLast (ml := ml) (s.drop (16 * n)) (dbl (encK key zero16)) (dbl (dbl (encK key zero16))) hl16 hd1 hd2
  have hL := lastL_length hl16 hd1 hd2
  have k5 : Ret P (C ml) 153 [.i .i64 16] (.s zero16) := oZeros (ml := ml) 16 (by decide) (by decide)
  have hk : ∀ x : List UInt8, x.length = 16 → Ret P (C ml) 154 [cph key.length (keysL key) (bytesT (tB 256)), .s x] (.tup [.s (encK key x), .i .i64 0]) := fun x hx => aesE key.length (keysL key) (bytesT (tB 256)) x hko (by omega) tabsT hx
  have hba := fun i (hin : i < n + 1) => blk_at s (n + 1) i hen hin
  have hX := tagX_next (encK key) s n
  have hxl : ∀ i, i ≤ n + 1 → (tagX (encK key) s n i).length = 16 := fun i hi => by
    unfold tagX; split
    · exact chain_length t2 (by omega)
    · exact tagE_length t2 s
  have hpl : (piecesL 16 s).length = n + 1 := by rw [piecesL, pT_length, hen]
  have he : tagL key s = tagX (encK key) s n (n + 1) := by unfold tagX tagL; rw [if_neg (by omega)]
  have hx0 : tagX (encK key) s n 0 = zero16 := by unfold tagX; rw [if_pos (by omega)]; rfl
  have hbl : blkL s n = s.drop (16 * n) := List.take_of_length_le hl16
  rw [he]
  generalize lastL (s.drop (16 * n)) (dbl (encK key zero16)) (dbl (dbl (encK key zero16))) = L at *
  have hz : (tin (C ml) 9).size = 1 := rfl
  have w1 : IntKind.i64.wrap (((n + 1 : Nat) : Int) - 1) = n := by rw [w64 (by omega) (by omega)]; omega
  have g1 : ((piecesL 16 s).map T.s)[0 + (IntKind.i64.wrap (((n + 1 : Nat) : Int) - 1)).toNat * (tin (C ml) 9).size]? = some (.s (s.drop (16 * n))) := by
    have := hba n (by omega)
    rw [w1, hz]; rw [hbl] at this; exact this
  have q1 : 0 ≤ IntKind.i64.wrap (((n + 1 : Nat) : Int) - 1) := by rw [w1]; omega
  have q2 : IntKind.i64.wrap (((n + 1 : Nat) : Int) - 1) < ((n + 1 : Nat) : Int) := by rw [w1]; omega
  have q3 : 0 + (IntKind.i64.wrap (((n + 1 : Nat) : Int) - 1)).toNat * (tin (C ml) 9).size + (tin (C ml) 9).size ≤ ((piecesL 16 s).map T.s).length := by rw [w1, hz, List.length_map, hpl]; omega
  have c1 : (((n + 1 : Nat) : Int) == 0) = false := by simp; omega
  have hset : ((piecesL 16 s).map T.s).set (0 + (IntKind.i64.wrap (((n + 1 : Nat) : Int) - 1)).toNat * (tin (C ml) 9).size) (.s L) = ((piecesL 16 s).map T.s).set n (.s L) := by rw [w1, hz]; congr 1; omega
  have hat : ∀ i, i ≤ n → (((piecesL 16 s).map T.s).set n (.s L))[0 + ((i : Int)).toNat * (tin (C ml) 9).size]? = some (.s (tagP s L n i)) := fun i hi => by
    have := hba i (by omega)
    unfold tagP
    rw [hz]
    by_cases e : i = n
    · subst e
      rw [if_pos rfl, show 0 + ((i : Int)).toNat * 1 = i by omega, List.getElem?_set_self (by rw [List.length_map, hpl]; omega)]
    · rw [if_neg e, List.getElem?_set_ne (by omega)]; exact this
  clear w1 hba hpl he hbl hko hkl hRn t2
  generalize ((piecesL 16 s).map T.s).set n (.s L) = cs2 at *
  generalize (piecesL 16 s).map T.s = cs1 at *
  generalize keysL key = ks at *
  generalize bytesT (tB 256) = tb at *
  refine hR Tryz.func87 ?_
  refine gR [cc k1, .f, cc k2, ch k3, .f, ld1 g1, cc k4, cc k5] rfl ?_
  refine g_loop (fun i : Nat => [(6, cph key.length ks tb), (12, .s (tagX (encK key) s n i)), (48, .ref 130 0 0 (n + 1)), (49, .i .i64 (n + 1 : Nat)), (50, .i .i64 i)]) (fun _ => [(130, 0, .row true (.row 1 9) cs2)]) (fun i => i ≤ n + 1) (fun i => n + 1 - i) 0 ⟨⟨rfl, congrArg T.s hx0.symm, ⟨rfl, rfl, rfl, rfl, rfl⟩, rfl, rfl, trivial⟩, ⟨⟨rfl, hset, trivial⟩, trivial⟩, trivial⟩ (by omega) ?_
  intro i hin
  clear k1 k2 k3 k4 g1 q1 q2 q3 c1 hset hx0
  by_cases hil : i < n + 1
  · have c1 : decide ((i : Int) < ((n + 1 : Nat) : Int)) = true := decide_eq_true (by omega)
    have h1 := hat i (by omega)
    have l1 := hxl i hin
    have l2 : (tagP s L n i).length = 16 := by
      unfold tagP; split
      · exact hL
      · unfold blkL; rw [List.length_take, List.length_drop]; omega
    have k3 := oXor (ml := ml) (tagX (encK key) s n i) (tagP s L n i) (by omega) (by omega)
    have k4 := hk (xorL (tagX (encK key) s n i) (tagP s L n i)) (by rw [xorL_length, l1, l2]; rfl)
    rw [← hX i hn (by omega)] at k4
    clear hk hX hxl hat hL
    generalize hx1 : tagX (encK key) s n (i + 1) = x1 at *
    generalize tagX (encK key) s n i = x0 at *
    generalize tagP s L n i = b at *
    refine gF [.t, ld1 h1, cc k3, cc k4] rfl (rd_next (i + 1) (by omega) (by omega) ⟨rfl, congrArg T.s hx1.symm, ⟨rfl, rfl, rfl, rfl, rfl⟩, rfl, ?_, trivial⟩ ⟨⟨rfl, rfl, trivial⟩, trivial⟩ trivial)
    show T.i _ _ = T.i _ _
    rw [w64 (by omega) (by omega)]; simp
  · have e : i = n + 1 := by omega
    subst e
    have c1 : decide (((n + 1 : Nat) : Int) < ((n + 1 : Nat) : Int)) = false := decide_eq_false (by omega)
    refine gF [.f] rfl (rd_exit rfl ?_)
    refine gF [] rfl (ret_of rfl ?_ trivial trivial)
    exact ⟨rfl, rfl, rfl⟩
theorem cTag0 (key : List UInt8) (h : nRounds key.length ≠ 0) : Ret P (C ml) 87 [.s key, .s []] (.tup [.s (tagL key []), .i .i64 0]) := by
  have k1 := aNew (ml := ml) key h
  have k2 := mSub (ml := ml) key h
  have hko := keysL_ok h
  have hkl := keysL_length key
  have hRn : nRounds key.length ≤ 14 := by unfold nRounds; split <;> omega
  have hd1 := dbl_length (encK key zero16)
  have hd2 := dbl_length (dbl (encK key zero16))
  have k4 := mLast (ml := ml) [] (dbl (encK key zero16)) (dbl (dbl (encK key zero16))) (by decide) hd1 hd2
  have hL := lastL_length (s := []) (by decide) hd1 hd2
  have k5 : Ret P (C ml) 153 [.i .i64 16] (.s zero16) := oZeros (ml := ml) 16 (by decide) (by decide)
  have he : tagL key [] = encK key (xorL zero16 (lastL [] (dbl (encK key zero16)) (dbl (dbl (encK key zero16))))) := rfl
  rw [he]
  generalize lastL [] (dbl (encK key zero16)) (dbl (dbl (encK key zero16))) = L at *
  have z16 : zero16.length = 16 := rfl
  have k6 := oXor (ml := ml) zero16 L (by omega) (by omega)
  have k7 : Ret P (C ml) 154 [cph key.length (keysL key) (bytesT (tB 256)), .s (xorL zero16 L)] (.tup [.s (encK key (xorL zero16 L)), .i .i64 0]) := aesE key.length (keysL key) (bytesT (tB 256)) _ hko (by omega) tabsT (by rw [xorL_length, hL, z16]; rfl)
  have k3 : Ret P (C ml) 151 [.s [], .i .i64 16] .nsl := by
    have c1 : decide ((16 : Int) < 1) = false := rfl
    have c2 : (([] : List UInt8) == []) = true := rfl
    refine hR Tryz.func151 ?_
    refine gF [.f, .t] rfl (ret_of rfl ?_ trivial trivial)
    rfl
  clear hko hkl hRn hd1 hd2 hL
  generalize xorL zero16 L = xl at *
  generalize zero16 = z at *
  generalize keysL key = ks at *
  generalize bytesT (tB 256) = tb at *
  refine hR Tryz.func87 ?_
  refine gR [cc k1, .f, cc k2, cc k3, .t, .a, cc k4, cc k5] rfl ?_
  refine g_rounds 2 ?_
  refine gF [.t, .a, cc k6, cc k7] rfl (un_next ?_)
  refine gF [.f] rfl (un_exit rfl ?_)
  refine gF [] rfl (ret_of rfl ?_ trivial trivial)
  exact ⟨rfl, rfl, rfl⟩
theorem cTag (key s : List UInt8) (h : nRounds key.length ≠ 0) (hs : s.length ≤ 100000) : Ret P (C ml) 87 [.s key, .s s] (.tup [.s (tagL key s), .i .i64 0]) := by
  cases s with
  | nil => exact cTag0 key h
  | cons x s => exact cTag1 key (x :: s) _ h (by simp) hs rfl
theorem cCheck (key s g : List UInt8) (h : nRounds key.length ≠ 0) (hs : s.length ≤ 100000) (hg : g.length = 16) : Ret P (C ml) 100 [.s key, .s s, .s g] (.tup [.b (tagL key s == g), .i .i64 0]) := by
  have k1 := cTag (ml := ml) key s h hs
  have hl := tagL_length h s
  have k2 := eScan (ml := ml) (tagL key s) g (by omega) (by omega)
  generalize tagL key s = t at *
  refine hR Tryz.func100 ?_
  refine gF [cc k1, .f, cc k2] rfl (ret_of rfl ?_ trivial trivial)
  exact ⟨.inl rfl, rfl, rfl⟩
end Go.Proofs.YtipomdmlkkifcaaGreatDoor.Vm
/- Contracts: kdf.Counter, derive.Input, Key, Keys. -/
set_option maxRecDepth 100000
namespace Go.Proofs.YtipomdmlkkifcaaGreatDoor.Vm
open Go Go.Proofs Go.RowKit
variable {ml : Int}
/-- Join of a slice that is the caller's own, and is not used again. -/
theorem oJoinH12 (l : List (List UInt8)) (hl : l.length ≤ 100000) (hb : l.flatten.length ≤ 100000000) : HRet P (C ml) 84 [.ref 12 0 0 l.length] [(12, 0, .row true (.row 1 9) (l.map .s))] (.s l.flatten) [(12, 0, .dead)] := by
  refine hR Tryz.func84 ?_
  have k1 := joinL (ml := ml) l hl hb
  refine g_frz 12 rfl ?_
  refine g_weak (e' := [(0, .sl l.length (l.map .s))]) (h' := [(12, 0, .dead)]) ⟨⟨by show T.sl _ _ = T.sl _ _; rw [List.take_of_length_le (by simp)], trivial⟩, ⟨trivial, trivial⟩, rfl, trivial⟩ ?_
  generalize l.map T.s = c at *
  generalize l.flatten = f at *
  refine gF [cc k1] rfl (ret_of rfl ?_ ?_ ?_)
  · exact rfl
  · exact ⟨trivial, trivial⟩
  · exact ⟨rfl, trivial⟩
theorem oJoinH (id : Nat) (l : List (List UInt8)) (hl : l.length ≤ 100000) (hb : l.flatten.length ≤ 100000000) : HRet P (C ml) 84 [.ref id 0 0 l.length] [(id, 0, .row true (.row 1 9) (l.map .s))] (.s l.flatten) [(id, 0, .dead)] := by
  have k0 := hret_ren 12 id (oJoinH12 (ml := ml) l hl hb)
  simp only [renL, renH, renT, renO, renL_texts, show sw 12 id 12 = id by rw [sw_if]; simp] at k0
  exact k0
theorem catL_flat (f : Nat → List UInt8) (n : Nat) : ((List.range n).map f).flatten = catL f n := by
  induction n with
  | zero => rfl
  | succ n ih => rw [List.range_succ, List.map_append, List.flatten_append, ih]; simp [catL]
/-- So many tags. -/
def tagsT (key fixed : List UInt8) (n : Nat) : List (List UInt8) := (List.range n).map fun i => tagL key (UInt8.ofNat (i + 1) :: fixed)
theorem tagsT_succ (key fixed : List UInt8) (n : Nat) : tagsT key fixed (n + 1) = tagsT key fixed n ++ [tagL key (UInt8.ofNat (n + 1) :: fixed)] := by
  unfold tagsT; rw [List.range_succ, List.map_append]; rfl
theorem kCounter (key fixed : List UInt8) (n : Nat) (h : nRounds key.length ≠ 0) (h0 : 1 ≤ n) (h1 : n ≤ 4080) (hf : fixed.length ≤ 1000) : Ret P (C ml) 236 [.s key, .s fixed, .i .i64 n] (.tup [.s (kdfL key fixed n), .i .i64 0]) := by
  have k1 := cTag (ml := ml) key [] h (by simp)
  have k2 := kRnds (ml := ml) n h0 h1
  obtain ⟨r, hr⟩ : ∃ r, (n + 15) / 16 = r := ⟨_, rfl⟩
  rw [hr] at k2
  have hr1 : 1 ≤ r ∧ r ≤ 255 := by omega
  have hk : ∀ i, i < r → Ret P (C ml) 87 [.s key, .s (UInt8.ofNat (i + 1) :: fixed)] (.tup [.s (tagL key (UInt8.ofNat (i + 1) :: fixed)), .i .i64 0]) := fun i hi => cTag key _ h (by simp; omega)
  have htl : ∀ i, (tagsT key fixed i).length = i := fun i => by simp [tagsT]
  have hfl : (tagsT key fixed r).flatten = catL (fun i => tagL key (UInt8.ofNat (i + 1) :: fixed)) r := catL_flat _ r
  have hcl : (catL (fun i => tagL key (UInt8.ofNat (i + 1) :: fixed)) r).length = 16 * r := catL_length fun i hi => tagL_length h _
  have hts := tagsT_succ key fixed
  have hkd : kdfL key fixed n = (catL (fun i => tagL key (UInt8.ofNat (i + 1) :: fixed)) r).take n := by unfold kdfL; rw [hr]
  rw [hkd]
  have zb : (tin (C ml) 9).bytes = 16 := rfl
  have c0 : ((r : Int) == 0) = false := by simp; omega
  generalize tagL key [] = t0 at *
  refine hR Tryz.func236 ?_
  refine gR [cc k1, .f, cc k2, .f] rfl ?_
  refine g_loop (fun i : Nat => [(0, .s key), (1, .s fixed), (2, .i .i64 n), (8, .ref 15 0 0 i), (28, .i .i64 r), (29, .i .i64 i)]) (fun i => [(15, 0, .row true (.row 1 9) ((tagsT key fixed i).map .s))]) (fun i => i ≤ r) (fun i => r - i) 0 ⟨⟨rfl, rfl, rfl, ⟨rfl, rfl, rfl, rfl, rfl⟩, rfl, rfl, trivial⟩, ⟨⟨rfl, rfl, trivial⟩, trivial⟩, trivial⟩ (by omega) ?_
  intro i hi
  clear k1 k2 c0
  by_cases hil : i < r
  · have c1 : decide ((i : Int) < (r : Int)) = true := decide_eq_true (by omega)
    have k1 := pPut (ml := ml) (i + 1) 1 (by omega)
    rw [if_neg (by omega), show putL (i + 1) (1 : Int).toNat = [UInt8.ofNat (i + 1)] by simp [putL]] at k1
    have w1 : IntKind.u64.wrap (IntKind.i64.wrap ((i : Int) + 1)) = ((i + 1 : Nat) : Int) := by rw [w64 (by omega) (by omega), wrap_u64]; omega
    rw [← w1] at k1
    have k2 : HRet P (C ml) 84 [.ref 39 0 0 2] [(39, 0, .row true (.row 1 9) [.s [UInt8.ofNat (i + 1)], .s fixed])] (.s (UInt8.ofNat (i + 1) :: fixed)) [(39, 0, .dead)] := by
      have := oJoinH (ml := ml) 39 [[UInt8.ofNat (i + 1)], fixed] (by simp) (by simp; omega)
      simpa using this
    have k3 := hk i hil
    have ets := hts i
    have q1 : i * 1 = ((tagsT key fixed i).map T.s).length := by simp [htl]
    have q2 : (i + 1) * (tin (C ml) 9).bytes ≤ 140737488355328 := by rw [zb]; omega
    clear hk hts hfl hcl w1
    generalize hg1 : tagsT key fixed (i + 1) = g1 at *
    generalize tagsT key fixed i = g0 at *
    generalize tagL key (UInt8.ofNat (i + 1) :: fixed) = x at *
    generalize UInt8.ofNat (i + 1) :: fixed = y at *
    generalize UInt8.ofNat (i + 1) = z at *
    refine gF [.t, cc k1, ch k2, cc k3] rfl (rd_next (i + 1) (by omega) (by omega) ⟨rfl, rfl, rfl, ⟨rfl, rfl, rfl, rfl, rfl⟩, rfl, ?_, trivial⟩ ⟨⟨rfl, ?_, trivial⟩, trivial⟩ trivial)
    · show T.i _ _ = T.i _ _
      rw [w64 (by omega) (by omega)]; simp
    · show g0.map T.s ++ [T.s x] = (tagsT key fixed (i + 1)).map T.s
      rw [hg1, ets]; simp
  · have e : i = r := by omega
    subst e
    have c1 : decide ((i : Int) < (i : Int)) = false := decide_eq_false (by omega)
    have k1 := oJoinH (ml := ml) 15 (tagsT key fixed i) (by rw [htl]; omega) (by rw [hfl, hcl]; omega)
    rw [htl, hfl] at k1
    have k2 := oCut (ml := ml) (catL (fun i => tagL key (UInt8.ofNat (i + 1) :: fixed)) i) 0 n (by rw [hcl]; omega) (by omega) (by omega)
    rw [show cutO (catL (fun i => tagL key (UInt8.ofNat (i + 1) :: fixed)) i) 0 n = (catL (fun i => tagL key (UInt8.ofNat (i + 1) :: fixed)) i).take n by unfold cutO; rw [if_neg (by rw [hcl]; omega)]; simp] at k2
    clear hk hts hfl hcl htl
    generalize catL (fun i => tagL key (UInt8.ofNat (i + 1) :: fixed)) i = w at *
    generalize tagsT key fixed i = g0 at *
    refine gF [.f] rfl (rd_exit rfl ?_)
    refine gF [ch k1, cc k2] rfl (ret_of rfl ?_ trivial trivial)
    exact ⟨rfl, rfl, rfl⟩
theorem putL2 (n : Nat) : putL n 2 = [UInt8.ofNat (n / 256), UInt8.ofNat n] := by simp [putL]
theorem dInput (p n : Nat) (hp : p < 2) (h : nRounds n ≠ 0) : Ret P (C ml) 235 [.i .i64 p, .i .i64 n] (.s (inL p n)) := by
  have hn := nR_pos h
  have k1 := pRounds (ml := ml) n (by omega)
  have k2 := dAlg (ml := ml) n h
  have k3 := pPut (ml := ml) p 2 (by omega)
  have k4 := pPut (ml := ml) (n / 8) 2 (by omega)
  have k5 := pPut (ml := ml) (8 * n) 2 (by omega)
  rw [if_neg (by omega), show (2 : Int).toNat = 2 from rfl, putL2] at k3 k4 k5
  have w3 : IntKind.u64.wrap (p : Int) = (p : Nat) := by rw [wrap_u64]; omega
  have w4 : IntKind.u64.wrap ((n / 8 : Nat) : Int) = (n / 8 : Nat) := by rw [wrap_u64]; omega
  have w5 : IntKind.u64.wrap (IntKind.u64.wrap (n : Int) * 2 ^ (min (3 : Int).toNat IntKind.u64.bits)) = (8 * n : Nat) := by rw [wrap_u64, wrap_u64]; simp; omega
  rw [← w3] at k3
  rw [← w4] at k4
  rw [← w5] at k5
  have hi : inL p n = [UInt8.ofNat (p / 256), UInt8.ofNat p, 0, UInt8.ofNat (n / 8 / 256), UInt8.ofNat (n / 8), UInt8.ofNat (8 * n / 256), UInt8.ofNat (8 * n)] := by unfold inL; rw [putL2, putL2, putL2]; rfl
  rw [hi]
  have c1 : decide ((p : Int) < 0) = false := decide_eq_false (by omega)
  have c2 : decide ((p : Int) ≥ 2) = false := decide_eq_false (by omega)
  have c3 : ((nRounds n : Int) == 0) = false := by simp; omega
  clear w3 w4 w5 hi hn
  generalize UInt8.ofNat (p / 256) = x1 at *
  generalize UInt8.ofNat p = x2 at *
  generalize UInt8.ofNat (n / 8 / 256) = x3 at *
  generalize UInt8.ofNat (n / 8) = x4 at *
  generalize UInt8.ofNat (8 * n / 256) = x5 at *
  generalize UInt8.ofNat (8 * n) = x6 at *
  generalize nRounds n = r at *
  refine hR Tryz.func235 ?_
  refine gF [.f, .f, cc k1, .f, cc k3, cc k2, cc k4, cc k5, .l [x1, x2, 0, x3, x4, x5, x6]] rfl (ret_of rfl ?_ trivial trivial)
  rfl
theorem dKeyP (kek : List UInt8) (p : Nat) (hp : p < 2) (h : nRounds kek.length ≠ 0) : Ret P (C ml) 165 [.s kek, .i .i64 p] (.tup [.s (dKey kek p), .i .i64 0]) := by
  have hn := nR_pos h
  have k1 := pRounds (ml := ml) kek.length (by omega)
  have k2 := dInput (ml := ml) p kek.length hp h
  have hl : (inL p kek.length).length = 7 := by simp [inL, putL2]
  have k3 := kCounter (ml := ml) kek (inL p kek.length) kek.length h (by omega) (by omega) (by omega)
  have c1 : ((nRounds kek.length : Int) == 0) = false := by simp; omega
  have c2 : (inL p kek.length == []) = false := by cases hx : inL p kek.length with | nil => rw [hx] at hl; simp at hl | cons => rfl
  change Ret P (C ml) 236 _ (.tup [.s (dKey kek p), _]) at k3
  generalize inL p kek.length = i at *
  generalize dKey kek p = d at *
  generalize nRounds kek.length = r at *
  refine hR Tryz.func165 ?_
  refine gF [cc k1, .f, cc k2, .f, cc k3] rfl (ret_of rfl ?_ trivial trivial)
  exact ⟨rfl, rfl, rfl⟩
theorem dKeys (kek : List UInt8) (h : nRounds kek.length ≠ 0) : Ret P (C ml) 98 [.s kek] (.tup [.s (dKey kek 0), .s (dKey kek 1), .i .i64 0]) := by
  have k1 := dKeyP (ml := ml) kek 0 (by omega) h
  have k2 := dKeyP (ml := ml) kek 1 (by omega) h
  generalize dKey kek 0 = a at *
  generalize dKey kek 1 = b at *
  have k3 : Ret P (C ml) 165 [.s kek, .i .i64 0] (.tup [.s a, .i .i64 0]) := k1
  have k4 : Ret P (C ml) 165 [.s kek, .i .i64 1] (.tup [.s b, .i .i64 0]) := k2
  refine hR Tryz.func98 ?_
  refine gR [] rfl ?_
  refine g_rounds 3 ?_
  refine gF [.t, cc k1, .f] rfl (un_next ?_)
  refine gF [.t, cc k2, .f] rfl (un_next ?_)
  refine gF [.f] rfl (un_exit rfl ?_)
  refine gF [.a, .a] rfl (ret_of rfl ?_ trivial trivial)
  exact ⟨rfl, rfl, rfl, rfl⟩
end Go.Proofs.YtipomdmlkkifcaaGreatDoor.Vm
/- The symbolic machine, part 24: a deferred call. -/
namespace Go.Proofs.YtipomdmlkkifcaaGreatDoor.Vm
open Go Go.Proofs
section
variable {P : Program} {C : Ctx} {nt : Nat} {kp : List Nat} {Φ : APost} {ρ : Place} {I : Mem}
/-- The contract of a function that is called when another one ends. -/
def HRetD (P : Program) (C : Ctx) (f : FuncId) (args : List T) (hin : Heap) (r : T) (hout : Heap) : Prop :=
  Callable P f ∧ ∀ ρ I w vals u, GlobOk C I → HS ρ (hlook hin) I w → VRs ρ (hlook hin) I args vals → CallsD P f ⟨vals⟩ u w fun e u' w' => u' = u ∧ HPost ρ hin I w r hout e w'
theorem hretD_of {f : FuncId} {fn : Func} {c : Code} {args : List T} {hin hout : Heap} {r : T} (hT : TabOk P C) (hf : P.funcs[f]? = some fn) (hb : fn.body = some c) (hnm : (fn.name == "runtime.NumGoroutine") = false) (hc : cOk c = true)
    (hlen : Nat.ble args.length fn.ntmps = true) (g : G P C fn.ntmps (ids hin) (RetP C fn.results (ids hin) r hout) [.code c] (enumA args 0) hin []) : HRetD P C f args hin r hout :=
  ⟨⟨fn, hf, hnm, by rw [hb]; rfl⟩, fun _ _ _ _ _ hglob hs hv => callsD_of_wp hf hb (body_wp hT hc hlen g hglob hs hv)⟩
/-- A statement 'defer' of a closure, made just ahead of it. -/
theorem g_defer {id : Nat} {o1 o2 : Oper} {call : Call} {d : Nat} {f : FuncId} {caps : List T} {u : List Nat} {k : List Item} {e : Env} {h : Heap} {ds : Ds} (hT : TabOk P C) (hdn : Nat.blt d nt = true) (h1 : o1.dst = some d) (hg1 : o1.guard = none)
    (ha : aop P C o1 (opd C e) (hlook h) .a = some ⟨.fn (.func f) [] caps, [], u, []⟩) (ho : o2.op = .defer call) (hg : o2.guard = none) (hd : o2.dst = none) (haa : call.args = #[]) (hc : call.callee = .value (.tmp d))
    (g : G P C nt kp Φ k ((d, .fn (.func f) [] caps) :: e) h ((f, [], caps) :: ds)) : G P C nt kp Φ (.code (.region id #[o1, o2] false) :: k) e h ds := by
  intro hk E ρ I a w hE hp sr
  refine wp_region_list ?_
  show wpList P #[o1, o2] (KK P (Post C E Φ) k) [o1, o2] a w
  refine wpList_step fun K hK => ?_
  rw [if_pos (by simp [Region.wanted, hg1])]
  have hdn' : d < nt := Nat.le_of_ble_eq_true hdn
  refine aop_sound hT sr (by rw [← opd_look]; exact ha) (by simp) (fun d' hd' => by rw [h1] at hd'; cases hd'; rw [hE]; exact hdn') fun ρ1 I1 v w1 sr1 => hK _ _ ?_
  rw [h1] at sr1 ⊢
  simp only [updH_nil] at sr1
  rw [← look_cons] at sr1
  refine wpList_step fun K2 hK2 => ?_
  rw [if_pos (by simp [Region.wanted, hg])]
  have hx : VR ρ1 (hlook h) I1 (opd C ((d, .fn (.func f) [] caps) :: e) (.tmp d)) ((a.put (some d) v).eval (.tmp d)) := by rw [opd_look]; exact VR_opd sr1 (.tmp d)
  have he0 : opd C ((d, .fn (.func f) [] caps) :: e) (.tmp d) = .fn (.func f) [] caps := by simp [opd, look]
  rw [he0] at hx
  simp only [VR, VRs] at hx
  obtain ⟨_, cs, hxe, rfl, hcs⟩ := hx
  unfold Oper.wp
  have he : (execOp (a.put (some d) v).eval o2).run P w1 = .ok (.defer { target := .fn (.func f) ⟨cs⟩, args := ⟨[]⟩ }) w1 := by
    rw [execOp, ho]
    simp [resolve, hc, hxe, haa, Deferred.ofValue]
  rw [he]
  refine hK2 _ _ ?_
  refine g hk.tail E ρ1 I1 _ w1 hE hp ?_
  rw [hd]
  exact ⟨sr1.glob, sr1.hs, sr1.ext, sr1.hle, sr1.env, sr1.sz, [], cs, _, rfl, rfl, hcs, sr1.dfs⟩
/-- The end of a function that has deferred a call. -/
def RetDP (P : Program) (C : Ctx) (rs : Array ResultVar) (kp : List Nat) (r : T) (hout : Heap) : APost := fun x e h ds =>
  isEnd x = true ∧ ∃ f caps use r1 out, ds = [(f, [], caps)] ∧ fits (hlook h) use out = true ∧ covers out use = true ∧ okIds.okIdsL use caps = true ∧ closedH use (restrict (hlook h) use) = true ∧
    HRetD P C f caps (restrict (hlook h) use) r1 out ∧ RetP C rs kp r hout .ret e (out ++ h) []
theorem hret_of_d {f : FuncId} {fn : Func} {c : Code} {args : List T} {hin hout : Heap} {r : T} (hT : TabOk P C) (hf : P.funcs[f]? = some fn) (hb : fn.body = some c) (hnm : (fn.name == "runtime.NumGoroutine") = false) (hc : cOk c = true)
    (hlen : Nat.ble args.length fn.ntmps = true) (g : G P C fn.ntmps (ids hin) (RetDP P C fn.results (ids hin) r hout) [.code c] (enumA args 0) hin []) : HRet P C f args hin r hout := by
  refine ⟨⟨fn, hf, hnm, by rw [hb]; rfl⟩, fun ρ I w vals hglob hs hv => calls_of_wp_defers hf hb ?_⟩
  refine wp_mono (g (kOk_one hc) _ ρ I _ w rfl (fun id x hx => look_ids hx) (sr_begin hglob hs hv hlen)) ?_
  intro x a w' hq
  have hq' : Post C ⟨w, owned ρ (hlook hin), I, ρ, hlook hin, fn.ntmps⟩ (RetDP P C fn.results (ids hin) r hout) x a w' := by cases x <;> exact hq
  obtain ⟨e, h, ds, ρ', I', sr, hx, fd, caps, use, r1, out, rfl, f1, f2, f3, f4, hd, hr⟩ := hq'
  have hl : Leaves P fn a.tmps (HPost ρ hin I w r hout) a.defers .returning w' := by
    obtain ⟨xs, cs, rest, e1, h1, h2, h3⟩ := sr.dfs
    cases h1
    cases h3
    rw [e1]
    refine leaves_cons (by simp) (f := fd) (args := ⟨cs⟩) ?_ ?_
    · simp only [invoke]
      rw [callFunc_run hd.1]
      congr 2
      apply Array.ext'
      simp
    · have sr0 : SR C ⟨w, owned ρ (hlook hin), I, ρ, hlook hin, fn.ntmps⟩ (look e) (hlook h) [] ρ' I' { a with defers := [] } w' := ⟨sr.glob, sr.hs, sr.ext, sr.hle, sr.env, sr.sz, rfl⟩
      refine (hd.2 ρ' I' w' cs .returning sr.glob (sr.hs.sub f4) (VRs_sub _ _ f3 h2)).mono ?_
      rintro e2 u2 w2 ⟨rfl, hq⟩
      obtain ⟨v, ρ2, I2, rfl, k1, k2, k3, k4, k5⟩ := call_post sr0 f1 f2 hq
      have sr2 := sr0.step (dst := none) (fun d hd => by cases hd) k1 k2 k3 k4 k5
      have sr3 : SR C ⟨w, owned ρ (hlook hin), I, ρ, hlook hin, fn.ntmps⟩ (look e) (hlook (out ++ h)) [] ρ2 I2 { a with defers := [] } w2 := by rw [hlook_append]; exact sr2
      obtain ⟨_, v2, z1, z2⟩ := ret_end hT sr3 hr
      exact ⟨v2, z1, z2⟩
  cases x with
  | normal => exact hl
  | ret => exact hl
  | _ => simp [isEnd] at hx
end
end Go.Proofs.YtipomdmlkkifcaaGreatDoor.Vm
/- Contracts: seal.ready, Seal; open.Open. -/
set_option maxRecDepth 100000
namespace Go.Proofs.YtipomdmlkkifcaaGreatDoor.Vm
open Go Go.Proofs Go.RowKit
variable {ml : Int}
theorem sReady (kek x : List UInt8) (n : Nat) (h : nRounds kek.length ≠ 0) (hx : x.length = 16 * n) (hn : 1 ≤ n) : Ret P (C ml) 86 [.s kek, .s x] (.tup [.agg [.s (dKey kek 0), .s (dKey kek 1)], .i .i64 0]) := by
  have k1 := dKeys (ml := ml) kek h
  have c1 : (x == []) = false := by cases x with | nil => simp at hx; omega | cons => rfl
  have c2 : (((x.length : Int)).tmod 16 != 0) = false := by rw [Int.tmod_eq_emod_of_nonneg (by omega)]; simp; omega
  generalize dKey kek 0 = a at *
  generalize dKey kek 1 = b at *
  refine hR Tryz.func86 ?_
  refine gF [cc k1, .f, .f, .f] rfl (ret_of rfl ?_ trivial trivial)
  exact ⟨⟨rfl, rfl⟩, rfl, rfl⟩
theorem sSeal (kek top x : List UInt8) (n : Nat) (h : nRounds kek.length ≠ 0) (hx : x.length = 16 * n) (hn : 1 ≤ n) (hn2 : n ≤ 1000) (ht : top.length ≤ 10000) : Ret P (C ml) 42 [.s kek, .s top, .s x] (.tup [.s (sealC kek top x), .s (tagB kek top x), .i .i64 0]) := by
  have k1 := sReady (ml := ml) kek x n h hx hn
  have k2 := cTag (ml := ml) (dKey kek 1) (top ++ x) (dKey_ok h 1) (by simp; omega)
  change Ret P (C ml) _ _ (.tup [.s (tagB kek top x), _]) at k2
  have k3 := cEnc (ml := ml) (dKey kek 0) (tagB kek top x) x n (dKey_ok h 0) (tagB_length h _ _) hx hn hn2
  change Ret P (C ml) _ _ (.tup [.s (sealC kek top x), _]) at k3
  have q1 : top.length + x.length ≤ 9223372036854775807 := by omega
  generalize dKey kek 0 = a at *
  generalize dKey kek 1 = b at *
  generalize sealC kek top x = c at *
  generalize tagB kek top x = t at *
  refine hR Tryz.func42 ?_
  refine gF [cc k1, .f, cc k2, cc k3] rfl (ret_of rfl ?_ trivial trivial)
  exact ⟨rfl, rfl, rfl, rfl⟩
/-- The cells of Open's results. -/
abbrev opCell (x : List UInt8) (e : Int) : Heap := [(9, 0, .row false (.cell 24) [.i .i64 e]), (8, 0, .row false (.cell 9) [.s x])]
theorem oOpen1 (x : List UInt8) (e : Int) : HRetD P (C ml) 97 [.p 9 0 0, .p 8 0 0] (opCell x e) (.tup []) (opCell (if e = 0 then x else []) e) := by
  by_cases h : e = 0
  · have c1 : (e != 0) = false := by simpa using h
    rw [if_pos h]
    refine hretD_of tab_ok Tryz.func97 rfl rfl (by kernel_rfl) rfl ?_
    refine gF [.f] rfl (ret_of rfl ?_ ?_ ?_)
    · exact rfl
    · exact ⟨⟨rfl, rfl, rfl, rfl⟩, ⟨rfl, rfl, rfl, rfl⟩, trivial⟩
    · exact ⟨rfl, rfl, trivial⟩
  · have c1 : (e != 0) = true := by simpa using h
    rw [if_neg h]
    refine hretD_of tab_ok Tryz.func97 rfl rfl (by kernel_rfl) rfl ?_
    refine gF [.t] rfl (ret_of rfl ?_ ?_ ?_)
    · exact rfl
    · exact ⟨⟨rfl, rfl, rfl, rfl⟩, ⟨rfl, rfl, rfl, rfl⟩, trivial⟩
    · exact ⟨rfl, rfl, trivial⟩
/-- What is opened, and the error. -/
def openR (kek top c g : List UInt8) : List UInt8 × Int := if tagB kek top (openP kek c g) = g then (openP kek c g, 0) else ([], 7)
theorem oOpen (kek top c g : List UInt8) (n : Nat) (h : nRounds kek.length ≠ 0) (hc : c.length = 16 * n) (hn : 1 ≤ n) (hn2 : n ≤ 1000) (hg : g.length = 16) (ht : top.length ≤ 10000) :
    Ret P (C ml) 48 [.s kek, .s top, .s c, .s g] (.tup [.s (openR kek top c g).1, .i .i64 (openR kek top c g).2]) := by
  have k1 := dKeys (ml := ml) kek h
  have k2 := cDec (ml := ml) (dKey kek 0) g c n (dKey_ok h 0) hg hc hn hn2
  change Ret P (C ml) _ _ (.tup [.s (openP kek c g), _]) at k2
  have hp := openP_length h hg hc
  have k3 := cCheck (ml := ml) (dKey kek 1) (top ++ openP kek c g) g (dKey_ok h 1) (by rw [List.length_append, hp]; omega) hg
  change Ret P (C ml) _ _ (.tup [.b (tagB kek top (openP kek c g) == g), _]) at k3
  have q1 : top.length + (openP kek c g).length ≤ 9223372036854775807 := by omega
  have c1 : ((g.length : Int) != 16) = false := by simp; omega
  have c2 : (c == []) = false := by cases c with | nil => simp at hc; omega | cons => rfl
  have c3 : (bitsI .and .i64 (c.length : Int) 15 != 0) = false := by
    have := bitsI_and .i64 c.length 15 (by simp; omega) (by decide)
    rw [show ((15 : Nat) : Int) = 15 from rfl] at this
    rw [this, show c.length &&& 15 = c.length % 16 from Nat.and_two_pow_sub_one_eq_mod c.length 4, w64 (by omega) (by omega)]
    simp; omega
  unfold openR
  clear hp hc
  generalize dKey kek 0 = a at *
  generalize dKey kek 1 = b at *
  generalize openP kek c g = p at *
  by_cases hb : tagB kek top p = g
  · rw [if_pos hb]
    have hb2 : (tagB kek top p == g) = true := by simpa using hb
    rw [hb2] at k3
    have k4 := oOpen1 (ml := ml) p 0
    refine hret_of_d tab_ok Tryz.func48 rfl rfl (by kernel_rfl) rfl ?_
    refine g_run tab_ok mixed 3 [] rfl (by simp [AllR]) ?_
    refine g_defer tab_ok rfl rfl rfl rfl rfl rfl rfl rfl rfl ?_
    refine gF [cc k1, .f, .f, .f, .f, cc k2, cc k3, .f] rfl ⟨rfl, _, _, [9, 8], _, _, rfl, rfl, rfl, rfl, rfl, k4, (ret_of rfl ?_ trivial trivial)⟩
    exact ⟨rfl, rfl, rfl⟩
  · rw [if_neg hb]
    have hb2 : (tagB kek top p == g) = false := by simpa using hb
    rw [hb2] at k3
    have k4 := oOpen1 (ml := ml) p 7
    refine hret_of_d tab_ok Tryz.func48 rfl rfl (by kernel_rfl) rfl ?_
    refine g_run tab_ok mixed 3 [] rfl (by simp [AllR]) ?_
    refine g_defer tab_ok rfl rfl rfl rfl rfl rfl rfl rfl rfl ?_
    refine gF [cc k1, .f, .f, .f, .f, cc k2, cc k3, .t] rfl ⟨rfl, _, _, [9, 8], _, _, rfl, rfl, rfl, rfl, rfl, k4, (ret_of rfl ?_ trivial trivial)⟩
    exact ⟨rfl, rfl, rfl⟩
end Go.Proofs.YtipomdmlkkifcaaGreatDoor.Vm
