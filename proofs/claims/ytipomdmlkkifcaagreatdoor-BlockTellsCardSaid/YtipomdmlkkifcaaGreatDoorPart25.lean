/- Texts of one proof, gathered: RefA RefB. -/
import Derived.Test.YtipomdmlkkifcaaGreatDoorPart21
import Derived.Test.YtipomdmlkkifcaaGreatDoorPart19
import Derived.Test.YtipomdmlkkifcaaGreatDoorPart5
set_option linter.unusedSimpArgs false
set_option linter.unusedVariables false
set_option linter.unnecessarySimpa false
/- Contracts: clavigerref01.Zeros, Xor, Pad; clavigerref05.Mul, Pow; clavigerref06.Sub, Back, Subs, Backs. -/
set_option maxRecDepth 100000
namespace Go.Proofs.YtipomdmlkkifcaaGreatDoor.Vm
open Go Go.Proofs Go.RowKit
variable {ml : Int}
theorem rZeros (n : Nat) (h1 : n ≤ 65552) : Ret P (C ml) 173 [.i .i64 n] (.s (zeroL n)) := by
  by_cases h0 : n = 0
  · subst h0
    have c1 : decide (((0 : Nat) : Int) < 1) = true := rfl
    refine hR Tryz.func173 ?_
    refine gF [.t] rfl (ret_of rfl ?_ trivial trivial)
    exact rfl
  · have c1 : decide ((n : Int) < 1) = false := decide_eq_false (by omega)
    have c2 : decide ((n : Int) > 65552) = false := decide_eq_false (by omega)
    have q3 : (n : Int) * (tin (C ml) 5).bytes ≤ 281474976710656 := by rw [show (tin (C ml) 5).bytes = 1 from rfl]; omega
    have hb : List.take (((n : Int)).toNat * szOf (tsz (C ml) 5)) (List.drop 0 (zeros ((n : Int)).toNat (tin (C ml) 5).zero)) = bytesT (zeroL n) := by
      rw [show ((n : Int)).toNat = n by omega, zeros_b]
      exact List.take_of_length_le (by rw [List.drop_zero, bytesT_length, zeroL, List.length_replicate]; exact Nat.le_of_eq (Nat.mul_one n).symm)
    have hl : (zeroL n).length = ((n : Int)).toNat := by rw [zeroL, List.length_replicate]; omega
    refine hR Tryz.func173 ?_
    refine gF [.f, .f, ldb hb] rfl (ret_of rfl ?_ trivial trivial)
    exact rfl
theorem u8_of (q : Nat) : IntKind.u8.wrap (q : Int) = ((UInt8.ofNat q).toNat : Int) := by rw [wrap_u8, UInt8.toNat_ofNat']; omega
theorem bit_q (x k : Nat) (hx : x < 256) (hk : 0 < k) : (IntKind.i64.wrap (((x : Nat) : Int).tdiv (k : Int))).tmod 2 = ((x / k % 2 : Nat) : Int) := by
  have h : ((x : Nat) : Int).tdiv (k : Int) = ((x / k : Nat) : Int) := rfl
  have hl : x / k ≤ x := Nat.div_le_self _ _
  rw [h]
  generalize x / k = d at *
  rw [w64 (by omega) (by omega)]; rfl
theorem xor_step (x y j : Nat) : (x ^^^ y) % 2 ^ (j + 1) = (x ^^^ y) % 2 ^ j + (if x / 2 ^ j % 2 ≠ y / 2 ^ j % 2 then 2 ^ j else 0) := by
  rw [Nat.mod_pow_succ, Nat.xor_div_two_pow]
  have h : ∀ a b : Nat, (a ^^^ b) % 2 = (a % 2) ^^^ (b % 2) := fun a b => by
    have := Nat.xor_mod_two_pow (a := a) (b := b) (n := 1)
    simpa using this
  rw [h]
  rcases Nat.mod_two_eq_zero_or_one (x / 2 ^ j) with h1 | h1 <;> rcases Nat.mod_two_eq_zero_or_one (y / 2 ^ j) with h2 | h2 <;> rw [h1, h2] <;> simp
theorem xorL_tk (a b : List UInt8) (i : Nat) (h1 : i < a.length) (h2 : i < b.length) : xorL (a.take (i + 1)) (b.take (i + 1)) = xorL (a.take i) (b.take i) ++ [a.getD i 0 ^^^ b.getD i 0] := by
  unfold xorL
  rw [List.take_succ_eq_append_getElem h1, List.take_succ_eq_append_getElem h2, List.zipWith_append (by simp; omega)]
  simp [h1, h2]
theorem rXor (a b : List UInt8) (ha : a.length ≤ 1000000) (hb : b.length ≤ 1000000) : Ret P (C ml) 164 [.s a, .s b] (.s (xorL a b)) := by
  refine hR Tryz.func164 ?_
  refine gR [] rfl ?_
  refine g_loop (fun i : Nat => [(0, .s a), (1, .s b), (5, .s (xorL (a.take i) (b.take i))), (6, .i .i64 i)]) (fun _ => []) (fun i => i ≤ a.length ∧ i ≤ b.length) (fun i => a.length - i) 0 ⟨⟨rfl, rfl, rfl, rfl, trivial⟩, trivial, trivial⟩ (by omega) ?_
  rintro i ⟨i1, i2⟩
  by_cases h1 : i < a.length
  · have c1 : decide ((i : Int) < (a.length : Int)) = true := decide_eq_true (by omega)
    by_cases h2 : i < b.length
    · have c2 : decide ((i : Int) < (b.length : Int)) = true := decide_eq_true (by omega)
      have q1 : (i : Int) < (a.length : Int) := by omega
      have q2 : (i : Int) < (b.length : Int) := by omega
      have et := xorL_tk a b i h1 h2
      have ex : bt a (i : Int) = (((a.getD i 0).toNat : Nat) : Int) := rfl
      have ey : bt b (i : Int) = (((b.getD i 0).toNat : Nat) : Int) := rfl
      have hx := (a.getD i 0).toNat_lt
      have hy := (b.getD i 0).toNat_lt
      refine gR [.t, .t] rfl ?_
      refine g_loop (fun j : Nat => [(0, .s a), (1, .s b), (5, .s (xorL (a.take i) (b.take i))), (6, .i .i64 i), (7, .i .i64 ((a.getD i 0).toNat : Nat)), (8, .i .i64 ((b.getD i 0).toNat : Nat)), (9, .i .i64 ((((a.getD i 0).toNat ^^^ (b.getD i 0).toNat) % 2 ^ j : Nat) : Int)), (10, .i .i64 ((2 ^ j : Nat) : Int))]) (fun _ => []) (fun j => j ≤ 8) (fun j => 8 - j) 0
        ⟨⟨rfl, rfl, rfl, rfl, congrArg (T.i .i64) (w64 (by rw [ex]; omega) (by rw [ex]; omega)), congrArg (T.i .i64) (w64 (by rw [ey]; omega) (by rw [ey]; omega)), congrArg (T.i .i64) (by rw [Nat.pow_zero, Nat.mod_one]; rfl), rfl, trivial⟩, trivial, trivial⟩ (by omega) ?_
      intro j hj
      have es := xor_step (a.getD i 0).toNat (b.getD i 0).toNat j
      have hxy : (a.getD i 0).toNat ^^^ (b.getD i 0).toNat < 2 ^ 8 := Nat.xor_lt_two_pow (by omega) (by omega)
      have hbx : UInt8.ofNat ((a.getD i 0).toNat ^^^ (b.getD i 0).toNat) = a.getD i 0 ^^^ b.getD i 0 := by
        apply UInt8.toNat_inj.1; rw [UInt8.toNat_xor, UInt8.toNat_ofNat']; omega
      rw [← hbx] at et
      clear hbx ex ey
      generalize (a.getD i 0).toNat = x at *
      generalize (b.getD i 0).toNat = y at *
      by_cases hj8 : j < 8
      · have hp : 2 ^ j ≤ 2 ^ 7 := Nat.pow_le_pow_right (by omega) (by omega)
        have hp0 : 0 < 2 ^ j := Nat.pow_pos (by omega)
        have hps : 2 ^ (j + 1) = 2 * 2 ^ j := by rw [Nat.pow_succ]; omega
        have c3 : decide (((2 ^ j : Nat) : Int) < 256) = true := decide_eq_true (by omega)
        have b1 := bit_q x (2 ^ j) hx hp0
        have b2 := bit_q y (2 ^ j) hy hp0
        have q3 : ((2 ^ j : Nat) : Int) ≠ 0 := by omega
        have hm : (x ^^^ y) % 2 ^ j < 2 ^ j := Nat.mod_lt _ hp0
        generalize hm1 : (x ^^^ y) % 2 ^ (j + 1) = m1 at *
        generalize (x ^^^ y) % 2 ^ j = m0 at *
        generalize hk1 : 2 ^ (j + 1) = k1 at *
        generalize 2 ^ j = k0 at *
        by_cases hd : x / k0 % 2 = y / k0 % 2
        · rw [if_neg (by simpa using hd)] at es
          have c4 : ((IntKind.i64.wrap ((x : Int).tdiv (k0 : Int))).tmod 2 != (IntKind.i64.wrap ((y : Int).tdiv (k0 : Int))).tmod 2) = false := by rw [b1, b2, hd]; simp
          clear b1 b2
          refine gF [.t, .f] rfl (rd_next (j + 1) (by omega) (by omega) ⟨rfl, rfl, rfl, rfl, rfl, rfl, ?_, ?_, trivial⟩ trivial trivial)
          · exact congrArg (T.i .i64) (by rw [hk1, hm1]; omega)
          · exact congrArg (T.i .i64) (by rw [hk1, w64 (by omega) (by omega)]; omega)
        · rw [if_pos (by simpa using hd)] at es
          have c4 : ((IntKind.i64.wrap ((x : Int).tdiv (k0 : Int))).tmod 2 != (IntKind.i64.wrap ((y : Int).tdiv (k0 : Int))).tmod 2) = true := by rw [b1, b2]; simp; omega
          clear b1 b2
          refine gF [.t, .t] rfl (rd_next (j + 1) (by omega) (by omega) ⟨rfl, rfl, rfl, rfl, rfl, rfl, ?_, ?_, trivial⟩ trivial trivial)
          · exact congrArg (T.i .i64) (by rw [hk1, hm1, w64 (by omega) (by omega)]; omega)
          · exact congrArg (T.i .i64) (by rw [hk1, w64 (by omega) (by omega)]; omega)
      · obtain rfl : j = 8 := by omega
        have c3 : decide (((2 ^ 8 : Nat) : Int) < 256) = false := rfl
        rw [Nat.mod_eq_of_lt hxy]
        clear es
        have hw : IntKind.u8.wrap (((x ^^^ y : Nat)) : Int) = ((UInt8.ofNat (x ^^^ y)).toNat : Int) := u8_of _
        have hl1 : (xorL (a.take i) (b.take i)).length ≤ i := by rw [xorL_length, List.length_take]; omega
        generalize hz : UInt8.ofNat (x ^^^ y) = z at *
        have hbz : List.take (1 * szOf (tsz (C ml) 5)) (List.drop 0 [T.i .u8 (IntKind.u8.wrap (((x ^^^ y : Nat)) : Int))]) = bytesT [z] := by rw [hw]; rfl
        have q4 : (xorL (a.take i) (b.take i)).length + [z].length ≤ 9223372036854775807 := by simp; omega
        generalize ho1 : xorL (a.take (i + 1)) (b.take (i + 1)) = o1 at *
        generalize xorL (a.take i) (b.take i) = o0 at *
        generalize x ^^^ y = xy at *
        refine gF [.f] rfl (rd_exit rfl ?_)
        refine gF [ldb hbz] rfl (rd_next (i + 1) (by omega) (by omega) ⟨rfl, rfl, ?_, ?_, trivial⟩ trivial trivial)
        · exact congrArg T.s (by rw [ho1, et])
        · exact congrArg (T.i .i64) (by rw [w64 (by omega) (by omega)]; simp)
    · have c2 : decide ((i : Int) < (b.length : Int)) = false := decide_eq_false (by omega)
      have e : xorL (a.take i) (b.take i) = xorL a b := by
        unfold xorL
        rw [List.take_of_length_le (l := b) (by omega)]
        apply List.ext_getElem
        · simp; omega
        · intro k k1 k2; simp
      rw [e]
      refine gF [.t, .f] rfl (rd_exit rfl ?_)
      refine gF [] rfl (ret_of rfl ?_ trivial trivial)
      exact rfl
  · have c1 : decide ((i : Int) < (a.length : Int)) = false := decide_eq_false (by omega)
    have e : xorL (a.take i) (b.take i) = xorL a b := by
      unfold xorL
      rw [List.take_of_length_le (l := a) (by omega)]
      apply List.ext_getElem
      · simp; omega
      · intro k k1 k2; simp
    rw [e]
    refine gF [.f] rfl (rd_exit rfl ?_)
    refine gF [] rfl (ret_of rfl ?_ trivial trivial)
    exact rfl
theorem rPad16 (s : List UInt8) (hs : s.length ≤ 1000000) : Ret P (C ml) 174 [.s s, .i .i64 16] (.s (s ++ zeroL ((16 - s.length % 16) % 16))) := by
  obtain ⟨m, hm⟩ : ∃ m, (16 - s.length % 16) % 16 = m := ⟨_, rfl⟩
  rw [hm]
  have k1 := rZeros (ml := ml) m (by omega)
  have q1 : s.length + (zeroL m).length ≤ 9223372036854775807 := by unfold zeroL; rw [List.length_replicate]; omega
  generalize zeroL m = z at *
  have c1 : decide ((16 : Int) < 1) = false := rfl
  have c2 : decide ((16 : Int) > 65535) = false := rfl
  have q2 : (16 : Int) ≠ 0 := by decide
  refine hR Tryz.func174 ?_
  refine gR [.f, .f] rfl ?_
  refine g_loop (fun k : Nat => [(0, .s s), (1, .i .i64 16), (5, .i .i64 k)]) (fun _ => []) (fun k => k ≤ m) (fun k => m - k) 0 ⟨⟨rfl, rfl, rfl, trivial⟩, trivial, trivial⟩ (by omega) ?_
  intro k hk
  have e : (IntKind.i64.wrap ((s.length : Int) + (k : Int))).tmod 16 = (((s.length + k) % 16 : Nat) : Int) := by
    rw [w64 (by omega) (by omega), Int.tmod_eq_emod_of_nonneg (by omega)]; omega
  by_cases hc : k = m
  · subst hc
    have c3 : ((IntKind.i64.wrap ((s.length : Int) + (k : Int))).tmod 16 != 0) = false := by rw [e]; simp; omega
    clear e
    refine gF [.f] rfl (rd_exit rfl ?_)
    refine gF [cc k1] rfl (ret_of rfl ?_ trivial trivial)
    exact rfl
  · have c3 : ((IntKind.i64.wrap ((s.length : Int) + (k : Int))).tmod 16 != 0) = true := by rw [e]; simp; omega
    clear e
    refine gF [.t] rfl (rd_next (k + 1) (by omega) (by omega) ⟨rfl, rfl, ?_, trivial⟩ trivial trivial)
    exact congrArg (T.i .i64) (by rw [w64 (by omega) (by omega)]; simp)
/-! ### The field -/
def pW (a b k : Nat) : Nat := (List.range k).foldl (fun p k => if b / 2 ^ k % 2 = 1 then p ^^^ (a * 2 ^ k) else p) 0
theorem pW_succ (a b k : Nat) : pW a b (k + 1) = if b / 2 ^ k % 2 = 1 then pW a b k ^^^ (a * 2 ^ k) else pW a b k := by
  unfold pW; rw [List.range_succ, List.foldl_append]; rfl
theorem pW_lt (a b : Nat) (ha : a < 256) : ∀ k, k ≤ 8 → pW a b k < 2 ^ 16
  | 0, _ => by show 0 < 2 ^ 16; decide
  | k + 1, h => by
    have ih := pW_lt a b ha k (by omega)
    have hp : 2 ^ k ≤ 2 ^ 7 := Nat.pow_le_pow_right (by omega) (by omega)
    rw [pW_succ]
    split
    · refine Nat.xor_lt_two_pow ih ?_
      have : a * 2 ^ k ≤ 255 * 2 ^ 7 := Nat.mul_le_mul (by omega) hp
      omega
    · exact ih
def pR (p m : Nat) : Nat := ([14, 13, 12, 11, 10, 9, 8].take m).foldl (fun p k => if p / 2 ^ k % 2 = 1 then p ^^^ (283 * 2 ^ (k - 8)) else p) p
theorem pR_succ (p m : Nat) (h : m < 7) : pR p (m + 1) = if pR p m / 2 ^ (14 - m) % 2 = 1 then pR p m ^^^ (283 * 2 ^ (6 - m)) else pR p m := by
  unfold pR
  have hl : m < [14, 13, 12, 11, 10, 9, 8].length := h
  have e : [14, 13, 12, 11, 10, 9, 8][m] = 14 - m := by
    match m, h with
    | 0, _ | 1, _ | 2, _ | 3, _ | 4, _ | 5, _ | 6, _ => rfl
  rw [List.take_succ_eq_append_getElem hl, List.foldl_append, e]
  simp only [List.foldl_cons, List.foldl_nil]
  rw [show 14 - m - 8 = 6 - m by omega]
theorem pR_lt (p : Nat) (hp : p < 2 ^ 16) : ∀ m, m ≤ 7 → pR p m < 2 ^ 16
  | 0, _ => hp
  | m + 1, h => by
    have ih := pR_lt p hp m (by omega)
    have h2 : 2 ^ (6 - m) ≤ 2 ^ 6 := Nat.pow_le_pow_right (by omega) (by omega)
    rw [pR_succ p m (by omega)]
    split
    · exact Nat.xor_lt_two_pow ih (by omega)
    · exact ih
theorem shr_k (x k : Nat) (hk : k ≤ 14) : (((x : Nat) : Int).fdiv (2 ^ (min ((k : Int)).toNat IntKind.i64.bits))).tmod 2 = ((x / 2 ^ k % 2 : Nat) : Int) := by
  have e : (2 : Int) ^ k = ((2 ^ k : Nat) : Int) := by push_cast; rfl
  rw [show ((k : Int)).toNat = k by omega, bits_i64, show min k 64 = k by omega, e, Int.fdiv_eq_ediv_of_nonneg _ (Int.natCast_nonneg _), ← Int.natCast_ediv]
  rfl
theorem shl_k (x k : Nat) (hx : x < 512) (hk : k ≤ 14) : IntKind.i64.wrap (((x : Nat) : Int) * 2 ^ (min ((k : Int)).toNat IntKind.i64.bits)) = ((x * 2 ^ k : Nat) : Int) := by
  have h2 : 2 ^ k ≤ 2 ^ 14 := Nat.pow_le_pow_right (by omega) hk
  have h3 : x * 2 ^ k ≤ 512 * 2 ^ 14 := Nat.mul_le_mul (by omega) h2
  rw [show ((k : Int)).toNat = k by omega, bits_i64, show min k 64 = k by omega]
  have e : ((x : Nat) : Int) * 2 ^ k = ((x * 2 ^ k : Nat) : Int) := by push_cast; rfl
  rw [e, w64 (by omega) (by omega)]
theorem xor_i (x y : Nat) (hx : x < 2 ^ 32) (hy : y < 2 ^ 32) : bitsI .xor .i64 (x : Int) (y : Int) = ((x ^^^ y : Nat) : Int) := by
  have hl : x ^^^ y < 2 ^ 32 := Nat.xor_lt_two_pow hx hy
  rw [bitsI_xor .i64 x y (by simp; omega) (by simp; omega), w64 (by omega) (by omega)]
theorem rMul (a b : UInt8) : Ret P (C ml) 345 [.i .u8 (bi a), .i .u8 (bi b)] (.i .u8 (bi (gMulR a b))) := by
  have ha := a.toNat_lt
  have hb := b.toNat_lt
  have hA : IntKind.i64.wrap (bi a) = bi a := by show IntKind.i64.wrap (a.toNat : Int) = (a.toNat : Int); exact w64 (by omega) (by omega)
  have hB : IntKind.i64.wrap (bi b) = bi b := by show IntKind.i64.wrap (b.toNat : Int) = (b.toNat : Int); exact w64 (by omega) (by omega)
  refine hR Tryz.func345 ?_
  refine gR [] rfl ?_
  refine g_loop (fun k : Nat => [(0, .i .u8 (bi a)), (1, .i .u8 (bi b)), (5, .i .i64 (pW a.toNat b.toNat k)), (6, .i .i64 k)]) (fun _ => []) (fun k => k ≤ 8) (fun k => 8 - k) 0 ⟨⟨rfl, rfl, rfl, rfl, trivial⟩, trivial, trivial⟩ (by omega) ?_
  intro k hk
  have hl := pW_lt a.toNat b.toNat ha k hk
  by_cases hk8 : k < 8
  · have c1 : decide ((k : Int) < 8) = true := decide_eq_true (by omega)
    have q1 : (0 : Int) ≤ (k : Int) := by omega
    have es := pW_succ a.toNat b.toNat k
    have e1 : ((IntKind.i64.wrap (bi b)).fdiv (2 ^ (min ((k : Int)).toNat IntKind.i64.bits))).tmod 2 = ((b.toNat / 2 ^ k % 2 : Nat) : Int) := by rw [hB]; exact shr_k b.toNat k (by omega)
    have e2 : IntKind.i64.wrap (IntKind.i64.wrap (bi a) * 2 ^ (min ((k : Int)).toNat IntKind.i64.bits)) = ((a.toNat * 2 ^ k : Nat) : Int) := by rw [hA]; exact shl_k a.toNat k (by omega) (by omega)
    by_cases hc : b.toNat / 2 ^ k % 2 = 1
    · rw [if_pos hc] at es
      have c2 : (((IntKind.i64.wrap (bi b)).fdiv (2 ^ (min ((k : Int)).toNat IntKind.i64.bits))).tmod 2 == 1) = true := by rw [e1, hc]; rfl
      have h3 : a.toNat * 2 ^ k ≤ 256 * 2 ^ 8 := Nat.mul_le_mul (by omega) (Nat.pow_le_pow_right (by omega) (by omega))
      have e3 : bitsI .xor .i64 (pW a.toNat b.toNat k : Nat) (IntKind.i64.wrap (IntKind.i64.wrap (bi a) * 2 ^ (min ((k : Int)).toNat IntKind.i64.bits))) = (pW a.toNat b.toNat (k + 1) : Nat) := by rw [e2, xor_i _ _ (by omega) (by omega), es]
      clear e1 e2
      refine gF [.t, .t] rfl (rd_next (k + 1) (by omega) (by omega) ⟨rfl, rfl, ?_, ?_, trivial⟩ trivial trivial)
      · exact congrArg (T.i .i64) e3
      · exact congrArg (T.i .i64) (by rw [w64 (by omega) (by omega)]; simp)
    · rw [if_neg hc] at es
      have c2 : (((IntKind.i64.wrap (bi b)).fdiv (2 ^ (min ((k : Int)).toNat IntKind.i64.bits))).tmod 2 == 1) = false := by rw [e1]; generalize b.toNat / 2 ^ k % 2 = q at hc ⊢; simp; omega
      clear e1 e2
      refine gF [.t, .f] rfl (rd_next (k + 1) (by omega) (by omega) ⟨rfl, rfl, ?_, ?_, trivial⟩ trivial trivial)
      · exact congrArg (T.i .i64) (by rw [es])
      · exact congrArg (T.i .i64) (by rw [w64 (by omega) (by omega)]; simp)
  · obtain rfl : k = 8 := by omega
    have c1 : decide (((8 : Nat) : Int) < 8) = false := rfl
    refine gF [.f] rfl (rd_exit rfl ?_)
    have hw : gMulR a b = UInt8.ofNat (pR (pW a.toNat b.toNat 8) 7) := rfl
    rw [hw]
    clear hw hA hB
    generalize pW a.toNat b.toNat 8 = p at *
    refine gR [] rfl ?_
    refine g_loop (fun m : Nat => [(5, .i .i64 (pR p m)), (7, .i .i64 (14 - (m : Int)))]) (fun _ => []) (fun m => m ≤ 7) (fun m => 7 - m) 0 ⟨⟨rfl, rfl, trivial⟩, trivial, trivial⟩ (by omega) ?_
    intro m hm
    have hl := pR_lt p hl m hm
    by_cases hm7 : m < 7
    · have c1 : decide ((14 - (m : Int)) ≥ 8) = true := decide_eq_true (by omega)
      have es := pR_succ p m hm7
      have q1 : (0 : Int) ≤ 14 - (m : Int) := by omega
      have q2 : (0 : Int) ≤ IntKind.i64.wrap (14 - (m : Int) - 8) := by rw [w64 (by omega) (by omega)]; omega
      have e1 : (((pR p m : Nat) : Int).fdiv (2 ^ (min ((14 - (m : Int))).toNat IntKind.i64.bits))).tmod 2 = ((pR p m / 2 ^ (14 - m) % 2 : Nat) : Int) := by
        have := shr_k (pR p m) (14 - m) (by omega)
        rwa [show ((14 - m : Nat) : Int) = 14 - (m : Int) by omega] at this
      have e2 : IntKind.i64.wrap (283 * 2 ^ (min ((IntKind.i64.wrap (14 - (m : Int) - 8))).toNat IntKind.i64.bits)) = ((283 * 2 ^ (6 - m) : Nat) : Int) := by
        have := shl_k 283 (6 - m) (by omega) (by omega)
        rw [show ((6 - m : Nat) : Int) = 6 - (m : Int) by omega] at this
        rw [w64 (x := 14 - (m : Int) - 8) (by omega) (by omega), show 14 - (m : Int) - 8 = 6 - (m : Int) by omega]
        exact this
      by_cases hc : pR p m / 2 ^ (14 - m) % 2 = 1
      · rw [if_pos hc] at es
        have c2 : ((((pR p m : Nat) : Int).fdiv (2 ^ (min ((14 - (m : Int))).toNat IntKind.i64.bits))).tmod 2 == 1) = true := by rw [e1, hc]; rfl
        have h3 : 283 * 2 ^ (6 - m) ≤ 283 * 2 ^ 6 := Nat.mul_le_mul (by omega) (Nat.pow_le_pow_right (by omega) (by omega))
        have e3 : bitsI .xor .i64 (pR p m : Nat) (IntKind.i64.wrap (283 * 2 ^ (min ((IntKind.i64.wrap (14 - (m : Int) - 8))).toNat IntKind.i64.bits))) = (pR p (m + 1) : Nat) := by rw [e2, xor_i _ _ (by omega) (by omega), es]
        clear e1 e2
        refine gF [.t, .t] rfl (rd_next (m + 1) (by omega) (by omega) ⟨?_, ?_, trivial⟩ trivial trivial)
        · exact congrArg (T.i .i64) e3
        · exact congrArg (T.i .i64) (by rw [w64 (by omega) (by omega)]; simp; omega)
      · rw [if_neg hc] at es
        have c2 : ((((pR p m : Nat) : Int).fdiv (2 ^ (min ((14 - (m : Int))).toNat IntKind.i64.bits))).tmod 2 == 1) = false := by rw [e1]; generalize pR p m / 2 ^ (14 - m) % 2 = q at hc ⊢; simp; omega
        clear e1 e2
        refine gF [.t, .f] rfl (rd_next (m + 1) (by omega) (by omega) ⟨?_, ?_, trivial⟩ trivial trivial)
        · exact congrArg (T.i .i64) (by rw [es])
        · exact congrArg (T.i .i64) (by rw [w64 (by omega) (by omega)]; simp; omega)
    · obtain rfl : m = 7 := by omega
      have c1 : decide ((14 - ((7 : Nat) : Int)) ≥ 8) = false := rfl
      refine gF [.f] rfl (rd_exit rfl ?_)
      refine gF [] rfl (ret_of rfl ?_ trivial trivial)
      exact congrArg (T.i .u8) (u8_of _)
theorem mul2 (x : UInt8) : gMulR x 2 = gTw x := by
  have h := allB_iff (p := fun i => gMulR (UInt8.ofNat i) 2 == gTw (UInt8.ofNat i)) (by decide +kernel) x
  simpa using h
theorem rPow2 (n : Nat) (h0 : n ≤ 200) : Ret P (C ml) 336 [.i .u8 2, .i .i64 n] (.i .u8 (bi (rc n))) := by
  by_cases hn : n = 0
  · subst hn
    have c1 : decide (((0 : Nat) : Int) < 1) = true := rfl
    refine hR Tryz.func336 ?_
    refine gF [.t] rfl (ret_of rfl ?_ trivial trivial)
    exact rfl
  · have c1 : decide ((n : Int) < 1) = false := decide_eq_false (by omega)
    have c2 : ((2 : Int) == 0) = false := rfl
    have q1 : (255 : Int) ≠ 0 := by decide
    refine hR Tryz.func336 ?_
    refine gR [.f, .f] rfl ?_
    refine g_loop (fun j : Nat => [(0, .i .u8 2), (1, .i .i64 n), (5, .i .u8 (bi (rc j))), (6, .i .i64 j)]) (fun _ => []) (fun j => j ≤ n) (fun j => n - j) 0 ⟨⟨rfl, rfl, rfl, rfl, trivial⟩, trivial, trivial⟩ (by omega) ?_
    intro j hj
    have e : ((n : Int)).tmod 255 = (n : Int) := by rw [Int.tmod_eq_emod_of_nonneg (by omega)]; omega
    by_cases hc : j < n
    · have c3 : decide ((j : Int) < ((n : Int)).tmod 255) = true := decide_eq_true (by rw [e]; omega)
      have k1 : Ret P (C ml) 345 [.i .u8 (bi (rc j)), .i .u8 2] (.i .u8 (bi (rc (j + 1)))) := by
        have := rMul (ml := ml) (rc j) 2
        rwa [mul2] at this
      clear e
      generalize hr1 : rc (j + 1) = r1 at *
      generalize rc j = r0 at *
      refine gF [.t, cc k1] rfl (rd_next (j + 1) (by omega) (by omega) ⟨rfl, rfl, ?_, ?_, trivial⟩ trivial trivial)
      · exact congrArg (fun x : UInt8 => T.i .u8 (bi x)) hr1.symm
      · exact congrArg (T.i .i64) (by rw [w64 (by omega) (by omega)]; simp)
    · obtain rfl : j = n := by omega
      have c3 : decide ((j : Int) < ((j : Int)).tmod 255) = false := decide_eq_false (by rw [e]; omega)
      clear e
      refine gF [.f] rfl (rd_exit rfl ?_)
      refine gF [] rfl (ret_of rfl ?_ trivial trivial)
      exact rfl
/-! ### The box -/
theorem sub_val (a : UInt8) : IntKind.u8.wrap (IntKind.i64.wrap (IntKind.i64.wrap (16 * hexv (bt sboxHex (IntKind.i64.wrap (2 * IntKind.i64.wrap (bi a))))) + hexv (bt sboxHex (IntKind.i64.wrap (IntKind.i64.wrap (2 * IntKind.i64.wrap (bi a)) + 1))))) = bi (sb a) := by
  have h := allB_iff (p := fun i => IntKind.u8.wrap (IntKind.i64.wrap (IntKind.i64.wrap (16 * hexv (bt sboxHex (IntKind.i64.wrap (2 * IntKind.i64.wrap (i : Int))))) + hexv (bt sboxHex (IntKind.i64.wrap (IntKind.i64.wrap (2 * IntKind.i64.wrap (i : Int)) + 1))))) == bi (sb (UInt8.ofNat i))) (by decide +kernel) a
  simpa only [UInt8.ofNat_toNat, beq_iff_eq] using h
theorem back_val (a : UInt8) : IntKind.u8.wrap (IntKind.i64.wrap (IntKind.i64.wrap (16 * hexv (bt sboxHexBack (IntKind.i64.wrap (2 * IntKind.i64.wrap (bi a))))) + hexv (bt sboxHexBack (IntKind.i64.wrap (IntKind.i64.wrap (2 * IntKind.i64.wrap (bi a)) + 1))))) = bi (bk a) := by
  have h := allB_iff (p := fun i => IntKind.u8.wrap (IntKind.i64.wrap (IntKind.i64.wrap (16 * hexv (bt sboxHexBack (IntKind.i64.wrap (2 * IntKind.i64.wrap (i : Int))))) + hexv (bt sboxHexBack (IntKind.i64.wrap (IntKind.i64.wrap (2 * IntKind.i64.wrap (i : Int)) + 1))))) == bi (bk (UInt8.ofNat i))) (by decide +kernel) a
  simpa only [UInt8.ofNat_toNat, beq_iff_eq] using h
theorem two_ix (a : UInt8) : 0 ≤ IntKind.i64.wrap (2 * IntKind.i64.wrap (bi a)) ∧ IntKind.i64.wrap (2 * IntKind.i64.wrap (bi a)) < 512 ∧ 0 ≤ IntKind.i64.wrap (IntKind.i64.wrap (2 * IntKind.i64.wrap (bi a)) + 1) ∧ IntKind.i64.wrap (IntKind.i64.wrap (2 * IntKind.i64.wrap (bi a)) + 1) < 512 := by
  have := a.toNat_lt
  show 0 ≤ IntKind.i64.wrap (2 * IntKind.i64.wrap (a.toNat : Int)) ∧ IntKind.i64.wrap (2 * IntKind.i64.wrap (a.toNat : Int)) < 512 ∧ 0 ≤ IntKind.i64.wrap (IntKind.i64.wrap (2 * IntKind.i64.wrap (a.toNat : Int)) + 1) ∧ IntKind.i64.wrap (IntKind.i64.wrap (2 * IntKind.i64.wrap (a.toNat : Int)) + 1) < 512
  generalize a.toNat = n at *
  obtain ⟨z, hz⟩ : ∃ z : Int, (n : Int) = z := ⟨_, rfl⟩
  rw [hz]
  rw [w64 (x := z) (by omega) (by omega), w64 (x := 2 * z) (by omega) (by omega), w64 (by omega) (by omega)]
  omega
theorem rSub (a : UInt8) : Ret P (C ml) 335 [.i .u8 (bi a)] (.i .u8 (bi (sb a))) := by
  obtain ⟨q1, q2, q3, q4⟩ := two_ix a
  have k1 := value02 (ml := ml) (bt sboxHex (IntKind.i64.wrap (2 * IntKind.i64.wrap (bi a))))
  have k2 := value02 (ml := ml) (bt sboxHex (IntKind.i64.wrap (IntKind.i64.wrap (2 * IntKind.i64.wrap (bi a)) + 1)))
  have e := sub_val a
  unfold sboxHex at k1 k2 e
  refine hR Tryz.func335 ?_
  refine gF [cc k1, cc k2] rfl (ret_of rfl ?_ trivial trivial)
  exact congrArg (T.i .u8) e
theorem rBack (a : UInt8) : Ret P (C ml) 339 [.i .u8 (bi a)] (.i .u8 (bi (bk a))) := by
  obtain ⟨q1, q2, q3, q4⟩ := two_ix a
  have k1 := value02 (ml := ml) (bt sboxHexBack (IntKind.i64.wrap (2 * IntKind.i64.wrap (bi a))))
  have k2 := value02 (ml := ml) (bt sboxHexBack (IntKind.i64.wrap (IntKind.i64.wrap (2 * IntKind.i64.wrap (bi a)) + 1)))
  have e := back_val a
  unfold sboxHexBack at k1 k2 e
  refine hR Tryz.func339 ?_
  refine gF [cc k1, cc k2] rfl (ret_of rfl ?_ trivial trivial)
  exact congrArg (T.i .u8) e
theorem map_take (f : UInt8 → UInt8) (s : List UInt8) (i : Nat) (h : i < s.length) : (s.take (i + 1)).map f = (s.take i).map f ++ [f (s.getD i 0)] := by
  rw [List.take_succ_eq_append_getElem h, List.map_append]; simp [h]
theorem rSubs (s : List UInt8) (hs : s.length ≤ 1000000) : Ret P (C ml) 311 [.s s] (.s (s.map sb)) := by
  refine hR Tryz.func311 ?_
  refine gR [] rfl ?_
  refine g_loop (fun i : Nat => [(0, .s s), (3, .s ((s.take i).map sb)), (4, .i .i64 i)]) (fun _ => []) (fun i => i ≤ s.length) (fun i => s.length - i) 0 ⟨⟨rfl, rfl, rfl, trivial⟩, trivial, trivial⟩ (by omega) ?_
  intro i hi
  by_cases h : i < s.length
  · have c1 : decide ((i : Int) < (s.length : Int)) = true := decide_eq_true (by omega)
    have q1 : (i : Int) < (s.length : Int) := by omega
    have k1 : Ret P (C ml) 335 [.i .u8 (bt s (i : Int))] (.i .u8 (bi (sb (s.getD i 0)))) := rSub (s.getD i 0)
    have et := map_take sb s i h
    have hl : ((s.take i).map sb).length = i := by simp; omega
    generalize sb (s.getD i 0) = z at *
    have hbz : List.take (1 * szOf (tsz (C ml) 5)) (List.drop 0 [T.i .u8 (bi z)]) = bytesT [z] := rfl
    have q4 : ((s.take i).map sb).length + [z].length ≤ 9223372036854775807 := by simp only [List.length_cons, List.length_nil]; omega
    generalize ho1 : (s.take (i + 1)).map sb = o1 at *
    generalize (s.take i).map sb = o0 at *
    refine gF [.t, cc k1, ldb hbz] rfl (rd_next (i + 1) (by omega) (by omega) ⟨rfl, ?_, ?_, trivial⟩ trivial trivial)
    · exact congrArg T.s (by rw [ho1, et])
    · exact congrArg (T.i .i64) (by rw [w64 (by omega) (by omega)]; simp)
  · obtain rfl : i = s.length := by omega
    have c1 : decide ((s.length : Int) < (s.length : Int)) = false := decide_eq_false (by omega)
    rw [List.take_of_length_le (Nat.le_refl _)]
    refine gF [.f] rfl (rd_exit rfl ?_)
    refine gF [] rfl (ret_of rfl ?_ trivial trivial)
    exact rfl
theorem rBacks (s : List UInt8) (hs : s.length ≤ 1000000) : Ret P (C ml) 317 [.s s] (.s (s.map bk)) := by
  refine hR Tryz.func317 ?_
  refine gR [] rfl ?_
  refine g_loop (fun i : Nat => [(0, .s s), (3, .s ((s.take i).map bk)), (4, .i .i64 i)]) (fun _ => []) (fun i => i ≤ s.length) (fun i => s.length - i) 0 ⟨⟨rfl, rfl, rfl, trivial⟩, trivial, trivial⟩ (by omega) ?_
  intro i hi
  by_cases h : i < s.length
  · have c1 : decide ((i : Int) < (s.length : Int)) = true := decide_eq_true (by omega)
    have q1 : (i : Int) < (s.length : Int) := by omega
    have k1 : Ret P (C ml) 339 [.i .u8 (bt s (i : Int))] (.i .u8 (bi (bk (s.getD i 0)))) := rBack (s.getD i 0)
    have et := map_take bk s i h
    have hl : ((s.take i).map bk).length = i := by simp; omega
    generalize bk (s.getD i 0) = z at *
    have hbz : List.take (1 * szOf (tsz (C ml) 5)) (List.drop 0 [T.i .u8 (bi z)]) = bytesT [z] := rfl
    have q4 : ((s.take i).map bk).length + [z].length ≤ 9223372036854775807 := by simp only [List.length_cons, List.length_nil]; omega
    generalize ho1 : (s.take (i + 1)).map bk = o1 at *
    generalize (s.take i).map bk = o0 at *
    refine gF [.t, cc k1, ldb hbz] rfl (rd_next (i + 1) (by omega) (by omega) ⟨rfl, ?_, ?_, trivial⟩ trivial trivial)
    · exact congrArg T.s (by rw [ho1, et])
    · exact congrArg (T.i .i64) (by rw [w64 (by omega) (by omega)]; simp)
  · obtain rfl : i = s.length := by omega
    have c1 : decide ((s.length : Int) < (s.length : Int)) = false := decide_eq_false (by omega)
    rw [List.take_of_length_le (Nat.le_refl _)]
    refine gF [.f] rfl (rd_exit rfl ?_)
    refine gF [] rfl (ret_of rfl ?_ trivial trivial)
    exact rfl
end Go.Proofs.YtipomdmlkkifcaaGreatDoor.Vm
/- Contracts: clavigerref07: Shift, Unshift, Mix, Unmix, Key, Do, Undo. -/
set_option maxRecDepth 100000
namespace Go.Proofs.YtipomdmlkkifcaaGreatDoor.Vm
open Go Go.Proofs Go.RowKit
variable {ml : Int}
theorem rFits (s : List UInt8) (h : s.length = 16) : Ret P (C ml) 313 [.s s] (.b true) := by
  have c1 : ((s.length : Int) == 16) = true := by simp; omega
  refine hR Tryz.func313 ?_
  refine gF [] rfl (ret_of rfl ?_ trivial trivial)
  exact .inl (congrArg T.b c1)
/-- The 16 bytes moved: row 'r' by 'n r' places. -/
def mvL (n : Nat) (s : List UInt8) : List UInt8 := (List.range 16).map fun i => s.getD (4 * ((i / 4 + n * (i % 4)) % 4) + i % 4) 0
theorem take_one {f : Nat → UInt8} (i : Nat) (h : i < 16) : ((List.range 16).map f).take (i + 1) = ((List.range 16).map f).take i ++ [f i] := by
  rw [List.take_succ_eq_append_getElem (by simpa using h)]; simp
theorem cut_one (s : List UInt8) (j : Nat) (h : j < s.length) : (s.take (j + 1)).drop j = [s.getD j 0] := by
  rw [List.take_succ_eq_append_getElem h, List.drop_append_of_le_length (by rw [List.length_take]; omega), List.drop_of_length_le (by rw [List.length_take]; omega)]
  simp [h]
theorem rMoved (n : Nat) (s : List UInt8) (hn : n ≤ 3) (hs : s.length = 16) : Ret P (C ml) 337 [.s s, .i .i64 n] (.s (mvL n s)) := by
  have k1 := rFits (ml := ml) s hs
  refine hR Tryz.func337 ?_
  refine gR [cc k1, .f] rfl ?_
  refine g_loop (fun c : Nat => [(0, .s s), (1, .i .i64 n), (5, .s ((mvL n s).take (4 * c))), (6, .i .i64 c)]) (fun _ => []) (fun c => c ≤ 4) (fun c => 4 - c) 0 ⟨⟨rfl, rfl, rfl, rfl, trivial⟩, trivial, trivial⟩ (by omega) ?_
  intro c hc
  clear k1
  by_cases hc4 : c < 4
  · have c1 : decide ((c : Int) < 4) = true := decide_eq_true (by omega)
    refine gR [.t] rfl ?_
    refine g_loop (fun r : Nat => [(0, .s s), (1, .i .i64 n), (5, .s ((mvL n s).take (4 * c + r))), (6, .i .i64 c), (7, .i .i64 r)]) (fun _ => []) (fun r => r ≤ 4) (fun r => 4 - r) 0 ⟨⟨rfl, rfl, rfl, rfl, rfl, trivial⟩, trivial, trivial⟩ (by omega) ?_
    intro r hr
    by_cases hr4 : r < 4
    · have c2 : decide ((r : Int) < 4) = true := decide_eq_true (by omega)
      have hnr : n * r ≤ 3 * 3 := Nat.mul_le_mul hn (by omega)
      have e0 : (n : Int) * (r : Int) = ((n * r : Nat) : Int) := by push_cast; rfl
      have e : IntKind.i64.wrap (IntKind.i64.wrap (4 * (IntKind.i64.wrap ((c : Int) + IntKind.i64.wrap ((n : Int) * (r : Int)))).tmod 4) + (r : Int)) = ((4 * ((c + n * r) % 4) + r : Nat) : Int) := by
        rw [e0, w64 (x := ((n * r : Nat) : Int)) (by omega) (by omega), w64 (x := (c : Int) + ((n * r : Nat) : Int)) (by omega) (by omega), Int.tmod_eq_emod_of_nonneg (by omega), w64 (x := 4 * (((c : Int) + ((n * r : Nat) : Int)) % 4)) (by omega) (by omega), w64 (by omega) (by omega)]
        omega
      obtain ⟨j, hj⟩ : ∃ j, 4 * ((c + n * r) % 4) + r = j := ⟨_, rfl⟩
      rw [hj] at e
      have hjl : j < 16 := by omega
      have q1 : 0 ≤ IntKind.i64.wrap (IntKind.i64.wrap (4 * (IntKind.i64.wrap ((c : Int) + IntKind.i64.wrap ((n : Int) * (r : Int)))).tmod 4) + (r : Int)) := by rw [e]; omega
      have q2 : IntKind.i64.wrap (IntKind.i64.wrap (4 * (IntKind.i64.wrap ((c : Int) + IntKind.i64.wrap ((n : Int) * (r : Int)))).tmod 4) + (r : Int)) ≤ IntKind.i64.wrap (IntKind.i64.wrap (IntKind.i64.wrap (4 * (IntKind.i64.wrap ((c : Int) + IntKind.i64.wrap ((n : Int) * (r : Int)))).tmod 4) + (r : Int)) + 1) := by rw [e, w64 (by omega) (by omega)]; omega
      have q3 : IntKind.i64.wrap (IntKind.i64.wrap (IntKind.i64.wrap (4 * (IntKind.i64.wrap ((c : Int) + IntKind.i64.wrap ((n : Int) * (r : Int)))).tmod 4) + (r : Int)) + 1) ≤ (s.length : Int) := by rw [e, w64 (by omega) (by omega)]; omega
      have es : (s.take (IntKind.i64.wrap (IntKind.i64.wrap (IntKind.i64.wrap (4 * (IntKind.i64.wrap ((c : Int) + IntKind.i64.wrap ((n : Int) * (r : Int)))).tmod 4) + (r : Int)) + 1)).toNat).drop (IntKind.i64.wrap (IntKind.i64.wrap (4 * (IntKind.i64.wrap ((c : Int) + IntKind.i64.wrap ((n : Int) * (r : Int)))).tmod 4) + (r : Int))).toNat = [s.getD j 0] := by
        rw [e, w64 (by omega) (by omega), show ((j : Int) + 1).toNat = j + 1 by omega, show ((j : Int)).toNat = j by omega]
        exact cut_one s j (by omega)
      have q4 : ((mvL n s).take (4 * c + r)).length + ((s.take (IntKind.i64.wrap (IntKind.i64.wrap (IntKind.i64.wrap (4 * (IntKind.i64.wrap ((c : Int) + IntKind.i64.wrap ((n : Int) * (r : Int)))).tmod 4) + (r : Int)) + 1)).toNat).drop (IntKind.i64.wrap (IntKind.i64.wrap (4 * (IntKind.i64.wrap ((c : Int) + IntKind.i64.wrap ((n : Int) * (r : Int)))).tmod 4) + (r : Int))).toNat).length ≤ 9223372036854775807 := by rw [es, List.length_take]; simp; omega
      have et : (mvL n s).take (4 * c + (r + 1)) = (mvL n s).take (4 * c + r) ++ [s.getD j 0] := by
        unfold mvL
        rw [← Nat.add_assoc, take_one _ (by omega), ← hj, show (4 * c + r) / 4 = c by omega, show (4 * c + r) % 4 = r by omega]
      clear e e0
      generalize ho1 : (mvL n s).take (4 * c + (r + 1)) = o1 at *
      generalize (mvL n s).take (4 * c + r) = o0 at *
      refine gF [.t] rfl (rd_next (r + 1) (by omega) (by omega) ⟨rfl, rfl, ?_, rfl, ?_, trivial⟩ trivial trivial)
      · exact congrArg T.s (by rw [es, ho1, et])
      · exact congrArg (T.i .i64) (by rw [w64 (by omega) (by omega)]; simp)
    · obtain rfl : r = 4 := by omega
      have c2 : decide (((4 : Nat) : Int) < 4) = false := rfl
      rw [show 4 * c + 4 = 4 * (c + 1) by omega]
      generalize hx : (mvL n s).take (4 * (c + 1)) = o at *
      refine gF [.f] rfl (rd_exit rfl ?_)
      refine gF [] rfl (rd_next (c + 1) (by omega) (by omega) ⟨rfl, rfl, ?_, ?_, trivial⟩ trivial trivial)
      · exact congrArg T.s hx.symm
      · exact congrArg (T.i .i64) (by rw [w64 (by omega) (by omega)]; simp)
  · obtain rfl : c = 4 := by omega
    have c1 : decide (((4 : Nat) : Int) < 4) = false := rfl
    rw [List.take_of_length_le (show (mvL n s).length ≤ 4 * 4 by simp [mvL])]
    refine gF [.f] rfl (rd_exit rfl ?_)
    refine gF [] rfl (ret_of rfl ?_ trivial trivial)
    exact rfl
theorem rShift (s : List UInt8) (hs : s.length = 16) : Ret P (C ml) 314 [.s s] (.s (shL s)) := by
  have k1 : Ret P (C ml) 337 [.s s, .i .i64 1] (.s (shL s)) := rMoved (ml := ml) 1 s (by omega) hs
  generalize shL s = o at *
  refine hR Tryz.func314 ?_
  refine gF [cc k1] rfl (ret_of rfl ?_ trivial trivial)
  exact rfl
theorem rUnshift (s : List UInt8) (hs : s.length = 16) : Ret P (C ml) 318 [.s s] (.s (ushL s)) := by
  have k1 : Ret P (C ml) 337 [.s s, .i .i64 3] (.s (ushL s)) := rMoved (ml := ml) 3 s (by omega) hs
  generalize ushL s = o at *
  refine hR Tryz.func318 ?_
  refine gF [cc k1] rfl (ret_of rfl ?_ trivial trivial)
  exact rfl
/-- A byte of a mixed column: so many of its four products. -/
def mxB (m s : List UInt8) (c i : Nat) : Nat → UInt8
  | 0 => 0
  | k + 1 => mxB m s c i k ^^^ gMulR (m.getD k 0) (s.getD (4 * c + (i + k) % 4) 0)
def mxL (m s : List UInt8) : List UInt8 := (List.range 16).map fun j => mxB m s (j / 4) (j % 4) 4
theorem rMixed (m s : List UInt8) (hm : m.length = 4) (hs : s.length = 16) : Ret P (C ml) 338 [.s s, .s m] (.s (mxL m s)) := by
  have k1 := rFits (ml := ml) s hs
  refine hR Tryz.func338 ?_
  refine gR [cc k1, .f] rfl ?_
  refine g_loop (fun c : Nat => [(0, .s s), (1, .s m), (5, .s ((mxL m s).take (4 * c))), (6, .i .i64 c)]) (fun _ => []) (fun c => c ≤ 4) (fun c => 4 - c) 0 ⟨⟨rfl, rfl, rfl, rfl, trivial⟩, trivial, trivial⟩ (by omega) ?_
  intro c hc
  clear k1
  by_cases hc4 : c < 4
  · have c1 : decide ((c : Int) < 4) = true := decide_eq_true (by omega)
    refine gR [.t] rfl ?_
    refine g_loop (fun i : Nat => [(0, .s s), (1, .s m), (5, .s ((mxL m s).take (4 * c + i))), (6, .i .i64 c), (7, .i .i64 i)]) (fun _ => []) (fun i => i ≤ 4) (fun i => 4 - i) 0 ⟨⟨rfl, rfl, rfl, rfl, rfl, trivial⟩, trivial, trivial⟩ (by omega) ?_
    intro i hi
    by_cases hi4 : i < 4
    · have c2 : decide ((i : Int) < 4) = true := decide_eq_true (by omega)
      refine gR [.t] rfl ?_
      refine g_loop (fun k : Nat => [(0, .s s), (1, .s m), (5, .s ((mxL m s).take (4 * c + i))), (6, .i .i64 c), (7, .i .i64 i), (8, .i .u8 (bi (mxB m s c i k))), (9, .i .i64 k)]) (fun _ => []) (fun k => k ≤ 4) (fun k => 4 - k) 0 ⟨⟨rfl, rfl, rfl, rfl, rfl, rfl, rfl, trivial⟩, trivial, trivial⟩ (by omega) ?_
      intro k hk
      by_cases hk4 : k < 4
      · have c3 : decide ((k : Int) < 4) = true := decide_eq_true (by omega)
        have e : IntKind.i64.wrap (IntKind.i64.wrap (4 * (c : Int)) + (IntKind.i64.wrap ((i : Int) + (k : Int))).tmod 4) = ((4 * c + (i + k) % 4 : Nat) : Int) := by
          rw [w64 (x := 4 * (c : Int)) (by omega) (by omega), w64 (x := (i : Int) + (k : Int)) (by omega) (by omega), Int.tmod_eq_emod_of_nonneg (by omega), w64 (by omega) (by omega)]
          omega
        have q1 : 0 ≤ IntKind.i64.wrap (IntKind.i64.wrap (4 * (c : Int)) + (IntKind.i64.wrap ((i : Int) + (k : Int))).tmod 4) := by rw [e]; omega
        have q2 : IntKind.i64.wrap (IntKind.i64.wrap (4 * (c : Int)) + (IntKind.i64.wrap ((i : Int) + (k : Int))).tmod 4) < (s.length : Int) := by rw [e]; omega
        have q3 : (k : Int) < (m.length : Int) := by omega
        have k1 := rMul (ml := ml) (m.getD k 0) (s.getD (4 * c + (i + k) % 4) 0)
        have b1 : bt m (k : Int) = bi (m.getD k 0) := rfl
        have b2 : bt s (IntKind.i64.wrap (IntKind.i64.wrap (4 * (c : Int)) + (IntKind.i64.wrap ((i : Int) + (k : Int))).tmod 4)) = bi (s.getD (4 * c + (i + k) % 4) 0) := by rw [e]; rfl
        rw [← b1, ← b2] at k1
        have et : mxB m s c i (k + 1) = mxB m s c i k ^^^ gMulR (m.getD k 0) (s.getD (4 * c + (i + k) % 4) 0) := rfl
        clear e b1 b2
        generalize gMulR (m.getD k 0) (s.getD (4 * c + (i + k) % 4) 0) = z at *
        generalize hx1 : mxB m s c i (k + 1) = x1 at *
        generalize mxB m s c i k = x0 at *
        refine gF [.t, cc k1] rfl (rd_next (k + 1) (by omega) (by omega) ⟨rfl, rfl, rfl, rfl, rfl, ?_, ?_, trivial⟩ trivial trivial)
        · exact congrArg (T.i .u8) (by rw [b_xor, hx1, et])
        · exact congrArg (T.i .i64) (by rw [w64 (by omega) (by omega)]; simp)
      · obtain rfl : k = 4 := by omega
        have c3 : decide (((4 : Nat) : Int) < 4) = false := rfl
        have et : (mxL m s).take (4 * c + (i + 1)) = (mxL m s).take (4 * c + i) ++ [mxB m s c i 4] := by
          unfold mxL
          rw [← Nat.add_assoc, take_one _ (by omega), show (4 * c + i) / 4 = c by omega, show (4 * c + i) % 4 = i by omega]
        have hl : ((mxL m s).take (4 * c + i)).length ≤ 16 := by rw [List.length_take]; omega
        generalize mxB m s c i 4 = z at *
        have hbz : List.take (1 * szOf (tsz (C ml) 5)) (List.drop 0 [T.i .u8 (bi z)]) = bytesT [z] := rfl
        have q4 : ((mxL m s).take (4 * c + i)).length + [z].length ≤ 9223372036854775807 := by simp only [List.length_cons, List.length_nil]; omega
        generalize ho1 : (mxL m s).take (4 * c + (i + 1)) = o1 at *
        generalize (mxL m s).take (4 * c + i) = o0 at *
        refine gF [.f] rfl (rd_exit rfl ?_)
        refine gF [ldb hbz] rfl (rd_next (i + 1) (by omega) (by omega) ⟨rfl, rfl, ?_, rfl, ?_, trivial⟩ trivial trivial)
        · exact congrArg T.s (by rw [ho1, et])
        · exact congrArg (T.i .i64) (by rw [w64 (by omega) (by omega)]; simp)
    · obtain rfl : i = 4 := by omega
      have c2 : decide (((4 : Nat) : Int) < 4) = false := rfl
      rw [show 4 * c + 4 = 4 * (c + 1) by omega]
      generalize hx : (mxL m s).take (4 * (c + 1)) = o at *
      refine gF [.f] rfl (rd_exit rfl ?_)
      refine gF [] rfl (rd_next (c + 1) (by omega) (by omega) ⟨rfl, rfl, ?_, ?_, trivial⟩ trivial trivial)
      · exact congrArg T.s hx.symm
      · exact congrArg (T.i .i64) (by rw [w64 (by omega) (by omega)]; simp)
  · obtain rfl : c = 4 := by omega
    have c1 : decide (((4 : Nat) : Int) < 4) = false := rfl
    rw [List.take_of_length_le (show (mxL m s).length ≤ 4 * 4 by simp [mxL])]
    refine gF [.f] rfl (rd_exit rfl ?_)
    refine gF [] rfl (ret_of rfl ?_ trivial trivial)
    exact rfl
theorem mulK (x : UInt8) : gMulR 1 x = x ∧ gMulR 2 x = gTw x ∧ gMulR 3 x = g3 x ∧ gMulR 9 x = g9 x ∧ gMulR 11 x = g11 x ∧ gMulR 13 x = g13 x ∧ gMulR 14 x = g14 x :=
  ⟨oneB (f := gMulR 1) (g := fun x => x) (by decide +kernel) x, oneB (f := gMulR 2) (by decide +kernel) x, oneB (f := gMulR 3) (by decide +kernel) x, oneB (f := gMulR 9) (by decide +kernel) x, oneB (f := gMulR 11) (by decide +kernel) x,
    oneB (f := gMulR 13) (by decide +kernel) x, oneB (f := gMulR 14) (by decide +kernel) x⟩
theorem mx_at (p q u v : UInt8) (s : List UInt8) (j : Nat) : mxB [p, q, u, v] s (j / 4) (j % 4) 4 = gMulR p (s.getD (j / 4 * 4 + j % 4) 0) ^^^ gMulR q (s.getD (j / 4 * 4 + (j + 1) % 4) 0) ^^^ gMulR u (s.getD (j / 4 * 4 + (j + 2) % 4) 0) ^^^ gMulR v (s.getD (j / 4 * 4 + (j + 3) % 4) 0) := by
  simp only [mxB, List.getD_cons_zero, List.getD_cons_succ, UInt8.zero_xor]
  rw [show 4 * (j / 4) + (j % 4 + 0) % 4 = j / 4 * 4 + j % 4 by omega, show 4 * (j / 4) + (j % 4 + 1) % 4 = j / 4 * 4 + (j + 1) % 4 by omega, show 4 * (j / 4) + (j % 4 + 2) % 4 = j / 4 * 4 + (j + 2) % 4 by omega, show 4 * (j / 4) + (j % 4 + 3) % 4 = j / 4 * 4 + (j + 3) % 4 by omega]
theorem mx_mix (s : List UInt8) : mxL [2, 3, 1, 1] s = mixL s := by
  unfold mxL mixL mix4
  refine List.map_congr_left fun j _ => ?_
  rw [mx_at, (mulK _).2.1, (mulK _).2.2.1, (mulK _).1, (mulK _).1]; rfl
theorem mx_unmix (s : List UInt8) : mxL [14, 11, 13, 9] s = unmixL s := by
  unfold mxL unmixL mix4
  refine List.map_congr_left fun j _ => ?_
  rw [mx_at, (mulK _).2.2.2.2.2.2, (mulK _).2.2.2.2.1, (mulK _).2.2.2.2.2.1, (mulK _).2.2.2.1]
theorem rMix (s : List UInt8) (hs : s.length = 16) : Ret P (C ml) 315 [.s s] (.s (mixL s)) := by
  have k1 := rMixed (ml := ml) [2, 3, 1, 1] s rfl hs
  rw [mx_mix] at k1
  generalize mixL s = o at *
  refine hR Tryz.func315 ?_
  refine gF [cc k1] rfl (ret_of rfl ?_ trivial trivial)
  exact rfl
theorem rUnmix (s : List UInt8) (hs : s.length = 16) : Ret P (C ml) 316 [.s s] (.s (unmixL s)) := by
  have k1 := rMixed (ml := ml) [14, 11, 13, 9] s rfl hs
  rw [mx_unmix] at k1
  generalize unmixL s = o at *
  refine hR Tryz.func316 ?_
  refine gF [cc k1] rfl (ret_of rfl ?_ trivial trivial)
  exact rfl
theorem rKey7 (s k : List UInt8) (hs : s.length = 16) (hk : k.length = 16) : Ret P (C ml) 275 [.s s, .s k] (.s (xorL s k)) := by
  have k1 := rFits (ml := ml) s hs
  have k2 := rFits (ml := ml) k hk
  have k3 := rXor (ml := ml) s k (by omega) (by omega)
  generalize xorL s k = o at *
  refine hR Tryz.func275 ?_
  refine gF [cc k1, .f, cc k2, .f, cc k3] rfl (ret_of rfl ?_ trivial trivial)
  exact rfl
theorem rDo (s k : List UInt8) (last : Bool) (hs : s.length = 16) (hk : k.length = 16) : Ret P (C ml) 276 [.s s, .s k, .b last] (.s (doL s k last)) := by
  have k1 := rFits (ml := ml) s hs
  have k2 := rFits (ml := ml) k hk
  have k3 := rSubs (ml := ml) s (by omega)
  have k4 := rShift (ml := ml) (s.map sb) (by simpa using hs)
  have hl := shL_length (s.map sb)
  have k5 := rMix (ml := ml) (shL (s.map sb)) hl
  unfold doL
  cases last with
  | true =>
    have k6 := rKey7 (ml := ml) (shL (s.map sb)) k hl hk
    simp only [if_true]
    generalize xorL (shL (s.map sb)) k = o at *
    generalize shL (s.map sb) = x at *
    generalize s.map sb = y at *
    refine hR Tryz.func276 ?_
    refine gF [cc k1, .f, cc k2, .f, cc k3, cc k4, .f, cc k6] rfl (ret_of rfl ?_ trivial trivial)
    exact rfl
  | false =>
    have k6 := rKey7 (ml := ml) (mixL (shL (s.map sb))) k (mixL_length _) hk
    simp only [Bool.false_eq_true, if_false]
    generalize xorL (mixL (shL (s.map sb))) k = o at *
    generalize mixL (shL (s.map sb)) = z at *
    generalize shL (s.map sb) = x at *
    generalize s.map sb = y at *
    refine hR Tryz.func276 ?_
    refine gF [cc k1, .f, cc k2, .f, cc k3, cc k4, .t, cc k5, cc k6] rfl (ret_of rfl ?_ trivial trivial)
    exact rfl
theorem rUndo (s k : List UInt8) (last : Bool) (hs : s.length = 16) (hk : k.length = 16) : Ret P (C ml) 279 [.s s, .s k, .b last] (.s (undoL s k last)) := by
  have k1 := rFits (ml := ml) s hs
  have k2 := rFits (ml := ml) k hk
  have k3 := rKey7 (ml := ml) s k hs hk
  have hl : (xorL s k).length = 16 := by rw [xorL_length]; omega
  have k4 := rUnmix (ml := ml) (xorL s k) hl
  unfold undoL
  cases last with
  | true =>
    have k5 := rUnshift (ml := ml) (xorL s k) hl
    have k6 := rBacks (ml := ml) (ushL (xorL s k)) (by rw [ushL_length]; omega)
    simp only [if_true]
    generalize (ushL (xorL s k)).map bk = o at *
    generalize ushL (xorL s k) = z at *
    generalize xorL s k = x at *
    refine hR Tryz.func279 ?_
    refine gF [cc k1, .f, cc k2, .f, cc k3, .f, cc k5, cc k6] rfl (ret_of rfl ?_ trivial trivial)
    exact rfl
  | false =>
    have k5 := rUnshift (ml := ml) (unmixL (xorL s k)) (unmixL_length _)
    have k6 := rBacks (ml := ml) (ushL (unmixL (xorL s k))) (by rw [ushL_length]; omega)
    simp only [Bool.false_eq_true, if_false]
    generalize (ushL (unmixL (xorL s k))).map bk = o at *
    generalize ushL (unmixL (xorL s k)) = z at *
    generalize unmixL (xorL s k) = y at *
    generalize xorL s k = x at *
    refine hR Tryz.func279 ?_
    refine gF [cc k1, .f, cc k2, .f, cc k3, .t, cc k4, cc k5, cc k6] rfl (ret_of rfl ?_ trivial trivial)
    exact rfl
end Go.Proofs.YtipomdmlkkifcaaGreatDoor.Vm
