/- Texts of one proof, gathered: Oct2 Pieces Sched Sched2 Sched3 AesN CbcP CbcD. -/
import Derived.Test.YtipomdmlkkifcaaGreatDoorPart20
import Derived.Test.YtipomdmlkkifcaaGreatDoorPart13
import Derived.Test.YtipomdmlkkifcaaGreatDoorPart19
set_option linter.unusedSimpArgs false
set_option linter.unusedVariables false
set_option linter.unnecessarySimpa false
/- Contracts: octets.Zeros, Xor, Pad, Pieces; clavigerref01.Zeros, Xor, Pad. -/
set_option maxRecDepth 100000
namespace Go.Proofs.YtipomdmlkkifcaaGreatDoor.Vm
open Go Go.Proofs Go.RowKit
variable {ml : Int}
def zeroL (n : Nat) : List UInt8 := List.replicate n 0
theorem zeros_b (n : Nat) : zeros n (tin (C ml) 5).zero = bytesT (zeroL n) := by
  show List.replicate n (T.i .u8 0) = _
  simp [zeroL, bytesT]
theorem minI_nat (x y : Nat) : (minI (x : Int) (y : Int)) = ((min x y : Nat) : Int) := by
  unfold minI; split <;> omega
theorem oZeros (n : Nat) (h0 : 1 ≤ n) (h1 : n ≤ 65552) : Ret P (C ml) 153 [.i .i64 n] (.s (zeroL n)) := by
  refine hR Tryz.func153 ?_
  have c1 : decide ((n : Int) < 1) = false := decide_eq_false (by omega)
  have c2 : decide ((n : Int) > 65552) = false := decide_eq_false (by omega)
  have q3 : (n : Int) * (tin (C ml) 5).bytes ≤ 281474976710656 := by rw [show (tin (C ml) 5).bytes = 1 from rfl]; omega
  have hb : List.take (((n : Int)).toNat * szOf (tsz (C ml) 5)) (List.drop 0 (zeros ((n : Int)).toNat (tin (C ml) 5).zero)) = bytesT (zeroL n) := by
    rw [show ((n : Int)).toNat = n by omega, zeros_b]
    exact List.take_of_length_le (by rw [List.drop_zero, bytesT_length, zeroL, List.length_replicate]; exact Nat.le_of_eq (Nat.mul_one n).symm)
  have hl : (zeroL n).length = ((n : Int)).toNat := by rw [zeroL, List.length_replicate]; omega
  refine gF [.f, .f, ldb hb] rfl (ret_of rfl ?_ trivial trivial)
  rfl
theorem oXor (a b : List UInt8) (ha : a.length ≤ 1000000) (hb : b.length ≤ 1000000) : Ret P (C ml) 155 [.s a, .s b] (.s (xorL a b)) := by
  refine hR Tryz.func155 ?_
  have hm := minI_nat a.length b.length
  have hz : (tin (C ml) 5).size = 1 := rfl
  generalize hM : min a.length b.length = m at *
  have m0 : 0 ≤ minI (a.length : Int) b.length := by rw [hm]; omega
  have m1 : (minI (a.length : Int) b.length).toNat = m := by rw [hm]; omega
  have q3 : minI (a.length : Int) b.length * (tin (C ml) 5).bytes ≤ 281474976710656 := by rw [show (tin (C ml) 5).bytes = 1 from rfl, hm]; omega
  have q4 : (a.take m).length = m := by rw [List.length_take]; omega
  have q5 : xorL a b = xorL (a.take m) b := by
    unfold xorL; apply List.ext_getElem
    · simp; omega
    · intro i h1 h2; simp
  have q6 : plainL (bytesT a) = true := bytesT_plain a
  have q7 : a.length = (bytesT a).length := (bytesT_length a).symm
  have q8 : 0 + (minI (a.length : Int) b.length).toNat ≤ (zeros (minI (a.length : Int) b.length).toNat (tin (C ml) 5).zero).length := by rw [zeros_b, m1, bytesT_length, zeroL, List.length_replicate]; omega
  have q9 : minI (a.length : Int) b.length ≤ 4611686018427387904 := by rw [hm]; omega
  refine gR [] rfl ?_
  refine g_loop (fun i : Nat => [(1, .s b), (5, .ref 12 0 0 m), (17, .i .i64 m), (18, .i .i64 i)]) (fun i => [(12, 0, .row true (.row 1 5) (bytesT (addM (a.take m) b i)))]) (fun i => i ≤ m) (fun i => m - i) 0 ⟨⟨rfl, ⟨rfl, rfl, ?_, rfl, rfl⟩, ?_, rfl, trivial⟩, ⟨⟨rfl, ?_, trivial⟩, trivial⟩, trivial⟩ (by omega) ?_
  · exact m1
  · show T.i _ _ = T.i _ _
    rw [m1]
  · rw [m1, zeros_b]
    have e : a.length.min m = m := by show min a.length m = m; omega
    show List.take 0 _ ++ List.take (a.length.min m) (bytesT a) ++ List.drop (0 + a.length.min m) _ = bytesT (addM (a.take m) b 0)
    rw [e, List.drop_of_length_le (by rw [bytesT_length, zeroL, List.length_replicate]; omega)]
    simp [addM, xorL, bytesT, List.map_take]
  clear m0 m1 hm q3 q7 q8 q9
  intro i hi
  by_cases h : i < m
  · obtain ⟨a1, a2⟩ := addM_at i (a.take m) b (by omega) (by omega)
    have hl : (addM (a.take m) b i).length = m := by unfold addM; rw [List.length_append, xorL_length, List.length_take, List.length_drop]; omega
    have h1 : (bytesT (addM (a.take m) b i))[0 + ((i : Int)).toNat * (tin (C ml) 5).size]? = some (.i .u8 (bi ((a.take m).getD i 0))) := by
      rw [show 0 + ((i : Int)).toNat * (tin (C ml) 5).size = i by rw [hz]; omega]; exact bytesT_get _ _ _ a1
    have q1 : 0 + ((i : Int)).toNat * (tin (C ml) 5).size + (tin (C ml) 5).size ≤ (bytesT (addM (a.take m) b i)).length := by rw [hz, bytesT_length]; omega
    have q2 : (i : Int) < (b.length : Int) := by omega
    refine gF [.t, ld1 h1] rfl (rd_next (i + 1) (by omega) (by omega) ⟨rfl, ⟨rfl, rfl, rfl, rfl, rfl⟩, rfl, ?_, trivial⟩ ⟨⟨rfl, ?_, trivial⟩, trivial⟩ trivial)
    · show T.i _ _ = T.i _ _
      rw [w64 (by omega) (by omega)]; simp
    · show (bytesT (addM (a.take m) b i)).set _ (.i .u8 (bitsI .xor .u8 (bi ((a.take m).getD i 0)) (bt b i))) = bytesT (addM (a.take m) b (i + 1))
      rw [bt_bi, b_xor, bytesT_set, ← a2, show 0 + ((i : Int)).toNat * (tin (C ml) 5).size = i by rw [hz]; omega]
  · have e : i = m := by omega
    subst e
    have e1 : addM (a.take i) b i = xorL a b := by unfold addM; rw [q5, List.take_of_length_le (by omega), List.drop_of_length_le (by omega), List.append_nil]
    rw [e1]
    have hx : (xorL a b).length = i := by rw [xorL_length]; exact hM
    generalize xorL a b = w at *
    have hb2 : List.take (i * szOf (.row 1 5)) (List.drop 0 (bytesT w)) = bytesT w := List.take_of_length_le (by rw [List.drop_zero, bytesT_length, hx]; exact Nat.le_of_eq (Nat.mul_one i).symm)
    refine gF [.f] rfl (rd_exit rfl ?_)
    refine gF [ldb hb2] rfl (ret_of rfl ?_ trivial trivial)
    rfl
end Go.Proofs.YtipomdmlkkifcaaGreatDoor.Vm
/- Contracts: octets.Pad, Pieces. -/
set_option maxRecDepth 100000
namespace Go.Proofs.YtipomdmlkkifcaaGreatDoor.Vm
open Go Go.Proofs Go.RowKit
variable {ml : Int}
theorem oZerosA (n : Nat) (h1 : n ≤ 65552) : Ret P (C ml) 153 [.i .i64 n] (.s (zeroL n)) := by
  by_cases h0 : 1 ≤ n
  · exact oZeros n h0 h1
  · obtain rfl : n = 0 := by omega
    refine hR Tryz.func153 ?_
    refine gF [.t] rfl (ret_of rfl ?_ trivial trivial)
    rfl
theorem oPad16 (s : List UInt8) (hs : s.length ≤ 1000000) : Ret P (C ml) 226 [.s s, .i .i64 16] (.s (s ++ zeroL ((16 - s.length % 16) % 16))) := by
  have k1 := oZerosA (ml := ml) ((16 - s.length % 16) % 16) (by omega)
  have e0 : ((s.length : Int)).tmod 16 = ((s.length % 16 : Nat) : Int) := by rw [Int.tmod_eq_emod_of_nonneg (by omega)]; omega
  have e1 : (IntKind.i64.wrap (16 - ((s.length : Int)).tmod 16)).tmod 16 = (((16 - s.length % 16) % 16 : Nat) : Int) := by
    rw [e0, w64 (by omega) (by omega), Int.tmod_eq_emod_of_nonneg (by omega)]; omega
  rw [← e1] at k1
  have hl : (zeroL ((16 - s.length % 16) % 16)).length ≤ 16 := by rw [zeroL, List.length_replicate]; omega
  clear e0 e1
  generalize zeroL ((16 - s.length % 16) % 16) = z at *
  refine hR Tryz.func226 ?_
  refine gF [.f, .f, cc k1] rfl (ret_of rfl ?_ trivial trivial)
  rfl
/-- A text in pieces: the first so many. -/
def pT (n : Nat) (s : List UInt8) (i : Nat) : List (List UInt8) := (List.range i).map fun j => (s.drop (n * j)).take n
def piecesL (n : Nat) (s : List UInt8) : List (List UInt8) := pT n s ((s.length + n - 1) / n)
theorem pT_succ (n : Nat) (s : List UInt8) (i : Nat) : pT n s (i + 1) = pT n s i ++ [(s.drop (n * i)).take n] := by
  unfold pT; rw [List.range_succ, List.map_append]; rfl
theorem pT_length (n : Nat) (s : List UInt8) (i : Nat) : (pT n s i).length = i := by simp [pT]
theorem oPieces (n : Nat) (s : List UInt8) (hn : 1 ≤ n) (hn2 : n ≤ 16) (h0 : 1 ≤ s.length) (hs : s.length ≤ 100000) : HRet P (C ml) 151 [.s s, .i .i64 n] [] (.ref 17 0 0 ((s.length + n - 1) / n)) [(17, 0, .row true (.row 1 9) ((piecesL n s).map .s))] := by
  have c1 : decide ((n : Int) < 1) = false := decide_eq_false (by omega)
  have c2 : (s == []) = false := by cases s with | nil => simp at h0 | cons => rfl
  have c3 : (n : Int) ≠ 0 := by omega
  have hd : s.length / n ≤ s.length := Nat.div_le_self _ _
  have w1 : IntKind.i64.wrap (IntKind.i64.wrap (((s.length : Int)).tdiv n) + 1) = ((s.length / n + 1 : Nat) : Int) := by
    rw [show ((s.length : Int)).tdiv n = ((s.length / n : Nat) : Int) from rfl]
    generalize s.length / n = d at *
    rw [w64 (x := (d : Int)) (by omega) (by omega), w64 (by omega) (by omega)]; omega
  have q0 : (0 : Int) ≤ IntKind.i64.wrap (IntKind.i64.wrap (((s.length : Int)).tdiv n) + 1) := by rw [w1]; exact Int.natCast_nonneg _
  have zb : (tin (C ml) 9).bytes = 16 := rfl
  have q3 : IntKind.i64.wrap (IntKind.i64.wrap (((s.length : Int)).tdiv n) + 1) * (tin (C ml) 9).bytes ≤ 281474976710656 := by rw [w1, zb]; omega
  have q4 : IntKind.i64.wrap (IntKind.i64.wrap (((s.length : Int)).tdiv n) + 1) ≤ 4611686018427387904 := by rw [w1]; omega
  clear w1
  refine hR Tryz.func151 ?_
  refine gR [.f, .f] rfl ?_
  refine g_loop (fun i : Nat => [(0, .s (s.drop (n * i))), (1, .i .i64 n), (5, .ref (17) 0 0 i)]) (fun i => [(17, 0, .row true (.row 1 9) ((pT n s i).map .s))]) (fun i => n * i < s.length) (fun i => s.length - n * i) 0 ⟨⟨by show T.s s = T.s _; simp, rfl, ⟨rfl, rfl, rfl, rfl, rfl⟩, trivial⟩, ⟨⟨rfl, rfl, trivial⟩, trivial⟩, trivial⟩ (by omega) ?_
  intro i hi
  clear q0 q3 q4 c1 c2 hd
  have hl : (s.drop (n * i)).length = s.length - n * i := List.length_drop
  have hp := pT_length n s i
  have hm : n * (i + 1) = n * i + n := Nat.mul_succ n i
  have hi2 : i ≤ n * i := Nat.le_mul_of_pos_left i (by omega)
  have q1 : i * 1 = ((pT n s i).map T.s).length := by simp [hp]
  have q2 : (i + 1) * (tin (C ml) 9).bytes ≤ 140737488355328 := by rw [zb]; omega
  have es : pT n s (i + 1) = pT n s i ++ [(s.drop (n * i)).take n] := pT_succ n s i
  have ed : (s.drop (n * i)).drop n = s.drop (n * (i + 1)) := by rw [List.drop_drop, hm]
  by_cases hc : s.length - n * i > n
  · have c1 : decide (((s.drop (n * i)).length : Int) > n) = true := decide_eq_true (by rw [hl]; omega)
    generalize s.drop (n * i) = x at *
    refine gF [.t] rfl (rd_next (i + 1) (by omega) (by omega) ⟨congrArg T.s ed, rfl, ⟨rfl, rfl, rfl, rfl, rfl⟩, trivial⟩ ⟨⟨rfl, ?_, trivial⟩, trivial⟩ trivial)
    show (pT n s i).map T.s ++ [T.s (x.take n)] = _
    rw [es]; simp
  · have c1 : decide (((s.drop (n * i)).length : Int) > n) = false := decide_eq_false (by rw [hl]; omega)
    have ek : (s.length + n - 1) / n = i + 1 := by
      apply Nat.div_eq_of_lt_le
      · rw [Nat.mul_comm]; omega
      · rw [Nat.mul_comm, Nat.mul_succ, Nat.mul_succ]; omega
    have el : piecesL n s = pT n s i ++ [s.drop (n * i)] := by
      unfold piecesL
      rw [ek, es, List.take_of_length_le (by rw [hl]; omega)]
    rw [el, ek]
    clear es ed el ek
    generalize s.drop (n * i) = x at *
    refine gF [.f] rfl (rd_exit rfl ?_)
    refine gF [] rfl (ret_of rfl ?_ ?_ ?_)
    · exact ⟨rfl, rfl, rfl, rfl, rfl⟩
    · refine ⟨⟨rfl, ?_, trivial⟩, trivial⟩
      show (pT n s i).map T.s ++ [T.s x] = _
      simp
    · exact trivial
end Go.Proofs.YtipomdmlkkifcaaGreatDoor.Vm
/- Contracts: sched.Rounds, expand, Words, Keys. -/
set_option maxRecDepth 100000
namespace Go.Proofs.YtipomdmlkkifcaaGreatDoor.Vm
open Go Go.Proofs Go.RowKit
variable {ml : Int}
theorem pRounds (n : Nat) (hn : n ≤ 1000000) : Ret P (C ml) 38 [.i .i64 n] (.i .i64 (nRounds n)) := by
  refine hR Tryz.func38 ?_
  by_cases h : n = 16 ∨ n = 24 ∨ n = 32
  · rcases h with rfl | rfl | rfl
    · refine gF [.t, .t] rfl (ret_of rfl ?_ trivial trivial)
      rfl
    · refine gF [.f, .t, .t] rfl (ret_of rfl ?_ trivial trivial)
      rfl
    · refine gF [.f, .f, .t] rfl (ret_of rfl ?_ trivial trivial)
      rfl
  · have e : nRounds n = 0 := by unfold nRounds; rw [if_neg h]
    rw [e]
    have c1 : ((n : Int) == 16) = false := by simp; omega
    have c2 : ((n : Int) == 24) = false := by simp; omega
    have c3 : ((n : Int) == 32) = false := by simp; omega
    refine gF [.f, .f, .f] rfl (ret_of rfl ?_ trivial trivial)
    rfl
abbrev oSub : Heap := [(105, 0, .row false (.cell 9) [.s subR])]
theorem xSub (a b c d : UInt8) : HRet P (C ml) 332 [.i .u32 (wN [a, b, c, d]), .p 105 0 0] oSub (.i .u32 (wN [sb a, sb b, sb c, sb d])) oSub := by
  have ha := a.toNat_lt
  have hb := b.toNat_lt
  have hc := c.toNat_lt
  have hd := d.toNat_lt
  have hw := wN4 a b c d
  have hlt := wN_lt [a, b, c, d]
  have hsl : subR.length = 256 := by decide +kernel
  generalize wN [a, b, c, d] = w at *
  have f : ∀ k : Nat, (w : Int).fdiv (2 ^ k) = ((w / 2 ^ k : Nat) : Int) := fun k => by
    rw [Int.fdiv_eq_ediv_of_nonneg _ (Int.le_of_lt (Int.pow_pos (by decide)))]; simp
  have i1 : (w : Int).fdiv (2 ^ (min (24 : Int).toNat IntKind.u32.bits)) = bi a := by
    show (w : Int).fdiv (2 ^ 24) = _
    rw [f, show w / 2 ^ 24 = a.toNat by omega]
  have i2 : bitsI .and .u32 ((w : Int).fdiv (2 ^ (min (16 : Int).toNat IntKind.u32.bits))) 255 = bi b := by
    show bitsI .and .u32 ((w : Int).fdiv (2 ^ 16)) 255 = _
    rw [f, u32_and _ (by omega), show w / 2 ^ 16 % 256 = b.toNat by omega]
  have i3 : bitsI .and .u32 ((w : Int).fdiv (2 ^ (min (8 : Int).toNat IntKind.u32.bits))) 255 = bi c := by
    show bitsI .and .u32 ((w : Int).fdiv (2 ^ 8)) 255 = _
    rw [f, u32_and _ (by omega), show w / 2 ^ 8 % 256 = c.toNat by omega]
  have i4 : bitsI .and .u32 (w : Int) 255 = bi d := by
    rw [u32_and _ hlt, show w % 256 = d.toNat by omega]
  have l : ∀ x : UInt8, 0 ≤ bi x ∧ bi x < (subR.length : Int) := fun x => ⟨byte_le x, by rw [hsl]; exact byte_lt x⟩
  obtain ⟨p1, p2⟩ := l a
  rw [← i1] at p1 p2
  obtain ⟨p3, p4⟩ := l b
  rw [← i2] at p3 p4
  obtain ⟨p5, p6⟩ := l c
  rw [← i3] at p5 p6
  obtain ⟨p7, p8⟩ := l d
  rw [← i4] at p7 p8
  have wr : ∀ x : UInt8, IntKind.u32.wrap (bi x) = bi x := fun x => by have := x.toNat_lt; simp [IntKind.wrap, IntKind.bits, IntKind.signed, bi]; omega
  have sh : ∀ (x : UInt8) (k : Nat), k ≤ 24 → IntKind.u32.wrap (bi x * 2 ^ k) = ((x.toNat * 2 ^ k : Nat) : Int) := fun x k hk => by
    have h1 := x.toNat_lt
    have h2 : 2 ^ k ≤ 2 ^ 24 := Nat.pow_le_pow_right (by decide) hk
    have h3 : x.toNat * 2 ^ k ≤ 255 * 2 ^ 24 := Nat.mul_le_mul (by omega) h2
    have h4 : bi x * 2 ^ k = ((x.toNat * 2 ^ k : Nat) : Int) := by simp [bi]
    rw [h4]
    generalize x.toNat * 2 ^ k = z at *
    simp [IntKind.wrap, IntKind.bits, IntKind.signed]; omega
  have fin : bitsI .or .u32 (bitsI .or .u32 (bitsI .or .u32 (IntKind.u32.wrap (IntKind.u32.wrap (bi (sb a)) * 2 ^ 24)) (IntKind.u32.wrap (IntKind.u32.wrap (bi (sb b)) * 2 ^ 16))) (IntKind.u32.wrap (IntKind.u32.wrap (bi (sb c)) * 2 ^ 8))) (IntKind.u32.wrap (bi (sb d))) = (wN [sb a, sb b, sb c, sb d] : Int) := by
    have := (sb a).toNat_lt
    have := (sb b).toNat_lt
    have := (sb c).toNat_lt
    have := (sb d).toNat_lt
    rw [wr, wr, wr, wr, sh _ 24 (by omega), sh _ 16 (by omega), sh _ 8 (by omega), u32_or _ _ (by omega) (by omega), u32_or, u32_or, or4]
    all_goals first | omega | (refine Nat.lt_of_lt_of_le (Nat.or_lt_two_pow (n := 32) ?_ ?_) (by decide) <;> first | omega | (refine Nat.or_lt_two_pow (n := 32) ?_ ?_ <;> omega))
  refine hR Tryz.func332 ?_
  refine gF [] rfl (ret_of rfl ?_ ?_ ?_)
  · show T.i _ _ = T.i _ _
    rw [i1, i2, i3, i4, bt_sb, bt_sb, bt_sb, bt_sb]
    exact congrArg (T.i _) fin
  · exact ⟨⟨rfl, rfl, ⟨rfl, rfl⟩⟩, trivial⟩
  · exact ⟨rfl, trivial⟩
end Go.Proofs.YtipomdmlkkifcaaGreatDoor.Vm
/- Contracts: sched.expand. -/
set_option maxRecDepth 100000
namespace Go.Proofs.YtipomdmlkkifcaaGreatDoor.Vm
open Go Go.Proofs Go.RowKit
variable {ml : Int}
theorem renL_texts (a b : Nat) : ∀ l : List (List UInt8), renL a b (l.map T.s) = l.map T.s
  | [] => rfl
  | x :: l => congrArg (T.s x :: ·) (renL_texts a b l)
/-- Words as numbers. -/
abbrev wT (l : List (List UInt8)) : List T := l.map fun w => T.i .u32 (wN w)
theorem wAt_first (key : List UInt8) (n : Nat) : ∀ i, i ≤ n → wAt key n i = pT 4 key i
  | 0, _ => rfl
  | i + 1, h => by rw [wAt, wAt_first key n i (by omega), pT_succ, wNext, if_pos (by omega)]
theorem getN_w (w : List UInt8) (h : w.length = 4) : getN w = wN w := by
  match w, h with
  | [a, b, c, d], _ => simp [getN, wN]
theorem len4 : ∀ {s : List UInt8}, s.length = 4 → ∃ a b c d, s = [a, b, c, d]
  | [a, b, c, d], _ => ⟨a, b, c, d, rfl⟩
theorem bx (w v : List UInt8) (hw : w.length = 4) (hv : v.length = 4) : bitsI .xor .u32 (wN w : Int) (wN v : Int) = (wN (xorL w v) : Int) := by
  obtain ⟨a, b, c, d, rfl⟩ := len4 hw
  obtain ⟨e, f, g, h, rfl⟩ := len4 hv
  rw [u32_xor _ _ (wN_lt _) (wN_lt _), wN_xor]; rfl
theorem rcW (c : UInt8) : IntKind.u32.wrap (bi c * 2 ^ (min (24 : Int).toNat IntKind.u32.bits)) = (wN [c, 0, 0, 0] : Int) := by
  have := c.toNat_lt
  show IntKind.u32.wrap (bi c * 2 ^ 24) = _
  rw [wN4, show bi c * 2 ^ 24 = ((c.toNat * 16777216 : Nat) : Int) by simp [bi]]
  simp [IntKind.wrap, IntKind.bits, IntKind.signed]; omega
theorem rotE (a b c d : UInt8) : bitsI .or .u32 (IntKind.u32.wrap ((wN [a, b, c, d] : Int) * 2 ^ (min (8 : Int).toNat IntKind.u32.bits))) ((wN [a, b, c, d] : Int).fdiv (2 ^ (min (24 : Int).toNat IntKind.u32.bits))) = (wN [b, c, d, a] : Int) := by
  have h := wN_lt [a, b, c, d]
  have e := rotW a b c d
  have h2 := a.toNat_lt
  generalize wN [a, b, c, d] = w at *
  show bitsI .or .u32 (IntKind.u32.wrap ((w : Int) * 2 ^ 8)) ((w : Int).fdiv (2 ^ 24)) = _
  have e1 : IntKind.u32.wrap ((w : Int) * 2 ^ 8) = ((w * 256 % 4294967296 : Nat) : Int) := by simp [IntKind.wrap, IntKind.bits, IntKind.signed]
  have e2 : (w : Int).fdiv (2 ^ 24) = ((w / 2 ^ 24 : Nat) : Int) := by rw [Int.fdiv_eq_ediv_of_nonneg _ (by decide)]; simp
  rw [e1, e2, u32_or _ _ (by omega) (by omega), e]
theorem wNext_step {key : List UInt8} {n i : Nat} (h : n ≤ i) : wAt key n (i + 1) = wAt key n i ++ [xorL ((wAt key n i).getD (i - n) []) (if i % n = 0 then xorL ((rotL ((wAt key n i).getD (i - 1) [])).map sb) [rc (i / n - 1), 0, 0, 0]
    else if n = 8 ∧ i % 8 = 4 then ((wAt key n i).getD (i - 1) []).map sb else (wAt key n i).getD (i - 1) [])] := by
  rw [wAt, wNext, if_neg (by omega)]
theorem wT_at (l : List (List UInt8)) (i o : Nat) (h : i < l.length) (e : o = i) : (wT l)[o]? = some (.i .u32 (wN (l.getD i []))) := by
  subst e
  rw [List.getElem?_map, List.getElem?_eq_getElem h, List.getD_eq_getElem?_getD, List.getElem?_eq_getElem h]; rfl
set_option maxHeartbeats 1000000 in
theorem xExpand (key : List UInt8) (h : nRounds key.length ≠ 0) : Ret P (C ml) 307 [.s key] (.sl (4 * nRounds key.length + 4) (wT (wordsL key))) := by
  have hk := nR_pos h
  have k1 := pRounds (ml := ml) key.length (by omega)
  have k2 := sTable (ml := ml)
  have hRn : nRounds key.length ≤ 14 := by unfold nRounds; split <;> omega
  have k0 := hret_ren 17 130 (oPieces (ml := ml) 4 key (by decide) (by decide) (by omega) (by omega))
  have hp4 : (key.length + 4 - 1) / 4 = key.length / 4 := by omega
  have k3 : HRet P (C ml) 151 [.s key, .i .i64 4] [] (.ref 130 0 0 (key.length / 4)) [(130, 0, .row true (.row 1 9) ((pT 4 key (key.length / 4)).map .s))] := by
    rw [piecesL, hp4] at k0
    simp only [renL, renH, renT, renO, renL_texts, show sw 17 130 17 = 130 from rfl] at k0
    exact k0
  clear k0
  generalize hn : key.length / 4 = n at *
  generalize hr : nRounds key.length = r at *
  have c1 : ((r : Int) == 0) = false := by simp; omega
  have wc : IntKind.i64.wrap (IntKind.i64.wrap (4 * (r : Int)) + 4) = ((4 * r + 4 : Nat) : Int) := by rw [w64 (x := 4 * (r : Int)) (by omega) (by omega), w64 (by omega) (by omega)]; omega
  have wn : IntKind.i64.wrap (((key.length : Int)).tdiv 4) = (n : Int) := by rw [Int.tdiv_eq_ediv_of_nonneg (by omega), w64 (by omega) (by omega)]; omega
  have zb : (tin (C ml) 216).bytes = 4 := rfl
  have q0 : (0 : Int) ≤ IntKind.i64.wrap (IntKind.i64.wrap (4 * (r : Int)) + 4) := by rw [wc]; omega
  have q3 : IntKind.i64.wrap (IntKind.i64.wrap (4 * (r : Int)) + 4) * (tin (C ml) 216).bytes ≤ 281474976710656 := by rw [wc, zb]; omega
  have q4 : IntKind.i64.wrap (IntKind.i64.wrap (4 * (r : Int)) + 4) ≤ 4611686018427387904 := by rw [wc]; omega
  have hn8 : n ≤ 8 := by omega
  have hkl : key.length = 4 * n := by omega
  refine hR Tryz.func307 ?_
  refine gR [cc k1, .f, cc k2, ch k3] rfl ?_
  refine g_loop (fun i : Nat => [(3, .i .i64 n), (4, .i .i64 r), (5, .p 5 0 0), (6, .fn (.func 332) [] [.p 5 0 0]), (7, .ref 28 0 0 i), (30, .ref 130 0 0 n), (31, .i .i64 n), (32, .i .i64 i)]) (fun i => [(5, 0, .row false (.cell 9) [.s subR]), (28, 0, .row true (.row 1 216) (wT (pT 4 key i))), (130, 0, .row true (.row 1 9) ((pT 4 key n).map .s))]) (fun i => i ≤ n) (fun i => n - i) 0 ⟨⟨?_, rfl, ⟨rfl, rfl, rfl, rfl⟩, ⟨rfl, rfl, ⟨⟨rfl, rfl, rfl, rfl⟩, rfl⟩⟩, ⟨rfl, rfl, rfl, rfl, rfl⟩, ⟨rfl, rfl, rfl, rfl, rfl⟩, rfl, rfl, trivial⟩, ⟨⟨rfl, rfl, ⟨rfl, rfl⟩⟩, ⟨rfl, rfl, trivial⟩, ⟨rfl, rfl, trivial⟩, trivial⟩, trivial⟩ (by omega) ?_
  · show T.i _ _ = T.i _ _
    rw [wn]
  intro i hi
  clear q0 q3 wn q4 k1 k2 k3
  by_cases hin : i < n
  · have hpc : ((pT 4 key n).map T.s)[0 + ((i : Int)).toNat * (tin (C ml) 9).size]? = some (.s ((key.drop (4 * i)).take 4)) := by
      show ((pT 4 key n).map T.s)[0 + ((i : Int)).toNat * 1]? = _
      rw [show 0 + ((i : Int)).toNat * 1 = i by omega, List.getElem?_map, pT, List.getElem?_map, List.getElem?_range hin]; rfl
    have hw : ((key.drop (4 * i)).take 4).length = 4 := by rw [List.length_take, List.length_drop]; omega
    have hg := getN_w _ hw
    have hlt := wN_lt ((key.drop (4 * i)).take 4)
    have k4 := pGet (ml := ml) ((key.drop (4 * i)).take 4) (by omega)
    rw [if_neg (by omega), hg] at k4
    have es : pT 4 key (i + 1) = pT 4 key i ++ [(key.drop (4 * i)).take 4] := pT_succ 4 key i
    have hp := pT_length 4 key i
    have q1 : i * 1 = (wT (pT 4 key i)).length := by simp [wT, hp]
    have q2 : (i + 1) * (tin (C ml) 216).bytes ≤ 140737488355328 := by rw [zb]; omega
    have c2 : decide ((i : Int) < (n : Int)) = true := decide_eq_true (by omega)
    have wu : IntKind.u32.wrap ((wN ((key.drop (4 * i)).take 4) : Nat) : Int) = ((wN ((key.drop (4 * i)).take 4) : Nat) : Int) := by
      generalize wN ((key.drop (4 * i)).take 4) = z at *
      simp [IntKind.wrap, IntKind.bits, IntKind.signed]; omega
    generalize (key.drop (4 * i)).take 4 = x at *
    refine gF [.t, ld1 hpc, cc k4] rfl (rd_next (i + 1) (by omega) (by omega) ⟨rfl, rfl, ⟨rfl, rfl, rfl, rfl⟩, ⟨rfl, rfl, ⟨⟨rfl, rfl, rfl, rfl⟩, rfl⟩⟩, ⟨rfl, rfl, rfl, rfl, rfl⟩, ⟨rfl, rfl, rfl, rfl, rfl⟩, rfl, ?_, trivial⟩ ⟨⟨rfl, rfl, ⟨rfl, rfl⟩⟩, ⟨rfl, ?_, trivial⟩, ⟨rfl, rfl, trivial⟩, trivial⟩ trivial)
    · show T.i _ _ = T.i _ _
      rw [w64 (by omega) (by omega)]; simp
    · show wT (pT 4 key i) ++ [T.i .u32 (IntKind.u32.wrap ((wN x : Nat) : Int))] = wT (pT 4 key (i + 1))
      rw [wu, es]; simp [wT]
  · have e : i = n := by omega
    subst e
    have c2 : decide ((i : Int) < (i : Int)) = false := decide_eq_false (by omega)
    refine gF [.f] rfl (rd_exit rfl ?_)
    rw [← wAt_first key i i (Nat.le_refl _)]
    rw [show wordsL key = wAt key i (4 * r + 4) by rw [wordsL, hn, hr]]
    have h44 : i ≤ 4 * r + 4 := by omega
    generalize hm : i = n at *
    clear hm c2
    refine gR [] rfl ?_
    refine g_loop (fun i : Nat => [(3, .i .i64 n), (4, .i .i64 r), (5, .p 5 0 0), (6, .fn (.func 332) [] [.p 5 0 0]), (7, .ref 28 0 0 i), (12, .i .u32 (bi (rc ((i - 1) / n)))), (13, .i .i64 i)]) (fun i => [(5, 0, .row false (.cell 9) [.s subR]), (28, 0, .row true (.row 1 216) (wT (wAt key n i)))]) (fun i => n ≤ i ∧ i ≤ 4 * r + 4) (fun i => 4 * r + 4 - i) n ⟨⟨rfl, rfl, ⟨rfl, rfl, rfl, rfl⟩, ⟨rfl, rfl, ⟨⟨rfl, rfl, rfl, rfl⟩, rfl⟩⟩, ⟨rfl, rfl, rfl, rfl, rfl⟩, ?_, rfl, trivial⟩, ⟨⟨rfl, rfl, ⟨rfl, rfl⟩⟩, ⟨rfl, rfl, trivial⟩, trivial⟩, trivial⟩ ⟨Nat.le_refl _, h44⟩ ?_
    · show T.i _ _ = T.i _ (bi (rc ((n - 1) / n)))
      rw [Nat.div_eq_of_lt (by omega)]; rfl
    rintro i ⟨hi1, hi2⟩
    have wc2 : IntKind.i64.wrap (IntKind.i64.wrap (4 * (r : Int)) + 4) = ((4 * r + 4 : Nat) : Int) := wc
    have hol := wAt_length key n i
    by_cases hlt : i < 4 * r + 4
    · have c3 : decide ((i : Int) < IntKind.i64.wrap (IntKind.i64.wrap (4 * (r : Int)) + 4)) = true := by rw [wc2]; exact decide_eq_true (by omega)
      have e1 : IntKind.i64.wrap ((i : Int) - 1) = ((i - 1 : Nat) : Int) := by rw [w64 (by omega) (by omega)]; omega
      have e2 : IntKind.i64.wrap ((i : Int) - (n : Int)) = ((i - n : Nat) : Int) := by rw [w64 (by omega) (by omega)]; omega
      have hz : (tin (C ml) 216).size = 1 := rfl
      have l1 : (wT (wAt key n i))[0 + (IntKind.i64.wrap ((i : Int) - 1)).toNat * (tin (C ml) 216).size]? = some (.i .u32 (wN ((wAt key n i).getD (i - 1) []))) := wT_at _ (i - 1) _ (by omega) (by rw [e1, hz]; omega)
      have l2 : (wT (wAt key n i))[0 + (IntKind.i64.wrap ((i : Int) - (n : Int))).toNat * (tin (C ml) 216).size]? = some (.i .u32 (wN ((wAt key n i).getD (i - n) []))) := wT_at _ (i - n) _ (by omega) (by rw [e2, hz]; omega)
      have b1 : 0 ≤ IntKind.i64.wrap ((i : Int) - 1) := by rw [e1]; omega
      have b2 : IntKind.i64.wrap ((i : Int) - 1) < (i : Int) := by rw [e1]; omega
      have b3 : 0 ≤ IntKind.i64.wrap ((i : Int) - (n : Int)) := by rw [e2]; omega
      have b4 : IntKind.i64.wrap ((i : Int) - (n : Int)) < (i : Int) := by rw [e2]; omega
      have q1 : i * 1 = (wT (wAt key n i)).length := by simp [hol]
      have q2 : (i + 1) * (tin (C ml) 216).bytes ≤ 140737488355328 := by rw [zb]; omega
      have es := wNext_step (key := key) (n := n) (i := i) hi1
      have h41 := wAt_len4 hkl (by omega) i (i - 1) (by omega)
      have h42 := wAt_len4 hkl (by omega) i (i - n) (by omega)
      have hmod : ((i : Int)).tmod n = ((i % n : Nat) : Int) := by rw [Int.tmod_eq_emod_of_nonneg (by omega)]; rfl
      have hmod8 : ((i : Int)).tmod 8 = ((i % 8 : Nat) : Int) := by rw [Int.tmod_eq_emod_of_nonneg (by omega)]; rfl
      have z0 : (n : Int) ≠ 0 := by omega
      have hdiv : i / n = (i - 1) / n + (if i % n = 0 then 1 else 0) := by
        obtain ⟨j, rfl⟩ : ∃ j, i = j + 1 := ⟨i - 1, by omega⟩
        rw [Nat.add_sub_cancel, Nat.succ_div]
        by_cases hd : n ∣ j + 1
        · rw [if_pos hd, if_pos (Nat.mod_eq_zero_of_dvd hd)]
        · rw [if_neg hd, if_neg (fun h => hd (Nat.dvd_of_mod_eq_zero h))]
      generalize hw1 : (wAt key n i).getD (i - 1) [] = w1 at *
      generalize hw2 : (wAt key n i).getD (i - n) [] = w2 at *
      generalize hout : wAt key n i = out at *
      obtain ⟨a, b, c, d, rfl⟩ := len4 h41
      clear e1 e2 hw1 hw2 wc wc2 hi2
      by_cases hA : i % n = 0
      · have c4 : (((i : Int)).tmod n == 0) = true := by rw [hmod, hA]; rfl
        rw [if_pos hA] at es hdiv
        generalize hcc : rc ((i - 1) / n)  = cz at *
        have er : rc (i / n) = gTw cz := by rw [hdiv, ← hcc]; rfl
        have er0 : rc (i / n - 1) = cz := by rw [hdiv, Nat.add_sub_cancel, hcc]
        rw [er0] at es
        have wb : IntKind.u8.wrap (bi cz) = bi cz := by have := cz.toNat_lt; rw [wrap_u8]; show ((cz.toNat : Int)) % 256 = (cz.toNat : Int); omega
        have k5 : HRet P (C ml) 332 [.i .u32 (bitsI .or .u32 (IntKind.u32.wrap ((wN [a, b, c, d] : Int) * 2 ^ (min (8 : Int).toNat IntKind.u32.bits))) ((wN [a, b, c, d] : Int).fdiv (2 ^ (min (24 : Int).toNat IntKind.u32.bits)))), .p 5 0 0] [(5, 0, .row false (.cell 9) [.s subR])] (.i .u32 (wN [sb b, sb c, sb d, sb a])) [(5, 0, .row false (.cell 9) [.s subR])] := by
          rw [rotE]; exact hret_ren 105 5 (xSub (ml := ml) b c d a)
        have k6 : Ret P (C ml) 271 [.i .u8 (IntKind.u8.wrap (bi cz))] (.i .u8 (bi (gTw cz))) := by rw [wb]; exact fTwice cz
        clear hmod hmod8 hdiv hA
        refine gF [.t, ld1 l1, .t, ch k5, cc k6, ld1 l2] rfl (rd_next (i + 1) ⟨by omega, by omega⟩ (by omega) ⟨rfl, rfl, ⟨rfl, rfl, rfl, rfl⟩, ⟨rfl, rfl, ⟨⟨rfl, rfl, rfl, rfl⟩, rfl⟩⟩, ⟨rfl, rfl, rfl, rfl, rfl⟩, ?_, ?_, trivial⟩ ⟨⟨rfl, rfl, ⟨rfl, rfl⟩⟩, ⟨rfl, ?_, trivial⟩, trivial⟩ trivial)
        · show T.i _ (IntKind.u32.wrap (bi (gTw cz))) = T.i _ (bi (rc ((i + 1 - 1) / n)))
          rw [Nat.add_sub_cancel, er]
          congr 1
          have := (gTw cz).toNat_lt
          simp [IntKind.wrap, IntKind.bits, IntKind.signed, bi]; omega
        · show T.i _ _ = T.i _ _
          rw [w64 (by omega) (by omega)]; simp
        · show wT out ++ [T.i .u32 (bitsI .xor .u32 (wN w2 : Int) (bitsI .xor .u32 (wN [sb b, sb c, sb d, sb a] : Int) (IntKind.u32.wrap (bi cz * 2 ^ (min (24 : Int).toNat IntKind.u32.bits)))))] = wT (wAt key n (i + 1))
          rw [rcW, bx _ _ rfl rfl, bx _ _ h42 rfl, es]; simp [rotL]
      · have c4 : (((i : Int)).tmod n == 0) = false := by rw [hmod]; generalize i % n = z at *; simp; omega
        rw [if_neg hA] at es hdiv
        rw [Nat.add_zero] at hdiv
        by_cases hB : n = 8 ∧ i % 8 = 4
        · have c5 : ((n : Int) == 8) = true := by rw [hB.1]; rfl
          have c6 : (((i : Int)).tmod 8 == 4) = true := by rw [hmod8, hB.2]; rfl
          rw [if_pos hB] at es
          have k5 : HRet P (C ml) 332 [.i .u32 (wN [a, b, c, d]), .p 5 0 0] [(5, 0, .row false (.cell 9) [.s subR])] (.i .u32 (wN [sb a, sb b, sb c, sb d])) [(5, 0, .row false (.cell 9) [.s subR])] := hret_ren 105 5 (xSub (ml := ml) a b c d)
          clear hmod hmod8
          refine gF [.t, ld1 l1, .f, .t, .t, ch k5, ld1 l2] rfl (rd_next (i + 1) ⟨by omega, by omega⟩ (by omega) ⟨rfl, rfl, ⟨rfl, rfl, rfl, rfl⟩, ⟨rfl, rfl, ⟨⟨rfl, rfl, rfl, rfl⟩, rfl⟩⟩, ⟨rfl, rfl, rfl, rfl, rfl⟩, ?_, ?_, trivial⟩ ⟨⟨rfl, rfl, ⟨rfl, rfl⟩⟩, ⟨rfl, ?_, trivial⟩, trivial⟩ trivial)
          · show T.i _ (bi (rc ((i - 1) / n))) = T.i _ (bi (rc ((i + 1 - 1) / n)))
            rw [Nat.add_sub_cancel, hdiv]
          · show T.i _ _ = T.i _ _
            rw [w64 (by omega) (by omega)]; simp
          · show wT out ++ [T.i .u32 (bitsI .xor .u32 (wN w2 : Int) (wN [sb a, sb b, sb c, sb d] : Int))] = wT (wAt key n (i + 1))
            rw [bx _ _ h42 rfl, es]; simp
        · have hB2 : n ≠ 8 ∨ i % 8 ≠ 4 := by omega
          rw [if_neg hB] at es
          have fin : wT out ++ [T.i .u32 (bitsI .xor .u32 (wN w2 : Int) (wN [a, b, c, d] : Int))] = wT (wAt key n (i + 1)) := by
            rw [bx _ _ h42 rfl, es]; simp
          rcases hB2 with h8 | h8
          · have c5 : ((n : Int) == 8) = false := by simp; omega
            clear hmod hmod8
            refine gF [.t, ld1 l1, .f, .f, ld1 l2] rfl (rd_next (i + 1) ⟨by omega, by omega⟩ (by omega) ⟨rfl, rfl, ⟨rfl, rfl, rfl, rfl⟩, ⟨rfl, rfl, ⟨⟨rfl, rfl, rfl, rfl⟩, rfl⟩⟩, ⟨rfl, rfl, rfl, rfl, rfl⟩, ?_, ?_, trivial⟩ ⟨⟨rfl, rfl, ⟨rfl, rfl⟩⟩, ⟨rfl, fin, trivial⟩, trivial⟩ trivial)
            · show T.i _ (bi (rc ((i - 1) / n))) = T.i _ (bi (rc ((i + 1 - 1) / n)))
              rw [Nat.add_sub_cancel, hdiv]
            · show T.i _ _ = T.i _ _
              rw [w64 (by omega) (by omega)]; simp
          · by_cases h9 : n = 8
            · have c5 : ((n : Int) == 8) = true := by rw [h9]; rfl
              have c6 : (((i : Int)).tmod 8 == 4) = false := by rw [hmod8]; simp; omega
              clear hmod hmod8
              refine gF [.t, ld1 l1, .f, .t, .f, ld1 l2] rfl (rd_next (i + 1) ⟨by omega, by omega⟩ (by omega) ⟨rfl, rfl, ⟨rfl, rfl, rfl, rfl⟩, ⟨rfl, rfl, ⟨⟨rfl, rfl, rfl, rfl⟩, rfl⟩⟩, ⟨rfl, rfl, rfl, rfl, rfl⟩, ?_, ?_, trivial⟩ ⟨⟨rfl, rfl, ⟨rfl, rfl⟩⟩, ⟨rfl, fin, trivial⟩, trivial⟩ trivial)
              · show T.i _ (bi (rc ((i - 1) / n))) = T.i _ (bi (rc ((i + 1 - 1) / n)))
                rw [Nat.add_sub_cancel, hdiv]
              · show T.i _ _ = T.i _ _
                rw [w64 (by omega) (by omega)]; simp
            · have c5 : ((n : Int) == 8) = false := by simp; omega
              clear hmod hmod8
              refine gF [.t, ld1 l1, .f, .f, ld1 l2] rfl (rd_next (i + 1) ⟨by omega, by omega⟩ (by omega) ⟨rfl, rfl, ⟨rfl, rfl, rfl, rfl⟩, ⟨rfl, rfl, ⟨⟨rfl, rfl, rfl, rfl⟩, rfl⟩⟩, ⟨rfl, rfl, rfl, rfl, rfl⟩, ?_, ?_, trivial⟩ ⟨⟨rfl, rfl, ⟨rfl, rfl⟩⟩, ⟨rfl, fin, trivial⟩, trivial⟩ trivial)
              · show T.i _ (bi (rc ((i - 1) / n))) = T.i _ (bi (rc ((i + 1 - 1) / n)))
                rw [Nat.add_sub_cancel, hdiv]
              · show T.i _ _ = T.i _ _
                rw [w64 (by omega) (by omega)]; simp
    · have e44 : i = 4 * r + 4 := by omega
      subst e44
      have c3 : decide (((4 * r + 4 : Nat) : Int) < IntKind.i64.wrap (IntKind.i64.wrap (4 * (r : Int)) + 4)) = false := by rw [wc2]; exact decide_eq_false (by omega)
      refine gF [.f] rfl (rd_exit rfl ?_)
      refine g_frz 28 rfl ?_
      refine gF [] rfl (ret_of rfl ?_ trivial trivial)
      show T.sl _ _ = T.sl _ _
      rw [List.take_of_length_le (by simp [hol])]
end Go.Proofs.YtipomdmlkkifcaaGreatDoor.Vm
/- Contracts: sched.Words, Keys; aes.New. -/
set_option maxRecDepth 100000
namespace Go.Proofs.YtipomdmlkkifcaaGreatDoor.Vm
open Go Go.Proofs Go.RowKit
variable {ml : Int}
theorem putL_wN (w : List UInt8) (h : w.length = 4) : putL (wN w) 4 = w := by
  obtain ⟨a, b, c, d, rfl⟩ := len4 h
  have := a.toNat_lt; have := b.toNat_lt; have := c.toNat_lt; have := d.toNat_lt
  have h1 := wN4 a b c d
  generalize wN [a, b, c, d] = n at *
  simp only [putL, List.cons.injEq, and_true]
  refine ⟨?_, ?_, ?_, ?_⟩ <;> (apply UInt8.toNat_inj.1; rw [UInt8.toNat_ofNat']; omega)
theorem flat4 : ∀ (m : Nat) (l : List (List UInt8)) (i : Nat), l.length = 4 * m → (∀ j, j < l.length → (l.getD j []).length = 4) → i < m →
    (l.flatten.drop (16 * i)).take 16 = l.getD (4 * i) [] ++ l.getD (4 * i + 1) [] ++ l.getD (4 * i + 2) [] ++ l.getD (4 * i + 3) []
  | 0, _, _, _, _, h => absurd h (by omega)
  | m + 1, a :: b :: c :: d :: l, i, hl, hw, hi => by
    have h0 : a.length = 4 := hw 0 (by simp)
    have h1 : b.length = 4 := hw 1 (by simp)
    have h2 : c.length = 4 := hw 2 (by simp)
    have h3 : d.length = 4 := hw 3 (by simp)
    have hf : (a :: b :: c :: d :: l).flatten = (a ++ b ++ c ++ d) ++ l.flatten := by simp
    have h16 : (a ++ b ++ c ++ d).length = 16 := by simp [h0, h1, h2, h3]
    cases i with
    | zero => rw [hf, Nat.mul_zero, List.drop_zero, List.take_append_of_le_length (by omega), List.take_of_length_le (by omega)]; rfl
    | succ i =>
      have ih := flat4 m l i (by simp at hl; omega) (fun j hj => hw (j + 4) (by simp; omega)) (by omega)
      rw [hf, List.drop_append, List.drop_of_length_le (by omega), List.nil_append, h16, show 16 * (i + 1) - 16 = 16 * i by omega, ih, show 4 * (i + 1) = 4 * i + 4 by omega]; rfl
  | m + 1, [], _, hl, _, _ => by simp at hl
  | m + 1, [_], _, hl, _, _ => by simp at hl; omega
  | m + 1, [_, _], _, hl, _, _ => by simp at hl; omega
  | m + 1, [_, _, _], _, hl, _, _ => by simp at hl; omega
theorem flat_len : ∀ (l : List (List UInt8)), (∀ j, j < l.length → (l.getD j []).length = 4) → l.flatten.length = 4 * l.length
  | [], _ => rfl
  | x :: l, h => by
    have h0 : x.length = 4 := h 0 (by simp)
    have ih := flat_len l fun j hj => h (j + 1) (by simp; omega)
    simp only [List.flatten_cons, List.length_append, List.length_cons, h0, ih]; omega
theorem keysL_pieces {key : List UInt8} (h : nRounds key.length ≠ 0) : piecesL 16 (wordsL key).flatten = keysL key ∧ (wordsL key).flatten.length = 16 * (nRounds key.length + 1) := by
  have hl := wordsL_length key
  have hw : ∀ j, j < (wordsL key).length → ((wordsL key).getD j []).length = 4 := fun j hj => wordsL_len4 h j (by omega)
  have hf := flat_len _ hw
  have hlen : (wordsL key).flatten.length = 16 * (nRounds key.length + 1) := by omega
  refine ⟨?_, hlen⟩
  unfold piecesL pT keysL
  rw [hlen, show (16 * (nRounds key.length + 1) + 16 - 1) / 16 = nRounds key.length + 1 by omega]
  apply List.map_congr_left
  intro i hi
  exact flat4 (nRounds key.length + 1) _ i (by omega) hw (List.mem_range.1 hi)
def wdT (i : Nat) : T := if i = 0 then .nsl else .ref 18 0 0 i
def wdH (l : List (List UInt8)) (i : Nat) : Heap := if i = 0 then [] else [(18, 0, .row true (.row 1 9) ((l.take i).map .s))]
theorem xWords (key : List UInt8) (h : nRounds key.length ≠ 0) : Ret P (C ml) 269 [.s key] (.sl (wordsL key).length ((wordsL key).map .s)) := by
  have k1 := xExpand (ml := ml) key h
  have hl := wordsL_length key
  have hw : ∀ j, j < (wordsL key).length → ((wordsL key).getD j []).length = 4 := fun j hj => wordsL_len4 h j (by omega)
  have hRn : nRounds key.length ≤ 14 := by unfold nRounds; split <;> omega
  rw [← hl] at k1
  have h0 : 0 < (wordsL key).length := by omega
  have hm : (wordsL key).length ≤ 60 := by omega
  generalize wordsL key = l at *
  clear h hl hRn
  have zb : (tin (C ml) 9).bytes = 16 := rfl
  refine hR Tryz.func269 ?_
  refine gR [cc k1] rfl ?_
  refine g_loop (fun i : Nat => [(3, wdT i), (7, .sl l.length (wT l)), (8, .i .i64 l.length), (9, .i .i64 i)]) (fun i => wdH l i) (fun i => i ≤ l.length) (fun i => l.length - i) 0 ⟨⟨rfl, rfl, rfl, rfl, trivial⟩, trivial, trivial⟩ (by omega) ?_
  intro i hi
  by_cases hil : i < l.length
  · have h1 : (wT l)[i * 1]? = some (.i .u32 (wN (l.getD i []))) := wT_at l i _ hil (by omega)
    have c1 : decide ((i : Int) < (l.length : Int)) = true := decide_eq_true (by omega)
    have hlt := wN_lt (l.getD i [])
    have hp := putL_wN _ (hw i hil)
    have hu : IntKind.u64.wrap ((wN (l.getD i []) : Nat) : Int) = ((wN (l.getD i []) : Nat) : Int) := by
      generalize wN (l.getD i []) = z at *
      rw [wrap_u64]; omega
    have k2 := pPut (ml := ml) (wN (l.getD i [])) 4 (by omega)
    rw [if_neg (by omega), show (4 : Int).toNat = 4 from rfl, hp] at k2
    rw [← hu] at k2
    have ht : (l.take (i + 1)).map T.s = (l.take i).map T.s ++ [.s (l.getD i [])] := by
      rw [List.take_succ_eq_append_getElem hil, List.map_append, List.getD_eq_getElem?_getD, List.getElem?_eq_getElem hil]; rfl
    have hn1 : wdT (i + 1) = .ref 18 0 0 (i + 1) := rfl
    have hn2 : wdH l (i + 1) = [(18, 0, .row true (.row 1 9) ((l.take (i + 1)).map .s))] := rfl
    have htl : (l.take i).length = i := by rw [List.length_take]; omega
    have q1 : i * 1 = ((l.take i).map T.s).length := by rw [List.length_map, htl]; omega
    have q2 : (i + 1) * (tin (C ml) 9).bytes ≤ 140737488355328 := by rw [zb]; omega
    generalize l.getD i [] = x at *
    clear hlt hp hu
    rcases Nat.eq_zero_or_pos i with hz | hz
    · subst hz
      refine gF [.t, ld1 h1, cc k2] rfl (rd_next (0 + 1) (by omega) (by omega) ⟨⟨rfl, rfl, rfl, rfl, rfl⟩, rfl, rfl, rfl, trivial⟩ ⟨⟨rfl, by rw [ht]; rfl, trivial⟩, trivial⟩ trivial)
    · rw [show wdT i = .ref 18 0 0 i by unfold wdT; rw [if_neg (by omega)], show wdH l i = [(18, 0, .row true (.row 1 9) ((l.take i).map .s))] by unfold wdH; rw [if_neg (by omega)]]
      refine gF [.t, ld1 h1, cc k2] rfl (rd_next (i + 1) (by omega) (by omega) ⟨⟨rfl, rfl, rfl, rfl, rfl⟩, rfl, rfl, ?_, trivial⟩ ⟨⟨rfl, by rw [ht]; rfl, trivial⟩, trivial⟩ trivial)
      show T.i _ _ = T.i _ _
      rw [w64 (by omega) (by omega)]; simp
  · have e : i = l.length := by omega
    subst e
    rw [show wdT l.length = .ref 18 0 0 l.length by unfold wdT; rw [if_neg (by omega)], show wdH l l.length = [(18, 0, .row true (.row 1 9) ((l.take l.length).map .s))] by unfold wdH; rw [if_neg (by omega)], List.take_length]
    refine gF [.f] rfl (rd_exit rfl ?_)
    refine g_frz 18 rfl ?_
    refine gF [] rfl (ret_of rfl ?_ trivial trivial)
    show T.sl _ _ = T.sl _ _
    rw [List.take_of_length_le (by simp)]
end Go.Proofs.YtipomdmlkkifcaaGreatDoor.Vm
/- Contracts: sched.Keys, aes.New. -/
set_option maxRecDepth 100000
namespace Go.Proofs.YtipomdmlkkifcaaGreatDoor.Vm
open Go Go.Proofs Go.RowKit
variable {ml : Int}
theorem xKeys (key : List UInt8) (h : nRounds key.length ≠ 0) : Ret P (C ml) 223 [.s key] (.tup [.sl (keysL key).length ((keysL key).map .s), .i .i64 0]) := by
  have hk := nR_pos h
  have hRn : nRounds key.length ≤ 14 := by unfold nRounds; split <;> omega
  obtain ⟨e1, e2⟩ := keysL_pieces h
  have hl := wordsL_length key
  have hkl := keysL_length key
  have k1 := pRounds (ml := ml) key.length (by omega)
  have k2 := xWords (ml := ml) key h
  have k3 := oJoin (ml := ml) (wordsL key) (by omega) (by omega)
  have k0 := hret_ren 17 11 (oPieces (ml := ml) 16 (wordsL key).flatten (by decide) (by decide) (by omega) (by omega))
  have e3 : ((wordsL key).flatten.length + 16 - 1) / 16 = (keysL key).length := by omega
  rw [e1, e3] at k0
  have k4 : HRet P (C ml) 151 [.s (wordsL key).flatten, .i .i64 16] [] (.ref 11 0 0 (keysL key).length) [(11, 0, .row true (.row 1 9) ((keysL key).map .s))] := by
    simp only [renL, renH, renT, renO, renL_texts, show sw 17 11 17 = 11 from rfl] at k0
    exact k0
  clear k0 e1 e2 e3 hkl
  have c1 : ((nRounds key.length : Int) == 0) = false := by simp; omega
  generalize (wordsL key).flatten = f at *
  generalize wordsL key = l at *
  generalize keysL key = ks at *
  generalize nRounds key.length = r at *
  refine hR Tryz.func223 ?_
  refine g_end_frz 11 ?_
  refine gF [cc k1, .f, cc k2, cc k3, ch k4] rfl ⟨rfl, _, _, rfl, ret_of rfl ?_ trivial trivial⟩
  refine ⟨?_, rfl, rfl⟩
  show T.sl _ _ = T.sl _ _
  rw [List.take_of_length_le (by simp)]
theorem aNew (key : List UInt8) (h : nRounds key.length ≠ 0) : Ret P (C ml) 149 [.s key] (.tup [cph key.length (keysL key) (bytesT (tB 256)), .i .i64 0]) := by
  have k1 := xKeys (ml := ml) key h
  have k2 := aReady (ml := ml)
  generalize keysL key = ks at *
  generalize bytesT (tB 256) = tb at *
  refine hR Tryz.func149 ?_
  refine g_end_frz 19 ?_
  refine gF [cc k1, .f, cc k2] rfl ⟨rfl, _, _, rfl, ret_of rfl ?_ trivial trivial⟩
  exact ⟨rfl, rfl, rfl⟩
end Go.Proofs.YtipomdmlkkifcaaGreatDoor.Vm
/- Contracts: cbc.ready, Encrypt, Decrypt. -/
set_option maxRecDepth 100000
namespace Go.Proofs.YtipomdmlkkifcaaGreatDoor.Vm
open Go Go.Proofs Go.RowKit
variable {ml : Int}
theorem cReady (key iv s : List UInt8) (n : Nat) (h : nRounds key.length ≠ 0) (hi : iv.length = 16) (hs : s.length = 16 * n) : Ret P (C ml) 156 [.s key, .s iv, .s s] (.tup [cph key.length (keysL key) (bytesT (tB 256)), .i .i64 0]) := by
  have k1 := aNew (ml := ml) key h
  have c1 : ((iv.length : Int) != 16) = false := by simp; omega
  have c2 : (((s.length : Int)).tmod 16 != 0) = false := by rw [Int.tmod_eq_emod_of_nonneg (by omega)]; simp; omega
  generalize keysL key = ks at *
  generalize bytesT (tB 256) = tb at *
  refine hR Tryz.func156 ?_
  refine gF [cc k1, .f, .f, .f] rfl (ret_of rfl ?_ trivial trivial)
  exact ⟨rfl, rfl, rfl⟩
theorem blk_at (s : List UInt8) (n i : Nat) (hn : (s.length + 16 - 1) / 16 = n) (h : i < n) : ((piecesL 16 s).map T.s)[0 + ((i : Int)).toNat * 1]? = some (.s (blkL s i)) := by
  rw [show 0 + ((i : Int)).toNat * 1 = i by omega, List.getElem?_map, piecesL, hn, pT, List.getElem?_map, List.getElem?_range h]; rfl
theorem oPc (id : Nat) (s : List UInt8) (n : Nat) (hn : (s.length + 16 - 1) / 16 = n) (h0 : 1 ≤ s.length) (hs : s.length ≤ 100000) (h17 : 17 < id) : HRet P (C ml) 151 [.s s, .i .i64 16] [] (.ref id 0 0 n) [(id, 0, .row true (.row 1 9) ((piecesL 16 s).map .s))] := by
  have k0 := hret_ren 17 id (oPieces (ml := ml) 16 s (by decide) (by decide) h0 hs)
  rw [hn] at k0
  simp only [renL, renH, renT, renO, renL_texts, show sw 17 id 17 = id by rw [sw_if]; simp] at k0
  exact k0
theorem cEnc (key iv s : List UInt8) (n : Nat) (h : nRounds key.length ≠ 0) (hi : iv.length = 16) (hs : s.length = 16 * n) (hn : 1 ≤ n) (hn2 : n ≤ 1000) : Ret P (C ml) 88 [.s key, .s iv, .s s] (.tup [.s (cbcE (encK key) iv s), .i .i64 0]) := by
  have k1 := cReady (ml := ml) key iv s n h hi hs
  have hko := keysL_ok h
  have hkl := keysL_length key
  have hRn : nRounds key.length ≤ 14 := by unfold nRounds; split <;> omega
  have t2 := twoK h
  have hen : (s.length + 16 - 1) / 16 = n := by omega
  have k2 := oPc (ml := ml) 130 s n hen (by omega) (by omega) (by decide)
  have hk : ∀ x : List UInt8, x.length = 16 → Ret P (C ml) 154 [cph key.length (keysL key) (bytesT (tB 256)), .s x] (.tup [.s (encK key x), .i .i64 0]) := fun x hx => aesE key.length (keysL key) (bytesT (tB 256)) x hko (by omega) tabsT hx
  have he : cbcE (encK key) iv s = catL (fun j => encAt (encK key) iv s (j + 1)) n := by unfold cbcE; rw [hs, show 16 * n / 16 = n by omega]
  rw [he]
  have hel := fun i (hin : i ≤ n) => encAt_length t2 hi hs i hin
  have hbl := fun i (hin : i < n) => blkL_length hs hin
  have hcl : ∀ i, i ≤ n → (catL (fun j => encAt (encK key) iv s (j + 1)) i).length = 16 * i := fun i hin => catL_length fun j hj => hel (j + 1) (by omega)
  have hba := fun i (hin : i < n) => blk_at s n i hen hin
  have hes : ∀ i, encAt (encK key) iv s (i + 1) = encK key (xorL (blkL s i) (encAt (encK key) iv s i)) := fun i => rfl
  generalize keysL key = ks at *
  generalize bytesT (tB 256) = tb at *
  generalize piecesL 16 s = pcs at *
  clear hko hkl hRn
  have zb : (tin (C ml) 5).bytes = 1 := rfl
  have q3 : (s.length : Int) * (tin (C ml) 5).bytes ≤ 281474976710656 := by rw [zb]; omega
  refine hR Tryz.func88 ?_
  refine gR [cc k1, .f, ch k2] rfl ?_
  refine g_loop (fun i : Nat => [(1, .s (encAt (encK key) iv s i)), (8, cph key.length ks tb), (10, .ref 25 0 0 (16 * i)), (27, .ref 130 0 0 n), (28, .i .i64 n), (29, .i .i64 i)]) (fun i => [(25, 0, .row true (.row 1 5) (bytesT (catL (fun j => encAt (encK key) iv s (j + 1)) i))), (130, 0, .row true (.row 1 9) (pcs.map .s))]) (fun i => i ≤ n) (fun i => n - i) 0 ⟨⟨rfl, rfl, ⟨rfl, rfl, rfl, rfl, rfl⟩, ⟨rfl, rfl, rfl, rfl, rfl⟩, rfl, rfl, trivial⟩, ⟨⟨rfl, rfl, trivial⟩, ⟨rfl, rfl, trivial⟩, trivial⟩, trivial⟩ (by omega) ?_
  intro i hin
  clear k1 k2 q3
  by_cases hil : i < n
  · have c1 : decide ((i : Int) < (n : Int)) = true := decide_eq_true (by omega)
    have h1 : (pcs.map T.s)[0 + ((i : Int)).toNat * (tin (C ml) 9).size]? = some (.s (blkL s i)) := hba i hil
    have l1 := hbl i hil
    have l2 := hel i hin
    have l3 := hel (i + 1) (by omega)
    have l4 := hcl i hin
    have k3 := oXor (ml := ml) (blkL s i) (encAt (encK key) iv s i) (by omega) (by omega)
    have k4 := hk (xorL (blkL s i) (encAt (encK key) iv s i)) (by rw [xorL_length, l1, l2]; rfl)
    rw [← hes] at k4
    have ec : catL (fun j => encAt (encK key) iv s (j + 1)) (i + 1) = catL (fun j => encAt (encK key) iv s (j + 1)) i ++ encAt (encK key) iv s (i + 1) := rfl
    have q5 : 16 * i * 1 = (bytesT (catL (fun j => encAt (encK key) iv s (j + 1)) i)).length := by rw [bytesT_length, l4]; omega
    have q6 : (encAt (encK key) iv s (i + 1)).length * 1 = (bytesT (encAt (encK key) iv s (i + 1))).length := by rw [bytesT_length]; omega
    have q7 : (16 * i + (encAt (encK key) iv s (i + 1)).length) * (tin (C ml) 5).bytes ≤ 140737488355328 := by rw [zb]; omega
    have q8 : plainL (bytesT (encAt (encK key) iv s (i + 1))) = true := bytesT_plain _
    clear hk hes hba hbl hel hcl
    generalize hx1 : catL (fun j => encAt (encK key) iv s (j + 1)) (i + 1) = c1x at *
    generalize catL (fun j => encAt (encK key) iv s (j + 1)) i = c0x at *
    generalize hx2 : encAt (encK key) iv s (i + 1) = e1 at *
    generalize encAt (encK key) iv s i = e0 at *
    generalize blkL s i = b at *
    refine gF [.t, ld1 h1, cc k3, cc k4] rfl (rd_next (i + 1) (by omega) (by omega) ⟨?_, rfl, ⟨rfl, rfl, ?_, rfl, rfl⟩, ⟨rfl, rfl, rfl, rfl, rfl⟩, rfl, ?_, trivial⟩ ⟨⟨rfl, ?_, trivial⟩, ⟨rfl, rfl, trivial⟩, trivial⟩ trivial)
    · exact congrArg T.s hx2.symm
    · show 16 * i + e1.length = 16 * (i + 1)
      omega
    · show T.i _ _ = T.i _ _
      rw [w64 (by omega) (by omega)]; simp
    · show bytesT c0x ++ bytesT e1 = bytesT (catL (fun j => encAt (encK key) iv s (j + 1)) (i + 1))
      rw [hx1, ec]; simp [bytesT]
  · have e : i = n := by omega
    subst e
    have c1 : decide ((i : Int) < (i : Int)) = false := decide_eq_false (by omega)
    refine gF [.f] rfl (rd_exit rfl ?_)
    have l4 := hcl i (Nat.le_refl _)
    generalize catL (fun j => encAt (encK key) iv s (j + 1)) i = w at *
    have hb : List.take (16 * i * szOf (.row 1 5)) (List.drop 0 (bytesT w)) = bytesT w := List.take_of_length_le (by rw [List.drop_zero, bytesT_length, l4]; exact Nat.le_of_eq (Nat.mul_one _).symm)
    refine gF [ldb hb] rfl (ret_of rfl ?_ trivial trivial)
    exact ⟨rfl, rfl, rfl⟩
end Go.Proofs.YtipomdmlkkifcaaGreatDoor.Vm
/- Contracts: cbc.Decrypt. -/
set_option maxRecDepth 100000
namespace Go.Proofs.YtipomdmlkkifcaaGreatDoor.Vm
open Go Go.Proofs Go.RowKit
variable {ml : Int}
theorem xorL_app : ∀ (a b c : List UInt8), xorL (a ++ b) c = xorL a c ++ xorL b (c.drop a.length)
  | [], b, c => by simp [xorL]
  | x :: a, b, [] => by simp [xorL]
  | x :: a, b, y :: c => by
    have := xorL_app a b c
    simp only [xorL] at this
    simp [xorL, this]
theorem xorL_take : ∀ (a c : List UInt8), xorL a c = xorL a (c.take a.length)
  | [], c => by simp [xorL]
  | x :: a, [] => by simp [xorL]
  | x :: a, y :: c => by
    have := xorL_take a c
    simp only [xorL] at this
    simp [xorL, ← this]
theorem xorL_catL {f : Nat → List UInt8} {iv s : List UInt8} (hi : iv.length = 16) : ∀ {n : Nat}, (∀ i, i < n → (f i).length = 16) → xorL (catL f n) (iv ++ s) = catL (fun i => xorL (f i) (aheadL iv s i)) n
  | 0, _ => by simp [catL, xorL]
  | n + 1, h => by
    have ih := xorL_catL (f := f) (s := s) hi (n := n) fun i hh => h i (by omega)
    have hl := catL_length (f := f) (n := n) fun i hh => h i (by omega)
    have ha : ((iv ++ s).drop (16 * n)).take 16 = aheadL iv s n := by
      unfold aheadL blkL
      cases n with
      | zero => rw [if_pos rfl, Nat.mul_zero, List.drop_zero, List.take_append_of_le_length (by omega), List.take_of_length_le (by omega)]
      | succ n => rw [if_neg (by omega), List.drop_append, List.drop_of_length_le (by omega), List.nil_append, hi, show 16 * (n + 1) - 16 = 16 * (n + 1 - 1) by omega]
    rw [catL, catL, xorL_app, ih, hl, xorL_take (f n), h n (by omega), ha]
theorem cDec (key iv s : List UInt8) (n : Nat) (h : nRounds key.length ≠ 0) (hi : iv.length = 16) (hs : s.length = 16 * n) (hn : 1 ≤ n) (hn2 : n ≤ 1000) : Ret P (C ml) 99 [.s key, .s iv, .s s] (.tup [.s (cbcD (decK key) iv s), .i .i64 0]) := by
  have k1 := cReady (ml := ml) key iv s n h hi hs
  have hko := keysL_ok h
  have hkl := keysL_length key
  have hRn : nRounds key.length ≤ 14 := by unfold nRounds; split <;> omega
  have t2 := twoK h
  have hen : (s.length + 16 - 1) / 16 = n := by omega
  have k2 := oPc (ml := ml) 130 s n hen (by omega) (by omega) (by decide)
  have hk : ∀ x : List UInt8, x.length = 16 → Ret P (C ml) 166 [cph key.length (keysL key) (bytesT (tB 256)), .s x] (.tup [.s (decK key x), .i .i64 0]) := fun x hx => aDec key.length (keysL key) (bytesT (tB 256)) x hko (by omega) tabsT hx
  have hbl := fun i (hin : i < n) => blkL_length hs hin
  have hcl : ∀ i, i ≤ n → (catL (fun j => decK key (blkL s j)) i).length = 16 * i := fun i hin => catL_length fun j hj => t2.d16 _ (hbl j (by omega))
  have hba := fun i (hin : i < n) => blk_at s n i hen hin
  have hfin : xorL (catL (fun j => decK key (blkL s j)) n) (iv ++ s) = cbcD (decK key) iv s := by
    unfold cbcD
    rw [hs, show 16 * n / 16 = n by omega]
    exact xorL_catL hi fun i hh => t2.d16 _ (hbl i hh)
  have k5 := oXor (ml := ml) (catL (fun j => decK key (blkL s j)) n) (iv ++ s) (by rw [hcl n (Nat.le_refl _)]; omega) (by rw [List.length_append]; omega)
  rw [hfin] at k5
  have hd16 : ∀ i, i < n → (decK key (blkL s i)).length = 16 := fun i hh => t2.d16 _ (hbl i hh)
  generalize keysL key = ks at *
  generalize bytesT (tB 256) = tb at *
  generalize piecesL 16 s = pcs at *
  clear hko hkl hRn
  have zb : (tin (C ml) 5).bytes = 1 := rfl
  have q3 : (s.length : Int) * (tin (C ml) 5).bytes ≤ 281474976710656 := by rw [zb]; omega
  refine hR Tryz.func99 ?_
  refine gR [cc k1, .f, ch k2] rfl ?_
  refine g_loop (fun i : Nat => [(1, .s iv), (2, .s s), (8, cph key.length ks tb), (10, .ref 27 0 0 (16 * i)), (29, .ref 130 0 0 n), (30, .i .i64 n), (31, .i .i64 i)]) (fun i => [(27, 0, .row true (.row 1 5) (bytesT (catL (fun j => decK key (blkL s j)) i))), (130, 0, .row true (.row 1 9) (pcs.map .s))]) (fun i => i ≤ n) (fun i => n - i) 0 ⟨⟨rfl, rfl, rfl, ⟨rfl, rfl, rfl, rfl, rfl⟩, ⟨rfl, rfl, rfl, rfl, rfl⟩, rfl, rfl, trivial⟩, ⟨⟨rfl, rfl, trivial⟩, ⟨rfl, rfl, trivial⟩, trivial⟩, trivial⟩ (by omega) ?_
  intro i hin
  clear k1 k2 q3
  by_cases hil : i < n
  · have c1 : decide ((i : Int) < (n : Int)) = true := decide_eq_true (by omega)
    have h1 : (pcs.map T.s)[0 + ((i : Int)).toNat * (tin (C ml) 9).size]? = some (.s (blkL s i)) := hba i hil
    have l1 := hbl i hil
    have l3 := hd16 i hil
    have l4 := hcl i hin
    have k4 := hk (blkL s i) l1
    have ec : catL (fun j => decK key (blkL s j)) (i + 1) = catL (fun j => decK key (blkL s j)) i ++ decK key (blkL s i) := rfl
    have q5 : 16 * i * 1 = (bytesT (catL (fun j => decK key (blkL s j)) i)).length := by rw [bytesT_length, l4]; omega
    have q6 : (decK key (blkL s i)).length * 1 = (bytesT (decK key (blkL s i))).length := by rw [bytesT_length]; omega
    have q7 : (16 * i + (decK key (blkL s i)).length) * (tin (C ml) 5).bytes ≤ 140737488355328 := by rw [zb]; omega
    have q8 : plainL (bytesT (decK key (blkL s i))) = true := bytesT_plain _
    clear hk hba hbl hcl hd16 hfin k5
    generalize hx1 : catL (fun j => decK key (blkL s j)) (i + 1) = c1x at *
    generalize catL (fun j => decK key (blkL s j)) i = c0x at *
    generalize decK key (blkL s i) = e1 at *
    generalize blkL s i = b at *
    refine gF [.t, ld1 h1, cc k4] rfl (rd_next (i + 1) (by omega) (by omega) ⟨rfl, rfl, rfl, ⟨rfl, rfl, ?_, rfl, rfl⟩, ⟨rfl, rfl, rfl, rfl, rfl⟩, rfl, ?_, trivial⟩ ⟨⟨rfl, ?_, trivial⟩, ⟨rfl, rfl, trivial⟩, trivial⟩ trivial)
    · show 16 * i + e1.length = 16 * (i + 1)
      omega
    · show T.i _ _ = T.i _ _
      rw [w64 (by omega) (by omega)]; simp
    · show bytesT c0x ++ bytesT e1 = bytesT (catL (fun j => decK key (blkL s j)) (i + 1))
      rw [hx1, ec]; simp [bytesT]
  · have e : i = n := by omega
    subst e
    have c1 : decide ((i : Int) < (i : Int)) = false := decide_eq_false (by omega)
    refine gF [.f] rfl (rd_exit rfl ?_)
    have l4 := hcl i (Nat.le_refl _)
    clear hfin hk hcl hba hd16
    generalize catL (fun j => decK key (blkL s j)) i = w at *
    have hb : List.take (16 * i * szOf (.row 1 5)) (List.drop 0 (bytesT w)) = bytesT w := List.take_of_length_le (by rw [List.drop_zero, bytesT_length, l4]; exact Nat.le_of_eq (Nat.mul_one _).symm)
    refine gF [ldb hb, cc k5] rfl (ret_of rfl ?_ trivial trivial)
    exact ⟨rfl, rfl, rfl⟩
end Go.Proofs.YtipomdmlkkifcaaGreatDoor.Vm
