/- Texts of one proof, gathered: Digits Undec Plain02. -/
import Derived.Test.YtipomdmlkkifcaaGreatDoorPart7
import Derived.Laws.RangeAny
set_option linter.unusedSimpArgs false
set_option linter.unusedVariables false
set_option linter.unnecessarySimpa false
/- Contracts: claviger/digits. -/
namespace Go.Proofs.YtipomdmlkkifcaaGreatDoor.Vm
open Go Go.Proofs Go.RowKit
variable {ml : Int}
set_option maxRecDepth 100000 in
theorem indexByte_signs (c : Int) (h0 : 0 ≤ c) (h1 : c < 256) : Lib.indexByte signs c.toNat.toUInt8 = hexv c := by
  obtain ⟨n, rfl⟩ : ∃ n : Nat, c = n := ⟨c.toNat, by omega⟩
  have h : n < 256 := by omega
  clear h0 h1
  revert n; decide
theorem dValue (c : Int) (h0 : 0 ≤ c) (h1 : c < 256) : Ret P (C ml) 194 [.i .u8 c] (.i .i64 (hexv c)) := by
  refine hR Tryz.func194 ?_
  have := indexByte (ml := ml) signs c
  rw [indexByte_signs c h0 h1] at this
  refine g_fin tab_ok mixed 3000 [.c (.i .i64 (hexv c)) [] []] rfl ⟨this, trivial⟩ (ret_of rfl (by simp [tle]) trivial trivial)
set_option maxRecDepth 100000 in
theorem dDec (n w : Int) (h1 : -9223372036854775808 ≤ n) (h2 : n ≤ 9223372036854775807) : Ret P (C ml) 218 [.i .i64 n, .i .i64 w] (.s (decW n w)) := by
  refine hR Tryz.func218 ?_
  by_cases c1 : n < 0
  · refine gFs [.t, .t] rfl (ret_of rfl ?_ trivial trivial)
    simp [tle, decW, c1]
  · by_cases c2 : w < 1
    · refine gFs [.f, .t, .t] rfl (ret_of rfl ?_ trivial trivial)
      simp [tle, decW, c2]
    · by_cases c3 : 18 < w
      · refine gFs [.f, .f, .t] rfl (ret_of rfl ?_ trivial trivial)
        simp [tle, decW, c3]
      · obtain ⟨N, rfl⟩ : ∃ N : Nat, n = N := ⟨n.toNat, by omega⟩
        have hd := decDigits_len N (by omega)
        have k1 := itoa1 (ml := ml) N (by omega) (by omega)
        rw [Lib.itoa_nonneg] at k1
        by_cases c4 : w < (Lib.decDigits N).length
        · refine gFs [.f, .f, .f, .c (.s (Lib.decDigits N)) [] [], .t] rfl (ret_of rfl ?_ trivial trivial)
          simp [tle, decW, c1, c2, c3, c4]
        · have k2 := repeat0 (ml := ml) (w.toNat - (Lib.decDigits N).length) (by omega)
          have e1 : IntKind.i64.wrap (w - ((Lib.decDigits N).length : Int)) = ((w.toNat - (Lib.decDigits N).length : Nat) : Int) := by rw [wrap_i64]; omega
          refine g_fin tab_ok mixed 3000 [.f, .f, .f, .c (.s (Lib.decDigits N)) [] [], .f, .c (.s (List.replicate (w.toNat - (Lib.decDigits N).length) 48)) [] []] rfl ?_ (ret_of rfl ?_ trivial trivial)
          · simp only [e1]
            (simp only [AllR]; (repeat' first | exact k1 | exact k2 | exact True.intro | (show (_ : Bool) = _; assumption) | omega | apply And.intro); all_goals first | (simp; done) | (simp; omega) | (simp_all; done) | exact Nat.le_of_ble_eq_true rfl | kernel_rfl)
          · simp [tle, decW, c1, c2, c3, c4]
theorem dHex (s : List UInt8) (hs : s.length ≤ 1000000) : Ret P (C ml) 31 [.s s] (.s (hexs s)) := by
  refine hR Tryz.func31 ?_
  have e0 : IntKind.i64.wrap (2 * (s.length : Int)) = 2 * (s.length : Int) := by rw [wrap_i64]; omega
  refine g_run tab_ok mixed 3000 [] rfl ?_ ?_
  · simp only [AllR, e0]
    exact ⟨⟨by omega, by omega, by rw [show (tin (C ml) 5).bytes = 1 from rfl]; omega, by omega⟩, trivial⟩
  · refine g_loop (fun i : Nat => [(0, .s s), (3, .ref 8 0 0 (2 * i)), (10, .i .i64 s.length), (11, .i .i64 i)]) (fun i => [(8, 0, .row true 1 (bytesT (hexs (s.take i))))]) (fun i => i ≤ s.length) (fun i => s.length - i) 0 ⟨⟨rfl, ⟨rfl, rfl, rfl, rfl, rfl⟩, rfl, rfl, trivial⟩, ⟨⟨rfl, rfl, trivial⟩, trivial⟩, trivial⟩ (by omega) ?_
    intro i h1
    by_cases hi : i < s.length
    · have e0 := hexs_take s i hi
      have e1 : bt s i = ((s.getD i 0).toNat : Int) := rfl
      have hn := (s.getD i 0).toNat_lt
      revert e0 e1 hn
      generalize (s.getD i 0).toNat = n
      intro e0 e1 hn
      have f1 : (n : Int).fdiv (2 ^ min (Int.toNat 4) IntKind.u8.bits) = ((n / 16 : Nat) : Int) := by
        show (n : Int).fdiv 16 = _
        rw [Int.fdiv_eq_ediv_of_nonneg _ (by omega)]; rfl
      have f2 : bitsI .and .u8 (n : Int) 15 = ((n % 16 : Nat) : Int) := by
        have := bitsI_and .u8 n 15 (by simpa using hn) (by decide)
        rw [show n &&& 15 = n % 16 from Nat.and_two_pow_sub_one_eq_mod n 4] at this
        exact this.trans (by rw [wrap_u8]; omega)
      have hz : (tin (C ml) 5).size = 1 := rfl
      have hl := hexs_length (s.take i)
      rw [List.length_take, Nat.min_eq_left (by omega)] at hl
      refine g_fin tab_ok mixed 3000 [.t] rfl ?_ (rd_next (i + 1) (by omega) (by omega) ⟨rfl, ⟨rfl, rfl, ?_, rfl, rfl⟩, rfl, ?_, trivial⟩ ⟨⟨rfl, ?_, trivial⟩, trivial⟩ trivial)
      · simp only [AllR, e1, f1, f2, hz]
        refine ⟨by simp; omega, ⟨by omega, by omega⟩, by omega, ⟨by omega, by simp; omega⟩, ⟨by omega, by omega⟩, ⟨by omega, by simp; omega⟩, ⟨by simp [bytesT, hl], by simp [hz], ?_, by omega, rfl⟩, by kernel_rfl, trivial⟩
        rw [show (tin (C ml) 5).bytes = 1 from rfl]; omega
      · omega
      · show T.i _ _ = T.i _ _
        rw [w64 (by omega) (by omega)]; simp
      · simp only [e1, f1, f2]
        rw [e0]
        have t1 : ((n : Int) / 16).toNat = n / 16 := by omega
        have t2 : ((n : Int) % 16).toNat = n % 16 := by omega
        simp [bytesT, bt, signs, hz, t1, t2]
    · obtain rfl : i = s.length := by omega
      refine g_fin tab_ok mixed 3000 [.f] rfl ⟨by simp, trivial⟩ (rd_exit rfl ?_)
      refine g_fin tab_ok mixed 3000 [.l (hexs s)] rfl ?_ (ret_of rfl (by simp [tle]) trivial trivial)
      rw [List.take_length]
      refine ⟨⟨?_, by rw [hexs_length]⟩, trivial⟩
      rw [List.drop_zero, List.take_of_length_le]
      simp [bytesT, hexs_length]
theorem pair_val (a b : Nat) (ha : a < 16) (hb : b < 16) : IntKind.u8.wrap (bitsI .or .i64 (IntKind.i64.wrap ((a : Int) * 2 ^ (min (4 : Int).toNat IntKind.i64.bits))) b) = 16 * (a : Int) + b := by
  have : ∀ a, a < 16 → ∀ b, b < 16 → IntKind.u8.wrap (bitsI .or .i64 (IntKind.i64.wrap ((a : Nat) * 2 ^ (min (4 : Int).toNat IntKind.i64.bits))) (b : Nat)) = 16 * ((a : Nat) : Int) + (b : Nat) := by decide
  exact this a ha b hb
theorem dUnhex (t : List UInt8) (ht : t.length ≤ 1000000) : Ret P (C ml) 122 [.s t] (.tup [.s ((unhexO t).getD []), .b (unhexO t).isSome]) := by
  refine hR Tryz.func122 ?_
  have b1 : bitsI .and .i64 (t.length : Int) 1 = ((t.length % 2 : Nat) : Int) := by
    have := bitsI_and .i64 t.length 1 (Nat.lt_of_le_of_lt ht (by decide)) (by decide)
    rw [show t.length &&& 1 = t.length % 2 from Nat.and_two_pow_sub_one_eq_mod _ 1] at this
    exact this.trans (by rw [wrap_i64]; omega)
  by_cases ho : t.length % 2 = 0
  · have b2 : IntKind.i64.wrap ((t.length : Int).tdiv 2) = ((t.length / 2 : Nat) : Int) := by
      rw [show (t.length : Int).tdiv 2 = ((t.length / 2 : Nat) : Int) from rfl, wrap_i64]; omega
    refine g_run tab_ok mixed 3000 [.f] rfl ?_ ?_
    · simp only [AllR, b1, b2]
      exact ⟨by rw [ho]; rfl, by omega, ⟨by omega, by omega, by rw [show (tin (C ml) 5).bytes = 1 from rfl]; omega, by omega⟩, trivial⟩
    · have hz : (tin (C ml) 5).size = 1 := rfl
      refine g_loop (fun x : Nat × List UInt8 => [(0, .s t), (4, .ref 14 0 0 (t.length / 2)), (16, .i .i64 (t.length / 2 : Nat)), (17, .i .i64 x.1)]) (fun x => [(14, 0, .row true 1 (bytesT (x.2 ++ List.replicate (t.length / 2 - x.1) 0)))]) (fun x => x.1 ≤ t.length / 2 ∧ x.2.length = x.1 ∧ unhexO t = (unhexO (t.drop (2 * x.1))).map (x.2 ++ ·)) (fun x => t.length / 2 - x.1) (0, [])
        ⟨⟨rfl, ⟨rfl, rfl, ?_, rfl, rfl⟩, ?_, rfl, trivial⟩, ⟨⟨rfl, ?_, trivial⟩, trivial⟩, trivial⟩ ⟨by omega, rfl, by simp⟩ ?_
      · rw [b2]; simp; omega
      · rw [b2]; simp [tle]; omega
      · rw [b2]; simp [zeros, bytesT]; rfl
      · rintro ⟨i, o⟩ ⟨h1, h2, h3⟩
        dsimp only at h1 h2 h3
        by_cases hi : i < t.length / 2
        · have w1 : IntKind.i64.wrap (2 * (i : Int)) = ((2 * i : Nat) : Int) := by rw [w64 (by omega) (by omega)]; omega
          have w2 : IntKind.i64.wrap (((2 * i : Nat) : Int) + 1) = ((2 * i + 1 : Nat) : Int) := by rw [w64 (by omega) (by omega)]; omega
          have w3 : IntKind.i64.wrap ((i : Int) + 1) = ((i + 1 : Nat) : Int) := by rw [w64 (by omega) (by omega)]; omega
          rw [drop_two t (2 * i) (by omega), unhexO] at h3
          have ha : bt t ((2 * i : Nat) : Int) = ((t.getD (2 * i) 0).toNat : Int) := rfl
          have hb : bt t ((2 * i + 1 : Nat) : Int) = ((t.getD (2 * i + 1) 0).toNat : Int) := rfl
          rw [← ha, ← hb] at h3
          have v1 := dValue (ml := ml) (bt t (2 * i : Nat)) (bt_lo _ _) (bt_hi _ _)
          have v2 := dValue (ml := ml) (bt t (2 * i + 1 : Nat)) (bt_lo _ _) (bt_hi _ _)
          have hv1 := hexv_lo (bt t (2 * i : Nat))
          have hv2 := hexv_hi (bt t (2 * i : Nat))
          have hv3 := hexv_lo (bt t (2 * i + 1 : Nat))
          have hv4 := hexv_hi (bt t (2 * i + 1 : Nat))
          revert h3 v1 v2 hv1 hv2 hv3 hv4
          generalize hexv (bt t (2 * i : Nat)) = A
          generalize hexv (bt t (2 * i + 1 : Nat)) = B
          intro h3 v1 v2 hv1 hv2 hv3 hv4
          by_cases hneg : minI A B < 0
          · refine g_fin tab_ok mixed 3000 [.t, .c (.i .i64 A) [] [], .c (.i .i64 B) [] [], .a, .a, .t] rfl ?_ (rd_ret (ret_of rfl ?_ trivial trivial))
            · simp only [AllR, w1, w2]
              exact ⟨by simp; omega, ⟨by omega, by omega⟩, v1, ⟨by omega, by omega⟩, v2, Nat.le_of_ble_eq_true rfl, by kernel_rfl, ⟨by omega, by omega⟩, ⟨by omega, by omega⟩, by simpa using hneg, trivial⟩
            · have : A < 0 ∨ B < 0 := by unfold minI at hneg; split at hneg <;> omega
              rw [h3, if_pos this]; simp [tle, tleL]
          · have hA : ¬ (A < 0 ∨ B < 0) := by unfold minI at hneg; split at hneg <;> omega
            rw [if_neg hA] at h3
            obtain ⟨a, rfl⟩ : ∃ a : Nat, A = a := ⟨A.toNat, by omega⟩
            obtain ⟨b, rfl⟩ : ∃ b : Nat, B = b := ⟨B.toNat, by omega⟩
            have hv := pair_val a b (by omega) (by omega)
            refine g_fin tab_ok mixed 3000 [.t, .c (.i .i64 a) [] [], .c (.i .i64 b) [] [], .a, .a, .f, .a, .a] rfl ?_ (rd_next (i + 1, o ++ [UInt8.ofNat (16 * (a : Int) + b).toNat]) ⟨by omega, by simp; omega, ?_⟩ (by simp; omega) ⟨rfl, ⟨rfl, rfl, rfl, rfl, rfl⟩, rfl, ?_, trivial⟩ ⟨⟨rfl, ?_, trivial⟩, trivial⟩ trivial)
            · simp only [AllR, w1, w2, hz]
              exact ⟨by simp; omega, ⟨by omega, by omega⟩, v1, ⟨by omega, by omega⟩, v2, Nat.le_of_ble_eq_true rfl, by kernel_rfl, ⟨by omega, by omega⟩, ⟨by omega, by omega⟩, by simpa using hneg, ⟨by omega, by omega⟩, by omega, ⟨by omega, by omega⟩, ⟨by omega, by omega⟩, by simp [bytesT]; omega, trivial⟩
            · rw [h3, show 2 * (i + 1) = 2 * i + 2 by omega]; simp [Option.map_map]; congr 1
            · show T.i _ _ = T.i _ _
              rw [w3]
            · rw [hv]
              have e1 : t.length / 2 - i = (t.length / 2 - (i + 1)) + 1 := by omega
              have e2 : 0 + (i : Int).toNat * (tin (C ml) 5).size = o.length := by rw [hz]; simp [h2]
              rw [e2, e1, List.replicate_succ]
              simp [splice, cellsT, bytesT, List.set_append_right]
              omega
        · obtain rfl : i = t.length / 2 := by omega
          rw [List.drop_of_length_le (by omega)] at h3
          refine g_fin tab_ok mixed 3000 [.f] rfl ⟨by simp, trivial⟩ (rd_exit rfl ?_)
          refine g_fin tab_ok mixed 3000 [.l o] rfl ?_ (ret_of rfl ?_ trivial trivial)
          · refine ⟨⟨?_, h2.symm⟩, trivial⟩
            simp [bytesT, h2]
            exact List.take_of_length_le (by simp; omega)
          · rw [h3]; simp [tle, tleL, unhexO]
  · refine g_fin tab_ok mixed 3000 [.t] rfl ?_ (ret_of rfl ?_ trivial trivial)
    · simp only [AllR, b1]
      exact ⟨by rw [show t.length % 2 = 1 by omega]; rfl, trivial⟩
    · simp [unhexO_odd t (by omega), tle, tleL]
end Go.Proofs.YtipomdmlkkifcaaGreatDoor.Vm
/- Contracts: digits.cutLeft, cutRight, Undec. -/
namespace Go.Proofs.YtipomdmlkkifcaaGreatDoor.Vm
open Go Go.Proofs Go.RowKit
variable {ml : Int}
def tens : List UInt8 := [48, 49, 50, 51, 52, 53, 54, 55, 56, 57]
def isDig (c : UInt8) : Bool := decide (48 ≤ c.toNat ∧ c.toNat ≤ 57)
/-- One rune of the ten digits. -/
theorem tens_at (k : Nat) (h : k < 10) : Utf8.decode ⟨⟨tens⟩⟩ k = (48 + k, 1) := by
  revert k; decide
theorem decode_dig (s : List UInt8) (i : Nat) (h : i < s.length) : (48 ≤ (Utf8.decode ⟨⟨s⟩⟩ i).1 ∧ (Utf8.decode ⟨⟨s⟩⟩ i).1 < 58 ↔ isDig (s.getD i 0) = true) ∧ (isDig (s.getD i 0) = true → (Utf8.decode ⟨⟨s⟩⟩ i).2 = 1) := by
  have hsz : i < (⟨⟨s⟩⟩ : ByteArray).size := by simpa [ByteArray.size] using h
  have hb : ((⟨⟨s⟩⟩ : ByteArray)[i]'hsz) = s.getD i 0 := by
    show s[i] = _
    simp [h]
  by_cases ha : (s.getD i 0).toNat < 128
  · have := decode_ascii ⟨⟨s⟩⟩ i hsz (by rw [hb]; exact ha)
    rw [this, hb]
    simp only [isDig, decide_eq_true_eq]
    exact ⟨⟨fun h => by omega, fun h => by omega⟩, fun _ => trivial⟩
  · have := decode_high ⟨⟨s⟩⟩ i hsz (by rw [hb]; omega)
    simp only [isDig, decide_eq_true_eq]
    exact ⟨⟨fun h => by omega, fun h => by omega⟩, fun h => by omega⟩
theorem cutLeft (s : List UInt8) (hs : s.length ≤ 1000000) : Ret P (C ml) 250 [.s s, .s tens] (.s (s.dropWhile isDig)) := by
  refine hR Tryz.func250 ?_
  refine g_run tab_ok mixed 3000 [] rfl trivial ?_
  refine g_loop (fun i : Nat => [(0, .s s), (1, .s tens), (11, .p 11 0 0)]) (fun i => [(11, 0, .it s i)]) (fun i => i ≤ s.length ∧ s.dropWhile isDig = (s.drop i).dropWhile isDig) (fun i => s.length - i) 0
    ⟨⟨rfl, rfl, ⟨rfl, rfl, rfl, rfl⟩, trivial⟩, ⟨⟨rfl, rfl⟩, trivial⟩, trivial⟩ ⟨by omega, rfl⟩ ?_
  rintro i ⟨h1, h2⟩
  by_cases hi : i < s.length
  · refine g_run tab_ok mixed 3000 [.t] rfl ⟨by simpa using hi, trivial⟩ ?_
    obtain ⟨c, n, hD⟩ : ∃ c n, Utf8.decode ⟨⟨s⟩⟩ i = (c, n) := ⟨_, _, rfl⟩
    refine g_loop (fun k : Nat => [(0, .s s), (1, .s tens), (5, .i .i64 i), (6, .i .i32 c), (7, .b (decide (48 ≤ c ∧ c < 48 + k))), (11, .p 11 0 0), (17, .p 17 0 0)]) (fun k => [(11, 0, .it s (i + n)), (17, 0, .it tens k)]) (fun k => k ≤ 10) (fun k => 10 - k) 0
      ⟨⟨rfl, rfl, rfl, ?_, ?_, ⟨rfl, rfl, rfl, rfl⟩, ⟨rfl, rfl, rfl, rfl⟩, trivial⟩, ⟨⟨rfl, ?_⟩, ⟨rfl, rfl⟩, trivial⟩, trivial⟩ (by omega) ?_
    · rw [hD]; rfl
    · simp [tle]
    · rw [hD]
    · intro k hk
      by_cases hk10 : k < 10
      · have hdk := tens_at k hk10
        have hlt : decide (k < tens.length) = true := by simp [tens]; omega
        by_cases hin : 48 ≤ c ∧ c < 48 + k
        · refine g_fin tab_ok mixed 3000 [.t, .t] rfl ⟨hlt, by simpa using hin, by simpa using hin, trivial⟩ (rd_next (k + 1) (by omega) (by omega) ⟨rfl, rfl, rfl, rfl, ?_, ⟨rfl, rfl, rfl, rfl⟩, ⟨rfl, rfl, rfl, rfl⟩, trivial⟩ ⟨⟨rfl, rfl⟩, ⟨rfl, ?_⟩, trivial⟩ trivial)
          · exact .inr (congrArg T.bl (by simp; omega))
          · rw [hdk]
        · refine g_fin tab_ok mixed 3000 [.t, .f] rfl ⟨hlt, by simpa using hin, by simpa using hin, trivial⟩ (rd_next (k + 1) (by omega) (by omega) ⟨rfl, rfl, rfl, rfl, ?_, ⟨rfl, rfl, rfl, rfl⟩, ⟨rfl, rfl, rfl, rfl⟩, trivial⟩ ⟨⟨rfl, rfl⟩, ⟨rfl, ?_⟩, trivial⟩ trivial)
          · refine .inl (congrArg T.b ?_)
            rw [hdk, Bool.eq_iff_iff]; simp; omega
          · rw [hdk]
      · obtain rfl : k = 10 := by omega
        have hlt : decide (10 < tens.length) = false := by simp [tens]
        refine g_fin tab_ok mixed 3000 [.f] rfl ⟨hlt, trivial⟩ (rd_exit rfl ?_)
        obtain ⟨g1, g2⟩ := decode_dig s i hi
        rw [hD] at g1 g2
        dsimp only at g1 g2
        by_cases hin : isDig (s.getD i 0) = true
        · have hc := g1.2 hin
          obtain rfl := g2 hin
          refine g_fin tab_ok mixed 3000 [.f] rfl ⟨by simp; omega, trivial⟩ (rd_next (i + 1) ⟨by omega, ?_⟩ (by omega) ⟨rfl, rfl, ⟨rfl, rfl, rfl, rfl⟩, trivial⟩ ⟨⟨rfl, rfl⟩, trivial⟩ trivial)
          rw [h2, drop_one s i hi, List.dropWhile_cons, if_pos hin]
        · have hc : ¬ (48 ≤ c ∧ c < 58) := fun h => hin (g1.1 h)
          refine g_fin tab_ok mixed 3000 [.t] rfl ⟨by simp; omega, ⟨by omega, by omega⟩, trivial⟩ (rd_ret (ret_of rfl ?_ trivial trivial))
          rw [h2, drop_one s i hi, List.dropWhile_cons, if_neg hin, ← drop_one s i hi]; simp [tle]
  · obtain rfl : i = s.length := by omega
    refine g_fin tab_ok mixed 3000 [.f] rfl ⟨by simp, trivial⟩ (rd_exit rfl ?_)
    refine g_fin tab_ok mixed 3000 [] rfl trivial (ret_of rfl ?_ trivial trivial)
    rw [h2, List.drop_length]; simp [tle]
def cutR (s : List UInt8) : List UInt8 := (s.reverse.dropWhile isDig).reverse
theorem decodeLast_dig (l : List UInt8) (b : UInt8) : (48 ≤ (Lib.decodeLastL (l ++ [b])).1 ∧ (Lib.decodeLastL (l ++ [b])).1 < 58 ↔ isDig b = true) ∧ (isDig b = true → (Lib.decodeLastL (l ++ [b])).2 = 1) := by
  have hlast : (l ++ [b]).getD ((l ++ [b]).length - 1) 0 = b := by simp
  unfold Lib.decodeLastL
  rw [if_neg (by simp), hlast]
  by_cases hb : b.toNat < 128
  · rw [if_pos hb]
    simp only [isDig, decide_eq_true_eq]
    exact ⟨⟨fun h => by omega, fun h => by omega⟩, fun _ => trivial⟩
  · rw [if_neg hb]
    have hnd : ¬ isDig b = true := by simp [isDig]; omega
    refine ⟨⟨fun h => ?_, fun h => absurd h hnd⟩, fun h => absurd h hnd⟩
    exfalso
    revert h
    generalize Lib.lastStart (l ++ [b]) = S
    dsimp only
    by_cases hS : S < (l ++ [b]).length
    · obtain ⟨k1, k2⟩ := decode_dig ((l ++ [b]).drop S) 0 (by rw [List.length_drop]; omega)
      have e1 : ((l ++ [b]).drop S).getD 0 0 = (l ++ [b]).getD S 0 := by simp
      rw [e1] at k1 k2
      split
      · rename_i he
        intro h
        have h3 := k1.1 h
        have h4 : Lib.decodeL ((l ++ [b]).drop S) = Utf8.decode ⟨⟨(l ++ [b]).drop S⟩⟩ 0 := rfl
        rw [h4, k2 h3] at he
        have : S = l.length := by simp at he; omega
        subst this
        simp at h3
        exact hnd h3
      · intro h; simp [Utf8.runeError] at h
    · rw [List.drop_of_length_le (by omega)]
      split
      · intro h
        have : ¬ (48 ≤ (Lib.decodeL []).1) := by decide
        exact this h.1
      · intro h; simp [Utf8.runeError] at h
theorem cutR_snoc (l : List UInt8) (b : UInt8) : cutR (l ++ [b]) = if isDig b = true then cutR l else l ++ [b] := by
  unfold cutR
  rw [List.reverse_append]
  simp only [List.reverse_cons, List.reverse_nil, List.nil_append, List.singleton_append, List.dropWhile_cons]
  split
  · rfl
  · simp
theorem cutRight (s : List UInt8) (hs : s.length ≤ 1000000) : Ret P (C ml) 249 [.s s, .s tens] (.s (cutR s)) := by
  refine hR Tryz.func249 ?_
  refine g_run tab_ok mixed 3000 [] rfl trivial ?_
  refine g_loop (fun x : List UInt8 => [(0, .s x), (1, .s tens)]) (fun _ => []) (fun x => x.length ≤ s.length ∧ cutR s = cutR x) (fun x => x.length) s ⟨⟨rfl, rfl, trivial⟩, trivial, trivial⟩ ⟨by omega, rfl⟩ ?_
  rintro x ⟨h1, h2⟩
  by_cases hx : x = []
  · subst hx
    refine g_fin tab_ok mixed 3000 [.f] rfl ⟨by simp, trivial⟩ (rd_exit rfl ?_)
    refine g_fin tab_ok mixed 3000 [] rfl trivial (ret_of rfl ?_ trivial trivial)
    rw [h2]; simp [tle, cutR]
  · obtain ⟨l, b, rfl⟩ : ∃ l b, x = l ++ [b] := ⟨x.dropLast, x.getLast hx, (List.dropLast_concat_getLast hx).symm⟩
    have k1 := decodeLast (ml := ml) (l ++ [b]) (by omega)
    obtain ⟨g1, g2⟩ := decodeLast_dig l b
    revert k1 g1 g2
    generalize Lib.decodeLastL (l ++ [b]) = D
    obtain ⟨c, n⟩ := D
    dsimp only
    intro k1 g1 g2
    rw [cutR_snoc] at h2
    simp only [List.length_append, List.length_cons, List.length_nil] at h1
    refine g_run tab_ok mixed 3000 [.t, .c (.tup [.i .i32 c, .i .i64 n]) [] []] rfl ⟨by simp, k1, trivial⟩ ?_
    refine g_loop (fun k : Nat => [(0, .s (l ++ [b])), (1, .s tens), (5, .i .i32 c), (6, .i .i64 n), (7, .b (decide (48 ≤ c ∧ c < 48 + k))), (19, .p 19 0 0)]) (fun k => [(19, 0, .it tens k)]) (fun k => k ≤ 10) (fun k => 10 - k) 0
      ⟨⟨rfl, rfl, rfl, rfl, ?_, ⟨rfl, rfl, rfl, rfl⟩, trivial⟩, ⟨⟨rfl, rfl⟩, trivial⟩, trivial⟩ (by omega) ?_
    · simp [tle]
    · intro k hk
      by_cases hk10 : k < 10
      · have hdk := tens_at k hk10
        have hlt : decide (k < tens.length) = true := by simp [tens]; omega
        by_cases hin : 48 ≤ c ∧ c < 48 + k
        · refine g_fin tab_ok mixed 3000 [.t, .t] rfl ⟨hlt, by simpa using hin, by simpa using hin, trivial⟩ (rd_next (k + 1) (by omega) (by omega) ⟨rfl, rfl, rfl, rfl, ?_, ⟨rfl, rfl, rfl, rfl⟩, trivial⟩ ⟨⟨rfl, ?_⟩, trivial⟩ trivial)
          · exact .inr (congrArg T.bl (by simp; omega))
          · rw [hdk]
        · refine g_fin tab_ok mixed 3000 [.t, .f] rfl ⟨hlt, by simpa using hin, by simpa using hin, trivial⟩ (rd_next (k + 1) (by omega) (by omega) ⟨rfl, rfl, rfl, rfl, ?_, ⟨rfl, rfl, rfl, rfl⟩, trivial⟩ ⟨⟨rfl, ?_⟩, trivial⟩ trivial)
          · refine .inl (congrArg T.b ?_)
            rw [hdk, Bool.eq_iff_iff]; simp; omega
          · rw [hdk]
      · obtain rfl : k = 10 := by omega
        have hlt : decide (10 < tens.length) = false := by simp [tens]
        refine g_fin tab_ok mixed 3000 [.f] rfl ⟨hlt, trivial⟩ (rd_exit rfl ?_)
        by_cases hin : isDig b = true
        · have hc := g1.2 hin
          obtain rfl := g2 hin
          rw [if_pos hin] at h2
          refine g_fin tab_ok mixed 3000 [.f] rfl ?_ (rd_next l ⟨by omega, h2⟩ (by simp) ⟨?_, rfl, trivial⟩ trivial trivial)
          · exact ⟨by simp; omega, ⟨by simp; omega, by simp; omega⟩, trivial⟩
          · simp [tle]
            rw [show (((l.length : Int) + 9223372036854775808) % 18446744073709551616 - 9223372036854775808).toNat = l.length by omega]; simp
        · have hc : ¬ (48 ≤ c ∧ c < 58) := fun h => hin (g1.1 h)
          rw [if_neg hin] at h2
          refine g_fin tab_ok mixed 3000 [.t] rfl ⟨by simp; omega, trivial⟩ (rd_ret (ret_of rfl ?_ trivial trivial))
          rw [h2]; simp [tle]
theorem dropWhile_nil (l : List UInt8) : l.dropWhile isDig = [] ↔ l.all isDig = true := by
  induction l with
  | nil => simp
  | cons c t ih =>
    rw [List.dropWhile_cons]
    by_cases h : isDig c = true
    · rw [if_pos h, ih]; simp [h]
    · rw [if_neg h]; simp [h]
theorem cutR_nil (l : List UInt8) : cutR l = [] ↔ l.all isDig = true := by
  unfold cutR
  rw [List.reverse_eq_nil_iff, dropWhile_nil, List.all_reverse]
theorem cut_all (t : List UInt8) : cutR (t.dropWhile isDig) = [] ↔ t.all isDig = true := by
  rw [cutR_nil]
  induction t with
  | nil => simp
  | cons c t ih =>
    rw [List.dropWhile_cons]
    by_cases h : isDig c = true
    · rw [if_pos h, ih]; simp [h]
    · rw [if_neg h]
theorem isDig_hexv (c : UInt8) : isDig c = true ↔ ¬ (hexv c.toNat < 0 ∨ 9 < hexv c.toNat) := by
  obtain ⟨k1, k2⟩ := hexv_dig (c.toNat : Int)
  simp only [isDig, decide_eq_true_eq]
  constructor
  · intro h
    have := k1 (by omega)
    omega
  · intro h
    refine Classical.byContradiction fun h2 => h (k2 (by omega))
theorem decVal_some : ∀ (l : List UInt8) (n : Nat), (∃ u, decVal l n = some u) ↔ l.all isDig = true
  | [], n => by simp [decVal]
  | c :: l, n => by
    rw [decVal, List.all_cons]
    by_cases h : isDig c = true
    · rw [if_neg ((isDig_hexv c).1 h), decVal_some l]; simp [h]
    · rw [if_pos (Classical.not_not.1 fun h2 => h ((isDig_hexv c).2 h2))]; simp [h]
theorem atoiO_digits (t : List UInt8) (h1 : 1 ≤ t.length) (h18 : t.length ≤ 18) (h : t.all isDig = true) : ∃ u : Nat, decVal t 0 = some u ∧ atoiO t = some (u : Int) ∧ u < 1000000000000000000 := by
  obtain ⟨u, hu⟩ := (decVal_some t 0).2 h
  have hlt := pow_bound18 (decVal_lt t 0 0 u (by simp) hu) (by omega)
  refine ⟨u, hu, ?_, hlt⟩
  match t, h1, h, hu with
  | c :: l, _, h, hu =>
    have hc : isDig c = true := by simp at h; exact h.1
    have h0 : bt (c :: l) 0 = (c.toNat : Int) := rfl
    simp only [isDig, decide_eq_true_eq] at hc
    unfold atoiO
    rw [signO_none (by rw [h0]; omega) (by rw [h0]; omega), if_neg (by simp)]
    simp only [hu, Bool.false_eq_true, if_false]
    rw [if_pos (by omega)]
set_option maxRecDepth 100000 in
theorem dUndec (t : List UInt8) (ht : t.length ≤ 1000000) : Ret P (C ml) 199 [.s t] (.tup [.i .i64 (((undecO t).getD 0 : Nat) : Int), .b (undecO t).isSome]) := by
  refine hR Tryz.func199 ?_
  by_cases c1 : t = []
  · subst c1
    refine g_fin tab_ok mixed 3000 [.t] rfl ⟨rfl, rfl, trivial⟩ (ret_of rfl ?_ trivial trivial)
    simp [tle, tleL, undecO]
  · have hl : 1 ≤ t.length := by
      refine Nat.pos_of_ne_zero fun h => c1 (List.length_eq_zero_iff.1 h)
    have c1' : (t == []) = false := by simpa using c1
    by_cases c2 : 18 < t.length
    · refine gFs [.f, .t] rfl (ret_of rfl ?_ trivial trivial)
      simp [tle, tleL, undecO, c2]
    · have k1 := cutLeft (ml := ml) t ht
      have hdl : (t.dropWhile isDig).length ≤ 1000000 := Nat.le_trans (List.dropWhile_suffix _).length_le ht
      have k2 := cutRight (ml := ml) (t.dropWhile isDig) hdl
      have hu : undecO t = decVal t 0 := by rw [undecO, if_neg (by omega)]
      by_cases c3 : t.all isDig = true
      · obtain ⟨u, e1, e2, e3⟩ := atoiO_digits t hl (by omega) c3
        have k3 := atoi_ok (ml := ml) t ht u e2
        have z := (cut_all t).2 c3
        have h4 : (!(cutR (t.dropWhile isDig) == [])) = false := by simp [z]
        have h2 : Says P .eql 105 (.tmp 27) (.const .nilIface) .nif .nif true := says_nif_eql Tryz.underlying105
        refine gFs [.f, .f, .c (.s (t.dropWhile isDig)) [] [], .c (.s (cutR (t.dropWhile isDig))) [] [], .f, .c (.tup [.i .i64 u, .nif]) [] [], .v [.bl true]] rfl (ret_of rfl ?_ trivial trivial)
        rw [hu, e1]; simp [tle, tleL]
      · have z : cutR (t.dropWhile isDig) ≠ [] := fun h => c3 ((cut_all t).1 h)
        have h4 : (!(cutR (t.dropWhile isDig) == [])) = true := by simpa using z
        refine gFs [.f, .f, .c (.s (t.dropWhile isDig)) [] [], .c (.s (cutR (t.dropWhile isDig))) [] [], .t] rfl (ret_of rfl ?_ trivial trivial)
        have : decVal t 0 = none := by
          cases hd : decVal t 0 with
          | none => rfl
          | some u => exact absurd ((decVal_some t 0).1 ⟨u, hd⟩) c3
        rw [hu, this]; simp [tle, tleL]
end Go.Proofs.YtipomdmlkkifcaaGreatDoor.Vm
/- Plain laws on digits. -/
namespace Go.Proofs.YtipomdmlkkifcaaGreatDoor.Vm
open Go Go.Proofs
theorem sign_val (k : Nat) (h : k < 16) : hexv ((signs.getD k 0).toNat : Int) = k := by
  have : ∀ k : Fin 16, hexv ((signs.getD k 0).toNat : Int) = (k : Nat) := by decide
  exact this ⟨k, h⟩
theorem unhexO_hexs : ∀ s : List UInt8, unhexO (hexs s) = some s
  | [] => rfl
  | c :: s => by
    have hc := UInt8.toNat_lt c
    simp only [hexs]
    rw [unhexO, sign_val _ (by omega), sign_val _ (by omega), if_neg (by omega), unhexO_hexs s]
    simp only [Option.map_some, Option.some.injEq, List.cons.injEq, and_true]
    rw [show ((16 * ((c.toNat / 16 : Nat) : Int) + ((c.toNat % 16 : Nat) : Int)).toNat) = c.toNat from by omega]
    exact UInt8.ofNat_toNat
theorem val_sign (c : UInt8) (h : ¬ hexv (c.toNat : Int) < 0) : signs.getD (hexv (c.toNat : Int)).toNat 0 = c := by
  have hc := UInt8.toNat_lt c
  have : ∀ k : Fin 256, ¬ hexv ((UInt8.ofNat k).toNat : Int) < 0 → signs.getD (hexv ((UInt8.ofNat k).toNat : Int)).toNat 0 = UInt8.ofNat k := by decide +kernel
  have k := this ⟨c.toNat, hc⟩
  simp only [UInt8.ofNat_toNat] at k
  exact k h
theorem hexs_unhexO : ∀ (t z : List UInt8), unhexO t = some z → hexs z = t
  | [], z, h => by simp only [unhexO, Option.some.injEq] at h; subst h; rfl
  | [_], z, h => by simp [unhexO] at h
  | a :: b :: l, z, h => by
    rw [unhexO] at h
    split at h
    · cases h
    · rename_i hn
      cases hl : unhexO l with
      | none => rw [hl] at h; cases h
      | some y =>
        rw [hl] at h
        simp only [Option.map_some, Option.some.injEq] at h
        subst h
        have ih := hexs_unhexO l y hl
        have ha : ¬ hexv (a.toNat : Int) < 0 := fun x => hn (.inl x)
        have hb : ¬ hexv (b.toNat : Int) < 0 := fun x => hn (.inr x)
        have ua := hexv_hi a.toNat
        have ub := hexv_hi b.toNat
        have e : (UInt8.ofNat (16 * hexv a.toNat + hexv b.toNat).toNat).toNat = (16 * hexv a.toNat + hexv b.toNat).toNat := by
          rw [UInt8.toNat_ofNat']; omega
        simp only [hexs, e, ih]
        rw [show (16 * hexv a.toNat + hexv b.toNat).toNat / 16 = (hexv a.toNat).toNat from by omega, show (16 * hexv a.toNat + hexv b.toNat).toNat % 16 = (hexv b.toNat).toNat from by omega, val_sign a ha, val_sign b hb]
theorem decVal_zeros (k : Nat) (l : List UInt8) : decVal (List.replicate k 48 ++ l) 0 = decVal l 0 := by
  induction k with
  | zero => rfl
  | succ k ih =>
    rw [List.replicate_succ, List.cons_append, decVal, if_neg (by decide)]
    exact ih
theorem decW_back (n w : Int) (h : decW n w ≠ []) : 0 ≤ n ∧ undecO (decW n w) = some n.toNat ∧ ((decW n w).length : Int) = w ∧ (decW n w).length ≤ 18 := by
  unfold decW at h ⊢
  by_cases c1 : n < 0 ∨ w < 1 ∨ 18 < w
  · rw [if_pos c1] at h; exact absurd rfl h
  · rw [if_neg c1] at h ⊢
    by_cases c2 : w < (Lib.decDigits n.toNat).length
    · rw [if_pos c2] at h; exact absurd rfl h
    · rw [if_neg c2] at h ⊢
      have hl : (List.replicate (w.toNat - (Lib.decDigits n.toNat).length) (48 : UInt8) ++ Lib.decDigits n.toNat).length = w.toNat := by
        rw [List.length_append, List.length_replicate]; omega
      refine ⟨by omega, ?_, by omega, by omega⟩
      rw [undecO, if_neg (by omega), decVal_zeros, decVal_decDigits]
end Go.Proofs.YtipomdmlkkifcaaGreatDoor.Vm
