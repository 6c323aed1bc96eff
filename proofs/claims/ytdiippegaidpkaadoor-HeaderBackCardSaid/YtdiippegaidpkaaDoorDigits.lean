/- Contracts: claviger/digits. -/
import Derived.Test.YtdiippegaidpkaaDoorAtoi2
set_option linter.unusedVariables false
set_option linter.unusedSimpArgs false
set_option linter.unnecessarySimpa false
namespace Go.Proofs.YtdiippegaidpkaaDoor.Vm
open Go Go.Proofs Go.RowKit
variable {ml : Int}
set_option maxRecDepth 100000 in
theorem indexByte_signs (c : Int) (h0 : 0 ≤ c) (h1 : c < 256) : Lib.indexByte signs c.toNat.toUInt8 = hexv c := by
  obtain ⟨n, rfl⟩ : ∃ n : Nat, c = n := ⟨c.toNat, by omega⟩
  have h : n < 256 := by omega
  clear h0 h1
  revert n; decide
theorem dValue (c : Int) (h0 : 0 ≤ c) (h1 : c < 256) : Ret P (C ml) 13 [.i .u8 c] (.i .i64 (hexv c)) := by
  refine hret_of tab_ok Tryd.func13 rfl rfl (by kernel_rfl) rfl ?_
  have := indexByte (ml := ml) signs c
  rw [indexByte_signs c h0 h1] at this
  refine g_fin tab_ok mixed 3000 [.c (.i .i64 (hexv c)) [] []] rfl ⟨this, trivial⟩ (ret_of rfl (by simp [tle]) trivial trivial)
theorem dNum (n : Int) (h1 : -9223372036854775808 ≤ n) (h2 : n ≤ 9223372036854775807) : Ret P (C ml) 21 [.i .i64 n] (.s (Lib.itoa n)) := by
  refine hret_of tab_ok Tryd.func21 rfl rfl (by kernel_rfl) rfl ?_
  refine g_fin tab_ok mixed 3000 [.c (.s (Lib.itoa n)) [] []] rfl ⟨itoa1 n h1 h2, trivial⟩ (ret_of rfl (by simp [tle]) trivial trivial)
set_option maxRecDepth 100000 in
theorem dDec (n w : Int) (h1 : -9223372036854775808 ≤ n) (h2 : n ≤ 9223372036854775807) : Ret P (C ml) 19 [.i .i64 n, .i .i64 w] (.s (decW n w)) := by
  refine hret_of tab_ok Tryd.func19 rfl rfl (by kernel_rfl) rfl ?_
  by_cases c1 : n < 0
  · refine g_fin tab_ok mixed 3000 [.t, .t] rfl (by (simp only [AllR]; (repeat' first | exact True.intro | (show (_ : Bool) = _; assumption) | omega | apply And.intro); all_goals first | (simp; done) | (simp; omega) | (simp_all; done) | exact Nat.le_of_ble_eq_true rfl | kernel_rfl)) (ret_of rfl ?_ trivial trivial)
    simp [tle, decW, c1]
  · by_cases c2 : w < 1
    · refine g_fin tab_ok mixed 3000 [.f, .t, .t] rfl (by (simp only [AllR]; (repeat' first | exact True.intro | (show (_ : Bool) = _; assumption) | omega | apply And.intro); all_goals first | (simp; done) | (simp; omega) | (simp_all; done) | exact Nat.le_of_ble_eq_true rfl | kernel_rfl)) (ret_of rfl ?_ trivial trivial)
      simp [tle, decW, c2]
    · by_cases c3 : 18 < w
      · refine g_fin tab_ok mixed 3000 [.f, .f, .t] rfl (by (simp only [AllR]; (repeat' first | exact True.intro | (show (_ : Bool) = _; assumption) | omega | apply And.intro); all_goals first | (simp; done) | (simp; omega) | (simp_all; done) | exact Nat.le_of_ble_eq_true rfl | kernel_rfl)) (ret_of rfl ?_ trivial trivial)
        simp [tle, decW, c3]
      · obtain ⟨N, rfl⟩ : ∃ N : Nat, n = N := ⟨n.toNat, by omega⟩
        have hd := decDigits_len N (by omega)
        have k1 := itoa1 (ml := ml) N (by omega) (by omega)
        rw [Lib.itoa_nonneg] at k1
        by_cases c4 : w < (Lib.decDigits N).length
        · refine g_fin tab_ok mixed 3000 [.f, .f, .f, .c (.s (Lib.decDigits N)) [] [], .t] rfl (by (simp only [AllR]; (repeat' first | exact k1 | exact True.intro | (show (_ : Bool) = _; assumption) | omega | apply And.intro); all_goals first | (simp; done) | (simp; omega) | (simp_all; done) | exact Nat.le_of_ble_eq_true rfl | kernel_rfl)) (ret_of rfl ?_ trivial trivial)
          simp [tle, decW, c1, c2, c3, c4]
        · have k2 := repeat0 (ml := ml) (w.toNat - (Lib.decDigits N).length) (by omega)
          have e1 : IntKind.i64.wrap (w - ((Lib.decDigits N).length : Int)) = ((w.toNat - (Lib.decDigits N).length : Nat) : Int) := by rw [wrap_i64]; omega
          refine g_fin tab_ok mixed 3000 [.f, .f, .f, .c (.s (Lib.decDigits N)) [] [], .f, .c (.s (List.replicate (w.toNat - (Lib.decDigits N).length) 48)) [] []] rfl ?_ (ret_of rfl ?_ trivial trivial)
          · simp only [e1]
            (simp only [AllR]; (repeat' first | exact k1 | exact k2 | exact True.intro | (show (_ : Bool) = _; assumption) | omega | apply And.intro); all_goals first | (simp; done) | (simp; omega) | (simp_all; done) | exact Nat.le_of_ble_eq_true rfl | kernel_rfl)
          · simp [tle, decW, c1, c2, c3, c4]
theorem dHex (s : List UInt8) (hs : s.length ≤ 1000000) : Ret P (C ml) 11 [.s s] (.s (hexs s)) := by
  refine hret_of tab_ok Tryd.func11 rfl rfl (by kernel_rfl) rfl ?_
  have e0 : IntKind.i64.wrap (2 * (s.length : Int)) = 2 * (s.length : Int) := by rw [wrap_i64]; omega
  refine g_run tab_ok mixed 3000 [] rfl ?_ ?_
  · simp only [AllR, e0]
    exact ⟨⟨by omega, by omega, by rw [show (tin (C ml) 5).bytes = 1 from rfl]; omega, by omega⟩, trivial⟩
  · refine g_loop (fun i : Nat => [(0, .s s), (3, .ref 8 0 0 (2 * i)), (10, .i .i64 s.length), (11, .i .i64 i)]) (fun i => [(8, 0, .row true 1 (bytesT (hexs (s.take i))))]) (fun i => i ≤ s.length) (fun i => s.length - i) 0 ⟨⟨rfl, ⟨rfl, rfl, rfl, rfl, rfl⟩, rfl, rfl, trivial⟩, ⟨⟨rfl, rfl, trivial⟩, trivial⟩, trivial⟩ (by omega) ?_
    intro i h1
    by_cases hi : i < s.length
    · have e0 := hexs_take s i hi
      have e1 : bt s i = ((s.getD i 0).toNat : Int) := rfl
      have hn := (s.getD i 0).toNat_lt
      revert e0 e1 hn
      generalize (s.getD i 0).toNat = n
      intro e0 e1 hn
      have f1 : (n : Int).fdiv (2 ^ min (Int.toNat 4) IntKind.u8.bits) = ((n / 16 : Nat) : Int) := by
        show (n : Int).fdiv 16 = _
        rw [Int.fdiv_eq_ediv_of_nonneg _ (by omega)]; rfl
      have f2 : bitsI .and .u8 (n : Int) 15 = ((n % 16 : Nat) : Int) := by
        have := bitsI_and .u8 n 15 (by simpa using hn) (by decide)
        rw [show n &&& 15 = n % 16 from Nat.and_two_pow_sub_one_eq_mod n 4] at this
        exact this.trans (by rw [wrap_u8]; omega)
      have hz : (tin (C ml) 5).size = 1 := rfl
      have hl := hexs_length (s.take i)
      rw [List.length_take, Nat.min_eq_left (by omega)] at hl
      refine g_fin tab_ok mixed 3000 [.t] rfl ?_ (rd_next (i + 1) (by omega) (by omega) ⟨rfl, ⟨rfl, rfl, ?_, rfl, rfl⟩, rfl, ?_, trivial⟩ ⟨⟨rfl, ?_, trivial⟩, trivial⟩ trivial)
      · simp only [AllR, e1, f1, f2, hz]
        refine ⟨by simp; omega, ⟨by omega, by omega⟩, by omega, ⟨by omega, by simp; omega⟩, ⟨by omega, by omega⟩, ⟨by omega, by simp; omega⟩, ⟨by simp [bytesT, hl], by simp [hz], ?_, by omega, rfl⟩, by kernel_rfl, trivial⟩
        rw [show (tin (C ml) 5).bytes = 1 from rfl]; omega
      · omega
      · show T.i _ _ = T.i _ _
        rw [w64 (by omega) (by omega)]; simp
      · simp only [e1, f1, f2]
        rw [e0]
        have t1 : ((n : Int) / 16).toNat = n / 16 := by omega
        have t2 : ((n : Int) % 16).toNat = n % 16 := by omega
        simp [bytesT, bt, signs, hz, t1, t2]
    · obtain rfl : i = s.length := by omega
      refine g_fin tab_ok mixed 3000 [.f] rfl ⟨by simp, trivial⟩ (rd_exit rfl ?_)
      refine g_fin tab_ok mixed 3000 [.l (hexs s)] rfl ?_ (ret_of rfl (by simp [tle]) trivial trivial)
      rw [List.take_length]
      refine ⟨⟨?_, by rw [hexs_length]⟩, trivial⟩
      rw [List.drop_zero, List.take_of_length_le]
      simp [bytesT, hexs_length]
theorem pair_val (a b : Nat) (ha : a < 16) (hb : b < 16) : IntKind.u8.wrap (bitsI .or .i64 (IntKind.i64.wrap ((a : Int) * 2 ^ (min (4 : Int).toNat IntKind.i64.bits))) b) = 16 * (a : Int) + b := by
  have : ∀ a, a < 16 → ∀ b, b < 16 → IntKind.u8.wrap (bitsI .or .i64 (IntKind.i64.wrap ((a : Nat) * 2 ^ (min (4 : Int).toNat IntKind.i64.bits))) (b : Nat)) = 16 * ((a : Nat) : Int) + (b : Nat) := by decide
  exact this a ha b hb
theorem dUnhex (t : List UInt8) (ht : t.length ≤ 1000000) : Ret P (C ml) 9 [.s t] (.tup [.s ((unhexO t).getD []), .b (unhexO t).isSome]) := by
  refine hret_of tab_ok Tryd.func9 rfl rfl (by kernel_rfl) rfl ?_
  have b1 : bitsI .and .i64 (t.length : Int) 1 = ((t.length % 2 : Nat) : Int) := by
    have := bitsI_and .i64 t.length 1 (Nat.lt_of_le_of_lt ht (by decide)) (by decide)
    rw [show t.length &&& 1 = t.length % 2 from Nat.and_two_pow_sub_one_eq_mod _ 1] at this
    exact this.trans (by rw [wrap_i64]; omega)
  by_cases ho : t.length % 2 = 0
  · have b2 : IntKind.i64.wrap ((t.length : Int).tdiv 2) = ((t.length / 2 : Nat) : Int) := by
      rw [show (t.length : Int).tdiv 2 = ((t.length / 2 : Nat) : Int) from rfl, wrap_i64]; omega
    refine g_run tab_ok mixed 3000 [.f] rfl ?_ ?_
    · simp only [AllR, b1, b2]
      exact ⟨by rw [ho]; rfl, by omega, ⟨by omega, by omega, by rw [show (tin (C ml) 5).bytes = 1 from rfl]; omega, by omega⟩, trivial⟩
    · have hz : (tin (C ml) 5).size = 1 := rfl
      refine g_loop (fun x : Nat × List UInt8 => [(0, .s t), (4, .ref 14 0 0 (t.length / 2)), (16, .i .i64 (t.length / 2 : Nat)), (17, .i .i64 x.1)]) (fun x => [(14, 0, .row true 1 (bytesT (x.2 ++ List.replicate (t.length / 2 - x.1) 0)))]) (fun x => x.1 ≤ t.length / 2 ∧ x.2.length = x.1 ∧ unhexO t = (unhexO (t.drop (2 * x.1))).map (x.2 ++ ·)) (fun x => t.length / 2 - x.1) (0, [])
        ⟨⟨rfl, ⟨rfl, rfl, ?_, rfl, rfl⟩, ?_, rfl, trivial⟩, ⟨⟨rfl, ?_, trivial⟩, trivial⟩, trivial⟩ ⟨by omega, rfl, by simp⟩ ?_
      · rw [b2]; simp; omega
      · rw [b2]; simp [tle]; omega
      · rw [b2]; simp [zeros, bytesT]; rfl
      · rintro ⟨i, o⟩ ⟨h1, h2, h3⟩
        dsimp only at h1 h2 h3
        by_cases hi : i < t.length / 2
        · have w1 : IntKind.i64.wrap (2 * (i : Int)) = ((2 * i : Nat) : Int) := by rw [w64 (by omega) (by omega)]; omega
          have w2 : IntKind.i64.wrap (((2 * i : Nat) : Int) + 1) = ((2 * i + 1 : Nat) : Int) := by rw [w64 (by omega) (by omega)]; omega
          have w3 : IntKind.i64.wrap ((i : Int) + 1) = ((i + 1 : Nat) : Int) := by rw [w64 (by omega) (by omega)]; omega
          rw [drop_two t (2 * i) (by omega), unhexO] at h3
          have ha : bt t ((2 * i : Nat) : Int) = ((t.getD (2 * i) 0).toNat : Int) := rfl
          have hb : bt t ((2 * i + 1 : Nat) : Int) = ((t.getD (2 * i + 1) 0).toNat : Int) := rfl
          rw [← ha, ← hb] at h3
          have v1 := dValue (ml := ml) (bt t (2 * i : Nat)) (bt_lo _ _) (bt_hi _ _)
          have v2 := dValue (ml := ml) (bt t (2 * i + 1 : Nat)) (bt_lo _ _) (bt_hi _ _)
          have hv1 := hexv_lo (bt t (2 * i : Nat))
          have hv2 := hexv_hi (bt t (2 * i : Nat))
          have hv3 := hexv_lo (bt t (2 * i + 1 : Nat))
          have hv4 := hexv_hi (bt t (2 * i + 1 : Nat))
          revert h3 v1 v2 hv1 hv2 hv3 hv4
          generalize hexv (bt t (2 * i : Nat)) = A
          generalize hexv (bt t (2 * i + 1 : Nat)) = B
          intro h3 v1 v2 hv1 hv2 hv3 hv4
          by_cases hneg : minI A B < 0
          · refine g_fin tab_ok mixed 3000 [.t, .c (.i .i64 A) [] [], .c (.i .i64 B) [] [], .a, .a, .t] rfl ?_ (rd_ret (ret_of rfl ?_ trivial trivial))
            · simp only [AllR, w1, w2]
              exact ⟨by simp; omega, ⟨by omega, by omega⟩, v1, ⟨by omega, by omega⟩, v2, Nat.le_of_ble_eq_true rfl, by kernel_rfl, ⟨by omega, by omega⟩, ⟨by omega, by omega⟩, by simpa using hneg, trivial⟩
            · have : A < 0 ∨ B < 0 := by unfold minI at hneg; split at hneg <;> omega
              rw [h3, if_pos this]; simp [tle, tleL]
          · have hA : ¬ (A < 0 ∨ B < 0) := by unfold minI at hneg; split at hneg <;> omega
            rw [if_neg hA] at h3
            obtain ⟨a, rfl⟩ : ∃ a : Nat, A = a := ⟨A.toNat, by omega⟩
            obtain ⟨b, rfl⟩ : ∃ b : Nat, B = b := ⟨B.toNat, by omega⟩
            have hv := pair_val a b (by omega) (by omega)
            refine g_fin tab_ok mixed 3000 [.t, .c (.i .i64 a) [] [], .c (.i .i64 b) [] [], .a, .a, .f, .a, .a] rfl ?_ (rd_next (i + 1, o ++ [UInt8.ofNat (16 * (a : Int) + b).toNat]) ⟨by omega, by simp; omega, ?_⟩ (by simp; omega) ⟨rfl, ⟨rfl, rfl, rfl, rfl, rfl⟩, rfl, ?_, trivial⟩ ⟨⟨rfl, ?_, trivial⟩, trivial⟩ trivial)
            · simp only [AllR, w1, w2, hz]
              exact ⟨by simp; omega, ⟨by omega, by omega⟩, v1, ⟨by omega, by omega⟩, v2, Nat.le_of_ble_eq_true rfl, by kernel_rfl, ⟨by omega, by omega⟩, ⟨by omega, by omega⟩, by simpa using hneg, ⟨by omega, by omega⟩, by omega, ⟨by omega, by omega⟩, ⟨by omega, by omega⟩, by simp [bytesT]; omega, trivial⟩
            · rw [h3, show 2 * (i + 1) = 2 * i + 2 by omega]; simp [Option.map_map]; congr 1
            · show T.i _ _ = T.i _ _
              rw [w3]
            · rw [hv]
              have e1 : t.length / 2 - i = (t.length / 2 - (i + 1)) + 1 := by omega
              have e2 : 0 + (i : Int).toNat * (tin (C ml) 5).size = o.length := by rw [hz]; simp [h2]
              rw [e2, e1, List.replicate_succ]
              simp [splice, cellsT, bytesT, List.set_append_right]
              omega
        · obtain rfl : i = t.length / 2 := by omega
          rw [List.drop_of_length_le (by omega)] at h3
          refine g_fin tab_ok mixed 3000 [.f] rfl ⟨by simp, trivial⟩ (rd_exit rfl ?_)
          refine g_fin tab_ok mixed 3000 [.l o] rfl ?_ (ret_of rfl ?_ trivial trivial)
          · refine ⟨⟨?_, h2.symm⟩, trivial⟩
            simp [bytesT, h2]
            exact List.take_of_length_le (by simp; omega)
          · rw [h3]; simp [tle, tleL, unhexO]
  · refine g_fin tab_ok mixed 3000 [.t] rfl ?_ (ret_of rfl ?_ trivial trivial)
    · simp only [AllR, b1]
      exact ⟨by rw [show t.length % 2 = 1 by omega]; rfl, trivial⟩
    · simp [unhexO_odd t (by omega), tle, tleL]
theorem atoiO_itoa {t : List UInt8} {v : Int} (h1 : -9223372036854775808 ≤ v) (h2 : v ≤ 9223372036854775807) (h : Lib.itoa v = t) : atoiO t = some v := by
  obtain ⟨k1, k2⟩ := itoa_parts h
  have hl := itoa_len h1 h2
  rw [h] at hl
  unfold atoiO
  by_cases s2 : bt t 0 = 45
  · obtain ⟨a, b⟩ := k1 s2
    have hne : t.drop 1 ≠ [] := by
      intro e
      rw [e] at b
      simp [decVal] at b; omega
    rw [signO_neg s2, if_neg hne]
    simp only [b, if_true]
    rw [if_pos (by omega)]; congr 1; omega
  · obtain ⟨a, b⟩ := k2 s2
    have s1 : bt t 0 ≠ 43 := by
      intro e
      have : t ≠ [] := by intro e; subst e; simp at hl
      rw [show t = t.drop 0 from rfl, drop_one t 0 (by omega), decVal] at b
      have e2 : ((t.getD 0 0).toNat : Int) = 43 := e
      rw [e2] at b
      simp [hexv] at b
    rw [signO_none s2 s1, if_neg (by intro e; subst e; simp at hl)]
    simp only [b, Bool.false_eq_true, if_false]
    rw [if_pos (by omega)]; congr 1; omega
theorem atoiO_range {t : List UInt8} {v : Int} (h : atoiO t = some v) : -9223372036854775808 ≤ v ∧ v ≤ 9223372036854775807 := by
  unfold atoiO at h
  split at h
  · cases h
  · split at h
    · cases h
    · split at h <;> split at h <;> first | (cases h; done) | (simp only [Option.some.injEq] at h; omega)
theorem dUnnum (t : List UInt8) (ht : t.length ≤ 1000000) : Ret P (C ml) 17 [.s t] (.tup [.i .i64 ((unnumO t).getD 0), .b (unnumO t).isSome]) := by
  refine hret_of tab_ok Tryd.func17 rfl rfl (by kernel_rfl) rfl ?_
  cases hv : atoiO t with
  | none =>
    have h1 := atoi_bad (ml := ml) t ht hv
    have h2 : Says P .neq 56 (.tmp 11) (.const .nilIface) (.ifc 89 .top) .nif true := says_ifc_neq Tryd.underlying56
    refine g_fin tab_ok mixed 3000 [.c (.tup [.top, .ifc 89 .top]) [] [], .v [.bl true]] rfl ⟨h1, h2, trivial⟩ (ret_of rfl ?_ trivial trivial)
    rw [unnumO_none fun n a b e => by have := atoiO_itoa a b e; rw [hv] at this; cases this]
    simp [tle, tleL]
  | some v =>
    obtain ⟨r1, r2⟩ := atoiO_range hv
    have h1 := atoi_ok (ml := ml) t ht v hv
    have h2 : Says P .neq 56 (.tmp 11) (.const .nilIface) .nif .nif false := nil_nil_neq
    have h3 := dNum (ml := ml) v r1 r2
    by_cases he : Lib.itoa v = t
    · refine g_fin tab_ok mixed 3000 [.c (.tup [.i .i64 v, .nif]) [] [], .v [.bl false], .c (.s (Lib.itoa v)) [] [], .f] rfl ⟨h1, h2, h3, by simpa using he, trivial⟩ (ret_of rfl ?_ trivial trivial)
      have := unnumO_itoa v r1 r2
      rw [he] at this
      simp [tle, tleL, this]
    · refine g_fin tab_ok mixed 3000 [.c (.tup [.i .i64 v, .nif]) [] [], .v [.bl false], .c (.s (Lib.itoa v)) [] [], .t] rfl ⟨h1, h2, h3, by simpa using he, trivial⟩ (ret_of rfl ?_ trivial trivial)
      rw [unnumO_none fun n a b e => he (by have := atoiO_itoa a b e; rw [hv] at this; obtain rfl := Option.some.inj this; exact e)]
      simp [tle, tleL]
end Go.Proofs.YtdiippegaidpkaaDoor.Vm
