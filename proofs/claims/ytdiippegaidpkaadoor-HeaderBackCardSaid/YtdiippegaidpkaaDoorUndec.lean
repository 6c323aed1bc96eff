/- Contracts: digits.cutLeft, cutRight, Undec. -/
import Derived.Test.YtdiippegaidpkaaDoorDigits
import Derived.Laws.RangeAny
set_option linter.unusedVariables false
set_option linter.unusedSimpArgs false
set_option linter.unnecessarySimpa false
namespace Go.Proofs.YtdiippegaidpkaaDoor.Vm
open Go Go.Proofs Go.RowKit
variable {ml : Int}
def tens : List UInt8 := [48, 49, 50, 51, 52, 53, 54, 55, 56, 57]
def isDig (c : UInt8) : Bool := decide (48 ≤ c.toNat ∧ c.toNat ≤ 57)
/-- One rune of the ten digits. -/
theorem tens_at (k : Nat) (h : k < 10) : Utf8.decode ⟨⟨tens⟩⟩ k = (48 + k, 1) := by
  revert k; decide
theorem decode_dig (s : List UInt8) (i : Nat) (h : i < s.length) : (48 ≤ (Utf8.decode ⟨⟨s⟩⟩ i).1 ∧ (Utf8.decode ⟨⟨s⟩⟩ i).1 < 58 ↔ isDig (s.getD i 0) = true) ∧ (isDig (s.getD i 0) = true → (Utf8.decode ⟨⟨s⟩⟩ i).2 = 1) := by
  have hsz : i < (⟨⟨s⟩⟩ : ByteArray).size := by simpa [ByteArray.size] using h
  have hb : ((⟨⟨s⟩⟩ : ByteArray)[i]'hsz) = s.getD i 0 := by
    show s[i] = _
    simp [h]
  by_cases ha : (s.getD i 0).toNat < 128
  · have := decode_ascii ⟨⟨s⟩⟩ i hsz (by rw [hb]; exact ha)
    rw [this, hb]
    simp only [isDig, decide_eq_true_eq]
    exact ⟨⟨fun h => by omega, fun h => by omega⟩, fun _ => trivial⟩
  · have := decode_high ⟨⟨s⟩⟩ i hsz (by rw [hb]; omega)
    simp only [isDig, decide_eq_true_eq]
    exact ⟨⟨fun h => by omega, fun h => by omega⟩, fun h => by omega⟩
theorem cutLeft (s : List UInt8) (hs : s.length ≤ 1000000) : Ret P (C ml) 31 [.s s, .s tens] (.s (s.dropWhile isDig)) := by
  refine hret_of tab_ok Tryd.func31 rfl rfl (by kernel_rfl) rfl ?_
  refine g_run tab_ok mixed 3000 [] rfl trivial ?_
  refine g_loop (fun i : Nat => [(0, .s s), (1, .s tens), (11, .p 11 0 0)]) (fun i => [(11, 0, .it s i)]) (fun i => i ≤ s.length ∧ s.dropWhile isDig = (s.drop i).dropWhile isDig) (fun i => s.length - i) 0
    ⟨⟨rfl, rfl, ⟨rfl, rfl, rfl, rfl⟩, trivial⟩, ⟨⟨rfl, rfl⟩, trivial⟩, trivial⟩ ⟨by omega, rfl⟩ ?_
  rintro i ⟨h1, h2⟩
  by_cases hi : i < s.length
  · refine g_run tab_ok mixed 3000 [.t] rfl ⟨by simpa using hi, trivial⟩ ?_
    obtain ⟨c, n, hD⟩ : ∃ c n, Utf8.decode ⟨⟨s⟩⟩ i = (c, n) := ⟨_, _, rfl⟩
    refine g_loop (fun k : Nat => [(0, .s s), (1, .s tens), (5, .i .i64 i), (6, .i .i32 c), (7, .b (decide (48 ≤ c ∧ c < 48 + k))), (11, .p 11 0 0), (17, .p 17 0 0)]) (fun k => [(11, 0, .it s (i + n)), (17, 0, .it tens k)]) (fun k => k ≤ 10) (fun k => 10 - k) 0
      ⟨⟨rfl, rfl, rfl, ?_, ?_, ⟨rfl, rfl, rfl, rfl⟩, ⟨rfl, rfl, rfl, rfl⟩, trivial⟩, ⟨⟨rfl, ?_⟩, ⟨rfl, rfl⟩, trivial⟩, trivial⟩ (by omega) ?_
    · rw [hD]; rfl
    · simp [tle]
    · rw [hD]
    · intro k hk
      by_cases hk10 : k < 10
      · have hdk := tens_at k hk10
        have hlt : decide (k < tens.length) = true := by simp [tens]; omega
        by_cases hin : 48 ≤ c ∧ c < 48 + k
        · refine g_fin tab_ok mixed 3000 [.t, .t] rfl ⟨hlt, by simpa using hin, by simpa using hin, trivial⟩ (rd_next (k + 1) (by omega) (by omega) ⟨rfl, rfl, rfl, rfl, ?_, ⟨rfl, rfl, rfl, rfl⟩, ⟨rfl, rfl, rfl, rfl⟩, trivial⟩ ⟨⟨rfl, rfl⟩, ⟨rfl, ?_⟩, trivial⟩ trivial)
          · exact .inr (congrArg T.bl (by simp; omega))
          · rw [hdk]
        · refine g_fin tab_ok mixed 3000 [.t, .f] rfl ⟨hlt, by simpa using hin, by simpa using hin, trivial⟩ (rd_next (k + 1) (by omega) (by omega) ⟨rfl, rfl, rfl, rfl, ?_, ⟨rfl, rfl, rfl, rfl⟩, ⟨rfl, rfl, rfl, rfl⟩, trivial⟩ ⟨⟨rfl, rfl⟩, ⟨rfl, ?_⟩, trivial⟩ trivial)
          · refine .inl (congrArg T.b ?_)
            rw [hdk, Bool.eq_iff_iff]; simp; omega
          · rw [hdk]
      · obtain rfl : k = 10 := by omega
        have hlt : decide (10 < tens.length) = false := by simp [tens]
        refine g_fin tab_ok mixed 3000 [.f] rfl ⟨hlt, trivial⟩ (rd_exit rfl ?_)
        obtain ⟨g1, g2⟩ := decode_dig s i hi
        rw [hD] at g1 g2
        dsimp only at g1 g2
        by_cases hin : isDig (s.getD i 0) = true
        · have hc := g1.2 hin
          obtain rfl := g2 hin
          refine g_fin tab_ok mixed 3000 [.f] rfl ⟨by simp; omega, trivial⟩ (rd_next (i + 1) ⟨by omega, ?_⟩ (by omega) ⟨rfl, rfl, ⟨rfl, rfl, rfl, rfl⟩, trivial⟩ ⟨⟨rfl, rfl⟩, trivial⟩ trivial)
          rw [h2, drop_one s i hi, List.dropWhile_cons, if_pos hin]
        · have hc : ¬ (48 ≤ c ∧ c < 58) := fun h => hin (g1.1 h)
          refine g_fin tab_ok mixed 3000 [.t] rfl ⟨by simp; omega, ⟨by omega, by omega⟩, trivial⟩ (rd_ret (ret_of rfl ?_ trivial trivial))
          rw [h2, drop_one s i hi, List.dropWhile_cons, if_neg hin, ← drop_one s i hi]; simp [tle]
  · obtain rfl : i = s.length := by omega
    refine g_fin tab_ok mixed 3000 [.f] rfl ⟨by simp, trivial⟩ (rd_exit rfl ?_)
    refine g_fin tab_ok mixed 3000 [] rfl trivial (ret_of rfl ?_ trivial trivial)
    rw [h2, List.drop_length]; simp [tle]
def cutR (s : List UInt8) : List UInt8 := (s.reverse.dropWhile isDig).reverse
theorem decodeLast_dig (l : List UInt8) (b : UInt8) : (48 ≤ (Lib.decodeLastL (l ++ [b])).1 ∧ (Lib.decodeLastL (l ++ [b])).1 < 58 ↔ isDig b = true) ∧ (isDig b = true → (Lib.decodeLastL (l ++ [b])).2 = 1) := by
  have hlast : (l ++ [b]).getD ((l ++ [b]).length - 1) 0 = b := by simp
  unfold Lib.decodeLastL
  rw [if_neg (by simp), hlast]
  by_cases hb : b.toNat < 128
  · rw [if_pos hb]
    simp only [isDig, decide_eq_true_eq]
    exact ⟨⟨fun h => by omega, fun h => by omega⟩, fun _ => trivial⟩
  · rw [if_neg hb]
    have hnd : ¬ isDig b = true := by simp [isDig]; omega
    refine ⟨⟨fun h => ?_, fun h => absurd h hnd⟩, fun h => absurd h hnd⟩
    exfalso
    revert h
    generalize Lib.lastStart (l ++ [b]) = S
    dsimp only
    by_cases hS : S < (l ++ [b]).length
    · obtain ⟨k1, k2⟩ := decode_dig ((l ++ [b]).drop S) 0 (by rw [List.length_drop]; omega)
      have e1 : ((l ++ [b]).drop S).getD 0 0 = (l ++ [b]).getD S 0 := by simp
      rw [e1] at k1 k2
      split
      · rename_i he
        intro h
        have h3 := k1.1 h
        have h4 : Lib.decodeL ((l ++ [b]).drop S) = Utf8.decode ⟨⟨(l ++ [b]).drop S⟩⟩ 0 := rfl
        rw [h4, k2 h3] at he
        have : S = l.length := by simp at he; omega
        subst this
        simp at h3
        exact hnd h3
      · intro h; simp [Utf8.runeError] at h
    · rw [List.drop_of_length_le (by omega)]
      split
      · intro h
        have : ¬ (48 ≤ (Lib.decodeL []).1) := by decide
        exact this h.1
      · intro h; simp [Utf8.runeError] at h
theorem cutR_snoc (l : List UInt8) (b : UInt8) : cutR (l ++ [b]) = if isDig b = true then cutR l else l ++ [b] := by
  unfold cutR
  rw [List.reverse_append]
  simp only [List.reverse_cons, List.reverse_nil, List.nil_append, List.singleton_append, List.dropWhile_cons]
  split
  · rfl
  · simp
theorem cutRight (s : List UInt8) (hs : s.length ≤ 1000000) : Ret P (C ml) 30 [.s s, .s tens] (.s (cutR s)) := by
  refine hret_of tab_ok Tryd.func30 rfl rfl (by kernel_rfl) rfl ?_
  refine g_run tab_ok mixed 3000 [] rfl trivial ?_
  refine g_loop (fun x : List UInt8 => [(0, .s x), (1, .s tens)]) (fun _ => []) (fun x => x.length ≤ s.length ∧ cutR s = cutR x) (fun x => x.length) s ⟨⟨rfl, rfl, trivial⟩, trivial, trivial⟩ ⟨by omega, rfl⟩ ?_
  rintro x ⟨h1, h2⟩
  by_cases hx : x = []
  · subst hx
    refine g_fin tab_ok mixed 3000 [.f] rfl ⟨by simp, trivial⟩ (rd_exit rfl ?_)
    refine g_fin tab_ok mixed 3000 [] rfl trivial (ret_of rfl ?_ trivial trivial)
    rw [h2]; simp [tle, cutR]
  · obtain ⟨l, b, rfl⟩ : ∃ l b, x = l ++ [b] := ⟨x.dropLast, x.getLast hx, (List.dropLast_concat_getLast hx).symm⟩
    have k1 := decodeLast (ml := ml) (l ++ [b]) (by omega)
    obtain ⟨g1, g2⟩ := decodeLast_dig l b
    revert k1 g1 g2
    generalize Lib.decodeLastL (l ++ [b]) = D
    obtain ⟨c, n⟩ := D
    dsimp only
    intro k1 g1 g2
    rw [cutR_snoc] at h2
    simp only [List.length_append, List.length_cons, List.length_nil] at h1
    refine g_run tab_ok mixed 3000 [.t, .c (.tup [.i .i32 c, .i .i64 n]) [] []] rfl ⟨by simp, k1, trivial⟩ ?_
    refine g_loop (fun k : Nat => [(0, .s (l ++ [b])), (1, .s tens), (5, .i .i32 c), (6, .i .i64 n), (7, .b (decide (48 ≤ c ∧ c < 48 + k))), (19, .p 19 0 0)]) (fun k => [(19, 0, .it tens k)]) (fun k => k ≤ 10) (fun k => 10 - k) 0
      ⟨⟨rfl, rfl, rfl, rfl, ?_, ⟨rfl, rfl, rfl, rfl⟩, trivial⟩, ⟨⟨rfl, rfl⟩, trivial⟩, trivial⟩ (by omega) ?_
    · simp [tle]
    · intro k hk
      by_cases hk10 : k < 10
      · have hdk := tens_at k hk10
        have hlt : decide (k < tens.length) = true := by simp [tens]; omega
        by_cases hin : 48 ≤ c ∧ c < 48 + k
        · refine g_fin tab_ok mixed 3000 [.t, .t] rfl ⟨hlt, by simpa using hin, by simpa using hin, trivial⟩ (rd_next (k + 1) (by omega) (by omega) ⟨rfl, rfl, rfl, rfl, ?_, ⟨rfl, rfl, rfl, rfl⟩, trivial⟩ ⟨⟨rfl, ?_⟩, trivial⟩ trivial)
          · exact .inr (congrArg T.bl (by simp; omega))
          · rw [hdk]
        · refine g_fin tab_ok mixed 3000 [.t, .f] rfl ⟨hlt, by simpa using hin, by simpa using hin, trivial⟩ (rd_next (k + 1) (by omega) (by omega) ⟨rfl, rfl, rfl, rfl, ?_, ⟨rfl, rfl, rfl, rfl⟩, trivial⟩ ⟨⟨rfl, ?_⟩, trivial⟩ trivial)
          · refine .inl (congrArg T.b ?_)
            rw [hdk, Bool.eq_iff_iff]; simp; omega
          · rw [hdk]
      · obtain rfl : k = 10 := by omega
        have hlt : decide (10 < tens.length) = false := by simp [tens]
        refine g_fin tab_ok mixed 3000 [.f] rfl ⟨hlt, trivial⟩ (rd_exit rfl ?_)
        by_cases hin : isDig b = true
        · have hc := g1.2 hin
          obtain rfl := g2 hin
          rw [if_pos hin] at h2
          refine g_fin tab_ok mixed 3000 [.f] rfl ?_ (rd_next l ⟨by omega, h2⟩ (by simp) ⟨?_, rfl, trivial⟩ trivial trivial)
          · exact ⟨by simp; omega, ⟨by simp; omega, by simp; omega⟩, trivial⟩
          · simp [tle]
            rw [show (((l.length : Int) + 9223372036854775808) % 18446744073709551616 - 9223372036854775808).toNat = l.length by omega]; simp
        · have hc : ¬ (48 ≤ c ∧ c < 58) := fun h => hin (g1.1 h)
          rw [if_neg hin] at h2
          refine g_fin tab_ok mixed 3000 [.t] rfl ⟨by simp; omega, trivial⟩ (rd_ret (ret_of rfl ?_ trivial trivial))
          rw [h2]; simp [tle]
theorem dropWhile_nil (l : List UInt8) : l.dropWhile isDig = [] ↔ l.all isDig = true := by
  induction l with
  | nil => simp
  | cons c t ih =>
    rw [List.dropWhile_cons]
    by_cases h : isDig c = true
    · rw [if_pos h, ih]; simp [h]
    · rw [if_neg h]; simp [h]
theorem cutR_nil (l : List UInt8) : cutR l = [] ↔ l.all isDig = true := by
  unfold cutR
  rw [List.reverse_eq_nil_iff, dropWhile_nil, List.all_reverse]
theorem cut_all (t : List UInt8) : cutR (t.dropWhile isDig) = [] ↔ t.all isDig = true := by
  rw [cutR_nil]
  induction t with
  | nil => simp
  | cons c t ih =>
    rw [List.dropWhile_cons]
    by_cases h : isDig c = true
    · rw [if_pos h, ih]; simp [h]
    · rw [if_neg h]
theorem isDig_hexv (c : UInt8) : isDig c = true ↔ ¬ (hexv c.toNat < 0 ∨ 9 < hexv c.toNat) := by
  obtain ⟨k1, k2⟩ := hexv_dig (c.toNat : Int)
  simp only [isDig, decide_eq_true_eq]
  constructor
  · intro h
    have := k1 (by omega)
    omega
  · intro h
    refine Classical.byContradiction fun h2 => h (k2 (by omega))
theorem decVal_some : ∀ (l : List UInt8) (n : Nat), (∃ u, decVal l n = some u) ↔ l.all isDig = true
  | [], n => by simp [decVal]
  | c :: l, n => by
    rw [decVal, List.all_cons]
    by_cases h : isDig c = true
    · rw [if_neg ((isDig_hexv c).1 h), decVal_some l]; simp [h]
    · rw [if_pos (Classical.not_not.1 fun h2 => h ((isDig_hexv c).2 h2))]; simp [h]
theorem atoiO_digits (t : List UInt8) (h1 : 1 ≤ t.length) (h18 : t.length ≤ 18) (h : t.all isDig = true) : ∃ u : Nat, decVal t 0 = some u ∧ atoiO t = some (u : Int) ∧ u < 1000000000000000000 := by
  obtain ⟨u, hu⟩ := (decVal_some t 0).2 h
  have hlt := pow_bound18 (decVal_lt t 0 0 u (by simp) hu) (by omega)
  refine ⟨u, hu, ?_, hlt⟩
  match t, h1, h, hu with
  | c :: l, _, h, hu =>
    have hc : isDig c = true := by simp at h; exact h.1
    have h0 : bt (c :: l) 0 = (c.toNat : Int) := rfl
    simp only [isDig, decide_eq_true_eq] at hc
    unfold atoiO
    rw [signO_none (by rw [h0]; omega) (by rw [h0]; omega), if_neg (by simp)]
    simp only [hu, Bool.false_eq_true, if_false]
    rw [if_pos (by omega)]
set_option maxRecDepth 100000 in
theorem dUndec (t : List UInt8) (ht : t.length ≤ 1000000) : Ret P (C ml) 15 [.s t] (.tup [.i .i64 (((undecO t).getD 0 : Nat) : Int), .b (undecO t).isSome]) := by
  refine hret_of tab_ok Tryd.func15 rfl rfl (by kernel_rfl) rfl ?_
  by_cases c1 : t = []
  · subst c1
    refine g_fin tab_ok mixed 3000 [.t] rfl ⟨rfl, rfl, trivial⟩ (ret_of rfl ?_ trivial trivial)
    simp [tle, tleL, undecO]
  · have hl : 1 ≤ t.length := by
      refine Nat.pos_of_ne_zero fun h => c1 (List.length_eq_zero_iff.1 h)
    have c1' : (t == []) = false := by simpa using c1
    by_cases c2 : 18 < t.length
    · refine g_fin tab_ok mixed 3000 [.f, .t] rfl (by (simp only [AllR]; (repeat' first | exact c1' | exact True.intro | (show (_ : Bool) = _; assumption) | omega | apply And.intro); all_goals first | (simp; done) | (simp; omega) | (simp_all; done) | exact Nat.le_of_ble_eq_true rfl | kernel_rfl)) (ret_of rfl ?_ trivial trivial)
      simp [tle, tleL, undecO, c2]
    · have k1 := cutLeft (ml := ml) t ht
      have hdl : (t.dropWhile isDig).length ≤ 1000000 := Nat.le_trans (List.dropWhile_suffix _).length_le ht
      have k2 := cutRight (ml := ml) (t.dropWhile isDig) hdl
      have hu : undecO t = decVal t 0 := by rw [undecO, if_neg (by omega)]
      by_cases c3 : t.all isDig = true
      · obtain ⟨u, e1, e2, e3⟩ := atoiO_digits t hl (by omega) c3
        have k3 := atoi_ok (ml := ml) t ht u e2
        have z := (cut_all t).2 c3
        have h4 : (!(cutR (t.dropWhile isDig) == [])) = false := by simp [z]
        have h2 : Says P .eql 56 (.tmp 27) (.const .nilIface) .nif .nif true := says_nif_eql Tryd.underlying56
        refine g_fin tab_ok mixed 3000 [.f, .f, .c (.s (t.dropWhile isDig)) [] [], .c (.s (cutR (t.dropWhile isDig))) [] [], .f, .c (.tup [.i .i64 u, .nif]) [] [], .v [.bl true]] rfl (by (simp only [AllR]; (repeat' first | exact c1' | exact k1 | exact k2 | exact k3 | exact h2 | exact h4 | exact True.intro | (show (_ : Bool) = _; assumption) | omega | apply And.intro); all_goals first | (simp; done) | (simp; omega) | (simp_all; done) | exact Nat.le_of_ble_eq_true rfl | kernel_rfl)) (ret_of rfl ?_ trivial trivial)
        rw [hu, e1]; simp [tle, tleL]
      · have z : cutR (t.dropWhile isDig) ≠ [] := fun h => c3 ((cut_all t).1 h)
        have h4 : (!(cutR (t.dropWhile isDig) == [])) = true := by simpa using z
        refine g_fin tab_ok mixed 3000 [.f, .f, .c (.s (t.dropWhile isDig)) [] [], .c (.s (cutR (t.dropWhile isDig))) [] [], .t] rfl (by (simp only [AllR]; (repeat' first | exact c1' | exact k1 | exact k2 | exact h4 | exact True.intro | (show (_ : Bool) = _; assumption) | omega | apply And.intro); all_goals first | (simp; done) | (simp; omega) | (simp_all; done) | exact Nat.le_of_ble_eq_true rfl | kernel_rfl)) (ret_of rfl ?_ trivial trivial)
        have : decVal t 0 = none := by
          cases hd : decVal t 0 with
          | none => rfl
          | some u => exact absurd ((decVal_some t 0).1 ⟨u, hd⟩) c3
        rw [hu, this]; simp [tle, tleL]
end Go.Proofs.YtdiippegaidpkaaDoor.Vm
