/- Contracts: clavigerref02 (digits). -/
import Derived.Test.YtdiippegaidpkaaDoorVm19
import Derived.Lib.ItoaLen
set_option linter.unusedVariables false
set_option linter.unusedSimpArgs false
set_option linter.unnecessarySimpa false
namespace Go.Proofs.YtdiippegaidpkaaDoor.Vm
open Go Go.Proofs
variable {ml : Int}
def signs : List UInt8 := [48, 49, 50, 51, 52, 53, 54, 55, 56, 57, 65, 66, 67, 68, 69, 70]
def hexv (c : Int) : Int := if 48 ≤ c ∧ c ≤ 57 then c - 48 else if 65 ≤ c ∧ c ≤ 70 then c - 55 else -1
theorem bt_signs (i : Nat) (h : i < 16) : bt signs i = if i < 10 then 48 + (i : Int) else 55 + i := by
  revert i; decide
theorem value02 (c : Int) : Ret P (C ml) 14 [.i .u8 c] (.i .i64 (hexv c)) := by
  refine hret_of tab_ok Tryd.func14 rfl rfl (by kernel_rfl) rfl ?_
  refine g_run tab_ok mixed 3000 [] rfl trivial ?_
  refine g_loop (fun i : Nat => [(0, .i .u8 c), (3, .i .i64 i)]) (fun _ => []) (fun i => i ≤ 16 ∧ ∀ j : Nat, j < i → bt signs j ≠ c) (fun i => 16 - i) 0 ⟨⟨rfl, rfl, trivial⟩, trivial, trivial⟩ ⟨by omega, by omega⟩ ?_
  rintro i ⟨h1, h2⟩
  by_cases hi : i < 16
  · have hb := bt_signs i hi
    by_cases hc : bt signs i = c
    · refine g_fin tab_ok mixed 3000 [.t, .t] rfl ⟨by simp; omega, by simp; omega, by simpa [signs] using hc, trivial⟩ (rd_ret (ret_of rfl ?_ trivial trivial))
      show T.i _ _ = T.i _ _
      rw [← hc, hb]; simp only [hexv, T.i.injEq]
      grind
    · refine g_fin tab_ok mixed 3000 [.t, .f] rfl ⟨by simp; omega, by simp; omega, by simpa [signs] using hc, trivial⟩ (rd_next (i + 1) ⟨by omega, ?_⟩ (by omega) ⟨rfl, ?_, trivial⟩ trivial trivial)
      · grind
      · simp [look, tle]; omega
  · refine g_fin tab_ok mixed 3000 [.f] rfl ⟨by simp; omega, trivial⟩ (rd_exit rfl ?_)
    refine g_fin tab_ok mixed 3000 [] rfl trivial (ret_of rfl ?_ trivial trivial)
    have e : i = 16 := by omega
    subst e
    have := fun j h => bt_signs j h ▸ h2 j h
    show T.i _ _ = T.i _ _
    simp only [hexv, T.i.injEq]
    have h3 : ¬ (48 ≤ c ∧ c ≤ 57) := fun h => by
      have := this (c - 48).toNat (by omega)
      grind
    have h4 : ¬ (65 ≤ c ∧ c ≤ 70) := fun h => by
      have := this (c - 55).toNat (by omega)
      grind
    rw [if_neg h3, if_neg h4]
    exact ⟨trivial, rfl⟩
def hexs : List UInt8 → List UInt8
  | [] => []
  | c :: l => signs.getD (c.toNat / 16) 0 :: signs.getD (c.toNat % 16) 0 :: hexs l
theorem hexs_append (a b : List UInt8) : hexs (a ++ b) = hexs a ++ hexs b := by
  induction a with
  | nil => rfl
  | cons c a ih => simp [hexs, ih]
theorem hexs_length (a : List UInt8) : (hexs a).length = 2 * a.length := by
  induction a with
  | nil => rfl
  | cons c a ih => simp [hexs, ih]; omega
theorem take_succ_getD (l : List UInt8) (i : Nat) (h : i < l.length) : l.take (i + 1) = l.take i ++ [l.getD i 0] := by
  rw [List.take_succ_eq_append_getElem h]; simp [h]
theorem hexs_take (s : List UInt8) (i : Nat) (h : i < s.length) : hexs (s.take (i + 1)) = hexs (s.take i) ++ [signs.getD ((s.getD i 0).toNat / 16) 0, signs.getD ((s.getD i 0).toNat % 16) 0] := by
  rw [take_succ_getD s i h, hexs_append]; rfl
theorem sign_cut (k : Nat) (h : k < 16) : (signs.take (k + 1)).drop k = [signs.getD k 0] := by
  revert k; decide
theorem hex02 (s : List UInt8) (hs : s.length ≤ 1000000) : Ret P (C ml) 12 [.s s] (.s (hexs s)) := by
  refine hret_of tab_ok Tryd.func12 rfl rfl (by kernel_rfl) rfl ?_
  refine g_run tab_ok mixed 3000 [] rfl trivial ?_
  refine g_loop (fun i : Nat => [(0, .s s), (3, .s (hexs (s.take i))), (4, .i .i64 i)]) (fun _ => []) (fun i => i ≤ s.length) (fun i => s.length - i) 0 ⟨⟨rfl, rfl, rfl, trivial⟩, trivial, trivial⟩ (by omega) ?_
  intro i h1
  by_cases hi : i < s.length
  · have e0 := hexs_take s i hi
    have e1 : bt s i = ((s.getD i 0).toNat : Int) := rfl
    have hn := (s.getD i 0).toNat_lt
    revert e0 e1 hn
    generalize (s.getD i 0).toNat = n
    intro e0 e1 hn
    have e2 : IntKind.i64.wrap n = (n : Int) := by rw [wrap_i64]; omega
    have hl : (hexs (s.take i)).length ≤ 2000000 := by rw [hexs_length, List.length_take]; omega
    have e3 : (n : Int).tdiv 16 = (n / 16 : Nat) := rfl
    have e4 : (n : Int).tmod 16 = (n % 16 : Nat) := rfl
    have e5 : IntKind.i64.wrap ((n / 16 : Nat) : Int) = (n / 16 : Nat) := by rw [wrap_i64]; omega
    have e6 : IntKind.i64.wrap ((n / 16 : Nat) + 1 : Int) = (n / 16 + 1 : Nat) := by rw [wrap_i64]; omega
    have e7 : IntKind.i64.wrap ((n % 16 : Nat) + 1 : Int) = (n % 16 + 1 : Nat) := by rw [wrap_i64]; omega
    have c1 := sign_cut (n / 16) (by omega)
    have c2 := sign_cut (n % 16) (by omega)
    simp only [signs] at c1 c2
    refine g_fin tab_ok mixed 3000 [.t] rfl ?_ (rd_next (i + 1) (by omega) (by omega) ⟨?_, ?_, ?_, trivial⟩ trivial trivial)
    · simp only [e1, e2, e3, e4, e5, e6, e7, Int.toNat_natCast, c1, c2, List.length_append, List.length_cons, List.length_nil]
      refine ⟨?_, ?_, ?_, ?_, ?_, ?_, ?_, ?_, ?_, ?_, trivial⟩ <;> first | omega | (simp; done) | (simp; omega)
    · rfl
    · simp only [look, Nat.beq, e1, e2, e3, e4, e5, e6, e7, Int.toNat_natCast, c1, c2, e0, signs]
      simp [tle]
    · simp [look, tle]; omega
  · obtain rfl : i = s.length := by omega
    refine g_fin tab_ok mixed 3000 [.f] rfl ⟨by simp, trivial⟩ (rd_exit rfl ?_)
    refine g_fin tab_ok mixed 3000 [] rfl trivial (ret_of rfl ?_ trivial trivial)
    rw [List.take_length]; trivial
def unhexO : List UInt8 → Option (List UInt8)
  | [] => some []
  | [_] => none
  | a :: b :: l => if hexv a.toNat < 0 ∨ hexv b.toNat < 0 then none else (unhexO l).map (UInt8.ofNat (16 * hexv a.toNat + hexv b.toNat).toNat :: ·)
theorem hexv_lo (c : Int) : -1 ≤ hexv c := by unfold hexv; grind
theorem hexv_hi (c : Int) : hexv c ≤ 15 := by unfold hexv; grind
theorem unhexO_odd : ∀ (t : List UInt8), t.length % 2 = 1 → unhexO t = none
  | [], h => by simp at h
  | [_], _ => rfl
  | a :: b :: l, h => by
    rw [unhexO, unhexO_odd l (by simp at h; omega)]; simp
theorem drop_two (t : List UInt8) (i : Nat) (h : i + 1 < t.length) : t.drop i = t.getD i 0 :: t.getD (i + 1) 0 :: t.drop (i + 2) := by
  rw [List.drop_eq_getElem_cons (by omega), List.drop_eq_getElem_cons (by omega)]; simp [h, Nat.lt_of_succ_lt h]
theorem unhex02 (t : List UInt8) (ht : t.length ≤ 1000000) : Ret P (C ml) 10 [.s t] (.tup [.s ((unhexO t).getD []), .b (unhexO t).isSome]) := by
  refine hret_of tab_ok Tryd.func10 rfl rfl (by kernel_rfl) rfl ?_
  by_cases ho : t.length % 2 = 0
  · refine g_run tab_ok mixed 3000 [.f] rfl ⟨by simp, by simp; omega, trivial⟩ ?_
    refine g_loop (fun x : Nat × List UInt8 => [(0, .s t), (4, .s x.2), (5, .i .i64 x.1)]) (fun _ => []) (fun x => x.1 ≤ t.length ∧ x.1 % 2 = 0 ∧ x.2.length ≤ x.1 ∧ unhexO t = (unhexO (t.drop x.1)).map (x.2 ++ ·)) (fun x => t.length - x.1) (0, []) ⟨⟨rfl, rfl, rfl, trivial⟩, trivial, trivial⟩ ⟨by omega, rfl, by simp, by simp⟩ ?_
    rintro ⟨i, o⟩ ⟨h1, h2, h3, h4⟩
    dsimp only at h1 h2 h3 h4
    by_cases hi : i < t.length
    · have hw : IntKind.i64.wrap ((i : Int) + 1) = ((i + 1 : Nat) : Int) := by rw [wrap_i64]; omega
      rw [drop_two t i (by omega), unhexO] at h4
      have ha : bt t i = ((t.getD i 0).toNat : Int) := rfl
      have hb : bt t ((i + 1 : Nat) : Int) = ((t.getD (i + 1) 0).toNat : Int) := rfl
      rw [← ha, ← hb] at h4
      have hv1 := hexv_lo (bt t i)
      have hv2 := hexv_hi (bt t i)
      have hv3 := hexv_lo (bt t (i + 1 : Nat))
      have hv4 := hexv_hi (bt t (i + 1 : Nat))
      revert h4 hv1 hv2 hv3 hv4
      generalize hA : hexv (bt t i) = A
      generalize hB : hexv (bt t (i + 1 : Nat)) = B
      intro h4 hv1 hv2 hv3 hv4
      by_cases c1 : A < 0
      · refine g_fin tab_ok mixed 3000 [.t, .c (.i .i64 A) [] [], .c (.i .i64 B) [] [], .t] rfl ?_ (rd_ret (ret_of rfl ?_ trivial trivial))
        · rw [hw, ← hA, ← hB]; rw [← hA] at c1
          (simp only [AllR]; (repeat' first | exact value02 _ | exact True.intro | (show (_ : Bool) = _; assumption) | omega | apply And.intro); all_goals first | (simp; done) | (simp; omega) | (simp_all; done) | exact Nat.le_of_ble_eq_true rfl | kernel_rfl)
        · simp [h4, c1, tle, tleL]
      · by_cases c2 : B < 0
        · refine g_fin tab_ok mixed 3000 [.t, .c (.i .i64 A) [] [], .c (.i .i64 B) [] [], .f, .t] rfl ?_ (rd_ret (ret_of rfl ?_ trivial trivial))
          · rw [hw, ← hA, ← hB]; rw [← hB] at c2; rw [← hA] at c1
            (simp only [AllR]; (repeat' first | exact value02 _ | exact decide_eq_true c2 | exact True.intro | (show (_ : Bool) = _; assumption) | omega | apply And.intro); all_goals first | (simp; done) | (simp; omega) | (simp_all; done) | exact Nat.le_of_ble_eq_true rfl | kernel_rfl)
          · simp [h4, c2, tle, tleL]
        · have e1 : IntKind.u8.wrap (IntKind.i64.wrap (IntKind.i64.wrap (16 * A) + B)) = 16 * A + B := by simp; omega
          refine g_fin tab_ok mixed 3000 [.t, .c (.i .i64 A) [] [], .c (.i .i64 B) [] [], .f, .f, .l [UInt8.ofNat (16 * A + B).toNat]] rfl ?_ (rd_next (i + 2, o ++ [UInt8.ofNat (16 * A + B).toNat]) ⟨by omega, by omega, by simp; omega, ?_⟩ (by simp; omega) ⟨rfl, rfl, ?_, trivial⟩ trivial trivial)
          · rw [hw, e1]
            have v1 := value02 (ml := ml) (bt t i)
            have v2 := value02 (ml := ml) (bt t (i + 1 : Nat))
            rw [hA] at v1; rw [hB] at v2
            have e2 : [T.i .u8 (16 * A + B)] = bytesT [UInt8.ofNat (16 * A + B).toNat] := by simp [bytesT]; omega
            (simp only [AllR]; (repeat' first | exact v1 | exact v2 | exact e2 | exact True.intro | (show (_ : Bool) = _; assumption) | omega | apply And.intro); all_goals first | (simp; done) | (simp; omega) | (simp_all; done) | exact Nat.le_of_ble_eq_true rfl | kernel_rfl)
          · simp [h4, c1, c2, Option.map_map]; congr 1
          · simp [tle]; omega
    · obtain rfl : i = t.length := by omega
      refine g_fin tab_ok mixed 3000 [.f] rfl ⟨by simp, trivial⟩ (rd_exit rfl ?_)
      refine g_fin tab_ok mixed 3000 [] rfl trivial (ret_of rfl ?_ trivial trivial)
      rw [List.drop_length] at h4
      simp [h4, unhexO, tle, tleL]
  · refine g_fin tab_ok mixed 3000 [.t] rfl (by (simp only [AllR]; (repeat' first | exact True.intro | (show (_ : Bool) = _; assumption) | omega | apply And.intro); all_goals first | (simp; done) | (simp; omega) | (simp_all; done) | exact Nat.le_of_ble_eq_true rfl | kernel_rfl)) (ret_of rfl ?_ trivial trivial)
    simp [unhexO_odd t (by omega), tle, tleL]
theorem decDigits_snoc (n : Nat) (h : 10 ≤ n) : Lib.decDigits n = Lib.decDigits (n / 10) ++ [UInt8.ofNat (48 + n % 10)] := by
  rw [Lib.decDigits, dif_neg (by omega)]
theorem decDigits_one (n : Nat) (h : n < 10) : Lib.decDigits n = [UInt8.ofNat (48 + n)] := by
  rw [Lib.decDigits, dif_pos h]
theorem sign_dec (k : Nat) (h : k < 10) : (signs.take (k + 1)).drop k = [UInt8.ofNat (48 + k)] := by
  revert k; decide
theorem decDigits_len (n : Nat) (h : n < 18446744073709551616) : (Lib.decDigits n).length ≤ 20 := by
  rw [Lib.decDigits_length]; exact Lib.nDigits_le20 n h
/-- What stands ahead of the digits that are written. -/
def ahead (n : Nat) : List UInt8 := if n = 0 then [] else Lib.decDigits n
theorem ahead_step (n : Nat) (h : 0 < n) (s : List UInt8) : ahead n ++ s = ahead (n / 10) ++ ([UInt8.ofNat (48 + n % 10)] ++ s) := by
  unfold ahead
  rw [if_neg (by omega)]
  by_cases h10 : n < 10
  · rw [if_pos (by omega), decDigits_one n h10, Nat.mod_eq_of_lt h10]; simp
  · rw [if_neg (by omega), decDigits_snoc n (by omega)]; simp
theorem plain02 (N : Nat) (hN : N < 9223372036854775808) : Ret P (C ml) 35 [.i .i64 N] (.s (Lib.decDigits N)) := by
  refine hret_of tab_ok Tryd.func35 rfl rfl (by kernel_rfl) rfl ?_
  refine g_run tab_ok mixed 3000 [] rfl trivial ?_
  have hd := decDigits_len N (by omega)
  refine g_loop (fun x : Nat × List UInt8 => [(0, .i .i64 x.1), (3, .s x.2)]) (fun _ => []) (fun x => x.1 ≤ N ∧ (x.2 = [] ∧ x.1 = N ∨ x.2 ≠ [] ∧ Lib.decDigits N = ahead x.1 ++ x.2)) (fun x => 2 * x.1 + if x.2 = [] then 1 else 0) (N, []) ⟨⟨rfl, rfl, trivial⟩, trivial, trivial⟩ ⟨by omega, .inl ⟨rfl, rfl⟩⟩ ?_
  rintro ⟨n, s⟩ ⟨h1, h2⟩
  dsimp only at h1 h2
  have hs : s.length ≤ 20 := by
    rcases h2 with ⟨rfl, _⟩ | ⟨_, h2⟩
    · simp
    · rw [h2, List.length_append] at hd; omega
  have e1 : (n : Int).tmod 10 = ((n % 10 : Nat) : Int) := rfl
  have e2 : (n : Int).tdiv 10 = ((n / 10 : Nat) : Int) := rfl
  have e3 : IntKind.i64.wrap ((n % 10 : Nat) + 1 : Int) = (n % 10 + 1 : Nat) := by rw [wrap_i64]; omega
  have e4 : IntKind.i64.wrap ((n / 10 : Nat) : Int) = (n / 10 : Nat) := by rw [wrap_i64]; omega
  have c1 := sign_dec (n % 10) (by omega)
  simp only [signs] at c1
  by_cases hn : 0 < n
  · have key : Lib.decDigits N = ahead n ++ s := by
      rcases h2 with ⟨rfl, rfl⟩ | ⟨_, h2⟩
      · simp [ahead, show n ≠ 0 by omega]
      · exact h2
    refine g_fin tab_ok mixed 3000 [.t] rfl ?_ (rd_next (n / 10, [UInt8.ofNat (48 + n % 10)] ++ s) ⟨by omega, .inr ⟨by simp, ?_⟩⟩ ?_ ⟨?_, ?_, trivial⟩ trivial trivial)
    · simp only [e1, e2, e3, e4, Int.toNat_natCast, c1]
      (simp only [AllR]; (repeat' first | exact True.intro | (show (_ : Bool) = _; assumption) | omega | apply And.intro); all_goals first | (simp; done) | (simp; omega) | (simp_all; done) | exact Nat.le_of_ble_eq_true rfl | kernel_rfl)
    · rw [key, ahead_step n hn]
    · simp; split <;> omega
    · simp [tle]; omega
    · simp only [e1, e2, e3, e4, Int.toNat_natCast, c1]; rfl
  · obtain rfl : n = 0 := by omega
    rcases h2 with ⟨rfl, rfl⟩ | ⟨h3, h2⟩
    · refine g_fin tab_ok mixed 3000 [.f, .t] rfl ?_ (rd_next (0, [48]) ⟨by omega, .inr ⟨by simp, ?_⟩⟩ (by simp) ⟨rfl, rfl, trivial⟩ trivial trivial)
      · (simp only [AllR]; (repeat' first | exact True.intro | (show (_ : Bool) = _; assumption) | omega | apply And.intro); all_goals first | (simp; done) | (simp; omega) | (simp_all; done) | exact Nat.le_of_ble_eq_true rfl | kernel_rfl)
      · rw [decDigits_one 0 (by omega)]; rfl
    · refine g_fin tab_ok mixed 3000 [.f, .f] rfl ?_ (rd_exit rfl ?_)
      · (simp only [AllR]; (repeat' first | exact by simpa using h3 | exact True.intro | (show (_ : Bool) = _; assumption) | omega | apply And.intro); all_goals first | (simp; done) | (simp; omega) | (simp_all; done) | exact Nat.le_of_ble_eq_true rfl | kernel_rfl)
      · refine g_fin tab_ok mixed 3000 [] rfl trivial (ret_of rfl ?_ trivial trivial)
        rw [h2]; rfl
/-- A number in so many digits. -/
def decW (n w : Int) : List UInt8 :=
  if n < 0 ∨ w < 1 ∨ 18 < w then [] else if w < (Lib.decDigits n.toNat).length then [] else List.replicate (w.toNat - (Lib.decDigits n.toNat).length) 48 ++ Lib.decDigits n.toNat
theorem dec02 (n w : Int) (h1 : -9223372036854775808 ≤ n) (h2 : n ≤ 9223372036854775807) : Ret P (C ml) 20 [.i .i64 n, .i .i64 w] (.s (decW n w)) := by
  refine hret_of tab_ok Tryd.func20 rfl rfl (by kernel_rfl) rfl ?_
  by_cases c1 : n < 0
  · refine g_fin tab_ok mixed 3000 [.t, .t] rfl (by (simp only [AllR]; (repeat' first | exact True.intro | (show (_ : Bool) = _; assumption) | omega | apply And.intro); all_goals first | (simp; done) | (simp; omega) | (simp_all; done) | exact Nat.le_of_ble_eq_true rfl | kernel_rfl)) (ret_of rfl ?_ trivial trivial)
    simp [tle, decW, c1]
  · by_cases c2 : w < 1
    · refine g_fin tab_ok mixed 3000 [.f, .t, .t] rfl (by (simp only [AllR]; (repeat' first | exact True.intro | (show (_ : Bool) = _; assumption) | omega | apply And.intro); all_goals first | (simp; done) | (simp; omega) | (simp_all; done) | exact Nat.le_of_ble_eq_true rfl | kernel_rfl)) (ret_of rfl ?_ trivial trivial)
      simp [tle, decW, c2]
    · by_cases c3 : 18 < w
      · refine g_fin tab_ok mixed 3000 [.f, .f, .t] rfl (by (simp only [AllR]; (repeat' first | exact True.intro | (show (_ : Bool) = _; assumption) | omega | apply And.intro); all_goals first | (simp; done) | (simp; omega) | (simp_all; done) | exact Nat.le_of_ble_eq_true rfl | kernel_rfl)) (ret_of rfl ?_ trivial trivial)
        simp [tle, decW, c3]
      · obtain ⟨N, rfl⟩ : ∃ N : Nat, n = N := ⟨n.toNat, by omega⟩
        have hd := decDigits_len N (by omega)
        by_cases c4 : w < (Lib.decDigits N).length
        · refine g_fin tab_ok mixed 3000 [.f, .f, .f, .c (.s (Lib.decDigits N)) [] [], .t] rfl (by (simp only [AllR]; (repeat' first | exact plain02 N (by omega) | exact True.intro | (show (_ : Bool) = _; assumption) | omega | apply And.intro); all_goals first | (simp; done) | (simp; omega) | (simp_all; done) | exact Nat.le_of_ble_eq_true rfl | kernel_rfl)) (ret_of rfl ?_ trivial trivial)
          simp [tle, decW, c1, c2, c3, c4]
        · refine g_run tab_ok mixed 3000 [.f, .f, .f, .c (.s (Lib.decDigits N)) [] [], .f] rfl (by (simp only [AllR]; (repeat' first | exact plain02 N (by omega) | exact True.intro | (show (_ : Bool) = _; assumption) | omega | apply And.intro); all_goals first | (simp; done) | (simp; omega) | (simp_all; done) | exact Nat.le_of_ble_eq_true rfl | kernel_rfl)) ?_
          refine g_loop (fun k : Nat => [(1, .i .i64 w), (5, .s (List.replicate k 48 ++ Lib.decDigits N))]) (fun _ => []) (fun k => k + (Lib.decDigits N).length ≤ w.toNat) (fun k => w.toNat - k) 0 ⟨⟨rfl, by simp [tle], trivial⟩, trivial, trivial⟩ (by omega) ?_
          intro k hk
          by_cases c5 : k + (Lib.decDigits N).length < w.toNat
          · refine g_fin tab_ok mixed 3000 [.t] rfl (by (simp only [AllR]; (repeat' first | exact True.intro | (show (_ : Bool) = _; assumption) | omega | apply And.intro); all_goals first | (simp; done) | (simp; omega) | (simp_all; done) | exact Nat.le_of_ble_eq_true rfl | kernel_rfl)) (rd_next (k + 1) (by omega) (by omega) ⟨rfl, ?_, trivial⟩ trivial trivial)
            simp [tle, List.replicate_succ]
          · refine g_fin tab_ok mixed 3000 [.f] rfl (by (simp only [AllR]; (repeat' first | exact True.intro | (show (_ : Bool) = _; assumption) | omega | apply And.intro); all_goals first | (simp; done) | (simp; omega) | (simp_all; done) | exact Nat.le_of_ble_eq_true rfl | kernel_rfl)) (rd_exit rfl ?_)
            refine g_fin tab_ok mixed 3000 [] rfl trivial (ret_of rfl ?_ trivial trivial)
            simp [tle, decW, c1, c2, c3, c4]
            congr 1; omega
/-- The number of digits, behind 'n'. -/
def decVal : List UInt8 → Nat → Option Nat
  | [], n => some n
  | c :: l, n => if hexv c.toNat < 0 ∨ 9 < hexv c.toNat then none else decVal l (10 * n + (hexv c.toNat).toNat)
def undecO (t : List UInt8) : Option Nat := if t.length < 1 ∨ 18 < t.length then none else decVal t 0
theorem drop_one (t : List UInt8) (i : Nat) (h : i < t.length) : t.drop i = t.getD i 0 :: t.drop (i + 1) := by
  rw [List.drop_eq_getElem_cons h]; simp [h]
theorem pow_bound {n i : Nat} (h : n < 10 ^ i) (hi : i ≤ 17) : n < 100000000000000000 := by
  have : 10 ^ i ≤ 10 ^ 17 := Nat.pow_le_pow_right (by omega) hi
  omega
theorem undec02 (t : List UInt8) (ht : t.length ≤ 1000000) : Ret P (C ml) 16 [.s t] (.tup [.i .i64 (((undecO t).getD 0 : Nat) : Int), .b (undecO t).isSome]) := by
  refine hret_of tab_ok Tryd.func16 rfl rfl (by kernel_rfl) rfl ?_
  by_cases c1 : t.length < 1
  · refine g_fin tab_ok mixed 3000 [.t, .t] rfl (by (simp only [AllR]; (repeat' first | exact True.intro | (show (_ : Bool) = _; assumption) | omega | apply And.intro); all_goals first | (simp; done) | (simp; omega) | (simp_all; done) | exact Nat.le_of_ble_eq_true rfl | kernel_rfl)) (ret_of rfl ?_ trivial trivial)
    simp [tle, tleL, undecO, c1]
  · by_cases c2 : 18 < t.length
    · refine g_fin tab_ok mixed 3000 [.f, .t] rfl (by (simp only [AllR]; (repeat' first | exact True.intro | (show (_ : Bool) = _; assumption) | omega | apply And.intro); all_goals first | (simp; done) | (simp; omega) | (simp_all; done) | exact Nat.le_of_ble_eq_true rfl | kernel_rfl)) (ret_of rfl ?_ trivial trivial)
      simp [tle, tleL, undecO, c1, c2]
    · refine g_run tab_ok mixed 3000 [.f, .f] rfl (by (simp only [AllR]; (repeat' first | exact True.intro | (show (_ : Bool) = _; assumption) | omega | apply And.intro); all_goals first | (simp; done) | (simp; omega) | (simp_all; done) | exact Nat.le_of_ble_eq_true rfl | kernel_rfl)) ?_
      have hu : undecO t = decVal t 0 := by simp [undecO, c1, c2]
      rw [hu]
      refine g_loop (fun x : Nat × Nat => [(0, .s t), (4, .i .i64 x.2), (5, .i .i64 x.1)]) (fun _ => []) (fun x => x.1 ≤ t.length ∧ x.2 < 10 ^ x.1 ∧ decVal t 0 = decVal (t.drop x.1) x.2) (fun x => t.length - x.1) (0, 0) ⟨⟨rfl, rfl, rfl, trivial⟩, trivial, trivial⟩ ⟨by omega, by simp, rfl⟩ ?_
      rintro ⟨i, n⟩ ⟨h1, h2, h3⟩
      dsimp only at h1 h2 h3
      by_cases hi : i < t.length
      · have hn := pow_bound h2 (by omega)
        rw [drop_one t i hi, decVal] at h3
        have hb : bt t i = ((t.getD i 0).toNat : Int) := rfl
        rw [← hb] at h3
        have v1 := value02 (ml := ml) (bt t i)
        have hv1 := hexv_lo (bt t i)
        revert h3 v1 hv1
        generalize hexv (bt t i) = A
        intro h3 v1 hv1
        by_cases c3 : A < 0
        · refine g_fin tab_ok mixed 3000 [.t, .c (.i .i64 A) [] [], .t] rfl (by (simp only [AllR]; (repeat' first | exact v1 | exact True.intro | (show (_ : Bool) = _; assumption) | omega | apply And.intro); all_goals first | (simp; done) | (simp; omega) | (simp_all; done) | exact Nat.le_of_ble_eq_true rfl | kernel_rfl)) (rd_ret (ret_of rfl ?_ trivial trivial))
          simp [h3, c3, tle, tleL]
        · by_cases c4 : 9 < A
          · refine g_fin tab_ok mixed 3000 [.t, .c (.i .i64 A) [] [], .f, .t] rfl (by (simp only [AllR]; (repeat' first | exact v1 | exact True.intro | (show (_ : Bool) = _; assumption) | omega | apply And.intro); all_goals first | (simp; done) | (simp; omega) | (simp_all; done) | exact Nat.le_of_ble_eq_true rfl | kernel_rfl)) (rd_ret (ret_of rfl ?_ trivial trivial))
            simp [h3, c3, c4, tle, tleL]
          · rw [if_neg (by omega)] at h3
            refine g_fin tab_ok mixed 3000 [.t, .c (.i .i64 A) [] [], .f, .f] rfl (by (simp only [AllR]; (repeat' first | exact v1 | exact True.intro | (show (_ : Bool) = _; assumption) | omega | apply And.intro); all_goals first | (simp; done) | (simp; omega) | (simp_all; done) | exact Nat.le_of_ble_eq_true rfl | kernel_rfl)) (rd_next (i + 1, 10 * n + A.toNat) ⟨by omega, by simp only [Nat.pow_succ]; omega, h3⟩ (by simp; omega) ⟨rfl, ?_, ?_, trivial⟩ trivial trivial)
            · simp [tle]; omega
            · simp [tle]; omega
      · obtain rfl : i = t.length := by omega
        rw [List.drop_length] at h3
        refine g_fin tab_ok mixed 3000 [.f] rfl (by (simp only [AllR]; (repeat' first | exact True.intro | (show (_ : Bool) = _; assumption) | omega | apply And.intro); all_goals first | (simp; done) | (simp; omega) | (simp_all; done) | exact Nat.le_of_ble_eq_true rfl | kernel_rfl)) (rd_exit rfl ?_)
        refine g_fin tab_ok mixed 3000 [] rfl trivial (ret_of rfl ?_ trivial trivial)
        simp [h3, decVal, tle, tleL]
theorem num02 (n : Int) (h1 : -9223372036854775808 ≤ n) (h2 : n ≤ 9223372036854775807) : Ret P (C ml) 22 [.i .i64 n] (.s (Lib.itoa n)) := by
  refine hret_of tab_ok Tryd.func22 rfl rfl (by kernel_rfl) rfl ?_
  by_cases c1 : 0 ≤ n
  · obtain ⟨N, rfl⟩ : ∃ N : Nat, n = N := ⟨n.toNat, by omega⟩
    rw [Lib.itoa_nonneg]
    refine g_fin tab_ok mixed 3000 [.t, .c (.s (Lib.decDigits N)) [] []] rfl (by (simp only [AllR]; (repeat' first | exact plain02 N (by omega) | exact True.intro | (show (_ : Bool) = _; assumption) | omega | apply And.intro); all_goals first | (simp; done) | (simp; omega) | (simp_all; done) | exact Nat.le_of_ble_eq_true rfl | kernel_rfl)) (ret_of rfl ?_ trivial trivial)
    simp [tle]
  · obtain ⟨u, rfl⟩ : ∃ u : Nat, n = -(u : Int) := ⟨n.natAbs, by omega⟩
    have e1 : (-(u : Int)).tmod 10 = -((u % 10 : Nat) : Int) := by rw [Int.neg_tmod]; rfl
    have e2 : (-(u : Int)).tdiv 10 = -((u / 10 : Nat) : Int) := by rw [Int.neg_tdiv]; rfl
    have e3 : IntKind.i64.wrap (0 - -((u % 10 : Nat) : Int)) = ((u % 10 : Nat) : Int) := by rw [wrap_i64]; omega
    have e4 : IntKind.i64.wrap (0 - IntKind.i64.wrap (-((u / 10 : Nat) : Int))) = ((u / 10 : Nat) : Int) := by rw [wrap_i64, wrap_i64]; omega
    have hd := decDigits_len (u % 10) (by omega)
    have hd' := decDigits_len (u / 10) (by omega)
    rw [Lib.itoa_neg u (by omega)]
    have p1 := plain02 (ml := ml) (u % 10) (by omega)
    have p2 := plain02 (ml := ml) (u / 10) (by omega)
    by_cases c2 : u / 10 = 0
    · refine g_fin tab_ok mixed 3000 [.f, .t, .c (.s (Lib.decDigits (u % 10))) [] []] rfl ?_ (ret_of rfl ?_ trivial trivial)
      · simp only [e1, e2, e3, e4]
        (simp only [AllR]; (repeat' first | exact p1 | exact p2 | exact True.intro | (show (_ : Bool) = _; assumption) | omega | apply And.intro); all_goals first | (simp; done) | (simp; omega) | (simp_all; done) | exact Nat.le_of_ble_eq_true rfl | kernel_rfl)
      · rw [Nat.mod_eq_of_lt (by omega)]; simp [tle]
    · refine g_fin tab_ok mixed 3000 [.f, .f, .c (.s (Lib.decDigits (u / 10))) [] [], .c (.s (Lib.decDigits (u % 10))) [] []] rfl ?_ (ret_of rfl ?_ trivial trivial)
      · simp only [e1, e2, e3, e4]
        (simp only [AllR]; (repeat' first | exact p1 | exact p2 | exact True.intro | (show (_ : Bool) = _; assumption) | omega | apply And.intro); all_goals first | (simp; done) | (simp; omega) | (simp_all; done) | exact Nat.le_of_ble_eq_true rfl | kernel_rfl)
      · rw [decDigits_snoc u (by omega), decDigits_one (u % 10) (by omega)]; simp [tle]
open Classical in
/-- The number whose text this is. -/
noncomputable def unnumO (t : List UInt8) : Option Int := if h : ∃ n : Int, -9223372036854775808 ≤ n ∧ n ≤ 9223372036854775807 ∧ Lib.itoa n = t then some h.choose else none
theorem decVal_ge : ∀ (l : List UInt8) (a u : Nat), decVal l a = some u → a ≤ u
  | [], a, u, h => by simp only [decVal, Option.some.injEq] at h; omega
  | c :: l, a, u, h => by
    rw [decVal] at h
    split at h
    · cases h
    · have := decVal_ge l _ u h; omega
theorem decVal_append : ∀ (l m : List UInt8) (a : Nat), decVal (l ++ m) a = (decVal l a).bind (decVal m)
  | [], m, a => rfl
  | c :: l, m, a => by
    rw [List.cons_append, decVal, decVal]
    split
    · rfl
    · exact decVal_append l m _
theorem hexv_digit (k : Nat) (h : k < 10) : hexv ((UInt8.ofNat (48 + k)).toNat : Int) = k := by
  revert k; decide
theorem decVal_decDigits (u : Nat) : decVal (Lib.decDigits u) 0 = some u := by
  induction u using Nat.strongRecOn with
  | _ u ih =>
    by_cases h : u < 10
    · rw [decDigits_one u h, decVal, hexv_digit u h, if_neg (by omega), decVal]; simp
    · rw [decDigits_snoc u (by omega), decVal_append, ih (u / 10) (by omega)]
      simp only [Option.bind_some]
      rw [decVal, hexv_digit (u % 10) (by omega), if_neg (by omega), decVal]
      simp; omega
theorem decDigits_head (u : Nat) : ∃ c l, Lib.decDigits u = c :: l ∧ c ≠ 45 := by
  induction u using Nat.strongRecOn with
  | _ u ih =>
    by_cases h : u < 10
    · rw [decDigits_one u h]
      refine ⟨_, _, rfl, ?_⟩
      clear ih; revert u; decide
    · obtain ⟨c, l, e, h1⟩ := ih (u / 10) (by omega)
      rw [decDigits_snoc u (by omega), e]; exact ⟨c, _, rfl, h1⟩
theorem itoa_inj {n m : Int} (h : Lib.itoa n = Lib.itoa m) : n = m := by
  unfold Lib.itoa at h
  have key : ∀ a b : Nat, Lib.decDigits a = Lib.decDigits b → a = b := fun a b e => by
    have := decVal_decDigits a
    rw [e, decVal_decDigits b] at this
    simpa using this.symm
  by_cases hn : n < 0 <;> by_cases hm : m < 0
  · rw [if_pos hn, if_pos hm] at h
    have := key _ _ (List.cons.inj h).2
    omega
  · rw [if_pos hn, if_neg hm] at h
    obtain ⟨c, l, e, h1⟩ := decDigits_head m.toNat
    rw [e] at h; exact absurd (List.cons.inj h).1.symm h1
  · rw [if_neg hn, if_pos hm] at h
    obtain ⟨c, l, e, h1⟩ := decDigits_head n.toNat
    rw [e] at h; exact absurd (List.cons.inj h).1 h1
  · rw [if_neg hn, if_neg hm] at h
    have := key _ _ h
    omega
theorem unnumO_itoa (n : Int) (h1 : -9223372036854775808 ≤ n) (h2 : n ≤ 9223372036854775807) : unnumO (Lib.itoa n) = some n := by
  unfold unnumO
  have h : ∃ m : Int, -9223372036854775808 ≤ m ∧ m ≤ 9223372036854775807 ∧ Lib.itoa m = Lib.itoa n := ⟨n, h1, h2, rfl⟩
  rw [dif_pos h]
  exact congrArg some (itoa_inj h.choose_spec.2.2)
theorem unnumO_none {t : List UInt8} (h : ∀ n : Int, -9223372036854775808 ≤ n → n ≤ 9223372036854775807 → Lib.itoa n ≠ t) : unnumO t = none := by
  unfold unnumO
  rw [dif_neg]
  rintro ⟨n, h1, h2, h3⟩; exact h n h1 h2 h3
theorem itoa_parts {v : Int} {t : List UInt8} (h : Lib.itoa v = t) : (bt t 0 = 45 → v < 0 ∧ decVal (t.drop 1) 0 = some v.natAbs) ∧ (bt t 0 ≠ 45 → 0 ≤ v ∧ decVal t 0 = some v.natAbs) := by
  subst h
  unfold Lib.itoa
  by_cases hv : v < 0
  · rw [if_pos hv]
    exact ⟨fun _ => ⟨hv, decVal_decDigits _⟩, fun h => absurd rfl h⟩
  · rw [if_neg hv]
    obtain ⟨c, l, e, h1⟩ := decDigits_head v.toNat
    refine ⟨fun h => ?_, fun _ => ⟨by omega, ?_⟩⟩
    · rw [e] at h
      refine absurd ?_ h1
      have h2 : ((c.toNat : Nat) : Int) = 45 := h
      have h3 : c.toNat = (45 : UInt8).toNat := by simpa using (by omega : c.toNat = 45)
      exact UInt8.toNat_inj.1 h3
    · rw [decVal_decDigits]; congr 1; omega
theorem itoa_len {v : Int} (h1 : -9223372036854775808 ≤ v) (h2 : v ≤ 9223372036854775807) : 1 ≤ (Lib.itoa v).length ∧ (Lib.itoa v).length ≤ 20 := by
  unfold Lib.itoa
  have key : ∀ u : Nat, u ≤ 9223372036854775808 → 1 ≤ (Lib.decDigits u).length ∧ (Lib.decDigits u).length ≤ 19 := fun u hu => by
    rw [Lib.decDigits_length]
    refine ⟨Lib.nDigits_pos u, ?_⟩
    refine Nat.not_lt.1 fun h => ?_
    by_cases h0 : u = 0
    · subst h0; rw [Lib.nDigits_small (by omega)] at h; omega
    · have h3 : ∀ k, k < Lib.nDigits u → 10 ^ k ≤ u := fun k => by
        clear h
        induction k generalizing u with
        | zero => intro _; simp; omega
        | succ k ih =>
          intro hk
          by_cases hs : u < 10
          · rw [Lib.nDigits_small hs] at hk; omega
          · rw [Lib.nDigits_big hs] at hk
            have := ih (u / 10) (by omega) (by omega) (by omega)
            rw [Nat.pow_succ]; omega
      have := h3 19 h
      omega
  split
  · have := key v.natAbs (by omega); simp; omega
  · have := key v.toNat (by omega); omega
theorem edge_lo (a : Nat) (h : a ≤ 9) : IntKind.i64.wrap ((IntKind.i64.wrap (-9223372036854775808 + (a : Int))).tdiv 10) = -((9223372036854775808 - (a : Int)) / 10) := by
  have : a = 0 ∨ a = 1 ∨ a = 2 ∨ a = 3 ∨ a = 4 ∨ a = 5 ∨ a = 6 ∨ a = 7 ∨ a = 8 ∨ a = 9 := by omega
  rcases this with rfl | rfl | rfl | rfl | rfl | rfl | rfl | rfl | rfl | rfl <;> decide
theorem edge_hi (a : Nat) (h : a ≤ 9) : IntKind.i64.wrap ((IntKind.i64.wrap (9223372036854775807 - (a : Int))).tdiv 10) = (9223372036854775807 - (a : Int)) / 10 := by
  have : a = 0 ∨ a = 1 ∨ a = 2 ∨ a = 3 ∨ a = 4 ∨ a = 5 ∨ a = 6 ∨ a = 7 ∨ a = 8 ∨ a = 9 := by omega
  rcases this with rfl | rfl | rfl | rfl | rfl | rfl | rfl | rfl | rfl | rfl <;> decide
theorem unnum02 (t : List UInt8) (ht : t.length ≤ 1000000) : Ret P (C ml) 18 [.s t] (.tup [.i .i64 ((unnumO t).getD 0), .b (unnumO t).isSome]) := by
  refine hret_of tab_ok Tryd.func18 rfl rfl (by kernel_rfl) rfl ?_
  by_cases c1 : t.length < 1
  · refine g_fin tab_ok mixed 3000 [.t, .t] rfl (by (simp only [AllR]; (repeat' first | exact True.intro | (show (_ : Bool) = _; assumption) | omega | apply And.intro); all_goals first | (simp; done) | (simp; omega) | (simp_all; done) | exact Nat.le_of_ble_eq_true rfl | kernel_rfl)) (ret_of rfl ?_ trivial trivial)
    rw [unnumO_none fun n a b e => by have := itoa_len a b; rw [e] at this; omega]; simp [tle, tleL]
  · by_cases c2 : 20 < t.length
    · refine g_fin tab_ok mixed 3000 [.f, .t] rfl (by (simp only [AllR]; (repeat' first | exact True.intro | (show (_ : Bool) = _; assumption) | omega | apply And.intro); all_goals first | (simp; done) | (simp; omega) | (simp_all; done) | exact Nat.le_of_ble_eq_true rfl | kernel_rfl)) (ret_of rfl ?_ trivial trivial)
      rw [unnumO_none fun n a b e => by have := itoa_len a b; rw [e] at this; omega]; simp [tle, tleL]
    · by_cases hb : bt t 0 = 45
      · refine g_run tab_ok mixed 3000 [.f, .f, .t] rfl (by (simp only [AllR]; (repeat' first | exact by simpa using hb | exact True.intro | (show (_ : Bool) = _; assumption) | omega | apply And.intro); all_goals first | (simp; done) | (simp; omega) | (simp_all; done) | exact Nat.le_of_ble_eq_true rfl | kernel_rfl)) ?_
        refine g_loop (fun x : Nat × Nat => [(0, .s t), (4, .b (bt t 0 == 45)), (6, .i .i64 (-(x.2 : Int))), (7, .i .i64 x.1)]) (fun _ => []) (fun x => x.1 ≤ t.length ∧ x.2 ≤ 9223372036854775808 ∧ ∀ v : Int, -9223372036854775808 ≤ v → v ≤ 9223372036854775807 → Lib.itoa v = t → v < 0 ∧ decVal (t.drop x.1) x.2 = some v.natAbs) (fun x => t.length - x.1) (1, 0) ⟨⟨rfl, .inl rfl, rfl, rfl, trivial⟩, trivial, trivial⟩ ⟨by omega, by omega, fun v _ _ e => (itoa_parts e).1 hb⟩ ?_
        rintro ⟨i, m⟩ ⟨h1, h2, h3⟩
        dsimp only at h1 h2 h3
        by_cases hi : i < t.length
        · rw [drop_one t i hi] at h3
          simp only [decVal] at h3
          have hb : bt t i = ((t.getD i 0).toNat : Int) := rfl
          rw [← hb] at h3
          have v1 := value02 (ml := ml) (bt t i)
          have hv1 := hexv_lo (bt t i)
          revert h3 v1 hv1
          generalize hexv (bt t i) = A
          intro h3 v1 hv1
          by_cases c3 : A < 0
          · refine g_fin tab_ok mixed 3000 [.t, .c (.i .i64 A) [] [], .t] rfl (by (simp only [AllR]; (repeat' first | exact v1 | exact True.intro | (show (_ : Bool) = _; assumption) | omega | apply And.intro); all_goals first | (simp; done) | (simp; omega) | (simp_all; done) | exact Nat.le_of_ble_eq_true rfl | kernel_rfl)) (rd_ret (ret_of rfl ?_ trivial trivial))
            rw [unnumO_none fun n a b e => by have := (h3 n a b e).2; rw [if_pos (.inl c3)] at this; cases this]; simp [tle, tleL]
          · by_cases c4 : 9 < A
            · refine g_fin tab_ok mixed 3000 [.t, .c (.i .i64 A) [] [], .f, .t] rfl (by (simp only [AllR]; (repeat' first | exact v1 | exact True.intro | (show (_ : Bool) = _; assumption) | omega | apply And.intro); all_goals first | (simp; done) | (simp; omega) | (simp_all; done) | exact Nat.le_of_ble_eq_true rfl | kernel_rfl)) (rd_ret (ret_of rfl ?_ trivial trivial))
              rw [unnumO_none fun n a b e => by have := (h3 n a b e).2; rw [if_pos (.inr c4)] at this; cases this]; simp [tle, tleL]
            · obtain ⟨a, rfl⟩ : ∃ a : Nat, A = a := ⟨A.toNat, by omega⟩
              rw [if_neg (by omega)] at h3
              have e1 := edge_lo a (by omega)
              by_cases c5 : 10 * m + a ≤ 9223372036854775808
              · refine g_fin tab_ok mixed 3000 [.t, .c (.i .i64 a) [] [], .f, .f, .t, .f] rfl ?_ (rd_next (i + 1, 10 * m + a) ⟨by omega, by simpa using c5, by simpa using h3⟩ (by simp; omega) ⟨rfl, .inl rfl, ?_, ?_, trivial⟩ trivial trivial)
                · rw [e1]
                  (simp only [AllR]; (repeat' first | exact v1 | exact by simpa using hb | exact True.intro | (show (_ : Bool) = _; assumption) | omega | apply And.intro); all_goals first | (simp; done) | (simp; omega) | (simp_all; done) | exact Nat.le_of_ble_eq_true rfl | kernel_rfl)
                · simp [tle]; omega
                · simp [tle]; omega
              · refine g_fin tab_ok mixed 3000 [.t, .c (.i .i64 a) [] [], .f, .f, .t, .t] rfl ?_ (rd_ret (ret_of rfl ?_ trivial trivial))
                · rw [e1]
                  (simp only [AllR]; (repeat' first | exact v1 | exact by simpa using hb | exact True.intro | (show (_ : Bool) = _; assumption) | omega | apply And.intro); all_goals first | (simp; done) | (simp; omega) | (simp_all; done) | exact Nat.le_of_ble_eq_true rfl | kernel_rfl)
                · rw [unnumO_none fun n p q e => by
                    have h4 := (h3 n p q e).2
                    have h5 := (h3 n p q e).1
                    have := decVal_ge _ _ _ h4
                    simp at this; omega]
                  simp [tle, tleL]
        · obtain rfl : i = t.length := by omega
          rw [List.drop_length] at h3
          by_cases c3 : Lib.itoa (-(m : Int)) = t
          · refine g_fin tab_ok mixed 3000 [.f] rfl (by (simp only [AllR]; (repeat' first | exact True.intro | (show (_ : Bool) = _; assumption) | omega | apply And.intro); all_goals first | (simp; done) | (simp; omega) | (simp_all; done) | exact Nat.le_of_ble_eq_true rfl | kernel_rfl)) (rd_exit rfl ?_)
            refine g_fin tab_ok mixed 3000 [.c (.s (Lib.itoa (-(m : Int)))) [] [], .f] rfl (by (simp only [AllR]; (repeat' first | exact num02 _ (by omega) (by omega) | exact by simpa using c3 | exact True.intro | (show (_ : Bool) = _; assumption) | omega | apply And.intro); all_goals first | (simp; done) | (simp; omega) | (simp_all; done) | exact Nat.le_of_ble_eq_true rfl | kernel_rfl)) (ret_of rfl ?_ trivial trivial)
            have := unnumO_itoa (-(m : Int)) (by omega) (by omega)
            rw [c3] at this
            simp [tle, tleL, this]
          · refine g_fin tab_ok mixed 3000 [.f] rfl (by (simp only [AllR]; (repeat' first | exact True.intro | (show (_ : Bool) = _; assumption) | omega | apply And.intro); all_goals first | (simp; done) | (simp; omega) | (simp_all; done) | exact Nat.le_of_ble_eq_true rfl | kernel_rfl)) (rd_exit rfl ?_)
            refine g_fin tab_ok mixed 3000 [.c (.s (Lib.itoa (-(m : Int)))) [] [], .t] rfl (by (simp only [AllR]; (repeat' first | exact num02 _ (by omega) (by omega) | exact by simpa using c3 | exact True.intro | (show (_ : Bool) = _; assumption) | omega | apply And.intro); all_goals first | (simp; done) | (simp; omega) | (simp_all; done) | exact Nat.le_of_ble_eq_true rfl | kernel_rfl)) (ret_of rfl ?_ trivial trivial)
            rw [unnumO_none fun n a b e => by
              have h4 := h3 n a b e
              simp only [decVal, Option.some.injEq] at h4
              exact c3 ((show -(m : Int) = n by omega) ▸ e)]
            simp [tle, tleL]
      · refine g_run tab_ok mixed 3000 [.f, .f, .f] rfl (by (simp only [AllR]; (repeat' first | exact by simpa using hb | exact True.intro | (show (_ : Bool) = _; assumption) | omega | apply And.intro); all_goals first | (simp; done) | (simp; omega) | (simp_all; done) | exact Nat.le_of_ble_eq_true rfl | kernel_rfl)) ?_
        refine g_loop (fun x : Nat × Nat => [(0, .s t), (4, .b (bt t 0 == 45)), (6, .i .i64 x.2), (7, .i .i64 x.1)]) (fun _ => []) (fun x => x.1 ≤ t.length ∧ x.2 ≤ 9223372036854775807 ∧ ∀ v : Int, -9223372036854775808 ≤ v → v ≤ 9223372036854775807 → Lib.itoa v = t → 0 ≤ v ∧ decVal (t.drop x.1) x.2 = some v.natAbs) (fun x => t.length - x.1) (0, 0) ⟨⟨rfl, .inl rfl, rfl, rfl, trivial⟩, trivial, trivial⟩ ⟨by omega, by omega, fun v _ _ e => (itoa_parts e).2 hb⟩ ?_
        rintro ⟨i, m⟩ ⟨h1, h2, h3⟩
        dsimp only at h1 h2 h3
        by_cases hi : i < t.length
        · rw [drop_one t i hi] at h3
          simp only [decVal] at h3
          have hb : bt t i = ((t.getD i 0).toNat : Int) := rfl
          rw [← hb] at h3
          have v1 := value02 (ml := ml) (bt t i)
          have hv1 := hexv_lo (bt t i)
          revert h3 v1 hv1
          generalize hexv (bt t i) = A
          intro h3 v1 hv1
          by_cases c3 : A < 0
          · refine g_fin tab_ok mixed 3000 [.t, .c (.i .i64 A) [] [], .t] rfl (by (simp only [AllR]; (repeat' first | exact v1 | exact True.intro | (show (_ : Bool) = _; assumption) | omega | apply And.intro); all_goals first | (simp; done) | (simp; omega) | (simp_all; done) | exact Nat.le_of_ble_eq_true rfl | kernel_rfl)) (rd_ret (ret_of rfl ?_ trivial trivial))
            rw [unnumO_none fun n a b e => by have := (h3 n a b e).2; rw [if_pos (.inl c3)] at this; cases this]; simp [tle, tleL]
          · by_cases c4 : 9 < A
            · refine g_fin tab_ok mixed 3000 [.t, .c (.i .i64 A) [] [], .f, .t] rfl (by (simp only [AllR]; (repeat' first | exact v1 | exact True.intro | (show (_ : Bool) = _; assumption) | omega | apply And.intro); all_goals first | (simp; done) | (simp; omega) | (simp_all; done) | exact Nat.le_of_ble_eq_true rfl | kernel_rfl)) (rd_ret (ret_of rfl ?_ trivial trivial))
              rw [unnumO_none fun n a b e => by have := (h3 n a b e).2; rw [if_pos (.inr c4)] at this; cases this]; simp [tle, tleL]
            · obtain ⟨a, rfl⟩ : ∃ a : Nat, A = a := ⟨A.toNat, by omega⟩
              rw [if_neg (by omega)] at h3
              have e1 := edge_hi a (by omega)
              by_cases c5 : 10 * m + a ≤ 9223372036854775807
              · refine g_fin tab_ok mixed 3000 [.t, .c (.i .i64 a) [] [], .f, .f, .f, .f] rfl ?_ (rd_next (i + 1, 10 * m + a) ⟨by omega, by simpa using c5, by simpa using h3⟩ (by simp; omega) ⟨rfl, .inl rfl, ?_, ?_, trivial⟩ trivial trivial)
                · rw [e1]
                  (simp only [AllR]; (repeat' first | exact v1 | exact by simpa using hb | exact True.intro | (show (_ : Bool) = _; assumption) | omega | apply And.intro); all_goals first | (simp; done) | (simp; omega) | (simp_all; done) | exact Nat.le_of_ble_eq_true rfl | kernel_rfl)
                · simp [tle]; omega
                · simp [tle]; omega
              · refine g_fin tab_ok mixed 3000 [.t, .c (.i .i64 a) [] [], .f, .f, .f, .t] rfl ?_ (rd_ret (ret_of rfl ?_ trivial trivial))
                · rw [e1]
                  (simp only [AllR]; (repeat' first | exact v1 | exact by simpa using hb | exact True.intro | (show (_ : Bool) = _; assumption) | omega | apply And.intro); all_goals first | (simp; done) | (simp; omega) | (simp_all; done) | exact Nat.le_of_ble_eq_true rfl | kernel_rfl)
                · rw [unnumO_none fun n p q e => by
                    have h4 := (h3 n p q e).2
                    have h5 := (h3 n p q e).1
                    have := decVal_ge _ _ _ h4
                    simp at this; omega]
                  simp [tle, tleL]
        · obtain rfl : i = t.length := by omega
          rw [List.drop_length] at h3
          by_cases c3 : Lib.itoa (m : Int) = t
          · refine g_fin tab_ok mixed 3000 [.f] rfl (by (simp only [AllR]; (repeat' first | exact True.intro | (show (_ : Bool) = _; assumption) | omega | apply And.intro); all_goals first | (simp; done) | (simp; omega) | (simp_all; done) | exact Nat.le_of_ble_eq_true rfl | kernel_rfl)) (rd_exit rfl ?_)
            refine g_fin tab_ok mixed 3000 [.c (.s (Lib.itoa (m : Int))) [] [], .f] rfl (by (simp only [AllR]; (repeat' first | exact num02 _ (by omega) (by omega) | exact by simpa using c3 | exact True.intro | (show (_ : Bool) = _; assumption) | omega | apply And.intro); all_goals first | (simp; done) | (simp; omega) | (simp_all; done) | exact Nat.le_of_ble_eq_true rfl | kernel_rfl)) (ret_of rfl ?_ trivial trivial)
            have := unnumO_itoa (m : Int) (by omega) (by omega)
            rw [c3] at this
            simp [tle, tleL, this]
          · refine g_fin tab_ok mixed 3000 [.f] rfl (by (simp only [AllR]; (repeat' first | exact True.intro | (show (_ : Bool) = _; assumption) | omega | apply And.intro); all_goals first | (simp; done) | (simp; omega) | (simp_all; done) | exact Nat.le_of_ble_eq_true rfl | kernel_rfl)) (rd_exit rfl ?_)
            refine g_fin tab_ok mixed 3000 [.c (.s (Lib.itoa (m : Int))) [] [], .t] rfl (by (simp only [AllR]; (repeat' first | exact num02 _ (by omega) (by omega) | exact by simpa using c3 | exact True.intro | (show (_ : Bool) = _; assumption) | omega | apply And.intro); all_goals first | (simp; done) | (simp; omega) | (simp_all; done) | exact Nat.le_of_ble_eq_true rfl | kernel_rfl)) (ret_of rfl ?_ trivial trivial)
            rw [unnumO_none fun n a b e => by
              have h4 := h3 n a b e
              simp only [decVal, Option.some.injEq] at h4
              exact c3 ((show (m : Int) = n by omega) ▸ e)]
            simp [tle, tleL]
end Go.Proofs.YtdiippegaidpkaaDoor.Vm
