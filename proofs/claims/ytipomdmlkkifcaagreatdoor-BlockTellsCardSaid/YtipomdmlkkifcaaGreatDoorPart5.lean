/- Texts of one proof, gathered: Ref02 Itoa Lib1 Clone. -/
import Derived.Test.YtipomdmlkkifcaaGreatDoorPart3
import Derived.Lib.ItoaLen
import Derived.Test.YtipomdmlkkifcaaGreatDoorShelf
import Derived.Lib.BufferWrite
import Derived.Lib.UnsafeStr
import Derived.Laws.MakeOwn
import Derived.WalkKit
set_option linter.unusedSimpArgs false
set_option linter.unusedVariables false
set_option linter.unnecessarySimpa false
/- Contracts: clavigerref02 (digits). -/
namespace Go.Proofs.YtipomdmlkkifcaaGreatDoor.Vm
open Go Go.Proofs
variable {ml : Int}
def signs : List UInt8 := [48, 49, 50, 51, 52, 53, 54, 55, 56, 57, 65, 66, 67, 68, 69, 70]
def hexv (c : Int) : Int := if 48 ≤ c ∧ c ≤ 57 then c - 48 else if 65 ≤ c ∧ c ≤ 70 then c - 55 else -1
theorem bt_signs (i : Nat) (h : i < 16) : bt signs i = if i < 10 then 48 + (i : Int) else 55 + i := by
  revert i; decide
theorem value02 (c : Int) : Ret P (C ml) 139 [.i .u8 c] (.i .i64 (hexv c)) := by
  refine hR Tryz.func139 ?_
  refine g_run tab_ok mixed 3000 [] rfl trivial ?_
  refine g_loop (fun i : Nat => [(0, .i .u8 c), (3, .i .i64 i)]) (fun _ => []) (fun i => i ≤ 16 ∧ ∀ j : Nat, j < i → bt signs j ≠ c) (fun i => 16 - i) 0 ⟨⟨rfl, rfl, trivial⟩, trivial, trivial⟩ ⟨by omega, by omega⟩ ?_
  rintro i ⟨h1, h2⟩
  by_cases hi : i < 16
  · have hb := bt_signs i hi
    by_cases hc : bt signs i = c
    · refine g_fin tab_ok mixed 3000 [.t, .t] rfl ⟨by simp; omega, by simp; omega, by simpa [signs] using hc, trivial⟩ (rd_ret (ret_of rfl ?_ trivial trivial))
      show T.i _ _ = T.i _ _
      rw [← hc, hb]; simp only [hexv, T.i.injEq]
      grind
    · refine g_fin tab_ok mixed 3000 [.t, .f] rfl ⟨by simp; omega, by simp; omega, by simpa [signs] using hc, trivial⟩ (rd_next (i + 1) ⟨by omega, ?_⟩ (by omega) ⟨rfl, ?_, trivial⟩ trivial trivial)
      · grind
      · simp [look, tle]; omega
  · refine g_fin tab_ok mixed 3000 [.f] rfl ⟨by simp; omega, trivial⟩ (rd_exit rfl ?_)
    refine g_fin tab_ok mixed 3000 [] rfl trivial (ret_of rfl ?_ trivial trivial)
    have e : i = 16 := by omega
    subst e
    have := fun j h => bt_signs j h ▸ h2 j h
    show T.i _ _ = T.i _ _
    simp only [hexv, T.i.injEq]
    have h3 : ¬ (48 ≤ c ∧ c ≤ 57) := fun h => by
      have := this (c - 48).toNat (by omega)
      grind
    have h4 : ¬ (65 ≤ c ∧ c ≤ 70) := fun h => by
      have := this (c - 55).toNat (by omega)
      grind
    rw [if_neg h3, if_neg h4]
    exact ⟨trivial, rfl⟩
def hexs : List UInt8 → List UInt8
  | [] => []
  | c :: l => signs.getD (c.toNat / 16) 0 :: signs.getD (c.toNat % 16) 0 :: hexs l
theorem hexs_append (a b : List UInt8) : hexs (a ++ b) = hexs a ++ hexs b := by
  induction a with
  | nil => rfl
  | cons c a ih => simp [hexs, ih]
theorem hexs_length (a : List UInt8) : (hexs a).length = 2 * a.length := by
  induction a with
  | nil => rfl
  | cons c a ih => simp [hexs, ih]; omega
theorem take_succ_getD (l : List UInt8) (i : Nat) (h : i < l.length) : l.take (i + 1) = l.take i ++ [l.getD i 0] := by
  rw [List.take_succ_eq_append_getElem h]; simp [h]
theorem hexs_take (s : List UInt8) (i : Nat) (h : i < s.length) : hexs (s.take (i + 1)) = hexs (s.take i) ++ [signs.getD ((s.getD i 0).toNat / 16) 0, signs.getD ((s.getD i 0).toNat % 16) 0] := by
  rw [take_succ_getD s i h, hexs_append]; rfl
theorem sign_cut (k : Nat) (h : k < 16) : (signs.take (k + 1)).drop k = [signs.getD k 0] := by
  revert k; decide
theorem hex02 (s : List UInt8) (hs : s.length ≤ 1000000) : Ret P (C ml) 34 [.s s] (.s (hexs s)) := by
  refine hR Tryz.func34 ?_
  refine g_run tab_ok mixed 3000 [] rfl trivial ?_
  refine g_loop (fun i : Nat => [(0, .s s), (3, .s (hexs (s.take i))), (4, .i .i64 i)]) (fun _ => []) (fun i => i ≤ s.length) (fun i => s.length - i) 0 ⟨⟨rfl, rfl, rfl, trivial⟩, trivial, trivial⟩ (by omega) ?_
  intro i h1
  by_cases hi : i < s.length
  · have e0 := hexs_take s i hi
    have e1 : bt s i = ((s.getD i 0).toNat : Int) := rfl
    have hn := (s.getD i 0).toNat_lt
    revert e0 e1 hn
    generalize (s.getD i 0).toNat = n
    intro e0 e1 hn
    have e2 : IntKind.i64.wrap n = (n : Int) := by rw [wrap_i64]; omega
    have hl : (hexs (s.take i)).length ≤ 2000000 := by rw [hexs_length, List.length_take]; omega
    have e3 : (n : Int).tdiv 16 = (n / 16 : Nat) := rfl
    have e4 : (n : Int).tmod 16 = (n % 16 : Nat) := rfl
    have e5 : IntKind.i64.wrap ((n / 16 : Nat) : Int) = (n / 16 : Nat) := by rw [wrap_i64]; omega
    have e6 : IntKind.i64.wrap ((n / 16 : Nat) + 1 : Int) = (n / 16 + 1 : Nat) := by rw [wrap_i64]; omega
    have e7 : IntKind.i64.wrap ((n % 16 : Nat) + 1 : Int) = (n % 16 + 1 : Nat) := by rw [wrap_i64]; omega
    have c1 := sign_cut (n / 16) (by omega)
    have c2 := sign_cut (n % 16) (by omega)
    simp only [signs] at c1 c2
    refine g_fin tab_ok mixed 3000 [.t] rfl ?_ (rd_next (i + 1) (by omega) (by omega) ⟨?_, ?_, ?_, trivial⟩ trivial trivial)
    · simp only [e1, e2, e3, e4, e5, e6, e7, Int.toNat_natCast, c1, c2, List.length_append, List.length_cons, List.length_nil]
      refine ⟨?_, ?_, ?_, ?_, ?_, ?_, ?_, ?_, ?_, ?_, trivial⟩ <;> first | omega | (simp; done) | (simp; omega)
    · rfl
    · simp only [look, Nat.beq, e1, e2, e3, e4, e5, e6, e7, Int.toNat_natCast, c1, c2, e0, signs]
      simp [tle]
    · simp [look, tle]; omega
  · obtain rfl : i = s.length := by omega
    refine g_fin tab_ok mixed 3000 [.f] rfl ⟨by simp, trivial⟩ (rd_exit rfl ?_)
    refine g_fin tab_ok mixed 3000 [] rfl trivial (ret_of rfl ?_ trivial trivial)
    rw [List.take_length]; trivial
def unhexO : List UInt8 → Option (List UInt8)
  | [] => some []
  | [_] => none
  | a :: b :: l => if hexv a.toNat < 0 ∨ hexv b.toNat < 0 then none else (unhexO l).map (UInt8.ofNat (16 * hexv a.toNat + hexv b.toNat).toNat :: ·)
theorem hexv_lo (c : Int) : -1 ≤ hexv c := by unfold hexv; grind
theorem hexv_hi (c : Int) : hexv c ≤ 15 := by unfold hexv; grind
theorem unhexO_odd : ∀ (t : List UInt8), t.length % 2 = 1 → unhexO t = none
  | [], h => by simp at h
  | [_], _ => rfl
  | a :: b :: l, h => by
    rw [unhexO, unhexO_odd l (by simp at h; omega)]; simp
theorem drop_two (t : List UInt8) (i : Nat) (h : i + 1 < t.length) : t.drop i = t.getD i 0 :: t.getD (i + 1) 0 :: t.drop (i + 2) := by
  rw [List.drop_eq_getElem_cons (by omega), List.drop_eq_getElem_cons (by omega)]; simp [h, Nat.lt_of_succ_lt h]
theorem unhex02 (t : List UInt8) (ht : t.length ≤ 1000000) : Ret P (C ml) 77 [.s t] (.tup [.s ((unhexO t).getD []), .b (unhexO t).isSome]) := by
  refine hR Tryz.func77 ?_
  by_cases ho : t.length % 2 = 0
  · refine g_run tab_ok mixed 3000 [.f] rfl ⟨by simp, by simp; omega, trivial⟩ ?_
    refine g_loop (fun x : Nat × List UInt8 => [(0, .s t), (4, .s x.2), (5, .i .i64 x.1)]) (fun _ => []) (fun x => x.1 ≤ t.length ∧ x.1 % 2 = 0 ∧ x.2.length ≤ x.1 ∧ unhexO t = (unhexO (t.drop x.1)).map (x.2 ++ ·)) (fun x => t.length - x.1) (0, []) ⟨⟨rfl, rfl, rfl, trivial⟩, trivial, trivial⟩ ⟨by omega, rfl, by simp, by simp⟩ ?_
    rintro ⟨i, o⟩ ⟨h1, h2, h3, h4⟩
    dsimp only at h1 h2 h3 h4
    by_cases hi : i < t.length
    · have hw : IntKind.i64.wrap ((i : Int) + 1) = ((i + 1 : Nat) : Int) := by rw [wrap_i64]; omega
      rw [drop_two t i (by omega), unhexO] at h4
      have ha : bt t i = ((t.getD i 0).toNat : Int) := rfl
      have hb : bt t ((i + 1 : Nat) : Int) = ((t.getD (i + 1) 0).toNat : Int) := rfl
      rw [← ha, ← hb] at h4
      have hv1 := hexv_lo (bt t i)
      have hv2 := hexv_hi (bt t i)
      have hv3 := hexv_lo (bt t (i + 1 : Nat))
      have hv4 := hexv_hi (bt t (i + 1 : Nat))
      revert h4 hv1 hv2 hv3 hv4
      generalize hA : hexv (bt t i) = A
      generalize hB : hexv (bt t (i + 1 : Nat)) = B
      intro h4 hv1 hv2 hv3 hv4
      by_cases c1 : A < 0
      · refine g_fin tab_ok mixed 3000 [.t, .c (.i .i64 A) [] [], .c (.i .i64 B) [] [], .t] rfl ?_ (rd_ret (ret_of rfl ?_ trivial trivial))
        · rw [hw, ← hA, ← hB]; rw [← hA] at c1
          (simp only [AllR]; (repeat' first | exact value02 _ | exact True.intro | (show (_ : Bool) = _; assumption) | omega | apply And.intro); all_goals first | (simp; done) | (simp; omega) | (simp_all; done) | exact Nat.le_of_ble_eq_true rfl | kernel_rfl)
        · simp [h4, c1, tle, tleL]
      · by_cases c2 : B < 0
        · refine g_fin tab_ok mixed 3000 [.t, .c (.i .i64 A) [] [], .c (.i .i64 B) [] [], .f, .t] rfl ?_ (rd_ret (ret_of rfl ?_ trivial trivial))
          · rw [hw, ← hA, ← hB]; rw [← hB] at c2; rw [← hA] at c1
            (simp only [AllR]; (repeat' first | exact value02 _ | exact decide_eq_true c2 | exact True.intro | (show (_ : Bool) = _; assumption) | omega | apply And.intro); all_goals first | (simp; done) | (simp; omega) | (simp_all; done) | exact Nat.le_of_ble_eq_true rfl | kernel_rfl)
          · simp [h4, c2, tle, tleL]
        · have e1 : IntKind.u8.wrap (IntKind.i64.wrap (IntKind.i64.wrap (16 * A) + B)) = 16 * A + B := by simp; omega
          refine g_fin tab_ok mixed 3000 [.t, .c (.i .i64 A) [] [], .c (.i .i64 B) [] [], .f, .f, .l [UInt8.ofNat (16 * A + B).toNat]] rfl ?_ (rd_next (i + 2, o ++ [UInt8.ofNat (16 * A + B).toNat]) ⟨by omega, by omega, by simp; omega, ?_⟩ (by simp; omega) ⟨rfl, rfl, ?_, trivial⟩ trivial trivial)
          · rw [hw, e1]
            have v1 := value02 (ml := ml) (bt t i)
            have v2 := value02 (ml := ml) (bt t (i + 1 : Nat))
            rw [hA] at v1; rw [hB] at v2
            have e2 : [T.i .u8 (16 * A + B)] = bytesT [UInt8.ofNat (16 * A + B).toNat] := by simp [bytesT]; omega
            (simp only [AllR]; (repeat' first | exact v1 | exact v2 | exact e2 | exact True.intro | (show (_ : Bool) = _; assumption) | omega | apply And.intro); all_goals first | (simp; done) | (simp; omega) | (simp_all; done) | exact Nat.le_of_ble_eq_true rfl | kernel_rfl)
          · simp [h4, c1, c2, Option.map_map]; congr 1
          · simp [tle]; omega
    · obtain rfl : i = t.length := by omega
      refine g_fin tab_ok mixed 3000 [.f] rfl ⟨by simp, trivial⟩ (rd_exit rfl ?_)
      refine g_fin tab_ok mixed 3000 [] rfl trivial (ret_of rfl ?_ trivial trivial)
      rw [List.drop_length] at h4
      simp [h4, unhexO, tle, tleL]
  · refine gFs [.t] rfl (ret_of rfl ?_ trivial trivial)
    simp [unhexO_odd t (by omega), tle, tleL]
theorem decDigits_snoc (n : Nat) (h : 10 ≤ n) : Lib.decDigits n = Lib.decDigits (n / 10) ++ [UInt8.ofNat (48 + n % 10)] := by
  rw [Lib.decDigits, dif_neg (by omega)]
theorem decDigits_one (n : Nat) (h : n < 10) : Lib.decDigits n = [UInt8.ofNat (48 + n)] := by
  rw [Lib.decDigits, dif_pos h]
theorem sign_dec (k : Nat) (h : k < 10) : (signs.take (k + 1)).drop k = [UInt8.ofNat (48 + k)] := by
  revert k; decide
theorem decDigits_len (n : Nat) (h : n < 18446744073709551616) : (Lib.decDigits n).length ≤ 20 := by
  rw [Lib.decDigits_length]; exact Lib.nDigits_le20 n h
/-- What stands ahead of the digits that are written. -/
def ahead (n : Nat) : List UInt8 := if n = 0 then [] else Lib.decDigits n
theorem ahead_step (n : Nat) (h : 0 < n) (s : List UInt8) : ahead n ++ s = ahead (n / 10) ++ ([UInt8.ofNat (48 + n % 10)] ++ s) := by
  unfold ahead
  rw [if_neg (by omega)]
  by_cases h10 : n < 10
  · rw [if_pos (by omega), decDigits_one n h10, Nat.mod_eq_of_lt h10]; simp
  · rw [if_neg (by omega), decDigits_snoc n (by omega)]; simp
theorem plain02 (N : Nat) (hN : N < 9223372036854775808) : Ret P (C ml) 78 [.i .i64 N] (.s (Lib.decDigits N)) := by
  refine hR Tryz.func78 ?_
  refine g_run tab_ok mixed 3000 [] rfl trivial ?_
  have hd := decDigits_len N (by omega)
  refine g_loop (fun x : Nat × List UInt8 => [(0, .i .i64 x.1), (3, .s x.2)]) (fun _ => []) (fun x => x.1 ≤ N ∧ (x.2 = [] ∧ x.1 = N ∨ x.2 ≠ [] ∧ Lib.decDigits N = ahead x.1 ++ x.2)) (fun x => 2 * x.1 + if x.2 = [] then 1 else 0) (N, []) ⟨⟨rfl, rfl, trivial⟩, trivial, trivial⟩ ⟨by omega, .inl ⟨rfl, rfl⟩⟩ ?_
  rintro ⟨n, s⟩ ⟨h1, h2⟩
  dsimp only at h1 h2
  have hs : s.length ≤ 20 := by
    rcases h2 with ⟨rfl, _⟩ | ⟨_, h2⟩
    · simp
    · rw [h2, List.length_append] at hd; omega
  have e1 : (n : Int).tmod 10 = ((n % 10 : Nat) : Int) := rfl
  have e2 : (n : Int).tdiv 10 = ((n / 10 : Nat) : Int) := rfl
  have e3 : IntKind.i64.wrap ((n % 10 : Nat) + 1 : Int) = (n % 10 + 1 : Nat) := by rw [wrap_i64]; omega
  have e4 : IntKind.i64.wrap ((n / 10 : Nat) : Int) = (n / 10 : Nat) := by rw [wrap_i64]; omega
  have c1 := sign_dec (n % 10) (by omega)
  simp only [signs] at c1
  by_cases hn : 0 < n
  · have key : Lib.decDigits N = ahead n ++ s := by
      rcases h2 with ⟨rfl, rfl⟩ | ⟨_, h2⟩
      · simp [ahead, show n ≠ 0 by omega]
      · exact h2
    refine g_fin tab_ok mixed 3000 [.t] rfl ?_ (rd_next (n / 10, [UInt8.ofNat (48 + n % 10)] ++ s) ⟨by omega, .inr ⟨by simp, ?_⟩⟩ ?_ ⟨?_, ?_, trivial⟩ trivial trivial)
    · simp only [e1, e2, e3, e4, Int.toNat_natCast, c1]
      (simp only [AllR]; (repeat' first | exact True.intro | (show (_ : Bool) = _; assumption) | omega | apply And.intro); all_goals first | (simp; done) | (simp; omega) | (simp_all; done) | exact Nat.le_of_ble_eq_true rfl | kernel_rfl)
    · rw [key, ahead_step n hn]
    · simp; split <;> omega
    · simp [tle]; omega
    · simp only [e1, e2, e3, e4, Int.toNat_natCast, c1]; rfl
  · obtain rfl : n = 0 := by omega
    rcases h2 with ⟨rfl, rfl⟩ | ⟨h3, h2⟩
    · refine g_fin tab_ok mixed 3000 [.f, .t] rfl ?_ (rd_next (0, [48]) ⟨by omega, .inr ⟨by simp, ?_⟩⟩ (by simp) ⟨rfl, rfl, trivial⟩ trivial trivial)
      · (simp only [AllR]; (repeat' first | exact True.intro | (show (_ : Bool) = _; assumption) | omega | apply And.intro); all_goals first | (simp; done) | (simp; omega) | (simp_all; done) | exact Nat.le_of_ble_eq_true rfl | kernel_rfl)
      · rw [decDigits_one 0 (by omega)]; rfl
    · refine g_fin tab_ok mixed 3000 [.f, .f] rfl ?_ (rd_exit rfl ?_)
      · (simp only [AllR]; (repeat' first | exact by simpa using h3 | exact True.intro | (show (_ : Bool) = _; assumption) | omega | apply And.intro); all_goals first | (simp; done) | (simp; omega) | (simp_all; done) | exact Nat.le_of_ble_eq_true rfl | kernel_rfl)
      · refine g_fin tab_ok mixed 3000 [] rfl trivial (ret_of rfl ?_ trivial trivial)
        rw [h2]; rfl
/-- A number in so many digits. -/
def decW (n w : Int) : List UInt8 :=
  if n < 0 ∨ w < 1 ∨ 18 < w then [] else if w < (Lib.decDigits n.toNat).length then [] else List.replicate (w.toNat - (Lib.decDigits n.toNat).length) 48 ++ Lib.decDigits n.toNat
theorem dec02 (n w : Int) (h1 : -9223372036854775808 ≤ n) (h2 : n ≤ 9223372036854775807) : Ret P (C ml) 160 [.i .i64 n, .i .i64 w] (.s (decW n w)) := by
  refine hR Tryz.func160 ?_
  by_cases c1 : n < 0
  · refine gFs [.t, .t] rfl (ret_of rfl ?_ trivial trivial)
    simp [tle, decW, c1]
  · by_cases c2 : w < 1
    · refine gFs [.f, .t, .t] rfl (ret_of rfl ?_ trivial trivial)
      simp [tle, decW, c2]
    · by_cases c3 : 18 < w
      · refine gFs [.f, .f, .t] rfl (ret_of rfl ?_ trivial trivial)
        simp [tle, decW, c3]
      · obtain ⟨N, rfl⟩ : ∃ N : Nat, n = N := ⟨n.toNat, by omega⟩
        have hd := decDigits_len N (by omega)
        by_cases c4 : w < (Lib.decDigits N).length
        · refine g_fin tab_ok mixed 3000 [.f, .f, .f, .c (.s (Lib.decDigits N)) [] [], .t] rfl (by (simp only [AllR]; (repeat' first | exact plain02 N (by omega) | exact True.intro | (show (_ : Bool) = _; assumption) | omega | apply And.intro); all_goals first | (simp; done) | (simp; omega) | (simp_all; done) | exact Nat.le_of_ble_eq_true rfl | kernel_rfl)) (ret_of rfl ?_ trivial trivial)
          simp [tle, decW, c1, c2, c3, c4]
        · refine g_run tab_ok mixed 3000 [.f, .f, .f, .c (.s (Lib.decDigits N)) [] [], .f] rfl (by (simp only [AllR]; (repeat' first | exact plain02 N (by omega) | exact True.intro | (show (_ : Bool) = _; assumption) | omega | apply And.intro); all_goals first | (simp; done) | (simp; omega) | (simp_all; done) | exact Nat.le_of_ble_eq_true rfl | kernel_rfl)) ?_
          refine g_loop (fun k : Nat => [(1, .i .i64 w), (5, .s (List.replicate k 48 ++ Lib.decDigits N))]) (fun _ => []) (fun k => k + (Lib.decDigits N).length ≤ w.toNat) (fun k => w.toNat - k) 0 ⟨⟨rfl, by simp [tle], trivial⟩, trivial, trivial⟩ (by omega) ?_
          intro k hk
          by_cases c5 : k + (Lib.decDigits N).length < w.toNat
          · refine gFs [.t] rfl (rd_next (k + 1) (by omega) (by omega) ⟨rfl, ?_, trivial⟩ trivial trivial)
            simp [tle, List.replicate_succ]
          · refine gFs [.f] rfl (rd_exit rfl ?_)
            refine g_fin tab_ok mixed 3000 [] rfl trivial (ret_of rfl ?_ trivial trivial)
            simp [tle, decW, c1, c2, c3, c4]
            congr 1; omega
/-- The number of digits, behind 'n'. -/
def decVal : List UInt8 → Nat → Option Nat
  | [], n => some n
  | c :: l, n => if hexv c.toNat < 0 ∨ 9 < hexv c.toNat then none else decVal l (10 * n + (hexv c.toNat).toNat)
def undecO (t : List UInt8) : Option Nat := if t.length < 1 ∨ 18 < t.length then none else decVal t 0
theorem drop_one (t : List UInt8) (i : Nat) (h : i < t.length) : t.drop i = t.getD i 0 :: t.drop (i + 1) := by
  rw [List.drop_eq_getElem_cons h]; simp [h]
theorem pow_bound {n i : Nat} (h : n < 10 ^ i) (hi : i ≤ 17) : n < 100000000000000000 := by
  have : 10 ^ i ≤ 10 ^ 17 := Nat.pow_le_pow_right (by omega) hi
  omega
theorem undec02 (t : List UInt8) (ht : t.length ≤ 1000000) : Ret P (C ml) 136 [.s t] (.tup [.i .i64 (((undecO t).getD 0 : Nat) : Int), .b (undecO t).isSome]) := by
  refine hR Tryz.func136 ?_
  by_cases c1 : t.length < 1
  · refine gFs [.t, .t] rfl (ret_of rfl ?_ trivial trivial)
    simp [tle, tleL, undecO, c1]
  · by_cases c2 : 18 < t.length
    · refine gFs [.f, .t] rfl (ret_of rfl ?_ trivial trivial)
      simp [tle, tleL, undecO, c1, c2]
    · refine gRs [.f, .f] rfl ?_
      have hu : undecO t = decVal t 0 := by simp [undecO, c1, c2]
      rw [hu]
      refine g_loop (fun x : Nat × Nat => [(0, .s t), (4, .i .i64 x.2), (5, .i .i64 x.1)]) (fun _ => []) (fun x => x.1 ≤ t.length ∧ x.2 < 10 ^ x.1 ∧ decVal t 0 = decVal (t.drop x.1) x.2) (fun x => t.length - x.1) (0, 0) ⟨⟨rfl, rfl, rfl, trivial⟩, trivial, trivial⟩ ⟨by omega, by simp, rfl⟩ ?_
      rintro ⟨i, n⟩ ⟨h1, h2, h3⟩
      dsimp only at h1 h2 h3
      by_cases hi : i < t.length
      · have hn := pow_bound h2 (by omega)
        rw [drop_one t i hi, decVal] at h3
        have hb : bt t i = ((t.getD i 0).toNat : Int) := rfl
        rw [← hb] at h3
        have v1 := value02 (ml := ml) (bt t i)
        have hv1 := hexv_lo (bt t i)
        revert h3 v1 hv1
        generalize hexv (bt t i) = A
        intro h3 v1 hv1
        by_cases c3 : A < 0
        · refine gFs [.t, .c (.i .i64 A) [] [], .t] rfl (rd_ret (ret_of rfl ?_ trivial trivial))
          simp [h3, c3, tle, tleL]
        · by_cases c4 : 9 < A
          · refine gFs [.t, .c (.i .i64 A) [] [], .f, .t] rfl (rd_ret (ret_of rfl ?_ trivial trivial))
            simp [h3, c3, c4, tle, tleL]
          · rw [if_neg (by omega)] at h3
            refine gFs [.t, .c (.i .i64 A) [] [], .f, .f] rfl (rd_next (i + 1, 10 * n + A.toNat) ⟨by omega, by simp only [Nat.pow_succ]; omega, h3⟩ (by simp; omega) ⟨rfl, ?_, ?_, trivial⟩ trivial trivial)
            · simp [tle]; omega
            · simp [tle]; omega
      · obtain rfl : i = t.length := by omega
        rw [List.drop_length] at h3
        refine gFs [.f] rfl (rd_exit rfl ?_)
        refine g_fin tab_ok mixed 3000 [] rfl trivial (ret_of rfl ?_ trivial trivial)
        simp [h3, decVal, tle, tleL]
open Classical in
/-- The number whose text this is. -/
noncomputable def unnumO (t : List UInt8) : Option Int := if h : ∃ n : Int, -9223372036854775808 ≤ n ∧ n ≤ 9223372036854775807 ∧ Lib.itoa n = t then some h.choose else none
theorem decVal_ge : ∀ (l : List UInt8) (a u : Nat), decVal l a = some u → a ≤ u
  | [], a, u, h => by simp only [decVal, Option.some.injEq] at h; omega
  | c :: l, a, u, h => by
    rw [decVal] at h
    split at h
    · cases h
    · have := decVal_ge l _ u h; omega
theorem decVal_append : ∀ (l m : List UInt8) (a : Nat), decVal (l ++ m) a = (decVal l a).bind (decVal m)
  | [], m, a => rfl
  | c :: l, m, a => by
    rw [List.cons_append, decVal, decVal]
    split
    · rfl
    · exact decVal_append l m _
theorem hexv_digit (k : Nat) (h : k < 10) : hexv ((UInt8.ofNat (48 + k)).toNat : Int) = k := by
  revert k; decide
theorem decVal_decDigits (u : Nat) : decVal (Lib.decDigits u) 0 = some u := by
  induction u using Nat.strongRecOn with
  | _ u ih =>
    by_cases h : u < 10
    · rw [decDigits_one u h, decVal, hexv_digit u h, if_neg (by omega), decVal]; simp
    · rw [decDigits_snoc u (by omega), decVal_append, ih (u / 10) (by omega)]
      simp only [Option.bind_some]
      rw [decVal, hexv_digit (u % 10) (by omega), if_neg (by omega), decVal]
      simp; omega
theorem decDigits_head (u : Nat) : ∃ c l, Lib.decDigits u = c :: l ∧ c ≠ 45 := by
  induction u using Nat.strongRecOn with
  | _ u ih =>
    by_cases h : u < 10
    · rw [decDigits_one u h]
      refine ⟨_, _, rfl, ?_⟩
      clear ih; revert u; decide
    · obtain ⟨c, l, e, h1⟩ := ih (u / 10) (by omega)
      rw [decDigits_snoc u (by omega), e]; exact ⟨c, _, rfl, h1⟩
end Go.Proofs.YtipomdmlkkifcaaGreatDoor.Vm
/- Contracts: strconv.Itoa and what it calls. -/
namespace Go.Proofs.YtipomdmlkkifcaaGreatDoor.Vm
open Go Go.Proofs Go.RowKit Go.Sort
variable {ml : Int}
theorem len64 (x : Int) (h0 : 0 ≤ x) (h1 : x ≤ 18446744073709551615) : Ret P (C ml) 301 [.i .u64 x] (.i .i64 (Lib.bitLen x.toNat : Nat)) :=
  ret_of_calls (callable_of Tryz.func301 rfl rfl) fun ρ I w vals hg hm hv => by
    simp only [VRs, VR] at hv; obtain ⟨_, _, rfl, rfl, rfl⟩ := hv
    refine (Tryz.bits_Len64 x w h0 h1).mono ?_
    rintro _ _ ⟨rfl, rfl⟩; exact ⟨_, rfl, rfl, Below.refl _ _⟩
theorem log10Pow2 (x : Nat) (h : x ≤ 64) : Ret P (C ml) 300 [.i .i64 x] (.i .i64 (Lib.l10 x : Nat)) :=
  ret_of_calls (callable_of Tryz.func300 rfl rfl) fun ρ I w vals hg hm hv => by
    simp only [VRs, VR] at hv; obtain ⟨_, _, rfl, rfl, rfl⟩ := hv
    refine (Tryz.internal_strconv_log10Pow2 x h w).mono ?_
    rintro _ _ ⟨rfl, rfl⟩; exact ⟨_, rfl, rfl, Below.refl _ _⟩
theorem bool2 (b : Bool) : Ret P (C ml) 302 [.b b] (.i .i64 (if b then 1 else 0)) :=
  ret_of_calls (callable_of Tryz.func302 rfl rfl) fun ρ I w vals hg hm hv => by
    simp only [VRs, VR] at hv; obtain ⟨_, _, rfl, rfl, rfl⟩ := hv
    refine (Tryz.internal_strconv_bool2_int b w).mono ?_
    rintro _ _ ⟨rfl, rfl⟩
    exact ⟨_, rfl, by cases b <;> rfl, Below.refl _ _⟩
theorem small (i : Nat) (h : i < 100) : Ret P (C ml) 255 [.i .i64 i] (.s (Lib.decDigits i)) :=
  ret_of_calls (callable_of Tryz.func255 rfl rfl) fun ρ I w vals hg hm hv => by
    simp only [VRs, VR] at hv; obtain ⟨_, _, rfl, rfl, rfl⟩ := hv
    refine (Tryz.internal_strconv_small i h w).mono ?_
    rintro _ _ ⟨rfl, rfl⟩; exact ⟨_, rfl, rfl, Below.refl _ _⟩
theorem gPow10_at (q : Nat) (h : q < 20) : gPow10[q]? = some (.i .u64 ((10 ^ q : Nat) : Int)) := by
  simp [gPow10, Lib.pow10Tab, h]
theorem numDigits (u : Nat) (h1 : 1 ≤ u) (h2 : u < 18446744073709551616) : Ret P (C ml) 256 [.i .u64 u] (.i .i64 (Lib.nDigits u : Nat)) := by
  refine hR Tryz.func256 ?_
  obtain ⟨e1, e2⟩ := Lib.numDigits_eq u h1 h2
  have c1 : Ret P (C ml) 301 [.i .u64 u] (.i .i64 (Lib.bitLen u : Nat)) := len64 (ml := ml) u (by omega) (by omega)
  have c2 := log10Pow2 (ml := ml) _ (Lib.bitLen_le u 64 (Nat.le_refl _) h2)
  have c3 := Lib.nDigits_le20 u h2
  revert c1 c2 e1 e2
  generalize Lib.l10 (Lib.bitLen u) = q
  generalize Lib.bitLen u = L
  intro e1 e2 c1 c2
  have c4 := gPow10_at q (by omega)
  revert c4 e1
  generalize 10 ^ q = T
  intro e1 c4
  refine g_fin tab_ok mixed 3000 [.c (.i .i64 L) [] [], .c (.i .i64 q) [] [], .v [.i .u64 T], .c (.i .i64 (if decide ((u : Int) ≥ T) then 1 else 0)) [] []] rfl ?_ (ret_of rfl ?_ trivial trivial)
  · have c5 : gPow10[0 + (q : Int).toNat * (tin (C ml) 123).size]? = some (.i .u64 T) := by
      rw [show (tin (C ml) 123).size = 1 from rfl]; simpa using c4
    exact ⟨c1, c2, by omega, c5, bool2 _, trivial⟩
  · simp only [tle, look_c, if_true]
    rw [w64 (by split <;> omega) (by split <;> omega), ← e1]
    by_cases hT : T ≤ u
    · simp [hT]
    · simp [hT]
theorem bytes_prel {I : Mem} : ∀ l : List UInt8, PVs I (bytesT l) (l.map fun c => Value.int .u8 (c.toNat : Int))
  | [] => rfl
  | c :: l => ⟨_, _, rfl, rfl, bytes_prel l⟩
/-- A number's digits laid into bytes that are there. -/
theorem formatBase10 (id g off : Nat) (l : List UInt8) (u : Nat) (h1 : 1 ≤ u) (h2 : u < 18446744073709551616) (hl : off + Lib.nDigits u ≤ l.length) (hll : l.length < 1000000) :
    HRet P (C ml) 257 [.ref id g off (Lib.nDigits u), .i .u64 u] [(id, g, .row true 1 (bytesT l))] (.tup []) [(id, g, .row true 1 (bytesT (l.take off ++ Lib.decDigits u ++ l.drop (off + Lib.nDigits u))))] := by
  refine ⟨callable_of Tryz.func257 rfl rfl, fun ρ I w vals hg hs hv => ?_⟩
  simp only [VRs] at hv
  obtain ⟨v1, _, rfl, hv1, v2, _, rfl, hv2, rfl⟩ := hv
  have hi : hlook [(id, g, Obj.row true 1 (bytesT l))] id = some (g, .row true 1 (bytesT l)) := by simp [hlook]
  obtain ⟨b, cap, rfl, c1, c2, c3⟩ := VR_ref hv1 hi
  have hp := Lib.nDigits_pos u
  have hb : b = off := c1.resolve_right (by omega)
  subst hb
  simp only [VR] at hv2; subst hv2
  obtain ⟨c, ce, fz, r1, r2, r3, r4, r5, r6, r7⟩ := row_cells hs hi
  rw [bytesT_length] at r4 r5 r6 r7
  have hc := bytes_inv r4
  let d : Array UInt8 := ⟨(l.drop b).take (Lib.nDigits u)⟩
  have hd : d.size = Lib.nDigits u := by simp [d]; omega
  have hcell : ∀ j, j < l.length → c[j]? = some (.int .u8 ((l.getD j 0).toNat : Int)) := fun j hj => by
    have : (c.toList.take l.length)[j]? = some (.int .u8 ((l.getD j 0).toNat : Int)) := by rw [hc]; simp [hj]
    rw [List.getElem?_take, if_pos hj] at this
    simpa using this
  have hH : Sort.Holds (fun (b : UInt8) => Value.int .u8 (b.toNat : Int)) w (ρ id).1 b d := fun j hj => by
    rw [hd] at hj
    constructor
    · simp only [World.cell?, r1]
      rw [hcell _ (by omega)]
      rw [getElem!_pos d j (by omega)]
      simp [d, show b + j < l.length by omega]
    · simp only [World.frozen?, r1]
      have := r3.1 (b + j) (by omega)
      simpa using this
  have := Tryz.internal_strconv_formatBase10 (ρ id).1 b cap u d w hH (by rw [hd]; exact Lib.lt_pow_nDigits u) h2 (by omega)
  rw [hd] at this
  refine this.mono ?_
  rintro e w' ⟨rfl, n, v', dk, rfl, hF⟩
  have hdk : dk.size = Lib.nDigits u := hF.size
  have hle : HLe ρ (hlook [(id, g, Obj.row true 1 (bytesT l))]) ρ (updH (hlook [(id, g, Obj.row true 1 (bytesT l))]) [(id, g, .row true 1 (bytesT (l.take b ++ Lib.decDigits u ++ l.drop (b + Lib.nDigits u))))]) := same_HLe hi
  have hdl : dk.toList = Lib.decDigits u := by
    rw [Lib.decDigits_eq]
    refine List.ext_getElem (by simp [hdk]) fun j h1 h2 => ?_
    have hj : j < Lib.nDigits u := by rw [Array.length_toList, hdk] at h1; exact h1
    have := hF.done j (Nat.zero_le _) hj
    rw [getElem!_pos dk j (by omega)] at this
    simpa using this
  have hother : ∀ k, k ≠ (ρ id).1 → ((putRow (fun (b : UInt8) => Value.int .u8 (b.toNat : Int)) w (ρ id).1 b dk).drewN n).heap[k]? = w.heap[k]? := fun k hk => by
    show (mapBlock w (ρ id).1 _).heap[k]? = _
    simp only [mapBlock, Array.getElem?_modify, if_neg (Ne.symm hk)]
  have hblk : ((putRow (fun (b : UInt8) => Value.int .u8 (b.toNat : Int)) w (ρ id).1 b dk).drewN n).heap[(ρ id).1]? = some (.cells (putCells (fun (b : UInt8) => Value.int .u8 (b.toNat : Int)) b dk c) ce fz) := by
    show (mapBlock w (ρ id).1 _).heap[(ρ id).1]? = _
    simp only [mapBlock, Array.getElem?_modify, if_true, r1, Option.map_some, onCells]
  have hcs : (putCells (fun (b : UInt8) => Value.int .u8 (b.toNat : Int)) b dk c).size = c.size := by simp [putCells]
  have hnew : (l.take b ++ Lib.decDigits u ++ l.drop (b + Lib.nDigits u)).length = l.length := by
    simp [Lib.decDigits_length]; omega
  have hcells : (putCells (fun (b : UInt8) => Value.int .u8 (b.toNat : Int)) b dk c).toList.take l.length = (l.take b ++ Lib.decDigits u ++ l.drop (b + Lib.nDigits u)).map fun c => Value.int .u8 (c.toNat : Int) := by
    refine List.ext_getElem? fun j => ?_
    rw [List.getElem?_take]
    by_cases hj : j < l.length
    · rw [if_pos hj, Array.getElem?_toList]
      simp only [putCells, Array.getElem?_mapIdx, hcell j hj, Option.map_some, List.getElem?_map]
      by_cases h3 : b ≤ j ∧ j < b + dk.size
      · rw [if_pos h3, getElem!_pos dk (j - b) (by omega)]
        rw [List.getElem?_append_left (by simp [Lib.decDigits_length]; omega), List.getElem?_append_right (by simp; omega)]
        rw [← hdl]
        have e1 : (List.take b l).length = b := by simp; omega
        rw [e1]
        simp [show j - b < dk.size by omega]
      · rw [if_neg h3]
        by_cases h4 : j < b
        · rw [List.append_assoc, List.getElem?_append_left (by simp; omega)]
          simp [h4, hj]
        · rw [List.getElem?_append_right (by simp [Lib.decDigits_length]; omega)]
          have e1 : (List.take b l ++ Lib.decDigits u).length = b + Lib.nDigits u := by simp [Lib.decDigits_length]; omega
          rw [e1, List.getElem?_drop, show b + Lib.nDigits u + (j - (b + Lib.nDigits u)) = j by omega]
          simp [hj]
    · rw [if_neg hj, List.getElem?_eq_none (by rw [List.length_map, hnew]; omega)]
  refine ⟨.tuple #[], .tup [], ρ, [(id, g, .row true 1 (bytesT (l.take b ++ Lib.decDigits u ++ l.drop (b + Lib.nDigits u))))], I, rfl, ⟨[], rfl, rfl⟩, ?_⟩
  have hhl : hlook [(id, g, Obj.row true 1 (bytesT (l.take b ++ Lib.decDigits u ++ l.drop (b + Lib.nDigits u))))] = updH (hlook [(id, g, Obj.row true 1 (bytesT l))]) [(id, g, .row true 1 (bytesT (l.take b ++ Lib.decDigits u ++ l.drop (b + Lib.nDigits u))))] := by
    funext m; simp only [updH, hlook]; cases Nat.beq id m <;> rfl
  rw [hhl]
  refine ⟨write_HS hs hi trivial hother hle ⟨_, ce, fz, hblk, by rw [hcs]; exact r2, by rw [hcs]; exact fitL r3.1, ?_⟩, write_Ext (w := w) (w' := (putRow (fun (b : UInt8) => Value.int .u8 (b.toNat : Int)) w (ρ id).1 b dk).drewN n) Ext.refl hi trivial rfl rfl rfl ?_ hother g, hle, rfl, rfl⟩
  · rw [if_pos rfl, bytesT_length, hnew, hcells]
    exact bytes_prel _
  · show (mapBlock w (ρ id).1 _).heap.size = _
    simp [mapBlock]
theorem formatInt (n : Int) (h1 : -9223372036854775808 ≤ n) (h2 : n ≤ 9223372036854775807) : Ret P (C ml) 207 [.i .i64 n, .i .i64 10] (.s (Lib.itoa n)) := by
  refine hR Tryz.func207 ?_
  by_cases c1 : 0 ≤ n ∧ n < 100
  · obtain ⟨N, rfl⟩ : ∃ N : Nat, n = N := ⟨n.toNat, by omega⟩
    refine g_fin tab_ok mixed 3000 [.t, .t, .t, .c (.s (Lib.decDigits N)) [] []] rfl ?_ (ret_of rfl ?_ trivial trivial)
    · have := small (ml := ml) N (by omega)
      (simp only [AllR]; (repeat' first | exact this | exact True.intro | (show (_ : Bool) = _; assumption) | omega | apply And.intro); all_goals first | (simp; done) | (simp; omega) | (simp_all; done) | exact Nat.le_of_ble_eq_true rfl | kernel_rfl)
    · rw [Lib.itoa_nonneg]; simp [tle]
  · have key : ∀ u : Nat, 1 ≤ u → u < 18446744073709551616 → HRet P (C ml) 257 [.ref 5 0 1 (Lib.nDigits u), .i .u64 u] [(5, 0, .row true 1 (bytesT (List.replicate 24 0)))] (.tup []) [(5, 0, .row true 1 (bytesT ([0] ++ Lib.decDigits u ++ List.replicate (23 - Lib.nDigits u) 0)))] := fun u a b => by
      have hn := Lib.nDigits_le20 u b
      have := formatBase10 (ml := ml) 5 0 1 (List.replicate 24 0) u a b (by rw [List.length_replicate]; omega) (by rw [List.length_replicate]; omega)
      rw [List.take_replicate, List.drop_replicate, show 24 - (1 + Lib.nDigits u) = 23 - Lib.nDigits u by omega] at this
      exact this
    by_cases c2 : 0 ≤ n
    · obtain ⟨u, rfl⟩ : ∃ u : Nat, n = u := ⟨n.toNat, by omega⟩
      have k1 := key u (by omega) (by omega)
      have k2 := numDigits (ml := ml) u (by omega) (by omega)
      have hn := Lib.nDigits_le20 u (by omega)
      have e1 : IntKind.u64.wrap (u : Int) = u := by rw [wrap_u64]; omega
      have e2 : IntKind.i64.wrap (1 + (Lib.nDigits u : Int)) = ((1 + Lib.nDigits u : Nat) : Int) := by rw [wrap_i64]; omega
      have e3 : IntKind.i64.wrap ((Lib.nDigits u : Int) + 1) = ((1 + Lib.nDigits u : Nat) : Int) := by rw [wrap_i64]; omega
      have hd := Lib.decDigits_length u
      rw [Lib.itoa_nonneg]
      refine g_fin tab_ok mixed 3000 [.t, .t, .f, .f, .c (.i .i64 (Lib.nDigits u : Nat)) [] [], .c (.tup []) [5] [(5, 0, .row true 1 (bytesT ([0] ++ Lib.decDigits u ++ List.replicate (23 - Lib.nDigits u) 0)))], .f, .l (Lib.decDigits u)] rfl ?_ (ret_of rfl ?_ trivial trivial)
      · have a1 : (((1 + Lib.nDigits u : Nat) : Int)).toNat - (1 : Int).toNat = Lib.nDigits u := by omega
        have a2 : ((bytesT ([0] ++ Lib.decDigits u ++ List.replicate (23 - Lib.nDigits u) 0)).drop 1).take (Lib.nDigits u * 1) = bytesT (Lib.decDigits u) := by
          simp [bytesT, ← hd]
        simp only [e1, e2, e3, a1]
        refine ⟨rfl, ?_, ?_, ?_, ?_, k2, ?_, k1, ?_, ?_, ⟨a2, hd.symm⟩, trivial⟩
        all_goals first | (simp; done) | (simp; omega) | skip
        · exact ⟨by omega, by omega, by omega, Nat.le_of_ble_eq_true rfl⟩
        · refine ⟨by omega, by omega, by omega, ?_⟩
          rw [show (tin (C ml) 5).size = 1 from rfl]
          simp [bytesT, hd]; omega
      · simp [tle]
    · obtain ⟨u, rfl⟩ : ∃ u : Nat, n = -(u : Int) := ⟨n.natAbs, by omega⟩
      have k1 := key u (by omega) (by omega)
      have k2 := numDigits (ml := ml) u (by omega) (by omega)
      have hn := Lib.nDigits_le20 u (by omega)
      have e1 : IntKind.u64.wrap (0 - IntKind.u64.wrap (-(u : Int))) = u := by simp; omega
      have e2 : IntKind.i64.wrap (1 + (Lib.nDigits u : Int)) = ((1 + Lib.nDigits u : Nat) : Int) := by rw [wrap_i64]; omega
      have e3 : IntKind.i64.wrap ((Lib.nDigits u : Int) + 1) = ((1 + Lib.nDigits u : Nat) : Int) := by rw [wrap_i64]; omega
      have hd := Lib.decDigits_length u
      rw [Lib.itoa_neg u (by omega)]
      refine g_fin tab_ok mixed 3000 [.t, .f, .t, .c (.i .i64 (Lib.nDigits u : Nat)) [] [], .c (.tup []) [5] [(5, 0, .row true 1 (bytesT ([0] ++ Lib.decDigits u ++ List.replicate (23 - Lib.nDigits u) 0)))], .t, .l (45 :: Lib.decDigits u)] rfl ?_ (ret_of rfl ?_ trivial trivial)
      · have a1 : (((1 + Lib.nDigits u : Nat) : Int)).toNat - (1 : Int).toNat = Lib.nDigits u := by omega
        have a2 : (((splice (bytesT ([0] ++ Lib.decDigits u ++ List.replicate (23 - Lib.nDigits u) 0)) 0 [T.i .u8 45]).drop 0).take ((1 + Lib.nDigits u) * 1)) = bytesT (45 :: Lib.decDigits u) := by
          simp [splice, bytesT, ← hd, Nat.add_comm 1]
        simp only [e1, e2, e3, a1]
        refine ⟨rfl, ?_, ?_, ?_, k2, ?_, k1, ?_, ?_, ?_, ?_, ⟨a2, ?_⟩, trivial⟩
        all_goals first | (simp; done) | (simp; omega) | skip
        · exact ⟨by omega, by omega, by omega, Nat.le_of_ble_eq_true rfl⟩
        · rw [show (tin (C ml) 5).size = 1 from rfl]; simp [bytesT]
        · refine ⟨by omega, by omega, by omega, ?_⟩
          rw [show (tin (C ml) 5).size = 1 from rfl]
          simp [splice, cellsT, bytesT, hd]; omega
      · simp [tle]
theorem itoa0 (n : Int) (h1 : -9223372036854775808 ≤ n) (h2 : n ≤ 9223372036854775807) : Ret P (C ml) 135 [.i .i64 n] (.s (Lib.itoa n)) := by
  refine hR Tryz.func135 ?_
  refine g_fin tab_ok mixed 3000 [.c (.s (Lib.itoa n)) [] []] rfl ⟨formatInt n h1 h2, trivial⟩ (ret_of rfl (by simp [tle]) trivial trivial)
theorem itoa1 (n : Int) (h1 : -9223372036854775808 ≤ n) (h2 : n ≤ 9223372036854775807) : Ret P (C ml) 73 [.i .i64 n] (.s (Lib.itoa n)) := by
  refine hR Tryz.func73 ?_
  refine g_fin tab_ok mixed 3000 [.c (.s (Lib.itoa n)) [] []] rfl ⟨itoa0 n h1 h2, trivial⟩ (ret_of rfl (by simp [tle]) trivial trivial)
end Go.Proofs.YtipomdmlkkifcaaGreatDoor.Vm
/- Contracts: small functions of Go's library. -/
namespace Go.Proofs.YtipomdmlkkifcaaGreatDoor.Vm
open Go Go.Proofs Go.RowKit
variable {ml : Int}
theorem indexByte (s : List UInt8) (c : Int) : Ret P (C ml) 120 [.s s, .i .u8 c] (.i .i64 (Lib.indexByte s c.toNat.toUInt8)) :=
  ret_of_calls (callable_of Tryz.func120 rfl rfl) fun ρ I w vals hg hm hv => by
    simp only [VRs, VR] at hv; obtain ⟨_, _, rfl, rfl, _, _, rfl, rfl, rfl⟩ := hv
    refine (Tryz.strings_IndexByte ⟨⟨s⟩⟩ c w).mono ?_
    rintro _ _ ⟨rfl, rfl⟩; exact ⟨_, rfl, rfl, Below.refl _ _⟩
theorem bitsMul (x y : Nat) (hx : x < 18446744073709551616) (hy : y < 18446744073709551616) : Ret P (C ml) 115 [.i .u64 x, .i .u64 y] (.tup [.i .u64 (x * y / 18446744073709551616 : Nat), .i .u64 (x * y % 18446744073709551616 : Nat)]) :=
  ret_of_calls (callable_of Tryz.func115 rfl rfl) fun ρ I w vals hg hm hv => by
    simp only [VRs, VR] at hv; obtain ⟨_, _, rfl, rfl, _, _, rfl, rfl, rfl⟩ := hv
    refine (Tryz.bits_Mul x y hx hy w).mono ?_
    rintro _ _ ⟨rfl, rfl⟩
    exact ⟨_, rfl, ⟨_, rfl, _, _, rfl, rfl, _, _, rfl, rfl, rfl⟩, Below.refl _ _⟩
/-- What a listed variable's cell holds. -/
theorem glob_cell {I : Mem} {w : World} {g : Nat} {cs : List T} (hg : GlobOk (C ml) I) (hm : ∀ a v, I a = some v → w.cell? a = some v) (hl : look (C ml).glob g = .rp cs 0) (j : Nat) (t : T) (hj : cs[j]? = some t) :
    ∃ v, w.cell? ⟨g, j, none⟩ = some v ∧ PV I t v := by
  rcases hg g with h | h
  · rw [hl] at h; cases h
  · rw [hl] at h
    simp only [PV] at h
    obtain ⟨a, b, vs, e, h1, h2, h3⟩ := h
    simp only [Value.pointer.injEq, Option.some.injEq, Addr.mk.injEq] at e
    obtain ⟨rfl, e2, _⟩ := e
    obtain rfl : b = 0 := by omega
    obtain ⟨v, e1, e2⟩ := h1.get j t hj
    exact ⟨v, hm _ _ (by simpa using h3 j v e1), e2⟩
theorem utf8Tabs {I : Mem} {w : World} (hg : GlobOk (C ml) I) (hm : ∀ a v, I a = some v → w.cell? a = some v) : Lib.Utf8Tabs 2 3 w := by
  refine ⟨fun c hc => ?_, fun i hi => ?_⟩
  · obtain ⟨v, h1, h2⟩ := glob_cell hg hm (g := 2) (cs := gFirst) rfl c (.i .u8 (Lib.firstT c : Nat)) (by simp [gFirst, hc])
    simp only [PV] at h2; subst h2; exact h1
  · have hlen : ∀ n, ((List.range n).flatMap fun i => [T.i .u8 (Lib.accLo i : Nat), T.i .u8 (Lib.accHi i : Nat)]).length = 2 * n := fun n => by
      induction n with
      | zero => rfl
      | succ n ih => rw [List.range_succ, List.flatMap_append, List.length_append, ih]; simp; omega
    have key : ∀ n, i < n → ((List.range n).flatMap fun i => [T.i .u8 (Lib.accLo i : Nat), T.i .u8 (Lib.accHi i : Nat)])[2 * i]? = some (T.i .u8 (Lib.accLo i : Nat)) ∧ ((List.range n).flatMap fun i => [T.i .u8 (Lib.accLo i : Nat), T.i .u8 (Lib.accHi i : Nat)])[2 * i + 1]? = some (T.i .u8 (Lib.accHi i : Nat)) := fun n => by
      induction n with
      | zero => omega
      | succ n ih =>
        intro hn
        rw [List.range_succ, List.flatMap_append]
        by_cases h : i < n
        · rw [List.getElem?_append_left (by rw [hlen]; omega), List.getElem?_append_left (by rw [hlen]; omega)]; exact ih h
        · obtain rfl : i = n := by omega
          rw [List.getElem?_append_right (by rw [hlen]; omega), List.getElem?_append_right (by rw [hlen]; omega), hlen]
          simp [show 2 * i + 1 - 2 * i = 1 by omega]
    obtain ⟨k1, k2⟩ := key 16 hi
    obtain ⟨v, h1, h2⟩ := glob_cell hg hm (g := 3) (cs := gAccept) rfl (2 * i) _ k1
    obtain ⟨v', h1', h2'⟩ := glob_cell hg hm (g := 3) (cs := gAccept) rfl (2 * i + 1) _ k2
    simp only [PV] at h2 h2'; subst h2; subst h2'; exact ⟨h1, h1'⟩
theorem decodeLast (s : List UInt8) (hs : s.length ≤ 9223372036854775807) : Ret P (C ml) 296 [.s s] (.tup [.i .i32 (Lib.decodeLastL s).1, .i .i64 (Lib.decodeLastL s).2]) :=
  ret_of_calls (callable_of Tryz.func296 rfl rfl) fun ρ I w vals hg hm hv => by
    simp only [VRs, VR] at hv; obtain ⟨_, _, rfl, rfl, rfl⟩ := hv
    refine (Tryz.utf8_DecodeLastRuneInString ⟨⟨s⟩⟩ w hs (utf8Tabs hg hm)).mono ?_
    rintro _ _ ⟨rfl, h⟩
    exact ⟨_, rfl, ⟨_, rfl, _, _, rfl, rfl, _, _, rfl, rfl, rfl⟩, h⟩
theorem hasPrefix0 (s p : List UInt8) (hp : p.length ≤ 9223372036854775807) : Ret P (C ml) 186 [.s s, .s p] (.b (decide (p <+: s))) := by
  refine hR Tryz.func186 ?_
  by_cases h : p.length ≤ s.length
  · refine gFs [.t] rfl (ret_of rfl ?_ trivial trivial)
    simp [tle, List.prefix_iff_eq_take]
    rw [Bool.eq_iff_iff]; simp; exact eq_comm
  · refine gFs [.f] rfl (ret_of rfl ?_ trivial trivial)
    have : ¬ p <+: s := fun h2 => h h2.length_le
    simp [tle, this]
theorem hasPrefix (s p : List UInt8) (hp : p.length ≤ 9223372036854775807) : Ret P (C ml) 116 [.s s, .s p] (.b (decide (p <+: s))) := by
  refine hR Tryz.func116 ?_
  refine g_fin tab_ok mixed 3000 [.c (.b (decide (p <+: s))) [] []] rfl ⟨hasPrefix0 s p hp, trivial⟩ (ret_of rfl (by simp [tle]) trivial trivial)
theorem hasPrefix_of {s p : List UInt8} {b : Bool} (hp : p.length ≤ 9223372036854775807) (h : decide (p <+: s) = b) : Ret P (C ml) 116 [.s s, .s p] (.b b) := h ▸ hasPrefix s p hp
set_option maxRecDepth 100000 in
/-- strings.Repeat of one zero sign, few times. -/
theorem repeat0 (n : Nat) (hn : n ≤ 18) : Ret P (C ml) 65 [.s [48], .i .i64 n] (.s (List.replicate n 48)) := by
  refine hR Tryz.func65 ?_
  by_cases h0 : n = 0
  · subst h0
    refine gFs [.t] rfl (ret_of rfl (by simp [tle]) trivial trivial)
  · by_cases h1 : n = 1
    · subst h1
      refine gFs [.f, .t] rfl (ret_of rfl (by simp [tle]) trivial trivial)
    · have k1 := bitsMul (ml := ml) 1 n (by omega) (by omega)
      rw [show 1 * n / 18446744073709551616 = 0 by omega, show 1 * n % 18446744073709551616 = n by omega] at k1
      have e1 : IntKind.u64.wrap (n : Int) = n := by rw [wrap_u64]; omega
      have e2 : IntKind.i64.wrap (n : Int) = n := by rw [wrap_i64]; omega
      refine g_fin tab_ok mixed 3000 [.f, .f, .f, .c (.tup [.i .u64 (0 : Nat), .i .u64 n]) [] [], .f, .f, .f, .f, .f, .t, .t, .t, .c (.b false) [] [], .f, .t, .c (.b false) [] [], .f, .t, .c (.b true) [] [], .t] rfl ?_ (ret_of rfl ?_ trivial trivial)
      · simp only [AllR, e1, e2]
        have d1 : decide ((n : Int) ≤ 128) = true := by simp; omega
        have d2 : decide ((n : Int) ≤ 64) = true := by simp; omega
        exact ⟨by simp; omega, by simp; omega, by simp, k1, rfl, rfl, by simp; omega, rfl, by simp, rfl, rfl, rfl, rfl, d1, hasPrefix_of (by decide) (by decide), d1, trivial, d1, hasPrefix_of (by decide) (by decide), d1, trivial, d2, hasPrefix_of (by decide) (by decide), d2, trivial, ⟨by omega, by simp; omega⟩, trivial⟩
      · simp only [e2]
        show T.s (List.take n (List.replicate 64 48)) = T.s (List.replicate n 48)
        rw [List.take_replicate, Nat.min_eq_left (by omega)]
end Go.Proofs.YtipomdmlkkifcaaGreatDoor.Vm
/- Contract: internal/stringslite.Clone: the string is as it was; a new row of bytes is laid, and no more. -/
namespace Go.Proofs.YtipomdmlkkifcaaGreatDoor.Vm
open Go Go.Proofs Go.RowKit
variable {ml : Int}
end Go.Proofs.YtipomdmlkkifcaaGreatDoor.Vm
