/- Contracts: clavigerref31 and the program's header. -/
import Derived.Test.YtdiippegaidpkaaDoorTable
import Derived.Test.YtdiippegaidpkaaDoorEqs
import Derived.Test.YtdiippegaidpkaaDoorPlain02
set_option linter.unusedVariables false
set_option linter.unusedSimpArgs false
set_option linter.unnecessarySimpa false
set_option maxRecDepth 100000
namespace Go.Proofs.YtdiippegaidpkaaDoor.Vm
open Go Go.Proofs Go.RowKit
variable {ml : Int}
def cut (s : List UInt8) (a n : Nat) : List UInt8 := (s.drop a).take n
theorem dtc (s : List UInt8) (a b : Nat) : (s.take b).drop a = cut s a (b - a) := by rw [cut, List.drop_take]
theorem cut_len (s : List UInt8) (a n : Nat) : (cut s a n).length = min n (s.length - a) := by simp [cut]
def undT (o : Option Nat) : T := .tup [.i .i64 ((o.getD 0 : Nat) : Int), .b o.isSome]
structure Hdr where
  n : Int
  l : List UInt8
  k : Int
  h : Hd
def Hdr.cells (x : Hdr) : List T := [.i .i64 x.n, .s x.l, .i .i64 x.k, .s x.h.u, .s x.h.m, .s x.h.v, .s x.h.e]
def Hdr.none : Hdr := ⟨0, [], 0, ⟨[], [], [], []⟩⟩
def hdFine (h : Hd) : Bool := decide (h.u.length ≤ 20 ∧ h.m.length ≤ 20 ∧ h.v.length ≤ 20 ∧ h.e.length ≤ 20)
theorem plainHead (h : Hd) : Ret P (C ml) 23 [.agg h.cells] (.b (hdFine h)) := by
  refine hret_of tab_ok Tryd.func23 rfl rfl (by kernel_rfl) rfl ?_
  rcases Bool.eq_false_or_eq_true (decide ((↑h.u.length : Int) ≤ 20)) with c1 | c1
  · have d1 := c1; (try simp at d1)
    rcases Bool.eq_false_or_eq_true (decide ((↑h.m.length : Int) ≤ 20)) with c2 | c2
    · have d2 := c2; (try simp at d2)
      rcases Bool.eq_false_or_eq_true (decide ((↑h.v.length : Int) ≤ 20)) with c3 | c3
      · have d3 := c3; (try simp at d3)
        refine g_fin tab_ok mixed 3000 [.t, .t, .t] rfl (by (simp only [AllR]; (repeat' first | exact True.intro | (show (_ : Bool) = _; assumption) | omega | apply And.intro); all_goals first | (simp; done) | (simp; omega) | (simp_all; done) | exact Nat.le_of_ble_eq_true rfl | kernel_rfl)) (ret_of rfl ?_ trivial trivial)
        first | exact .inl (congrArg T.b (by rw [Bool.eq_iff_iff]; first | (simp [hdFine]; done) | (simp [hdFine]; omega) | (simp_all [hdFine]; done) | (simp_all [hdFine]; omega))) | exact .inr (congrArg T.bl (by rw [Bool.eq_iff_iff]; first | (simp [hdFine]; done) | (simp [hdFine]; omega) | (simp_all [hdFine]; done) | (simp_all [hdFine]; omega)))
      · have d3 := c3; (try simp at d3)
        refine g_fin tab_ok mixed 3000 [.t, .t, .f] rfl (by (simp only [AllR]; (repeat' first | exact True.intro | (show (_ : Bool) = _; assumption) | omega | apply And.intro); all_goals first | (simp; done) | (simp; omega) | (simp_all; done) | exact Nat.le_of_ble_eq_true rfl | kernel_rfl)) (ret_of rfl ?_ trivial trivial)
        first | exact .inl (congrArg T.b (by rw [Bool.eq_iff_iff]; first | (simp [hdFine]; done) | (simp [hdFine]; omega) | (simp_all [hdFine]; done) | (simp_all [hdFine]; omega))) | exact .inr (congrArg T.bl (by rw [Bool.eq_iff_iff]; first | (simp [hdFine]; done) | (simp [hdFine]; omega) | (simp_all [hdFine]; done) | (simp_all [hdFine]; omega)))
    · have d2 := c2; (try simp at d2)
      refine g_fin tab_ok mixed 3000 [.t, .f] rfl (by (simp only [AllR]; (repeat' first | exact True.intro | (show (_ : Bool) = _; assumption) | omega | apply And.intro); all_goals first | (simp; done) | (simp; omega) | (simp_all; done) | exact Nat.le_of_ble_eq_true rfl | kernel_rfl)) (ret_of rfl ?_ trivial trivial)
      first | exact .inl (congrArg T.b (by rw [Bool.eq_iff_iff]; first | (simp [hdFine]; done) | (simp [hdFine]; omega) | (simp_all [hdFine]; done) | (simp_all [hdFine]; omega))) | exact .inr (congrArg T.bl (by rw [Bool.eq_iff_iff]; first | (simp [hdFine]; done) | (simp [hdFine]; omega) | (simp_all [hdFine]; done) | (simp_all [hdFine]; omega)))
  · have d1 := c1; (try simp at d1)
    refine g_fin tab_ok mixed 3000 [.f] rfl (by (simp only [AllR]; (repeat' first | exact True.intro | (show (_ : Bool) = _; assumption) | omega | apply And.intro); all_goals first | (simp; done) | (simp; omega) | (simp_all; done) | exact Nat.le_of_ble_eq_true rfl | kernel_rfl)) (ret_of rfl ?_ trivial trivial)
    first | exact .inl (congrArg T.b (by rw [Bool.eq_iff_iff]; first | (simp [hdFine]; done) | (simp [hdFine]; omega) | (simp_all [hdFine]; done) | (simp_all [hdFine]; omega))) | exact .inr (congrArg T.bl (by rw [Bool.eq_iff_iff]; first | (simp [hdFine]; done) | (simp [hdFine]; omega) | (simp_all [hdFine]; done) | (simp_all [hdFine]; omega)))
def hEnc (x : Hdr) : List UInt8 × Int :=
  if x.n < 0 ∨ 9999 < x.n ∨ x.k < 0 ∨ 99 < x.k ∨ kMost x.l = 0 then ([], 1) else if tChk x.h x.l = true then ([68] ++ decW x.n 4 ++ x.h.u ++ x.l ++ x.h.m ++ x.h.v ++ x.h.e ++ decW x.k 2 ++ [48, 48], 0) else ([], 12)
def hDec (s : List UInt8) : Hdr × Int :=
  if s.length < 16 ∨ bt s 0 ≠ 68 ∨ cut s 14 2 ≠ [48, 48] then (Hdr.none, 5) else match undecO (cut s 1 4), undecO (cut s 12 2) with
  | some n, some k => if kMost (cut s 7 1) = 0 then (Hdr.none, 5) else if tChk ⟨cut s 5 2, cut s 8 1, cut s 9 2, cut s 11 1⟩ (cut s 7 1) = true then (⟨n, cut s 7 1, k, ⟨cut s 5 2, cut s 8 1, cut s 9 2, cut s 11 1⟩⟩, 0) else (Hdr.none, 12)
  | _, _ => (Hdr.none, 5)
theorem decW_le (n w : Int) : (decW n w).length ≤ 18 := by
  by_cases h : decW n w = []
  · rw [h]; decide
  · exact (decW_back n w h).2.2.2
theorem rEncode (x : Hdr) (h1 : -9223372036854775808 ≤ x.n) (h2 : x.n ≤ 9223372036854775807) (h3 : -9223372036854775808 ≤ x.k) (h4 : x.k ≤ 9223372036854775807) (h5 : x.l.length ≤ 1000) (h6 : x.h.u.length ≤ 1000) (h7 : x.h.m.length ≤ 1000) (h8 : x.h.v.length ≤ 1000) (h9 : x.h.e.length ≤ 1000) :
    Ret P (C ml) 26 [.agg x.cells] (.tup [.s (hEnc x).1, .i .i64 (hEnc x).2]) := by
  refine hret_of tab_ok Tryd.func26 rfl rfl (by kernel_rfl) rfl ?_
  have k1 := rMost (ml := ml) x.l
  have k2 := rCheck (ml := ml) x.h x.l
  have k3 := dec02 (ml := ml) x.n 4 h1 h2
  have k4 := dec02 (ml := ml) x.k 2 h3 h4
  have l1 := decW_le x.n 4
  have l2 := decW_le x.k 2
  rcases Bool.eq_false_or_eq_true (decide (x.n < 0)) with c1 | c1
  · have d1 := c1; (try simp at d1)
    refine g_fin tab_ok mixed 3000 [.t] rfl (by (simp only [AllR]; (repeat' first | exact k1 | exact k2 | exact k3 | exact k4 | exact True.intro | (show (_ : Bool) = _; assumption) | omega | apply And.intro); all_goals first | (simp; done) | (simp; omega) | (simp_all; done) | exact Nat.le_of_ble_eq_true rfl | kernel_rfl)) (ret_of rfl ?_ trivial trivial)
    first | (simp_all [tle, tleL, hEnc]; done) | ((have hc : ¬ (x.n < 0 ∨ 9999 < x.n ∨ x.k < 0 ∨ 99 < x.k ∨ kMost x.l = 0) := by omega); simp only [hEnc, if_neg hc]; simp_all [tle, tleL])
  · have d1 := c1; (try simp at d1)
    rcases Bool.eq_false_or_eq_true (decide (x.n > 9999)) with c2 | c2
    · have d2 := c2; (try simp at d2)
      refine g_fin tab_ok mixed 3000 [.f, .t] rfl (by (simp only [AllR]; (repeat' first | exact k1 | exact k2 | exact k3 | exact k4 | exact True.intro | (show (_ : Bool) = _; assumption) | omega | apply And.intro); all_goals first | (simp; done) | (simp; omega) | (simp_all; done) | exact Nat.le_of_ble_eq_true rfl | kernel_rfl)) (ret_of rfl ?_ trivial trivial)
      first | (simp_all [tle, tleL, hEnc]; done) | ((have hc : ¬ (x.n < 0 ∨ 9999 < x.n ∨ x.k < 0 ∨ 99 < x.k ∨ kMost x.l = 0) := by omega); simp only [hEnc, if_neg hc]; simp_all [tle, tleL])
    · have d2 := c2; (try simp at d2)
      rcases Bool.eq_false_or_eq_true (decide (x.k < 0)) with c3 | c3
      · have d3 := c3; (try simp at d3)
        refine g_fin tab_ok mixed 3000 [.f, .f, .t] rfl (by (simp only [AllR]; (repeat' first | exact k1 | exact k2 | exact k3 | exact k4 | exact True.intro | (show (_ : Bool) = _; assumption) | omega | apply And.intro); all_goals first | (simp; done) | (simp; omega) | (simp_all; done) | exact Nat.le_of_ble_eq_true rfl | kernel_rfl)) (ret_of rfl ?_ trivial trivial)
        first | (simp_all [tle, tleL, hEnc]; done) | ((have hc : ¬ (x.n < 0 ∨ 9999 < x.n ∨ x.k < 0 ∨ 99 < x.k ∨ kMost x.l = 0) := by omega); simp only [hEnc, if_neg hc]; simp_all [tle, tleL])
      · have d3 := c3; (try simp at d3)
        rcases Bool.eq_false_or_eq_true (decide (x.k > 99)) with c4 | c4
        · have d4 := c4; (try simp at d4)
          refine g_fin tab_ok mixed 3000 [.f, .f, .f, .t] rfl (by (simp only [AllR]; (repeat' first | exact k1 | exact k2 | exact k3 | exact k4 | exact True.intro | (show (_ : Bool) = _; assumption) | omega | apply And.intro); all_goals first | (simp; done) | (simp; omega) | (simp_all; done) | exact Nat.le_of_ble_eq_true rfl | kernel_rfl)) (ret_of rfl ?_ trivial trivial)
          first | (simp_all [tle, tleL, hEnc]; done) | ((have hc : ¬ (x.n < 0 ∨ 9999 < x.n ∨ x.k < 0 ∨ 99 < x.k ∨ kMost x.l = 0) := by omega); simp only [hEnc, if_neg hc]; simp_all [tle, tleL])
        · have d4 := c4; (try simp at d4)
          rcases Bool.eq_false_or_eq_true (kMost x.l == 0) with c5 | c5
          · have d5 := c5; (try simp at d5)
            refine g_fin tab_ok mixed 3000 [.f, .f, .f, .f, cc k1, .t] rfl (by (simp only [AllR]; (repeat' first | exact k1 | exact k2 | exact k3 | exact k4 | exact True.intro | (show (_ : Bool) = _; assumption) | omega | apply And.intro); all_goals first | (simp; done) | (simp; omega) | (simp_all; done) | exact Nat.le_of_ble_eq_true rfl | kernel_rfl)) (ret_of rfl ?_ trivial trivial)
            first | (simp_all [tle, tleL, hEnc]; done) | ((have hc : ¬ (x.n < 0 ∨ 9999 < x.n ∨ x.k < 0 ∨ 99 < x.k ∨ kMost x.l = 0) := by omega); simp only [hEnc, if_neg hc]; simp_all [tle, tleL])
          · have d5 := c5; (try simp at d5)
            rcases Bool.eq_false_or_eq_true ((if tChk x.h x.l = true then 0 else 12) != 0) with c6 | c6
            · have d6 := c6; (try simp at d6)
              refine g_fin tab_ok mixed 3000 [.f, .f, .f, .f, cc k1, .f, cc k2, .t] rfl (by (simp only [AllR]; (repeat' first | exact k1 | exact k2 | exact k3 | exact k4 | exact True.intro | (show (_ : Bool) = _; assumption) | omega | apply And.intro); all_goals first | (simp; done) | (simp; omega) | (simp_all; done) | exact Nat.le_of_ble_eq_true rfl | kernel_rfl)) (ret_of rfl ?_ trivial trivial)
              first | (simp_all [tle, tleL, hEnc]; done) | ((have hc : ¬ (x.n < 0 ∨ 9999 < x.n ∨ x.k < 0 ∨ 99 < x.k ∨ kMost x.l = 0) := by omega); simp only [hEnc, if_neg hc]; simp_all [tle, tleL])
            · have d6 := c6; (try simp at d6)
              refine g_fin tab_ok mixed 3000 [.f, .f, .f, .f, cc k1, .f, cc k2, .f, cc k3, cc k4] rfl (by (simp only [AllR]; (repeat' first | exact k1 | exact k2 | exact k3 | exact k4 | exact True.intro | (show (_ : Bool) = _; assumption) | omega | apply And.intro); all_goals first | (simp; done) | (simp; omega) | (simp_all; done) | exact Nat.le_of_ble_eq_true rfl | kernel_rfl)) (ret_of rfl ?_ trivial trivial)
              first | (simp_all [tle, tleL, hEnc]; done) | ((have hc : ¬ (x.n < 0 ∨ 9999 < x.n ∨ x.k < 0 ∨ 99 < x.k ∨ kMost x.l = 0) := by omega); simp only [hEnc, if_neg hc]; simp_all [tle, tleL])
theorem hDec_lt (s : List UInt8) (h : s.length < 16) : hDec s = (Hdr.none, 5) := by simp [hDec, h]
theorem hDec_ge (s : List UInt8) (h : ¬ s.length < 16) : hDec s = if bt s 0 ≠ 68 ∨ cut s 14 2 ≠ [48, 48] then (Hdr.none, (5 : Int)) else match undecO (cut s 1 4), undecO (cut s 12 2) with
  | some n, some k => if kMost (cut s 7 1) = 0 then (Hdr.none, 5) else if tChk ⟨cut s 5 2, cut s 8 1, cut s 9 2, cut s 11 1⟩ (cut s 7 1) = true then (⟨n, cut s 7 1, k, ⟨cut s 5 2, cut s 8 1, cut s 9 2, cut s 11 1⟩⟩, 0) else (Hdr.none, 12)
  | _, _ => (Hdr.none, 5) := by
  unfold hDec; simp only [h, false_or]
theorem rDecode (s : List UInt8) (hs : s.length ≤ 1000000) : Ret P (C ml) 28 [.s s] (.tup [.agg (hDec s).1.cells, .i .i64 (hDec s).2]) := by
  refine hret_of tab_ok Tryd.func28 rfl rfl (by kernel_rfl) rfl ?_
  have k1 : Ret P (C ml) 16 [.s ((s.take 5).drop 1)] (undT (undecO (cut s 1 4))) := by rw [← dtc s 1 5]; exact undec02 _ (by simp; omega)
  have k2 : Ret P (C ml) 16 [.s ((s.take 14).drop 12)] (undT (undecO (cut s 12 2))) := by rw [← dtc s 12 14]; exact undec02 _ (by simp; omega)
  have k3 := rMost (ml := ml) ((s.take 8).drop 7)
  have k4 := rCheck (ml := ml) ⟨(s.take 7).drop 5, (s.take 9).drop 8, (s.take 11).drop 9, (s.take 12).drop 11⟩ ((s.take 8).drop 7)
  cases hu1 : undecO (cut s 1 4) with
  | none =>
    rw [hu1] at k1
    rcases Bool.eq_false_or_eq_true (decide ((↑s.length : Int) < 16)) with c1 | c1
    · have d1 := c1; (try simp at d1)
      refine g_fin tab_ok mixed 3000 [.t] rfl (by (simp only [AllR]; (repeat' first | exact k1 | exact k2 | exact k3 | exact k4 | exact True.intro | (show (_ : Bool) = _; assumption) | omega | apply And.intro); all_goals first | (simp; done) | (simp; omega) | (simp_all; done) | exact Nat.le_of_ble_eq_true rfl | kernel_rfl)) (ret_of rfl ?_ trivial trivial)
      (first | rw [hDec_lt s (by omega)] | rw [hDec_ge s (by omega)]); (simp only [dtc, Nat.reduceSub] at *); simp_all [tle, tleL, hDec, noRefL, noRef, both, Hdr.cells, Hdr.none]
    · have d1 := c1; (try simp at d1)
      rcases Bool.eq_false_or_eq_true (bt s 0 != 68) with c2 | c2
      · have d2 := c2; (try simp at d2)
        refine g_fin tab_ok mixed 3000 [.f, .t] rfl (by (simp only [AllR]; (repeat' first | exact k1 | exact k2 | exact k3 | exact k4 | exact True.intro | (show (_ : Bool) = _; assumption) | omega | apply And.intro); all_goals first | (simp; done) | (simp; omega) | (simp_all; done) | exact Nat.le_of_ble_eq_true rfl | kernel_rfl)) (ret_of rfl ?_ trivial trivial)
        (first | rw [hDec_lt s (by omega)] | rw [hDec_ge s (by omega)]); (simp only [dtc, Nat.reduceSub] at *); simp_all [tle, tleL, hDec, noRefL, noRef, both, Hdr.cells, Hdr.none]
      · have d2 := c2; (try simp at d2)
        rcases Bool.eq_false_or_eq_true (!List.drop (Int.toNat 14) (List.take (Int.toNat 16) s) == [48, 48]) with c3 | c3
        · have d3 := c3; (try simp at d3)
          refine g_fin tab_ok mixed 3000 [.f, .f, .t] rfl (by (simp only [AllR]; (repeat' first | exact k1 | exact k2 | exact k3 | exact k4 | exact True.intro | (show (_ : Bool) = _; assumption) | omega | apply And.intro); all_goals first | (simp; done) | (simp; omega) | (simp_all; done) | exact Nat.le_of_ble_eq_true rfl | kernel_rfl)) (ret_of rfl ?_ trivial trivial)
          (first | rw [hDec_lt s (by omega)] | rw [hDec_ge s (by omega)]); (simp only [dtc, Nat.reduceSub] at *); simp_all [tle, tleL, hDec, noRefL, noRef, both, Hdr.cells, Hdr.none]
        · have d3 := c3; (try simp at d3)
          refine g_fin tab_ok mixed 3000 [.f, .f, .f, cc k1, cc k2, .t] rfl (by (simp only [AllR]; (repeat' first | exact k1 | exact k2 | exact k3 | exact k4 | exact True.intro | (show (_ : Bool) = _; assumption) | omega | apply And.intro); all_goals first | (simp; done) | (simp; omega) | (simp_all; done) | exact Nat.le_of_ble_eq_true rfl | kernel_rfl)) (ret_of rfl ?_ trivial trivial)
          (first | rw [hDec_lt s (by omega)] | rw [hDec_ge s (by omega)]); (simp only [dtc, Nat.reduceSub] at *); simp_all [tle, tleL, hDec, noRefL, noRef, both, Hdr.cells, Hdr.none]
  | some n =>
    rw [hu1] at k1
    cases hu2 : undecO (cut s 12 2) with
    | none =>
      rw [hu2] at k2
      rcases Bool.eq_false_or_eq_true (decide ((↑s.length : Int) < 16)) with c1 | c1
      · have d1 := c1; (try simp at d1)
        refine g_fin tab_ok mixed 3000 [.t] rfl (by (simp only [AllR]; (repeat' first | exact k1 | exact k2 | exact k3 | exact k4 | exact True.intro | (show (_ : Bool) = _; assumption) | omega | apply And.intro); all_goals first | (simp; done) | (simp; omega) | (simp_all; done) | exact Nat.le_of_ble_eq_true rfl | kernel_rfl)) (ret_of rfl ?_ trivial trivial)
        (first | rw [hDec_lt s (by omega)] | rw [hDec_ge s (by omega)]); (simp only [dtc, Nat.reduceSub] at *); simp_all [tle, tleL, hDec, noRefL, noRef, both, Hdr.cells, Hdr.none]
      · have d1 := c1; (try simp at d1)
        rcases Bool.eq_false_or_eq_true (bt s 0 != 68) with c2 | c2
        · have d2 := c2; (try simp at d2)
          refine g_fin tab_ok mixed 3000 [.f, .t] rfl (by (simp only [AllR]; (repeat' first | exact k1 | exact k2 | exact k3 | exact k4 | exact True.intro | (show (_ : Bool) = _; assumption) | omega | apply And.intro); all_goals first | (simp; done) | (simp; omega) | (simp_all; done) | exact Nat.le_of_ble_eq_true rfl | kernel_rfl)) (ret_of rfl ?_ trivial trivial)
          (first | rw [hDec_lt s (by omega)] | rw [hDec_ge s (by omega)]); (simp only [dtc, Nat.reduceSub] at *); simp_all [tle, tleL, hDec, noRefL, noRef, both, Hdr.cells, Hdr.none]
        · have d2 := c2; (try simp at d2)
          rcases Bool.eq_false_or_eq_true (!List.drop (Int.toNat 14) (List.take (Int.toNat 16) s) == [48, 48]) with c3 | c3
          · have d3 := c3; (try simp at d3)
            refine g_fin tab_ok mixed 3000 [.f, .f, .t] rfl (by (simp only [AllR]; (repeat' first | exact k1 | exact k2 | exact k3 | exact k4 | exact True.intro | (show (_ : Bool) = _; assumption) | omega | apply And.intro); all_goals first | (simp; done) | (simp; omega) | (simp_all; done) | exact Nat.le_of_ble_eq_true rfl | kernel_rfl)) (ret_of rfl ?_ trivial trivial)
            (first | rw [hDec_lt s (by omega)] | rw [hDec_ge s (by omega)]); (simp only [dtc, Nat.reduceSub] at *); simp_all [tle, tleL, hDec, noRefL, noRef, both, Hdr.cells, Hdr.none]
          · have d3 := c3; (try simp at d3)
            refine g_fin tab_ok mixed 3000 [.f, .f, .f, cc k1, cc k2, .f, .t] rfl (by (simp only [AllR]; (repeat' first | exact k1 | exact k2 | exact k3 | exact k4 | exact True.intro | (show (_ : Bool) = _; assumption) | omega | apply And.intro); all_goals first | (simp; done) | (simp; omega) | (simp_all; done) | exact Nat.le_of_ble_eq_true rfl | kernel_rfl)) (ret_of rfl ?_ trivial trivial)
            (first | rw [hDec_lt s (by omega)] | rw [hDec_ge s (by omega)]); (simp only [dtc, Nat.reduceSub] at *); simp_all [tle, tleL, hDec, noRefL, noRef, both, Hdr.cells, Hdr.none]
    | some k =>
      rw [hu2] at k2
      rcases Bool.eq_false_or_eq_true (decide ((↑s.length : Int) < 16)) with c1 | c1
      · have d1 := c1; (try simp at d1)
        refine g_fin tab_ok mixed 3000 [.t] rfl (by (simp only [AllR]; (repeat' first | exact k1 | exact k2 | exact k3 | exact k4 | exact True.intro | (show (_ : Bool) = _; assumption) | omega | apply And.intro); all_goals first | (simp; done) | (simp; omega) | (simp_all; done) | exact Nat.le_of_ble_eq_true rfl | kernel_rfl)) (ret_of rfl ?_ trivial trivial)
        (first | rw [hDec_lt s (by omega)] | rw [hDec_ge s (by omega)]); (simp only [dtc, Nat.reduceSub] at *); simp_all [tle, tleL, hDec, noRefL, noRef, both, Hdr.cells, Hdr.none]
      · have d1 := c1; (try simp at d1)
        rcases Bool.eq_false_or_eq_true (bt s 0 != 68) with c2 | c2
        · have d2 := c2; (try simp at d2)
          refine g_fin tab_ok mixed 3000 [.f, .t] rfl (by (simp only [AllR]; (repeat' first | exact k1 | exact k2 | exact k3 | exact k4 | exact True.intro | (show (_ : Bool) = _; assumption) | omega | apply And.intro); all_goals first | (simp; done) | (simp; omega) | (simp_all; done) | exact Nat.le_of_ble_eq_true rfl | kernel_rfl)) (ret_of rfl ?_ trivial trivial)
          (first | rw [hDec_lt s (by omega)] | rw [hDec_ge s (by omega)]); (simp only [dtc, Nat.reduceSub] at *); simp_all [tle, tleL, hDec, noRefL, noRef, both, Hdr.cells, Hdr.none]
        · have d2 := c2; (try simp at d2)
          rcases Bool.eq_false_or_eq_true (!List.drop (Int.toNat 14) (List.take (Int.toNat 16) s) == [48, 48]) with c3 | c3
          · have d3 := c3; (try simp at d3)
            refine g_fin tab_ok mixed 3000 [.f, .f, .t] rfl (by (simp only [AllR]; (repeat' first | exact k1 | exact k2 | exact k3 | exact k4 | exact True.intro | (show (_ : Bool) = _; assumption) | omega | apply And.intro); all_goals first | (simp; done) | (simp; omega) | (simp_all; done) | exact Nat.le_of_ble_eq_true rfl | kernel_rfl)) (ret_of rfl ?_ trivial trivial)
            (first | rw [hDec_lt s (by omega)] | rw [hDec_ge s (by omega)]); (simp only [dtc, Nat.reduceSub] at *); simp_all [tle, tleL, hDec, noRefL, noRef, both, Hdr.cells, Hdr.none]
          · have d3 := c3; (try simp at d3)
            rcases Bool.eq_false_or_eq_true (kMost (List.drop 7 (List.take 8 s)) == 0) with c4 | c4
            · have d4 := c4; (try simp at d4)
              refine g_fin tab_ok mixed 3000 [.f, .f, .f, cc k1, cc k2, .f, .f, cc k3, .t] rfl (by (simp only [AllR]; (repeat' first | exact k1 | exact k2 | exact k3 | exact k4 | exact True.intro | (show (_ : Bool) = _; assumption) | omega | apply And.intro); all_goals first | (simp; done) | (simp; omega) | (simp_all; done) | exact Nat.le_of_ble_eq_true rfl | kernel_rfl)) (ret_of rfl ?_ trivial trivial)
              (first | rw [hDec_lt s (by omega)] | rw [hDec_ge s (by omega)]); (simp only [dtc, Nat.reduceSub] at *); simp_all [tle, tleL, hDec, noRefL, noRef, both, Hdr.cells, Hdr.none]
            · have d4 := c4; (try simp at d4)
              rcases Bool.eq_false_or_eq_true ((if tChk { u := List.drop 5 (List.take 7 s), m := List.drop 8 (List.take 9 s), v := List.drop 9 (List.take 11 s), e := List.drop 11 (List.take 12 s) } (List.drop 7 (List.take 8 s)) = true then 0 else 12) != 0) with c5 | c5
              · have d5 := c5; (try simp at d5)
                refine g_fin tab_ok mixed 3000 [.f, .f, .f, cc k1, cc k2, .f, .f, cc k3, .f, cc k4, .t] rfl (by (simp only [AllR]; (repeat' first | exact k1 | exact k2 | exact k3 | exact k4 | exact True.intro | (show (_ : Bool) = _; assumption) | omega | apply And.intro); all_goals first | (simp; done) | (simp; omega) | (simp_all; done) | exact Nat.le_of_ble_eq_true rfl | kernel_rfl)) (ret_of rfl ?_ trivial trivial)
                (first | rw [hDec_lt s (by omega)] | rw [hDec_ge s (by omega)]); (simp only [dtc, Nat.reduceSub] at *); simp_all [tle, tleL, hDec, noRefL, noRef, both, Hdr.cells, Hdr.none]
              · have d5 := c5; (try simp at d5)
                refine g_fin tab_ok mixed 3000 [.f, .f, .f, cc k1, cc k2, .f, .f, cc k3, .f, cc k4, .f] rfl (by (simp only [AllR]; (repeat' first | exact k1 | exact k2 | exact k3 | exact k4 | exact True.intro | (show (_ : Bool) = _; assumption) | omega | apply And.intro); all_goals first | (simp; done) | (simp; omega) | (simp_all; done) | exact Nat.le_of_ble_eq_true rfl | kernel_rfl)) (ret_of rfl ?_ trivial trivial)
                (first | rw [hDec_lt s (by omega)] | rw [hDec_ge s (by omega)]); (simp only [dtc, Nat.reduceSub] at *); simp_all [tle, tleL, hDec, noRefL, noRef, both, Hdr.cells, Hdr.none]
theorem cNext (r : List UInt8) (n : Nat) (h : n ≤ r.length) (h2 : r.length ≤ 1000000) : HRet P (C ml) 42 [.p 19 0 0, .i .i64 n] [(19, 0, .row false (.cell 69) [.s r])] (.s (r.take n)) [(19, 0, .row false (.cell 69) [.s (r.drop n)])] := by
  refine hret_of tab_ok Tryd.func42 rfl rfl (by kernel_rfl) rfl ?_
  refine g_fin tab_ok mixed 3000 [] rfl (by (simp only [AllR]; (repeat' first | exact True.intro | (show (_ : Bool) = _; assumption) | omega | apply And.intro); all_goals first | (simp; done) | (simp; omega) | (simp_all; done) | exact Nat.le_of_ble_eq_true rfl | kernel_rfl)) (ret_of rfl ?_ ?_ ?_)
  · simp [tle]
  · exact ⟨⟨rfl, rfl, ⟨by simp [tle], rfl⟩⟩, trivial⟩
  · exact ⟨rfl, trivial⟩
set_option maxHeartbeats 2000000 in
theorem pDecode (s : List UInt8) (hs : s.length ≤ 1000000) : Ret P (C ml) 27 [.s s] (.tup [.agg (hDec s).1.cells, .i .i64 (hDec s).2]) := by
  refine hret_of tab_ok Tryd.func27 rfl rfl (by kernel_rfl) rfl ?_
  by_cases c0 : s.length < 16
  · refine g_fin tab_ok mixed 3000 [.t] rfl (by (simp only [AllR]; (repeat' first | exact True.intro | (show (_ : Bool) = _; assumption) | omega | apply And.intro); all_goals first | (simp; done) | (simp; omega) | (simp_all; done) | exact Nat.le_of_ble_eq_true rfl | kernel_rfl)) (ret_of rfl ?_ trivial trivial)
    simp_all [tle, tleL, hDec, noRefL, noRef, both, Hdr.cells, Hdr.none]
  · have n1 := cNext (ml := ml) (s.take 16) 1 (by simp; omega) (by simp; omega)
    have n2 := cNext (ml := ml) ((s.take 16).drop 1) 4 (by simp; omega) (by simp; omega)
    have n3 := cNext (ml := ml) (((s.take 16).drop 1).drop 4) 2 (by simp; omega) (by simp; omega)
    have n4 := cNext (ml := ml) ((((s.take 16).drop 1).drop 4).drop 2) 1 (by simp; omega) (by simp; omega)
    have n5 := cNext (ml := ml) (((((s.take 16).drop 1).drop 4).drop 2).drop 1) 1 (by simp; omega) (by simp; omega)
    have n6 := cNext (ml := ml) ((((((s.take 16).drop 1).drop 4).drop 2).drop 1).drop 1) 2 (by simp; omega) (by simp; omega)
    have n7 := cNext (ml := ml) (((((((s.take 16).drop 1).drop 4).drop 2).drop 1).drop 1).drop 2) 1 (by simp; omega) (by simp; omega)
    have n8 := cNext (ml := ml) ((((((((s.take 16).drop 1).drop 4).drop 2).drop 1).drop 1).drop 2).drop 1) 2 (by simp; omega) (by simp; omega)
    have e1 : ((s.take 16).drop 1).take 4 = cut s 1 4 := by simp [cut, List.drop_take, List.take_take]
    have e2 : ((((((((s.take 16).drop 1).drop 4).drop 2).drop 1).drop 1).drop 2).drop 1).take 2 = cut s 12 2 := by simp [cut, List.drop_take, List.take_take]
    have k1 : Ret P (C ml) 15 [.s (((s.take 16).drop 1).take 4)] (undT (undecO (cut s 1 4))) := by rw [← e1]; exact dUndec _ (by simp; omega)
    have k2 : Ret P (C ml) 15 [.s (((((((((s.take 16).drop 1).drop 4).drop 2).drop 1).drop 1).drop 2).drop 1).take 2)] (undT (undecO (cut s 12 2))) := by rw [← e2]; exact dUndec _ (by simp; omega)
    have e3 : ((((s.take 16).drop 1).drop 4).drop 2).take 1 = cut s 7 1 := by simp [cut, List.drop_take, List.take_take]
    have e4 : (((s.take 16).drop 1).drop 4).take 2 = cut s 5 2 := by simp [cut, List.drop_take, List.take_take]
    have e5 : (((((s.take 16).drop 1).drop 4).drop 2).drop 1).take 1 = cut s 8 1 := by simp [cut, List.drop_take, List.take_take]
    have e6 : ((((((s.take 16).drop 1).drop 4).drop 2).drop 1).drop 1).take 2 = cut s 9 2 := by simp [cut, List.drop_take, List.take_take]
    have e7 : (((((((s.take 16).drop 1).drop 4).drop 2).drop 1).drop 1).drop 2).take 1 = cut s 11 1 := by simp [cut, List.drop_take, List.take_take]
    have e8 : (((((((((s.take 16).drop 1).drop 4).drop 2).drop 1).drop 1).drop 2).drop 1).drop 2) = cut s 14 2 := by simp [cut, List.drop_take, List.take_take]
    have e0 : ((s.take 16).take 1 == [68]) = (bt s 0 == 68) := by
      match s, c0 with
      | c :: l, _ =>
        have : bt (c :: l) 0 = (c.toNat : Int) := rfl
        rw [this, Bool.eq_iff_iff]
        simp [← UInt8.toNat_inj]
        omega
      | [], h => simp at h
    have k3 : Ret P (C ml) 36 [.s (((((s.take 16).drop 1).drop 4).drop 2).take 1)] (.i .i64 (kMost (cut s 7 1))) := by rw [← e3]; exact pMost _
    have k4 : Ret P (C ml) 37 [.agg (Hd.cells ⟨(((s.take 16).drop 1).drop 4).take 2, (((((s.take 16).drop 1).drop 4).drop 2).drop 1).take 1, ((((((s.take 16).drop 1).drop 4).drop 2).drop 1).drop 1).take 2, (((((((s.take 16).drop 1).drop 4).drop 2).drop 1).drop 1).drop 2).take 1⟩), .s (((((s.take 16).drop 1).drop 4).drop 2).take 1)] (.i .i64 (if tChk ⟨cut s 5 2, cut s 8 1, cut s 9 2, cut s 11 1⟩ (cut s 7 1) then 0 else 12)) := by rw [← e3, ← e4, ← e5, ← e6, ← e7]; exact pCheck _ _
    cases hu1 : undecO (cut s 1 4) with
    | none =>
      rw [hu1] at k1
      rcases Bool.eq_false_or_eq_true (!List.take 1 (List.take 16 s) == [68]) with c1 | c1
      · have d1 := c1; (try simp at d1)
        refine g_fin tab_ok mixed 3000 [.f, ch n1, ch n2, cc k1, ch n3, ch n4, ch n5, ch n6, ch n7, ch n8, cc k2, .t] rfl (by (simp only [AllR]; (repeat' first | exact n1 | exact n2 | exact n3 | exact n4 | exact n5 | exact n6 | exact n7 | exact n8 | exact k1 | exact k2 | exact k3 | exact k4 | exact True.intro | (show (_ : Bool) = _; assumption) | omega | apply And.intro); all_goals first | (simp; done) | (simp; omega) | (simp_all; done) | exact Nat.le_of_ble_eq_true rfl | kernel_rfl)) (ret_of rfl ?_ trivial trivial)
        (rw [hDec_ge s c0]); (try rw [e0] at c1); (try rw [e8] at c2); (try simp at c1); (try simp at c2); clear n1 n2 n3 n4 n5 n6 n7 n8 k1 k2 k3 k4 d1; (try clear d2); simp_all [tle, tleL, noRefL, noRef, both, Hdr.cells, Hdr.none, Hd.cells]
      · have d1 := c1; (try simp at d1)
        refine g_fin tab_ok mixed 3000 [.f, ch n1, ch n2, cc k1, ch n3, ch n4, ch n5, ch n6, ch n7, ch n8, cc k2, .f, .t] rfl (by (simp only [AllR]; (repeat' first | exact n1 | exact n2 | exact n3 | exact n4 | exact n5 | exact n6 | exact n7 | exact n8 | exact k1 | exact k2 | exact k3 | exact k4 | exact True.intro | (show (_ : Bool) = _; assumption) | omega | apply And.intro); all_goals first | (simp; done) | (simp; omega) | (simp_all; done) | exact Nat.le_of_ble_eq_true rfl | kernel_rfl)) (ret_of rfl ?_ trivial trivial)
        (rw [hDec_ge s c0]); (try rw [e0] at c1); (try rw [e8] at c2); (try simp at c1); (try simp at c2); clear n1 n2 n3 n4 n5 n6 n7 n8 k1 k2 k3 k4 d1; (try clear d2); simp_all [tle, tleL, noRefL, noRef, both, Hdr.cells, Hdr.none, Hd.cells]
    | some n =>
      rw [hu1] at k1
      cases hu2 : undecO (cut s 12 2) with
      | none =>
        rw [hu2] at k2
        rcases Bool.eq_false_or_eq_true (!List.take 1 (List.take 16 s) == [68]) with c1 | c1
        · have d1 := c1; (try simp at d1)
          refine g_fin tab_ok mixed 3000 [.f, ch n1, ch n2, cc k1, ch n3, ch n4, ch n5, ch n6, ch n7, ch n8, cc k2, .t] rfl (by (simp only [AllR]; (repeat' first | exact n1 | exact n2 | exact n3 | exact n4 | exact n5 | exact n6 | exact n7 | exact n8 | exact k1 | exact k2 | exact k3 | exact k4 | exact True.intro | (show (_ : Bool) = _; assumption) | omega | apply And.intro); all_goals first | (simp; done) | (simp; omega) | (simp_all; done) | exact Nat.le_of_ble_eq_true rfl | kernel_rfl)) (ret_of rfl ?_ trivial trivial)
          (rw [hDec_ge s c0]); (try rw [e0] at c1); (try rw [e8] at c2); (try simp at c1); (try simp at c2); clear n1 n2 n3 n4 n5 n6 n7 n8 k1 k2 k3 k4 d1; (try clear d2); simp_all [tle, tleL, noRefL, noRef, both, Hdr.cells, Hdr.none, Hd.cells]
        · have d1 := c1; (try simp at d1)
          refine g_fin tab_ok mixed 3000 [.f, ch n1, ch n2, cc k1, ch n3, ch n4, ch n5, ch n6, ch n7, ch n8, cc k2, .f, .f, .t] rfl (by (simp only [AllR]; (repeat' first | exact n1 | exact n2 | exact n3 | exact n4 | exact n5 | exact n6 | exact n7 | exact n8 | exact k1 | exact k2 | exact k3 | exact k4 | exact True.intro | (show (_ : Bool) = _; assumption) | omega | apply And.intro); all_goals first | (simp; done) | (simp; omega) | (simp_all; done) | exact Nat.le_of_ble_eq_true rfl | kernel_rfl)) (ret_of rfl ?_ trivial trivial)
          (rw [hDec_ge s c0]); (try rw [e0] at c1); (try rw [e8] at c2); (try simp at c1); (try simp at c2); clear n1 n2 n3 n4 n5 n6 n7 n8 k1 k2 k3 k4 d1; (try clear d2); simp_all [tle, tleL, noRefL, noRef, both, Hdr.cells, Hdr.none, Hd.cells]
      | some k =>
        rw [hu2] at k2
        rcases Bool.eq_false_or_eq_true (!List.take 1 (List.take 16 s) == [68]) with c1 | c1
        · have d1 := c1; (try simp at d1)
          refine g_fin tab_ok mixed 3000 [.f, ch n1, ch n2, cc k1, ch n3, ch n4, ch n5, ch n6, ch n7, ch n8, cc k2, .t] rfl (by (simp only [AllR]; (repeat' first | exact n1 | exact n2 | exact n3 | exact n4 | exact n5 | exact n6 | exact n7 | exact n8 | exact k1 | exact k2 | exact k3 | exact k4 | exact True.intro | (show (_ : Bool) = _; assumption) | omega | apply And.intro); all_goals first | (simp; done) | (simp; omega) | (simp_all; done) | exact Nat.le_of_ble_eq_true rfl | kernel_rfl)) (ret_of rfl ?_ trivial trivial)
          (rw [hDec_ge s c0]); (try rw [e0] at c1); (try rw [e8] at c2); (try simp at c1); (try simp at c2); clear n1 n2 n3 n4 n5 n6 n7 n8 k1 k2 k3 k4 d1; (try clear d2); simp_all [tle, tleL, noRefL, noRef, both, Hdr.cells, Hdr.none, Hd.cells]
        · have d1 := c1; (try simp at d1)
          rcases Bool.eq_false_or_eq_true (!List.drop 2 (List.drop 1 (List.drop 2 (List.drop 1 (List.drop 1 (List.drop 2 (List.drop 4 (List.drop 1 (List.take 16 s)))))))) == [48, 48]) with c2 | c2
          · have d2 := c2; (try simp at d2)
            refine g_fin tab_ok mixed 3000 [.f, ch n1, ch n2, cc k1, ch n3, ch n4, ch n5, ch n6, ch n7, ch n8, cc k2, .f, .f, .f, .t] rfl (by (simp only [AllR]; (repeat' first | exact n1 | exact n2 | exact n3 | exact n4 | exact n5 | exact n6 | exact n7 | exact n8 | exact k1 | exact k2 | exact k3 | exact k4 | exact True.intro | (show (_ : Bool) = _; assumption) | omega | apply And.intro); all_goals first | (simp; done) | (simp; omega) | (simp_all; done) | exact Nat.le_of_ble_eq_true rfl | kernel_rfl)) (ret_of rfl ?_ trivial trivial)
            (rw [hDec_ge s c0]); (try rw [e0] at c1); (try rw [e8] at c2); (try simp at c1); (try simp at c2); clear n1 n2 n3 n4 n5 n6 n7 n8 k1 k2 k3 k4 d1; (try clear d2); simp_all [tle, tleL, noRefL, noRef, both, Hdr.cells, Hdr.none, Hd.cells]
          · have d2 := c2; (try simp at d2)
            rcases Bool.eq_false_or_eq_true (kMost (cut s 7 1) == 0) with c3 | c3
            · have d3 := c3; (try simp at d3)
              refine g_fin tab_ok mixed 3000 [.f, ch n1, ch n2, cc k1, ch n3, ch n4, ch n5, ch n6, ch n7, ch n8, cc k2, .f, .f, .f, .f, cc k3, .t] rfl (by (simp only [AllR]; (repeat' first | exact n1 | exact n2 | exact n3 | exact n4 | exact n5 | exact n6 | exact n7 | exact n8 | exact k1 | exact k2 | exact k3 | exact k4 | exact True.intro | (show (_ : Bool) = _; assumption) | omega | apply And.intro); all_goals first | (simp; done) | (simp; omega) | (simp_all; done) | exact Nat.le_of_ble_eq_true rfl | kernel_rfl)) (ret_of rfl ?_ trivial trivial)
              (rw [hDec_ge s c0]); (try rw [e0] at c1); (try rw [e8] at c2); (try simp at c1); (try simp at c2); clear n1 n2 n3 n4 n5 n6 n7 n8 k1 k2 k3 k4 d1; (try clear d2); simp_all [tle, tleL, noRefL, noRef, both, Hdr.cells, Hdr.none, Hd.cells]
            · have d3 := c3; (try simp at d3)
              rcases Bool.eq_false_or_eq_true ((if tChk { u := cut s 5 2, m := cut s 8 1, v := cut s 9 2, e := cut s 11 1 } (cut s 7 1) = true then 0 else 12) != 0) with c4 | c4
              · have d4 := c4; (try simp at d4)
                refine g_fin tab_ok mixed 3000 [.f, ch n1, ch n2, cc k1, ch n3, ch n4, ch n5, ch n6, ch n7, ch n8, cc k2, .f, .f, .f, .f, cc k3, .f, cc k4, .t] rfl (by (simp only [AllR]; (repeat' first | exact n1 | exact n2 | exact n3 | exact n4 | exact n5 | exact n6 | exact n7 | exact n8 | exact k1 | exact k2 | exact k3 | exact k4 | exact True.intro | (show (_ : Bool) = _; assumption) | omega | apply And.intro); all_goals first | (simp; done) | (simp; omega) | (simp_all; done) | exact Nat.le_of_ble_eq_true rfl | kernel_rfl)) (ret_of rfl ?_ trivial trivial)
                (rw [hDec_ge s c0]); (try rw [e0] at c1); (try rw [e8] at c2); (try simp at c1); (try simp at c2); clear n1 n2 n3 n4 n5 n6 n7 n8 k1 k2 k3 k4 d1; (try clear d2); simp_all [tle, tleL, noRefL, noRef, both, Hdr.cells, Hdr.none, Hd.cells]
              · have d4 := c4; (try simp at d4)
                refine g_fin tab_ok mixed 3000 [.f, ch n1, ch n2, cc k1, ch n3, ch n4, ch n5, ch n6, ch n7, ch n8, cc k2, .f, .f, .f, .f, cc k3, .f, cc k4, .f] rfl (by (simp only [AllR]; (repeat' first | exact n1 | exact n2 | exact n3 | exact n4 | exact n5 | exact n6 | exact n7 | exact n8 | exact k1 | exact k2 | exact k3 | exact k4 | exact True.intro | (show (_ : Bool) = _; assumption) | omega | apply And.intro); all_goals first | (simp; done) | (simp; omega) | (simp_all; done) | exact Nat.le_of_ble_eq_true rfl | kernel_rfl)) (ret_of rfl ?_ trivial trivial)
                (rw [hDec_ge s c0]); (try rw [e0] at c1); (try rw [e8] at c2); (try simp at c1); (try simp at c2); clear n1 n2 n3 n4 n5 n6 n7 n8 k1 k2 k3 k4 d1; (try clear d2); simp_all [tle, tleL, noRefL, noRef, both, Hdr.cells, Hdr.none, Hd.cells]
end Go.Proofs.YtdiippegaidpkaaDoor.Vm
