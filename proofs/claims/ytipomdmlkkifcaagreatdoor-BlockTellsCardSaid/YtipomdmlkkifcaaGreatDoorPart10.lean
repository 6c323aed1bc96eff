/- Texts of one proof, gathered: Eqs Header Header2 Law31. -/
import Derived.Test.YtipomdmlkkifcaaGreatDoorPart3
import Derived.Test.YtipomdmlkkifcaaGreatDoorPart9
import Derived.Test.YtipomdmlkkifcaaGreatDoorPart8
set_option linter.unusedSimpArgs false
set_option linter.unusedVariables false
set_option linter.unnecessarySimpa false
/- '==' of structs. -/
set_option maxRecDepth 100000
namespace Go.Proofs.YtipomdmlkkifcaaGreatDoor.Vm
open Go Go.Proofs Go.RowKit
variable {ml : Int}
theorem eqStr (d : Nat) (w : World) (x y : ByteArray) : (Op.equalIn (d + 1) 9 (.string x) (.string y)).run P w = .ok (x == y) w := by simp [Op.equalIn, run_underlying Tryz.underlying9]
theorem eqInt (d : Nat) (w : World) (x y : Int) : (Op.equalIn (d + 1) 3 (.int .i64 x) (.int .i64 y)).run P w = .ok (x == y) w := by simp [Op.equalIn, run_underlying Tryz.underlying3]
theorem eqHead (d : Nat) (w : World) (a b c e a' b' c' e' : ByteArray) : (Op.equalIn (d + 2) 31 (.agg #[.string a, .string b, .string c, .string e]) (.agg #[.string a', .string b', .string c', .string e'])).run P w = .ok (a == a' && (b == b' && (c == c' && e == e'))) w := by
  have hs : P.stoodInHeld 31 = false := by kernel_rfl
  have hi := Tryz.isAgg9
  rw [Op.equalIn]
  simp [run_underlying Tryz.underlying31, hs, part, hi, eqStr]
  cases a == a' <;> cases b == b' <;> cases c == c' <;> cases e == e' <;> rfl
theorem ba_beq (a b : List UInt8) : ((⟨⟨a⟩⟩ : ByteArray) == ⟨⟨b⟩⟩) = (a == b) := by
  show ((⟨a⟩ : Array UInt8) == ⟨b⟩) = _
  rw [Bool.eq_iff_iff]; simp
theorem says_agg {t : TypeId} {X Y : Operand} {xs ys : List T} {z : Bool} (hg : P.eqGuardType P.depth t = false)
    (h : ∀ (ρ : Place) (hf : Objs) (I : Mem) (us vs : List Value) (w : World), VRs ρ hf I xs us → VRs ρ hf I ys vs → (Op.equalIn 10000 t (.agg ⟨us⟩) (.agg ⟨vs⟩)).run P w = .ok z w) :
    Says P .eql t X Y (.agg xs) (.agg ys) z ∧ Says P .neq t X Y (.agg xs) (.agg ys) (!z) := by
  have key : ∀ (ρ : Place) (hf : Objs) (I : Mem) (vx vy : Value) (w : World), VR ρ hf I (.agg xs) vx → VR ρ hf I (.agg ys) vy → ∃ us vs, vx = .agg ⟨us⟩ ∧ vy = .agg ⟨vs⟩ ∧ (Op.equal t (.agg ⟨us⟩) (.agg ⟨vs⟩)).run P w = .ok z w := by
    intro ρ hf I vx vy w hx hy
    simp only [VR] at hx hy
    obtain ⟨us, rfl, h1⟩ := hx
    obtain ⟨vs, rfl, h2⟩ := hy
    exact ⟨us, vs, rfl, rfl, h ρ hf I us vs w h1 h2⟩
  constructor
  · intro ρ hf I vx vy w hx hy
    obtain ⟨us, vs, rfl, rfl, h1⟩ := key ρ hf I vx vy w hx hy
    simp only [eqGuard, binOp, Sem.run_bind]; simp [hg, h1]
  · intro ρ hf I vx vy w hx hy
    obtain ⟨us, vs, rfl, rfl, h1⟩ := key ρ hf I vx vy w hx hy
    simp only [eqGuard, binOp, Sem.run_bind]; simp [hg, h1]
theorem says_head {X Y : Operand} (a b c e a' b' c' e' : List UInt8) :
    Says P .eql 31 X Y (.agg [.s a, .s b, .s c, .s e]) (.agg [.s a', .s b', .s c', .s e']) (a == a' && (b == b' && (c == c' && e == e'))) ∧
    Says P .neq 31 X Y (.agg [.s a, .s b, .s c, .s e]) (.agg [.s a', .s b', .s c', .s e']) (!(a == a' && (b == b' && (c == c' && e == e')))) := by
  refine says_agg (by kernel_rfl) fun ρ hf I us vs w h1 h2 => ?_
  simp only [VRs, VR] at h1 h2
  obtain ⟨_, _, rfl, rfl, _, _, rfl, rfl, _, _, rfl, rfl, _, _, rfl, rfl, rfl⟩ := h1
  obtain ⟨_, _, rfl, rfl, _, _, rfl, rfl, _, _, rfl, rfl, _, _, rfl, rfl, rfl⟩ := h2
  have := eqHead 9998 w ⟨⟨a⟩⟩ ⟨⟨b⟩⟩ ⟨⟨c⟩⟩ ⟨⟨e⟩⟩ ⟨⟨a'⟩⟩ ⟨⟨b'⟩⟩ ⟨⟨c'⟩⟩ ⟨⟨e'⟩⟩
  simpa only [ba_beq] using this
end Go.Proofs.YtipomdmlkkifcaaGreatDoor.Vm
/- Contracts: clavigerref31 and the program's header. -/
set_option maxRecDepth 100000
namespace Go.Proofs.YtipomdmlkkifcaaGreatDoor.Vm
open Go Go.Proofs Go.RowKit
variable {ml : Int}
def cut (s : List UInt8) (a n : Nat) : List UInt8 := (s.drop a).take n
theorem dtc (s : List UInt8) (a b : Nat) : (s.take b).drop a = cut s a (b - a) := by rw [cut, List.drop_take]
theorem cut_len (s : List UInt8) (a n : Nat) : (cut s a n).length = min n (s.length - a) := by simp [cut]
def undT (o : Option Nat) : T := .tup [.i .i64 ((o.getD 0 : Nat) : Int), .b o.isSome]
structure Hdr where
  n : Int
  l : List UInt8
  k : Int
  h : Hd
def Hdr.cells (x : Hdr) : List T := [.i .i64 x.n, .s x.l, .i .i64 x.k, .s x.h.u, .s x.h.m, .s x.h.v, .s x.h.e]
def Hdr.none : Hdr := ⟨0, [], 0, ⟨[], [], [], []⟩⟩
def hdFine (h : Hd) : Bool := decide (h.u.length ≤ 20 ∧ h.m.length ≤ 20 ∧ h.v.length ≤ 20 ∧ h.e.length ≤ 20)
theorem plainHead (h : Hd) : Ret P (C ml) 36 [.agg h.cells] (.b (hdFine h)) := by
  refine hR Tryz.func36 ?_
  rcases Bool.eq_false_or_eq_true (decide ((↑h.u.length : Int) ≤ 20)) with c1 | c1
  · have d1 := c1; (try simp at d1)
    rcases Bool.eq_false_or_eq_true (decide ((↑h.m.length : Int) ≤ 20)) with c2 | c2
    · have d2 := c2; (try simp at d2)
      rcases Bool.eq_false_or_eq_true (decide ((↑h.v.length : Int) ≤ 20)) with c3 | c3
      · have d3 := c3; (try simp at d3)
        refine gFs [.t, .t, .t] rfl (ret_of rfl ?_ trivial trivial)
        first | exact .inl (congrArg T.b (by rw [Bool.eq_iff_iff]; first | (simp [hdFine]; done) | (simp [hdFine]; omega) | (simp_all [hdFine]; done) | (simp_all [hdFine]; omega))) | exact .inr (congrArg T.bl (by rw [Bool.eq_iff_iff]; first | (simp [hdFine]; done) | (simp [hdFine]; omega) | (simp_all [hdFine]; done) | (simp_all [hdFine]; omega)))
      · have d3 := c3; (try simp at d3)
        refine gFs [.t, .t, .f] rfl (ret_of rfl ?_ trivial trivial)
        first | exact .inl (congrArg T.b (by rw [Bool.eq_iff_iff]; first | (simp [hdFine]; done) | (simp [hdFine]; omega) | (simp_all [hdFine]; done) | (simp_all [hdFine]; omega))) | exact .inr (congrArg T.bl (by rw [Bool.eq_iff_iff]; first | (simp [hdFine]; done) | (simp [hdFine]; omega) | (simp_all [hdFine]; done) | (simp_all [hdFine]; omega)))
    · have d2 := c2; (try simp at d2)
      refine gFs [.t, .f] rfl (ret_of rfl ?_ trivial trivial)
      first | exact .inl (congrArg T.b (by rw [Bool.eq_iff_iff]; first | (simp [hdFine]; done) | (simp [hdFine]; omega) | (simp_all [hdFine]; done) | (simp_all [hdFine]; omega))) | exact .inr (congrArg T.bl (by rw [Bool.eq_iff_iff]; first | (simp [hdFine]; done) | (simp [hdFine]; omega) | (simp_all [hdFine]; done) | (simp_all [hdFine]; omega)))
  · have d1 := c1; (try simp at d1)
    refine gFs [.f] rfl (ret_of rfl ?_ trivial trivial)
    first | exact .inl (congrArg T.b (by rw [Bool.eq_iff_iff]; first | (simp [hdFine]; done) | (simp [hdFine]; omega) | (simp_all [hdFine]; done) | (simp_all [hdFine]; omega))) | exact .inr (congrArg T.bl (by rw [Bool.eq_iff_iff]; first | (simp [hdFine]; done) | (simp [hdFine]; omega) | (simp_all [hdFine]; done) | (simp_all [hdFine]; omega)))
def hEnc (x : Hdr) : List UInt8 × Int :=
  if x.n < 0 ∨ 9999 < x.n ∨ x.k < 0 ∨ 99 < x.k ∨ kMost x.l = 0 then ([], 1) else if tChk x.h x.l = true then ([68] ++ decW x.n 4 ++ x.h.u ++ x.l ++ x.h.m ++ x.h.v ++ x.h.e ++ decW x.k 2 ++ [48, 48], 0) else ([], 12)
def hDec (s : List UInt8) : Hdr × Int :=
  if s.length < 16 ∨ bt s 0 ≠ 68 ∨ cut s 14 2 ≠ [48, 48] then (Hdr.none, 5) else match undecO (cut s 1 4), undecO (cut s 12 2) with
  | some n, some k => if kMost (cut s 7 1) = 0 then (Hdr.none, 5) else if tChk ⟨cut s 5 2, cut s 8 1, cut s 9 2, cut s 11 1⟩ (cut s 7 1) = true then (⟨n, cut s 7 1, k, ⟨cut s 5 2, cut s 8 1, cut s 9 2, cut s 11 1⟩⟩, 0) else (Hdr.none, 12)
  | _, _ => (Hdr.none, 5)
theorem decW_le (n w : Int) : (decW n w).length ≤ 18 := by
  by_cases h : decW n w = []
  · rw [h]; decide
  · exact (decW_back n w h).2.2.2
theorem rEncode (x : Hdr) (h1 : -9223372036854775808 ≤ x.n) (h2 : x.n ≤ 9223372036854775807) (h3 : -9223372036854775808 ≤ x.k) (h4 : x.k ≤ 9223372036854775807) (h5 : x.l.length ≤ 1000) (h6 : x.h.u.length ≤ 1000) (h7 : x.h.m.length ≤ 1000) (h8 : x.h.v.length ≤ 1000) (h9 : x.h.e.length ≤ 1000) :
    Ret P (C ml) 93 [.agg x.cells] (.tup [.s (hEnc x).1, .i .i64 (hEnc x).2]) := by
  refine hR Tryz.func93 ?_
  have k1 := rMost (ml := ml) x.l
  have k2 := rCheck (ml := ml) x.h x.l
  have k3 := dec02 (ml := ml) x.n 4 h1 h2
  have k4 := dec02 (ml := ml) x.k 2 h3 h4
  have l1 := decW_le x.n 4
  have l2 := decW_le x.k 2
  rcases Bool.eq_false_or_eq_true (decide (x.n < 0)) with c1 | c1
  · have d1 := c1; (try simp at d1)
    refine gFs [.t] rfl (ret_of rfl ?_ trivial trivial)
    first | (simp_all [tle, tleL, hEnc]; done) | ((have hc : ¬ (x.n < 0 ∨ 9999 < x.n ∨ x.k < 0 ∨ 99 < x.k ∨ kMost x.l = 0) := by omega); simp only [hEnc, if_neg hc]; simp_all [tle, tleL])
  · have d1 := c1; (try simp at d1)
    rcases Bool.eq_false_or_eq_true (decide (x.n > 9999)) with c2 | c2
    · have d2 := c2; (try simp at d2)
      refine gFs [.f, .t] rfl (ret_of rfl ?_ trivial trivial)
      first | (simp_all [tle, tleL, hEnc]; done) | ((have hc : ¬ (x.n < 0 ∨ 9999 < x.n ∨ x.k < 0 ∨ 99 < x.k ∨ kMost x.l = 0) := by omega); simp only [hEnc, if_neg hc]; simp_all [tle, tleL])
    · have d2 := c2; (try simp at d2)
      rcases Bool.eq_false_or_eq_true (decide (x.k < 0)) with c3 | c3
      · have d3 := c3; (try simp at d3)
        refine gFs [.f, .f, .t] rfl (ret_of rfl ?_ trivial trivial)
        first | (simp_all [tle, tleL, hEnc]; done) | ((have hc : ¬ (x.n < 0 ∨ 9999 < x.n ∨ x.k < 0 ∨ 99 < x.k ∨ kMost x.l = 0) := by omega); simp only [hEnc, if_neg hc]; simp_all [tle, tleL])
      · have d3 := c3; (try simp at d3)
        rcases Bool.eq_false_or_eq_true (decide (x.k > 99)) with c4 | c4
        · have d4 := c4; (try simp at d4)
          refine gFs [.f, .f, .f, .t] rfl (ret_of rfl ?_ trivial trivial)
          first | (simp_all [tle, tleL, hEnc]; done) | ((have hc : ¬ (x.n < 0 ∨ 9999 < x.n ∨ x.k < 0 ∨ 99 < x.k ∨ kMost x.l = 0) := by omega); simp only [hEnc, if_neg hc]; simp_all [tle, tleL])
        · have d4 := c4; (try simp at d4)
          rcases Bool.eq_false_or_eq_true (kMost x.l == 0) with c5 | c5
          · have d5 := c5; (try simp at d5)
            refine gFs [.f, .f, .f, .f, cc k1, .t] rfl (ret_of rfl ?_ trivial trivial)
            first | (simp_all [tle, tleL, hEnc]; done) | ((have hc : ¬ (x.n < 0 ∨ 9999 < x.n ∨ x.k < 0 ∨ 99 < x.k ∨ kMost x.l = 0) := by omega); simp only [hEnc, if_neg hc]; simp_all [tle, tleL])
          · have d5 := c5; (try simp at d5)
            rcases Bool.eq_false_or_eq_true ((if tChk x.h x.l = true then 0 else 12) != 0) with c6 | c6
            · have d6 := c6; (try simp at d6)
              refine gFs [.f, .f, .f, .f, cc k1, .f, cc k2, .t] rfl (ret_of rfl ?_ trivial trivial)
              first | (simp_all [tle, tleL, hEnc]; done) | ((have hc : ¬ (x.n < 0 ∨ 9999 < x.n ∨ x.k < 0 ∨ 99 < x.k ∨ kMost x.l = 0) := by omega); simp only [hEnc, if_neg hc]; simp_all [tle, tleL])
            · have d6 := c6; (try simp at d6)
              refine gFs [.f, .f, .f, .f, cc k1, .f, cc k2, .f, cc k3, cc k4] rfl (ret_of rfl ?_ trivial trivial)
              first | (simp_all [tle, tleL, hEnc]; done) | ((have hc : ¬ (x.n < 0 ∨ 9999 < x.n ∨ x.k < 0 ∨ 99 < x.k ∨ kMost x.l = 0) := by omega); simp only [hEnc, if_neg hc]; simp_all [tle, tleL])
theorem hDec_lt (s : List UInt8) (h : s.length < 16) : hDec s = (Hdr.none, 5) := by simp [hDec, h]
theorem hDec_ge (s : List UInt8) (h : ¬ s.length < 16) : hDec s = if bt s 0 ≠ 68 ∨ cut s 14 2 ≠ [48, 48] then (Hdr.none, (5 : Int)) else match undecO (cut s 1 4), undecO (cut s 12 2) with
  | some n, some k => if kMost (cut s 7 1) = 0 then (Hdr.none, 5) else if tChk ⟨cut s 5 2, cut s 8 1, cut s 9 2, cut s 11 1⟩ (cut s 7 1) = true then (⟨n, cut s 7 1, k, ⟨cut s 5 2, cut s 8 1, cut s 9 2, cut s 11 1⟩⟩, 0) else (Hdr.none, 12)
  | _, _ => (Hdr.none, 5) := by
  unfold hDec; simp only [h, false_or]
theorem rDecode (s : List UInt8) (hs : s.length ≤ 1000000) : Ret P (C ml) 74 [.s s] (.tup [.agg (hDec s).1.cells, .i .i64 (hDec s).2]) := by
  refine hR Tryz.func74 ?_
  have k1 : Ret P (C ml) 136 [.s ((s.take 5).drop 1)] (undT (undecO (cut s 1 4))) := by rw [← dtc s 1 5]; exact undec02 _ (by simp; omega)
  have k2 : Ret P (C ml) 136 [.s ((s.take 14).drop 12)] (undT (undecO (cut s 12 2))) := by rw [← dtc s 12 14]; exact undec02 _ (by simp; omega)
  have k3 := rMost (ml := ml) ((s.take 8).drop 7)
  have k4 := rCheck (ml := ml) ⟨(s.take 7).drop 5, (s.take 9).drop 8, (s.take 11).drop 9, (s.take 12).drop 11⟩ ((s.take 8).drop 7)
  cases hu1 : undecO (cut s 1 4) with
  | none =>
    rw [hu1] at k1
    rcases Bool.eq_false_or_eq_true (decide ((↑s.length : Int) < 16)) with c1 | c1
    · have d1 := c1; (try simp at d1)
      refine gFs [.t] rfl (ret_of rfl ?_ trivial trivial)
      (first | rw [hDec_lt s (by omega)] | rw [hDec_ge s (by omega)]); (simp only [dtc, Nat.reduceSub] at *); simp_all [tle, tleL, hDec, noRefL, noRef, both, Hdr.cells, Hdr.none]
    · have d1 := c1; (try simp at d1)
      rcases Bool.eq_false_or_eq_true (bt s 0 != 68) with c2 | c2
      · have d2 := c2; (try simp at d2)
        refine gFs [.f, .t] rfl (ret_of rfl ?_ trivial trivial)
        (first | rw [hDec_lt s (by omega)] | rw [hDec_ge s (by omega)]); (simp only [dtc, Nat.reduceSub] at *); simp_all [tle, tleL, hDec, noRefL, noRef, both, Hdr.cells, Hdr.none]
      · have d2 := c2; (try simp at d2)
        rcases Bool.eq_false_or_eq_true (!List.drop (Int.toNat 14) (List.take (Int.toNat 16) s) == [48, 48]) with c3 | c3
        · have d3 := c3; (try simp at d3)
          refine gFs [.f, .f, .t] rfl (ret_of rfl ?_ trivial trivial)
          (first | rw [hDec_lt s (by omega)] | rw [hDec_ge s (by omega)]); (simp only [dtc, Nat.reduceSub] at *); simp_all [tle, tleL, hDec, noRefL, noRef, both, Hdr.cells, Hdr.none]
        · have d3 := c3; (try simp at d3)
          refine gFs [.f, .f, .f, cc k1, cc k2, .t] rfl (ret_of rfl ?_ trivial trivial)
          (first | rw [hDec_lt s (by omega)] | rw [hDec_ge s (by omega)]); (simp only [dtc, Nat.reduceSub] at *); simp_all [tle, tleL, hDec, noRefL, noRef, both, Hdr.cells, Hdr.none]
  | some n =>
    rw [hu1] at k1
    cases hu2 : undecO (cut s 12 2) with
    | none =>
      rw [hu2] at k2
      rcases Bool.eq_false_or_eq_true (decide ((↑s.length : Int) < 16)) with c1 | c1
      · have d1 := c1; (try simp at d1)
        refine gFs [.t] rfl (ret_of rfl ?_ trivial trivial)
        (first | rw [hDec_lt s (by omega)] | rw [hDec_ge s (by omega)]); (simp only [dtc, Nat.reduceSub] at *); simp_all [tle, tleL, hDec, noRefL, noRef, both, Hdr.cells, Hdr.none]
      · have d1 := c1; (try simp at d1)
        rcases Bool.eq_false_or_eq_true (bt s 0 != 68) with c2 | c2
        · have d2 := c2; (try simp at d2)
          refine gFs [.f, .t] rfl (ret_of rfl ?_ trivial trivial)
          (first | rw [hDec_lt s (by omega)] | rw [hDec_ge s (by omega)]); (simp only [dtc, Nat.reduceSub] at *); simp_all [tle, tleL, hDec, noRefL, noRef, both, Hdr.cells, Hdr.none]
        · have d2 := c2; (try simp at d2)
          rcases Bool.eq_false_or_eq_true (!List.drop (Int.toNat 14) (List.take (Int.toNat 16) s) == [48, 48]) with c3 | c3
          · have d3 := c3; (try simp at d3)
            refine gFs [.f, .f, .t] rfl (ret_of rfl ?_ trivial trivial)
            (first | rw [hDec_lt s (by omega)] | rw [hDec_ge s (by omega)]); (simp only [dtc, Nat.reduceSub] at *); simp_all [tle, tleL, hDec, noRefL, noRef, both, Hdr.cells, Hdr.none]
          · have d3 := c3; (try simp at d3)
            refine gFs [.f, .f, .f, cc k1, cc k2, .f, .t] rfl (ret_of rfl ?_ trivial trivial)
            (first | rw [hDec_lt s (by omega)] | rw [hDec_ge s (by omega)]); (simp only [dtc, Nat.reduceSub] at *); simp_all [tle, tleL, hDec, noRefL, noRef, both, Hdr.cells, Hdr.none]
    | some k =>
      rw [hu2] at k2
      rcases Bool.eq_false_or_eq_true (decide ((↑s.length : Int) < 16)) with c1 | c1
      · have d1 := c1; (try simp at d1)
        refine gFs [.t] rfl (ret_of rfl ?_ trivial trivial)
        (first | rw [hDec_lt s (by omega)] | rw [hDec_ge s (by omega)]); (simp only [dtc, Nat.reduceSub] at *); simp_all [tle, tleL, hDec, noRefL, noRef, both, Hdr.cells, Hdr.none]
      · have d1 := c1; (try simp at d1)
        rcases Bool.eq_false_or_eq_true (bt s 0 != 68) with c2 | c2
        · have d2 := c2; (try simp at d2)
          refine gFs [.f, .t] rfl (ret_of rfl ?_ trivial trivial)
          (first | rw [hDec_lt s (by omega)] | rw [hDec_ge s (by omega)]); (simp only [dtc, Nat.reduceSub] at *); simp_all [tle, tleL, hDec, noRefL, noRef, both, Hdr.cells, Hdr.none]
        · have d2 := c2; (try simp at d2)
          rcases Bool.eq_false_or_eq_true (!List.drop (Int.toNat 14) (List.take (Int.toNat 16) s) == [48, 48]) with c3 | c3
          · have d3 := c3; (try simp at d3)
            refine gFs [.f, .f, .t] rfl (ret_of rfl ?_ trivial trivial)
            (first | rw [hDec_lt s (by omega)] | rw [hDec_ge s (by omega)]); (simp only [dtc, Nat.reduceSub] at *); simp_all [tle, tleL, hDec, noRefL, noRef, both, Hdr.cells, Hdr.none]
          · have d3 := c3; (try simp at d3)
            rcases Bool.eq_false_or_eq_true (kMost (List.drop 7 (List.take 8 s)) == 0) with c4 | c4
            · have d4 := c4; (try simp at d4)
              refine gFs [.f, .f, .f, cc k1, cc k2, .f, .f, cc k3, .t] rfl (ret_of rfl ?_ trivial trivial)
              (first | rw [hDec_lt s (by omega)] | rw [hDec_ge s (by omega)]); (simp only [dtc, Nat.reduceSub] at *); simp_all [tle, tleL, hDec, noRefL, noRef, both, Hdr.cells, Hdr.none]
            · have d4 := c4; (try simp at d4)
              rcases Bool.eq_false_or_eq_true ((if tChk { u := List.drop 5 (List.take 7 s), m := List.drop 8 (List.take 9 s), v := List.drop 9 (List.take 11 s), e := List.drop 11 (List.take 12 s) } (List.drop 7 (List.take 8 s)) = true then 0 else 12) != 0) with c5 | c5
              · have d5 := c5; (try simp at d5)
                refine gFs [.f, .f, .f, cc k1, cc k2, .f, .f, cc k3, .f, cc k4, .t] rfl (ret_of rfl ?_ trivial trivial)
                (first | rw [hDec_lt s (by omega)] | rw [hDec_ge s (by omega)]); (simp only [dtc, Nat.reduceSub] at *); simp_all [tle, tleL, hDec, noRefL, noRef, both, Hdr.cells, Hdr.none]
              · have d5 := c5; (try simp at d5)
                refine gFs [.f, .f, .f, cc k1, cc k2, .f, .f, cc k3, .f, cc k4, .f] rfl (ret_of rfl ?_ trivial trivial)
                (first | rw [hDec_lt s (by omega)] | rw [hDec_ge s (by omega)]); (simp only [dtc, Nat.reduceSub] at *); simp_all [tle, tleL, hDec, noRefL, noRef, both, Hdr.cells, Hdr.none]
theorem cNext (r : List UInt8) (n : Nat) (h : n ≤ r.length) (h2 : r.length ≤ 1000000) : HRet P (C ml) 198 [.p 19 0 0, .i .i64 n] [(19, 0, .row false (.cell 233) [.s r])] (.s (r.take n)) [(19, 0, .row false (.cell 233) [.s (r.drop n)])] := by
  refine hR Tryz.func198 ?_
  refine gFs [] rfl (ret_of rfl ?_ ?_ ?_)
  · simp [tle]
  · exact ⟨⟨rfl, rfl, ⟨by simp [tle], rfl⟩⟩, trivial⟩
  · exact ⟨rfl, trivial⟩
set_option maxHeartbeats 2000000 in
theorem pDecode (s : List UInt8) (hs : s.length ≤ 1000000) : Ret P (C ml) 126 [.s s] (.tup [.agg (hDec s).1.cells, .i .i64 (hDec s).2]) := by
  refine hR Tryz.func126 ?_
  by_cases c0 : s.length < 16
  · refine gFs [.t] rfl (ret_of rfl ?_ trivial trivial)
    simp_all [tle, tleL, hDec, noRefL, noRef, both, Hdr.cells, Hdr.none]
  · have n1 := cNext (ml := ml) (s.take 16) 1 (by simp; omega) (by simp; omega)
    have n2 := cNext (ml := ml) ((s.take 16).drop 1) 4 (by simp; omega) (by simp; omega)
    have n3 := cNext (ml := ml) (((s.take 16).drop 1).drop 4) 2 (by simp; omega) (by simp; omega)
    have n4 := cNext (ml := ml) ((((s.take 16).drop 1).drop 4).drop 2) 1 (by simp; omega) (by simp; omega)
    have n5 := cNext (ml := ml) (((((s.take 16).drop 1).drop 4).drop 2).drop 1) 1 (by simp; omega) (by simp; omega)
    have n6 := cNext (ml := ml) ((((((s.take 16).drop 1).drop 4).drop 2).drop 1).drop 1) 2 (by simp; omega) (by simp; omega)
    have n7 := cNext (ml := ml) (((((((s.take 16).drop 1).drop 4).drop 2).drop 1).drop 1).drop 2) 1 (by simp; omega) (by simp; omega)
    have n8 := cNext (ml := ml) ((((((((s.take 16).drop 1).drop 4).drop 2).drop 1).drop 1).drop 2).drop 1) 2 (by simp; omega) (by simp; omega)
    have e1 : ((s.take 16).drop 1).take 4 = cut s 1 4 := by simp [cut, List.drop_take, List.take_take]
    have e2 : ((((((((s.take 16).drop 1).drop 4).drop 2).drop 1).drop 1).drop 2).drop 1).take 2 = cut s 12 2 := by simp [cut, List.drop_take, List.take_take]
    have k1 : Ret P (C ml) 199 [.s (((s.take 16).drop 1).take 4)] (undT (undecO (cut s 1 4))) := by rw [← e1]; exact dUndec _ (by simp; omega)
    have k2 : Ret P (C ml) 199 [.s (((((((((s.take 16).drop 1).drop 4).drop 2).drop 1).drop 1).drop 2).drop 1).take 2)] (undT (undecO (cut s 12 2))) := by rw [← e2]; exact dUndec _ (by simp; omega)
    have e3 : ((((s.take 16).drop 1).drop 4).drop 2).take 1 = cut s 7 1 := by simp [cut, List.drop_take, List.take_take]
    have e4 : (((s.take 16).drop 1).drop 4).take 2 = cut s 5 2 := by simp [cut, List.drop_take, List.take_take]
    have e5 : (((((s.take 16).drop 1).drop 4).drop 2).drop 1).take 1 = cut s 8 1 := by simp [cut, List.drop_take, List.take_take]
    have e6 : ((((((s.take 16).drop 1).drop 4).drop 2).drop 1).drop 1).take 2 = cut s 9 2 := by simp [cut, List.drop_take, List.take_take]
    have e7 : (((((((s.take 16).drop 1).drop 4).drop 2).drop 1).drop 1).drop 2).take 1 = cut s 11 1 := by simp [cut, List.drop_take, List.take_take]
    have e8 : (((((((((s.take 16).drop 1).drop 4).drop 2).drop 1).drop 1).drop 2).drop 1).drop 2) = cut s 14 2 := by simp [cut, List.drop_take, List.take_take]
    have e0 : ((s.take 16).take 1 == [68]) = (bt s 0 == 68) := by
      match s, c0 with
      | c :: l, _ =>
        have : bt (c :: l) 0 = (c.toNat : Int) := rfl
        rw [this, Bool.eq_iff_iff]
        simp [← UInt8.toNat_inj]
        omega
      | [], h => simp at h
    have k3 : Ret P (C ml) 106 [.s (((((s.take 16).drop 1).drop 4).drop 2).take 1)] (.i .i64 (kMost (cut s 7 1))) := by rw [← e3]; exact pMost _
    have k4 : Ret P (C ml) 80 [.agg (Hd.cells ⟨(((s.take 16).drop 1).drop 4).take 2, (((((s.take 16).drop 1).drop 4).drop 2).drop 1).take 1, ((((((s.take 16).drop 1).drop 4).drop 2).drop 1).drop 1).take 2, (((((((s.take 16).drop 1).drop 4).drop 2).drop 1).drop 1).drop 2).take 1⟩), .s (((((s.take 16).drop 1).drop 4).drop 2).take 1)] (.i .i64 (if tChk ⟨cut s 5 2, cut s 8 1, cut s 9 2, cut s 11 1⟩ (cut s 7 1) then 0 else 12)) := by rw [← e3, ← e4, ← e5, ← e6, ← e7]; exact pCheck _ _
    cases hu1 : undecO (cut s 1 4) with
    | none =>
      rw [hu1] at k1
      rcases Bool.eq_false_or_eq_true (!List.take 1 (List.take 16 s) == [68]) with c1 | c1
      · have d1 := c1; (try simp at d1)
        refine gFs [.f, ch n1, ch n2, cc k1, ch n3, ch n4, ch n5, ch n6, ch n7, ch n8, cc k2, .t] rfl (ret_of rfl ?_ trivial trivial)
        (rw [hDec_ge s c0]); (try rw [e0] at c1); (try rw [e8] at c2); (try simp at c1); (try simp at c2); clear n1 n2 n3 n4 n5 n6 n7 n8 k1 k2 k3 k4 d1; (try clear d2); simp_all [tle, tleL, noRefL, noRef, both, Hdr.cells, Hdr.none, Hd.cells]
      · have d1 := c1; (try simp at d1)
        refine gFs [.f, ch n1, ch n2, cc k1, ch n3, ch n4, ch n5, ch n6, ch n7, ch n8, cc k2, .f, .t] rfl (ret_of rfl ?_ trivial trivial)
        (rw [hDec_ge s c0]); (try rw [e0] at c1); (try rw [e8] at c2); (try simp at c1); (try simp at c2); clear n1 n2 n3 n4 n5 n6 n7 n8 k1 k2 k3 k4 d1; (try clear d2); simp_all [tle, tleL, noRefL, noRef, both, Hdr.cells, Hdr.none, Hd.cells]
    | some n =>
      rw [hu1] at k1
      cases hu2 : undecO (cut s 12 2) with
      | none =>
        rw [hu2] at k2
        rcases Bool.eq_false_or_eq_true (!List.take 1 (List.take 16 s) == [68]) with c1 | c1
        · have d1 := c1; (try simp at d1)
          refine gFs [.f, ch n1, ch n2, cc k1, ch n3, ch n4, ch n5, ch n6, ch n7, ch n8, cc k2, .t] rfl (ret_of rfl ?_ trivial trivial)
          (rw [hDec_ge s c0]); (try rw [e0] at c1); (try rw [e8] at c2); (try simp at c1); (try simp at c2); clear n1 n2 n3 n4 n5 n6 n7 n8 k1 k2 k3 k4 d1; (try clear d2); simp_all [tle, tleL, noRefL, noRef, both, Hdr.cells, Hdr.none, Hd.cells]
        · have d1 := c1; (try simp at d1)
          refine gFs [.f, ch n1, ch n2, cc k1, ch n3, ch n4, ch n5, ch n6, ch n7, ch n8, cc k2, .f, .f, .t] rfl (ret_of rfl ?_ trivial trivial)
          (rw [hDec_ge s c0]); (try rw [e0] at c1); (try rw [e8] at c2); (try simp at c1); (try simp at c2); clear n1 n2 n3 n4 n5 n6 n7 n8 k1 k2 k3 k4 d1; (try clear d2); simp_all [tle, tleL, noRefL, noRef, both, Hdr.cells, Hdr.none, Hd.cells]
      | some k =>
        rw [hu2] at k2
        rcases Bool.eq_false_or_eq_true (!List.take 1 (List.take 16 s) == [68]) with c1 | c1
        · have d1 := c1; (try simp at d1)
          refine gFs [.f, ch n1, ch n2, cc k1, ch n3, ch n4, ch n5, ch n6, ch n7, ch n8, cc k2, .t] rfl (ret_of rfl ?_ trivial trivial)
          (rw [hDec_ge s c0]); (try rw [e0] at c1); (try rw [e8] at c2); (try simp at c1); (try simp at c2); clear n1 n2 n3 n4 n5 n6 n7 n8 k1 k2 k3 k4 d1; (try clear d2); simp_all [tle, tleL, noRefL, noRef, both, Hdr.cells, Hdr.none, Hd.cells]
        · have d1 := c1; (try simp at d1)
          rcases Bool.eq_false_or_eq_true (!List.drop 2 (List.drop 1 (List.drop 2 (List.drop 1 (List.drop 1 (List.drop 2 (List.drop 4 (List.drop 1 (List.take 16 s)))))))) == [48, 48]) with c2 | c2
          · have d2 := c2; (try simp at d2)
            refine gFs [.f, ch n1, ch n2, cc k1, ch n3, ch n4, ch n5, ch n6, ch n7, ch n8, cc k2, .f, .f, .f, .t] rfl (ret_of rfl ?_ trivial trivial)
            (rw [hDec_ge s c0]); (try rw [e0] at c1); (try rw [e8] at c2); (try simp at c1); (try simp at c2); clear n1 n2 n3 n4 n5 n6 n7 n8 k1 k2 k3 k4 d1; (try clear d2); simp_all [tle, tleL, noRefL, noRef, both, Hdr.cells, Hdr.none, Hd.cells]
          · have d2 := c2; (try simp at d2)
            rcases Bool.eq_false_or_eq_true (kMost (cut s 7 1) == 0) with c3 | c3
            · have d3 := c3; (try simp at d3)
              refine gFs [.f, ch n1, ch n2, cc k1, ch n3, ch n4, ch n5, ch n6, ch n7, ch n8, cc k2, .f, .f, .f, .f, cc k3, .t] rfl (ret_of rfl ?_ trivial trivial)
              (rw [hDec_ge s c0]); (try rw [e0] at c1); (try rw [e8] at c2); (try simp at c1); (try simp at c2); clear n1 n2 n3 n4 n5 n6 n7 n8 k1 k2 k3 k4 d1; (try clear d2); simp_all [tle, tleL, noRefL, noRef, both, Hdr.cells, Hdr.none, Hd.cells]
            · have d3 := c3; (try simp at d3)
              rcases Bool.eq_false_or_eq_true ((if tChk { u := cut s 5 2, m := cut s 8 1, v := cut s 9 2, e := cut s 11 1 } (cut s 7 1) = true then 0 else 12) != 0) with c4 | c4
              · have d4 := c4; (try simp at d4)
                refine gFs [.f, ch n1, ch n2, cc k1, ch n3, ch n4, ch n5, ch n6, ch n7, ch n8, cc k2, .f, .f, .f, .f, cc k3, .f, cc k4, .t] rfl (ret_of rfl ?_ trivial trivial)
                (rw [hDec_ge s c0]); (try rw [e0] at c1); (try rw [e8] at c2); (try simp at c1); (try simp at c2); clear n1 n2 n3 n4 n5 n6 n7 n8 k1 k2 k3 k4 d1; (try clear d2); simp_all [tle, tleL, noRefL, noRef, both, Hdr.cells, Hdr.none, Hd.cells]
              · have d4 := c4; (try simp at d4)
                refine gFs [.f, ch n1, ch n2, cc k1, ch n3, ch n4, ch n5, ch n6, ch n7, ch n8, cc k2, .f, .f, .f, .f, cc k3, .f, cc k4, .f] rfl (ret_of rfl ?_ trivial trivial)
                (rw [hDec_ge s c0]); (try rw [e0] at c1); (try rw [e8] at c2); (try simp at c1); (try simp at c2); clear n1 n2 n3 n4 n5 n6 n7 n8 k1 k2 k3 k4 d1; (try clear d2); simp_all [tle, tleL, noRefL, noRef, both, Hdr.cells, Hdr.none, Hd.cells]
end Go.Proofs.YtipomdmlkkifcaaGreatDoor.Vm
/- Contracts: header.Encode; the laws of layer 31. -/
set_option maxRecDepth 100000
namespace Go.Proofs.YtipomdmlkkifcaaGreatDoor.Vm
open Go Go.Proofs Go.RowKit
variable {ml : Int}
theorem getD_at {α : Type} (l : List α) (i : Nat) (h : i < l.length) (d : α) : l.getD i d = l[i]'h := by simp [h]
theorem decDigits_le : ∀ (w n : Nat), (Lib.decDigits n).length ≤ w + 1 ↔ n < 10 ^ (w + 1)
  | 0, n => by
    by_cases h : n < 10
    · rw [decDigits_one n h]; simp [h]
    · rw [decDigits_snoc n (by omega), List.length_append]
      have := decDigits_head (n / 10)
      obtain ⟨c, l, e, _⟩ := this
      rw [e]; simp; omega
  | w + 1, n => by
    by_cases h : n < 10
    · rw [decDigits_one n h]
      have : 10 ^ 1 ≤ 10 ^ (w + 1 + 1) := Nat.pow_le_pow_right (by omega) (by omega)
      simp; omega
    · rw [decDigits_snoc n (by omega), List.length_append]
      have := decDigits_le w (n / 10)
      simp only [List.length_cons, List.length_nil]
      have e : 10 ^ (w + 1 + 1) = 10 ^ (w + 1) * 10 := by rw [Nat.pow_succ]
      omega
theorem decW_empty (n w : Int) (v : Nat) (hw : w = (v + 1 : Nat)) (hv : v + 1 ≤ 18) : decW n w = [] ↔ (n < 0 ∨ (10 : Int) ^ (v + 1) ≤ n) := by
  unfold decW
  by_cases h0 : n < 0
  · simp [h0]
  · obtain ⟨N, rfl⟩ : ∃ N : Nat, n = N := ⟨n.toNat, by omega⟩
    have := decDigits_le v N
    have e : ((10 ^ (v + 1) : Nat) : Int) = (10 : Int) ^ (v + 1) := by simp
    rw [if_neg (by omega)]
    rw [← e]
    obtain ⟨c, l, e1, _⟩ := decDigits_head N
    rw [Int.toNat_natCast]
    by_cases h1 : w < (Lib.decDigits N).length
    · rw [if_pos h1]; simp only [true_iff]; omega
    · rw [if_neg h1]
      rw [e1] at h1 this ⊢
      simp only [List.append_eq_nil_iff, reduceCtorEq, and_false, false_iff]
      omega
theorem decW4 (n : Int) : decW n 4 = [] ↔ (n < 0 ∨ 9999 < n) := by
  rw [decW_empty n 4 3 rfl (by omega)]; omega
theorem decW2 (n : Int) : decW n 2 = [] ↔ (n < 0 ∨ 99 < n) := by
  rw [decW_empty n 2 1 rfl (by omega)]; omega
def hParts (x : Hdr) : List (List UInt8) := [[68], decW x.n 4, x.h.u, x.l, x.h.m, x.h.v, x.h.e, decW x.k 2, [48, 48]]
def accP (l : List (List UInt8)) (i : Nat) : List UInt8 := (l.take i).flatten
theorem accP_succ (l : List (List UInt8)) (i : Nat) (h : i < l.length) : accP l (i + 1) = accP l i ++ l.getD i [] := by
  unfold accP
  rw [List.take_succ_eq_append_getElem h, List.flatten_append]
  simp [h]
theorem accP_len (l : List (List UInt8)) (B : Nat) (h : ∀ p ∈ l, p.length ≤ B) (i : Nat) : (accP l i).length ≤ B * i := by
  induction i with
  | zero => simp [accP]
  | succ i ih =>
    by_cases hi : i < l.length
    · rw [accP_succ l i hi, List.length_append]
      have : (l.getD i []).length ≤ B := by
        rw [show l.getD i [] = l[i] from by simp [hi]]
        exact h _ (List.getElem_mem hi)
      rw [Nat.mul_add]; omega
    · have : accP l (i + 1) = accP l i := by
        unfold accP
        rw [List.take_of_length_le (by omega), List.take_of_length_le (by omega)]
      rw [this, Nat.mul_add]; omega
/-- The heap of a loop that writes parts onto a builder. -/
def bHeap (b : Nat) (rest : Heap) (l : List (List UInt8)) : Nat → Heap
  | 0 => (b, oB 0 [.np, .nsl]) :: rest
  | i + 1 => (b, oB 0 [.p b 0 0, .ref 1000 0 0 (accP l (i + 1)).length]) :: (1000, oR 0 (accP l (i + 1))) :: rest
theorem pEncode (x : Hdr) (h1 : -9223372036854775808 ≤ x.n) (h2 : x.n ≤ 9223372036854775807) (h3 : -9223372036854775808 ≤ x.k) (h4 : x.k ≤ 9223372036854775807) (h5 : x.l.length ≤ 1000) (h6 : x.h.u.length ≤ 1000) (h7 : x.h.m.length ≤ 1000) (h8 : x.h.v.length ≤ 1000) (h9 : x.h.e.length ≤ 1000) :
    Ret P (C ml) 147 [.agg x.cells] (.tup [.s (hEnc x).1, .i .i64 (hEnc x).2]) := by
  refine hR Tryz.func147 ?_
  have k1 := pMost (ml := ml) x.l
  have k2 := pCheck (ml := ml) x.h x.l
  have k3 := dDec (ml := ml) x.n 4 h1 h2
  have k4 := dDec (ml := ml) x.k 2 h3 h4
  have l1 := decW_le x.n 4
  have l2 := decW_le x.k 2
  rcases Bool.eq_false_or_eq_true (decW x.n 4 == []) with c1 | c1
  · have d1 := c1; (try simp at d1)
    refine gFs [cc k3, cc k4, .t] rfl (ret_of rfl ?_ trivial trivial)
    rw [hEnc, if_pos (by have := (decW4 x.n).1 d1; omega)]; ((repeat' first | rfl | exact True.intro | apply And.intro); all_goals (simp [tle, look]; try omega))
  · have d1 := c1; (try simp at d1)
    have a1 : ¬ (x.n < 0 ∨ 9999 < x.n) := fun h => d1 ((decW4 x.n).2 h)
    rcases Bool.eq_false_or_eq_true (decW x.k 2 == []) with c2 | c2
    · have d2 := c2; (try simp at d2)
      refine gFs [cc k3, cc k4, .f, .t] rfl (ret_of rfl ?_ trivial trivial)
      rw [hEnc, if_pos (by have := (decW2 x.k).1 d2; omega)]; ((repeat' first | rfl | exact True.intro | apply And.intro); all_goals (simp [tle, look]; try omega))
    · have d2 := c2; (try simp at d2)
      have a2 : ¬ (x.k < 0 ∨ 99 < x.k) := fun h => d2 ((decW2 x.k).2 h)
      rcases Bool.eq_false_or_eq_true (kMost x.l == 0) with c3 | c3
      · have d3 := c3; (try simp at d3)
        refine gFs [cc k3, cc k4, .f, .f, cc k1, .t] rfl (ret_of rfl ?_ trivial trivial)
        rw [hEnc, if_pos (by omega)]; ((repeat' first | rfl | exact True.intro | apply And.intro); all_goals (simp [tle, look]; try omega))
      · have d3 := c3; (try simp at d3)
        rw [hEnc, if_neg (by omega)]
        rcases Bool.eq_false_or_eq_true (tChk x.h x.l) with c4 | c4
        · rw [c4] at k2; simp only [if_true] at k2
          rw [if_pos c4]
          refine gRs [cc k3, cc k4, .f, .f, cc k1, .f, cc k2, .f] rfl ?_
          have hlen : ∀ p ∈ hParts x, p.length ≤ 1000 := by
            intro p hp
            simp only [hParts, List.mem_cons, List.not_mem_nil, or_false] at hp
            rcases hp with rfl | rfl | rfl | rfl | rfl | rfl | rfl | rfl | rfl <;> first | omega | decide
          have hp9 : (hParts x).length = 9 := rfl
          refine g_loop (fun i : Nat => [(7, .p 7 0 0), (52, .ref 52 0 0 9), (53, .i .i64 9), (54, .i .i64 i)]) (fun i => bHeap 7 [(52, 0, .row true 1 ((hParts x).map .s))] (hParts x) i) (fun i => i ≤ 9) (fun i => 9 - i) 0 ⟨?_, ?_, ?_⟩ (by omega) ?_
          · ((repeat' first | rfl | exact True.intro | apply And.intro); all_goals (simp [tle, look]; try omega))
          · ((repeat' first | rfl | exact True.intro | apply And.intro); all_goals (simp [tle, look]; try omega))
          · ((repeat' first | rfl | exact True.intro | apply And.intro); all_goals (simp [tle, look]; try omega))
          intro i hi
          by_cases hi9 : i < 9
          · match i, hi9, hi with
            | 0, _, _ =>
              have w0 : HRet P (C ml) 71 [.p 7 0 0, .s [68]] [(7, oB 0 [.np, .nsl])] (.tup [.i .i64 1, .nif]) [(7, oB 0 [.p 7 0 0, .ref 1000 0 0 1]), (1000, oR 0 [68])] := wsFresh 7 1000 (by decide) (by decide) [68] (by decide) (by decide)
              refine gFs [.t, .a, ch w0] rfl (rd_next 1 (by omega) (by omega) ?_ ?_ ?_)
              · ((repeat' first | rfl | exact True.intro | apply And.intro); all_goals (simp [tle, look]; try omega))
              · ((repeat' first | rfl | exact True.intro | apply And.intro); all_goals (simp [tle, look]; try omega))
              · ((repeat' first | rfl | exact True.intro | apply And.intro); all_goals (simp [tle, look]; try omega))
            | j + 1, hj, _ =>
              have hr : ((hParts x).map T.s)[0 + ((j + 1 : Nat) : Int).toNat * (tin (C ml) 9).size]? = some (.s ((hParts x).getD (j + 1) [])) := by
                show ((hParts x).map T.s)[0 + (j + 1) * 1]? = _
                rw [Nat.mul_one, Nat.zero_add, List.getElem?_map, List.getElem?_eq_getElem (show j + 1 < (hParts x).length from hj)]
                simp [show j + 1 < (hParts x).length from hj]; try rfl
              have e := accP_succ (hParts x) (j + 1) hj
              have b1 := accP_len (hParts x) 1000 hlen (j + 1)
              have b2 : ((hParts x).getD (j + 1) []).length ≤ 1000 := by
                rw [getD_at _ _ (show j + 1 < (hParts x).length from hj)]
                exact hlen _ (List.getElem_mem hj)
              have w1 : HRet P (C ml) 71 [.p 7 0 0, .s ((hParts x).getD (j + 1) [])] [(7, oB 0 [.p 7 0 0, .ref 1000 0 0 (accP (hParts x) (j + 1)).length]), (1000, oR 0 (accP (hParts x) (j + 1)))] (.tup [.i .i64 ((hParts x).getD (j + 1) []).length, .nif])
                  [(7, oB 0 [.p 7 0 0, .ref 1000 1 0 ((accP (hParts x) (j + 1)).length + ((hParts x).getD (j + 1) []).length)]), (1000, oR 1 (accP (hParts x) (j + 1) ++ (hParts x).getD (j + 1) []))] := wsUsed 7 1000 (by decide) (by decide) (accP (hParts x) (j + 1)) ((hParts x).getD (j + 1) []) (by omega) (by omega)
              refine gFs [.t, ld1 hr, ch w1] rfl (rd_next (j + 2) (by omega) (by omega) ?_ ?_ ?_)
              · ((repeat' first | rfl | exact True.intro | apply And.intro); all_goals (simp [tle, look]; try omega))
              · simp only [bHeap, e, List.length_append]; ((repeat' first | rfl | exact True.intro | apply And.intro); all_goals (simp [tle, look]; try omega))
              · ((repeat' first | rfl | exact True.intro | apply And.intro); all_goals (simp [tle, look]; try omega))
          · obtain rfl : i = 9 := by omega
            have b1 := accP_len (hParts x) 1000 hlen 9
            have s1 : HRet P (C ml) 72 [.p 7 0 0] [(7, oB 0 [.p 7 0 0, .ref 1000 0 0 (accP (hParts x) 9).length]), (1000, oR 0 (accP (hParts x) 9))] (.s (accP (hParts x) 9)) [(7, 0, .dead), (1000, 0, .dead)] := bsUsed 7 1000 (by decide) (by decide) (accP (hParts x) 9) (by simp [accP, hParts]) (by omega)
            refine gFs [.f] rfl (rd_exit rfl ?_)
            refine gFs [ch s1] rfl (ret_of rfl ?_ trivial trivial)
            simp [tle, tleL, accP, hParts]
        · rw [c4] at k2; simp only [Bool.false_eq_true, if_false] at k2
          rw [if_neg (by rw [c4]; simp)]
          refine gFs [cc k3, cc k4, .f, .f, cc k1, .f, cc k2, .t] rfl (ret_of rfl ?_ trivial trivial)
          ((repeat' first | rfl | exact True.intro | apply And.intro); all_goals (simp [tle, look]; try omega))
end Go.Proofs.YtipomdmlkkifcaaGreatDoor.Vm
/- Contracts: the laws of layer 31. -/
set_option maxRecDepth 100000
namespace Go.Proofs.YtipomdmlkkifcaaGreatDoor.Vm
open Go Go.Proofs Go.RowKit
variable {ml : Int}
theorem decW_snoc (m : Nat) (w : Nat) (c : UInt8) (d : Nat) (hd : d < 10) (hc : c = UInt8.ofNat (48 + d)) (hw : 1 ≤ w) (hw2 : w + 1 ≤ 18) (h : decW m w ≠ []) : decW (10 * m + d : Nat) (w + 1 : Nat) = decW m w ++ [c] := by
  subst hc
  have hl : ¬ ((w : Int) < (Lib.decDigits m).length) := fun hx => by
    apply h; unfold decW
    by_cases h0 : (m : Int) < 0 ∨ (w : Int) < 1 ∨ 18 < (w : Int)
    · rw [if_pos h0]
    · rw [if_neg h0, if_pos (by simpa using hx)]
  have e1 : decW m w = List.replicate (w - (Lib.decDigits m).length) 48 ++ Lib.decDigits m := by
    unfold decW
    rw [if_neg (by omega), Int.toNat_natCast, if_neg hl, Int.toNat_natCast]
  by_cases h10 : 10 * m + d < 10
  · have hm : m = 0 := by omega
    subst hm
    have e0 : Lib.decDigits 0 = [48] := decDigits_one 0 (by omega)
    rw [e1, e0]
    unfold decW
    rw [if_neg (by omega), Int.toNat_natCast, decDigits_one _ h10, if_neg (by simp; omega), Int.toNat_natCast]
    simp only [List.length_cons, List.length_nil, Nat.mul_zero, Nat.zero_add, Nat.add_sub_cancel]
    rw [show w = (w - 1) + 1 from by omega, List.replicate_succ', List.append_assoc]
    simp
  · have e2 : Lib.decDigits (10 * m + d) = Lib.decDigits m ++ [UInt8.ofNat (48 + d)] := by
      rw [decDigits_snoc _ (by omega), show (10 * m + d) / 10 = m from by omega, show (10 * m + d) % 10 = d from by omega]
    rw [e1]
    unfold decW
    rw [if_neg (by omega), Int.toNat_natCast, e2, List.length_append, if_neg (by simp; omega), Int.toNat_natCast]
    simp only [List.length_cons, List.length_nil, Nat.zero_add]
    rw [show w + 1 - ((Lib.decDigits m).length + 1) = w - (Lib.decDigits m).length from by omega, List.append_assoc]
theorem hexv_byte (c : UInt8) (h : ¬ (hexv c.toNat < 0 ∨ 9 < hexv c.toNat)) : ∃ d : Nat, d < 10 ∧ hexv c.toNat = d ∧ c = UInt8.ofNat (48 + d) := by
  have : ∀ k : Fin 256, ¬ (hexv ((UInt8.ofNat k).toNat : Int) < 0 ∨ 9 < hexv ((UInt8.ofNat k).toNat : Int)) → UInt8.ofNat k = UInt8.ofNat (48 + (hexv ((UInt8.ofNat k).toNat : Int)).toNat) := by decide +kernel
  have k := this ⟨c.toNat, UInt8.toNat_lt c⟩
  simp only [UInt8.ofNat_toNat] at k
  exact ⟨(hexv c.toNat).toNat, by omega, by omega, k h⟩
theorem undec_dec (w : Nat) : ∀ (t : List UInt8) (n : Nat), t.length = w + 1 → w + 1 ≤ 18 → decVal t 0 = some n → decW n (w + 1 : Nat) = t := by
  induction w with
  | zero =>
    intro t n hl _ hv
    match t, hl with
    | [c], _ =>
      rw [decVal] at hv
      split at hv
      · cases hv
      · rename_i h
        obtain ⟨d, h1, h2, h3⟩ := hexv_byte c h
        simp only [decVal, Option.some.injEq, h2] at hv
        have : n = d := by omega
        subst this
        subst h3
        unfold decW
        rw [if_neg (by omega), Int.toNat_natCast, decDigits_one _ h1, if_neg (by simp)]
        simp
  | succ w ih =>
    intro t n hl hw hv
    have hne : t ≠ [] := fun e => by rw [e] at hl; simp at hl
    obtain ⟨t', c, rfl⟩ : ∃ t' c, t = t' ++ [c] := ⟨t.dropLast, t.getLast hne, (List.dropLast_concat_getLast hne).symm⟩
    rw [List.length_append] at hl
    simp only [List.length_cons, List.length_nil] at hl
    rw [decVal_append] at hv
    cases hm : decVal t' 0 with
    | none => rw [hm] at hv; cases hv
    | some m =>
      rw [hm] at hv
      simp only [Option.bind_some, decVal] at hv
      split at hv
      · cases hv
      · rename_i h
        obtain ⟨d, h1, h2, h3⟩ := hexv_byte c h
        simp only [Option.some.injEq, h2] at hv
        have e := ih t' m (by omega) (by omega) hm
        have hn : n = 10 * m + d := by omega
        rw [hn, decW_snoc m (w + 1) c d h1 h3 (by omega) (by omega) (by rw [e]; intro x; rw [x] at hl; simp at hl), e]
theorem tIn_one {a b : List UInt8} (h : tIn a b = true) : ∃ c, a = [c] := by
  simp only [tIn, Bool.and_eq_true, decide_eq_true_eq] at h
  exact List.length_eq_one_iff.1 h.1
theorem tOwn_two {u : List UInt8} (h : tOwn u = true) : u.length = 2 := by
  simp only [tOwn, decide_eq_true_eq] at h; exact h.1
theorem tOf_two {u l : List UInt8} (h : tIn l (tOf u).2.1 = true) : u.length = 2 := by
  unfold tOf at h
  split at h
  · rename_i x hx
    have h1 := List.mem_of_find?_eq_some hx
    have h2 := List.find?_some hx
    simp only [beq_iff_eq] at h2
    subst h2
    simp only [tLines, List.mem_cons, List.not_mem_nil, or_false] at h1
    rcases h1 with rfl | rfl | rfl | rfl | rfl | rfl | rfl | rfl | rfl | rfl <;> rfl
  · split at h
    · exact tOwn_two (by assumption)
    · simp [tIn] at h
theorem tVer_two {v : List UInt8} (h : tVer v = true) : v.length = 2 := by
  simp only [tVer, Bool.or_eq_true, beq_iff_eq, decide_eq_true_eq] at h
  rcases h with (h | h) | h
  · subst h; rfl
  · exact tOwn_two h
  · exact h.1
theorem two_of {l : List UInt8} (h : l.length = 2) : ∃ a b, l = [a, b] := by
  match l, h with
  | [a, b], _ => exact ⟨a, b, rfl⟩
theorem four_of {l : List UInt8} (h : l.length = 4) : ∃ a b c d, l = [a, b, c, d] := by
  match l, h with
  | [a, b, c, d], _ => exact ⟨a, b, c, d, rfl⟩
theorem tChk_parts {h : Hd} {l : List UInt8} (hc : tChk h l = true) : (∃ a b, h.u = [a, b]) ∧ (∃ c, h.m = [c]) ∧ (∃ a b, h.v = [a, b]) ∧ (∃ c, h.e = [c]) ∧ ∃ c, l = [c] := by
  simp only [tChk, Bool.and_eq_true] at hc
  obtain ⟨⟨⟨h1, h2⟩, h3⟩, h4⟩ := hc
  exact ⟨two_of (tOf_two h1), tIn_one h2, two_of (tVer_two h3), tIn_one h4, tIn_one h1⟩
theorem enc_dec (x : Hdr) (rest : List UInt8) (h : (hEnc x).2 = 0) : (hEnc x).1.length = 16 ∧ hDec ((hEnc x).1 ++ rest) = (x, 0) := by
  by_cases c1 : x.n < 0 ∨ 9999 < x.n ∨ x.k < 0 ∨ 99 < x.k ∨ kMost x.l = 0
  · rw [hEnc, if_pos c1] at h; exact absurd h (by simp)
  · by_cases c2 : tChk x.h x.l = true
    · rw [hEnc, if_neg c1, if_pos c2]
      obtain ⟨⟨u0, u1, hu⟩, ⟨m0, hm⟩, ⟨v0, v1, hv⟩, ⟨e0, he⟩, ⟨l0, hl⟩⟩ := tChk_parts c2
      have n1 : decW x.n 4 ≠ [] := fun e => by have := (decW4 x.n).1 e; omega
      have n2 : decW x.k 2 ≠ [] := fun e => by have := (decW2 x.k).1 e; omega
      obtain ⟨a1, a2, a3, _⟩ := decW_back _ _ n1
      obtain ⟨b1, b2, b3, _⟩ := decW_back _ _ n2
      obtain ⟨p, q, r, s, e1⟩ := four_of (show (decW x.n 4).length = 4 by omega)
      obtain ⟨y, z, e2⟩ := two_of (show (decW x.k 2).length = 2 by omega)
      rw [e1] at a2; rw [e2] at b2
      obtain ⟨n, l, k, ⟨u, m, v, e⟩⟩ := x
      simp only at hu hm hv he hl e1 e2 a1 b1 a2 b2 c1 c2 ⊢
      subst hu; subst hm; subst hv; subst he; subst hl
      rw [e1, e2]
      refine ⟨rfl, ?_⟩
      have f1 : bt ([68, p, q, r, s, u0, u1, l0, m0, v0, v1, e0, y, z, 48, 48] ++ rest) 0 = 68 := rfl
      show hDec ([68, p, q, r, s, u0, u1, l0, m0, v0, v1, e0, y, z, 48, 48] ++ rest) = _
      rw [hDec_ge _ (by simp), if_neg (by rw [f1]; simp [cut])]
      have g1 : cut ([68, p, q, r, s, u0, u1, l0, m0, v0, v1, e0, y, z, 48, 48] ++ rest) 1 4 = [p, q, r, s] := rfl
      have g2 : cut ([68, p, q, r, s, u0, u1, l0, m0, v0, v1, e0, y, z, 48, 48] ++ rest) 12 2 = [y, z] := rfl
      have g3 : cut ([68, p, q, r, s, u0, u1, l0, m0, v0, v1, e0, y, z, 48, 48] ++ rest) 7 1 = [l0] := rfl
      have g4 : cut ([68, p, q, r, s, u0, u1, l0, m0, v0, v1, e0, y, z, 48, 48] ++ rest) 5 2 = [u0, u1] := rfl
      have g5 : cut ([68, p, q, r, s, u0, u1, l0, m0, v0, v1, e0, y, z, 48, 48] ++ rest) 8 1 = [m0] := rfl
      have g6 : cut ([68, p, q, r, s, u0, u1, l0, m0, v0, v1, e0, y, z, 48, 48] ++ rest) 9 2 = [v0, v1] := rfl
      have g7 : cut ([68, p, q, r, s, u0, u1, l0, m0, v0, v1, e0, y, z, 48, 48] ++ rest) 11 1 = [e0] := rfl
      rw [g1, g2, g3, g4, g5, g6, g7, a2, b2]
      simp only
      rw [if_neg (by omega), if_pos c2]
      simp only [Int.toNat_of_nonneg a1, Int.toNat_of_nonneg b1]
    · rw [hEnc, if_neg c1, if_neg c2] at h; exact absurd h (by simp)
theorem cut_app (s : List UInt8) (a m n : Nat) : cut s a m ++ cut s (a + m) n = cut s a (m + n) := by
  unfold cut; rw [List.take_add, List.drop_drop]
theorem undecO_back {t : List UInt8} {n w : Nat} (h : undecO t = some n) (hl : t.length = w + 1) (hw : w + 1 ≤ 18) : decW n (w + 1 : Nat) = t := by
  unfold undecO at h
  split at h
  · cases h
  · exact undec_dec w t n hl hw h
theorem dec_enc (s : List UInt8) (h : (hDec s).2 = 0) : hEnc (hDec s).1 = (s.take 16, 0) ∧ 0 ≤ (hDec s).1.n ∧ (hDec s).1.n ≤ 9999 ∧ 0 ≤ (hDec s).1.k ∧ (hDec s).1.k ≤ 99 ∧ (hDec s).1.l.length ≤ 20 ∧ hdFine (hDec s).1.h = true := by
  by_cases c0 : s.length < 16
  · rw [hDec_lt s c0] at h; exact absurd h (by simp)
  rw [hDec_ge s c0] at h ⊢
  by_cases c1 : bt s 0 ≠ 68 ∨ cut s 14 2 ≠ [48, 48]
  · rw [if_pos c1] at h; exact absurd h (by simp)
  rw [if_neg c1] at h ⊢
  cases e1 : undecO (cut s 1 4) with
  | none => rw [e1] at h; exact absurd h (by simp)
  | some n =>
    cases e2 : undecO (cut s 12 2) with
    | none => rw [e1, e2] at h; exact absurd h (by simp)
    | some k =>
      rw [e1, e2] at h
      simp only at h ⊢
      by_cases c2 : kMost (cut s 7 1) = 0
      · rw [if_pos c2] at h; exact absurd h (by simp)
      rw [if_neg c2] at h ⊢
      by_cases c3 : tChk ⟨cut s 5 2, cut s 8 1, cut s 9 2, cut s 11 1⟩ (cut s 7 1) = true
      · rw [if_pos c3]
        have d1 : decW n 4 = cut s 1 4 := undecO_back (w := 3) e1 (by rw [cut_len]; omega) (by omega)
        have d2 : decW k 2 = cut s 12 2 := undecO_back (w := 1) e2 (by rw [cut_len]; omega) (by omega)
        have q1 : ¬ ((n : Int) < 0 ∨ 9999 < (n : Int)) := fun x => by
          have := (decW4 n).2 x
          rw [d1] at this
          have := congrArg List.length this
          rw [cut_len] at this; simp at this; omega
        have q2 : ¬ ((k : Int) < 0 ∨ 99 < (k : Int)) := fun x => by
          have := (decW2 k).2 x
          rw [d2] at this
          have := congrArg List.length this
          rw [cut_len] at this; simp at this; omega
        have p0 : [68] = cut s 0 1 := by
          match s, c0, c1 with
          | c :: l, _, c1 =>
            have hb : bt (c :: l) 0 = (c.toNat : Int) := rfl
            have : c = 68 := by rw [← UInt8.toNat_inj]; simp; omega
            subst this; rfl
          | [], c0, _ => simp at c0
        have p14 : [48, 48] = cut s 14 2 := (Classical.not_not.1 fun x => c1 (.inr x)).symm
        refine ⟨?_, by simp only; omega, by simp only; omega, by simp only; omega, by simp only; omega, by simp only [cut_len]; omega, by simp only [hdFine, cut_len]; simp; omega⟩
        rw [hEnc, if_neg (by simp only; omega), if_pos c3, d1, d2, p0, p14]
        simp only [cut_app s 0 1 4, cut_app s 0 5 2, cut_app s 0 7 1, cut_app s 0 8 1, cut_app s 0 9 2, cut_app s 0 11 1, cut_app s 0 12 2, cut_app s 0 14 2, Nat.reduceAdd]
        simp [cut]
      · rw [if_neg c3] at h; exact absurd h (by simp)
theorem hdFine_len {h : Hd} (hf : hdFine h = true) : h.u.length ≤ 20 ∧ h.m.length ≤ 20 ∧ h.v.length ≤ 20 ∧ h.e.length ≤ 20 := by simpa [hdFine] using hf
end Go.Proofs.YtipomdmlkkifcaaGreatDoor.Vm
