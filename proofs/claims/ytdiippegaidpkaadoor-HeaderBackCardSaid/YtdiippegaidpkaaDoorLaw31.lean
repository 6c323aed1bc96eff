/- Contracts: the laws of layer 31. -/
import Derived.Test.YtdiippegaidpkaaDoorHeader2
set_option linter.unusedVariables false
set_option linter.unusedSimpArgs false
set_option linter.unnecessarySimpa false
set_option maxRecDepth 100000
namespace Go.Proofs.YtdiippegaidpkaaDoor.Vm
open Go Go.Proofs Go.RowKit
variable {ml : Int}
theorem awake31 : Ret P (C ml) 24 [] (.b true) := by
  have k1 := pDecode (ml := ml) [68, 48, 49, 49, 50, 75, 48, 65, 66, 48, 48, 69, 48, 48, 48, 48] (by decide)
  rw [show hDec [68, 48, 49, 49, 50, 75, 48, 65, 66, 48, 48, 69, 48, 48, 48, 48] = (⟨112, [65], 0, ⟨[75, 48], [66], [48, 48], [69]⟩⟩, 0) from by kernel_rfl] at k1
  have k2 := pEncode (ml := ml) ⟨112, [65], 0, ⟨[75, 48], [66], [48, 48], [69]⟩⟩ (by decide) (by decide) (by decide) (by decide) (by decide) (by decide) (by decide) (by decide) (by decide)
  rw [show hEnc ⟨112, [65], 0, ⟨[75, 48], [66], [48, 48], [69]⟩⟩ = ([68, 48, 49, 49, 50, 75, 48, 65, 66, 48, 48, 69, 48, 48, 48, 48], 0) from by
    rw [hEnc, if_neg (by decide), if_pos (by decide)]
    simp [decW, decDigits_one, decDigits_snoc 112 (by decide), decDigits_snoc 11 (by decide)]] at k2
  have e1 := fun X Y => (says_head (X := X) (Y := Y) [75, 48] [66] [48, 48] [69] [75, 48] [66] [48, 48] [69]).1
  refine hret_of tab_ok Tryd.func24 rfl rfl (by kernel_rfl) rfl ?_
  refine g_fin tab_ok mixed 3000 [cc k1, cc k2, .t, .t, sz (e1 (Operand.tmp 24) (Operand.tmp 25)), .t, .t, .t] rfl (by (simp only [AllR]; (repeat' first | exact k1 | exact k2 | exact e1 _ _ | exact True.intro | (show (_ : Bool) = _; assumption) | omega | apply And.intro); all_goals first | (simp; done) | (simp; omega) | (simp_all; done) | exact Nat.le_of_ble_eq_true rfl | kernel_rfl)) (ret_of rfl ?_ trivial trivial)
  (first | exact .inl rfl | rfl | (simp [tle]; done) | (simp_all [tle, tleL]; done))
theorem decW_snoc (m : Nat) (w : Nat) (c : UInt8) (d : Nat) (hd : d < 10) (hc : c = UInt8.ofNat (48 + d)) (hw : 1 ≤ w) (hw2 : w + 1 ≤ 18) (h : decW m w ≠ []) : decW (10 * m + d : Nat) (w + 1 : Nat) = decW m w ++ [c] := by
  subst hc
  have hl : ¬ ((w : Int) < (Lib.decDigits m).length) := fun hx => by
    apply h; unfold decW
    by_cases h0 : (m : Int) < 0 ∨ (w : Int) < 1 ∨ 18 < (w : Int)
    · rw [if_pos h0]
    · rw [if_neg h0, if_pos (by simpa using hx)]
  have e1 : decW m w = List.replicate (w - (Lib.decDigits m).length) 48 ++ Lib.decDigits m := by
    unfold decW
    rw [if_neg (by omega), Int.toNat_natCast, if_neg hl, Int.toNat_natCast]
  by_cases h10 : 10 * m + d < 10
  · have hm : m = 0 := by omega
    subst hm
    have e0 : Lib.decDigits 0 = [48] := decDigits_one 0 (by omega)
    rw [e1, e0]
    unfold decW
    rw [if_neg (by omega), Int.toNat_natCast, decDigits_one _ h10, if_neg (by simp; omega), Int.toNat_natCast]
    simp only [List.length_cons, List.length_nil, Nat.mul_zero, Nat.zero_add, Nat.add_sub_cancel]
    rw [show w = (w - 1) + 1 from by omega, List.replicate_succ', List.append_assoc]
    simp
  · have e2 : Lib.decDigits (10 * m + d) = Lib.decDigits m ++ [UInt8.ofNat (48 + d)] := by
      rw [decDigits_snoc _ (by omega), show (10 * m + d) / 10 = m from by omega, show (10 * m + d) % 10 = d from by omega]
    rw [e1]
    unfold decW
    rw [if_neg (by omega), Int.toNat_natCast, e2, List.length_append, if_neg (by simp; omega), Int.toNat_natCast]
    simp only [List.length_cons, List.length_nil, Nat.zero_add]
    rw [show w + 1 - ((Lib.decDigits m).length + 1) = w - (Lib.decDigits m).length from by omega, List.append_assoc]
theorem hexv_byte (c : UInt8) (h : ¬ (hexv c.toNat < 0 ∨ 9 < hexv c.toNat)) : ∃ d : Nat, d < 10 ∧ hexv c.toNat = d ∧ c = UInt8.ofNat (48 + d) := by
  have : ∀ k : Fin 256, ¬ (hexv ((UInt8.ofNat k).toNat : Int) < 0 ∨ 9 < hexv ((UInt8.ofNat k).toNat : Int)) → UInt8.ofNat k = UInt8.ofNat (48 + (hexv ((UInt8.ofNat k).toNat : Int)).toNat) := by decide +kernel
  have k := this ⟨c.toNat, UInt8.toNat_lt c⟩
  simp only [UInt8.ofNat_toNat] at k
  exact ⟨(hexv c.toNat).toNat, by omega, by omega, k h⟩
theorem undec_dec (w : Nat) : ∀ (t : List UInt8) (n : Nat), t.length = w + 1 → w + 1 ≤ 18 → decVal t 0 = some n → decW n (w + 1 : Nat) = t := by
  induction w with
  | zero =>
    intro t n hl _ hv
    match t, hl with
    | [c], _ =>
      rw [decVal] at hv
      split at hv
      · cases hv
      · rename_i h
        obtain ⟨d, h1, h2, h3⟩ := hexv_byte c h
        simp only [decVal, Option.some.injEq, h2] at hv
        have : n = d := by omega
        subst this
        subst h3
        unfold decW
        rw [if_neg (by omega), Int.toNat_natCast, decDigits_one _ h1, if_neg (by simp)]
        simp
  | succ w ih =>
    intro t n hl hw hv
    have hne : t ≠ [] := fun e => by rw [e] at hl; simp at hl
    obtain ⟨t', c, rfl⟩ : ∃ t' c, t = t' ++ [c] := ⟨t.dropLast, t.getLast hne, (List.dropLast_concat_getLast hne).symm⟩
    rw [List.length_append] at hl
    simp only [List.length_cons, List.length_nil] at hl
    rw [decVal_append] at hv
    cases hm : decVal t' 0 with
    | none => rw [hm] at hv; cases hv
    | some m =>
      rw [hm] at hv
      simp only [Option.bind_some, decVal] at hv
      split at hv
      · cases hv
      · rename_i h
        obtain ⟨d, h1, h2, h3⟩ := hexv_byte c h
        simp only [Option.some.injEq, h2] at hv
        have e := ih t' m (by omega) (by omega) hm
        have hn : n = 10 * m + d := by omega
        rw [hn, decW_snoc m (w + 1) c d h1 h3 (by omega) (by omega) (by rw [e]; intro x; rw [x] at hl; simp at hl), e]
theorem kMost_one {l : List UInt8} (h : kMost l ≠ 0) : ∃ c, l = [c] := by
  unfold kMost at h
  split at h
  · exact ⟨_, by assumption⟩
  · split at h
    · exact ⟨_, by assumption⟩
    · split at h
      · exact ⟨_, by assumption⟩
      · split at h
        · exact ⟨_, by assumption⟩
        · exact absurd rfl h
theorem tIn_one {a b : List UInt8} (h : tIn a b = true) : ∃ c, a = [c] := by
  simp only [tIn, Bool.and_eq_true, decide_eq_true_eq] at h
  exact List.length_eq_one_iff.1 h.1
theorem tOwn_two {u : List UInt8} (h : tOwn u = true) : u.length = 2 := by
  simp only [tOwn, decide_eq_true_eq] at h; exact h.1
theorem tOf_two {u l : List UInt8} (h : tIn l (tOf u).2.1 = true) : u.length = 2 := by
  unfold tOf at h
  split at h
  · rename_i x hx
    have h1 := List.mem_of_find?_eq_some hx
    have h2 := List.find?_some hx
    simp only [beq_iff_eq] at h2
    subst h2
    simp only [tLines, List.mem_cons, List.not_mem_nil, or_false] at h1
    rcases h1 with rfl | rfl | rfl | rfl | rfl | rfl | rfl | rfl | rfl | rfl <;> rfl
  · split at h
    · exact tOwn_two (by assumption)
    · simp [tIn] at h
theorem tVer_two {v : List UInt8} (h : tVer v = true) : v.length = 2 := by
  simp only [tVer, Bool.or_eq_true, beq_iff_eq, decide_eq_true_eq] at h
  rcases h with (h | h) | h
  · subst h; rfl
  · exact tOwn_two h
  · exact h.1
theorem two_of {l : List UInt8} (h : l.length = 2) : ∃ a b, l = [a, b] := by
  match l, h with
  | [a, b], _ => exact ⟨a, b, rfl⟩
theorem four_of {l : List UInt8} (h : l.length = 4) : ∃ a b c d, l = [a, b, c, d] := by
  match l, h with
  | [a, b, c, d], _ => exact ⟨a, b, c, d, rfl⟩
theorem tChk_parts {h : Hd} {l : List UInt8} (hc : tChk h l = true) : (∃ a b, h.u = [a, b]) ∧ (∃ c, h.m = [c]) ∧ (∃ a b, h.v = [a, b]) ∧ (∃ c, h.e = [c]) ∧ ∃ c, l = [c] := by
  simp only [tChk, Bool.and_eq_true] at hc
  obtain ⟨⟨⟨h1, h2⟩, h3⟩, h4⟩ := hc
  exact ⟨two_of (tOf_two h1), tIn_one h2, two_of (tVer_two h3), tIn_one h4, tIn_one h1⟩
theorem enc_dec (x : Hdr) (rest : List UInt8) (h : (hEnc x).2 = 0) : (hEnc x).1.length = 16 ∧ hDec ((hEnc x).1 ++ rest) = (x, 0) := by
  by_cases c1 : x.n < 0 ∨ 9999 < x.n ∨ x.k < 0 ∨ 99 < x.k ∨ kMost x.l = 0
  · rw [hEnc, if_pos c1] at h; exact absurd h (by simp)
  · by_cases c2 : tChk x.h x.l = true
    · rw [hEnc, if_neg c1, if_pos c2]
      obtain ⟨⟨u0, u1, hu⟩, ⟨m0, hm⟩, ⟨v0, v1, hv⟩, ⟨e0, he⟩, ⟨l0, hl⟩⟩ := tChk_parts c2
      have n1 : decW x.n 4 ≠ [] := fun e => by have := (decW4 x.n).1 e; omega
      have n2 : decW x.k 2 ≠ [] := fun e => by have := (decW2 x.k).1 e; omega
      obtain ⟨a1, a2, a3, _⟩ := decW_back _ _ n1
      obtain ⟨b1, b2, b3, _⟩ := decW_back _ _ n2
      obtain ⟨p, q, r, s, e1⟩ := four_of (show (decW x.n 4).length = 4 by omega)
      obtain ⟨y, z, e2⟩ := two_of (show (decW x.k 2).length = 2 by omega)
      rw [e1] at a2; rw [e2] at b2
      obtain ⟨n, l, k, ⟨u, m, v, e⟩⟩ := x
      simp only at hu hm hv he hl e1 e2 a1 b1 a2 b2 c1 c2 ⊢
      subst hu; subst hm; subst hv; subst he; subst hl
      rw [e1, e2]
      refine ⟨rfl, ?_⟩
      have f1 : bt ([68, p, q, r, s, u0, u1, l0, m0, v0, v1, e0, y, z, 48, 48] ++ rest) 0 = 68 := rfl
      show hDec ([68, p, q, r, s, u0, u1, l0, m0, v0, v1, e0, y, z, 48, 48] ++ rest) = _
      rw [hDec_ge _ (by simp), if_neg (by rw [f1]; simp [cut])]
      have g1 : cut ([68, p, q, r, s, u0, u1, l0, m0, v0, v1, e0, y, z, 48, 48] ++ rest) 1 4 = [p, q, r, s] := rfl
      have g2 : cut ([68, p, q, r, s, u0, u1, l0, m0, v0, v1, e0, y, z, 48, 48] ++ rest) 12 2 = [y, z] := rfl
      have g3 : cut ([68, p, q, r, s, u0, u1, l0, m0, v0, v1, e0, y, z, 48, 48] ++ rest) 7 1 = [l0] := rfl
      have g4 : cut ([68, p, q, r, s, u0, u1, l0, m0, v0, v1, e0, y, z, 48, 48] ++ rest) 5 2 = [u0, u1] := rfl
      have g5 : cut ([68, p, q, r, s, u0, u1, l0, m0, v0, v1, e0, y, z, 48, 48] ++ rest) 8 1 = [m0] := rfl
      have g6 : cut ([68, p, q, r, s, u0, u1, l0, m0, v0, v1, e0, y, z, 48, 48] ++ rest) 9 2 = [v0, v1] := rfl
      have g7 : cut ([68, p, q, r, s, u0, u1, l0, m0, v0, v1, e0, y, z, 48, 48] ++ rest) 11 1 = [e0] := rfl
      rw [g1, g2, g3, g4, g5, g6, g7, a2, b2]
      simp only
      rw [if_neg (by omega), if_pos c2]
      simp only [Int.toNat_of_nonneg a1, Int.toNat_of_nonneg b1]
    · rw [hEnc, if_neg c1, if_neg c2] at h; exact absurd h (by simp)
theorem dec_none (s : List UInt8) (h : (hDec s).2 ≠ 0) : (hDec s).1 = Hdr.none := by
  unfold hDec at h ⊢
  split
  · rfl
  · rename_i c
    rw [if_neg c] at h
    split at h
    · rename_i n k e1 e2
      split
      · rfl
      · rename_i c3
        rw [if_neg c3] at h
        split
        · rename_i c4; rw [if_pos c4] at h; exact absurd rfl h
        · rfl
    · rfl
theorem cut_app (s : List UInt8) (a m n : Nat) : cut s a m ++ cut s (a + m) n = cut s a (m + n) := by
  unfold cut; rw [List.take_add, List.drop_drop]
theorem undecO_back {t : List UInt8} {n w : Nat} (h : undecO t = some n) (hl : t.length = w + 1) (hw : w + 1 ≤ 18) : decW n (w + 1 : Nat) = t := by
  unfold undecO at h
  split at h
  · cases h
  · exact undec_dec w t n hl hw h
theorem dec_enc (s : List UInt8) (h : (hDec s).2 = 0) : hEnc (hDec s).1 = (s.take 16, 0) ∧ 0 ≤ (hDec s).1.n ∧ (hDec s).1.n ≤ 9999 ∧ 0 ≤ (hDec s).1.k ∧ (hDec s).1.k ≤ 99 ∧ (hDec s).1.l.length ≤ 20 ∧ hdFine (hDec s).1.h = true := by
  by_cases c0 : s.length < 16
  · rw [hDec_lt s c0] at h; exact absurd h (by simp)
  rw [hDec_ge s c0] at h ⊢
  by_cases c1 : bt s 0 ≠ 68 ∨ cut s 14 2 ≠ [48, 48]
  · rw [if_pos c1] at h; exact absurd h (by simp)
  rw [if_neg c1] at h ⊢
  cases e1 : undecO (cut s 1 4) with
  | none => rw [e1] at h; exact absurd h (by simp)
  | some n =>
    cases e2 : undecO (cut s 12 2) with
    | none => rw [e1, e2] at h; exact absurd h (by simp)
    | some k =>
      rw [e1, e2] at h
      simp only at h ⊢
      by_cases c2 : kMost (cut s 7 1) = 0
      · rw [if_pos c2] at h; exact absurd h (by simp)
      rw [if_neg c2] at h ⊢
      by_cases c3 : tChk ⟨cut s 5 2, cut s 8 1, cut s 9 2, cut s 11 1⟩ (cut s 7 1) = true
      · rw [if_pos c3]
        have d1 : decW n 4 = cut s 1 4 := undecO_back (w := 3) e1 (by rw [cut_len]; omega) (by omega)
        have d2 : decW k 2 = cut s 12 2 := undecO_back (w := 1) e2 (by rw [cut_len]; omega) (by omega)
        have q1 : ¬ ((n : Int) < 0 ∨ 9999 < (n : Int)) := fun x => by
          have := (decW4 n).2 x
          rw [d1] at this
          have := congrArg List.length this
          rw [cut_len] at this; simp at this; omega
        have q2 : ¬ ((k : Int) < 0 ∨ 99 < (k : Int)) := fun x => by
          have := (decW2 k).2 x
          rw [d2] at this
          have := congrArg List.length this
          rw [cut_len] at this; simp at this; omega
        have p0 : [68] = cut s 0 1 := by
          match s, c0, c1 with
          | c :: l, _, c1 =>
            have hb : bt (c :: l) 0 = (c.toNat : Int) := rfl
            have : c = 68 := by rw [← UInt8.toNat_inj]; simp; omega
            subst this; rfl
          | [], c0, _ => simp at c0
        have p14 : [48, 48] = cut s 14 2 := (Classical.not_not.1 fun x => c1 (.inr x)).symm
        refine ⟨?_, by simp only; omega, by simp only; omega, by simp only; omega, by simp only; omega, by simp only [cut_len]; omega, by simp only [hdFine, cut_len]; simp; omega⟩
        rw [hEnc, if_neg (by simp only; omega), if_pos c3, d1, d2, p0, p14]
        simp only [cut_app s 0 1 4, cut_app s 0 5 2, cut_app s 0 7 1, cut_app s 0 8 1, cut_app s 0 9 2, cut_app s 0 11 1, cut_app s 0 12 2, cut_app s 0 14 2, Nat.reduceAdd]
        simp [cut]
      · rw [if_neg c3] at h; exact absurd h (by simp)
theorem hdFine_len {h : Hd} (hf : hdFine h = true) : h.u.length ≤ 20 ∧ h.m.length ≤ 20 ∧ h.v.length ≤ 20 ∧ h.e.length ≤ 20 := by simpa [hdFine] using hf
theorem headerTells31 (x : Hdr) (s : List UInt8) (h1 : -9223372036854775808 ≤ x.n) (h2 : x.n ≤ 9223372036854775807) (h3 : -9223372036854775808 ≤ x.k) (h4 : x.k ≤ 9223372036854775807) :
    Ret P (C ml) 6 [.agg x.cells, .s s] (.b true) := by
  refine hret_of tab_ok Tryd.func6 rfl rfl (by kernel_rfl) rfl ?_
  have ka := awake31 (ml := ml)
  have k0 := plainHead (ml := ml) x.h
  by_cases c0 : hdFine x.h = true
  · rw [c0] at k0
    by_cases c1 : 20 < x.l.length
    · refine g_fin tab_ok mixed 3000 [cc k0, .f, .t, cc ka] rfl (by (simp only [AllR]; (repeat' first | exact ka | exact k0 | exact True.intro | (show (_ : Bool) = _; assumption) | omega | apply And.intro); all_goals first | (simp; done) | (simp; omega) | (simp_all; done) | exact Nat.le_of_ble_eq_true rfl | kernel_rfl)) (ret_of rfl ?_ trivial trivial)
      (first | exact .inl rfl | rfl | (simp [tle]; done) | (simp_all [tle, tleL]; done))
    · by_cases c2 : 200 < s.length
      · refine g_fin tab_ok mixed 3000 [cc k0, .f, .f, .t, cc ka] rfl (by (simp only [AllR]; (repeat' first | exact ka | exact k0 | exact True.intro | (show (_ : Bool) = _; assumption) | omega | apply And.intro); all_goals first | (simp; done) | (simp; omega) | (simp_all; done) | exact Nat.le_of_ble_eq_true rfl | kernel_rfl)) (ret_of rfl ?_ trivial trivial)
        (first | exact .inl rfl | rfl | (simp [tle]; done) | (simp_all [tle, tleL]; done))
      · obtain ⟨f1, f2, f3, f4⟩ := hdFine_len c0
        have k1 := pEncode (ml := ml) x h1 h2 h3 h4 (by omega) (by omega) (by omega) (by omega) (by omega)
        have k2 := rEncode (ml := ml) x h1 h2 h3 h4 (by omega) (by omega) (by omega) (by omega) (by omega)
        have k3 := pDecode (ml := ml) s (by omega)
        have k4 := rDecode (ml := ml) s (by omega)
        have e1 := fun X Y => (says_header2 (X := X) (Y := Y) (hDec s).1.n (hDec s).1.k (hDec s).1.n (hDec s).1.k (hDec s).1.l (hDec s).1.h.u (hDec s).1.h.m (hDec s).1.h.v (hDec s).1.h.e (hDec s).1.l (hDec s).1.h.u (hDec s).1.h.m (hDec s).1.h.v (hDec s).1.h.e).1
        refine g_fin tab_ok mixed 3000 [cc k0, .f, .f, .f, cc k1, cc k2, cc k3, cc k4, .t, .t, sz (e1 (Operand.tmp 58) (Operand.tmp 59)), .t, .t, cc ka] rfl (by (simp only [AllR]; (repeat' first | exact ka | exact k0 | exact k1 | exact k2 | exact k3 | exact k4 | exact e1 _ _ | exact True.intro | (show (_ : Bool) = _; assumption) | omega | apply And.intro); all_goals first | (simp; done) | (simp; omega) | (simp_all; done) | exact Nat.le_of_ble_eq_true rfl | kernel_rfl)) (ret_of rfl ?_ trivial trivial)
        (first | exact .inl rfl | rfl | (simp [tle]; done) | (simp_all [tle, tleL]; done))
  · rw [Bool.eq_false_iff.2 c0] at k0
    refine g_fin tab_ok mixed 3000 [cc k0, .t, cc ka] rfl (by (simp only [AllR]; (repeat' first | exact ka | exact k0 | exact True.intro | (show (_ : Bool) = _; assumption) | omega | apply And.intro); all_goals first | (simp; done) | (simp; omega) | (simp_all; done) | exact Nat.le_of_ble_eq_true rfl | kernel_rfl)) (ret_of rfl ?_ trivial trivial)
    (first | exact .inl rfl | rfl | (simp [tle]; done) | (simp_all [tle, tleL]; done))
theorem headerBack31 (x : Hdr) (s rest : List UInt8) (h1 : -9223372036854775808 ≤ x.n) (h2 : x.n ≤ 9223372036854775807) (h3 : -9223372036854775808 ≤ x.k) (h4 : x.k ≤ 9223372036854775807) :
    Ret P (C ml) 7 [.agg x.cells, .s s, .s rest] (.b true) := by
  refine hret_of tab_ok Tryd.func7 rfl rfl (by kernel_rfl) rfl ?_
  have ka := awake31 (ml := ml)
  have k0 := plainHead (ml := ml) x.h
  by_cases c0 : hdFine x.h = true
  · rw [c0] at k0
    by_cases c1 : 20 < x.l.length
    · refine g_fin tab_ok mixed 3000 [cc k0, .f, .t, cc ka] rfl (by (simp only [AllR]; (repeat' first | exact ka | exact k0 | exact True.intro | (show (_ : Bool) = _; assumption) | omega | apply And.intro); all_goals first | (simp; done) | (simp; omega) | (simp_all; done) | exact Nat.le_of_ble_eq_true rfl | kernel_rfl)) (ret_of rfl ?_ trivial trivial)
      (first | exact .inl rfl | rfl | (simp [tle]; done) | (simp_all [tle, tleL]; done))
    · by_cases c2 : 200 < s.length
      · refine g_fin tab_ok mixed 3000 [cc k0, .f, .f, .t, cc ka] rfl (by (simp only [AllR]; (repeat' first | exact ka | exact k0 | exact True.intro | (show (_ : Bool) = _; assumption) | omega | apply And.intro); all_goals first | (simp; done) | (simp; omega) | (simp_all; done) | exact Nat.le_of_ble_eq_true rfl | kernel_rfl)) (ret_of rfl ?_ trivial trivial)
        (first | exact .inl rfl | rfl | (simp [tle]; done) | (simp_all [tle, tleL]; done))
      · by_cases c3 : 200 < rest.length
        · refine g_fin tab_ok mixed 3000 [cc k0, .f, .f, .f, .t, cc ka] rfl (by (simp only [AllR]; (repeat' first | exact ka | exact k0 | exact True.intro | (show (_ : Bool) = _; assumption) | omega | apply And.intro); all_goals first | (simp; done) | (simp; omega) | (simp_all; done) | exact Nat.le_of_ble_eq_true rfl | kernel_rfl)) (ret_of rfl ?_ trivial trivial)
          (first | exact .inl rfl | rfl | (simp [tle]; done) | (simp_all [tle, tleL]; done))
        · obtain ⟨f1, f2, f3, f4⟩ := hdFine_len c0
          have k1 := pEncode (ml := ml) x h1 h2 h3 h4 (by omega) (by omega) (by omega) (by omega) (by omega)
          have k3 := pDecode (ml := ml) s (by omega)
          have tail : ∀ d : Prop, True := fun _ => trivial
          by_cases c4 : (hDec s).2 = 0
          · obtain ⟨g1, g2, g3, g4, g5, g6, g7⟩ := dec_enc s c4
            obtain ⟨m1, m2, m3, m4⟩ := hdFine_len g7
            have k4 := pEncode (ml := ml) (hDec s).1 (by omega) (by omega) (by omega) (by omega) (by omega) (by omega) (by omega) (by omega) (by omega)
            have hl : ¬ s.length < 16 := fun y => by rw [hDec_lt s y] at c4; exact absurd c4 (by simp)
            rw [g1] at k4
            rw [c4] at k3
            by_cases c5 : (hEnc x).2 = 0
            · obtain ⟨l1, l2⟩ := enc_dec x rest c5
              have k2 := pDecode (ml := ml) ((hEnc x).1 ++ rest) (by rw [List.length_append]; omega)
              rw [l2] at k2
              rw [c5] at k1
              have e1 := fun X Y => (says_header1 (X := X) (Y := Y) x.n x.k x.n x.k x.l x.h.u x.h.m x.h.v x.h.e x.l x.h.u x.h.m x.h.v x.h.e).2
              refine g_fin tab_ok mixed 3000 [cc k0, .f, .f, .f, .f, cc k1, .t, cc k2, .f, .f, sz (e1 (Operand.tmp 58) (Operand.tmp 59)), .f, cc k3, .f, cc k4, .t, .t, cc ka] rfl (by (simp only [AllR]; (repeat' first | exact ka | exact k0 | exact k1 | exact k2 | exact k3 | exact k4 | exact e1 _ _ | exact True.intro | (show (_ : Bool) = _; assumption) | omega | apply And.intro); all_goals first | (simp; done) | (simp; omega) | (simp_all; done) | exact Nat.le_of_ble_eq_true rfl | kernel_rfl)) (ret_of rfl ?_ trivial trivial)
              (first | exact .inl rfl | rfl | (simp [tle]; done) | (simp_all [tle, tleL]; done))
            · refine g_fin tab_ok mixed 3000 [cc k0, .f, .f, .f, .f, cc k1, .f, cc k3, .f, cc k4, .t, .t, cc ka] rfl (by (simp only [AllR]; (repeat' first | exact ka | exact k0 | exact k1 | exact k3 | exact k4 | exact True.intro | (show (_ : Bool) = _; assumption) | omega | apply And.intro); all_goals first | (simp; done) | (simp; omega) | (simp_all; done) | exact Nat.le_of_ble_eq_true rfl | kernel_rfl)) (ret_of rfl ?_ trivial trivial)
              (first | exact .inl rfl | rfl | (simp [tle]; done) | (simp_all [tle, tleL]; done))
          · have g1 := dec_none s c4
            rw [g1] at k3
            have e2 := fun X Y => (says_header1 (X := X) (Y := Y) 0 0 0 0 [] [] [] [] [] [] [] [] [] []).1
            by_cases c5 : (hEnc x).2 = 0
            · obtain ⟨l1, l2⟩ := enc_dec x rest c5
              have k2 := pDecode (ml := ml) ((hEnc x).1 ++ rest) (by rw [List.length_append]; omega)
              rw [l2] at k2
              rw [c5] at k1
              have e1 := fun X Y => (says_header1 (X := X) (Y := Y) x.n x.k x.n x.k x.l x.h.u x.h.m x.h.v x.h.e x.l x.h.u x.h.m x.h.v x.h.e).2
              refine g_fin tab_ok mixed 3000 [cc k0, .f, .f, .f, .f, cc k1, .t, cc k2, .f, .f, sz (e1 (Operand.tmp 58) (Operand.tmp 59)), .f, cc k3, .t, sz (e2 (Operand.tmp 69) (Operand.tmp 70)), .t, cc ka] rfl (by (simp only [AllR]; (repeat' first | exact ka | exact k0 | exact k1 | exact k2 | exact k3 | exact e1 _ _ | exact e2 _ _ | exact True.intro | (show (_ : Bool) = _; assumption) | omega | apply And.intro); all_goals first | (simp; done) | (simp; omega) | (simp_all; done) | exact Nat.le_of_ble_eq_true rfl | kernel_rfl)) (ret_of rfl ?_ trivial trivial)
              (first | exact .inl rfl | rfl | (simp [tle]; done) | (simp_all [tle, tleL]; done))
            · refine g_fin tab_ok mixed 3000 [cc k0, .f, .f, .f, .f, cc k1, .f, cc k3, .t, sz (e2 (Operand.tmp 69) (Operand.tmp 70)), .t, cc ka] rfl (by (simp only [AllR]; (repeat' first | exact ka | exact k0 | exact k1 | exact k3 | exact e2 _ _ | exact True.intro | (show (_ : Bool) = _; assumption) | omega | apply And.intro); all_goals first | (simp; done) | (simp; omega) | (simp_all; done) | exact Nat.le_of_ble_eq_true rfl | kernel_rfl)) (ret_of rfl ?_ trivial trivial)
              (first | exact .inl rfl | rfl | (simp [tle]; done) | (simp_all [tle, tleL]; done))
  · rw [Bool.eq_false_iff.2 c0] at k0
    refine g_fin tab_ok mixed 3000 [cc k0, .t, cc ka] rfl (by (simp only [AllR]; (repeat' first | exact ka | exact k0 | exact True.intro | (show (_ : Bool) = _; assumption) | omega | apply And.intro); all_goals first | (simp; done) | (simp; omega) | (simp_all; done) | exact Nat.le_of_ble_eq_true rfl | kernel_rfl)) (ret_of rfl ?_ trivial trivial)
    (first | exact .inl rfl | rfl | (simp [tle]; done) | (simp_all [tle, tleL]; done))
end Go.Proofs.YtdiippegaidpkaaDoor.Vm
