/- Texts of one proof, gathered: Frame FrameR. -/
import Derived.Test.YtipomdmlkkifcaaGreatDoorPart14
import Derived.Test.YtipomdmlkkifcaaGreatDoorPart15
import Derived.Test.YtipomdmlkkifcaaGreatDoorPart16
set_option linter.unusedSimpArgs false
set_option linter.unusedVariables false
set_option linter.unnecessarySimpa false
/- Contracts: frame.Top, .Join, clavigerref34.Top. -/
set_option maxRecDepth 100000
namespace Go.Proofs.YtipomdmlkkifcaaGreatDoor.Vm
open Go Go.Proofs Go.RowKit Go.Proofs.YtipomdmlkkifcaaGreatDoor.Flt
variable {ml : Int}
theorem and15 (n : Int) (h1 : 0 ≤ n) (h2 : n ≤ 4096) : bitsI .and .i64 n 15 = n % 16 := by
  obtain ⟨m, rfl⟩ : ∃ m : Nat, n = m := ⟨n.toNat, by omega⟩
  have := bitsI_and .i64 m 15 (by show m < 2 ^ 64; omega) (by decide)
  rw [show m &&& 15 = m % 16 from Nat.and_two_pow_sub_one_eq_mod m 4] at this
  exact this.trans (w64 (by omega) (by omega))
theorem topSize (p : Nat) (n : Int) (hp : p ≤ 9999) (h1 : 16 ≤ n) (h2 : n ≤ 4096) : IntKind.i64.wrap (IntKind.i64.wrap (IntKind.i64.wrap (16 + (p : Int)) + IntKind.i64.wrap (2 * n)) + 32) = 16 + (p : Int) + 2 * n + 32 := by
  have e1 : IntKind.i64.wrap (16 + (p : Int)) = 16 + p := w64 (by omega) (by omega)
  have e2 : IntKind.i64.wrap (2 * n) = 2 * n := w64 (by omega) (by omega)
  rw [e1, e2]
  have e3 : IntKind.i64.wrap (16 + (p : Int) + 2 * n) = 16 + p + 2 * n := w64 (by omega) (by omega)
  rw [e3]
  exact w64 (by omega) (by omega)
theorem hEnc_le (x : Hdr) (h5 : x.l.length ≤ 1000) (h6 : x.h.u.length ≤ 1000) (h7 : x.h.m.length ≤ 1000) (h8 : x.h.v.length ≤ 1000) (h9 : x.h.e.length ≤ 1000) : (hEnc x).1.length ≤ 10000 := by
  have l1 := decW_le x.n 4
  have l2 := decW_le x.k 2
  unfold hEnc
  split
  · simp
  · split
    · simp only [List.length_append, List.length_cons, List.length_nil]; omega
    · simp
theorem pTop (l : List UInt8) (h : Hd) (a : List Att) (n : Int) (hl : l.length ≤ 1000) (hh : hdFine h = true) (ha : a.length ≤ 100000) :
    Ret P (C ml) 81 [.s l, .agg h.cells, .sl a.length (attCells a), .i .i64 n] (.tup [.s (topL l h a n).1, .i .i64 (topL l h a n).2]) := by
  refine hR Tryz.func81 ?_
  obtain ⟨f1, f2, f3, f4⟩ := hdFine_len hh
  have k1 := pMost (ml := ml) l
  have k2 := pCheck (ml := ml) h l
  have k3 := pOptions (ml := ml) a ha
  unfold topL
  by_cases c1 : kMost l = 0
  · rw [if_pos (.inl c1)]
    refine gFs [cc k1, .t] rfl (ret_of rfl ?_ trivial trivial)
    simp [tle, tleL, look]
  by_cases c2 : n < 16
  · rw [if_pos (.inr (.inl c2))]
    refine gFs [cc k1, .f, .t] rfl (ret_of rfl ?_ trivial trivial)
    simp [tle, tleL, look]
  by_cases c3 : n > 4096
  · rw [if_pos (.inr (.inr (.inl c3)))]
    refine gFs [cc k1, .f, .f, .t] rfl (ret_of rfl ?_ trivial trivial)
    simp [tle, tleL, look]
  have hb := and15 n (by omega) (by omega)
  by_cases c4 : n % 16 = 0
  · have c5 : decide (bitsI .and .i64 n 15 = 0) = true := decide_eq_true (by rw [hb]; exact c4)
    have c6 : (bitsI .and .i64 n 15 != 0) = false := by rw [hb, c4]; rfl
    rw [if_neg (by omega)]
    clear hb
    rcases Bool.eq_false_or_eq_true (tChk h l) with ht | ht
    · rw [if_pos ht]
      rw [ht] at k2
      have hol := optsA_len a
      generalize hoa : optsA a = oa at *
      obtain ⟨o, e⟩ := oa
      by_cases he : e = 0
      · have he1 : (e != 0) = false := by simp [he]
        have k4 := pPack (ml := ml) o (by simp only at hol; omega)
        have hpl := packL_le o
        simp only
        rw [if_neg (by simp [he])]
        generalize packL o = q at *
        obtain ⟨p, k, e2⟩ := q
        simp only at hpl
        have hsz := topSize p.length n hpl.1 (by omega) (by omega)
        have k5 := pEncode (ml := ml) ⟨IntKind.i64.wrap (IntKind.i64.wrap (IntKind.i64.wrap (16 + (p.length : Int)) + IntKind.i64.wrap (2 * n)) + 32), l, k, h⟩ (by simp only [hsz]; omega) (by simp only [hsz]; omega) (by simp only; omega) (by simp only; omega) hl (by simp only; omega) (by simp only; omega) (by simp only; omega) (by simp only; omega)
        have hle := hEnc_le ⟨IntKind.i64.wrap (IntKind.i64.wrap (IntKind.i64.wrap (16 + (p.length : Int)) + IntKind.i64.wrap (2 * n)) + 32), l, k, h⟩ hl (by simp only; omega) (by simp only; omega) (by simp only; omega) (by simp only; omega)
        simp only
        rw [← hsz]
        have hW : IntKind.i64.wrap (IntKind.i64.wrap (IntKind.i64.wrap (16 + (p.length : Int)) + IntKind.i64.wrap (2 * n)) + 32) = IntKind.i64.wrap (IntKind.i64.wrap (IntKind.i64.wrap (16 + (p.length : Int)) + IntKind.i64.wrap (2 * n)) + 32) := rfl
        by_cases he2 : e2 = 0
        · have he3 : (e2 != 0) = false := by simp [he2]
          by_cases hs : IntKind.i64.wrap (IntKind.i64.wrap (IntKind.i64.wrap (16 + (p.length : Int)) + IntKind.i64.wrap (2 * n)) + 32) > 9999
          · rw [if_pos (.inr hs)]
            have d1 : decide (IntKind.i64.wrap (IntKind.i64.wrap (IntKind.i64.wrap (16 + (p.length : Int)) + IntKind.i64.wrap (2 * n)) + 32) > 9999) = true := decide_eq_true hs
            clear hsz hW
            refine gF [cc k1, .f, .f, .f, .f, cc k2, .f, cc k3, .f, cc k4, .f, .t] rfl (ret_of rfl ?_ trivial trivial)
            simp [tle, tleL, look]
          · rw [if_neg (by intro hx; rcases hx with hx | hx; exact hx he2; exact hs hx)]
            have d1 : decide (IntKind.i64.wrap (IntKind.i64.wrap (IntKind.i64.wrap (16 + (p.length : Int)) + IntKind.i64.wrap (2 * n)) + 32) > 9999) = false := decide_eq_false hs
            clear hsz hW
            refine gF [cc k1, .f, .f, .f, .f, cc k2, .f, cc k3, .f, cc k4, .f, .f, cc k5] rfl (ret_of rfl ?_ trivial trivial)
            exact ⟨rfl, rfl, rfl⟩
        · have he3 : (e2 != 0) = true := by simpa using he2
          rw [if_pos (.inl he2)]
          clear hsz hW
          refine gF [cc k1, .f, .f, .f, .f, cc k2, .f, cc k3, .f, cc k4, .t] rfl (ret_of rfl ?_ trivial trivial)
          simp [tle, tleL, look]
      · have he1 : (e != 0) = true := by simpa using he
        simp only
        rw [if_pos he]
        refine gF [cc k1, .f, .f, .f, .f, cc k2, .f, cc k3, .t] rfl (ret_of rfl ?_ trivial trivial)
        simp [tle, tleL, look]
    · rw [if_neg (by rw [ht]; decide)]
      rw [ht] at k2
      refine gF [cc k1, .f, .f, .f, .f, cc k2, .t] rfl (ret_of rfl ?_ trivial trivial)
      simp [tle, tleL, look]
  · have c5 : decide (bitsI .and .i64 n 15 = 0) = false := decide_eq_false (by rw [hb]; exact c4)
    have c6 : (bitsI .and .i64 n 15 != 0) = true := by rw [hb]; simpa using c4
    rw [if_pos (.inr (.inr (.inr c4)))]
    clear hb
    refine gF [cc k1, .f, .f, .f, .t] rfl (ret_of rfl ?_ trivial trivial)
    simp [tle, tleL, look]
theorem rTop (l : List UInt8) (h : Hd) (a : List Att) (n : Int) (hl : l.length ≤ 1000) (hh : hdFine h = true) (ha : a.length ≤ 100000) :
    Ret P (C ml) 45 [.s l, .agg h.cells, .sl a.length (attCells a), .i .i64 n] (.tup [.s (topL l h a n).1, .i .i64 (topL l h a n).2]) := by
  refine hR Tryz.func45 ?_
  obtain ⟨f1, f2, f3, f4⟩ := hdFine_len hh
  have k1 := rMost (ml := ml) l
  have k2 := rCheck (ml := ml) h l
  have k3 := rOptions (ml := ml) a ha
  unfold topL
  by_cases c1 : kMost l = 0
  · rw [if_pos (.inl c1)]
    refine gFs [cc k1, .t] rfl (ret_of rfl ?_ trivial trivial)
    simp [tle, tleL, look]
  by_cases c2 : n < 16
  · rw [if_pos (.inr (.inl c2))]
    refine gFs [cc k1, .f, .t] rfl (ret_of rfl ?_ trivial trivial)
    simp [tle, tleL, look]
  by_cases c3 : n > 4096
  · rw [if_pos (.inr (.inr (.inl c3)))]
    refine gFs [cc k1, .f, .f, .t] rfl (ret_of rfl ?_ trivial trivial)
    simp [tle, tleL, look]
  have hb : n.tmod 16 = n % 16 := by rw [Int.tmod_eq_emod_of_nonneg (by omega)]
  by_cases c4 : n % 16 = 0
  · have c5 : decide (n.tmod 16 = 0) = true := decide_eq_true (by rw [hb]; exact c4)
    have c6 : (n.tmod 16 != 0) = false := by rw [hb, c4]; rfl
    rw [if_neg (by omega)]
    clear hb
    rcases Bool.eq_false_or_eq_true (tChk h l) with ht | ht
    · rw [if_pos ht]
      rw [ht] at k2
      have hol := optsA_len a
      generalize hoa : optsA a = oa at *
      obtain ⟨o, e⟩ := oa
      by_cases he : e = 0
      · have he1 : (e != 0) = false := by simp [he]
        have k4 := rPack (ml := ml) o (by simp only at hol; omega)
        have hpl := packL_le o
        simp only
        rw [if_neg (by simp [he])]
        generalize packL o = q at *
        obtain ⟨p, k, e2⟩ := q
        simp only at hpl
        have hsz := topSize p.length n hpl.1 (by omega) (by omega)
        have k5 := rEncode (ml := ml) ⟨IntKind.i64.wrap (IntKind.i64.wrap (IntKind.i64.wrap (16 + (p.length : Int)) + IntKind.i64.wrap (2 * n)) + 32), l, k, h⟩ (by simp only [hsz]; omega) (by simp only [hsz]; omega) (by simp only; omega) (by simp only; omega) hl (by simp only; omega) (by simp only; omega) (by simp only; omega) (by simp only; omega)
        have hle := hEnc_le ⟨IntKind.i64.wrap (IntKind.i64.wrap (IntKind.i64.wrap (16 + (p.length : Int)) + IntKind.i64.wrap (2 * n)) + 32), l, k, h⟩ hl (by simp only; omega) (by simp only; omega) (by simp only; omega) (by simp only; omega)
        simp only
        rw [← hsz]
        by_cases he2 : e2 = 0
        · have he3 : (e2 != 0) = false := by simp [he2]
          by_cases hs : IntKind.i64.wrap (IntKind.i64.wrap (IntKind.i64.wrap (16 + (p.length : Int)) + IntKind.i64.wrap (2 * n)) + 32) > 9999
          · rw [if_pos (.inr hs)]
            have d1 : decide (IntKind.i64.wrap (IntKind.i64.wrap (IntKind.i64.wrap (16 + (p.length : Int)) + IntKind.i64.wrap (2 * n)) + 32) > 9999) = true := decide_eq_true hs
            clear hsz
            refine gF [cc k1, .f, .f, .f, .f, cc k2, .f, cc k3, .f, cc k4, .f, .t] rfl (ret_of rfl ?_ trivial trivial)
            simp [tle, tleL, look]
          · rw [if_neg (by intro hx; rcases hx with hx | hx; exact hx he2; exact hs hx)]
            have d1 : decide (IntKind.i64.wrap (IntKind.i64.wrap (IntKind.i64.wrap (16 + (p.length : Int)) + IntKind.i64.wrap (2 * n)) + 32) > 9999) = false := decide_eq_false hs
            clear hsz
            refine gF [cc k1, .f, .f, .f, .f, cc k2, .f, cc k3, .f, cc k4, .f, .f, cc k5] rfl (ret_of rfl ?_ trivial trivial)
            exact ⟨rfl, rfl, rfl⟩
        · have he3 : (e2 != 0) = true := by simpa using he2
          rw [if_pos (.inl he2)]
          clear hsz
          refine gF [cc k1, .f, .f, .f, .f, cc k2, .f, cc k3, .f, cc k4, .t] rfl (ret_of rfl ?_ trivial trivial)
          simp [tle, tleL, look]
      · have he1 : (e != 0) = true := by simpa using he
        simp only
        rw [if_pos he]
        refine gF [cc k1, .f, .f, .f, .f, cc k2, .f, cc k3, .t] rfl (ret_of rfl ?_ trivial trivial)
        simp [tle, tleL, look]
    · rw [if_neg (by rw [ht]; decide)]
      rw [ht] at k2
      refine gF [cc k1, .f, .f, .f, .f, cc k2, .t] rfl (ret_of rfl ?_ trivial trivial)
      simp [tle, tleL, look]
  · have c5 : decide (n.tmod 16 = 0) = false := decide_eq_false (by rw [hb]; exact c4)
    have c6 : (n.tmod 16 != 0) = true := by rw [hb]; simpa using c4
    rw [if_pos (.inr (.inr (.inr c4)))]
    clear hb
    refine gF [cc k1, .f, .f, .f, .t] rfl (ret_of rfl ?_ trivial trivial)
    simp [tle, tleL, look]
theorem oJoin3 (x y z : List UInt8) (h : (x ++ y ++ z).length ≤ 10000000) : HRet P (C ml) 84 [.ref 12 0 0 3] [(12, 0, .row true (.row 1 9) [.s x, .s y, .s z])] (.s (x ++ y ++ z)) [(12, 0, .dead)] := by
  refine hR Tryz.func84 ?_
  have e : [x, y, z].flatten = x ++ y ++ z := by simp
  have k1 : Ret P (C ml) 29 [.sl 3 [.s x, .s y, .s z], .s []] (.s (x ++ y ++ z)) := by rw [← e]; exact joinL (ml := ml) [x, y, z] (by simp) (by rw [e]; omega)
  refine g_frz 12 rfl ?_
  refine gFs [cc k1] rfl (ret_of rfl ?_ ?_ ?_)
  · exact rfl
  · exact ⟨trivial, trivial⟩
  · exact ⟨rfl, trivial⟩
theorem pJoin (t c g : List UInt8) (h1 : t.length ≤ 100000) (h2 : c.length ≤ 100000) (h3 : g.length ≤ 100000) : Ret P (C ml) 43 [.s t, .s c, .s g] (.s (t ++ hexs c ++ hexs g)) := by
  refine hR Tryz.func43 ?_
  have k1 := dHex (ml := ml) c (by omega)
  have k2 := dHex (ml := ml) g (by omega)
  have k3 := oJoin3 (ml := ml) t (hexs c) (hexs g) (by simp [hexs_length]; omega)
  refine gFs [cc k1, cc k2, ch k3] rfl (ret_of rfl ?_ trivial trivial)
  exact rfl
end Go.Proofs.YtipomdmlkkifcaaGreatDoor.Vm
/- Contracts: clavigerref34.Cut. -/
set_option maxRecDepth 100000
namespace Go.Proofs.YtipomdmlkkifcaaGreatDoor.Vm
open Go Go.Proofs Go.RowKit Go.Proofs.YtipomdmlkkifcaaGreatDoor.Flt
variable {ml : Int}
abbrev noneCells : List T := [.s [], .s [], .s [], .s [], .s [], .nsl, .s [], .s [], .s []]
/-- The cells of a frame, or of none. -/
def frC (x : Fr × Int) : List T := if x.2 = 0 then x.1.cells else noneCells
theorem frC_bad {x : Fr} {e : Int} (h : e ≠ 0) : frC (x, e) = noneCells := if_neg h
theorem frC_ok (x : Fr) : frC (x, 0) = x.cells := rfl
theorem dec_k (b : List UInt8) (h : (hDec b).2 = 0) : 0 ≤ (hDec b).1.k ∧ (hDec b).1.k ≤ 99 := ⟨(dec_enc b h).2.2.2.1, (dec_enc b h).2.2.2.2.1⟩
theorem rUnpackA (b : List UInt8) (hb : b.length ≤ 100000) (h : (hDec b).2 = 0) : Ret P (C ml) 75 [.s (b.drop 16), .i .i64 (hDec b).1.k] (uTup (cutA b)) := by
  obtain ⟨k0, k9⟩ := dec_k b h
  have k := rUnpack (ml := ml) (b.drop 16) (by rw [List.length_drop]; omega) (hDec b).1.k.toNat (by omega)
  rw [Int.toNat_of_nonneg k0] at k
  exact k
theorem pUnpackA (b : List UInt8) (hb : b.length ≤ 100000) (h : (hDec b).2 = 0) : Ret P (C ml) 128 [.s (b.drop 16), .i .i64 (hDec b).1.k] (uTup (cutA b)) := by
  obtain ⟨k0, k9⟩ := dec_k b h
  have k := pUnpack (ml := ml) (b.drop 16) (by rw [List.length_drop]; omega) (hDec b).1.k.toNat (by omega)
  rw [Int.toNat_of_nonneg k0] at k
  exact k
theorem cutA_facts (b : List UInt8) (h : (hDec b).2 = 0) : (cutA b).1.length ≤ 99 ∧ (((cutA b).1.getD 0 ([], [])).2.length ≤ 100000) ∧ (cutA b).2.1 ≤ b.length - 16 := by
  obtain ⟨k0, k9⟩ := dec_k b h
  have h1 := unpL_len (b.drop 16) (hDec b).1.k.toNat
  have h2 := unpL_data (b.drop 16) (hDec b).1.k.toNat
  have h3 := unpL_at (b.drop 16) (hDec b).1.k.toNat
  rw [List.length_drop] at h3
  exact ⟨by unfold cutA; omega, h2, h3⟩
theorem rCut0 (b : List UInt8) (hb : b.length ≤ 100000) : Ret P (C ml) 32 [.s b] (.tup [.agg (frC (cutF b)), .i .i64 (cutF b).2]) := by
  refine hR Tryz.func32 ?_
  unfold cutF
  by_cases c0 : b = []
  · rw [if_pos c0, frC_bad (by decide)]
    have e0 : (b == []) = true := by simp [c0]
    refine gF [.t] rfl (ret_of rfl ?_ trivial trivial)
    exact ⟨⟨rfl, rfl⟩, rfl, rfl⟩
  rw [if_neg c0]
  have e0 : (b == []) = false := by simp [c0]
  by_cases c1 : b.length > 9999
  · rw [if_pos c1, frC_bad (by decide)]
    refine gF [.f, .t] rfl (ret_of rfl ?_ trivial trivial)
    exact ⟨⟨rfl, rfl⟩, rfl, rfl⟩
  rw [if_neg c1]
  have k1 := rDecode (ml := ml) b (by omega)
  by_cases c2 : (hDec b).2 = 0
  · have e2 : ((hDec b).2 != 0) = false := by simp [c2]
    have hl := hDec_len c2
    rw [if_neg (by simp [c2])]
    have k2 := rUnpackA (ml := ml) b (by omega) c2
    obtain ⟨u1, u2, u3⟩ := cutA_facts b c2
    generalize hDec b = hd at *
    obtain ⟨⟨n, l, k, ⟨u, m, v, e⟩⟩, er⟩ := hd
    simp only at c2 e2 k2 ⊢
    subst c2
    by_cases c3 : n = b.length
    · have e3 : (n == (b.length : Int)) = true := by simp [c3]
      have e3' : (n != (b.length : Int)) = false := by simp [c3]
      rw [if_neg (by simp [c3])]
      generalize cutA b = ca at *
      obtain ⟨o, a, er⟩ := ca
      simp only [uTup] at u1 u2 u3 k2 ⊢
      by_cases c4 : er = 0
      · subst c4
        rw [if_neg (by simp)]
        have k3 := rAFrom (ml := ml) o (by omega) u2
        generalize fromO o = fo at *
        obtain ⟨f, er⟩ := fo
        simp only at k3 ⊢
        by_cases c5 : er = 0
        · subst c5
          rw [if_neg (by simp)]
          have w1 : IntKind.i64.wrap (16 + (a : Int)) = 16 + a := w64 (by omega) (by omega)
          have w2 : (IntKind.i64.wrap (16 + (a : Int))).toNat = 16 + a := by rw [w1]; omega
          have w3 : 0 ≤ IntKind.i64.wrap (16 + (a : Int)) ∧ IntKind.i64.wrap (16 + (a : Int)) ≤ b.length := by rw [w1]; omega
          have k4 := unhex02 (ml := ml) (b.drop (IntKind.i64.wrap (16 + (a : Int))).toNat) (by rw [List.length_drop]; omega)
          have hx : hexTail (b.drop (16 + a)) = match unhexO (b.drop (IntKind.i64.wrap (16 + (a : Int))).toNat) with
            | none => none
            | some s => if s.length < 32 ∨ s.length % 16 ≠ 0 then none else some (s.take (s.length - 16), s.drop (s.length - 16)) := by rw [w2]; rfl
          rw [hx]
          have ht : b.take (16 + a) = b.take (IntKind.i64.wrap (16 + (a : Int))).toNat := by rw [w2]
          rw [ht]
          clear w1 w2 hx ht
          cases hu : unhexO (b.drop (IntKind.i64.wrap (16 + (a : Int))).toNat) with
          | none =>
            rw [hu] at k4
            simp only [Option.getD, Option.isSome] at k4
            simp only
            rw [frC_bad (by decide)]
            refine gF [.f, .f, cc k1, .f, .f, cc k2, .f, cc k3, .f, cc k4, .t] rfl (ret_of rfl ?_ trivial trivial)
            exact ⟨⟨rfl, rfl⟩, rfl, rfl⟩
          | some s =>
            rw [hu] at k4
            have hsl := unhexO_len hu
            rw [List.length_drop] at hsl
            simp only [Option.getD, Option.isSome] at k4
            simp only
            by_cases c6 : s.length < 32
            · rw [if_pos (.inl c6), ]
              simp only
              rw [frC_bad (by decide)]
              refine gF [.f, .f, cc k1, .f, .f, cc k2, .f, cc k3, .f, cc k4, .f, .t] rfl (ret_of rfl ?_ trivial trivial)
              exact ⟨⟨rfl, rfl⟩, rfl, rfl⟩
            · by_cases c7 : s.length % 16 = 0
              · rw [if_neg (by omega)]
                simp only
                rw [frC_ok]
                have e7 : ((s.length : Int).tmod 16 != 0) = false := by
                  have : (s.length : Int).tmod 16 = ((s.length % 16 : Nat) : Int) := rfl
                  rw [this, c7]; rfl
                have w4 : IntKind.i64.wrap ((s.length : Int) - 16) = (s.length - 16 : Nat) := by rw [w64 (by omega) (by omega)]; omega
                have w5 : 0 ≤ IntKind.i64.wrap ((s.length : Int) - 16) ∧ IntKind.i64.wrap ((s.length : Int) - 16) ≤ s.length := by rw [w4]; omega
                have hq : Fr.cells ⟨l, ⟨u, m, v, e⟩, f, b.take (IntKind.i64.wrap (16 + (a : Int))).toNat, s.take (s.length - 16), s.drop (s.length - 16)⟩ = Fr.cells ⟨l, ⟨u, m, v, e⟩, f, b.take (IntKind.i64.wrap (16 + (a : Int))).toNat, s.take (IntKind.i64.wrap ((s.length : Int) - 16)).toNat, s.drop (IntKind.i64.wrap ((s.length : Int) - 16)).toNat⟩ := by rw [w4, Int.toNat_natCast]
                rw [hq]
                clear hq w4
                refine gF [.f, .f, cc k1, .f, .f, cc k2, .f, cc k3, .f, cc k4, .f, .f, .f] rfl (ret_of rfl ?_ trivial trivial)
                exact ⟨⟨rfl, rfl⟩, rfl, rfl⟩
              · rw [if_pos (.inr c7)]
                simp only
                rw [frC_bad (by decide)]
                have e7 : ((s.length : Int).tmod 16 != 0) = true := by
                  have : (s.length : Int).tmod 16 = ((s.length % 16 : Nat) : Int) := rfl
                  rw [this]; simp; omega
                refine gF [.f, .f, cc k1, .f, .f, cc k2, .f, cc k3, .f, cc k4, .f, .f, .t] rfl (ret_of rfl ?_ trivial trivial)
                exact ⟨⟨rfl, rfl⟩, rfl, rfl⟩
        · rw [if_pos c5, frC_bad c5]
          have e5 : (er != 0) = true := by simpa using c5
          refine gF [.f, .f, cc k1, .f, .f, cc k2, .f, cc k3, .t] rfl (ret_of rfl ?_ trivial trivial)
          exact ⟨⟨rfl, rfl⟩, rfl, rfl⟩
      · rw [if_pos c4, frC_bad c4]
        have e5 : (er != 0) = true := by simpa using c4
        refine gF [.f, .f, cc k1, .f, .f, cc k2, .t] rfl (ret_of rfl ?_ trivial trivial)
        exact ⟨⟨rfl, rfl⟩, rfl, rfl⟩
    · have e3' : (n != (b.length : Int)) = true := by simpa using c3
      rw [if_pos c3, frC_bad (by decide)]
      refine gF [.f, .f, cc k1, .f, .t] rfl (ret_of rfl ?_ trivial trivial)
      exact ⟨⟨rfl, rfl⟩, rfl, rfl⟩
  · have e2 : ((hDec b).2 != 0) = true := by simpa using c2
    rw [if_pos c2, frC_bad c2]
    refine gF [.f, .f, cc k1, .t] rfl (ret_of rfl ?_ trivial trivial)
    exact ⟨⟨rfl, rfl⟩, rfl, rfl⟩
end Go.Proofs.YtipomdmlkkifcaaGreatDoor.Vm
