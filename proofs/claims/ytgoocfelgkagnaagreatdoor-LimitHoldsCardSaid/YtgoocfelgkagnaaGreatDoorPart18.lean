/- Texts of one proof, gathered: FrameC FrameD. -/
import Derived.Test.YtgoocfelgkagnaaGreatDoorPart17
import Derived.Test.YtgoocfelgkagnaaGreatDoorPart14
import Derived.Test.YtgoocfelgkagnaaGreatDoorPart10
/- Contracts: frame.cut, .Cut, .Parts. -/
set_option linter.unusedVariables false
set_option linter.unusedSimpArgs false
set_option linter.unnecessarySimpa false
set_option maxRecDepth 100000
namespace Go.Proofs.YtgoocfelgkagnaaGreatDoor.Vm
open Go Go.Proofs Go.RowKit Go.Proofs.YtgoocfelgkagnaaGreatDoor.Flt
variable {ml : Int}
abbrev zeroes : List T := [.cx .f64 0 0, .cx .f64 0 0, .cx .f64 0 0, .cx .f64 0 0]
/-- Where a key block's parts stand. -/
def whOf (e : Int) (a n : Nat) : List T := if e = 0 then [xs 0 16, xs 16 (16 + (a : Int)), xs (16 + (a : Int)) ((n : Int) - 32), xs ((n : Int) - 32) n] else zeroes
theorem whOf_bad {e : Int} (h : e ≠ 0) (a n : Nat) : whOf e a n = zeroes := if_neg h
theorem whOf_ok (a n : Nat) : whOf 0 a n = [xs 0 16, xs 16 (16 + (a : Int)), xs (16 + (a : Int)) ((n : Int) - 32), xs ((n : Int) - 32) n] := rfl
theorem cut1 (b : List UInt8) (a : Nat) (h : 16 + a + 64 ≤ b.length) : cutO b (16 + (a : Int)) ((b.length : Int) - 32 - (16 + (a : Int))) = (b.drop (16 + a)).take ((b.drop (16 + a)).length - 32) := by
  unfold cutO
  rw [if_neg (by omega), List.length_drop]
  congr 1
  omega
theorem cut2 (b : List UInt8) (a : Nat) (h : 16 + a + 64 ≤ b.length) : cutO b ((b.length : Int) - 32) ((b.length : Int) - ((b.length : Int) - 32)) = (b.drop (16 + a)).drop ((b.drop (16 + a)).length - 32) := by
  unfold cutO
  rw [if_neg (by omega), List.length_drop, List.drop_drop]
  rw [List.take_of_length_le (by rw [List.length_drop]; omega)]
  congr 1; omega
set_option maxHeartbeats 4000000 in
theorem pCutX0 (b : List UInt8) (hb : b.length ≤ 100000) : Ret P (C ml) 48 [.s b] (.tup [.agg (frC (cutF b)), .agg (whOf (cutF b).2 (cutA b).2.1 b.length), .i .i64 (cutF b).2]) := by
  refine hret_of tab_ok Tryz.func48 rfl rfl (by kernel_rfl) rfl ?_
  unfold cutF
  refine g_run tab_ok mixed 3000 [] rfl trivial ?_
  refine g_weak (e' := [(0, .s b), (2, .p 2 0 0), (3, .p 3 0 0), (4, .i .i64 0)]) (h' := [(2, 0, .row false (.cell 42) noneCells), (3, 0, .row true 1 zeroes)]) ⟨⟨rfl, ⟨rfl, rfl, rfl, rfl⟩, ⟨rfl, rfl, rfl, rfl⟩, rfl, trivial⟩, ⟨⟨rfl, rfl, ⟨rfl, rfl, rfl, rfl, rfl, rfl, rfl, rfl, rfl, rfl⟩⟩, ⟨rfl, rfl, trivial⟩, trivial⟩, trivial⟩ ?_
  refine g_scope 1 ?_
  by_cases c0 : b = []
  · rw [if_pos c0, frC_bad (by decide), whOf_bad (by decide)]
    have e0 : (b == []) = true := by simp [c0]
    refine g_fin tab_ok mixed 3000 [.t, .a] rfl (by (simp only [AllR]; (repeat' first | exact True.intro | (show (_ : Bool) = _; assumption) | omega | apply And.intro); all_goals first | (simp; done) | (simp; omega) | exact Nat.le_of_ble_eq_true rfl | kernel_rfl)) (sp_ret (ret_of rfl ?_ trivial trivial))
    exact ⟨⟨rfl, rfl⟩, ⟨rfl, rfl⟩, rfl, rfl⟩
  rw [if_neg c0]
  have e0 : (b == []) = false := by simp [c0]
  by_cases c1 : b.length > 9999
  · rw [if_pos c1, frC_bad (by decide), whOf_bad (by decide)]
    refine g_fin tab_ok mixed 3000 [.f, .t, .a] rfl (by (simp only [AllR]; (repeat' first | exact True.intro | (show (_ : Bool) = _; assumption) | omega | apply And.intro); all_goals first | (simp; done) | (simp; omega) | exact Nat.le_of_ble_eq_true rfl | kernel_rfl)) (sp_ret (ret_of rfl ?_ trivial trivial))
    exact ⟨⟨rfl, rfl⟩, ⟨rfl, rfl⟩, rfl, rfl⟩
  rw [if_neg c1]
  have k1 := pDecode (ml := ml) b (by omega)
  by_cases c2 : (hDec b).2 = 0
  · have e2 : ((hDec b).2 != 0) = false := by simp [c2]
    have hl := hDec_len c2
    rw [if_neg (by simp [c2])]
    have k2 := pUnpackA (ml := ml) b (by omega) c2
    obtain ⟨u1, u2, u3⟩ := cutA_facts b c2
    generalize hDec b = hd at *
    obtain ⟨⟨n, l, k, ⟨u, m, v, e⟩⟩, er⟩ := hd
    simp only at c2 e2 k2 ⊢
    subst c2
    have s1 := spOf (ml := ml) 0 16 (by decide) (by decide) (by decide)
    by_cases c3 : n = b.length
    · have e3 : (n == (b.length : Int)) = true := by simp [c3]
      have e3' : (n != (b.length : Int)) = false := by simp [c3]
      rw [if_neg (by simp [c3])]
      generalize cutA b = ca at *
      obtain ⟨o, a, er⟩ := ca
      simp only [uTup] at u1 u2 u3 k2 ⊢
      by_cases c4 : er = 0
      · subst c4
        rw [if_neg (by simp)]
        have k3 := aFrom (ml := ml) o (by omega) u2
        generalize fromO o = fo at *
        obtain ⟨f, er⟩ := fo
        simp only at k3 ⊢
        have w1 : IntKind.i64.wrap (16 + (a : Int)) = 16 + a := w64 (by omega) (by omega)
        have s2 := spOf (ml := ml) 16 (16 + (a : Int)) (by decide) ⟨by omega, by omega⟩ (by omega)
        have s3 := spTo (ml := ml) 16 (16 + (a : Int)) (by decide) ⟨by omega, by omega⟩ (by omega)
        have s2 : Ret P (C ml) 27 [.i .i64 16, .i .i64 (IntKind.i64.wrap (16 + (a : Int)))] (xs 16 (16 + (a : Int))) := by rw [w1]; exact s2
        clear w1
        by_cases c5 : er = 0
        · subst c5
          rw [if_neg (by simp)]
          have w2 : IntKind.i64.wrap ((b.length : Int) - (16 + (a : Int))) = ((b.drop (16 + a)).length : Nat) := by rw [w64 (by omega) (by omega), List.length_drop]; omega
          have hrl : (b.drop (16 + a)).length = b.length - (16 + a) := List.length_drop
          rw [hexTail_two]
          by_cases c6 : (b.drop (16 + a)).length < 64
          · rw [if_pos (.inl c6)]
            simp only
            rw [frC_bad (by decide), whOf_bad (by decide)]
            have d1 : decide (IntKind.i64.wrap ((b.length : Int) - (16 + (a : Int))) < 64) = true := decide_eq_true (by rw [w2]; omega)
            clear w2
            refine g_fin tab_ok mixed 3000 [.f, .f, cc k1, .f, .f, cc s1, cc k2, .f, cc s2, cc k3, .f, .a, cc s3, .t] rfl (by (simp only [AllR]; (repeat' first | exact k1 | exact k2 | exact k3 | exact s1 | exact s2 | exact s3 | exact True.intro | (show (_ : Bool) = _; assumption) | omega | apply And.intro); all_goals first | (simp; done) | (simp; omega) | exact Nat.le_of_ble_eq_true rfl | kernel_rfl)) ?_
            refine ⟨_, rfl, ?_⟩
            refine g_fin tab_ok mixed 3000 [] rfl (by (simp only [AllR]; (repeat' first | exact True.intro | (show (_ : Bool) = _; assumption) | omega | apply And.intro); all_goals first | (simp; done) | (simp; omega) | exact Nat.le_of_ble_eq_true rfl | kernel_rfl)) (sp_ret (ret_of rfl ?_ trivial trivial))
            exact ⟨⟨rfl, rfl⟩, ⟨rfl, rfl⟩, rfl, rfl⟩
          have d1 : decide (IntKind.i64.wrap ((b.length : Int) - (16 + (a : Int))) < 64) = false := decide_eq_false (by rw [w2]; omega)
          by_cases c7 : (b.drop (16 + a)).length % 32 = 0
          · rw [if_neg (by omega)]
            have d2 : ((IntKind.i64.wrap ((b.length : Int) - (16 + (a : Int)))).tmod 32 != 0) = false := by
              rw [w2]
              have : ((b.drop (16 + a)).length : Int).tmod 32 = (((b.drop (16 + a)).length % 32 : Nat) : Int) := rfl
              rw [this, c7]; rfl
            have w3 : IntKind.i64.wrap (IntKind.i64.wrap ((b.length : Int) - (16 + (a : Int))) - 32) = (b.length : Int) - 32 - (16 + (a : Int)) := by rw [w2, w64 (by omega) (by omega)]; omega
            have hp : (2 : Nat) ^ 53 = 9007199254740992 := rfl
            have i1 : FloatKind.f64.format.add (nr (16 + (a : Int))) (nr (IntKind.i64.wrap (IntKind.i64.wrap ((b.length : Int) - (16 + (a : Int))) - 32))) = some (nr ((b.length : Int) - 32)) := by
              rw [w3, add_nr (by omega) (by omega) (by omega)]
              congr 2; omega
            have w4 : IntKind.i64.wrap ((b.length : Int) - 32) = (b.length : Int) - 32 := w64 (by omega) (by omega)
            have s4 := spOf (ml := ml) 0 32 (by decide) (by decide) (by decide)
            have s5 := spShift (ml := ml) 0 32 ((b.length : Int) - 32) (by decide) (by decide) (by decide) ⟨by omega, by omega⟩ ⟨by omega, by omega⟩ ⟨by omega, by omega⟩
            have s5 : Ret P (C ml) 88 [xs 0 32, .i .i64 (IntKind.i64.wrap ((b.length : Int) - 32))] (xs ((b.length : Int) - 32) b.length) := by
              rw [w4]
              rw [show (0 : Int) + ((b.length : Int) - 32) = (b.length : Int) - 32 by omega, show (32 : Int) + ((b.length : Int) - 32) = b.length by omega] at s5
              exact s5
            have s6 := spCut (ml := ml) b (16 + (a : Int)) ((b.length : Int) - 32) ⟨by omega, by omega⟩ ⟨by omega, by omega⟩ (by omega) (by omega) (by omega)
            have s7 := spCut (ml := ml) b ((b.length : Int) - 32) b.length ⟨by omega, by omega⟩ ⟨by omega, by omega⟩ (by omega) (by omega) (by omega)
            rw [cut1 b a (by omega)] at s6
            rw [cut2 b a (by omega)] at s7
            have k4 := dUnhex (ml := ml) ((b.drop (16 + a)).take ((b.drop (16 + a)).length - 32)) (by rw [List.length_take]; omega)
            have k5 := dUnhex (ml := ml) ((b.drop (16 + a)).drop ((b.drop (16 + a)).length - 32)) (by rw [List.length_drop]; omega)
            generalize (b.drop (16 + a)).take ((b.drop (16 + a)).length - 32) = x1 at *
            generalize (b.drop (16 + a)).drop ((b.drop (16 + a)).length - 32) = x2 at *
            have hz : b.take (16 + a) = b.take (16 + (a : Int)).toNat := by congr 1
            have hz2 : 0 ≤ 16 + (a : Int) ∧ 16 + (a : Int) ≤ b.length := by omega
            rw [hz]
            clear w2 w3 w4 hp hz
            cases hu : unhexO x1 with
            | none =>
              rw [hu] at k4
              simp only [Option.getD, Option.isSome] at k4
              simp only
              rw [frC_bad (by decide), whOf_bad (by decide)]
              refine g_fin tab_ok mixed 3000 [.f, .f, cc k1, .f, .f, cc s1, cc k2, .f, cc s2, cc k3, .f, .a, cc s3, .f, .f, .a, .a, flo i1, cc s4, cc s5, .a, cc s3, .a, cc s6, cc k4, .t] rfl (by (simp only [AllR]; (repeat' first | exact k1 | exact k2 | exact k3 | exact s1 | exact s2 | exact s3 | exact i1 | exact s4 | exact s5 | exact s6 | exact k4 | exact hz2 | exact True.intro | (show (_ : Bool) = _; assumption) | omega | apply And.intro); all_goals first | (simp; done) | (simp; omega) | exact Nat.le_of_ble_eq_true rfl | kernel_rfl)) ?_
              refine ⟨_, rfl, ?_⟩
              refine g_fin tab_ok mixed 3000 [] rfl (by (simp only [AllR]; (repeat' first | exact True.intro | (show (_ : Bool) = _; assumption) | omega | apply And.intro); all_goals first | (simp; done) | (simp; omega) | exact Nat.le_of_ble_eq_true rfl | kernel_rfl)) (sp_ret (ret_of rfl ?_ trivial trivial))
              exact ⟨⟨rfl, rfl⟩, ⟨rfl, rfl⟩, rfl, rfl⟩
            | some cc1 =>
              rw [hu] at k4
              simp only [Option.getD, Option.isSome] at k4
              cases hv : unhexO x2 with
              | none =>
                rw [hv] at k5
                simp only [Option.getD, Option.isSome] at k5
                simp only
                rw [frC_bad (by decide), whOf_bad (by decide)]
                refine g_fin tab_ok mixed 3000 [.f, .f, cc k1, .f, .f, cc s1, cc k2, .f, cc s2, cc k3, .f, .a, cc s3, .f, .f, .a, .a, flo i1, cc s4, cc s5, .a, cc s3, .a, cc s6, cc k4, .f, .a, cc s7, cc k5, .f] rfl (by (simp only [AllR]; (repeat' first | exact k1 | exact k2 | exact k3 | exact s1 | exact s2 | exact s3 | exact i1 | exact s4 | exact s5 | exact s6 | exact s7 | exact k4 | exact k5 | exact hz2 | exact True.intro | (show (_ : Bool) = _; assumption) | omega | apply And.intro); all_goals first | (simp; done) | (simp; omega) | exact Nat.le_of_ble_eq_true rfl | kernel_rfl)) (sp_ret (ret_of rfl ?_ trivial trivial))
                exact ⟨⟨rfl, rfl⟩, ⟨rfl, rfl⟩, rfl, rfl⟩
              | some gg1 =>
                rw [hv] at k5
                simp only [Option.getD, Option.isSome] at k5
                simp only
                rw [frC_ok, whOf_ok]
                refine g_fin tab_ok mixed 3000 [.f, .f, cc k1, .f, .f, cc s1, cc k2, .f, cc s2, cc k3, .f, .a, cc s3, .f, .f, .a, .a, flo i1, cc s4, cc s5, .a, cc s3, .a, cc s6, cc k4, .f, .a, cc s7, cc k5, .t, .a] rfl (by (simp only [AllR]; (repeat' first | exact k1 | exact k2 | exact k3 | exact s1 | exact s2 | exact s3 | exact i1 | exact s4 | exact s5 | exact s6 | exact s7 | exact k4 | exact k5 | exact hz2 | exact True.intro | (show (_ : Bool) = _; assumption) | omega | apply And.intro); all_goals first | (simp; done) | (simp; omega) | exact Nat.le_of_ble_eq_true rfl | kernel_rfl)) (sp_ret (ret_of rfl ?_ trivial trivial))
                exact ⟨⟨rfl, rfl⟩, ⟨rfl, rfl⟩, rfl, rfl⟩
          · rw [if_pos (.inr c7)]
            simp only
            rw [frC_bad (by decide), whOf_bad (by decide)]
            have d2 : ((IntKind.i64.wrap ((b.length : Int) - (16 + (a : Int)))).tmod 32 != 0) = true := by
              rw [w2]
              have : ((b.drop (16 + a)).length : Int).tmod 32 = (((b.drop (16 + a)).length % 32 : Nat) : Int) := rfl
              rw [this]; simp only [bne_iff_ne, ne_eq]; omega
            clear w2
            refine g_fin tab_ok mixed 3000 [.f, .f, cc k1, .f, .f, cc s1, cc k2, .f, cc s2, cc k3, .f, .a, cc s3, .f, .t] rfl (by (simp only [AllR]; (repeat' first | exact k1 | exact k2 | exact k3 | exact s1 | exact s2 | exact s3 | exact True.intro | (show (_ : Bool) = _; assumption) | omega | apply And.intro); all_goals first | (simp; done) | (simp; omega) | exact Nat.le_of_ble_eq_true rfl | kernel_rfl)) ?_
            refine ⟨_, rfl, ?_⟩
            refine g_fin tab_ok mixed 3000 [] rfl (by (simp only [AllR]; (repeat' first | exact True.intro | (show (_ : Bool) = _; assumption) | omega | apply And.intro); all_goals first | (simp; done) | (simp; omega) | exact Nat.le_of_ble_eq_true rfl | kernel_rfl)) (sp_ret (ret_of rfl ?_ trivial trivial))
            exact ⟨⟨rfl, rfl⟩, ⟨rfl, rfl⟩, rfl, rfl⟩
        · rw [if_pos c5, frC_bad c5, whOf_bad c5]
          have e5 : (er != 0) = true := by simpa using c5
          refine g_fin tab_ok mixed 3000 [.f, .f, cc k1, .f, .f, cc s1, cc k2, .f, cc s2, cc k3, .t] rfl (by (simp only [AllR]; (repeat' first | exact k1 | exact k2 | exact k3 | exact s1 | exact s2 | exact True.intro | (show (_ : Bool) = _; assumption) | omega | apply And.intro); all_goals first | (simp; done) | (simp; omega) | exact Nat.le_of_ble_eq_true rfl | kernel_rfl)) ?_
          refine ⟨_, rfl, ?_⟩
          refine g_fin tab_ok mixed 3000 [] rfl (by (simp only [AllR]; (repeat' first | exact True.intro | (show (_ : Bool) = _; assumption) | omega | apply And.intro); all_goals first | (simp; done) | (simp; omega) | exact Nat.le_of_ble_eq_true rfl | kernel_rfl)) (sp_ret (ret_of rfl ?_ trivial trivial))
          exact ⟨⟨rfl, rfl⟩, ⟨rfl, rfl⟩, rfl, rfl⟩
      · rw [if_pos c4, frC_bad c4, whOf_bad c4]
        have e5 : (er != 0) = true := by simpa using c4
        refine g_fin tab_ok mixed 3000 [.f, .f, cc k1, .f, .f, cc s1, cc k2, .t] rfl (by (simp only [AllR]; (repeat' first | exact k1 | exact k2 | exact s1 | exact True.intro | (show (_ : Bool) = _; assumption) | omega | apply And.intro); all_goals first | (simp; done) | (simp; omega) | exact Nat.le_of_ble_eq_true rfl | kernel_rfl)) ?_
        refine ⟨_, rfl, ?_⟩
        refine g_fin tab_ok mixed 3000 [] rfl (by (simp only [AllR]; (repeat' first | exact True.intro | (show (_ : Bool) = _; assumption) | omega | apply And.intro); all_goals first | (simp; done) | (simp; omega) | exact Nat.le_of_ble_eq_true rfl | kernel_rfl)) (sp_ret (ret_of rfl ?_ trivial trivial))
        exact ⟨⟨rfl, rfl⟩, ⟨rfl, rfl⟩, rfl, rfl⟩
    · have e3' : (n != (b.length : Int)) = true := by simpa using c3
      rw [if_pos c3, frC_bad (by decide), whOf_bad (by decide)]
      refine g_fin tab_ok mixed 3000 [.f, .f, cc k1, .f, .t] rfl (by (simp only [AllR]; (repeat' first | exact k1 | exact k2 | exact True.intro | (show (_ : Bool) = _; assumption) | omega | apply And.intro); all_goals first | (simp; done) | (simp; omega) | exact Nat.le_of_ble_eq_true rfl | kernel_rfl)) ?_
      refine ⟨_, rfl, ?_⟩
      refine g_fin tab_ok mixed 3000 [] rfl (by (simp only [AllR]; (repeat' first | exact True.intro | (show (_ : Bool) = _; assumption) | omega | apply And.intro); all_goals first | (simp; done) | (simp; omega) | exact Nat.le_of_ble_eq_true rfl | kernel_rfl)) (sp_ret (ret_of rfl ?_ trivial trivial))
      exact ⟨⟨rfl, rfl⟩, ⟨rfl, rfl⟩, rfl, rfl⟩
  · have e2 : ((hDec b).2 != 0) = true := by simpa using c2
    rw [if_pos c2, frC_bad c2, whOf_bad c2]
    refine g_fin tab_ok mixed 3000 [.f, .f, cc k1, .t] rfl (by (simp only [AllR]; (repeat' first | exact k1 | exact True.intro | (show (_ : Bool) = _; assumption) | omega | apply And.intro); all_goals first | (simp; done) | (simp; omega) | exact Nat.le_of_ble_eq_true rfl | kernel_rfl)) ?_
    refine ⟨_, rfl, ?_⟩
    refine g_fin tab_ok mixed 3000 [] rfl (by (simp only [AllR]; (repeat' first | exact True.intro | (show (_ : Bool) = _; assumption) | omega | apply And.intro); all_goals first | (simp; done) | (simp; omega) | exact Nat.le_of_ble_eq_true rfl | kernel_rfl)) (sp_ret (ret_of rfl ?_ trivial trivial))
    exact ⟨⟨rfl, rfl⟩, ⟨rfl, rfl⟩, rfl, rfl⟩
end Go.Proofs.YtgoocfelgkagnaaGreatDoor.Vm
/- Contracts: frame.Cut, .Parts, clavigerplain.Attrs, span.Count, the law's same. -/
set_option maxRecDepth 100000
namespace Go.Proofs.YtgoocfelgkagnaaGreatDoor.Vm
open Go Go.Proofs Go.RowKit Go.Proofs.YtgoocfelgkagnaaGreatDoor.Flt
variable {ml : Int}
theorem pCutF0 (b : List UInt8) (hb : b.length ≤ 100000) : Ret P (C ml) 21 [.s b] (.tup [.agg (frC (cutF b)), .i .i64 (cutF b).2]) := by
  refine hret_of tab_ok Tryz.func21 rfl rfl (by kernel_rfl) rfl ?_
  have k1 := pCutX0 (ml := ml) b hb
  unfold frC whOf at k1
  unfold frC
  by_cases h : (cutF b).2 = 0
  · rw [if_pos h, if_pos h, h] at k1
    rw [if_pos h, h]
    refine g_fin tab_ok mixed 3000 [cc k1] rfl (by (simp only [AllR]; (repeat' first | exact k1 | exact True.intro | (show (_ : Bool) = _; assumption) | omega | apply And.intro); all_goals first | (simp; done) | (simp; omega) | exact Nat.le_of_ble_eq_true rfl | kernel_rfl)) (ret_of rfl ?_ trivial trivial)
    exact ⟨⟨rfl, rfl⟩, rfl, rfl⟩
  · rw [if_neg h, if_neg h] at k1
    rw [if_neg h]
    refine g_fin tab_ok mixed 3000 [cc k1] rfl (by (simp only [AllR]; (repeat' first | exact k1 | exact True.intro | (show (_ : Bool) = _; assumption) | omega | apply And.intro); all_goals first | (simp; done) | (simp; omega) | exact Nat.le_of_ble_eq_true rfl | kernel_rfl)) (ret_of rfl ?_ trivial trivial)
    exact ⟨⟨rfl, rfl⟩, rfl, rfl⟩
/-- What Parts gives. -/
def ptT (b : List UInt8) : T := if (cutF b).2 = 0 then .sl 4 (whOf 0 (cutA b).2.1 b.length) else .nsl
theorem pParts (b : List UInt8) (hb : b.length ≤ 100000) : Ret P (C ml) 26 [.s b] (ptT b) := by
  refine hret_of tab_ok Tryz.func26 rfl rfl (by kernel_rfl) rfl ?_
  have k1 := pCutX0 (ml := ml) b hb
  unfold frC whOf at k1
  unfold ptT whOf
  by_cases h : (cutF b).2 = 0
  · rw [if_pos h, if_pos h, h] at k1
    rw [if_pos h, if_pos rfl]
    refine g_end_frz 4 ?_
    refine g_fin tab_ok mixed 3000 [cc k1, .f] rfl (by (simp only [AllR]; (repeat' first | exact k1 | exact True.intro | (show (_ : Bool) = _; assumption) | omega | apply And.intro); all_goals first | (simp; done) | (simp; omega) | exact Nat.le_of_ble_eq_true rfl | kernel_rfl)) ⟨rfl, _, _, rfl, ret_of rfl ?_ trivial trivial⟩
    exact rfl
  · rw [if_neg h, if_neg h] at k1
    rw [if_neg h]
    have h1 : ((cutF b).2 != 0) = true := by simpa using h
    refine g_fin tab_ok mixed 3000 [cc k1, .t] rfl (by (simp only [AllR]; (repeat' first | exact k1 | exact True.intro | (show (_ : Bool) = _; assumption) | omega | apply And.intro); all_goals first | (simp; done) | (simp; omega) | exact Nat.le_of_ble_eq_true rfl | kernel_rfl)) (ret_of rfl ?_ trivial trivial)
    exact rfl
theorem eqAttr (d : Nat) (w : World) (n n' : Int) (s s' : ByteArray) : (Op.equalIn (d + 2) 61 (.agg #[.int .i64 n, .string s]) (.agg #[.int .i64 n', .string s'])).run P w = .ok (n == n' && s == s') w := by
  have hs : P.stoodInHeld 61 = false := by kernel_rfl
  have hi := Tryz.isAgg9
  have hj := Tryz.isAgg3
  rw [Op.equalIn]
  simp [run_underlying Tryz.underlying61, hs, part, hi, hj, eqStr, eqInt]
  by_cases h1 : n = n' <;> cases s == s' <;> simp [h1]
theorem says_attr {X Y : Operand} (n n' : Int) (s s' : List UInt8) :
    Says P .eql 61 X Y (.agg [.i .i64 n, .s s]) (.agg [.i .i64 n', .s s']) (n == n' && s == s') ∧
    Says P .neq 61 X Y (.agg [.i .i64 n, .s s]) (.agg [.i .i64 n', .s s']) (!(n == n' && s == s')) := by
  refine says_agg (by kernel_rfl) fun ρ hf I us vs w h1 h2 => ?_
  simp only [VRs, VR] at h1 h2
  obtain ⟨_, _, rfl, rfl, _, _, rfl, rfl, rfl⟩ := h1
  obtain ⟨_, _, rfl, rfl, _, _, rfl, rfl, rfl⟩ := h2
  have := eqAttr 9998 w n n' ⟨⟨s⟩⟩ ⟨⟨s'⟩⟩
  simpa only [ba_beq] using this
theorem plainAttrs (l : List Att) (hl : l.length ≤ 100000) : Ret P (C ml) 25 [.sl l.length (attCells l), .sl l.length (attCells l)] (.b true) := by
  refine hret_of tab_ok Tryz.func25 rfl rfl (by kernel_rfl) rfl ?_
  refine g_run tab_ok mixed 3000 [.f] rfl (by (simp only [AllR]; (repeat' first | exact True.intro | (show (_ : Bool) = _; assumption) | omega | apply And.intro); all_goals first | (simp; done) | (simp; omega) | exact Nat.le_of_ble_eq_true rfl | kernel_rfl)) ?_
  refine g_loop (fun i : Nat => [(0, .sl l.length (attCells l)), (1, .sl l.length (attCells l)), (5, .i .i64 i)]) (fun _ => []) (fun i => i ≤ l.length) (fun i => l.length - i) 0 ⟨⟨rfl, rfl, rfl, trivial⟩, trivial, trivial⟩ (by omega) ?_
  intro i i1
  by_cases hi : i < l.length
  · have h2 := attCells_two l i hi
    generalize (l.getD i (0, [])).1 = x at *
    generalize (l.getD i (0, [])).2 = v at *
    have e1 : ∀ X Y : Operand, Says P .neq 61 X Y (.agg [.i .i64 x, .s v]) (.agg [.i .i64 x, .s v]) false := fun X Y => by
      have := (says_attr (X := X) (Y := Y) x x v v).2
      rwa [show (!(x == x && v == v)) = false by simp] at this
    refine g_fin tab_ok mixed 3000 [.t, ldv h2, ldv h2, sz (e1 (Operand.tmp 20) (Operand.tmp 24)), .f] rfl (by (simp only [AllR]; (repeat' first | exact h2 | exact e1 _ _ | exact True.intro | (show (_ : Bool) = _; assumption) | omega | apply And.intro); all_goals first | (simp; done) | (simp; omega) | exact Nat.le_of_ble_eq_true rfl | kernel_rfl)) (rd_next (i + 1) (by omega) (by omega) ⟨rfl, rfl, ?_, trivial⟩ trivial trivial)
    (simp [look, tle]; omega)
  · have e : i = l.length := by omega
    subst e
    refine g_fin tab_ok mixed 3000 [.f] rfl (by (simp only [AllR]; (repeat' first | exact True.intro | (show (_ : Bool) = _; assumption) | omega | apply And.intro); all_goals first | (simp; done) | (simp; omega) | exact Nat.le_of_ble_eq_true rfl | kernel_rfl)) (rd_exit rfl ?_)
    refine g_fin tab_ok mixed 3000 [] rfl (by (simp only [AllR]; (repeat' first | exact True.intro | (show (_ : Bool) = _; assumption) | omega | apply And.intro); all_goals first | (simp; done) | (simp; omega) | exact Nat.le_of_ble_eq_true rfl | kernel_rfl)) (ret_of rfl ?_ trivial trivial)
    simp [tle, look]
theorem plainAttrsNil : Ret P (C ml) 25 [.nsl, .nsl] (.b true) := by
  refine ret_args (args := [.sl 0 [], .sl 0 []]) (fun ρ I vals h => ?_) (plainAttrs (ml := ml) [] (by decide))
  unfold VRs at h ⊢
  obtain ⟨v, rs, rfl, h1, h2⟩ := h
  unfold VRs at h2
  obtain ⟨v2, rs2, rfl, h3, h4⟩ := h2
  refine ⟨v, _, rfl, nil_sl h1, ?_⟩
  unfold VRs
  exact ⟨v2, rs2, rfl, nil_sl h3, h4⟩
theorem sameX (x : Fr) (ha : x.a.length ≤ 100000) : Ret P (C ml) 23 [.agg x.cells, .agg x.cells] (.b true) := by
  refine hret_of tab_ok Tryz.func23 rfl rfl (by kernel_rfl) rfl ?_
  have k1 := plainAttrs (ml := ml) x.a ha
  have e1 : ∀ X Y : Operand, Says P .eql 34 X Y (.agg [.s x.h.u, .s x.h.m, .s x.h.v, .s x.h.e]) (.agg [.s x.h.u, .s x.h.m, .s x.h.v, .s x.h.e]) true := fun X Y => by
    have := (says_head (X := X) (Y := Y) x.h.u x.h.m x.h.v x.h.e x.h.u x.h.m x.h.v x.h.e).1
    rwa [show (x.h.u == x.h.u && (x.h.m == x.h.m && (x.h.v == x.h.v && x.h.e == x.h.e))) = true by simp] at this
  have b1 : (x.l == x.l) = true := beq_self_eq_true _
  have b2 : (x.t == x.t) = true := beq_self_eq_true _
  have b3 : (x.c == x.c) = true := beq_self_eq_true _
  have b4 : (x.g == x.g) = true := beq_self_eq_true _
  refine g_fin tab_ok mixed 3000 [.t, sz (e1 (Operand.tmp 12) (Operand.tmp 14)), .t, cc k1, .t, .t, .t] rfl (by (simp only [AllR]; (repeat' first | exact k1 | exact e1 _ _ | exact True.intro | (show (_ : Bool) = _; assumption) | omega | apply And.intro); all_goals first | (simp; done) | (simp; omega) | exact Nat.le_of_ble_eq_true rfl | kernel_rfl)) (ret_of rfl ?_ trivial trivial)
  exact .inl (congrArg T.b b4)
theorem sameNil : Ret P (C ml) 23 [.agg noneCells, .agg noneCells] (.b true) := by
  refine hret_of tab_ok Tryz.func23 rfl rfl (by kernel_rfl) rfl ?_
  have k1 := plainAttrsNil (ml := ml)
  have e1 : ∀ X Y : Operand, Says P .eql 34 X Y (.agg [.s [], .s [], .s [], .s []]) (.agg [.s [], .s [], .s [], .s []]) true := fun X Y => by
    have := (says_head (X := X) (Y := Y) [] [] [] [] [] [] [] []).1
    exact this
  have b1 : (([] : List UInt8) == []) = true := rfl
  refine g_fin tab_ok mixed 3000 [.t, sz (e1 (Operand.tmp 12) (Operand.tmp 14)), .t, cc k1, .t, .t, .t] rfl (by (simp only [AllR]; (repeat' first | exact k1 | exact e1 _ _ | exact True.intro | (show (_ : Bool) = _; assumption) | omega | apply And.intro); all_goals first | (simp; done) | (simp; omega) | exact Nat.le_of_ble_eq_true rfl | kernel_rfl)) (ret_of rfl ?_ trivial trivial)
  exact .inl (congrArg T.b b1)
theorem nr1 : nr 1 = 4607182418800017408 := by decide +kernel
theorem nr4 : nr 4 = 4616189618054758400 := by decide +kernel
/-- Four spans, one behind the other. -/
def spans (c : Nat → Int) : List T := [xs (c 0) (c 1), xs (c 1) (c 2), xs (c 2) (c 3), xs (c 3) (c 4)]
theorem spans_at (c : Nat → Int) (i : Nat) (h : i < 4) : (spans c)[i]? = some (xs (c i) (c (i + 1))) := by
  match i, h with
  | 0, _ => rfl
  | 1, _ => rfl
  | 2, _ => rfl
  | 3, _ => rfl
theorem spCount (c : Nat → Int) (h0 : c 0 = 0) (hs : ∀ i, i < 5 → sp (c i)) (hm : ∀ i, i < 4 → c i ≤ c (i + 1)) : Ret P (C ml) 31 [.sl 4 (spans c)] (xs 4 (c 4)) := by
  refine hret_of tab_ok Tryz.func31 rfl rfl (by kernel_rfl) rfl ?_
  refine g_run tab_ok mixed 3000 [] rfl (by (simp only [AllR]; (repeat' first | exact True.intro | (show (_ : Bool) = _; assumption) | omega | apply And.intro); all_goals first | (simp; done) | (simp; omega) | exact Nat.le_of_ble_eq_true rfl | kernel_rfl)) ?_
  refine g_loop (fun i : Nat => [(3, xs i (c i)), (6, .sl 4 (spans c)), (7, .i .i64 4), (8, .i .i64 i)]) (fun _ => []) (fun i => i ≤ 4) (fun i => 4 - i) 0 ⟨⟨?_, rfl, rfl, rfl, trivial⟩, trivial, trivial⟩ (by omega) ?_
  · show T.cx .f64 0 0 = T.cx .f64 (nr 0) (nr (c 0)); rw [h0]; rfl
  intro i i1
  by_cases hi : i < 4
  · have h2 : (spans c)[i * 1]? = some (xs (c i) (c (i + 1))) := by rw [Nat.mul_one]; exact spans_at c i hi
    have a1 := hs i (by omega)
    have a2 := hs (i + 1) (by omega)
    have a3 := hm i hi
    have k1 := spMay (ml := ml) (c i) (c (i + 1)) a1 a2
    rw [decide_eq_true a3] at k1
    obtain ⟨a4, a5⟩ := a1
    obtain ⟨a6, a7⟩ := a2
    have hp : (2 : Nat) ^ 53 = 9007199254740992 := rfl
    have j1 : FloatKind.f64.format.sub (nr (c (i + 1))) (nr (c i)) = some (nr (c (i + 1) - c i)) := sub_nr (by omega) (by omega) (by omega)
    have j2 : FloatKind.f64.format.add (nr (i : Int)) 4607182418800017408 = some (nr ((i + 1 : Nat) : Int)) ∧ FloatKind.f64.format.add (nr (c i)) (nr (c (i + 1) - c i)) = some (nr (c (i + 1))) := by
      constructor
      · rw [← nr1, add_nr (by omega) (by omega) (by omega)]; rfl
      · rw [add_nr (by omega) (by omega) (by omega)]; congr 2; omega
    clear a4 a5 a6 a7 hp a3
    generalize hy : c (i + 1) = y at *
    refine g_fin tab_ok mixed 3000 [.t, ld1 h2, cc k1, .t, flo j1, cxo j2] rfl (by (simp only [AllR]; (repeat' first | exact k1 | exact h2 | exact j1 | exact j2 | exact True.intro | (show (_ : Bool) = _; assumption) | omega | apply And.intro); all_goals first | (simp; done) | (simp; omega) | exact Nat.le_of_ble_eq_true rfl | kernel_rfl)) (rd_next (i + 1) (by omega) (by omega) ⟨?_, rfl, rfl, ?_, trivial⟩ trivial trivial)
    · show T.cx .f64 (nr ((i + 1 : Nat) : Int)) (nr y) = T.cx .f64 (nr ((i + 1 : Nat) : Int)) (nr (c (i + 1))); rw [hy]
    · (simp [look, tle]; omega)
  · have e : i = 4 := by omega
    subst e
    refine g_fin tab_ok mixed 3000 [.f] rfl (by (simp only [AllR]; (repeat' first | exact True.intro | (show (_ : Bool) = _; assumption) | omega | apply And.intro); all_goals first | (simp; done) | (simp; omega) | exact Nat.le_of_ble_eq_true rfl | kernel_rfl)) (rd_exit rfl ?_)
    refine g_fin tab_ok mixed 3000 [] rfl (by (simp only [AllR]; (repeat' first | exact True.intro | (show (_ : Bool) = _; assumption) | omega | apply And.intro); all_goals first | (simp; done) | (simp; omega) | exact Nat.le_of_ble_eq_true rfl | kernel_rfl)) (ret_of rfl ?_ trivial trivial)
    exact rfl
end Go.Proofs.YtgoocfelgkagnaaGreatDoor.Vm
