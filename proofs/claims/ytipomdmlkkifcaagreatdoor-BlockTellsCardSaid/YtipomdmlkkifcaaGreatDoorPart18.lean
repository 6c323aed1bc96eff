/- Texts of one proof, gathered: FrameC FrameD. -/
import Derived.Test.YtipomdmlkkifcaaGreatDoorPart17
import Derived.Test.YtipomdmlkkifcaaGreatDoorPart14
import Derived.Test.YtipomdmlkkifcaaGreatDoorPart10
set_option linter.unusedSimpArgs false
set_option linter.unusedVariables false
set_option linter.unnecessarySimpa false
/- Contracts: frame.cut, .Cut, .Parts. -/
set_option maxRecDepth 100000
namespace Go.Proofs.YtipomdmlkkifcaaGreatDoor.Vm
open Go Go.Proofs Go.RowKit Go.Proofs.YtipomdmlkkifcaaGreatDoor.Flt
variable {ml : Int}
abbrev zeroes : List T := [.cx .f64 0 0, .cx .f64 0 0, .cx .f64 0 0, .cx .f64 0 0]
/-- Where a key block's parts stand. -/
def whOf (e : Int) (a n : Nat) : List T := if e = 0 then [xs 0 16, xs 16 (16 + (a : Int)), xs (16 + (a : Int)) ((n : Int) - 32), xs ((n : Int) - 32) n] else zeroes
theorem whOf_bad {e : Int} (h : e ≠ 0) (a n : Nat) : whOf e a n = zeroes := if_neg h
theorem whOf_ok (a n : Nat) : whOf 0 a n = [xs 0 16, xs 16 (16 + (a : Int)), xs (16 + (a : Int)) ((n : Int) - 32), xs ((n : Int) - 32) n] := rfl
theorem cut1 (b : List UInt8) (a : Nat) (h : 16 + a + 64 ≤ b.length) : cutO b (16 + (a : Int)) ((b.length : Int) - 32 - (16 + (a : Int))) = (b.drop (16 + a)).take ((b.drop (16 + a)).length - 32) := by
  unfold cutO
  rw [if_neg (by omega), List.length_drop]
  congr 1
  omega
theorem cut2 (b : List UInt8) (a : Nat) (h : 16 + a + 64 ≤ b.length) : cutO b ((b.length : Int) - 32) ((b.length : Int) - ((b.length : Int) - 32)) = (b.drop (16 + a)).drop ((b.drop (16 + a)).length - 32) := by
  unfold cutO
  rw [if_neg (by omega), List.length_drop, List.drop_drop]
  rw [List.take_of_length_le (by rw [List.length_drop]; omega)]
  congr 1; omega
set_option maxHeartbeats 4000000 in
theorem pCutX0 (b : List UInt8) (hb : b.length ≤ 100000) : Ret P (C ml) 69 [.s b] (.tup [.agg (frC (cutF b)), .agg (whOf (cutF b).2 (cutA b).2.1 b.length), .i .i64 (cutF b).2]) := by
  refine hR Tryz.func69 ?_
  unfold cutF
  refine g_run tab_ok mixed 3000 [] rfl trivial ?_
  refine g_weak (e' := [(0, .s b), (2, .p 2 0 0), (3, .p 3 0 0), (4, .i .i64 0)]) (h' := [(2, 0, .row false (.cell 54) noneCells), (3, 0, .row true 1 zeroes)]) ⟨⟨rfl, ⟨rfl, rfl, rfl, rfl⟩, ⟨rfl, rfl, rfl, rfl⟩, rfl, trivial⟩, ⟨⟨rfl, rfl, ⟨rfl, rfl, rfl, rfl, rfl, rfl, rfl, rfl, rfl, rfl⟩⟩, ⟨rfl, rfl, trivial⟩, trivial⟩, trivial⟩ ?_
  refine g_scope 1 ?_
  by_cases c0 : b = []
  · rw [if_pos c0, frC_bad (by decide), whOf_bad (by decide)]
    have e0 : (b == []) = true := by simp [c0]
    refine gF [.t, .a] rfl (sp_ret (ret_of rfl ?_ trivial trivial))
    exact ⟨⟨rfl, rfl⟩, ⟨rfl, rfl⟩, rfl, rfl⟩
  rw [if_neg c0]
  have e0 : (b == []) = false := by simp [c0]
  by_cases c1 : b.length > 9999
  · rw [if_pos c1, frC_bad (by decide), whOf_bad (by decide)]
    refine gF [.f, .t, .a] rfl (sp_ret (ret_of rfl ?_ trivial trivial))
    exact ⟨⟨rfl, rfl⟩, ⟨rfl, rfl⟩, rfl, rfl⟩
  rw [if_neg c1]
  have k1 := pDecode (ml := ml) b (by omega)
  by_cases c2 : (hDec b).2 = 0
  · have e2 : ((hDec b).2 != 0) = false := by simp [c2]
    have hl := hDec_len c2
    rw [if_neg (by simp [c2])]
    have k2 := pUnpackA (ml := ml) b (by omega) c2
    obtain ⟨u1, u2, u3⟩ := cutA_facts b c2
    generalize hDec b = hd at *
    obtain ⟨⟨n, l, k, ⟨u, m, v, e⟩⟩, er⟩ := hd
    simp only at c2 e2 k2 ⊢
    subst c2
    have s1 := spOf (ml := ml) 0 16 (by decide) (by decide) (by decide)
    by_cases c3 : n = b.length
    · have e3 : (n == (b.length : Int)) = true := by simp [c3]
      have e3' : (n != (b.length : Int)) = false := by simp [c3]
      rw [if_neg (by simp [c3])]
      generalize cutA b = ca at *
      obtain ⟨o, a, er⟩ := ca
      simp only [uTup] at u1 u2 u3 k2 ⊢
      by_cases c4 : er = 0
      · subst c4
        rw [if_neg (by simp)]
        have k3 := aFrom (ml := ml) o (by omega) u2
        generalize fromO o = fo at *
        obtain ⟨f, er⟩ := fo
        simp only at k3 ⊢
        have w1 : IntKind.i64.wrap (16 + (a : Int)) = 16 + a := w64 (by omega) (by omega)
        have s2 := spOf (ml := ml) 16 (16 + (a : Int)) (by decide) ⟨by omega, by omega⟩ (by omega)
        have s3 := spTo (ml := ml) 16 (16 + (a : Int)) (by decide) ⟨by omega, by omega⟩ (by omega)
        have s2 : Ret P (C ml) 127 [.i .i64 16, .i .i64 (IntKind.i64.wrap (16 + (a : Int)))] (xs 16 (16 + (a : Int))) := by rw [w1]; exact s2
        clear w1
        by_cases c5 : er = 0
        · subst c5
          rw [if_neg (by simp)]
          have w2 : IntKind.i64.wrap ((b.length : Int) - (16 + (a : Int))) = ((b.drop (16 + a)).length : Nat) := by rw [w64 (by omega) (by omega), List.length_drop]; omega
          have hrl : (b.drop (16 + a)).length = b.length - (16 + a) := List.length_drop
          rw [hexTail_two]
          by_cases c6 : (b.drop (16 + a)).length < 64
          · rw [if_pos (.inl c6)]
            simp only
            rw [frC_bad (by decide), whOf_bad (by decide)]
            have d1 : decide (IntKind.i64.wrap ((b.length : Int) - (16 + (a : Int))) < 64) = true := decide_eq_true (by rw [w2]; omega)
            clear w2
            refine gF [.f, .f, cc k1, .f, .f, cc s1, cc k2, .f, cc s2, cc k3, .f, .a, cc s3, .t] rfl ?_
            refine ⟨_, rfl, ?_⟩
            refine gF [] rfl (sp_ret (ret_of rfl ?_ trivial trivial))
            exact ⟨⟨rfl, rfl⟩, ⟨rfl, rfl⟩, rfl, rfl⟩
          have d1 : decide (IntKind.i64.wrap ((b.length : Int) - (16 + (a : Int))) < 64) = false := decide_eq_false (by rw [w2]; omega)
          by_cases c7 : (b.drop (16 + a)).length % 32 = 0
          · rw [if_neg (by omega)]
            have d2 : ((IntKind.i64.wrap ((b.length : Int) - (16 + (a : Int)))).tmod 32 != 0) = false := by
              rw [w2]
              have : ((b.drop (16 + a)).length : Int).tmod 32 = (((b.drop (16 + a)).length % 32 : Nat) : Int) := rfl
              rw [this, c7]; rfl
            have w3 : IntKind.i64.wrap (IntKind.i64.wrap ((b.length : Int) - (16 + (a : Int))) - 32) = (b.length : Int) - 32 - (16 + (a : Int)) := by rw [w2, w64 (by omega) (by omega)]; omega
            have hp : (2 : Nat) ^ 53 = 9007199254740992 := rfl
            have i1 : FloatKind.f64.format.add (nr (16 + (a : Int))) (nr (IntKind.i64.wrap (IntKind.i64.wrap ((b.length : Int) - (16 + (a : Int))) - 32))) = some (nr ((b.length : Int) - 32)) := by
              rw [w3, add_nr (by omega) (by omega) (by omega)]
              congr 2; omega
            have w4 : IntKind.i64.wrap ((b.length : Int) - 32) = (b.length : Int) - 32 := w64 (by omega) (by omega)
            have s4 := spOf (ml := ml) 0 32 (by decide) (by decide) (by decide)
            have s5 := spShift (ml := ml) 0 32 ((b.length : Int) - 32) (by decide) (by decide) (by decide) ⟨by omega, by omega⟩ ⟨by omega, by omega⟩ ⟨by omega, by omega⟩
            have s5 : Ret P (C ml) 131 [xs 0 32, .i .i64 (IntKind.i64.wrap ((b.length : Int) - 32))] (xs ((b.length : Int) - 32) b.length) := by
              rw [w4]
              rw [show (0 : Int) + ((b.length : Int) - 32) = (b.length : Int) - 32 by omega, show (32 : Int) + ((b.length : Int) - 32) = b.length by omega] at s5
              exact s5
            have s6 := spCut (ml := ml) b (16 + (a : Int)) ((b.length : Int) - 32) ⟨by omega, by omega⟩ ⟨by omega, by omega⟩ (by omega) (by omega) (by omega)
            have s7 := spCut (ml := ml) b ((b.length : Int) - 32) b.length ⟨by omega, by omega⟩ ⟨by omega, by omega⟩ (by omega) (by omega) (by omega)
            rw [cut1 b a (by omega)] at s6
            rw [cut2 b a (by omega)] at s7
            have k4 := dUnhex (ml := ml) ((b.drop (16 + a)).take ((b.drop (16 + a)).length - 32)) (by rw [List.length_take]; omega)
            have k5 := dUnhex (ml := ml) ((b.drop (16 + a)).drop ((b.drop (16 + a)).length - 32)) (by rw [List.length_drop]; omega)
            generalize (b.drop (16 + a)).take ((b.drop (16 + a)).length - 32) = x1 at *
            generalize (b.drop (16 + a)).drop ((b.drop (16 + a)).length - 32) = x2 at *
            have hz : b.take (16 + a) = b.take (16 + (a : Int)).toNat := by congr 1
            have hz2 : 0 ≤ 16 + (a : Int) ∧ 16 + (a : Int) ≤ b.length := by omega
            rw [hz]
            clear w2 w3 w4 hp hz
            cases hu : unhexO x1 with
            | none =>
              rw [hu] at k4
              simp only [Option.getD, Option.isSome] at k4
              simp only
              rw [frC_bad (by decide), whOf_bad (by decide)]
              refine gF [.f, .f, cc k1, .f, .f, cc s1, cc k2, .f, cc s2, cc k3, .f, .a, cc s3, .f, .f, .a, .a, flo i1, cc s4, cc s5, .a, cc s3, .a, cc s6, cc k4, .t] rfl ?_
              refine ⟨_, rfl, ?_⟩
              refine gF [] rfl (sp_ret (ret_of rfl ?_ trivial trivial))
              exact ⟨⟨rfl, rfl⟩, ⟨rfl, rfl⟩, rfl, rfl⟩
            | some cc1 =>
              rw [hu] at k4
              simp only [Option.getD, Option.isSome] at k4
              cases hv : unhexO x2 with
              | none =>
                rw [hv] at k5
                simp only [Option.getD, Option.isSome] at k5
                simp only
                rw [frC_bad (by decide), whOf_bad (by decide)]
                refine gF [.f, .f, cc k1, .f, .f, cc s1, cc k2, .f, cc s2, cc k3, .f, .a, cc s3, .f, .f, .a, .a, flo i1, cc s4, cc s5, .a, cc s3, .a, cc s6, cc k4, .f, .a, cc s7, cc k5, .f] rfl (sp_ret (ret_of rfl ?_ trivial trivial))
                exact ⟨⟨rfl, rfl⟩, ⟨rfl, rfl⟩, rfl, rfl⟩
              | some gg1 =>
                rw [hv] at k5
                simp only [Option.getD, Option.isSome] at k5
                simp only
                rw [frC_ok, whOf_ok]
                refine gF [.f, .f, cc k1, .f, .f, cc s1, cc k2, .f, cc s2, cc k3, .f, .a, cc s3, .f, .f, .a, .a, flo i1, cc s4, cc s5, .a, cc s3, .a, cc s6, cc k4, .f, .a, cc s7, cc k5, .t, .a] rfl (sp_ret (ret_of rfl ?_ trivial trivial))
                exact ⟨⟨rfl, rfl⟩, ⟨rfl, rfl⟩, rfl, rfl⟩
          · rw [if_pos (.inr c7)]
            simp only
            rw [frC_bad (by decide), whOf_bad (by decide)]
            have d2 : ((IntKind.i64.wrap ((b.length : Int) - (16 + (a : Int)))).tmod 32 != 0) = true := by
              rw [w2]
              have : ((b.drop (16 + a)).length : Int).tmod 32 = (((b.drop (16 + a)).length % 32 : Nat) : Int) := rfl
              rw [this]; simp only [bne_iff_ne, ne_eq]; omega
            clear w2
            refine gF [.f, .f, cc k1, .f, .f, cc s1, cc k2, .f, cc s2, cc k3, .f, .a, cc s3, .f, .t] rfl ?_
            refine ⟨_, rfl, ?_⟩
            refine gF [] rfl (sp_ret (ret_of rfl ?_ trivial trivial))
            exact ⟨⟨rfl, rfl⟩, ⟨rfl, rfl⟩, rfl, rfl⟩
        · rw [if_pos c5, frC_bad c5, whOf_bad c5]
          have e5 : (er != 0) = true := by simpa using c5
          refine gF [.f, .f, cc k1, .f, .f, cc s1, cc k2, .f, cc s2, cc k3, .t] rfl ?_
          refine ⟨_, rfl, ?_⟩
          refine gF [] rfl (sp_ret (ret_of rfl ?_ trivial trivial))
          exact ⟨⟨rfl, rfl⟩, ⟨rfl, rfl⟩, rfl, rfl⟩
      · rw [if_pos c4, frC_bad c4, whOf_bad c4]
        have e5 : (er != 0) = true := by simpa using c4
        refine gF [.f, .f, cc k1, .f, .f, cc s1, cc k2, .t] rfl ?_
        refine ⟨_, rfl, ?_⟩
        refine gF [] rfl (sp_ret (ret_of rfl ?_ trivial trivial))
        exact ⟨⟨rfl, rfl⟩, ⟨rfl, rfl⟩, rfl, rfl⟩
    · have e3' : (n != (b.length : Int)) = true := by simpa using c3
      rw [if_pos c3, frC_bad (by decide), whOf_bad (by decide)]
      refine gF [.f, .f, cc k1, .f, .t] rfl ?_
      refine ⟨_, rfl, ?_⟩
      refine gF [] rfl (sp_ret (ret_of rfl ?_ trivial trivial))
      exact ⟨⟨rfl, rfl⟩, ⟨rfl, rfl⟩, rfl, rfl⟩
  · have e2 : ((hDec b).2 != 0) = true := by simpa using c2
    rw [if_pos c2, frC_bad c2, whOf_bad c2]
    refine gF [.f, .f, cc k1, .t] rfl ?_
    refine ⟨_, rfl, ?_⟩
    refine gF [] rfl (sp_ret (ret_of rfl ?_ trivial trivial))
    exact ⟨⟨rfl, rfl⟩, ⟨rfl, rfl⟩, rfl, rfl⟩
end Go.Proofs.YtipomdmlkkifcaaGreatDoor.Vm
/- Contracts: frame.Cut, .Parts, clavigerplain.Attrs, span.Count, the law's same. -/
set_option maxRecDepth 100000
namespace Go.Proofs.YtipomdmlkkifcaaGreatDoor.Vm
open Go Go.Proofs Go.RowKit Go.Proofs.YtipomdmlkkifcaaGreatDoor.Flt
variable {ml : Int}
theorem pCutF0 (b : List UInt8) (hb : b.length ≤ 100000) : Ret P (C ml) 27 [.s b] (.tup [.agg (frC (cutF b)), .i .i64 (cutF b).2]) := by
  refine hR Tryz.func27 ?_
  have k1 := pCutX0 (ml := ml) b hb
  unfold frC whOf at k1
  unfold frC
  by_cases h : (cutF b).2 = 0
  · rw [if_pos h, if_pos h, h] at k1
    rw [if_pos h, h]
    refine gF [cc k1] rfl (ret_of rfl ?_ trivial trivial)
    exact ⟨⟨rfl, rfl⟩, rfl, rfl⟩
  · rw [if_neg h, if_neg h] at k1
    rw [if_neg h]
    refine gF [cc k1] rfl (ret_of rfl ?_ trivial trivial)
    exact ⟨⟨rfl, rfl⟩, rfl, rfl⟩
theorem eqAttr (d : Nat) (w : World) (n n' : Int) (s s' : ByteArray) : (Op.equalIn (d + 2) 60 (.agg #[.int .i64 n, .string s]) (.agg #[.int .i64 n', .string s'])).run P w = .ok (n == n' && s == s') w := by
  have hs : P.stoodInHeld 60 = false := by kernel_rfl
  have hi := Tryz.isAgg9
  have hj := Tryz.isAgg3
  rw [Op.equalIn]
  simp [run_underlying Tryz.underlying60, hs, part, hi, hj, eqStr, eqInt]
  by_cases h1 : n = n' <;> cases s == s' <;> simp [h1]
theorem says_attr {X Y : Operand} (n n' : Int) (s s' : List UInt8) :
    Says P .eql 60 X Y (.agg [.i .i64 n, .s s]) (.agg [.i .i64 n', .s s']) (n == n' && s == s') ∧
    Says P .neq 60 X Y (.agg [.i .i64 n, .s s]) (.agg [.i .i64 n', .s s']) (!(n == n' && s == s')) := by
  refine says_agg (by kernel_rfl) fun ρ hf I us vs w h1 h2 => ?_
  simp only [VRs, VR] at h1 h2
  obtain ⟨_, _, rfl, rfl, _, _, rfl, rfl, rfl⟩ := h1
  obtain ⟨_, _, rfl, rfl, _, _, rfl, rfl, rfl⟩ := h2
  have := eqAttr 9998 w n n' ⟨⟨s⟩⟩ ⟨⟨s'⟩⟩
  simpa only [ba_beq] using this
theorem plainAttrs (l : List Att) (hl : l.length ≤ 100000) : Ret P (C ml) 52 [.sl l.length (attCells l), .sl l.length (attCells l)] (.b true) := by
  refine hR Tryz.func52 ?_
  refine gR [.f] rfl ?_
  refine g_loop (fun i : Nat => [(0, .sl l.length (attCells l)), (1, .sl l.length (attCells l)), (5, .i .i64 i)]) (fun _ => []) (fun i => i ≤ l.length) (fun i => l.length - i) 0 ⟨⟨rfl, rfl, rfl, trivial⟩, trivial, trivial⟩ (by omega) ?_
  intro i i1
  by_cases hi : i < l.length
  · have h2 := attCells_two l i hi
    generalize (l.getD i (0, [])).1 = x at *
    generalize (l.getD i (0, [])).2 = v at *
    have e1 : ∀ X Y : Operand, Says P .neq 60 X Y (.agg [.i .i64 x, .s v]) (.agg [.i .i64 x, .s v]) false := fun X Y => by
      have := (says_attr (X := X) (Y := Y) x x v v).2
      rwa [show (!(x == x && v == v)) = false by simp] at this
    refine g_fin tab_ok mixed 3000 [.t, ldv h2, ldv h2, sz (e1 (Operand.tmp 20) (Operand.tmp 24)), .f] rfl (by (simp only [AllR]; (repeat' first | exact h2 | exact e1 _ _ | exact True.intro | (show (_ : Bool) = _; assumption) | omega | apply And.intro); all_goals first | (simp; done) | (simp; omega) | exact Nat.le_of_ble_eq_true rfl | kernel_rfl)) (rd_next (i + 1) (by omega) (by omega) ⟨rfl, rfl, ?_, trivial⟩ trivial trivial)
    (simp [look, tle]; omega)
  · have e : i = l.length := by omega
    subst e
    refine gF [.f] rfl (rd_exit rfl ?_)
    refine gF [] rfl (ret_of rfl ?_ trivial trivial)
    simp [tle, look]
theorem plainAttrsNil : Ret P (C ml) 52 [.nsl, .nsl] (.b true) := by
  refine ret_args (args := [.sl 0 [], .sl 0 []]) (fun ρ I vals h => ?_) (plainAttrs (ml := ml) [] (by decide))
  unfold VRs at h ⊢
  obtain ⟨v, rs, rfl, h1, h2⟩ := h
  unfold VRs at h2
  obtain ⟨v2, rs2, rfl, h3, h4⟩ := h2
  refine ⟨v, _, rfl, nil_sl h1, ?_⟩
  unfold VRs
  exact ⟨v2, rs2, rfl, nil_sl h3, h4⟩
end Go.Proofs.YtipomdmlkkifcaaGreatDoor.Vm
