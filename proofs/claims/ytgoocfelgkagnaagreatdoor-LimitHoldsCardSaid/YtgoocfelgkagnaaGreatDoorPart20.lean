/- Texts of one proof, gathered: Limit Limit2 Law42. -/
import Derived.Test.YtgoocfelgkagnaaGreatDoorPart18
import Derived.Test.YtgoocfelgkagnaaGreatDoorPart4
/- Contracts: limit's numbers, and the document's. -/
set_option linter.unusedVariables false
set_option linter.unusedSimpArgs false
set_option linter.unnecessarySimpa false
set_option maxRecDepth 100000
namespace Go.Proofs.YtgoocfelgkagnaaGreatDoor.Vm
open Go Go.Proofs Go.RowKit Go.Proofs.YtgoocfelgkagnaaGreatDoor.Flt
variable {ml : Int}
theorem and7 (n : Int) (h1 : 0 ≤ n) (h2 : n ≤ 65536) : bitsI .and .i64 n 7 = n % 8 := by
  obtain ⟨m, rfl⟩ : ∃ m : Nat, n = m := ⟨n.toNat, by omega⟩
  have := bitsI_and .i64 m 7 (by show m < 2 ^ 64; omega) (by decide)
  rw [show m &&& 7 = m % 8 from Nat.and_two_pow_sub_one_eq_mod m 3] at this
  exact this.trans (w64 (by omega) (by omega))
theorem tdivN {n : Int} (m : Int) (h : 0 ≤ n) : n.tdiv m = n / m := Int.tdiv_eq_ediv_of_nonneg h
theorem tmodN {n : Int} (m : Int) (h : 0 ≤ n) : n.tmod m = n % m := Int.tmod_eq_emod_of_nonneg h
/-- How many steps a wrap of so many bytes takes. -/
def st (n : Int) : Int := if n < 16 ∨ n > 65536 ∨ n % 8 ≠ 0 then 0 else n / 8 * 6
theorem pSteps (n : Int) : Ret P (C ml) 35 [.i .i64 n] (.i .i64 (st n)) := by
  refine hret_of tab_ok Tryz.func35 rfl rfl (by kernel_rfl) rfl ?_
  unfold st
  by_cases c1 : n < 16
  · rw [if_pos (.inl c1)]
    refine g_fin tab_ok mixed 3000 [.t] rfl (by (simp only [AllR]; (repeat' first | exact True.intro | (show (_ : Bool) = _; assumption) | omega | apply And.intro); all_goals first | (simp; done) | (simp; omega) | exact Nat.le_of_ble_eq_true rfl | kernel_rfl)) (ret_of rfl ?_ trivial trivial)
    simp [tle, look]
  by_cases c2 : n > 65536
  · rw [if_pos (.inr (.inl c2))]
    refine g_fin tab_ok mixed 3000 [.f, .t] rfl (by (simp only [AllR]; (repeat' first | exact True.intro | (show (_ : Bool) = _; assumption) | omega | apply And.intro); all_goals first | (simp; done) | (simp; omega) | exact Nat.le_of_ble_eq_true rfl | kernel_rfl)) (ret_of rfl ?_ trivial trivial)
    simp [tle, look]
  have h := and7 n (by omega) (by omega)
  by_cases c3 : n % 8 = 0
  · rw [if_neg (by omega)]
    have b1 : (bitsI .and .i64 n 7 != 0) = false := by rw [h, c3]; rfl
    clear h
    refine g_fin tab_ok mixed 3000 [.f, .f, .f] rfl (by (simp only [AllR]; (repeat' first | exact True.intro | (show (_ : Bool) = _; assumption) | omega | apply And.intro); all_goals first | (simp; done) | (simp; omega) | exact Nat.le_of_ble_eq_true rfl | kernel_rfl)) (ret_of rfl ?_ trivial trivial)
    have e : IntKind.i64.wrap (IntKind.i64.wrap (n.tdiv 8) * 6) = n / 8 * 6 := by
      rw [tdivN 8 (by omega), w64 (x := n / 8) (by omega) (by omega), w64 (by omega) (by omega)]
    exact congrArg (T.i .i64) e
  · rw [if_pos (.inr (.inr c3))]
    have b1 : (bitsI .and .i64 n 7 != 0) = true := by rw [h]; simpa using c3
    clear h
    refine g_fin tab_ok mixed 3000 [.f, .f, .t] rfl (by (simp only [AllR]; (repeat' first | exact True.intro | (show (_ : Bool) = _; assumption) | omega | apply And.intro); all_goals first | (simp; done) | (simp; omega) | exact Nat.le_of_ble_eq_true rfl | kernel_rfl)) (ret_of rfl ?_ trivial trivial)
    simp [tle, look]
theorem rSteps (n : Int) : Ret P (C ml) 32 [.i .i64 n] (.i .i64 (st n)) := by
  refine hret_of tab_ok Tryz.func32 rfl rfl (by kernel_rfl) rfl ?_
  unfold st
  by_cases c1 : n < 16
  · rw [if_pos (.inl c1)]
    refine g_fin tab_ok mixed 3000 [.t] rfl (by (simp only [AllR]; (repeat' first | exact True.intro | (show (_ : Bool) = _; assumption) | omega | apply And.intro); all_goals first | (simp; done) | (simp; omega) | exact Nat.le_of_ble_eq_true rfl | kernel_rfl)) (ret_of rfl ?_ trivial trivial)
    simp [tle, look]
  by_cases c2 : n > 65536
  · rw [if_pos (.inr (.inl c2))]
    refine g_fin tab_ok mixed 3000 [.f, .t] rfl (by (simp only [AllR]; (repeat' first | exact True.intro | (show (_ : Bool) = _; assumption) | omega | apply And.intro); all_goals first | (simp; done) | (simp; omega) | exact Nat.le_of_ble_eq_true rfl | kernel_rfl)) (ret_of rfl ?_ trivial trivial)
    simp [tle, look]
  by_cases c3 : n % 8 = 0
  · rw [if_neg (by omega)]
    have b1 : (n.tmod 8 != 0) = false := by rw [tmodN 8 (by omega), c3]; rfl
    refine g_fin tab_ok mixed 3000 [.f, .f, .f] rfl (by (simp only [AllR]; (repeat' first | exact True.intro | (show (_ : Bool) = _; assumption) | omega | apply And.intro); all_goals first | (simp; done) | (simp; omega) | exact Nat.le_of_ble_eq_true rfl | kernel_rfl)) (ret_of rfl ?_ trivial trivial)
    have e : IntKind.i64.wrap (6 * IntKind.i64.wrap (n.tdiv 8)) = n / 8 * 6 := by
      rw [tdivN 8 (by omega), w64 (x := n / 8) (by omega) (by omega), w64 (by omega) (by omega)]; omega
    exact congrArg (T.i .i64) e
  · rw [if_pos (.inr (.inr c3))]
    have b1 : (n.tmod 8 != 0) = true := by rw [tmodN 8 (by omega)]; simpa using c3
    refine g_fin tab_ok mixed 3000 [.f, .f, .t] rfl (by (simp only [AllR]; (repeat' first | exact True.intro | (show (_ : Bool) = _; assumption) | omega | apply And.intro); all_goals first | (simp; done) | (simp; omega) | exact Nat.le_of_ble_eq_true rfl | kernel_rfl)) (ret_of rfl ?_ trivial trivial)
    simp [tle, look]
/-- May a blob have so many bytes? -/
def lfit (f n : Int) : Bool := if f = 1 then decide (n % 8 = 0 ∧ 16 ≤ n ∧ n ≤ 65544) else decide (f = 2 ∧ 80 ≤ n ∧ n ≤ 9999)
theorem st_lfit (n : Int) (h1 : -9223372036854775808 ≤ n) (h2 : n ≤ 9223372036854775807) (h3 : n ≠ 16) : decide (st (IntKind.i64.wrap (n - 8)) > 0) = decide (n % 8 = 0 ∧ 16 ≤ n ∧ n ≤ 65544) := by
  rw [Bool.eq_iff_iff, decide_eq_true_iff, decide_eq_true_iff]
  by_cases h : -9223372036854775808 ≤ n - 8
  · rw [w64 h (by omega)]
    unfold st
    split <;> omega
  · have : IntKind.i64.wrap (n - 8) = n - 8 + 18446744073709551616 := by rw [wrap_i64]; omega
    rw [this]
    unfold st
    split <;> omega
theorem lFits (f n : Int) (h1 : -9223372036854775808 ≤ n) (h2 : n ≤ 9223372036854775807) : Ret P (C ml) 11 [.i .i64 f, .i .i64 n] (.b (lfit f n)) := by
  refine hret_of tab_ok Tryz.func11 rfl rfl (by kernel_rfl) rfl ?_
  have k1 := pSteps (ml := ml) (IntKind.i64.wrap (n - 8))
  unfold lfit
  by_cases c1 : f = 1
  · have b1 : (f == 1) = true := by simp [c1]
    rw [if_pos c1]
    by_cases c2 : n = 16
    · have b2 : (n == 16) = true := by simp [c2]
      rw [c2]
      rw [c2] at k1 b2
      refine g_fin tab_ok mixed 3000 [.t, .t] rfl (by (simp only [AllR]; (repeat' first | exact k1 | exact True.intro | (show (_ : Bool) = _; assumption) | omega | apply And.intro); all_goals first | (simp; done) | (simp; omega) | exact Nat.le_of_ble_eq_true rfl | kernel_rfl)) (ret_of rfl ?_ trivial trivial)
      exact .inr rfl
    · have b2 : (n == 16) = false := by simpa using c2
      rw [← st_lfit n h1 h2 c2]
      refine g_fin tab_ok mixed 3000 [.t, .f, cc k1] rfl (by (simp only [AllR]; (repeat' first | exact k1 | exact True.intro | (show (_ : Bool) = _; assumption) | omega | apply And.intro); all_goals first | (simp; done) | (simp; omega) | exact Nat.le_of_ble_eq_true rfl | kernel_rfl)) (ret_of rfl ?_ trivial trivial)
      exact .inl rfl
  · have b1 : (f == 1) = false := by simpa using c1
    rw [if_neg c1]
    by_cases c2 : f = 2
    · have b2 : (f == 2) = true := by simp [c2]
      by_cases c3 : 80 ≤ n
      · refine g_fin tab_ok mixed 3000 [.f, .t, .t] rfl (by (simp only [AllR]; (repeat' first | exact k1 | exact True.intro | (show (_ : Bool) = _; assumption) | omega | apply And.intro); all_goals first | (simp; done) | (simp; omega) | exact Nat.le_of_ble_eq_true rfl | kernel_rfl)) (ret_of rfl ?_ trivial trivial)
        exact .inl (congrArg T.b (by rw [Bool.eq_iff_iff]; simp [c2, c3]))
      · rw [decide_eq_false (by omega)]
        refine g_fin tab_ok mixed 3000 [.f, .t, .f] rfl (by (simp only [AllR]; (repeat' first | exact k1 | exact True.intro | (show (_ : Bool) = _; assumption) | omega | apply And.intro); all_goals first | (simp; done) | (simp; omega) | exact Nat.le_of_ble_eq_true rfl | kernel_rfl)) (ret_of rfl ?_ trivial trivial)
        exact .inr rfl
    · have b2 : (f == 2) = false := by simpa using c2
      rw [decide_eq_false (by omega)]
      refine g_fin tab_ok mixed 3000 [.f, .f] rfl (by (simp only [AllR]; (repeat' first | exact k1 | exact True.intro | (show (_ : Bool) = _; assumption) | omega | apply And.intro); all_goals first | (simp; done) | (simp; omega) | exact Nat.le_of_ble_eq_true rfl | kernel_rfl)) (ret_of rfl ?_ trivial trivial)
      exact .inr rfl
theorem tmod8 (n : Int) : (n.tmod 8 == 0) = decide (n % 8 = 0) := by
  rw [Bool.eq_iff_iff, beq_iff_eq, decide_eq_true_iff, ← Int.dvd_iff_tmod_eq_zero, Int.dvd_iff_emod_eq_zero]
theorem rFits (f n : Int) : Ret P (C ml) 9 [.i .i64 f, .i .i64 n] (.b (lfit f n)) := by
  refine hret_of tab_ok Tryz.func9 rfl rfl (by kernel_rfl) rfl ?_
  unfold lfit
  have h8 := tmod8 n
  by_cases c1 : f = 1
  · have b1 : (f == 1) = true := by simp [c1]
    rw [if_pos c1]
    by_cases c2 : n % 8 = 0
    · have b2 : (n.tmod 8 == 0) = true := by rw [h8]; exact decide_eq_true c2
      by_cases c3 : 16 ≤ n
      · refine g_fin tab_ok mixed 3000 [.t, .t, .t] rfl (by (simp only [AllR]; (repeat' first | exact True.intro | (show (_ : Bool) = _; assumption) | omega | apply And.intro); all_goals first | (simp; done) | (simp; omega) | exact Nat.le_of_ble_eq_true rfl | kernel_rfl)) (ret_of rfl ?_ trivial trivial)
        exact .inl (congrArg T.b (by rw [Bool.eq_iff_iff]; simp [c2, c3]))
      · rw [decide_eq_false (by omega)]
        refine g_fin tab_ok mixed 3000 [.t, .t, .f] rfl (by (simp only [AllR]; (repeat' first | exact True.intro | (show (_ : Bool) = _; assumption) | omega | apply And.intro); all_goals first | (simp; done) | (simp; omega) | exact Nat.le_of_ble_eq_true rfl | kernel_rfl)) (ret_of rfl ?_ trivial trivial)
        exact .inr rfl
    · have b2 : (n.tmod 8 == 0) = false := by rw [h8]; exact decide_eq_false c2
      rw [decide_eq_false (by omega)]
      refine g_fin tab_ok mixed 3000 [.t, .f] rfl (by (simp only [AllR]; (repeat' first | exact True.intro | (show (_ : Bool) = _; assumption) | omega | apply And.intro); all_goals first | (simp; done) | (simp; omega) | exact Nat.le_of_ble_eq_true rfl | kernel_rfl)) (ret_of rfl ?_ trivial trivial)
      exact .inr rfl
  · have b1 : (f == 1) = false := by simpa using c1
    rw [if_neg c1]
    by_cases c2 : f = 2
    · have b2 : (f == 2) = true := by simp [c2]
      by_cases c3 : 80 ≤ n
      · refine g_fin tab_ok mixed 3000 [.f, .t, .t] rfl (by (simp only [AllR]; (repeat' first | exact True.intro | (show (_ : Bool) = _; assumption) | omega | apply And.intro); all_goals first | (simp; done) | (simp; omega) | exact Nat.le_of_ble_eq_true rfl | kernel_rfl)) (ret_of rfl ?_ trivial trivial)
        exact .inl (congrArg T.b (by rw [Bool.eq_iff_iff]; simp [c2, c3]))
      · rw [decide_eq_false (by omega)]
        refine g_fin tab_ok mixed 3000 [.f, .t, .f] rfl (by (simp only [AllR]; (repeat' first | exact True.intro | (show (_ : Bool) = _; assumption) | omega | apply And.intro); all_goals first | (simp; done) | (simp; omega) | exact Nat.le_of_ble_eq_true rfl | kernel_rfl)) (ret_of rfl ?_ trivial trivial)
        exact .inr rfl
    · have b2 : (f == 2) = false := by simpa using c2
      rw [decide_eq_false (by omega)]
      refine g_fin tab_ok mixed 3000 [.f, .f] rfl (by (simp only [AllR]; (repeat' first | exact True.intro | (show (_ : Bool) = _; assumption) | omega | apply And.intro); all_goals first | (simp; done) | (simp; omega) | exact Nat.le_of_ble_eq_true rfl | kernel_rfl)) (ret_of rfl ?_ trivial trivial)
      exact .inr rfl
theorem lfit_range {f n : Int} (h : lfit f n = true) : 16 ≤ n ∧ n ≤ 65544 ∧ (f = 1 ∨ f = 2) := by
  unfold lfit at h
  split at h
  · have := of_decide_eq_true h; omega
  · have := of_decide_eq_true h; omega
def most (f n : Int) : Int := if lfit f n = true then (if f = 1 then n / 8 * 6 else n / 8 + 16) else 0
theorem shr3 (n : Int) : n.fdiv (2 ^ (min (3 : Int).toNat IntKind.i64.bits)) = n / 8 := by
  show n.fdiv 8 = _
  exact Int.fdiv_eq_ediv_of_nonneg _ (by decide)
theorem lMost (f n : Int) (h1 : -9223372036854775808 ≤ n) (h2 : n ≤ 9223372036854775807) : Ret P (C ml) 12 [.i .i64 f, .i .i64 n] (.i .i64 (most f n)) := by
  refine hret_of tab_ok Tryz.func12 rfl rfl (by kernel_rfl) rfl ?_
  have k1 := lFits (ml := ml) f n h1 h2
  unfold most
  rcases Bool.eq_false_or_eq_true (lfit f n) with c | c
  · obtain ⟨r1, r2, _⟩ := lfit_range c
    rw [c] at k1 ⊢
    rw [if_pos rfl]
    by_cases c1 : f = 1
    · have b1 : (f == 1) = true := by simp [c1]
      rw [if_pos c1]
      refine g_fin tab_ok mixed 3000 [cc k1, .f, .t] rfl (by (simp only [AllR]; (repeat' first | exact k1 | exact True.intro | (show (_ : Bool) = _; assumption) | omega | apply And.intro); all_goals first | (simp; done) | (simp; omega) | exact Nat.le_of_ble_eq_true rfl | kernel_rfl)) (ret_of rfl ?_ trivial trivial)
      exact congrArg (T.i .i64) (by rw [shr3, w64 (by omega) (by omega)])
    · have b1 : (f == 1) = false := by simpa using c1
      rw [if_neg c1]
      refine g_fin tab_ok mixed 3000 [cc k1, .f, .f] rfl (by (simp only [AllR]; (repeat' first | exact k1 | exact True.intro | (show (_ : Bool) = _; assumption) | omega | apply And.intro); all_goals first | (simp; done) | (simp; omega) | exact Nat.le_of_ble_eq_true rfl | kernel_rfl)) (ret_of rfl ?_ trivial trivial)
      exact congrArg (T.i .i64) (by rw [shr3, w64 (by omega) (by omega)])
  · rw [c] at k1 ⊢
    rw [if_neg (by decide)]
    refine g_fin tab_ok mixed 3000 [cc k1, .t] rfl (by (simp only [AllR]; (repeat' first | exact k1 | exact True.intro | (show (_ : Bool) = _; assumption) | omega | apply And.intro); all_goals first | (simp; done) | (simp; omega) | exact Nat.le_of_ble_eq_true rfl | kernel_rfl)) (ret_of rfl ?_ trivial trivial)
    simp [tle, look]
theorem rMost42 (f n : Int) : Ret P (C ml) 13 [.i .i64 f, .i .i64 n] (.i .i64 (most f n)) := by
  refine hret_of tab_ok Tryz.func13 rfl rfl (by kernel_rfl) rfl ?_
  have k1 := rFits (ml := ml) f n
  unfold most
  rcases Bool.eq_false_or_eq_true (lfit f n) with c | c
  · obtain ⟨r1, r2, _⟩ := lfit_range c
    rw [c] at k1 ⊢
    rw [if_pos rfl]
    by_cases c1 : f = 1
    · have b1 : (f == 1) = true := by simp [c1]
      rw [if_pos c1]
      refine g_fin tab_ok mixed 3000 [cc k1, .f, .t] rfl (by (simp only [AllR]; (repeat' first | exact k1 | exact True.intro | (show (_ : Bool) = _; assumption) | omega | apply And.intro); all_goals first | (simp; done) | (simp; omega) | exact Nat.le_of_ble_eq_true rfl | kernel_rfl)) (ret_of rfl ?_ trivial trivial)
      have e : IntKind.i64.wrap (n.tdiv 8) = n / 8 := by rw [tdivN 8 (by omega), w64 (by omega) (by omega)]
      exact congrArg (T.i .i64) (by rw [e, w64 (by omega) (by omega)]; omega)
    · have b1 : (f == 1) = false := by simpa using c1
      rw [if_neg c1]
      refine g_fin tab_ok mixed 3000 [cc k1, .f, .f] rfl (by (simp only [AllR]; (repeat' first | exact k1 | exact True.intro | (show (_ : Bool) = _; assumption) | omega | apply And.intro); all_goals first | (simp; done) | (simp; omega) | exact Nat.le_of_ble_eq_true rfl | kernel_rfl)) (ret_of rfl ?_ trivial trivial)
      have e : IntKind.i64.wrap (n.tdiv 8) = n / 8 := by rw [tdivN 8 (by omega), w64 (by omega) (by omega)]
      exact congrArg (T.i .i64) (by rw [e, w64 (by omega) (by omega)])
  · rw [c] at k1 ⊢
    rw [if_neg (by decide)]
    refine g_fin tab_ok mixed 3000 [cc k1, .t] rfl (by (simp only [AllR]; (repeat' first | exact k1 | exact True.intro | (show (_ : Bool) = _; assumption) | omega | apply And.intro); all_goals first | (simp; done) | (simp; omega) | exact Nat.le_of_ble_eq_true rfl | kernel_rfl)) (ret_of rfl ?_ trivial trivial)
    simp [tle, look]
def kekOk (n : Int) : Bool := decide (n = 16 ∨ n = 24 ∨ n = 32)
theorem sRounds (n : Int) : ∃ r : Int, Ret P (C ml) 36 [.i .i64 n] (.i .i64 r) ∧ (r == 0) = !(kekOk n) := by
  by_cases c1 : n = 16
  · subst c1
    refine ⟨10, ?_, rfl⟩
    refine hret_of tab_ok Tryz.func36 rfl rfl (by kernel_rfl) rfl ?_
    refine g_fin tab_ok mixed 3000 [.t, .t] rfl (by (simp only [AllR]; (repeat' first | exact True.intro | (show (_ : Bool) = _; assumption) | omega | apply And.intro); all_goals first | (simp; done) | (simp; omega) | exact Nat.le_of_ble_eq_true rfl | kernel_rfl)) (ret_of rfl ?_ trivial trivial)
    exact rfl
  by_cases c2 : n = 24
  · subst c2
    refine ⟨12, ?_, rfl⟩
    refine hret_of tab_ok Tryz.func36 rfl rfl (by kernel_rfl) rfl ?_
    refine g_fin tab_ok mixed 3000 [.f, .t, .t] rfl (by (simp only [AllR]; (repeat' first | exact True.intro | (show (_ : Bool) = _; assumption) | omega | apply And.intro); all_goals first | (simp; done) | (simp; omega) | exact Nat.le_of_ble_eq_true rfl | kernel_rfl)) (ret_of rfl ?_ trivial trivial)
    exact rfl
  by_cases c3 : n = 32
  · subst c3
    refine ⟨14, ?_, rfl⟩
    refine hret_of tab_ok Tryz.func36 rfl rfl (by kernel_rfl) rfl ?_
    refine g_fin tab_ok mixed 3000 [.f, .f, .t] rfl (by (simp only [AllR]; (repeat' first | exact True.intro | (show (_ : Bool) = _; assumption) | omega | apply And.intro); all_goals first | (simp; done) | (simp; omega) | exact Nat.le_of_ble_eq_true rfl | kernel_rfl)) (ret_of rfl ?_ trivial trivial)
    exact rfl
  refine ⟨0, ?_, by unfold kekOk; rw [decide_eq_false (by omega)]; rfl⟩
  have b1 : (n == 16) = false := by simpa using c1
  have b2 : (n == 24) = false := by simpa using c2
  have b3 : (n == 32) = false := by simpa using c3
  refine hret_of tab_ok Tryz.func36 rfl rfl (by kernel_rfl) rfl ?_
  refine g_fin tab_ok mixed 3000 [.f, .f, .f] rfl (by (simp only [AllR]; (repeat' first | exact True.intro | (show (_ : Bool) = _; assumption) | omega | apply And.intro); all_goals first | (simp; done) | (simp; omega) | exact Nat.le_of_ble_eq_true rfl | kernel_rfl)) (ret_of rfl ?_ trivial trivial)
  exact rfl
/-- How many tags so many bytes take. -/
def kR (n : Nat) : Nat := (n + 15) / 16
theorem kRounds (n : Nat) (h : n ≤ 4080) : Ret P (C ml) 60 [.i .i64 n] (.i .i64 (kR n)) := by
  refine hret_of tab_ok Tryz.func60 rfl rfl (by kernel_rfl) rfl ?_
  unfold kR
  by_cases c1 : n = 0
  · have c2 : decide ((n : Int) < 1) = true := decide_eq_true (by omega)
    refine g_fin tab_ok mixed 3000 [.t] rfl (by (simp only [AllR]; (repeat' first | exact True.intro | (show (_ : Bool) = _; assumption) | omega | apply And.intro); all_goals first | (simp; done) | (simp; omega) | exact Nat.le_of_ble_eq_true rfl | kernel_rfl)) (ret_of rfl ?_ trivial trivial)
    simp [tle, look, c1]
  · have c2 : decide ((n : Int) < 1) = false := decide_eq_false (by omega)
    refine g_fin tab_ok mixed 3000 [.f, .f] rfl (by (simp only [AllR]; (repeat' first | exact True.intro | (show (_ : Bool) = _; assumption) | omega | apply And.intro); all_goals first | (simp; done) | (simp; omega) | exact Nat.le_of_ble_eq_true rfl | kernel_rfl)) (ret_of rfl ?_ trivial trivial)
    have e : IntKind.i64.wrap ((IntKind.i64.wrap ((n : Int) + 15)).tdiv 16) = (((n + 15) / 16 : Nat) : Int) := by
      rw [w64 (x := (n : Int) + 15) (by omega) (by omega), tdivN 16 (by omega), w64 (by omega) (by omega)]; omega
    exact congrArg (T.i .i64) e
theorem rRounds (n : Nat) (h : n ≤ 4080) : Ret P (C ml) 34 [.i .i64 n] (.i .i64 (kR n)) := by
  refine hret_of tab_ok Tryz.func34 rfl rfl (by kernel_rfl) rfl ?_
  unfold kR
  by_cases c1 : n = 0
  · have c2 : decide ((n : Int) < 1) = true := decide_eq_true (by omega)
    refine g_fin tab_ok mixed 3000 [.t] rfl (by (simp only [AllR]; (repeat' first | exact True.intro | (show (_ : Bool) = _; assumption) | omega | apply And.intro); all_goals first | (simp; done) | (simp; omega) | exact Nat.le_of_ble_eq_true rfl | kernel_rfl)) (ret_of rfl ?_ trivial trivial)
    simp [tle, look, c1]
  · have c2 : decide ((n : Int) < 1) = false := decide_eq_false (by omega)
    refine g_run tab_ok mixed 3000 [.f, .f] rfl (by (simp only [AllR]; (repeat' first | exact True.intro | (show (_ : Bool) = _; assumption) | omega | apply And.intro); all_goals first | (simp; done) | (simp; omega) | exact Nat.le_of_ble_eq_true rfl | kernel_rfl)) ?_
    refine g_loop (fun i : Nat => [(0, .i .i64 n), (3, .i .i64 i)]) (fun _ => []) (fun i => i ≤ (n + 15) / 16) (fun i => (n + 15) / 16 - i) 0 ⟨⟨rfl, rfl, trivial⟩, trivial, trivial⟩ (by omega) ?_
    intro i hi
    have e : IntKind.i64.wrap (16 * (i : Int)) = 16 * i := w64 (by omega) (by omega)
    by_cases hc : 16 * i < n
    · have d1 : decide (IntKind.i64.wrap (16 * (i : Int)) < n) = true := decide_eq_true (by rw [e]; omega)
      clear e
      refine g_fin tab_ok mixed 3000 [.t] rfl (by (simp only [AllR]; (repeat' first | exact True.intro | (show (_ : Bool) = _; assumption) | omega | apply And.intro); all_goals first | (simp; done) | (simp; omega) | exact Nat.le_of_ble_eq_true rfl | kernel_rfl)) (rd_next (i + 1) (by omega) (by omega) ⟨rfl, ?_, trivial⟩ trivial trivial)
      (simp [look, tle]; omega)
    · have d1 : decide (IntKind.i64.wrap (16 * (i : Int)) < n) = false := decide_eq_false (by rw [e]; omega)
      clear e
      refine g_fin tab_ok mixed 3000 [.f] rfl (by (simp only [AllR]; (repeat' first | exact True.intro | (show (_ : Bool) = _; assumption) | omega | apply And.intro); all_goals first | (simp; done) | (simp; omega) | exact Nat.le_of_ble_eq_true rfl | kernel_rfl)) (rd_exit rfl ?_)
      refine g_fin tab_ok mixed 3000 [] rfl (by (simp only [AllR]; (repeat' first | exact True.intro | (show (_ : Bool) = _; assumption) | omega | apply And.intro); all_goals first | (simp; done) | (simp; omega) | exact Nat.le_of_ble_eq_true rfl | kernel_rfl)) (ret_of rfl ?_ trivial trivial)
      exact congrArg (T.i .i64) (by omega)
/-- How many blocks a tag over so many bytes takes. -/
def cB (n : Nat) : Nat := if n = 0 then 1 else (n + 15) / 16
theorem cBlocks (n : Nat) (h : n ≤ 1000000) : Ret P (C ml) 96 [.i .i64 n] (.i .i64 (cB n)) := by
  refine hret_of tab_ok Tryz.func96 rfl rfl (by kernel_rfl) rfl ?_
  refine g_fin tab_ok mixed 3000 [.f] rfl (by (simp only [AllR]; (repeat' first | exact True.intro | (show (_ : Bool) = _; assumption) | omega | apply And.intro); all_goals first | (simp; done) | (simp; omega) | exact Nat.le_of_ble_eq_true rfl | kernel_rfl)) (ret_of rfl ?_ trivial trivial)
  refine congrArg (T.i .i64) ?_
  have e1 : IntKind.i64.wrap ((n : Int).tdiv 16) = (n : Int) / 16 := by rw [tdivN 16 (by omega), w64 (by omega) (by omega)]
  have e2 : (n : Int).tmod 16 = (n : Int) % 16 := tmodN 16 (by omega)
  have e3 : IntKind.i64.wrap ((n : Int) / 16 + minI 1 ((n : Int) % 16)) = (n : Int) / 16 + minI 1 ((n : Int) % 16) := w64 (by unfold minI; split <;> omega) (by unfold minI; split <;> omega)
  rw [e1, e2, e3]
  unfold cB maxI minI
  split <;> split <;> split <;> omega
theorem rBlocks11 (n : Nat) (h : n ≤ 1000000) : Ret P (C ml) 58 [.i .i64 n] (.i .i64 (cB n)) := by
  refine hret_of tab_ok Tryz.func58 rfl rfl (by kernel_rfl) rfl ?_
  unfold cB
  by_cases c1 : n = 0
  · have b1 : ((n : Int) == 0) = true := by simp [c1]
    rw [if_pos c1]
    refine g_fin tab_ok mixed 3000 [.f, .t] rfl (by (simp only [AllR]; (repeat' first | exact True.intro | (show (_ : Bool) = _; assumption) | omega | apply And.intro); all_goals first | (simp; done) | (simp; omega) | exact Nat.le_of_ble_eq_true rfl | kernel_rfl)) (ret_of rfl ?_ trivial trivial)
    simp [tle, look]
  · have b1 : ((n : Int) == 0) = false := by simpa using c1
    rw [if_neg c1]
    refine g_fin tab_ok mixed 3000 [.f, .f] rfl (by (simp only [AllR]; (repeat' first | exact True.intro | (show (_ : Bool) = _; assumption) | omega | apply And.intro); all_goals first | (simp; done) | (simp; omega) | exact Nat.le_of_ble_eq_true rfl | kernel_rfl)) (ret_of rfl ?_ trivial trivial)
    refine congrArg (T.i .i64) ?_
    have e0 : IntKind.i64.wrap ((n : Int) - 1) = (n : Int) - 1 := w64 (by omega) (by omega)
    rw [e0, tdivN 16 (by omega), w64 (x := ((n : Int) - 1) / 16) (by omega) (by omega), w64 (by omega) (by omega)]
    omega
/-- How many blocks a key block of so many bytes, and of so many that are sealed, takes. -/
def sB (t c : Nat) : Nat := cB (t + c) + c / 16 + 1
theorem cB_le (n : Nat) : cB n ≤ n + 1 := by unfold cB; split <;> omega
theorem sBlocks (t c : Nat) (h1 : t ≤ 65552) (h2 : c ≤ 65552) : Ret P (C ml) 59 [.i .i64 t, .i .i64 c] (.i .i64 (sB t c)) := by
  refine hret_of tab_ok Tryz.func59 rfl rfl (by kernel_rfl) rfl ?_
  have k1 := cBlocks (ml := ml) (t + c) (by omega)
  have e : IntKind.i64.wrap ((t : Int) + c) = ((t + c : Nat) : Int) := by rw [w64 (by omega) (by omega)]; omega
  rw [← e] at k1
  have d1 : decide (minI (t : Int) c < 0) = false := decide_eq_false (by unfold minI; split <;> omega)
  have d2 : decide (maxI (t : Int) c > 65552) = false := decide_eq_false (by unfold maxI; split <;> omega)
  have hb := cB_le (t + c)
  refine g_fin tab_ok mixed 3000 [.f, .f, cc k1] rfl (by (simp only [AllR]; (repeat' first | exact k1 | exact True.intro | (show (_ : Bool) = _; assumption) | omega | apply And.intro); all_goals first | (simp; done) | (simp; omega) | exact Nat.le_of_ble_eq_true rfl | kernel_rfl)) (ret_of rfl ?_ trivial trivial)
  refine congrArg (T.i .i64) ?_
  have e4 : (c : Int).fdiv (2 ^ (min (4 : Int).toNat IntKind.i64.bits)) = (c : Int) / 16 := by
    show (c : Int).fdiv 16 = _
    exact Int.fdiv_eq_ediv_of_nonneg _ (by decide)
  rw [e4, w64 (x := (cB (t + c) : Int) + (c : Int) / 16) (by omega) (by omega), w64 (by omega) (by omega)]
  unfold sB; omega
theorem rBlocks37 (t c : Nat) (h1 : t ≤ 65552) (h2 : c ≤ 65552) : Ret P (C ml) 33 [.i .i64 t, .i .i64 c] (.i .i64 (sB t c)) := by
  refine hret_of tab_ok Tryz.func33 rfl rfl (by kernel_rfl) rfl ?_
  have k1 := rBlocks11 (ml := ml) (t + c) (by omega)
  have e : IntKind.i64.wrap ((t : Int) + c) = ((t + c : Nat) : Int) := by rw [w64 (by omega) (by omega)]; omega
  rw [← e] at k1
  have hb := cB_le (t + c)
  refine g_fin tab_ok mixed 3000 [.f, .f, .f, .f, cc k1] rfl (by (simp only [AllR]; (repeat' first | exact k1 | exact True.intro | (show (_ : Bool) = _; assumption) | omega | apply And.intro); all_goals first | (simp; done) | (simp; omega) | exact Nat.le_of_ble_eq_true rfl | kernel_rfl)) (ret_of rfl ?_ trivial trivial)
  refine congrArg (T.i .i64) ?_
  rw [w64 (x := (cB (t + c) : Int) + 1) (by omega) (by omega), tdivN 16 (by omega), w64 (x := (c : Int) / 16) (by omega) (by omega), w64 (by omega) (by omega)]
  unfold sB; omega
end Go.Proofs.YtgoocfelgkagnaaGreatDoor.Vm
/- Contracts: limit.blocks, .Cost, .Total, clavigerref42.Blocks. -/
set_option maxRecDepth 100000
namespace Go.Proofs.YtgoocfelgkagnaaGreatDoor.Vm
open Go Go.Proofs Go.RowKit Go.Proofs.YtgoocfelgkagnaaGreatDoor.Flt
variable {ml : Int}
/-- How many blocks a blob takes that fits. -/
def blkI (k : Nat) (f : Int) (b : List UInt8) : Int :=
  if f = 1 then (if b.length = 16 then 1 else st ((b.length : Int) - 8))
  else if (cutF b).2 = 0 then ((sB (cutF b).1.t.length (cutF b).1.c.length + kR k * 4 : Nat) : Int) else 0
theorem lBlocks (kek : List UInt8) (f : Int) (b : List UInt8) (hk : kek.length ≤ 4080) (hb : b.length ≤ 100000) : Ret P (C ml) 37 [.s kek, .i .i64 f, .s b] (.i .i64 (blkI kek.length f b)) := by
  refine hret_of tab_ok Tryz.func37 rfl rfl (by kernel_rfl) rfl ?_
  unfold blkI
  by_cases c1 : f = 1
  · have b1 : (f == 1) = true := by simp [c1]
    rw [if_pos c1]
    by_cases c2 : b.length = 16
    · have b2 : ((b.length : Int) == 16) = true := by simp [c2]
      rw [if_pos c2]
      refine g_fin tab_ok mixed 3000 [.t, .t] rfl (by (simp only [AllR]; (repeat' first | exact True.intro | (show (_ : Bool) = _; assumption) | omega | apply And.intro); all_goals first | (simp; done) | (simp; omega) | exact Nat.le_of_ble_eq_true rfl | kernel_rfl)) (ret_of rfl ?_ trivial trivial)
      exact rfl
    · have b2 : ((b.length : Int) == 16) = false := by simp; omega
      rw [if_neg c2]
      have k1 := pSteps (ml := ml) (IntKind.i64.wrap ((b.length : Int) - 8))
      refine g_fin tab_ok mixed 3000 [.t, .f, .t, cc k1] rfl (by (simp only [AllR]; (repeat' first | exact k1 | exact True.intro | (show (_ : Bool) = _; assumption) | omega | apply And.intro); all_goals first | (simp; done) | (simp; omega) | exact Nat.le_of_ble_eq_true rfl | kernel_rfl)) (ret_of rfl ?_ trivial trivial)
      exact congrArg (fun z => T.i .i64 (st z)) (w64 (by omega) (by omega))
  · have b1 : (f == 1) = false := by simpa using c1
    rw [if_neg c1]
    have k2 := pCutF0 (ml := ml) b hb
    unfold frC at k2
    by_cases e : (cutF b).2 = 0
    · rw [if_pos e, e] at k2
      rw [if_pos e]
      obtain ⟨_, _, _, _, _, q6, q7, _⟩ := cut_back (b := b) (x := (cutF b).1) (by rw [← e])
      generalize (cutF b).1 = x at *
      have k3 := sBlocks (ml := ml) x.t.length x.c.length (by omega) (by omega)
      have k4 := kRounds (ml := ml) kek.length hk
      have hb := cB_le (x.t.length + x.c.length)
      refine g_fin tab_ok mixed 3000 [.f, .f, cc k2, .f, cc k3, cc k4] rfl (by (simp only [AllR]; (repeat' first | exact k2 | exact k3 | exact k4 | exact True.intro | (show (_ : Bool) = _; assumption) | omega | apply And.intro); all_goals first | (simp; done) | (simp; omega) | exact Nat.le_of_ble_eq_true rfl | kernel_rfl)) (ret_of rfl ?_ trivial trivial)
      refine congrArg (T.i .i64) ?_
      have hs : sB x.t.length x.c.length ≤ 100000 := by unfold sB; omega
      have hr : kR kek.length ≤ 1000 := by unfold kR; omega
      have e1 : IntKind.i64.wrap ((kR kek.length : Int) * 2 ^ (min (2 : Int).toNat IntKind.i64.bits)) = (kR kek.length : Int) * 4 := by
        show IntKind.i64.wrap ((kR kek.length : Int) * 4) = _
        exact w64 (by omega) (by omega)
      rw [e1, w64 (by omega) (by omega)]
      omega
    · rw [if_neg e] at k2
      rw [if_neg e]
      have b2 : ((cutF b).2 != 0) = true := by simpa using e
      refine g_fin tab_ok mixed 3000 [.f, .f, cc k2, .t] rfl (by (simp only [AllR]; (repeat' first | exact k2 | exact True.intro | (show (_ : Bool) = _; assumption) | omega | apply And.intro); all_goals first | (simp; done) | (simp; omega) | exact Nat.le_of_ble_eq_true rfl | kernel_rfl)) (ret_of rfl ?_ trivial trivial)
      exact rfl
theorem kek_three {n : Nat} (h : kekOk n = true) : n = 16 ∨ n = 24 ∨ n = 32 := by
  have := of_decide_eq_true h; omega
theorem rBlocks42 (kek : List UInt8) (f : Int) (b : List UInt8) (hk : kekOk kek.length = true) (hf : lfit f b.length = true) (hb : b.length ≤ 100000) : Ret P (C ml) 10 [.s kek, .i .i64 f, .s b] (.i .i64 (blkI kek.length f b)) := by
  refine hret_of tab_ok Tryz.func10 rfl rfl (by kernel_rfl) rfl ?_
  have k0 := rFits (ml := ml) f b.length
  rw [hf] at k0
  have h3 := kek_three hk
  have hcond : ∀ {Q : Prop}, ((((kek.length : Int) != 16) = false) → Q) → (((kek.length : Int) != 16) = true → ((kek.length : Int) != 24) = false → Q) → (((kek.length : Int) != 16) = true → ((kek.length : Int) != 24) = true → ((kek.length : Int) != 32) = false → Q) → Q := fun h16 h24 h32 => by
    rcases h3 with h | h | h
    · exact h16 (by simp [h])
    · exact h24 (by simp [h]) (by simp [h])
    · exact h32 (by simp [h]) (by simp [h]) (by simp [h])
  unfold blkI
  by_cases c1 : f = 1
  · have b1 : (f == 1) = true := by simp [c1]
    rw [if_pos c1]
    by_cases c2 : b.length = 16
    · have b2 : ((b.length : Int) == 16) = true := by simp [c2]
      rw [if_pos c2]
      refine hcond (fun g1 => ?_) (fun g1 g2 => ?_) (fun g1 g2 g3 => ?_)
      · refine g_fin tab_ok mixed 3000 [cc k0, .f, .f, .t, .t] rfl (by (simp only [AllR]; (repeat' first | exact k0 | exact True.intro | (show (_ : Bool) = _; assumption) | omega | apply And.intro); all_goals first | (simp; done) | (simp; omega) | exact Nat.le_of_ble_eq_true rfl | kernel_rfl)) (ret_of rfl ?_ trivial trivial)
        exact rfl
      · refine g_fin tab_ok mixed 3000 [cc k0, .f, .t, .f, .t, .t] rfl (by (simp only [AllR]; (repeat' first | exact k0 | exact True.intro | (show (_ : Bool) = _; assumption) | omega | apply And.intro); all_goals first | (simp; done) | (simp; omega) | exact Nat.le_of_ble_eq_true rfl | kernel_rfl)) (ret_of rfl ?_ trivial trivial)
        exact rfl
      · refine g_fin tab_ok mixed 3000 [cc k0, .f, .t, .t, .f, .t, .t] rfl (by (simp only [AllR]; (repeat' first | exact k0 | exact True.intro | (show (_ : Bool) = _; assumption) | omega | apply And.intro); all_goals first | (simp; done) | (simp; omega) | exact Nat.le_of_ble_eq_true rfl | kernel_rfl)) (ret_of rfl ?_ trivial trivial)
        exact rfl
    · have b2 : ((b.length : Int) == 16) = false := by simp; omega
      rw [if_neg c2]
      have k1 := rSteps (ml := ml) (IntKind.i64.wrap ((b.length : Int) - 8))
      refine hcond (fun g1 => ?_) (fun g1 g2 => ?_) (fun g1 g2 g3 => ?_)
      · refine g_fin tab_ok mixed 3000 [cc k0, .f, .f, .t, .f, cc k1] rfl (by (simp only [AllR]; (repeat' first | exact k0 | exact k1 | exact True.intro | (show (_ : Bool) = _; assumption) | omega | apply And.intro); all_goals first | (simp; done) | (simp; omega) | exact Nat.le_of_ble_eq_true rfl | kernel_rfl)) (ret_of rfl ?_ trivial trivial)
        exact congrArg (fun z => T.i .i64 (st z)) (w64 (by omega) (by omega))
      · refine g_fin tab_ok mixed 3000 [cc k0, .f, .t, .f, .t, .f, cc k1] rfl (by (simp only [AllR]; (repeat' first | exact k0 | exact k1 | exact True.intro | (show (_ : Bool) = _; assumption) | omega | apply And.intro); all_goals first | (simp; done) | (simp; omega) | exact Nat.le_of_ble_eq_true rfl | kernel_rfl)) (ret_of rfl ?_ trivial trivial)
        exact congrArg (fun z => T.i .i64 (st z)) (w64 (by omega) (by omega))
      · refine g_fin tab_ok mixed 3000 [cc k0, .f, .t, .t, .f, .t, .f, cc k1] rfl (by (simp only [AllR]; (repeat' first | exact k0 | exact k1 | exact True.intro | (show (_ : Bool) = _; assumption) | omega | apply And.intro); all_goals first | (simp; done) | (simp; omega) | exact Nat.le_of_ble_eq_true rfl | kernel_rfl)) (ret_of rfl ?_ trivial trivial)
        exact congrArg (fun z => T.i .i64 (st z)) (w64 (by omega) (by omega))
  · have b1 : (f == 1) = false := by simpa using c1
    rw [if_neg c1]
    have k2 := rCut0 (ml := ml) b hb
    unfold frC at k2
    by_cases e : (cutF b).2 = 0
    · rw [if_pos e, e] at k2
      rw [if_pos e]
      obtain ⟨_, _, _, _, _, q6, q7, _⟩ := cut_back (b := b) (x := (cutF b).1) (by rw [← e])
      generalize (cutF b).1 = x at *
      have k3 := rBlocks37 (ml := ml) x.t.length x.c.length (by omega) (by omega)
      have k4 := rRounds (ml := ml) kek.length (by omega)
      have hb := cB_le (x.t.length + x.c.length)
      have hfin : T.i .i64 (IntKind.i64.wrap ((sB x.t.length x.c.length : Int) + IntKind.i64.wrap (4 * (kR kek.length : Int)))) = T.i .i64 ((sB x.t.length x.c.length + kR kek.length * 4 : Nat) : Int) := by
        refine congrArg (T.i .i64) ?_
        have hs : sB x.t.length x.c.length ≤ 100000 := by unfold sB; omega
        have hr : kR kek.length ≤ 1000 := by unfold kR; omega
        rw [w64 (x := 4 * (kR kek.length : Int)) (by omega) (by omega), w64 (by omega) (by omega)]
        omega
      refine hcond (fun g1 => ?_) (fun g1 g2 => ?_) (fun g1 g2 g3 => ?_)
      · refine g_fin tab_ok mixed 3000 [cc k0, .f, .f, .f, cc k2, .f, cc k3, cc k4] rfl (by (simp only [AllR]; (repeat' first | exact k0 | exact k2 | exact k3 | exact k4 | exact True.intro | (show (_ : Bool) = _; assumption) | omega | apply And.intro); all_goals first | (simp; done) | (simp; omega) | exact Nat.le_of_ble_eq_true rfl | kernel_rfl)) (ret_of rfl ?_ trivial trivial)
        exact hfin
      · refine g_fin tab_ok mixed 3000 [cc k0, .f, .t, .f, .f, cc k2, .f, cc k3, cc k4] rfl (by (simp only [AllR]; (repeat' first | exact k0 | exact k2 | exact k3 | exact k4 | exact True.intro | (show (_ : Bool) = _; assumption) | omega | apply And.intro); all_goals first | (simp; done) | (simp; omega) | exact Nat.le_of_ble_eq_true rfl | kernel_rfl)) (ret_of rfl ?_ trivial trivial)
        exact hfin
      · refine g_fin tab_ok mixed 3000 [cc k0, .f, .t, .t, .f, .f, cc k2, .f, cc k3, cc k4] rfl (by (simp only [AllR]; (repeat' first | exact k0 | exact k2 | exact k3 | exact k4 | exact True.intro | (show (_ : Bool) = _; assumption) | omega | apply And.intro); all_goals first | (simp; done) | (simp; omega) | exact Nat.le_of_ble_eq_true rfl | kernel_rfl)) (ret_of rfl ?_ trivial trivial)
        exact hfin
    · rw [if_neg e] at k2
      rw [if_neg e]
      have b2 : ((cutF b).2 != 0) = true := by simpa using e
      refine hcond (fun g1 => ?_) (fun g1 g2 => ?_) (fun g1 g2 g3 => ?_)
      · refine g_fin tab_ok mixed 3000 [cc k0, .f, .f, .f, cc k2, .t] rfl (by (simp only [AllR]; (repeat' first | exact k0 | exact k2 | exact True.intro | (show (_ : Bool) = _; assumption) | omega | apply And.intro); all_goals first | (simp; done) | (simp; omega) | exact Nat.le_of_ble_eq_true rfl | kernel_rfl)) (ret_of rfl ?_ trivial trivial)
        exact rfl
      · refine g_fin tab_ok mixed 3000 [cc k0, .f, .t, .f, .f, cc k2, .t] rfl (by (simp only [AllR]; (repeat' first | exact k0 | exact k2 | exact True.intro | (show (_ : Bool) = _; assumption) | omega | apply And.intro); all_goals first | (simp; done) | (simp; omega) | exact Nat.le_of_ble_eq_true rfl | kernel_rfl)) (ret_of rfl ?_ trivial trivial)
        exact rfl
      · refine g_fin tab_ok mixed 3000 [cc k0, .f, .t, .t, .f, .f, cc k2, .t] rfl (by (simp only [AllR]; (repeat' first | exact k0 | exact k2 | exact True.intro | (show (_ : Bool) = _; assumption) | omega | apply And.intro); all_goals first | (simp; done) | (simp; omega) | exact Nat.le_of_ble_eq_true rfl | kernel_rfl)) (ret_of rfl ?_ trivial trivial)
        exact rfl
/-- What a blob costs: the blocks, the bytes. -/
def costOk (kek : List UInt8) (f : Int) (b : List UInt8) : Bool := kekOk kek.length && lfit f b.length
def cA (kek : List UInt8) (f : Int) (b : List UInt8) : Int := if costOk kek f b = true then blkI kek.length f b else 0
def cL (kek : List UInt8) (f : Int) (b : List UInt8) : Int := if costOk kek f b = true then b.length else 0
theorem lCost (kek : List UInt8) (f : Int) (b : List UInt8) (hk : kek.length ≤ 4080) (hb : b.length ≤ 100000) : Ret P (C ml) 14 [.s kek, .i .i64 f, .s b] (xs (cA kek f b) (cL kek f b)) := by
  refine hret_of tab_ok Tryz.func14 rfl rfl (by kernel_rfl) rfl ?_
  obtain ⟨r, k0, hr⟩ := sRounds (ml := ml) kek.length
  have k1 := lFits (ml := ml) f b.length (by omega) (by omega)
  have k2 := lBlocks (ml := ml) kek f b hk hb
  unfold cA cL costOk
  rcases Bool.eq_false_or_eq_true (kekOk kek.length) with c1 | c1
  · rw [c1] at hr ⊢
    have hr : (r == 0) = false := hr
    rcases Bool.eq_false_or_eq_true (lfit f b.length) with c2 | c2
    · rw [c2] at k1 ⊢
      rw [if_pos (by decide), if_pos (by decide)]
      refine g_fin tab_ok mixed 3000 [cc k0, .f, cc k1, .f, cc k2] rfl (by (simp only [AllR]; (repeat' first | exact k0 | exact k1 | exact k2 | exact True.intro | (show (_ : Bool) = _; assumption) | omega | apply And.intro); all_goals first | (simp; done) | (simp; omega) | exact Nat.le_of_ble_eq_true rfl | kernel_rfl)) (ret_of rfl ?_ trivial trivial)
      exact rfl
    · rw [c2] at k1 ⊢
      rw [if_neg (by decide), if_neg (by decide)]
      refine g_fin tab_ok mixed 3000 [cc k0, .f, cc k1, .t] rfl (by (simp only [AllR]; (repeat' first | exact k0 | exact k1 | exact k2 | exact True.intro | (show (_ : Bool) = _; assumption) | omega | apply And.intro); all_goals first | (simp; done) | (simp; omega) | exact Nat.le_of_ble_eq_true rfl | kernel_rfl)) (ret_of rfl ?_ trivial trivial)
      exact rfl
  · rw [c1] at hr ⊢
    have hr : (r == 0) = true := hr
    rw [if_neg (by simp), if_neg (by simp)]
    refine g_fin tab_ok mixed 3000 [cc k0, .t] rfl (by (simp only [AllR]; (repeat' first | exact k0 | exact k1 | exact k2 | exact True.intro | (show (_ : Bool) = _; assumption) | omega | apply And.intro); all_goals first | (simp; done) | (simp; omega) | exact Nat.le_of_ble_eq_true rfl | kernel_rfl)) (ret_of rfl ?_ trivial trivial)
    exact rfl
def S3 (a c : Int) : Nat → Int
  | 0 => 0
  | 1 => a
  | _ + 2 => a + c
def E2 (a c : Int) : Nat → Int
  | 0 => a
  | _ + 1 => c
theorem lTotal0 (a b c d : Int) (ha : 0 ≤ a ∧ a ≤ 1000000) (hb : 0 ≤ b ∧ b ≤ 1000000) (hc : 0 ≤ c ∧ c ≤ 1000000) (hd : 0 ≤ d ∧ d ≤ 1000000) :
    HRet P (C ml) 15 [.ref 100 0 0 2] [(100, 0, .row true (.row 1 23) [xs a b, xs c d])] (xs (a + c) (b + d)) [(100, 0, .dead)] := by
  refine hret_of tab_ok Tryz.func15 rfl rfl (by kernel_rfl) rfl ?_
  refine g_frz 100 rfl ?_
  refine g_run tab_ok mixed 3000 [] rfl (by (simp only [AllR]; (repeat' first | exact True.intro | (show (_ : Bool) = _; assumption) | omega | apply And.intro); all_goals first | (simp; done) | (simp; omega) | exact Nat.le_of_ble_eq_true rfl | kernel_rfl)) ?_
  refine g_loop (fun i : Nat => [(3, xs (S3 a c i) (S3 b d i)), (6, .sl 2 [xs a b, xs c d]), (7, .i .i64 2), (8, .i .i64 i)]) (fun _ => [(100, 0, .dead)]) (fun i => i ≤ 2) (fun i => 2 - i) 0 ⟨⟨rfl, rfl, rfl, rfl, trivial⟩, ⟨trivial, trivial⟩, ⟨rfl, trivial⟩⟩ (by omega) ?_
  intro i hi
  have hp : (2 : Nat) ^ 53 = 9007199254740992 := rfl
  by_cases h2 : i < 2
  · have h3 : ([xs a b, xs c d] : List T)[i * 1]? = some (xs (E2 a c i) (E2 b d i)) := by
      match i, h2 with
      | 0, _ => rfl
      | 1, _ => rfl
    have j1 : FloatKind.f64.format.add (nr (S3 a c i)) (nr (E2 a c i)) = some (nr (S3 a c (i + 1))) ∧ FloatKind.f64.format.add (nr (S3 b d i)) (nr (E2 b d i)) = some (nr (S3 b d (i + 1))) := by
      match i, h2 with
      | 0, _ =>
        simp only [S3, E2]
        exact ⟨by rw [add_nr (by omega) (by omega) (by omega), Int.zero_add], by rw [add_nr (by omega) (by omega) (by omega), Int.zero_add]⟩
      | 1, _ =>
        simp only [S3, E2]
        exact ⟨add_nr (by omega) (by omega) (by omega), add_nr (by omega) (by omega) (by omega)⟩
    clear hp
    refine g_fin tab_ok mixed 3000 [.t, ld1 h3, cxo j1] rfl (by (simp only [AllR]; (repeat' first | exact h3 | exact j1 | exact True.intro | (show (_ : Bool) = _; assumption) | omega | apply And.intro); all_goals first | (simp; done) | (simp; omega) | exact Nat.le_of_ble_eq_true rfl | kernel_rfl)) (rd_next (i + 1) (by omega) (by omega) ⟨rfl, rfl, rfl, ?_, trivial⟩ ⟨trivial, trivial⟩ ⟨rfl, trivial⟩)
    (simp [look, tle]; omega)
  · have e : i = 2 := by omega
    subst e
    refine g_fin tab_ok mixed 3000 [.f] rfl (by (simp only [AllR]; (repeat' first | exact True.intro | (show (_ : Bool) = _; assumption) | omega | apply And.intro); all_goals first | (simp; done) | (simp; omega) | exact Nat.le_of_ble_eq_true rfl | kernel_rfl)) (rd_exit rfl ?_)
    refine g_fin tab_ok mixed 3000 [] rfl (by (simp only [AllR]; (repeat' first | exact True.intro | (show (_ : Bool) = _; assumption) | omega | apply And.intro); all_goals first | (simp; done) | (simp; omega) | exact Nat.le_of_ble_eq_true rfl | kernel_rfl)) (ret_of rfl ?_ ?_ ?_)
    · exact rfl
    · exact ⟨trivial, trivial⟩
    · exact ⟨rfl, trivial⟩
theorem lTotal (n : Nat) (a b c d : Int) (ha : 0 ≤ a ∧ a ≤ 1000000) (hb : 0 ≤ b ∧ b ≤ 1000000) (hc : 0 ≤ c ∧ c ≤ 1000000) (hd : 0 ≤ d ∧ d ≤ 1000000) :
    HRet P (C ml) 15 [.ref n 0 0 2] [(n, 0, .row true (.row 1 23) [xs a b, xs c d])] (xs (a + c) (b + d)) [(n, 0, .dead)] := by
  have := hret_ren 100 n (lTotal0 (ml := ml) a b c d ha hb hc hd)
  simpa [renL, renH, renT, renO, sw_if] using this
theorem st_range (n : Int) : 0 ≤ st n ∧ (16 ≤ n → st n ≤ n / 8 * 6) := by
  unfold st
  split
  · exact ⟨by omega, by omega⟩
  · exact ⟨by omega, by omega⟩
/-- No blob costs more than it may. -/
theorem cost_le (k : Nat) (f : Int) (b : List UInt8) (hk : k ≤ 32) (hf : lfit f b.length = true) : 0 ≤ blkI k f b ∧ blkI k f b ≤ most f b.length ∧ blkI k f b ≤ b.length + 16 := by
  have hr := lfit_range hf
  unfold most
  rw [if_pos hf]
  unfold blkI
  by_cases c1 : f = 1
  · rw [if_pos c1, if_pos c1]
    by_cases c2 : b.length = 16
    · rw [if_pos c2]; omega
    · rw [if_neg c2]
      unfold lfit at hf
      rw [if_pos c1] at hf
      have hf := of_decide_eq_true hf
      obtain ⟨s1, s2⟩ := st_range ((b.length : Int) - 8)
      have s2 := s2 (by omega)
      omega
  · rw [if_neg c1, if_neg c1]
    by_cases e : (cutF b).2 = 0
    · rw [if_pos e]
      obtain ⟨q1, _, _, _, _, q6, q7, q8⟩ := cut_back (b := b) (x := (cutF b).1) (by rw [← e])
      obtain ⟨p1, p2, p3⟩ := cut_ok_len e
      have hl := congrArg List.length q1
      simp only [List.length_append, hexs_length] at hl
      have ht := congrArg List.length p3
      rw [List.length_take] at ht
      have hg : (cutF b).1.g.length = 16 := by
        have hx : cutF b = ((cutF b).1, 0) := by rw [← e]
        generalize (cutF b).1 = x at *
        unfold cutF at hx
        by_cases c0 : b = []
        · rw [if_pos c0] at hx; simp at hx
        rw [if_neg c0] at hx
        by_cases c1 : b.length > 9999
        · rw [if_pos c1] at hx; simp at hx
        rw [if_neg c1] at hx
        by_cases c2 : (hDec b).2 ≠ 0
        · rw [if_pos c2] at hx; simp only [Prod.mk.injEq] at hx; exact absurd hx.2 c2
        rw [if_neg c2] at hx
        by_cases c3 : (hDec b).1.n ≠ b.length
        · rw [if_pos c3] at hx; simp at hx
        rw [if_neg c3] at hx
        by_cases c4 : (cutA b).2.2 ≠ 0
        · rw [if_pos c4] at hx; simp only [Prod.mk.injEq] at hx; exact absurd hx.2 c4
        rw [if_neg c4] at hx
        by_cases c5 : (fromO (cutA b).1).2 ≠ 0
        · rw [if_pos c5] at hx; simp only [Prod.mk.injEq] at hx; exact absurd hx.2 c5
        rw [if_neg c5] at hx
        split at hx
        · simp at hx
        · rename_i c g hh
          simp only [Prod.mk.injEq, and_true] at hx
          subst hx
          exact (hexTail_ok hh).2.2.2
      generalize (cutF b).1 = x at *
      have hk2 : kR k ≤ 2 := by unfold kR; omega
      have hcb : cB (x.t.length + x.c.length) ≤ (x.t.length + x.c.length + 15) / 16 + 1 := by unfold cB; split <;> omega
      have hcb2 : x.t.length + x.c.length ≠ 0 → cB (x.t.length + x.c.length) = (x.t.length + x.c.length + 15) / 16 := fun h => by unfold cB; rw [if_neg h]
      have hcb2 := hcb2 (by omega)
      unfold sB
      rw [hcb2]
      omega
    · rw [if_neg e]; omega
theorem cost_range (kek : List UInt8) (f : Int) (b : List UInt8) (hb : b.length ≤ 10100) : (0 ≤ cA kek f b ∧ cA kek f b ≤ 1000000) ∧ (0 ≤ cL kek f b ∧ cL kek f b ≤ 1000000) := by
  unfold cA cL
  by_cases h : costOk kek f b = true
  · rw [if_pos h, if_pos h]
    unfold costOk at h
    rw [Bool.and_eq_true] at h
    have h3 := kek_three h.1
    obtain ⟨h1, _, h2⟩ := cost_le kek.length f b (by omega) h.2
    omega
  · rw [if_neg h, if_neg h]; omega
end Go.Proofs.YtgoocfelgkagnaaGreatDoor.Vm
/- Contracts: the laws of layer 42. -/
set_option maxRecDepth 100000
namespace Go.Proofs.YtgoocfelgkagnaaGreatDoor.Vm
open Go Go.Proofs Go.RowKit Go.Proofs.YtgoocfelgkagnaaGreatDoor.Flt
variable {ml : Int}
theorem cxsame (a b : Int) (ha : a.natAbs < 2 ^ 53) (hb : b.natAbs < 2 ^ 53) : (FloatKind.f64.format.order (nr a) (nr a) == some .eq && FloatKind.f64.format.order (nr b) (nr b) == some .eq) = true := by
  rw [(fcmp ha ha).1, (fcmp hb hb).1]; simp
theorem nr2 : nr 2 = 4611686018427387904 := by decide +kernel
theorem nr3 : nr 3 = 4613937818241073152 := by decide +kernel
theorem nr16 : nr 16 = 4625196817309499392 := by decide +kernel
abbrev t42 : List UInt8 := [48, 49, 50, 51, 52, 53, 54, 55, 56, 57, 97, 98, 99, 100, 101, 102]
theorem awake42 : Ret P (C ml) 8 [] (.b true) := by
  have k1 := lCost (ml := ml) t42 1 t42 (by decide) (by decide)
  rw [show cA t42 1 t42 = 1 from rfl, show cL t42 1 t42 = 16 from rfl] at k1
  have k2 := lFits (ml := ml) 1 24 (by decide) (by decide)
  rw [show lfit 1 24 = true from rfl] at k2
  have k3 := lFits (ml := ml) 1 20 (by decide) (by decide)
  rw [show lfit 1 20 = false from rfl] at k3
  have k4 := lMost (ml := ml) 2 160 (by decide) (by decide)
  rw [show most 2 160 = 36 from rfl] at k4
  have k5 : HRet P (C ml) 15 [.ref 15 0 0 2] [(15, 0, .row true (.row 1 23) [.cx .f64 4607182418800017408 0, .cx .f64 4611686018427387904 4613937818241073152])] (xs 3 3) [(15, 0, .dead)] := by
    rw [← nr1, ← nr2, ← nr3]
    exact lTotal (ml := ml) 15 1 0 2 3 (by decide) (by decide) (by decide) (by decide)
  have g1 : (FloatKind.f64.format.order (nr 1) 4607182418800017408 == some .eq && FloatKind.f64.format.order (nr 16) 4625196817309499392 == some .eq) = true := by
    rw [← nr1, ← nr16]; exact cxsame 1 16 (by decide) (by decide)
  have g2 : (FloatKind.f64.format.order (nr 3) 4613937818241073152 == some .eq && FloatKind.f64.format.order (nr 3) 4613937818241073152 == some .eq) = true := by
    rw [← nr3]; exact cxsame 3 3 (by decide) (by decide)
  refine hret_of tab_ok Tryz.func8 rfl rfl (by kernel_rfl) rfl ?_
  refine g_fin tab_ok mixed 3000 [cc k1, .t, cc k2, .t, cc k3, .t, cc k4, .t, ch k5] rfl (by (simp only [AllR]; (repeat' first | exact k1 | exact k2 | exact k3 | exact k4 | exact k5 | exact g1 | exact g2 | exact True.intro | (show (_ : Bool) = _; assumption) | omega | apply And.intro); all_goals first | (simp; done) | (simp; omega) | exact Nat.le_of_ble_eq_true rfl | kernel_rfl)) (ret_of rfl ?_ trivial trivial)
  exact .inl (congrArg T.b g2)
theorem kek_cond (kek : List UInt8) : ((((kek.length : Int) == 16) = true ∧ kekOk kek.length = true) ∨ (((kek.length : Int) == 16) = false ∧ ((kek.length : Int) == 24) = true ∧ kekOk kek.length = true) ∨ (((kek.length : Int) == 16) = false ∧ ((kek.length : Int) == 24) = false ∧ ((kek.length : Int) == 32) = true ∧ kekOk kek.length = true) ∨
    (((kek.length : Int) == 16) = false ∧ ((kek.length : Int) == 24) = false ∧ ((kek.length : Int) == 32) = false ∧ kekOk kek.length = false)) := by
  unfold kekOk
  by_cases h1 : (kek.length : Int) = 16
  · exact .inl (by simp [h1])
  by_cases h2 : (kek.length : Int) = 24
  · exact .inr (.inl (by simp [h2]))
  by_cases h3 : (kek.length : Int) = 32
  · exact .inr (.inr (.inl (by simp [h3])))
  exact .inr (.inr (.inr (by simp [h1, h2, h3])))
theorem limitTells42 (kek : List UInt8) (f n : Int) (b : List UInt8) (h1 : -9223372036854775808 ≤ n) (h2 : n ≤ 9223372036854775807) :
    Ret P (C ml) 3 [.s kek, .i .i64 f, .i .i64 n, .s b] (.b true) := by
  refine hret_of tab_ok Tryz.func3 rfl rfl (by kernel_rfl) rfl ?_
  have ka := awake42 (ml := ml)
  by_cases c1 : 100 < kek.length
  · refine g_fin tab_ok mixed 3000 [.t, cc ka] rfl (by (simp only [AllR]; (repeat' first | exact ka | exact True.intro | (show (_ : Bool) = _; assumption) | omega | apply And.intro); all_goals first | (simp; done) | (simp; omega) | exact Nat.le_of_ble_eq_true rfl | kernel_rfl)) (ret_of rfl ?_ trivial trivial)
    (first | exact .inl rfl | rfl | (simp [tle]; done) | (simp_all [tle, tleL]; done))
  by_cases c2 : 10100 < b.length
  · refine g_fin tab_ok mixed 3000 [.f, .t, cc ka] rfl (by (simp only [AllR]; (repeat' first | exact ka | exact True.intro | (show (_ : Bool) = _; assumption) | omega | apply And.intro); all_goals first | (simp; done) | (simp; omega) | exact Nat.le_of_ble_eq_true rfl | kernel_rfl)) (ret_of rfl ?_ trivial trivial)
    (first | exact .inl rfl | rfl | (simp [tle]; done) | (simp_all [tle, tleL]; done))
  have k1 := rFits (ml := ml) f b.length
  have k2 := lFits (ml := ml) f n h1 h2
  have k3 := rFits (ml := ml) f n
  have k4 := lMost (ml := ml) f n h1 h2
  have k5 := rMost42 (ml := ml) f n
  have k6 := lCost (ml := ml) kek f b (by omega) (by omega)
  generalize lfit f n = ff at *
  generalize most f n = mm at *
  have b1 : (ff == ff) = true := beq_self_eq_true _
  have b2 : (mm == mm) = true := beq_self_eq_true _
  have g0 : (FloatKind.f64.format.order (nr 0) 0 == some .eq && FloatKind.f64.format.order (nr 0) 0 == some .eq) = true := cxsame 0 0 (by decide) (by decide)
  obtain ⟨⟨a1, a2⟩, ⟨a3, a4⟩⟩ := cost_range kek f b (by omega)
  have hp : (2 : Nat) ^ 53 = 9007199254740992 := rfl
  rcases Bool.eq_false_or_eq_true (lfit f b.length) with d1 | d1
  · rw [d1] at k1
    rcases kek_cond kek with ⟨e1, ek⟩ | ⟨e1, e2, ek⟩ | ⟨e1, e2, e3, ek⟩ | ⟨e1, e2, e3, ek⟩
    · have k7 := rBlocks42 (ml := ml) kek f b ek d1 (by omega)
      have hok : costOk kek f b = true := by unfold costOk; rw [ek, d1]; rfl
      simp only [cA, cL, if_pos hok] at k6 a1 a2 a3 a4
      generalize blkI kek.length f b = z at *
      have g1 := cxsame z b.length (by omega) (by omega)
      clear a1 a2 hp
      refine g_fin tab_ok mixed 3000 [.f, .f, cc k1, .t, .t, cc k7, cc k2, cc k3, .t, cc k4, cc k5, .t, cc k6, .t, cc ka] rfl (by (simp only [AllR]; (repeat' first | exact ka | exact k1 | exact k2 | exact k3 | exact k4 | exact k5 | exact k6 | exact k7 | exact g1 | exact True.intro | (show (_ : Bool) = _; assumption) | omega | apply And.intro); all_goals first | (simp; done) | (simp; omega) | exact Nat.le_of_ble_eq_true rfl | kernel_rfl)) (ret_of rfl ?_ trivial trivial)
      (first | exact .inl rfl | rfl | (simp [tle]; done) | (simp_all [tle, tleL]; done))
    · have k7 := rBlocks42 (ml := ml) kek f b ek d1 (by omega)
      have hok : costOk kek f b = true := by unfold costOk; rw [ek, d1]; rfl
      simp only [cA, cL, if_pos hok] at k6 a1 a2 a3 a4
      generalize blkI kek.length f b = z at *
      have g1 := cxsame z b.length (by omega) (by omega)
      clear a1 a2 hp
      refine g_fin tab_ok mixed 3000 [.f, .f, cc k1, .t, .f, .t, cc k7, cc k2, cc k3, .t, cc k4, cc k5, .t, cc k6, .t, cc ka] rfl (by (simp only [AllR]; (repeat' first | exact ka | exact k1 | exact k2 | exact k3 | exact k4 | exact k5 | exact k6 | exact k7 | exact g1 | exact True.intro | (show (_ : Bool) = _; assumption) | omega | apply And.intro); all_goals first | (simp; done) | (simp; omega) | exact Nat.le_of_ble_eq_true rfl | kernel_rfl)) (ret_of rfl ?_ trivial trivial)
      (first | exact .inl rfl | rfl | (simp [tle]; done) | (simp_all [tle, tleL]; done))
    · have k7 := rBlocks42 (ml := ml) kek f b ek d1 (by omega)
      have hok : costOk kek f b = true := by unfold costOk; rw [ek, d1]; rfl
      simp only [cA, cL, if_pos hok] at k6 a1 a2 a3 a4
      generalize blkI kek.length f b = z at *
      have g1 := cxsame z b.length (by omega) (by omega)
      clear a1 a2 hp
      refine g_fin tab_ok mixed 3000 [.f, .f, cc k1, .t, .f, .f, .t, cc k7, cc k2, cc k3, .t, cc k4, cc k5, .t, cc k6, .t, cc ka] rfl (by (simp only [AllR]; (repeat' first | exact ka | exact k1 | exact k2 | exact k3 | exact k4 | exact k5 | exact k6 | exact k7 | exact g1 | exact True.intro | (show (_ : Bool) = _; assumption) | omega | apply And.intro); all_goals first | (simp; done) | (simp; omega) | exact Nat.le_of_ble_eq_true rfl | kernel_rfl)) (ret_of rfl ?_ trivial trivial)
      (first | exact .inl rfl | rfl | (simp [tle]; done) | (simp_all [tle, tleL]; done))
    · have hok : ¬ costOk kek f b = true := by unfold costOk; rw [ek]; simp
      unfold cA cL at k6
      rw [if_neg hok, if_neg hok] at k6
      clear a1 a2 a3 a4 hp
      refine g_fin tab_ok mixed 3000 [.f, .f, cc k1, .t, .f, .f, .f, cc k2, cc k3, .t, cc k4, cc k5, .t, cc k6, .t, cc ka] rfl (by (simp only [AllR]; (repeat' first | exact ka | exact k1 | exact k2 | exact k3 | exact k4 | exact k5 | exact k6 | exact g0 | exact True.intro | (show (_ : Bool) = _; assumption) | omega | apply And.intro); all_goals first | (simp; done) | (simp; omega) | exact Nat.le_of_ble_eq_true rfl | kernel_rfl)) (ret_of rfl ?_ trivial trivial)
      (first | exact .inl rfl | rfl | (simp [tle]; done) | (simp_all [tle, tleL]; done))
  · rw [d1] at k1
    have hok : ¬ costOk kek f b = true := by unfold costOk; rw [d1]; simp
    unfold cA cL at k6
    rw [if_neg hok, if_neg hok] at k6
    clear a1 a2 a3 a4 hp
    refine g_fin tab_ok mixed 3000 [.f, .f, cc k1, .f, cc k2, cc k3, .t, cc k4, cc k5, .t, cc k6, .t, cc ka] rfl (by (simp only [AllR]; (repeat' first | exact ka | exact k1 | exact k2 | exact k3 | exact k4 | exact k5 | exact k6 | exact g0 | exact True.intro | (show (_ : Bool) = _; assumption) | omega | apply And.intro); all_goals first | (simp; done) | (simp; omega) | exact Nat.le_of_ble_eq_true rfl | kernel_rfl)) (ret_of rfl ?_ trivial trivial)
    (first | exact .inl rfl | rfl | (simp [tle]; done) | (simp_all [tle, tleL]; done))
theorem limitHolds42 (kek : List UInt8) (f : Int) (a b : List UInt8) :
    Ret P (C ml) 4 [.s kek, .i .i64 f, .s a, .s b] (.b true) := by
  refine hret_of tab_ok Tryz.func4 rfl rfl (by kernel_rfl) rfl ?_
  have ka := awake42 (ml := ml)
  by_cases c1 : 100 < kek.length
  · refine g_fin tab_ok mixed 3000 [.t, cc ka] rfl (by (simp only [AllR]; (repeat' first | exact ka | exact True.intro | (show (_ : Bool) = _; assumption) | omega | apply And.intro); all_goals first | (simp; done) | (simp; omega) | exact Nat.le_of_ble_eq_true rfl | kernel_rfl)) (ret_of rfl ?_ trivial trivial)
    (first | exact .inl rfl | rfl | (simp [tle]; done) | (simp_all [tle, tleL]; done))
  by_cases c2 : 10100 < a.length
  · refine g_fin tab_ok mixed 3000 [.f, .t, cc ka] rfl (by (simp only [AllR]; (repeat' first | exact ka | exact True.intro | (show (_ : Bool) = _; assumption) | omega | apply And.intro); all_goals first | (simp; done) | (simp; omega) | exact Nat.le_of_ble_eq_true rfl | kernel_rfl)) (ret_of rfl ?_ trivial trivial)
    (first | exact .inl rfl | rfl | (simp [tle]; done) | (simp_all [tle, tleL]; done))
  by_cases c3 : 10100 < b.length
  · refine g_fin tab_ok mixed 3000 [.f, .f, .t, cc ka] rfl (by (simp only [AllR]; (repeat' first | exact ka | exact True.intro | (show (_ : Bool) = _; assumption) | omega | apply And.intro); all_goals first | (simp; done) | (simp; omega) | exact Nat.le_of_ble_eq_true rfl | kernel_rfl)) (ret_of rfl ?_ trivial trivial)
    (first | exact .inl rfl | rfl | (simp [tle]; done) | (simp_all [tle, tleL]; done))
  have k1 := lCost (ml := ml) kek f a (by omega) (by omega)
  have k2 := lCost (ml := ml) kek f b (by omega) (by omega)
  obtain ⟨r1, r2⟩ := cost_range kek f a (by omega)
  obtain ⟨r3, r4⟩ := cost_range kek f b (by omega)
  have k3 := lTotal (ml := ml) 36 (cA kek f a) (cL kek f a) (cA kek f b) (cL kek f b) r1 r2 r3 r4
  have k4 := lMost (ml := ml) f a.length (by omega) (by omega)
  have k5 := lFits (ml := ml) f a.length (by omega) (by omega)
  have hp : (2 : Nat) ^ 53 = 9007199254740992 := rfl
  have j1 : FloatKind.f64.format.add (nr (cA kek f a)) (nr (cA kek f b)) = some (nr (cA kek f a + cA kek f b)) ∧ FloatKind.f64.format.add (nr (cL kek f a)) (nr (cL kek f b)) = some (nr (cL kek f a + cL kek f b)) := ⟨add_nr (by omega) (by omega) (by omega), add_nr (by omega) (by omega) (by omega)⟩
  have g1 := cxsame (cA kek f a + cA kek f b) (cL kek f a + cL kek f b) (by omega) (by omega)
  have q1 := fcmp (a := cA kek f a) (b := 0) (by omega) (by decide)
  have q2 := fcmp (a := cL kek f a) (b := 0) (by omega) (by decide)
  rw [nr0] at q1 q2
  have g2 : (FloatKind.f64.format.order (nr (cA kek f a)) 0 == some .gt || FloatKind.f64.format.order (nr (cA kek f a)) 0 == some .eq) = true := by rw [q1.1, q1.2.2]; simp; omega
  have g3 : (FloatKind.f64.format.order (nr (cA kek f a)) 0 == some .eq && FloatKind.f64.format.order (nr (cL kek f a)) 0 == some .eq) = decide (cA kek f a = 0 ∧ cL kek f a = 0) := by rw [q1.1, q2.1, Bool.eq_iff_iff]; simp
  have i1 := fti (z := cL kek f a) (by omega)
  have i2 := fti (z := cA kek f a) (by omega)
  clear q1 q2
  by_cases hok : costOk kek f a = true
  · have hx := hok
    unfold costOk at hx
    rw [Bool.and_eq_true] at hx
    have h3 := kek_three hx.1
    obtain ⟨l1, l2, l3⟩ := cost_le kek.length f a (by omega) hx.2
    have hr := lfit_range hx.2
    have eA : cA kek f a = blkI kek.length f a := if_pos hok
    have eL : cL kek f a = a.length := if_pos hok
    rw [eL] at g3 i1
    rw [← eA] at l1 l2 l3
    have g3 : (!(FloatKind.f64.format.order (nr (cA kek f a)) 0 == some .eq && FloatKind.f64.format.order (nr (a.length : Int)) 0 == some .eq)) = true := by rw [g3, decide_eq_false (by omega)]; rfl
    rw [eL] at k1 k3 j1 g1
    have w1 : IntKind.i64.wrap ((a.length : Int) + 16) = (a.length : Int) + 16 := w64 (by omega) (by omega)
    have g4 : ((a.length : Int) != a.length) = false := by simp
    have g5 : decide (cA kek f a > most f a.length) = false := decide_eq_false (by omega)
    have g6 : decide (cA kek f a > IntKind.i64.wrap ((a.length : Int) + 16)) = false := decide_eq_false (by rw [w1]; omega)
    clear w1 eA eL r1 r2 r3 r4 hp l1 l2 l3
    generalize cA kek f a = x at *
    generalize cA kek f b = y at *
    generalize cL kek f b = m at *
    generalize most f a.length = mm at *
    refine g_fin tab_ok mixed 3000 [.f, .f, .f, cc k1, cc k2, ch k3, .t, fio i1, .f, fio i2, cc k4, .f, fio i2, .f, cxo j1, .t, .t, .t, cc ka] rfl (by (simp only [AllR]; (repeat' first | exact ka | exact k1 | exact k2 | exact k3 | exact k4 | exact k5 | exact j1 | exact g1 | exact g2 | exact g3 | exact i1 | exact i2 | exact True.intro | (show (_ : Bool) = _; assumption) | omega | apply And.intro); all_goals first | (simp; done) | (simp; omega) | exact Nat.le_of_ble_eq_true rfl | kernel_rfl)) (ret_of rfl ?_ trivial trivial)
    (first | exact .inl rfl | rfl | (simp [tle]; done) | (simp_all [tle, tleL]; done))
  · have eA : cA kek f a = 0 := if_neg hok
    have eL : cL kek f a = 0 := if_neg hok
    have g3 : (!(FloatKind.f64.format.order (nr (cA kek f a)) 0 == some .eq && FloatKind.f64.format.order (nr (cL kek f a)) 0 == some .eq)) = false := by rw [g3, eA, eL]; rfl
    clear eA eL r1 r2 r3 r4 hp
    generalize cA kek f a = x at *
    generalize cL kek f a = l at *
    generalize cA kek f b = y at *
    generalize cL kek f b = m at *
    rcases Bool.eq_false_or_eq_true (lfit f a.length) with d1 | d1
    · rw [d1] at k5
      have hk : kekOk kek.length = false := by
        unfold costOk at hok
        rw [d1, Bool.and_true] at hok
        simpa using hok
      rcases kek_cond kek with ⟨e1, ek⟩ | ⟨e1, e2, ek⟩ | ⟨e1, e2, e3, ek⟩ | ⟨e1, e2, e3, ek⟩
      · rw [hk] at ek; cases ek
      · rw [hk] at ek; cases ek
      · rw [hk] at ek; cases ek
      · have n1 : ((kek.length : Int) != 16) = true := by simpa using e1
        have n2 : ((kek.length : Int) != 24) = true := by simpa using e2
        have n3 : ((kek.length : Int) != 32) = true := by simpa using e3
        refine g_fin tab_ok mixed 3000 [.f, .f, .f, cc k1, cc k2, ch k3, .f, cxo j1, .t, .t, .f, cc k5, .f, .t, .t, .t, cc ka] rfl (by (simp only [AllR]; (repeat' first | exact ka | exact k1 | exact k2 | exact k3 | exact k4 | exact k5 | exact j1 | exact g1 | exact g2 | exact g3 | exact True.intro | (show (_ : Bool) = _; assumption) | omega | apply And.intro); all_goals first | (simp; done) | (simp; omega) | exact Nat.le_of_ble_eq_true rfl | kernel_rfl)) (ret_of rfl ?_ trivial trivial)
        (first | exact .inl rfl | rfl | (simp [tle]; done) | (simp_all [tle, tleL]; done))
    · rw [d1] at k5
      refine g_fin tab_ok mixed 3000 [.f, .f, .f, cc k1, cc k2, ch k3, .f, cxo j1, .t, .t, .f, cc k5, .t, cc ka] rfl (by (simp only [AllR]; (repeat' first | exact ka | exact k1 | exact k2 | exact k3 | exact k4 | exact k5 | exact j1 | exact g1 | exact g2 | exact g3 | exact True.intro | (show (_ : Bool) = _; assumption) | omega | apply And.intro); all_goals first | (simp; done) | (simp; omega) | exact Nat.le_of_ble_eq_true rfl | kernel_rfl)) (ret_of rfl ?_ trivial trivial)
      (first | exact .inl rfl | rfl | (simp [tle]; done) | (simp_all [tle, tleL]; done))
end Go.Proofs.YtgoocfelgkagnaaGreatDoor.Vm
