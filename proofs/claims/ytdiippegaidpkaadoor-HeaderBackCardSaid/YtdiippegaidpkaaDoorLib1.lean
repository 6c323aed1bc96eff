/- Contracts: small functions of Go's library. -/
import Derived.Test.YtdiippegaidpkaaDoorItoa
set_option linter.unusedVariables false
set_option linter.unusedSimpArgs false
set_option linter.unnecessarySimpa false
namespace Go.Proofs.YtdiippegaidpkaaDoor.Vm
open Go Go.Proofs Go.RowKit
variable {ml : Int}
theorem indexByte (s : List UInt8) (c : Int) : Ret P (C ml) 29 [.s s, .i .u8 c] (.i .i64 (Lib.indexByte s c.toNat.toUInt8)) :=
  ret_of_calls (callable_of Tryd.func29 rfl rfl) fun ρ I w vals hg hm hv => by
    simp only [VRs, VR] at hv; obtain ⟨_, _, rfl, rfl, _, _, rfl, rfl, rfl⟩ := hv
    refine (Tryd.strings_IndexByte ⟨⟨s⟩⟩ c w).mono ?_
    rintro _ _ ⟨rfl, rfl⟩; exact ⟨_, rfl, rfl, Below.refl _ _⟩
theorem bitsMul (x y : Nat) (hx : x < 18446744073709551616) (hy : y < 18446744073709551616) : Ret P (C ml) 48 [.i .u64 x, .i .u64 y] (.tup [.i .u64 (x * y / 18446744073709551616 : Nat), .i .u64 (x * y % 18446744073709551616 : Nat)]) :=
  ret_of_calls (callable_of Tryd.func48 rfl rfl) fun ρ I w vals hg hm hv => by
    simp only [VRs, VR] at hv; obtain ⟨_, _, rfl, rfl, _, _, rfl, rfl, rfl⟩ := hv
    refine (Tryd.bits_Mul x y hx hy w).mono ?_
    rintro _ _ ⟨rfl, rfl⟩
    exact ⟨_, rfl, ⟨_, rfl, _, _, rfl, rfl, _, _, rfl, rfl, rfl⟩, Below.refl _ _⟩
/-- What a listed variable's cell holds. -/
theorem glob_cell {I : Mem} {w : World} {g : Nat} {cs : List T} (hg : GlobOk (C ml) I) (hm : ∀ a v, I a = some v → w.cell? a = some v) (hl : look (C ml).glob g = .rp cs 0) (j : Nat) (t : T) (hj : cs[j]? = some t) :
    ∃ v, w.cell? ⟨g, j, none⟩ = some v ∧ PV I t v := by
  rcases hg g with h | h
  · rw [hl] at h; cases h
  · rw [hl] at h
    simp only [PV] at h
    obtain ⟨a, b, vs, e, h1, h2, h3⟩ := h
    simp only [Value.pointer.injEq, Option.some.injEq, Addr.mk.injEq] at e
    obtain ⟨rfl, e2, _⟩ := e
    obtain rfl : b = 0 := by omega
    obtain ⟨v, e1, e2⟩ := h1.get j t hj
    exact ⟨v, hm _ _ (by simpa using h3 j v e1), e2⟩
theorem utf8Tabs {I : Mem} {w : World} (hg : GlobOk (C ml) I) (hm : ∀ a v, I a = some v → w.cell? a = some v) : Lib.Utf8Tabs 3 4 w := by
  refine ⟨fun c hc => ?_, fun i hi => ?_⟩
  · obtain ⟨v, h1, h2⟩ := glob_cell hg hm (g := 3) (cs := gFirst) rfl c (.i .u8 (Lib.firstT c : Nat)) (by simp [gFirst, hc])
    simp only [PV] at h2; subst h2; exact h1
  · have hlen : ∀ n, ((List.range n).flatMap fun i => [T.i .u8 (Lib.accLo i : Nat), T.i .u8 (Lib.accHi i : Nat)]).length = 2 * n := fun n => by
      induction n with
      | zero => rfl
      | succ n ih => rw [List.range_succ, List.flatMap_append, List.length_append, ih]; simp; omega
    have key : ∀ n, i < n → ((List.range n).flatMap fun i => [T.i .u8 (Lib.accLo i : Nat), T.i .u8 (Lib.accHi i : Nat)])[2 * i]? = some (T.i .u8 (Lib.accLo i : Nat)) ∧ ((List.range n).flatMap fun i => [T.i .u8 (Lib.accLo i : Nat), T.i .u8 (Lib.accHi i : Nat)])[2 * i + 1]? = some (T.i .u8 (Lib.accHi i : Nat)) := fun n => by
      induction n with
      | zero => omega
      | succ n ih =>
        intro hn
        rw [List.range_succ, List.flatMap_append]
        by_cases h : i < n
        · rw [List.getElem?_append_left (by rw [hlen]; omega), List.getElem?_append_left (by rw [hlen]; omega)]; exact ih h
        · obtain rfl : i = n := by omega
          rw [List.getElem?_append_right (by rw [hlen]; omega), List.getElem?_append_right (by rw [hlen]; omega), hlen]
          simp [show 2 * i + 1 - 2 * i = 1 by omega]
    obtain ⟨k1, k2⟩ := key 16 hi
    obtain ⟨v, h1, h2⟩ := glob_cell hg hm (g := 4) (cs := gAccept) rfl (2 * i) _ k1
    obtain ⟨v', h1', h2'⟩ := glob_cell hg hm (g := 4) (cs := gAccept) rfl (2 * i + 1) _ k2
    simp only [PV] at h2 h2'; subst h2; subst h2'; exact ⟨h1, h1'⟩
theorem decodeLast (s : List UInt8) (hs : s.length ≤ 9223372036854775807) : Ret P (C ml) 44 [.s s] (.tup [.i .i32 (Lib.decodeLastL s).1, .i .i64 (Lib.decodeLastL s).2]) :=
  ret_of_calls (callable_of Tryd.func44 rfl rfl) fun ρ I w vals hg hm hv => by
    simp only [VRs, VR] at hv; obtain ⟨_, _, rfl, rfl, rfl⟩ := hv
    refine (Tryd.utf8_DecodeLastRuneInString ⟨⟨s⟩⟩ w hs (utf8Tabs hg hm)).mono ?_
    rintro _ _ ⟨rfl, h⟩
    exact ⟨_, rfl, ⟨_, rfl, _, _, rfl, rfl, _, _, rfl, rfl, rfl⟩, h⟩
theorem hasPrefix0 (s p : List UInt8) (hp : p.length ≤ 9223372036854775807) : Ret P (C ml) 75 [.s s, .s p] (.b (decide (p <+: s))) := by
  refine hret_of tab_ok Tryd.func75 rfl rfl (by kernel_rfl) rfl ?_
  by_cases h : p.length ≤ s.length
  · refine g_fin tab_ok mixed 3000 [.t] rfl (by (simp only [AllR]; (repeat' first | exact True.intro | (show (_ : Bool) = _; assumption) | omega | apply And.intro); all_goals first | (simp; done) | (simp; omega) | (simp_all; done) | exact Nat.le_of_ble_eq_true rfl | kernel_rfl)) (ret_of rfl ?_ trivial trivial)
    simp [tle, List.prefix_iff_eq_take]
    rw [Bool.eq_iff_iff]; simp; exact eq_comm
  · refine g_fin tab_ok mixed 3000 [.f] rfl (by (simp only [AllR]; (repeat' first | exact True.intro | (show (_ : Bool) = _; assumption) | omega | apply And.intro); all_goals first | (simp; done) | (simp; omega) | (simp_all; done) | exact Nat.le_of_ble_eq_true rfl | kernel_rfl)) (ret_of rfl ?_ trivial trivial)
    have : ¬ p <+: s := fun h2 => h h2.length_le
    simp [tle, this]
theorem hasPrefix (s p : List UInt8) (hp : p.length ≤ 9223372036854775807) : Ret P (C ml) 49 [.s s, .s p] (.b (decide (p <+: s))) := by
  refine hret_of tab_ok Tryd.func49 rfl rfl (by kernel_rfl) rfl ?_
  refine g_fin tab_ok mixed 3000 [.c (.b (decide (p <+: s))) [] []] rfl ⟨hasPrefix0 s p hp, trivial⟩ (ret_of rfl (by simp [tle]) trivial trivial)
theorem hasPrefix_of {s p : List UInt8} {b : Bool} (hp : p.length ≤ 9223372036854775807) (h : decide (p <+: s) = b) : Ret P (C ml) 49 [.s s, .s p] (.b b) := h ▸ hasPrefix s p hp
set_option maxRecDepth 100000 in
/-- strings.Repeat of one zero sign, few times. -/
theorem repeat0 (n : Nat) (hn : n ≤ 18) : Ret P (C ml) 34 [.s [48], .i .i64 n] (.s (List.replicate n 48)) := by
  refine hret_of tab_ok Tryd.func34 rfl rfl (by kernel_rfl) rfl ?_
  by_cases h0 : n = 0
  · subst h0
    refine g_fin tab_ok mixed 3000 [.t] rfl (by (simp only [AllR]; (repeat' first | exact True.intro | (show (_ : Bool) = _; assumption) | omega | apply And.intro); all_goals first | (simp; done) | (simp; omega) | (simp_all; done) | exact Nat.le_of_ble_eq_true rfl | kernel_rfl)) (ret_of rfl (by simp [tle]) trivial trivial)
  · by_cases h1 : n = 1
    · subst h1
      refine g_fin tab_ok mixed 3000 [.f, .t] rfl (by (simp only [AllR]; (repeat' first | exact True.intro | (show (_ : Bool) = _; assumption) | omega | apply And.intro); all_goals first | (simp; done) | (simp; omega) | (simp_all; done) | exact Nat.le_of_ble_eq_true rfl | kernel_rfl)) (ret_of rfl (by simp [tle]) trivial trivial)
    · have k1 := bitsMul (ml := ml) 1 n (by omega) (by omega)
      rw [show 1 * n / 18446744073709551616 = 0 by omega, show 1 * n % 18446744073709551616 = n by omega] at k1
      have e1 : IntKind.u64.wrap (n : Int) = n := by rw [wrap_u64]; omega
      have e2 : IntKind.i64.wrap (n : Int) = n := by rw [wrap_i64]; omega
      refine g_fin tab_ok mixed 3000 [.f, .f, .f, .c (.tup [.i .u64 (0 : Nat), .i .u64 n]) [] [], .f, .f, .f, .f, .f, .t, .t, .t, .c (.b false) [] [], .f, .t, .c (.b false) [] [], .f, .t, .c (.b true) [] [], .t] rfl ?_ (ret_of rfl ?_ trivial trivial)
      · simp only [AllR, e1, e2]
        have d1 : decide ((n : Int) ≤ 128) = true := by simp; omega
        have d2 : decide ((n : Int) ≤ 64) = true := by simp; omega
        exact ⟨by simp; omega, by simp; omega, by simp, k1, rfl, rfl, by simp; omega, rfl, by simp, rfl, rfl, rfl, rfl, d1, hasPrefix_of (by decide) (by decide), d1, trivial, d1, hasPrefix_of (by decide) (by decide), d1, trivial, d2, hasPrefix_of (by decide) (by decide), d2, trivial, ⟨by omega, by simp; omega⟩, trivial⟩
      · simp only [e2]
        show T.s (List.take n (List.replicate 64 48)) = T.s (List.replicate n 48)
        rw [List.take_replicate, Nat.min_eq_left (by omega)]
end Go.Proofs.YtdiippegaidpkaaDoor.Vm
