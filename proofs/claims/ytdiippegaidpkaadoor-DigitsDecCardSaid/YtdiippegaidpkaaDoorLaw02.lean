/- Contracts: clavigerlaw02. -/
import Derived.Test.YtdiippegaidpkaaDoorUndec
set_option linter.unusedVariables false
set_option linter.unusedSimpArgs false
set_option linter.unnecessarySimpa false
namespace Go.Proofs.YtdiippegaidpkaaDoor.Vm
open Go Go.Proofs Go.RowKit
variable {ml : Int}
set_option maxRecDepth 100000 in
theorem awake02 : Ret P (C ml) 8 [] (.b true) := by
  have k1 := dUnhex (ml := ml) [65, 66, 48, 53] (by decide)
  rw [show unhexO [65, 66, 48, 53] = some [171, 5] from by decide] at k1
  have k2 := dUndec (ml := ml) [48, 48, 55, 48] (by decide)
  rw [show undecO [48, 48, 55, 48] = some 70 from by decide] at k2
  have k3 := dHex (ml := ml) [171, 5] (by decide)
  rw [show hexs [171, 5] = [65, 66, 48, 53] from by decide] at k3
  have k4 := dDec (ml := ml) 7 4 (by decide) (by decide)
  rw [show decW 7 4 = [48, 48, 48, 55] from by simp [decW, decDigits_one]] at k4
  have k5 := dNum (ml := ml) (-12) (by decide) (by decide)
  rw [show Lib.itoa (-12) = [45, 49, 50] from by simp [Lib.itoa, decDigits_snoc 12 (by decide), decDigits_one]] at k5
  have k6 := dValue (ml := ml) 71 (by decide) (by decide)
  rw [show hexv 71 = -1 from by decide] at k6
  refine hret_of tab_ok Tryd.func8 rfl rfl (by kernel_rfl) rfl ?_
  refine g_fin tab_ok mixed 3000 [.c (.tup [.s [171, 5], .b true]) [] [], .c (.tup [.i .i64 70, .b true]) [] [], .c (.s [65, 66, 48, 53]) [] [], .t, .t, .t, .t, .t, .c (.s [48, 48, 48, 55]) [] [], .t, .c (.s [45, 49, 50]) [] [], .t, .c (.i .i64 (-1)) [] []] rfl ?_ (ret_of rfl ?_ trivial trivial)
  · (simp only [AllR]; (repeat' first | exact k1 | exact k2 | exact k3 | exact k4 | exact k5 | exact k6 | exact True.intro | omega | apply And.intro); all_goals first | (simp; done) | (simp; omega) | kernel_rfl)
  · simp [tle]
set_option maxRecDepth 100000 in
theorem digitsHex02 (s t : List UInt8) (c : Int) (hc0 : 0 ≤ c) (hc1 : c < 256) : Ret P (C ml) 3 [.s s, .s t, .i .u8 c] (.b true) := by
  refine hret_of tab_ok Tryd.func3 rfl rfl (by kernel_rfl) rfl ?_
  have ka := awake02 (ml := ml)
  by_cases c1 : 500 < s.length
  · refine g_fin tab_ok mixed 3000 [.t, .c (.b true) [] []] rfl ?_ (ret_of rfl ?_ trivial trivial)
    · (simp only [AllR]; (repeat' first | exact ka | exact True.intro | omega | apply And.intro); all_goals first | (simp; done) | (simp; omega) | kernel_rfl)
    · simp [tle]
  · by_cases c2 : 500 < t.length
    · refine g_fin tab_ok mixed 3000 [.f, .t, .c (.b true) [] []] rfl ?_ (ret_of rfl ?_ trivial trivial)
      · (simp only [AllR]; (repeat' first | exact ka | exact True.intro | omega | apply And.intro); all_goals first | (simp; done) | (simp; omega) | kernel_rfl)
      · simp [tle]
    · have k1 := dUnhex (ml := ml) t (by omega)
      have k2 := unhex02 (ml := ml) t (by omega)
      have k3 := dHex (ml := ml) s (by omega)
      have k4 := hex02 (ml := ml) s (by omega)
      have k5 := dValue (ml := ml) c hc0 hc1
      have k6 := value02 (ml := ml) c
      refine g_fin tab_ok mixed 3000 [.f, .f, .c (.tup [.s ((unhexO t).getD []), .b (unhexO t).isSome]) [] [], .c (.tup [.s ((unhexO t).getD []), .b (unhexO t).isSome]) [] [], .c (.s (hexs s)) [] [], .c (.s (hexs s)) [] [], .t, .t, .t, .c (.i .i64 (hexv c)) [] [], .c (.i .i64 (hexv c)) [] [], .t, .c (.b true) [] []] rfl ?_ (ret_of rfl ?_ trivial trivial)
      · (simp only [AllR]; (repeat' first | exact k1 | exact k2 | exact k3 | exact k4 | exact k5 | exact k6 | exact ka | exact True.intro | omega | apply And.intro); all_goals first | (simp; done) | (simp; omega) | kernel_rfl)
      · simp [tle]
set_option maxRecDepth 100000 in
theorem digitsDec02 (n w : Int) (t : List UInt8) (h1 : -9223372036854775808 ≤ n) (h2 : n ≤ 9223372036854775807) : Ret P (C ml) 4 [.i .i64 n, .i .i64 w, .s t] (.b true) := by
  refine hret_of tab_ok Tryd.func4 rfl rfl (by kernel_rfl) rfl ?_
  have ka := awake02 (ml := ml)
  by_cases c1 : 100 < t.length
  · refine g_fin tab_ok mixed 3000 [.t, .c (.b true) [] []] rfl ?_ (ret_of rfl ?_ trivial trivial)
    · (simp only [AllR]; (repeat' first | exact ka | exact True.intro | omega | apply And.intro); all_goals first | (simp; done) | (simp; omega) | kernel_rfl)
    · simp [tle]
  · have k1 := dUndec (ml := ml) t (by omega)
    have k2 := undec02 (ml := ml) t (by omega)
    have k3 := dUnnum (ml := ml) t (by omega)
    have k4 := unnum02 (ml := ml) t (by omega)
    have k5 := dDec (ml := ml) n w h1 h2
    have k6 := dec02 (ml := ml) n w h1 h2
    have k7 := dNum (ml := ml) n h1 h2
    have k8 := num02 (ml := ml) n h1 h2
    refine g_fin tab_ok mixed 3000 [.f, .c (.tup [.i .i64 (((undecO t).getD 0 : Nat) : Int), .b (undecO t).isSome]) [] [], .c (.tup [.i .i64 (((undecO t).getD 0 : Nat) : Int), .b (undecO t).isSome]) [] [], .c (.tup [.i .i64 ((unnumO t).getD 0), .b (unnumO t).isSome]) [] [], .c (.tup [.i .i64 ((unnumO t).getD 0), .b (unnumO t).isSome]) [] [], .c (.s (decW n w)) [] [], .c (.s (decW n w)) [] [], .t, .t, .t, .c (.s (Lib.itoa n)) [] [], .c (.s (Lib.itoa n)) [] [], .t, .t, .t, .c (.b true) [] []] rfl ?_ (ret_of rfl ?_ trivial trivial)
    · (simp only [AllR]; (repeat' first | exact k1 | exact k2 | exact k3 | exact k4 | exact k5 | exact k6 | exact k7 | exact k8 | exact ka | exact True.intro | omega | apply And.intro); all_goals first | (simp; done) | (simp; omega) | kernel_rfl)
    · simp [tle]
theorem sign_val (k : Nat) (h : k < 16) : hexv ((signs.getD k 0).toNat : Int) = k := by
  have : ∀ k : Fin 16, hexv ((signs.getD k 0).toNat : Int) = (k : Nat) := by decide
  exact this ⟨k, h⟩
theorem unhexO_hexs : ∀ s : List UInt8, unhexO (hexs s) = some s
  | [] => rfl
  | c :: s => by
    have hc := UInt8.toNat_lt c
    simp only [hexs]
    rw [unhexO, sign_val _ (by omega), sign_val _ (by omega), if_neg (by omega), unhexO_hexs s]
    simp only [Option.map_some, Option.some.injEq, List.cons.injEq, and_true]
    rw [show ((16 * ((c.toNat / 16 : Nat) : Int) + ((c.toNat % 16 : Nat) : Int)).toNat) = c.toNat from by omega]
    exact UInt8.ofNat_toNat
theorem val_sign (c : UInt8) (h : ¬ hexv (c.toNat : Int) < 0) : signs.getD (hexv (c.toNat : Int)).toNat 0 = c := by
  have hc := UInt8.toNat_lt c
  have : ∀ k : Fin 256, ¬ hexv ((UInt8.ofNat k).toNat : Int) < 0 → signs.getD (hexv ((UInt8.ofNat k).toNat : Int)).toNat 0 = UInt8.ofNat k := by decide +kernel
  have k := this ⟨c.toNat, hc⟩
  simp only [UInt8.ofNat_toNat] at k
  exact k h
theorem hexs_unhexO : ∀ (t z : List UInt8), unhexO t = some z → hexs z = t
  | [], z, h => by simp only [unhexO, Option.some.injEq] at h; subst h; rfl
  | [_], z, h => by simp [unhexO] at h
  | a :: b :: l, z, h => by
    rw [unhexO] at h
    split at h
    · cases h
    · rename_i hn
      cases hl : unhexO l with
      | none => rw [hl] at h; cases h
      | some y =>
        rw [hl] at h
        simp only [Option.map_some, Option.some.injEq] at h
        subst h
        have ih := hexs_unhexO l y hl
        have ha : ¬ hexv (a.toNat : Int) < 0 := fun x => hn (.inl x)
        have hb : ¬ hexv (b.toNat : Int) < 0 := fun x => hn (.inr x)
        have ua := hexv_hi a.toNat
        have ub := hexv_hi b.toNat
        have e : (UInt8.ofNat (16 * hexv a.toNat + hexv b.toNat).toNat).toNat = (16 * hexv a.toNat + hexv b.toNat).toNat := by
          rw [UInt8.toNat_ofNat']; omega
        simp only [hexs, e, ih]
        rw [show (16 * hexv a.toNat + hexv b.toNat).toNat / 16 = (hexv a.toNat).toNat from by omega, show (16 * hexv a.toNat + hexv b.toNat).toNat % 16 = (hexv b.toNat).toNat from by omega, val_sign a ha, val_sign b hb]
theorem decVal_zeros (k : Nat) (l : List UInt8) : decVal (List.replicate k 48 ++ l) 0 = decVal l 0 := by
  induction k with
  | zero => rfl
  | succ k ih =>
    rw [List.replicate_succ, List.cons_append, decVal, if_neg (by decide)]
    exact ih
theorem decW_back (n w : Int) (h : decW n w ≠ []) : 0 ≤ n ∧ undecO (decW n w) = some n.toNat ∧ ((decW n w).length : Int) = w ∧ (decW n w).length ≤ 18 := by
  unfold decW at h ⊢
  by_cases c1 : n < 0 ∨ w < 1 ∨ 18 < w
  · rw [if_pos c1] at h; exact absurd rfl h
  · rw [if_neg c1] at h ⊢
    by_cases c2 : w < (Lib.decDigits n.toNat).length
    · rw [if_pos c2] at h; exact absurd rfl h
    · rw [if_neg c2] at h ⊢
      have hl : (List.replicate (w.toNat - (Lib.decDigits n.toNat).length) (48 : UInt8) ++ Lib.decDigits n.toNat).length = w.toNat := by
        rw [List.length_append, List.length_replicate]; omega
      refine ⟨by omega, ?_, by omega, by omega⟩
      rw [undecO, if_neg (by omega), decVal_zeros, decVal_decDigits]
theorem unnumO_some {t : List UInt8} {v : Int} (h : unnumO t = some v) : -9223372036854775808 ≤ v ∧ v ≤ 9223372036854775807 ∧ Lib.itoa v = t := by
  unfold unnumO at h
  split at h
  · rename_i hx
    simp only [Option.some.injEq] at h
    have := hx.choose_spec
    rw [h] at this; exact this
  · cases h
set_option maxRecDepth 100000 in
theorem digitsBack02 (s t : List UInt8) (n w : Int) (h1 : -9223372036854775808 ≤ n) (h2 : n ≤ 9223372036854775807) : Ret P (C ml) 5 [.s s, .s t, .i .i64 n, .i .i64 w] (.b true) := by
  refine hret_of tab_ok Tryd.func5 rfl rfl (by kernel_rfl) rfl ?_
  have ka := awake02 (ml := ml)
  by_cases c1 : 500 < s.length
  · refine g_fin tab_ok mixed 3000 [.t, .c (.b true) [] []] rfl ?_ (ret_of rfl ?_ trivial trivial)
    · (simp only [AllR]; (repeat' first | exact ka | exact True.intro | omega | apply And.intro); all_goals first | (simp; done) | (simp; omega) | kernel_rfl)
    · simp [tle]
  · by_cases c2 : 500 < t.length
    · refine g_fin tab_ok mixed 3000 [.f, .t, .c (.b true) [] []] rfl ?_ (ret_of rfl ?_ trivial trivial)
      · (simp only [AllR]; (repeat' first | exact ka | exact True.intro | omega | apply And.intro); all_goals first | (simp; done) | (simp; omega) | kernel_rfl)
      · simp [tle]
    · have k1 := dHex (ml := ml) s (by omega)
      have k2 := dUnhex (ml := ml) (hexs s) (by rw [hexs_length]; omega)
      rw [unhexO_hexs s] at k2
      have k3 := dNum (ml := ml) n h1 h2
      have k4 := dUnnum (ml := ml) (Lib.itoa n) (by have := itoa_len h1 h2; omega)
      rw [unnumO_itoa n h1 h2] at k4
      have k5 := dDec (ml := ml) n w h1 h2
      have k7 := dUnnum (ml := ml) t (by omega)
      have k9 := dUnhex (ml := ml) t (by omega)
      have g4 : ((none : Option Int).isSome) = false := rfl
      by_cases c3 : decW n w = []
      · rw [c3] at k5
        cases hu : unnumO t with
        | none =>
          rw [hu] at k7
          cases hx : unhexO t with
          | none =>
            rw [hx] at k9
            refine g_fin tab_ok mixed 3000 [.f, .f, .c (.s (hexs s)) [] [], .c (.tup [.s s, .b true]) [] [], .c (.s (Lib.itoa n)) [] [], .c (.tup [.i .i64 n, .b true]) [] [], .f, .f, .f, .f, .c (.s []) [] [], .f, .c (.tup [.i .i64 0, .b false]) [] [], .f, .c (.tup [.s [], .b false]) [] [], .t, .c (.b true) [] []] rfl ?_ (ret_of rfl ?_ trivial trivial)
            · (simp only [AllR]; (repeat' first | exact k1 | exact k2 | exact k3 | exact k4 | exact k5 | exact k7 | exact k9 | exact ka | exact True.intro | omega | apply And.intro); all_goals first | (simp; done) | (simp; omega) | kernel_rfl)
            · simp [tle]
          | some z =>
            rw [hx] at k9
            have hz := hexs_unhexO t z hx
            have ka2 := dHex (ml := ml) z (by have := hexs_length z; rw [hz] at this; omega)
            rw [hz] at ka2
            refine g_fin tab_ok mixed 3000 [.f, .f, .c (.s (hexs s)) [] [], .c (.tup [.s s, .b true]) [] [], .c (.s (Lib.itoa n)) [] [], .c (.tup [.i .i64 n, .b true]) [] [], .f, .f, .f, .f, .c (.s []) [] [], .f, .c (.tup [.i .i64 0, .b false]) [] [], .f, .c (.tup [.s z, .b true]) [] [], .f, .c (.s t) [] [], .t, .c (.b true) [] []] rfl ?_ (ret_of rfl ?_ trivial trivial)
            · (simp only [AllR]; (repeat' first | exact k1 | exact k2 | exact k3 | exact k4 | exact k5 | exact k7 | exact k9 | exact ka | exact ka2 | exact True.intro | omega | apply And.intro); all_goals first | (simp; done) | (simp; omega) | kernel_rfl)
            · simp [tle]
        | some v =>
          rw [hu] at k7
          obtain ⟨v1, v2, v3⟩ := unnumO_some hu
          have k8 := dNum (ml := ml) v v1 v2
          rw [v3] at k8
          cases hx : unhexO t with
          | none =>
            rw [hx] at k9
            refine g_fin tab_ok mixed 3000 [.f, .f, .c (.s (hexs s)) [] [], .c (.tup [.s s, .b true]) [] [], .c (.s (Lib.itoa n)) [] [], .c (.tup [.i .i64 n, .b true]) [] [], .f, .f, .f, .f, .c (.s []) [] [], .f, .c (.tup [.i .i64 v, .b true]) [] [], .t, .c (.s t) [] [], .f, .c (.tup [.s [], .b false]) [] [], .t, .c (.b true) [] []] rfl ?_ (ret_of rfl ?_ trivial trivial)
            · (simp only [AllR]; (repeat' first | exact k1 | exact k2 | exact k3 | exact k4 | exact k5 | exact k7 | exact k8 | exact k9 | exact ka | exact True.intro | omega | apply And.intro); all_goals first | (simp; done) | (simp; omega) | kernel_rfl)
            · simp [tle]
          | some z =>
            rw [hx] at k9
            have hz := hexs_unhexO t z hx
            have ka2 := dHex (ml := ml) z (by have := hexs_length z; rw [hz] at this; omega)
            rw [hz] at ka2
            refine g_fin tab_ok mixed 3000 [.f, .f, .c (.s (hexs s)) [] [], .c (.tup [.s s, .b true]) [] [], .c (.s (Lib.itoa n)) [] [], .c (.tup [.i .i64 n, .b true]) [] [], .f, .f, .f, .f, .c (.s []) [] [], .f, .c (.tup [.i .i64 v, .b true]) [] [], .t, .c (.s t) [] [], .f, .c (.tup [.s z, .b true]) [] [], .f, .c (.s t) [] [], .t, .c (.b true) [] []] rfl ?_ (ret_of rfl ?_ trivial trivial)
            · (simp only [AllR]; (repeat' first | exact k1 | exact k2 | exact k3 | exact k4 | exact k5 | exact k7 | exact k8 | exact k9 | exact ka | exact ka2 | exact True.intro | omega | apply And.intro); all_goals first | (simp; done) | (simp; omega) | kernel_rfl)
            · simp [tle]
      · obtain ⟨d1, d2, d3, d4⟩ := decW_back n w c3
        have k6 := dUndec (ml := ml) (decW n w) (by omega)
        rw [d2] at k6
        simp only [Option.getD_some, Option.isSome_some, Int.toNat_of_nonneg d1] at k6
        have c3' : (!(decW n w == [])) = true := by simpa using c3
        have c4 : (!(decide (((decW n w).length : Int) = w))) = false := by simpa using d3
        cases hu : unnumO t with
        | none =>
          rw [hu] at k7
          cases hx : unhexO t with
          | none =>
            rw [hx] at k9
            refine g_fin tab_ok mixed 3000 [.f, .f, .c (.s (hexs s)) [] [], .c (.tup [.s s, .b true]) [] [], .c (.s (Lib.itoa n)) [] [], .c (.tup [.i .i64 n, .b true]) [] [], .f, .f, .f, .f, .c (.s (decW n w)) [] [], .t, .c (.tup [.i .i64 n, .b true]) [] [], .f, .f, .f, .c (.tup [.i .i64 0, .b false]) [] [], .f, .c (.tup [.s [], .b false]) [] [], .t, .c (.b true) [] []] rfl ?_ (ret_of rfl ?_ trivial trivial)
            · (simp only [AllR]; (repeat' first | exact k1 | exact k2 | exact k3 | exact k4 | exact k5 | exact k6 | exact c3' | exact k7 | exact k9 | exact ka | exact True.intro | omega | apply And.intro); all_goals first | (simp; done) | (simp; omega) | kernel_rfl)
            · simp [tle]
          | some z =>
            rw [hx] at k9
            have hz := hexs_unhexO t z hx
            have ka2 := dHex (ml := ml) z (by have := hexs_length z; rw [hz] at this; omega)
            rw [hz] at ka2
            refine g_fin tab_ok mixed 3000 [.f, .f, .c (.s (hexs s)) [] [], .c (.tup [.s s, .b true]) [] [], .c (.s (Lib.itoa n)) [] [], .c (.tup [.i .i64 n, .b true]) [] [], .f, .f, .f, .f, .c (.s (decW n w)) [] [], .t, .c (.tup [.i .i64 n, .b true]) [] [], .f, .f, .f, .c (.tup [.i .i64 0, .b false]) [] [], .f, .c (.tup [.s z, .b true]) [] [], .f, .c (.s t) [] [], .t, .c (.b true) [] []] rfl ?_ (ret_of rfl ?_ trivial trivial)
            · (simp only [AllR]; (repeat' first | exact k1 | exact k2 | exact k3 | exact k4 | exact k5 | exact k6 | exact c3' | exact k7 | exact k9 | exact ka | exact ka2 | exact True.intro | omega | apply And.intro); all_goals first | (simp; done) | (simp; omega) | kernel_rfl)
            · simp [tle]
        | some v =>
          rw [hu] at k7
          obtain ⟨v1, v2, v3⟩ := unnumO_some hu
          have k8 := dNum (ml := ml) v v1 v2
          rw [v3] at k8
          cases hx : unhexO t with
          | none =>
            rw [hx] at k9
            refine g_fin tab_ok mixed 3000 [.f, .f, .c (.s (hexs s)) [] [], .c (.tup [.s s, .b true]) [] [], .c (.s (Lib.itoa n)) [] [], .c (.tup [.i .i64 n, .b true]) [] [], .f, .f, .f, .f, .c (.s (decW n w)) [] [], .t, .c (.tup [.i .i64 n, .b true]) [] [], .f, .f, .f, .c (.tup [.i .i64 v, .b true]) [] [], .t, .c (.s t) [] [], .f, .c (.tup [.s [], .b false]) [] [], .t, .c (.b true) [] []] rfl ?_ (ret_of rfl ?_ trivial trivial)
            · (simp only [AllR]; (repeat' first | exact k1 | exact k2 | exact k3 | exact k4 | exact k5 | exact k6 | exact c3' | exact k7 | exact k8 | exact k9 | exact ka | exact True.intro | omega | apply And.intro); all_goals first | (simp; done) | (simp; omega) | kernel_rfl)
            · simp [tle]
          | some z =>
            rw [hx] at k9
            have hz := hexs_unhexO t z hx
            have ka2 := dHex (ml := ml) z (by have := hexs_length z; rw [hz] at this; omega)
            rw [hz] at ka2
            refine g_fin tab_ok mixed 3000 [.f, .f, .c (.s (hexs s)) [] [], .c (.tup [.s s, .b true]) [] [], .c (.s (Lib.itoa n)) [] [], .c (.tup [.i .i64 n, .b true]) [] [], .f, .f, .f, .f, .c (.s (decW n w)) [] [], .t, .c (.tup [.i .i64 n, .b true]) [] [], .f, .f, .f, .c (.tup [.i .i64 v, .b true]) [] [], .t, .c (.s t) [] [], .f, .c (.tup [.s z, .b true]) [] [], .f, .c (.s t) [] [], .t, .c (.b true) [] []] rfl ?_ (ret_of rfl ?_ trivial trivial)
            · (simp only [AllR]; (repeat' first | exact k1 | exact k2 | exact k3 | exact k4 | exact k5 | exact k6 | exact c3' | exact k7 | exact k8 | exact k9 | exact ka | exact ka2 | exact True.intro | omega | apply And.intro); all_goals first | (simp; done) | (simp; omega) | kernel_rfl)
            · simp [tle]
end Go.Proofs.YtdiippegaidpkaaDoor.Vm
