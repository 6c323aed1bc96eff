/- Plain laws on digits. -/
import Derived.Test.YtdiippegaidpkaaDoorUndec
set_option linter.unnecessarySimpa false
set_option linter.unusedVariables false
set_option linter.unusedSimpArgs false
namespace Go.Proofs.YtdiippegaidpkaaDoor.Vm
open Go Go.Proofs
theorem sign_val (k : Nat) (h : k < 16) : hexv ((signs.getD k 0).toNat : Int) = k := by
  have : ∀ k : Fin 16, hexv ((signs.getD k 0).toNat : Int) = (k : Nat) := by decide
  exact this ⟨k, h⟩
theorem unhexO_hexs : ∀ s : List UInt8, unhexO (hexs s) = some s
  | [] => rfl
  | c :: s => by
    have hc := UInt8.toNat_lt c
    simp only [hexs]
    rw [unhexO, sign_val _ (by omega), sign_val _ (by omega), if_neg (by omega), unhexO_hexs s]
    simp only [Option.map_some, Option.some.injEq, List.cons.injEq, and_true]
    rw [show ((16 * ((c.toNat / 16 : Nat) : Int) + ((c.toNat % 16 : Nat) : Int)).toNat) = c.toNat from by omega]
    exact UInt8.ofNat_toNat
theorem val_sign (c : UInt8) (h : ¬ hexv (c.toNat : Int) < 0) : signs.getD (hexv (c.toNat : Int)).toNat 0 = c := by
  have hc := UInt8.toNat_lt c
  have : ∀ k : Fin 256, ¬ hexv ((UInt8.ofNat k).toNat : Int) < 0 → signs.getD (hexv ((UInt8.ofNat k).toNat : Int)).toNat 0 = UInt8.ofNat k := by decide +kernel
  have k := this ⟨c.toNat, hc⟩
  simp only [UInt8.ofNat_toNat] at k
  exact k h
theorem hexs_unhexO : ∀ (t z : List UInt8), unhexO t = some z → hexs z = t
  | [], z, h => by simp only [unhexO, Option.some.injEq] at h; subst h; rfl
  | [_], z, h => by simp [unhexO] at h
  | a :: b :: l, z, h => by
    rw [unhexO] at h
    split at h
    · cases h
    · rename_i hn
      cases hl : unhexO l with
      | none => rw [hl] at h; cases h
      | some y =>
        rw [hl] at h
        simp only [Option.map_some, Option.some.injEq] at h
        subst h
        have ih := hexs_unhexO l y hl
        have ha : ¬ hexv (a.toNat : Int) < 0 := fun x => hn (.inl x)
        have hb : ¬ hexv (b.toNat : Int) < 0 := fun x => hn (.inr x)
        have ua := hexv_hi a.toNat
        have ub := hexv_hi b.toNat
        have e : (UInt8.ofNat (16 * hexv a.toNat + hexv b.toNat).toNat).toNat = (16 * hexv a.toNat + hexv b.toNat).toNat := by
          rw [UInt8.toNat_ofNat']; omega
        simp only [hexs, e, ih]
        rw [show (16 * hexv a.toNat + hexv b.toNat).toNat / 16 = (hexv a.toNat).toNat from by omega, show (16 * hexv a.toNat + hexv b.toNat).toNat % 16 = (hexv b.toNat).toNat from by omega, val_sign a ha, val_sign b hb]
theorem decVal_zeros (k : Nat) (l : List UInt8) : decVal (List.replicate k 48 ++ l) 0 = decVal l 0 := by
  induction k with
  | zero => rfl
  | succ k ih =>
    rw [List.replicate_succ, List.cons_append, decVal, if_neg (by decide)]
    exact ih
theorem decW_back (n w : Int) (h : decW n w ≠ []) : 0 ≤ n ∧ undecO (decW n w) = some n.toNat ∧ ((decW n w).length : Int) = w ∧ (decW n w).length ≤ 18 := by
  unfold decW at h ⊢
  by_cases c1 : n < 0 ∨ w < 1 ∨ 18 < w
  · rw [if_pos c1] at h; exact absurd rfl h
  · rw [if_neg c1] at h ⊢
    by_cases c2 : w < (Lib.decDigits n.toNat).length
    · rw [if_pos c2] at h; exact absurd rfl h
    · rw [if_neg c2] at h ⊢
      have hl : (List.replicate (w.toNat - (Lib.decDigits n.toNat).length) (48 : UInt8) ++ Lib.decDigits n.toNat).length = w.toNat := by
        rw [List.length_append, List.length_replicate]; omega
      refine ⟨by omega, ?_, by omega, by omega⟩
      rw [undecO, if_neg (by omega), decVal_zeros, decVal_decDigits]
theorem unnumO_some {t : List UInt8} {v : Int} (h : unnumO t = some v) : -9223372036854775808 ≤ v ∧ v ≤ 9223372036854775807 ∧ Lib.itoa v = t := by
  unfold unnumO at h
  split at h
  · rename_i hx
    simp only [Option.some.injEq] at h
    have := hx.choose_spec
    rw [h] at this; exact this
  · cases h
end Go.Proofs.YtdiippegaidpkaaDoor.Vm
