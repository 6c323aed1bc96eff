/- Contracts: strconv.Atoi, whole. -/
import Derived.Test.YtdiippegaidpkaaDoorAtoi
set_option linter.unusedVariables false
set_option linter.unusedSimpArgs false
set_option linter.unnecessarySimpa false
namespace Go.Proofs.YtdiippegaidpkaaDoor.Vm
open Go Go.Proofs Go.RowKit
variable {ml : Int}
theorem ret_weak {C : Ctx} {f : FuncId} {args : List T} {r r' : T} (h : Ret P C f args r) (hl : tle [] [] r r') : Ret P C f args r' := by
  refine ⟨h.1, fun ρ I w vals a b c => (h.2 ρ I w vals a b c).mono ?_⟩
  rintro e w' ⟨v, r0, ρ', hout, I', e1, e2, e3, e4, e5, rfl, rfl⟩
  exact ⟨v, r', ρ', [], I', e1, tle_VR (fun id g o ho => by simp [hlook] at ho) _ _ _ hl e2, e3, e4, e5, rfl, rfl⟩
theorem parseInt_empty : Ret P (C ml) 67 [.s [], .i .i64 10, .i .i64 0] (.tup [.i .i64 0, errT 2]) := by
  refine hret_of tab_ok Tryd.func67 rfl rfl (by kernel_rfl) rfl ?_
  refine g_fin tab_ok mixed 3000 [.t] rfl (by (simp only [AllR]; (repeat' first | exact True.intro | (show (_ : Bool) = _; assumption) | omega | apply And.intro); all_goals first | (simp; done) | (simp; omega) | (simp_all; done) | exact Nat.le_of_ble_eq_true rfl | kernel_rfl)) (ret_of rfl ?_ trivial trivial)
  simp [tle, tleL, noRef]
theorem syntaxError (a b : List UInt8) (hb : b.length ≤ 1000000) : Ret P (C ml) 68 [.s a, .s b] .top := by
  refine hret_of tab_ok Tryd.func68 rfl rfl (by kernel_rfl) rfl ?_
  refine g_fin tab_ok mixed 3000 [.c (.s b) [] [], .a] rfl ⟨clone b hb, trivial⟩ (ret_of rfl ?_ trivial trivial)
  simp [tle]
theorem rangeError (a b : List UInt8) (hb : b.length ≤ 1000000) : Ret P (C ml) 69 [.s a, .s b] .top := by
  refine hret_of tab_ok Tryd.func69 rfl rfl (by kernel_rfl) rfl ?_
  refine g_fin tab_ok mixed 3000 [.c (.s b) [] [], .a] rfl ⟨clone b hb, trivial⟩ (ret_of rfl ?_ trivial trivial)
  simp [tle]
theorem toError (a b : List UInt8) (hb : b.length ≤ 1000000) (k : Int) (hk : k = 1 ∨ k = 2) : Ret P (C ml) 46 [.s a, .s b, .i .i64 0, .i .i64 0, errT k] (.ifc 89 .top) := by
  refine hret_of tab_ok Tryd.func46 rfl rfl (by kernel_rfl) rfl ?_
  rcases hk with rfl | rfl
  · refine g_fin tab_ok mixed 3000 [.v [.bl false], .v [.bl true], .c .top [] []] rfl ⟨err_eql, err_eql, rangeError a b hb, trivial⟩ (ret_of rfl ?_ trivial trivial)
    simp [tle, noRef]
  · refine g_fin tab_ok mixed 3000 [.v [.bl true], .c .top [] []] rfl ⟨err_eql, syntaxError a b hb, trivial⟩ (ret_of rfl ?_ trivial trivial)
    simp [tle, noRef]
theorem atoi0 (t : List UInt8) (ht : t.length ≤ 1000000) : (∀ v, atoiO t = some v → Ret P (C ml) 45 [.s t] (.tup [.i .i64 v, .nif])) ∧ (atoiO t = none → Bad 45 ml [.s t]) := by
  by_cases h0 : t.length = 0
  · obtain rfl := List.length_eq_zero_iff.1 h0
    refine ⟨fun v hv => by simp [atoiO, signO] at hv, fun _ => ⟨2, .inr rfl, ?_⟩⟩
    refine hret_of tab_ok Tryd.func45 rfl rfl (by kernel_rfl) rfl ?_
    refine g_fin tab_ok mixed 3000 [.f, .c (.tup [.i .i64 0, errT 2]) [] []] rfl (by (simp only [AllR]; (repeat' first | exact parseInt_empty | exact True.intro | (show (_ : Bool) = _; assumption) | omega | apply And.intro); all_goals first | (simp; done) | (simp; omega) | (simp_all; done) | exact Nat.le_of_ble_eq_true rfl | kernel_rfl)) (ret_of rfl ?_ trivial trivial)
    simp [tle, tleL, noRef]
  · by_cases h18 : t.length ≤ 18
    · have hf : ∀ (neg : Bool) (d : List UInt8), signO t = (neg, d) → d ≠ [] → d.length ≤ 18 → Ret P (C ml) 45 [.s t] (.tup [(fastR neg (decVal d 0)).1, (fastR neg (decVal d 0)).2]) →
          (∀ v, atoiO t = some v → Ret P (C ml) 45 [.s t] (.tup [.i .i64 v, .nif])) ∧ (atoiO t = none → Bad 45 ml [.s t]) := by
        intro neg d hs hd hd18 hr
        unfold atoiO
        rw [hs, if_neg hd]
        cases hv : decVal d 0 with
        | none =>
          rw [hv] at hr
          refine ⟨fun v h => (by cases h), fun _ => ⟨2, .inr rfl, ?_⟩⟩
          exact ret_weak hr (by simp [tle, tleL, noRef, fastR])
        | some u =>
          rw [hv] at hr
          have hu := pow_bound18 (decVal_lt d 0 0 u (by simp) hv) (by omega)
          cases neg with
          | true =>
            simp only [if_true]
            rw [if_pos (by omega)]
            exact ⟨fun v h => (by obtain rfl := Option.some.inj h; exact hr), fun h => (by cases h)⟩
          | false =>
            simp only [Bool.false_eq_true, if_false]
            rw [if_pos (by omega)]
            exact ⟨fun v h => (by obtain rfl := Option.some.inj h; exact hr), fun h => (by cases h)⟩
      have hd1 : 2 ≤ t.length → t.drop 1 ≠ [] := fun h e => by have := congrArg List.length e; simp at this; omega
      have hbad : t.length = 1 → (signO t).2 = [] → Bad 45 ml [.s t] → (∀ v, atoiO t = some v → Ret P (C ml) 45 [.s t] (.tup [.i .i64 v, .nif])) ∧ (atoiO t = none → Bad 45 ml [.s t]) := fun _ e h => by
        refine ⟨fun v hv => ?_, fun _ => h⟩
        rw [atoiO, if_pos e] at hv; cases hv
      by_cases s2 : bt t 0 = 45
      · by_cases h1 : t.length = 1
        · refine hbad h1 (by rw [signO_neg s2]; exact List.drop_of_length_le (by omega)) ⟨2, .inr rfl, ?_⟩
          refine hret_of tab_ok Tryd.func45 rfl rfl (by kernel_rfl) rfl ?_
          refine g_fin tab_ok mixed 3000 [.t, .t, .t, .t] rfl (by (simp only [AllR]; (repeat' first | exact by simpa using s2 | exact True.intro | (show (_ : Bool) = _; assumption) | omega | apply And.intro); all_goals first | (simp; done) | (simp; omega) | (simp_all; done) | exact Nat.le_of_ble_eq_true rfl | kernel_rfl)) (ret_of rfl ?_ trivial trivial)
          simp [tle, tleL, noRef]
        · exact hf true _ (signO_neg s2) (hd1 (by omega)) (by simp; omega) (fast_neg t (by omega) h18 (by omega) s2)
      · by_cases s1 : bt t 0 = 43
        · by_cases h1 : t.length = 1
          · refine hbad h1 (by rw [signO_pos s1]; exact List.drop_of_length_le (by omega)) ⟨2, .inr rfl, ?_⟩
            refine hret_of tab_ok Tryd.func45 rfl rfl (by kernel_rfl) rfl ?_
            refine g_fin tab_ok mixed 3000 [.t, .t, .f, .t, .t] rfl (by (simp only [AllR]; (repeat' first | exact by simpa using s2 | exact by simpa using s1 | exact True.intro | (show (_ : Bool) = _; assumption) | omega | apply And.intro); all_goals first | (simp; done) | (simp; omega) | (simp_all; done) | exact Nat.le_of_ble_eq_true rfl | kernel_rfl)) (ret_of rfl ?_ trivial trivial)
            simp [tle, tleL, noRef]
          · exact hf false _ (signO_pos s1) (hd1 (by omega)) (by simp; omega) (fast_pos t (by omega) h18 (by omega) s1 s2)
        · exact hf false _ (signO_none s2 s1) (by intro e; subst e; simp at h0) h18 (fast_none t (by omega) h18 s1 s2)
    · obtain ⟨p1, p2⟩ := parseInt (ml := ml) t ht (by omega)
      refine ⟨fun v hv => ?_, fun hn => ?_⟩
      · have := p1 v hv
        refine hret_of tab_ok Tryd.func45 rfl rfl (by kernel_rfl) rfl ?_
        refine g_fin tab_ok mixed 3000 [.t, .f, .c (.tup [.i .i64 v, .nif]) [] []] rfl (by (simp only [AllR]; (repeat' first | exact this | exact True.intro | (show (_ : Bool) = _; assumption) | omega | apply And.intro); all_goals first | (simp; done) | (simp; omega) | (simp_all; done) | exact Nat.le_of_ble_eq_true rfl | kernel_rfl)) (ret_of rfl ?_ trivial trivial)
        simp [tle, tleL, noRef]
      · obtain ⟨k, hk, hr⟩ := p2 hn
        refine ⟨k, hk, ?_⟩
        refine hret_of tab_ok Tryd.func45 rfl rfl (by kernel_rfl) rfl ?_
        refine g_fin tab_ok mixed 3000 [.t, .f, .c (.tup [.top, errT k]) [] []] rfl (by (simp only [AllR]; (repeat' first | exact hr | exact True.intro | (show (_ : Bool) = _; assumption) | omega | apply And.intro); all_goals first | (simp; done) | (simp; omega) | (simp_all; done) | exact Nat.le_of_ble_eq_true rfl | kernel_rfl)) (ret_of rfl ?_ trivial trivial)
        simp [tle, tleL, noRef]
/-- strconv.Atoi, at any text. -/
theorem atoi_ok (t : List UInt8) (ht : t.length ≤ 1000000) (v : Int) (hv : atoiO t = some v) : Ret P (C ml) 32 [.s t] (.tup [.i .i64 v, .nif]) := by
  refine hret_of tab_ok Tryd.func32 rfl rfl (by kernel_rfl) rfl ?_
  refine g_fin tab_ok mixed 3000 [.c (.tup [.i .i64 v, .nif]) [] [], .v [.bl false]] rfl ⟨(atoi0 t ht).1 v hv, nil_nil_neq, trivial⟩ (ret_of rfl ?_ trivial trivial)
  simp [tle, tleL, noRef]
theorem atoi_bad (t : List UInt8) (ht : t.length ≤ 1000000) (hv : atoiO t = none) : Ret P (C ml) 32 [.s t] (.tup [.top, .ifc 89 .top]) := by
  obtain ⟨k, hk, hr⟩ := (atoi0 (ml := ml) t ht).2 hv
  refine hret_of tab_ok Tryd.func32 rfl rfl (by kernel_rfl) rfl ?_
  refine g_fin tab_ok mixed 3000 [.c (.tup [.top, errT k]) [] [], .v [.bl true], .c (.ifc 89 .top) [] []] rfl ⟨hr, err_nil_neq, toError _ t ht k hk, trivial⟩ (ret_of rfl ?_ trivial trivial)
  simp [tle, tleL, noRef]
end Go.Proofs.YtdiippegaidpkaaDoor.Vm
