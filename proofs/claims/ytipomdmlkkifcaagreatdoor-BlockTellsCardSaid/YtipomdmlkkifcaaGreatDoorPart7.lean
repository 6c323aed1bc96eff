/- Texts of one proof, gathered: Atoi Atoi2. -/
import Derived.Test.YtipomdmlkkifcaaGreatDoorPart5
set_option linter.unusedSimpArgs false
set_option linter.unusedVariables false
set_option linter.unnecessarySimpa false
/- Contracts: strconv.Atoi and what it calls. -/
namespace Go.Proofs.YtipomdmlkkifcaaGreatDoor.Vm
open Go Go.Proofs Go.RowKit
variable {ml : Int}
theorem hexv_dig (c : Int) : (48 ≤ c ∧ c ≤ 57 → hexv c = c - 48) ∧ (¬ (48 ≤ c ∧ c ≤ 57) → hexv c < 0 ∨ 9 < hexv c) := by
  unfold hexv; grind
theorem bytesT_at (l : List UInt8) (i : Nat) (h : i < l.length) : (bytesT l)[i]? = some (.i .u8 (bt l i)) := by
  simp [bytesT, bt, h]
theorem lower (c : Int) : Ret P (C ml) 343 [.i .u8 c] (.i .u8 (bitsI .or .u8 c 32)) := by
  refine hR Tryz.func343 ?_
  refine gFs [] rfl (ret_of rfl ?_ trivial trivial)
  simp [tle]
/-- What is told of a wrong number. -/
abbrev errT (k : Int) : T := .ifc 305 (.i .i64 k)
/-- An unsigned number of digits, behind 'n': its value, and what is wrong. -/
def puR : List UInt8 → Nat → T × T
  | [], n => (.i .u64 n, .nif)
  | c :: l, n => if ¬ (48 ≤ (c.toNat : Int) ∧ (c.toNat : Int) ≤ 57) then (.i .u64 0, errT 2) else if 18446744073709551616 ≤ 10 * n + (c.toNat - 48) then (.i .u64 18446744073709551615, errT 1) else puR l (10 * n + (c.toNat - 48))
set_option maxRecDepth 100000 in
theorem parseUint (s : List UInt8) (hs : s.length ≤ 1000000) (hne : s ≠ []) : Ret P (C ml) 326 [.s s, .i .i64 10, .i .i64 0] (.tup [(puR s 0).1, (puR s 0).2]) := by
  refine hR Tryz.func326 ?_
  refine g_run tab_ok mixed 3000 [.f, .t, .t, .t, .t] rfl ⟨by simpa using hne, rfl, rfl, rfl, rfl, rfl, by simp, trivial⟩ ?_
  refine g_loop (fun x : Nat × Nat => [(1, .i .i64 10), (8, .b ((10 : Int) == 0)), (10, .i .u64 1844674407370955162), (11, .i .u64 18446744073709551615), (12, .bl false), (13, .i .u64 x.2), (99, .ref 99 0 0 s.length), (100, .i .i64 s.length), (101, .i .i64 x.1)]) (fun _ => [(99, 0, .row true 1 (bytesT s))]) (fun x => x.1 ≤ s.length ∧ x.2 < 18446744073709551616 ∧ puR s 0 = puR (s.drop x.1) x.2) (fun x => s.length - x.1) (0, 0)
    ⟨⟨rfl, .inl rfl, rfl, rfl, rfl, rfl, ⟨rfl, rfl, rfl, rfl, rfl⟩, rfl, rfl, trivial⟩, ⟨⟨rfl, rfl, trivial⟩, trivial⟩, trivial⟩ ⟨by omega, by omega, rfl⟩ ?_
  rintro ⟨i, n⟩ ⟨h1, h2, h3⟩
  dsimp only at h1 h2 h3
  by_cases hi : i < s.length
  · have hat := bytesT_at s i hi
    have hat' : (bytesT s)[0 + (i : Int).toNat * (tin (C ml) 5).size]? = some (.i .u8 (bt s i)) := by
      rw [show (tin (C ml) 5).size = 1 from rfl]; simpa using hat
    have hlo := bt_lo s i
    have hhi := bt_hi s i
    rw [drop_one s i hi, puR] at h3
    have hb : ((s.getD i 0).toNat : Int) = bt s i := rfl
    have hb' : (s.getD i 0).toNat = (bt s i).toNat := rfl
    rw [hb, hb'] at h3
    clear hb hb' hat
    revert h3 hlo hhi hat'
    generalize bt s i = c
    intro h3 hat' hlo hhi
    by_cases hc : 48 ≤ c ∧ c ≤ 57
    · rw [if_neg (by simpa using hc)] at h3
      by_cases hcut : 1844674407370955162 ≤ n
      · rw [if_pos (by omega)] at h3
        refine gFs [.t, .v [.i .u8 c], .f, .t, .t, .f, .t] rfl (rd_ret (ret_of rfl ?_ trivial trivial))
        rw [h3]; simp [tle, tleL, noRef]
      · by_cases hbig : 18446744073709551616 ≤ 10 * n + (c.toNat - 48)
        · rw [if_pos hbig] at h3
          refine gFs [.t, .v [.i .u8 c], .f, .t, .t, .f, .f, .t] rfl (rd_ret (ret_of rfl ?_ trivial trivial))
          rw [h3]; simp [tle, tleL, noRef]
        · rw [if_neg hbig] at h3
          refine gFs [.t, .v [.i .u8 c], .f, .t, .t, .f, .f, .f, .f] rfl (rd_next (i + 1, 10 * n + (c.toNat - 48)) ⟨by omega, by simpa using hbig, h3⟩ (by simp; omega) ⟨rfl, .inl rfl, rfl, rfl, rfl, ?_, ⟨rfl, rfl, rfl, rfl, rfl⟩, rfl, ?_, trivial⟩ ⟨⟨rfl, rfl, trivial⟩, trivial⟩ trivial)
          · simp [tle]; omega
          · simp [tle]; omega
    · rw [if_pos hc] at h3
      have hl := lower (ml := ml) c
      revert hl
      generalize bitsI .or .u8 c 32 = L
      intro hl
      have p1 : c = 95 ∨ (c < 48 ∧ c ≠ 95) ∨ (57 < c ∧ c ≠ 95) := by omega
      have p2 : L < 97 ∨ (97 ≤ L ∧ L ≤ 122) ∨ 122 < L := by omega
      rcases p1 with rfl | p1 | p1 <;> rcases p2 with p2 | p2 | p2
      · refine gFs [.t, .v [.i .u8 95], .t, .f, .t, .f, .c (.i .u8 L) [] [], .f] rfl (rd_ret (ret_of rfl ?_ trivial trivial))
        rw [h3]; simp [tle, tleL, noRef]
      · refine gFs [.t, .v [.i .u8 95], .t, .f, .t, .f, .c (.i .u8 L) [] [], .t, .c (.i .u8 L) [] [], .t, .c (.i .u8 L) [] [], .t] rfl (rd_ret (ret_of rfl ?_ trivial trivial))
        rw [h3]; simp [tle, tleL, noRef]
      · refine gFs [.t, .v [.i .u8 95], .t, .f, .t, .f, .c (.i .u8 L) [] [], .t, .c (.i .u8 L) [] [], .f] rfl (rd_ret (ret_of rfl ?_ trivial trivial))
        rw [h3]; simp [tle, tleL, noRef]
      · refine gFs [.t, .v [.i .u8 c], .f, .f, .c (.i .u8 L) [] [], .f] rfl (rd_ret (ret_of rfl ?_ trivial trivial))
        rw [h3]; simp [tle, tleL, noRef]
      · refine gFs [.t, .v [.i .u8 c], .f, .f, .c (.i .u8 L) [] [], .t, .c (.i .u8 L) [] [], .t, .c (.i .u8 L) [] [], .t] rfl (rd_ret (ret_of rfl ?_ trivial trivial))
        rw [h3]; simp [tle, tleL, noRef]
      · refine gFs [.t, .v [.i .u8 c], .f, .f, .c (.i .u8 L) [] [], .t, .c (.i .u8 L) [] [], .f] rfl (rd_ret (ret_of rfl ?_ trivial trivial))
        rw [h3]; simp [tle, tleL, noRef]
      · refine gFs [.t, .v [.i .u8 c], .f, .t, .f, .c (.i .u8 L) [] [], .f] rfl (rd_ret (ret_of rfl ?_ trivial trivial))
        rw [h3]; simp [tle, tleL, noRef]
      · refine gFs [.t, .v [.i .u8 c], .f, .t, .f, .c (.i .u8 L) [] [], .t, .c (.i .u8 L) [] [], .t, .c (.i .u8 L) [] [], .t] rfl (rd_ret (ret_of rfl ?_ trivial trivial))
        rw [h3]; simp [tle, tleL, noRef]
      · refine gFs [.t, .v [.i .u8 c], .f, .t, .f, .c (.i .u8 L) [] [], .t, .c (.i .u8 L) [] [], .f] rfl (rd_ret (ret_of rfl ?_ trivial trivial))
        rw [h3]; simp [tle, tleL, noRef]
  · obtain rfl : i = s.length := by omega
    rw [List.drop_length, puR] at h3
    refine gFs [.f] rfl (rd_exit rfl ?_)
    refine g_fin tab_ok mixed 3000 [] rfl trivial (ret_of rfl ?_ trivial trivial)
    rw [h3]; simp [tle, tleL, noRef]
theorem puR_cases : ∀ (d : List UInt8) (n : Nat), n < 18446744073709551616 → (∃ u : Nat, puR d n = (.i .u64 u, .nif) ∧ decVal d n = some u ∧ u < 18446744073709551616) ∨
    ((puR d n = (.i .u64 0, errT 2) ∨ puR d n = (.i .u64 18446744073709551615, errT 1)) ∧ ∀ u, decVal d n = some u → 18446744073709551616 ≤ u)
  | [], n, h => .inl ⟨n, rfl, rfl, h⟩
  | c :: l, n, h => by
    obtain ⟨k1, k2⟩ := hexv_dig (c.toNat : Int)
    rw [puR, decVal]
    by_cases hc : 48 ≤ (c.toNat : Int) ∧ (c.toNat : Int) ≤ 57
    · have e := k1 hc
      have hx : ¬ (hexv (c.toNat : Int) < 0 ∨ 9 < hexv (c.toNat : Int)) := by omega
      rw [if_neg (by simpa using hc), if_neg hx, e, show ((c.toNat : Int) - 48).toNat = c.toNat - 48 by omega]
      by_cases hb : 18446744073709551616 ≤ 10 * n + (c.toNat - 48)
      · rw [if_pos hb]
        exact .inr ⟨.inr rfl, fun u hu => Nat.le_trans hb (decVal_ge _ _ _ hu)⟩
      · rw [if_neg hb]
        exact puR_cases l _ (by omega)
    · rw [if_pos hc, if_pos (k2 hc)]
      exact .inr ⟨.inl rfl, fun u hu => by cases hu⟩
section
variable {P : Program} {t : TypeId} {ms : Array (String × TypeId)} {X : Operand} {ty : TypeId} {x : T}
theorem says_nif_neq (hu : P.underlying t = some (.interface ms)) : Says P .neq t X (.const .nilIface) .nif .nif false := by
  intro ρ hf I vx vy w hx hy
  simp only [VR] at hx hy; subst hx; subst hy
  have : ∀ d, (Op.equalIn (d + 1) t .nilIface .nilIface).run P w = .ok true w := fun d => by simp [Op.equalIn, run_underlying hu]
  simp only [eqGuard, binOp, Sem.run_bind]; simp [eq_eql (this 9999)]
theorem says_nif_eql (hu : P.underlying t = some (.interface ms)) : Says P .eql t X (.const .nilIface) .nif .nif true := by
  intro ρ hf I vx vy w hx hy
  simp only [VR] at hx hy; subst hx; subst hy
  have : ∀ d, (Op.equalIn (d + 1) t .nilIface .nilIface).run P w = .ok true w := fun d => by simp [Op.equalIn, run_underlying hu]
  simp only [eqGuard, binOp, Sem.run_bind]; simp [eq_eql (this 9999)]
theorem says_ifc_neq (hu : P.underlying t = some (.interface ms)) : Says P .neq t X (.const .nilIface) (.ifc ty x) .nif true := by
  intro ρ hf I vx vy w hx hy
  simp only [VR] at hx hy; obtain ⟨y, rfl, _⟩ := hx; subst hy
  have : ∀ d, (Op.equalIn (d + 1) t (.iface ty y) .nilIface).run P w = .ok false w := fun d => by simp [Op.equalIn, run_underlying hu]
  simp only [eqGuard, binOp, Sem.run_bind]; simp [eq_eql (this 9999)]
theorem eqIfc {a b : Int} {w : World} {i : TypeInfo} {k : IntKind} (hu : P.underlying t = some (.interface ms)) (h1 : P.info? ty = some i) (h2 : i.comparable = true) (h3 : P.underlying ty = some (.int k)) (d : Nat) :
    (Op.equalIn (d + 1 + 1) t (.iface ty (.int k a)) (.iface ty (.int k b))).run P w = .ok (a == b) w := by
  simp [Op.equalIn, run_underlying hu, typeInfo, h1, h2, run_underlying h3]
theorem says_int_neq {a b : Int} {Y : Operand} {i : TypeInfo} {k : IntKind} (hu : P.underlying t = some (.interface ms)) (h1 : P.info? ty = some i) (h2 : i.comparable = true) (h3 : P.underlying ty = some (.int k)) : Says P .neq t X Y (.ifc ty (.i k a)) (.ifc ty (.i k b)) (!(a == b)) := by
  intro ρ hf I vx vy w hx hy
  simp only [VR] at hx hy; obtain ⟨y, rfl, rfl⟩ := hx; obtain ⟨z, rfl, rfl⟩ := hy
  simp only [eqGuard, binOp, Sem.run_bind]; simp [eq_eql (eqIfc hu h1 h2 h3 9998)]
end
theorem err_info : ∃ i, P.info? 305 = some i ∧ i.comparable = true := by
  have h : (Tryz.prog.info? 305).map (·.comparable) = some true := by kernel_rfl
  obtain ⟨i, h1, h2⟩ := Option.map_eq_some_iff.1 h
  exact ⟨i, h1, h2⟩
theorem err_neq {a b : Int} {X Y : Operand} : Says P .neq 105 X Y (errT a) (errT b) (!(a == b)) :=
  let ⟨i, h1, h2⟩ := err_info; says_int_neq Tryz.underlying105 h1 h2 Tryz.underlying305
theorem err_nil_neq {k : Int} {X : Operand} : Says P .neq 105 X (.const .nilIface) (errT k) .nif true := says_ifc_neq Tryz.underlying105
theorem nil_nil_neq {X : Operand} : Says P .neq 105 X (.const .nilIface) .nif .nif false := says_nif_neq Tryz.underlying105
/-- The sign, and what stands behind it. -/
def signO (t : List UInt8) : Bool × List UInt8 := match t with
  | 45 :: d => (true, d)
  | 43 :: d => (false, d)
  | d => (false, d)
/-- The number that a text names. -/
def atoiO (t : List UInt8) : Option Int := if (signO t).2 = [] then none else match decVal (signO t).2 0 with
  | none => none
  | some u => if (signO t).1 then (if u ≤ 9223372036854775808 then some (-(u : Int)) else none) else (if u ≤ 9223372036854775807 then some (u : Int) else none)
theorem signO_neg {t : List UInt8} (h : bt t 0 = 45) : signO t = (true, t.drop 1) := by
  match t, h with
  | c :: d, h =>
    have h2 : ((c.toNat : Nat) : Int) = 45 := h
    have h3 : c.toNat = (45 : UInt8).toNat := by simpa using (by omega : c.toNat = 45)
    obtain rfl := UInt8.toNat_inj.1 h3
    rfl
theorem signO_pos {t : List UInt8} (h : bt t 0 = 43) : signO t = (false, t.drop 1) := by
  match t, h with
  | c :: d, h =>
    have h2 : ((c.toNat : Nat) : Int) = 43 := h
    have h3 : c.toNat = (43 : UInt8).toNat := by simpa using (by omega : c.toNat = 43)
    obtain rfl := UInt8.toNat_inj.1 h3
    rfl
theorem signO_none {t : List UInt8} (h : bt t 0 ≠ 45) (h' : bt t 0 ≠ 43) : signO t = (false, t) := by
  unfold signO
  split
  · exact absurd rfl h
  · exact absurd rfl h'
  · rfl
/-- What is told of a text that names no number. -/
def Bad (f : FuncId) (ml : Int) (args : List T) : Prop := ∃ k, (k = 1 ∨ k = 2) ∧ Ret P (C ml) f args (.tup [.top, errT k])
set_option maxRecDepth 100000 in
theorem parseInt (t : List UInt8) (ht : t.length ≤ 1000000) (h2 : 2 ≤ t.length) :
    (∀ v, atoiO t = some v → Ret P (C ml) 291 [.s t, .i .i64 10, .i .i64 0] (.tup [.i .i64 v, .nif])) ∧ (atoiO t = none → Bad 291 ml [.s t, .i .i64 10, .i .i64 0]) := by
  have hne : t ≠ [] := by intro e; subst e; simp at h2
  have hd1 : t.drop 1 ≠ [] := by intro e; have := congrArg List.length e; simp at this; omega
  have hl1 : (t.drop 1).length ≤ 1000000 := by simp; omega
  unfold atoiO Bad
  have z1 : Says P .neq 105 (.tmp 32) (.const .nilIface) .nif .nif false := nil_nil_neq
  have z2 : ∀ k, Says P .neq 105 (.tmp 32) (.const .nilIface) (errT k) .nif true := fun k => err_nil_neq
  have z3 : Says P .neq 105 (.tmp 35) (.tmp 36) (errT 1) (errT 1) false := err_neq
  have z4 : Says P .neq 105 (.tmp 35) (.tmp 36) (errT 2) (errT 1) true := err_neq
  by_cases s1 : bt t 0 = 43
  · rw [signO_pos s1, if_neg hd1]
    have s2 := s1
    have pu := parseUint (ml := ml) (t.drop 1) hl1 hd1
    rcases puR_cases (t.drop 1) 0 (by omega) with ⟨u, e1, e2, e3⟩ | ⟨e1, e2⟩
    · rw [e1] at pu
      simp only [e2, if_true, Bool.false_eq_true, if_false]
      by_cases hu : u ≤ 9223372036854775807
      · rw [if_pos hu]
        refine ⟨fun v hv => ?_, fun h => by cases h⟩
        obtain rfl := Option.some.inj hv
        refine hR Tryz.func291 ?_
        refine g_fin tab_ok mixed 3000 [.f, .t, .c (.tup [.i .u64 u, .nif]) [] [], .v [.bl false], .t, .f] rfl (by (simp only [AllR]; (repeat' first | exact pu | exact z1 | exact by simpa using hne | exact by simpa using s1 | exact by simpa using s2 | exact True.intro | (show (_ : Bool) = _; assumption) | omega | apply And.intro); all_goals first | (simp; done) | (simp; omega) | (simp_all; done) | exact Nat.le_of_ble_eq_true rfl | kernel_rfl)) (ret_of rfl ?_ trivial trivial)
        simp [tle, tleL]; omega
      · rw [if_neg hu]
        refine ⟨fun v hv => (by cases hv), fun _ => ⟨1, .inl rfl, ?_⟩⟩
        refine hR Tryz.func291 ?_
        refine g_fin tab_ok mixed 3000 [.f, .t, .c (.tup [.i .u64 u, .nif]) [] [], .v [.bl false], .t, .t] rfl (by (simp only [AllR]; (repeat' first | exact pu | exact z1 | exact by simpa using hne | exact by simpa using s1 | exact by simpa using s2 | exact True.intro | (show (_ : Bool) = _; assumption) | omega | apply And.intro); all_goals first | (simp; done) | (simp; omega) | (simp_all; done) | exact Nat.le_of_ble_eq_true rfl | kernel_rfl)) (ret_of rfl ?_ trivial trivial)
        simp [tle, tleL, noRef]
    · have hno : ∀ u, decVal (t.drop 1) 0 = some u → ¬ u ≤ 9223372036854775808 := fun u hu h => by have := e2 u hu; omega
      refine ⟨fun v hv => ?_, fun _ => ?_⟩
      · exfalso
        cases hd : decVal (t.drop 1) 0 with
        | none => simp only [hd] at hv; cases hv
        | some u => have := e2 u hd; simp only [hd, if_true, Bool.false_eq_true, if_false] at hv; rw [if_neg (by omega)] at hv; cases hv
      · rcases e1 with e1 | e1
        · rw [e1] at pu
          refine ⟨2, .inr rfl, ?_⟩
          refine hR Tryz.func291 ?_
          refine g_fin tab_ok mixed 3000 [.f, .t, .c (.tup [.i .u64 0, errT 2]) [] [], .v [.bl true], .v [.bl true]] rfl (by (simp only [AllR]; (repeat' first | exact pu | exact z2 _ | exact z4 | exact by simpa using hne | exact by simpa using s1 | exact by simpa using s2 | exact True.intro | (show (_ : Bool) = _; assumption) | omega | apply And.intro); all_goals first | (simp; done) | (simp; omega) | (simp_all; done) | exact Nat.le_of_ble_eq_true rfl | kernel_rfl)) (ret_of rfl ?_ trivial trivial)
          simp [tle, tleL, noRef]
        · rw [e1] at pu
          refine ⟨1, .inl rfl, ?_⟩
          refine hR Tryz.func291 ?_
          refine g_fin tab_ok mixed 3000 [.f, .t, .c (.tup [.i .u64 18446744073709551615, errT 1]) [] [], .v [.bl true], .v [.bl false], .t, .t] rfl (by (simp only [AllR]; (repeat' first | exact pu | exact z2 _ | exact z3 | exact by simpa using hne | exact by simpa using s1 | exact by simpa using s2 | exact True.intro | (show (_ : Bool) = _; assumption) | omega | apply And.intro); all_goals first | (simp; done) | (simp; omega) | (simp_all; done) | exact Nat.le_of_ble_eq_true rfl | kernel_rfl)) (ret_of rfl ?_ trivial trivial)
          simp [tle, tleL, noRef]
  · by_cases s2 : bt t 0 = 45
    · rw [signO_neg s2, if_neg hd1]
      have pu := parseUint (ml := ml) (t.drop 1) hl1 hd1
      rcases puR_cases (t.drop 1) 0 (by omega) with ⟨u, e1, e2, e3⟩ | ⟨e1, e2⟩
      · rw [e1] at pu
        simp only [e2, if_true, Bool.false_eq_true, if_false]
        by_cases hu : u ≤ 9223372036854775808
        · rw [if_pos hu]
          refine ⟨fun v hv => ?_, fun h => by cases h⟩
          obtain rfl := Option.some.inj hv
          refine hR Tryz.func291 ?_
          refine g_fin tab_ok mixed 3000 [.f, .f, .t, .c (.tup [.i .u64 u, .nif]) [] [], .v [.bl false], .t, .f] rfl (by (simp only [AllR]; (repeat' first | exact pu | exact z1 | exact by simpa using hne | exact by simpa using s1 | exact by simpa using s2 | exact True.intro | (show (_ : Bool) = _; assumption) | omega | apply And.intro); all_goals first | (simp; done) | (simp; omega) | (simp_all; done) | exact Nat.le_of_ble_eq_true rfl | kernel_rfl)) (ret_of rfl ?_ trivial trivial)
          simp [tle, tleL]; omega
        · rw [if_neg hu]
          refine ⟨fun v hv => (by cases hv), fun _ => ⟨1, .inl rfl, ?_⟩⟩
          refine hR Tryz.func291 ?_
          refine g_fin tab_ok mixed 3000 [.f, .f, .t, .c (.tup [.i .u64 u, .nif]) [] [], .v [.bl false], .t, .t] rfl (by (simp only [AllR]; (repeat' first | exact pu | exact z1 | exact by simpa using hne | exact by simpa using s1 | exact by simpa using s2 | exact True.intro | (show (_ : Bool) = _; assumption) | omega | apply And.intro); all_goals first | (simp; done) | (simp; omega) | (simp_all; done) | exact Nat.le_of_ble_eq_true rfl | kernel_rfl)) (ret_of rfl ?_ trivial trivial)
          simp [tle, tleL, noRef]
      · have hno : ∀ u, decVal (t.drop 1) 0 = some u → ¬ u ≤ 9223372036854775808 := fun u hu h => by have := e2 u hu; omega
        refine ⟨fun v hv => ?_, fun _ => ?_⟩
        · exfalso
          cases hd : decVal (t.drop 1) 0 with
          | none => simp only [hd] at hv; cases hv
          | some u => have := e2 u hd; simp only [hd, if_true, Bool.false_eq_true, if_false] at hv; rw [if_neg (by omega)] at hv; cases hv
        · rcases e1 with e1 | e1
          · rw [e1] at pu
            refine ⟨2, .inr rfl, ?_⟩
            refine hR Tryz.func291 ?_
            refine g_fin tab_ok mixed 3000 [.f, .f, .t, .c (.tup [.i .u64 0, errT 2]) [] [], .v [.bl true], .v [.bl true]] rfl (by (simp only [AllR]; (repeat' first | exact pu | exact z2 _ | exact z4 | exact by simpa using hne | exact by simpa using s1 | exact by simpa using s2 | exact True.intro | (show (_ : Bool) = _; assumption) | omega | apply And.intro); all_goals first | (simp; done) | (simp; omega) | (simp_all; done) | exact Nat.le_of_ble_eq_true rfl | kernel_rfl)) (ret_of rfl ?_ trivial trivial)
            simp [tle, tleL, noRef]
          · rw [e1] at pu
            refine ⟨1, .inl rfl, ?_⟩
            refine hR Tryz.func291 ?_
            refine g_fin tab_ok mixed 3000 [.f, .f, .t, .c (.tup [.i .u64 18446744073709551615, errT 1]) [] [], .v [.bl true], .v [.bl false], .t, .t] rfl (by (simp only [AllR]; (repeat' first | exact pu | exact z2 _ | exact z3 | exact by simpa using hne | exact by simpa using s1 | exact by simpa using s2 | exact True.intro | (show (_ : Bool) = _; assumption) | omega | apply And.intro); all_goals first | (simp; done) | (simp; omega) | (simp_all; done) | exact Nat.le_of_ble_eq_true rfl | kernel_rfl)) (ret_of rfl ?_ trivial trivial)
            simp [tle, tleL, noRef]
    · rw [signO_none s2 s1, if_neg hne]
      have pu := parseUint (ml := ml) t ht hne
      rcases puR_cases t 0 (by omega) with ⟨u, e1, e2, e3⟩ | ⟨e1, e2⟩
      · rw [e1] at pu
        simp only [e2, if_true, Bool.false_eq_true, if_false]
        by_cases hu : u ≤ 9223372036854775807
        · rw [if_pos hu]
          refine ⟨fun v hv => ?_, fun h => by cases h⟩
          obtain rfl := Option.some.inj hv
          refine hR Tryz.func291 ?_
          refine g_fin tab_ok mixed 3000 [.f, .f, .f, .c (.tup [.i .u64 u, .nif]) [] [], .v [.bl false], .t, .f] rfl (by (simp only [AllR]; (repeat' first | exact pu | exact z1 | exact by simpa using hne | exact by simpa using s1 | exact by simpa using s2 | exact True.intro | (show (_ : Bool) = _; assumption) | omega | apply And.intro); all_goals first | (simp; done) | (simp; omega) | (simp_all; done) | exact Nat.le_of_ble_eq_true rfl | kernel_rfl)) (ret_of rfl ?_ trivial trivial)
          simp [tle, tleL]; omega
        · rw [if_neg hu]
          refine ⟨fun v hv => (by cases hv), fun _ => ⟨1, .inl rfl, ?_⟩⟩
          refine hR Tryz.func291 ?_
          refine g_fin tab_ok mixed 3000 [.f, .f, .f, .c (.tup [.i .u64 u, .nif]) [] [], .v [.bl false], .t, .t] rfl (by (simp only [AllR]; (repeat' first | exact pu | exact z1 | exact by simpa using hne | exact by simpa using s1 | exact by simpa using s2 | exact True.intro | (show (_ : Bool) = _; assumption) | omega | apply And.intro); all_goals first | (simp; done) | (simp; omega) | (simp_all; done) | exact Nat.le_of_ble_eq_true rfl | kernel_rfl)) (ret_of rfl ?_ trivial trivial)
          simp [tle, tleL, noRef]
      · have hno : ∀ u, decVal t 0 = some u → ¬ u ≤ 9223372036854775808 := fun u hu h => by have := e2 u hu; omega
        refine ⟨fun v hv => ?_, fun _ => ?_⟩
        · exfalso
          cases hd : decVal t 0 with
          | none => simp only [hd] at hv; cases hv
          | some u => have := e2 u hd; simp only [hd, if_true, Bool.false_eq_true, if_false] at hv; rw [if_neg (by omega)] at hv; cases hv
        · rcases e1 with e1 | e1
          · rw [e1] at pu
            refine ⟨2, .inr rfl, ?_⟩
            refine hR Tryz.func291 ?_
            refine g_fin tab_ok mixed 3000 [.f, .f, .f, .c (.tup [.i .u64 0, errT 2]) [] [], .v [.bl true], .v [.bl true]] rfl (by (simp only [AllR]; (repeat' first | exact pu | exact z2 _ | exact z4 | exact by simpa using hne | exact by simpa using s1 | exact by simpa using s2 | exact True.intro | (show (_ : Bool) = _; assumption) | omega | apply And.intro); all_goals first | (simp; done) | (simp; omega) | (simp_all; done) | exact Nat.le_of_ble_eq_true rfl | kernel_rfl)) (ret_of rfl ?_ trivial trivial)
            simp [tle, tleL, noRef]
          · rw [e1] at pu
            refine ⟨1, .inl rfl, ?_⟩
            refine hR Tryz.func291 ?_
            refine g_fin tab_ok mixed 3000 [.f, .f, .f, .c (.tup [.i .u64 18446744073709551615, errT 1]) [] [], .v [.bl true], .v [.bl false], .t, .t] rfl (by (simp only [AllR]; (repeat' first | exact pu | exact z2 _ | exact z3 | exact by simpa using hne | exact by simpa using s1 | exact by simpa using s2 | exact True.intro | (show (_ : Bool) = _; assumption) | omega | apply And.intro); all_goals first | (simp; done) | (simp; omega) | (simp_all; done) | exact Nat.le_of_ble_eq_true rfl | kernel_rfl)) (ret_of rfl ?_ trivial trivial)
            simp [tle, tleL, noRef]
theorem pow_bound18 {n i : Nat} (h : n < 10 ^ i) (hi : i ≤ 18) : n < 1000000000000000000 := by
  have : 10 ^ i ≤ 10 ^ 18 := Nat.pow_le_pow_right (by omega) hi
  omega
/-- What the short way tells. -/
def fastR (neg : Bool) : Option Nat → T × T
  | some u => (.i .i64 (if neg then -(u : Int) else u), .nif)
  | none => (.i .i64 0, errT 2)
theorem decVal_lt : ∀ (l : List UInt8) (i n u : Nat), n < 10 ^ i → decVal l n = some u → u < 10 ^ (i + l.length)
  | [], i, n, u, h, e => by simp only [decVal, Option.some.injEq] at e; subst e; simpa using h
  | c :: l, i, n, u, h, e => by
    rw [decVal] at e
    split at e
    · cases e
    · have := decVal_lt l (i + 1) _ u (by rw [Nat.pow_succ]; omega) e
      rw [List.length_cons]
      rw [show i + (l.length + 1) = i + 1 + l.length by omega]
      exact this
set_option maxRecDepth 100000 in
theorem fast_neg (t : List UInt8) (h1 : 1 ≤ t.length) (h18 : t.length ≤ 18) (h2 : 2 ≤ t.length) (s2 : bt t 0 = 45) : Ret P (C ml) 246 [.s t] (.tup [(fastR true (decVal (t.drop 1) 0)).1, (fastR true (decVal (t.drop 1) 0)).2]) := by
  refine hR Tryz.func246 ?_
  have hdl : (t.drop 1).length ≤ 18 := by simp; try omega
  generalize hD : (t.drop 1) = d at hdl ⊢
  refine g_run tab_ok mixed 3000 [.t, .t, .t, .f] rfl (by (simp only [AllR]; (repeat' first | exact by simpa using s2 | exact True.intro | (show (_ : Bool) = _; assumption) | omega | apply And.intro); all_goals first | (simp; done) | (simp; omega) | (simp_all; done) | exact Nat.le_of_ble_eq_true rfl | kernel_rfl)) ?_
  show G _ _ _ _ _ _ ((49, T.i .i64 0) :: (48, T.i .i64 ((t.drop 1).length : Nat)) :: (47, .ref 47 0 0 (t.drop 1).length) :: _) [(47, 0, .row true (.row 1 5) (bytesT (t.drop 1)))] []
  rw [hD]
  refine g_loop (fun x : Nat × Nat => [(5, .s t), (6, .i .i64 x.2), (47, .ref 47 0 0 d.length), (48, .i .i64 d.length), (49, .i .i64 x.1)]) (fun _ => [(47, 0, .row true (.row 1 5) (bytesT d))]) (fun x => x.1 ≤ d.length ∧ x.2 < 10 ^ x.1 ∧ decVal d 0 = decVal (d.drop x.1) x.2) (fun x => d.length - x.1) (0, 0)
    ⟨⟨rfl, rfl, ⟨rfl, rfl, rfl, rfl, rfl⟩, rfl, rfl, trivial⟩, ⟨⟨rfl, rfl, trivial⟩, trivial⟩, trivial⟩ ⟨by omega, by simp, rfl⟩ ?_
  rintro ⟨i, n⟩ ⟨k1, k2, k3⟩
  dsimp only at k1 k2 k3
  by_cases hi : i < d.length
  · have hn := pow_bound k2 (by omega)
    have hat := bytesT_at d i hi
    have hat' : (bytesT d)[0 + (i : Int).toNat * (tin (C ml) 5).size]? = some (.i .u8 (bt d i)) := by
      rw [show (tin (C ml) 5).size = 1 from rfl]; simpa using hat
    have hlo := bt_lo d i
    have hhi := bt_hi d i
    rw [drop_one d i hi, decVal] at k3
    have hb : ((d.getD i 0).toNat : Int) = bt d i := rfl
    rw [hb] at k3
    obtain ⟨q1, q2⟩ := hexv_dig (bt d i)
    by_cases hc : 48 ≤ bt d i ∧ bt d i ≤ 57
    · have e := q1 hc
      obtain ⟨a, ha, ha9⟩ : ∃ a : Nat, bt d i = 48 + a ∧ a ≤ 9 := ⟨(bt d i - 48).toNat, by omega, by omega⟩
      rw [if_neg (by omega), e, show (bt d i - 48).toNat = a by omega] at k3
      have w1 : IntKind.u8.wrap (bt d i - 48) = (a : Int) := by rw [wrap_u8]; omega
      have w2 : IntKind.i64.wrap (a : Int) = a := w64 (by omega) (by omega)
      have w3 : IntKind.i64.wrap ((n : Int) * 10) = (n : Int) * 10 := w64 (by omega) (by omega)
      have w4 : IntKind.i64.wrap ((n : Int) * 10 + a) = ((10 * n + a : Nat) : Int) := by rw [w64 (by omega) (by omega)]; omega
      have w5 : IntKind.i64.wrap ((i : Int) + 1) = ((i + 1 : Nat) : Int) := by rw [w64 (by omega) (by omega)]; omega
      have w6 : 10 * n + a < 10 ^ (i + 1) := by rw [Nat.pow_succ]; omega
      clear e q1 q2 hb hlo hhi hat hc
      refine g_fin tab_ok mixed 3000 [.t, .v [.i .u8 (bt d i)], .f] rfl ?_ (rd_next (i + 1, 10 * n + a) ⟨by omega, w6, k3⟩ (by simp; omega) ⟨rfl, ?_, ⟨rfl, rfl, rfl, rfl, rfl⟩, rfl, ?_, trivial⟩ ⟨⟨rfl, rfl, trivial⟩, trivial⟩ trivial)
      · simp only [AllR, w1]
        exact ⟨by simpa using hi, ⟨by omega, by omega⟩, hat', by simp; omega, trivial⟩
      · show T.i _ _ = T.i _ _
        rw [w1, w2, w3, w4]
      · show T.i _ _ = T.i _ _
        rw [w5]
    · rw [if_pos (q2 hc)] at k3
      refine gFs [.t, .v [.i .u8 (bt d i)], .t] rfl (rd_ret (ret_of rfl ?_ trivial trivial))
      rw [k3]; simp [tle, tleL, noRef, fastR]
  · obtain rfl : i = d.length := by omega
    rw [List.drop_length, decVal] at k3
    have hn := pow_bound18 k2 hdl
    refine gFs [.f] rfl (rd_exit rfl ?_)
    refine g_fin tab_ok mixed 3000 [.t] rfl (by (simp only [AllR]; (repeat' first | exact by simpa using s2 | exact True.intro | (show (_ : Bool) = _; assumption) | omega | apply And.intro); all_goals first | (simp; done) | (simp; omega) | (simp_all; done) | exact Nat.le_of_ble_eq_true rfl | kernel_rfl)) (ret_of rfl ?_ trivial trivial)
    rw [k3]; simp [tle, tleL, fastR]; try omega
set_option maxRecDepth 100000 in
theorem fast_pos (t : List UInt8) (h1 : 1 ≤ t.length) (h18 : t.length ≤ 18) (h2 : 2 ≤ t.length) (s1 : bt t 0 = 43) (s2 : bt t 0 ≠ 45) : Ret P (C ml) 246 [.s t] (.tup [(fastR false (decVal (t.drop 1) 0)).1, (fastR false (decVal (t.drop 1) 0)).2]) := by
  refine hR Tryz.func246 ?_
  have hdl : (t.drop 1).length ≤ 18 := by simp; try omega
  generalize hD : (t.drop 1) = d at hdl ⊢
  refine g_run tab_ok mixed 3000 [.t, .t, .f, .t, .f] rfl (by (simp only [AllR]; (repeat' first | exact by simpa using s1 | exact by simpa using s2 | exact True.intro | (show (_ : Bool) = _; assumption) | omega | apply And.intro); all_goals first | (simp; done) | (simp; omega) | (simp_all; done) | exact Nat.le_of_ble_eq_true rfl | kernel_rfl)) ?_
  show G _ _ _ _ _ _ ((49, T.i .i64 0) :: (48, T.i .i64 ((t.drop 1).length : Nat)) :: (47, .ref 47 0 0 (t.drop 1).length) :: _) [(47, 0, .row true (.row 1 5) (bytesT (t.drop 1)))] []
  rw [hD]
  refine g_loop (fun x : Nat × Nat => [(5, .s t), (6, .i .i64 x.2), (47, .ref 47 0 0 d.length), (48, .i .i64 d.length), (49, .i .i64 x.1)]) (fun _ => [(47, 0, .row true (.row 1 5) (bytesT d))]) (fun x => x.1 ≤ d.length ∧ x.2 < 10 ^ x.1 ∧ decVal d 0 = decVal (d.drop x.1) x.2) (fun x => d.length - x.1) (0, 0)
    ⟨⟨rfl, rfl, ⟨rfl, rfl, rfl, rfl, rfl⟩, rfl, rfl, trivial⟩, ⟨⟨rfl, rfl, trivial⟩, trivial⟩, trivial⟩ ⟨by omega, by simp, rfl⟩ ?_
  rintro ⟨i, n⟩ ⟨k1, k2, k3⟩
  dsimp only at k1 k2 k3
  by_cases hi : i < d.length
  · have hn := pow_bound k2 (by omega)
    have hat := bytesT_at d i hi
    have hat' : (bytesT d)[0 + (i : Int).toNat * (tin (C ml) 5).size]? = some (.i .u8 (bt d i)) := by
      rw [show (tin (C ml) 5).size = 1 from rfl]; simpa using hat
    have hlo := bt_lo d i
    have hhi := bt_hi d i
    rw [drop_one d i hi, decVal] at k3
    have hb : ((d.getD i 0).toNat : Int) = bt d i := rfl
    rw [hb] at k3
    obtain ⟨q1, q2⟩ := hexv_dig (bt d i)
    by_cases hc : 48 ≤ bt d i ∧ bt d i ≤ 57
    · have e := q1 hc
      obtain ⟨a, ha, ha9⟩ : ∃ a : Nat, bt d i = 48 + a ∧ a ≤ 9 := ⟨(bt d i - 48).toNat, by omega, by omega⟩
      rw [if_neg (by omega), e, show (bt d i - 48).toNat = a by omega] at k3
      have w1 : IntKind.u8.wrap (bt d i - 48) = (a : Int) := by rw [wrap_u8]; omega
      have w2 : IntKind.i64.wrap (a : Int) = a := w64 (by omega) (by omega)
      have w3 : IntKind.i64.wrap ((n : Int) * 10) = (n : Int) * 10 := w64 (by omega) (by omega)
      have w4 : IntKind.i64.wrap ((n : Int) * 10 + a) = ((10 * n + a : Nat) : Int) := by rw [w64 (by omega) (by omega)]; omega
      have w5 : IntKind.i64.wrap ((i : Int) + 1) = ((i + 1 : Nat) : Int) := by rw [w64 (by omega) (by omega)]; omega
      have w6 : 10 * n + a < 10 ^ (i + 1) := by rw [Nat.pow_succ]; omega
      clear e q1 q2 hb hlo hhi hat hc
      refine g_fin tab_ok mixed 3000 [.t, .v [.i .u8 (bt d i)], .f] rfl ?_ (rd_next (i + 1, 10 * n + a) ⟨by omega, w6, k3⟩ (by simp; omega) ⟨rfl, ?_, ⟨rfl, rfl, rfl, rfl, rfl⟩, rfl, ?_, trivial⟩ ⟨⟨rfl, rfl, trivial⟩, trivial⟩ trivial)
      · simp only [AllR, w1]
        exact ⟨by simpa using hi, ⟨by omega, by omega⟩, hat', by simp; omega, trivial⟩
      · show T.i _ _ = T.i _ _
        rw [w1, w2, w3, w4]
      · show T.i _ _ = T.i _ _
        rw [w5]
    · rw [if_pos (q2 hc)] at k3
      refine gFs [.t, .v [.i .u8 (bt d i)], .t] rfl (rd_ret (ret_of rfl ?_ trivial trivial))
      rw [k3]; simp [tle, tleL, noRef, fastR]
  · obtain rfl : i = d.length := by omega
    rw [List.drop_length, decVal] at k3
    have hn := pow_bound18 k2 hdl
    refine gFs [.f] rfl (rd_exit rfl ?_)
    refine g_fin tab_ok mixed 3000 [.f] rfl (by (simp only [AllR]; (repeat' first | exact by simpa using s2 | exact True.intro | (show (_ : Bool) = _; assumption) | omega | apply And.intro); all_goals first | (simp; done) | (simp; omega) | (simp_all; done) | exact Nat.le_of_ble_eq_true rfl | kernel_rfl)) (ret_of rfl ?_ trivial trivial)
    rw [k3]; simp [tle, tleL, fastR]; try omega
set_option maxRecDepth 100000 in
theorem fast_none (t : List UInt8) (h1 : 1 ≤ t.length) (h18 : t.length ≤ 18) (s1 : bt t 0 ≠ 43) (s2 : bt t 0 ≠ 45) : Ret P (C ml) 246 [.s t] (.tup [(fastR false (decVal (t) 0)).1, (fastR false (decVal (t) 0)).2]) := by
  refine hR Tryz.func246 ?_
  have hdl := h18
  refine g_run tab_ok mixed 3000 [.t, .t, .f, .f] rfl (by (simp only [AllR]; (repeat' first | exact by simpa using s1 | exact by simpa using s2 | exact True.intro | (show (_ : Bool) = _; assumption) | omega | apply And.intro); all_goals first | (simp; done) | (simp; omega) | (simp_all; done) | exact Nat.le_of_ble_eq_true rfl | kernel_rfl)) ?_
  show G _ _ _ _ _ _ ((49, T.i .i64 0) :: (48, T.i .i64 ((t).length : Nat)) :: (47, .ref 47 0 0 (t).length) :: _) [(47, 0, .row true (.row 1 5) (bytesT (t)))] []
  refine g_loop (fun x : Nat × Nat => [(5, .s t), (6, .i .i64 x.2), (47, .ref 47 0 0 t.length), (48, .i .i64 t.length), (49, .i .i64 x.1)]) (fun _ => [(47, 0, .row true (.row 1 5) (bytesT t))]) (fun x => x.1 ≤ t.length ∧ x.2 < 10 ^ x.1 ∧ decVal t 0 = decVal (t.drop x.1) x.2) (fun x => t.length - x.1) (0, 0)
    ⟨⟨rfl, rfl, ⟨rfl, rfl, rfl, rfl, rfl⟩, rfl, rfl, trivial⟩, ⟨⟨rfl, rfl, trivial⟩, trivial⟩, trivial⟩ ⟨by omega, by simp, rfl⟩ ?_
  rintro ⟨i, n⟩ ⟨k1, k2, k3⟩
  dsimp only at k1 k2 k3
  by_cases hi : i < t.length
  · have hn := pow_bound k2 (by omega)
    have hat := bytesT_at t i hi
    have hat' : (bytesT t)[0 + (i : Int).toNat * (tin (C ml) 5).size]? = some (.i .u8 (bt t i)) := by
      rw [show (tin (C ml) 5).size = 1 from rfl]; simpa using hat
    have hlo := bt_lo t i
    have hhi := bt_hi t i
    rw [drop_one t i hi, decVal] at k3
    have hb : ((t.getD i 0).toNat : Int) = bt t i := rfl
    rw [hb] at k3
    obtain ⟨q1, q2⟩ := hexv_dig (bt t i)
    by_cases hc : 48 ≤ bt t i ∧ bt t i ≤ 57
    · have e := q1 hc
      obtain ⟨a, ha, ha9⟩ : ∃ a : Nat, bt t i = 48 + a ∧ a ≤ 9 := ⟨(bt t i - 48).toNat, by omega, by omega⟩
      rw [if_neg (by omega), e, show (bt t i - 48).toNat = a by omega] at k3
      have w1 : IntKind.u8.wrap (bt t i - 48) = (a : Int) := by rw [wrap_u8]; omega
      have w2 : IntKind.i64.wrap (a : Int) = a := w64 (by omega) (by omega)
      have w3 : IntKind.i64.wrap ((n : Int) * 10) = (n : Int) * 10 := w64 (by omega) (by omega)
      have w4 : IntKind.i64.wrap ((n : Int) * 10 + a) = ((10 * n + a : Nat) : Int) := by rw [w64 (by omega) (by omega)]; omega
      have w5 : IntKind.i64.wrap ((i : Int) + 1) = ((i + 1 : Nat) : Int) := by rw [w64 (by omega) (by omega)]; omega
      have w6 : 10 * n + a < 10 ^ (i + 1) := by rw [Nat.pow_succ]; omega
      clear e q1 q2 hb hlo hhi hat hc
      refine g_fin tab_ok mixed 3000 [.t, .v [.i .u8 (bt t i)], .f] rfl ?_ (rd_next (i + 1, 10 * n + a) ⟨by omega, w6, k3⟩ (by simp; omega) ⟨rfl, ?_, ⟨rfl, rfl, rfl, rfl, rfl⟩, rfl, ?_, trivial⟩ ⟨⟨rfl, rfl, trivial⟩, trivial⟩ trivial)
      · simp only [AllR, w1]
        exact ⟨by simpa using hi, ⟨by omega, by omega⟩, hat', by simp; omega, trivial⟩
      · show T.i _ _ = T.i _ _
        rw [w1, w2, w3, w4]
      · show T.i _ _ = T.i _ _
        rw [w5]
    · rw [if_pos (q2 hc)] at k3
      refine gFs [.t, .v [.i .u8 (bt t i)], .t] rfl (rd_ret (ret_of rfl ?_ trivial trivial))
      rw [k3]; simp [tle, tleL, noRef, fastR]
  · obtain rfl : i = t.length := by omega
    rw [List.drop_length, decVal] at k3
    have hn := pow_bound18 k2 hdl
    refine gFs [.f] rfl (rd_exit rfl ?_)
    refine g_fin tab_ok mixed 3000 [.f] rfl (by (simp only [AllR]; (repeat' first | exact by simpa using s2 | exact True.intro | (show (_ : Bool) = _; assumption) | omega | apply And.intro); all_goals first | (simp; done) | (simp; omega) | (simp_all; done) | exact Nat.le_of_ble_eq_true rfl | kernel_rfl)) (ret_of rfl ?_ trivial trivial)
    rw [k3]; simp [tle, tleL, fastR]; try omega
end Go.Proofs.YtipomdmlkkifcaaGreatDoor.Vm
/- Contracts: strconv.Atoi, whole. -/
namespace Go.Proofs.YtipomdmlkkifcaaGreatDoor.Vm
open Go Go.Proofs Go.RowKit
variable {ml : Int}
theorem ret_weak {C : Ctx} {f : FuncId} {args : List T} {r r' : T} (h : Ret P C f args r) (hl : tle [] [] r r') : Ret P C f args r' := by
  refine ⟨h.1, fun ρ I w vals a b c => (h.2 ρ I w vals a b c).mono ?_⟩
  rintro e w' ⟨v, r0, ρ', hout, I', e1, e2, e3, e4, e5, rfl, rfl⟩
  exact ⟨v, r', ρ', [], I', e1, tle_VR (fun id g o ho => by simp [hlook] at ho) _ _ _ hl e2, e3, e4, e5, rfl, rfl⟩
theorem parseInt_empty : Ret P (C ml) 291 [.s [], .i .i64 10, .i .i64 0] (.tup [.i .i64 0, errT 2]) := by
  refine hR Tryz.func291 ?_
  refine gFs [.t] rfl (ret_of rfl ?_ trivial trivial)
  simp [tle, tleL, noRef]
theorem atoi0 (t : List UInt8) (ht : t.length ≤ 1000000) : (∀ v, atoiO t = some v → Ret P (C ml) 246 [.s t] (.tup [.i .i64 v, .nif])) ∧ (atoiO t = none → Bad 246 ml [.s t]) := by
  by_cases h0 : t.length = 0
  · obtain rfl := List.length_eq_zero_iff.1 h0
    refine ⟨fun v hv => by simp [atoiO, signO] at hv, fun _ => ⟨2, .inr rfl, ?_⟩⟩
    refine hR Tryz.func246 ?_
    refine g_fin tab_ok mixed 3000 [.f, .c (.tup [.i .i64 0, errT 2]) [] []] rfl (by (simp only [AllR]; (repeat' first | exact parseInt_empty | exact True.intro | (show (_ : Bool) = _; assumption) | omega | apply And.intro); all_goals first | (simp; done) | (simp; omega) | (simp_all; done) | exact Nat.le_of_ble_eq_true rfl | kernel_rfl)) (ret_of rfl ?_ trivial trivial)
    simp [tle, tleL, noRef]
  · by_cases h18 : t.length ≤ 18
    · have hf : ∀ (neg : Bool) (d : List UInt8), signO t = (neg, d) → d ≠ [] → d.length ≤ 18 → Ret P (C ml) 246 [.s t] (.tup [(fastR neg (decVal d 0)).1, (fastR neg (decVal d 0)).2]) →
          (∀ v, atoiO t = some v → Ret P (C ml) 246 [.s t] (.tup [.i .i64 v, .nif])) ∧ (atoiO t = none → Bad 246 ml [.s t]) := by
        intro neg d hs hd hd18 hr
        unfold atoiO
        rw [hs, if_neg hd]
        cases hv : decVal d 0 with
        | none =>
          rw [hv] at hr
          refine ⟨fun v h => (by cases h), fun _ => ⟨2, .inr rfl, ?_⟩⟩
          exact ret_weak hr (by simp [tle, tleL, noRef, fastR])
        | some u =>
          rw [hv] at hr
          have hu := pow_bound18 (decVal_lt d 0 0 u (by simp) hv) (by omega)
          cases neg with
          | true =>
            simp only [if_true]
            rw [if_pos (by omega)]
            exact ⟨fun v h => (by obtain rfl := Option.some.inj h; exact hr), fun h => (by cases h)⟩
          | false =>
            simp only [Bool.false_eq_true, if_false]
            rw [if_pos (by omega)]
            exact ⟨fun v h => (by obtain rfl := Option.some.inj h; exact hr), fun h => (by cases h)⟩
      have hd1 : 2 ≤ t.length → t.drop 1 ≠ [] := fun h e => by have := congrArg List.length e; simp at this; omega
      have hbad : t.length = 1 → (signO t).2 = [] → Bad 246 ml [.s t] → (∀ v, atoiO t = some v → Ret P (C ml) 246 [.s t] (.tup [.i .i64 v, .nif])) ∧ (atoiO t = none → Bad 246 ml [.s t]) := fun _ e h => by
        refine ⟨fun v hv => ?_, fun _ => h⟩
        rw [atoiO, if_pos e] at hv; cases hv
      by_cases s2 : bt t 0 = 45
      · by_cases h1 : t.length = 1
        · refine hbad h1 (by rw [signO_neg s2]; exact List.drop_of_length_le (by omega)) ⟨2, .inr rfl, ?_⟩
          refine hR Tryz.func246 ?_
          refine g_fin tab_ok mixed 3000 [.t, .t, .t, .t] rfl (by (simp only [AllR]; (repeat' first | exact by simpa using s2 | exact True.intro | (show (_ : Bool) = _; assumption) | omega | apply And.intro); all_goals first | (simp; done) | (simp; omega) | (simp_all; done) | exact Nat.le_of_ble_eq_true rfl | kernel_rfl)) (ret_of rfl ?_ trivial trivial)
          simp [tle, tleL, noRef]
        · exact hf true _ (signO_neg s2) (hd1 (by omega)) (by simp; omega) (fast_neg t (by omega) h18 (by omega) s2)
      · by_cases s1 : bt t 0 = 43
        · by_cases h1 : t.length = 1
          · refine hbad h1 (by rw [signO_pos s1]; exact List.drop_of_length_le (by omega)) ⟨2, .inr rfl, ?_⟩
            refine hR Tryz.func246 ?_
            refine g_fin tab_ok mixed 3000 [.t, .t, .f, .t, .t] rfl (by (simp only [AllR]; (repeat' first | exact by simpa using s2 | exact by simpa using s1 | exact True.intro | (show (_ : Bool) = _; assumption) | omega | apply And.intro); all_goals first | (simp; done) | (simp; omega) | (simp_all; done) | exact Nat.le_of_ble_eq_true rfl | kernel_rfl)) (ret_of rfl ?_ trivial trivial)
            simp [tle, tleL, noRef]
          · exact hf false _ (signO_pos s1) (hd1 (by omega)) (by simp; omega) (fast_pos t (by omega) h18 (by omega) s1 s2)
        · exact hf false _ (signO_none s2 s1) (by intro e; subst e; simp at h0) h18 (fast_none t (by omega) h18 s1 s2)
    · obtain ⟨p1, p2⟩ := parseInt (ml := ml) t ht (by omega)
      refine ⟨fun v hv => ?_, fun hn => ?_⟩
      · have := p1 v hv
        refine hR Tryz.func246 ?_
        refine gFs [.t, .f, .c (.tup [.i .i64 v, .nif]) [] []] rfl (ret_of rfl ?_ trivial trivial)
        simp [tle, tleL, noRef]
      · obtain ⟨k, hk, hr⟩ := p2 hn
        refine ⟨k, hk, ?_⟩
        refine hR Tryz.func246 ?_
        refine gFs [.t, .f, .c (.tup [.top, errT k]) [] []] rfl (ret_of rfl ?_ trivial trivial)
        simp [tle, tleL, noRef]
/-- strconv.Atoi, at any text. -/
theorem atoi_ok (t : List UInt8) (ht : t.length ≤ 1000000) (v : Int) (hv : atoiO t = some v) : Ret P (C ml) 193 [.s t] (.tup [.i .i64 v, .nif]) := by
  refine hR Tryz.func193 ?_
  refine g_fin tab_ok mixed 3000 [.c (.tup [.i .i64 v, .nif]) [] [], .v [.bl false]] rfl ⟨(atoi0 t ht).1 v hv, nil_nil_neq, trivial⟩ (ret_of rfl ?_ trivial trivial)
  simp [tle, tleL, noRef]
end Go.Proofs.YtipomdmlkkifcaaGreatDoor.Vm
