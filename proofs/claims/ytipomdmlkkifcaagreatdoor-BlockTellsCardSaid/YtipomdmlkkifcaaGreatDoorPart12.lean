/- Texts of one proof, gathered: Option6 Option7 Option8 Option9. -/
import Derived.Test.YtipomdmlkkifcaaGreatDoorPart11
set_option linter.unusedSimpArgs false
set_option linter.unusedVariables false
set_option linter.unnecessarySimpa false
/- Plain law: the two ways to read an option say the same. -/
set_option maxRecDepth 100000
namespace Go.Proofs.YtipomdmlkkifcaaGreatDoor.Vm
open Go Go.Proofs
theorem getN_cons (c : UInt8) (l : List UInt8) : getN (c :: l) = c.toNat * 256 ^ l.length + getN l := by
  have h : ∀ (l : List UInt8) (v : Nat), l.foldl (fun a c => a * 256 + c.toNat) v = v * 256 ^ l.length + l.foldl (fun a c => a * 256 + c.toNat) 0 := by
    intro l
    induction l with
    | nil => intro v; simp
    | cons d l ih =>
      intro v
      simp only [List.foldl_cons, List.length_cons]
      rw [ih (v * 256 + d.toNat), ih (0 * 256 + d.toNat), Nat.pow_succ]
      simp only [Nat.zero_mul, Nat.zero_add, Nat.add_mul, Nat.mul_assoc, Nat.mul_comm 256, Nat.add_assoc]
  unfold getN
  rw [List.foldl_cons, h l (0 * 256 + c.toNat)]; simp
def hexF (a : Option Nat) (c : UInt8) : Option Nat := a.bind fun v => if hexv c.toNat < 0 then none else some (16 * v + (hexv c.toNat).toNat)
theorem hexF_none (l : List UInt8) : l.foldl hexF none = none := by
  induction l with
  | nil => rfl
  | cons c l ih => exact ih
theorem hexF_unhex : ∀ (l : List UInt8) (v : Nat), l.length % 2 = 0 → l.foldl hexF (some v) = (unhexO l).map fun b => v * 16 ^ l.length + getN b
  | [], v, _ => by simp [unhexO, getN]
  | [_], v, h => by simp at h
  | a :: b :: l, v, h => by
    have ih := fun v => hexF_unhex l v (by simp at h; omega)
    rw [unhexO]
    simp only [List.foldl_cons]
    by_cases ha : hexv a.toNat < 0
    · have e : hexF (some v) a = none := by simp only [hexF, Option.bind_some, if_pos ha]
      rw [e, if_pos (.inl ha)]
      exact hexF_none (b :: l)
    · have e : hexF (some v) a = some (16 * v + (hexv a.toNat).toNat) := by simp only [hexF, Option.bind_some, if_neg ha]
      rw [e]
      by_cases hb : hexv b.toNat < 0
      · have e : hexF (some (16 * v + (hexv a.toNat).toNat)) b = none := by simp only [hexF, Option.bind_some, if_pos hb]
        rw [e, if_pos (.inr hb)]
        exact hexF_none l
      · have e : hexF (some (16 * v + (hexv a.toNat).toNat)) b = some (16 * (16 * v + (hexv a.toNat).toNat) + (hexv b.toNat).toNat) := by simp only [hexF, Option.bind_some, if_neg hb]
        rw [e, if_neg (by omega), ih]
        cases hu : unhexO l with
        | none => rfl
        | some z =>
          have h1 := hexv_hi a.toNat
          have h2 := hexv_hi b.toNat
          have hz := hexs_unhexO l z hu
          have hl : l.length = 2 * z.length := by rw [← hz, hexs_length]
          have hp : (16 : Nat) ^ l.length = 256 ^ z.length := by rw [hl, Nat.pow_mul]
          simp only [Option.map_some, Option.some.injEq]
          rw [getN_cons]
          have hc : (UInt8.ofNat (16 * hexv a.toNat + hexv b.toNat).toNat).toNat = 16 * (hexv a.toNat).toNat + (hexv b.toNat).toNat := by
            rw [UInt8.toNat_ofNat_of_lt' (by show _ < 256; omega)]; omega
          rw [hc, List.length_cons, List.length_cons, Nat.pow_succ, Nat.pow_succ, hp]
          generalize 256 ^ z.length = q
          generalize (hexv a.toNat).toNat = x
          generalize (hexv b.toNat).toNat = y
          generalize getN z = w
          have : (16 * (16 * v + x) + y) * q = v * (q * 16 * 16) + (16 * x + y) * q := by
            simp only [Nat.add_mul, Nat.mul_add, Nat.mul_assoc, Nat.mul_comm, Nat.mul_left_comm, Nat.add_assoc]
          omega
theorem hexN_unhex (l : List UInt8) (h : l.length % 2 = 0) : hexN l = (unhexO l).map getN := by
  have := hexF_unhex l 0 h
  simp only [Nat.zero_mul, Nat.zero_add] at this
  exact this
theorem take_split (s : List UInt8) (a z : Nat) (h : a ≤ z) : s.take z = s.take a ++ (s.drop a).take (z - a) := by
  have e := List.take_append_drop a (s.take z)
  rw [List.take_take, List.drop_take, Nat.min_eq_left h] at e
  exact e.symm
theorem putL_getN2 (x y : UInt8) : putL (getN [x, y]) 2 = [x, y] := by
  have hx := x.toNat_lt
  have hy := y.toNat_lt
  have e : getN [x, y] = x.toNat * 256 + y.toNat := by simp [getN]
  simp only [putL, e, Nat.pow_zero, Nat.div_one, Nat.pow_one]
  have h1 : (x.toNat * 256 + y.toNat) / 256 = x.toNat := by omega
  rw [h1]
  congr 1
  · simp
  · congr 1
    apply UInt8.toNat_inj.1
    simp
/-- What an option written says of its third and fourth sign. -/
theorem enc_short {s : List UInt8} {d : List UInt8} {z : Nat} (h2 : 2 ≤ s.length) (ho : optOk (s.take 2) d = true) (hn : d.length + 4 < 256) (h4 : 4 ≤ z) (he : optEnc (s.take 2) d = s.take z) : (s.drop 2).take 2 = hexs [UInt8.ofNat (d.length + 4)] := by
  unfold optEnc at he
  rw [if_pos ho, if_pos hn, take_split s 2 z (by omega), List.append_assoc] at he
  have he := List.append_cancel_left he
  have hl : (hexs (putL (d.length + 4) 1)).length = 2 := by rw [hexs_length, putL_length]
  have h5 := congrArg (List.take 2) he
  rw [List.take_left' hl, List.take_take, Nat.min_eq_left (by omega)] at h5
  rw [← h5]; simp [putL]
theorem enc_long {s : List UInt8} {d : List UInt8} {z : Nat} (h2 : 2 ≤ s.length) (ho : optOk (s.take 2) d = true) (hn : ¬ d.length + 4 < 256) (h4 : 10 ≤ z) : optEnc (s.take 2) d = s.take z ↔ (s.drop 2).take (z - 2) = [48, 48, 48, 52] ++ (hexs (putL (d.length + 10) 2) ++ d) := by
  unfold optEnc
  rw [if_pos ho, if_neg hn, take_split s 2 z (by omega)]
  simp only [List.append_assoc]
  constructor
  · intro he; exact (List.append_cancel_left he).symm
  · intro he; rw [he]
theorem ofN_ne {n : Nat} (h : 0 < n) (h2 : n < 256) : UInt8.ofNat n ≠ 0 := by
  intro h3
  have := congrArg UInt8.toNat h3
  rw [UInt8.toNat_ofNat_of_lt' (by show _ < 256; omega)] at this
  simp at this; omega
theorem hex1_inj {x y : UInt8} (h : hexs [x] = hexs [y]) : x = y := by
  have := congrArg unhexO h
  rw [unhexO_hexs, unhexO_hexs] at this
  simpa using this
theorem oDec_eq (s : List UInt8) : oDecR s = oDec s := by
  have hcut8 : s.length > 2 → cutO s 2 8 = (s.drop 2).take 8 := fun h => by unfold cutO; rw [if_neg (by omega)]; rfl
  have hcut2 : s.length > 2 → cutO s 2 2 = (s.drop 2).take 2 := fun h => by unfold cutO; rw [if_neg (by omega)]; rfl
  have hpre : Lib.hasPrefix (cutO s 2 8) [48, 48, 48, 52] = true → s.length > 5 ∧ (s.drop 2).take 2 = [48, 48] ∧ (s.drop 4).take 2 = [48, 52] := by
    intro h
    unfold Lib.hasPrefix at h
    rw [List.isPrefixOf_iff_prefix] at h
    obtain ⟨r, hr⟩ := h
    have hl := congrArg List.length hr
    have h3 : s.length > 2 := by
      rcases Nat.lt_or_ge 2 s.length with h | h
      · exact h
      · exfalso
        unfold cutO at hl
        rw [if_pos (by omega)] at hl
        simp at hl
    rw [hcut8 h3] at hr hl
    simp at hl
    refine ⟨by omega, ?_, ?_⟩
    · have := congrArg (List.take 2) hr
      rw [List.take_take] at this
      exact this.symm
    · have := congrArg (fun l => (l.drop 2).take 2) hr
      simp only [List.drop_take, List.take_take, List.drop_drop] at this
      exact this.symm
  by_cases h4 : s.length < 4
  · have e1 : numR s 2 2 = -1 := by unfold numR; rw [if_pos (by omega)]
    have e2 : ¬ Lib.hasPrefix (cutO s 2 8) [48, 48, 48, 52] = true := fun h => by have := (hpre h).1; omega
    unfold oDecR oDec oFromR oFrom
    rw [e1, if_neg (by decide), if_pos (by omega), if_neg e2, if_neg (by omega)]
  · have hc := hcut2 (by omega)
    have hcl : ((s.drop 2).take 2).length = 2 := by simp; omega
    have e1 : numR s 2 2 = match (unhexO ((s.drop 2).take 2)).map getN with | some v => (v : Int) | none => -1 := by
      unfold numR; rw [if_neg (by omega), hexN_unhex _ (by rw [hcl])]
      generalize (unhexO _).map getN = o; cases o <;> rfl
    cases hu : unhexO ((s.drop 2).take 2) with
    | none =>
      rw [hu] at e1
      have e1 : numR s 2 2 = -1 := e1
      have e2 : ¬ Lib.hasPrefix (cutO s 2 8) [48, 48, 48, 52] = true := fun h => by
        rw [(hpre h).2.1] at hu; exact absurd hu (by decide)
      have e3 : numP (cutO s 2 2) = 0 := by unfold numP; rw [hc, hu]
      unfold oDecR oDec oFromR oFrom
      rw [e1, if_neg (by decide), if_pos (by omega), if_neg e2, e3, if_neg (by omega)]
    | some b =>
      have hb := hexs_unhexO _ b hu
      have hbl : b.length = 1 := by have := hexs_length b; rw [hb, hcl] at this; omega
      obtain ⟨x, rfl⟩ : ∃ x, b = [x] := by
        match b, hbl with
        | [x], _ => exact ⟨x, rfl⟩
      have hg : getN [x] = x.toNat := by simp [getN]
      rw [hu] at e1
      have e1 : numR s 2 2 = (x.toNat : Int) := by rw [e1]; show ((getN [x] : Nat) : Int) = _; rw [hg]
      have e3 : numP (cutO s 2 2) = x.toNat := by unfold numP; rw [hc, hu]; exact hg
      have hx := x.toNat_lt
      by_cases h0 : x = 0
      · subst h0
        have e0 : numR s 2 2 = 0 := e1
        have hc0 : (s.drop 2).take 2 = [48, 48] := by rw [← hb]; decide
        -- written short, the two digits are not 0
        have short : ∀ z : Nat, 10 ≤ z → z ≤ s.length → optOk (s.take 2) ((s.drop 10).take (z - 10)) = true → z < 262 → ¬ (optEnc (s.take 2) ((s.drop 10).take (z - 10)) == s.take z) = true := by
          intro z h1 h2 ho h3 he
          have he := beq_iff_eq.1 he
          have hd : ((s.drop 10).take (z - 10)).length = z - 10 := by simp; omega
          have h6 := enc_short (by omega) ho (by omega) (by omega) he
          rw [← hb] at h6
          exact ofN_ne (by omega) (by omega) (hex1_inj h6).symm
        unfold oDecR oDec
        rw [e0, if_pos rfl]
        by_cases hp : Lib.hasPrefix (cutO s 2 8) [48, 48, 48, 52] = true
        · obtain ⟨p1, p2, p3⟩ := hpre hp
          rw [if_pos hp]
          have ht : Lib.trimPrefix (cutO s 2 8) [48, 48, 48, 52] = (s.drop 6).take 4 := by
            unfold Lib.trimPrefix
            rw [if_pos hp, hcut8 (by omega)]
            simp [List.drop_take]
          rw [ht]
          by_cases h10 : s.length < 10
          · have e4 : numR s 6 4 = -1 := by unfold numR; rw [if_pos (by omega)]
            rw [e4]
            unfold oFromR oFrom
            rw [if_pos (by omega)]
            split
            · rfl
            · rw [if_neg (by omega)]
          · have hql : ((s.drop 6).take 4).length = 4 := by simp; omega
            have e4 : numR s 6 4 = match (unhexO ((s.drop 6).take 4)).map getN with | some v => (v : Int) | none => -1 := by
              unfold numR; rw [if_neg (by omega), hexN_unhex _ (by rw [hql])]
              generalize (unhexO _).map getN = o; cases o <;> rfl
            cases hv : unhexO ((s.drop 6).take 4) with
            | none =>
              rw [hv] at e4
              have e4 : numR s 6 4 = -1 := e4
              have e5 : numP ((s.drop 6).take 4) = 0 := by unfold numP; rw [hv]
              rw [e4, e5, if_pos (by decide)]
              unfold oFromR
              rw [if_pos (by omega)]
            | some w =>
              rw [hv] at e4
              have e4 : numR s 6 4 = (getN w : Int) := e4
              have e5 : numP ((s.drop 6).take 4) = getN w := by unfold numP; rw [hv]
              have hw := hexs_unhexO _ w hv
              have hwl : w.length = 2 := by have := hexs_length w; rw [hw, hql] at this; omega
              have hpw : putL (getN w) 2 = w := by
                match w, hwl with
                | [x, y], _ => exact putL_getN2 x y
              rw [e4, e5]
              generalize getN w = z at *
              have hn : (z : Int).toNat = z := by simp
              unfold oFromR oFrom
              rw [hn]
              by_cases hz : (z : Int) < (10 : Nat) ∨ (z : Int) > s.length
              · rw [if_pos hz]
                split
                · rfl
                · rw [if_neg (by omega)]
              · rw [if_neg hz]
                rcases Bool.eq_false_or_eq_true (optOk (s.take 2) ((s.drop 10).take (z - 10))) with ho | ho
                · rw [if_pos ho]
                  by_cases h262 : z < 262
                  · rw [if_neg (short z (by omega) (by omega) ho h262), if_pos h262]
                  · have hd : ((s.drop 10).take (z - 10)).length = z - 10 := by simp; omega
                    have he : optEnc (s.take 2) ((s.drop 10).take (z - 10)) = s.take z := by
                      rw [enc_long (by omega) ho (by omega) (by omega), hd]
                      have e6 : z - 10 + 10 = z := by omega
                      rw [e6, hpw, hw]
                      rw [take_split (s.drop 2) 2 (z - 2) (by omega), List.drop_drop, hc0]
                      rw [take_split (s.drop (2 + 2)) 2 (z - 2 - 2) (by omega), List.drop_drop, p3]
                      rw [take_split (s.drop (2 + 2 + 2)) 4 (z - 2 - 2 - 2) (by omega), List.drop_drop]
                      have e7 : z - 2 - 2 - 2 - 4 = z - 10 := by omega
                      rw [e7]; rfl
                    rw [he, if_pos (by simp), if_neg h262, if_pos ⟨by omega, by omega, ho⟩]
                · rw [if_neg (by rw [ho]; decide)]
                  split
                  · rfl
                  · rw [if_neg (by rw [ho]; simp)]
        · rw [if_neg hp, e3]
          have : oFrom s 4 (0 : UInt8).toNat = none := by unfold oFrom; exact if_neg (fun h => absurd h.1 (by decide))
          rw [this]
          unfold oFromR
          generalize numR s 6 4 = zz
          by_cases hz : zz < (10 : Nat) ∨ zz > s.length
          · rw [if_pos hz]
          · rw [if_neg hz]
            obtain ⟨z, rfl⟩ : ∃ z : Nat, zz = z := ⟨zz.toNat, by omega⟩
            have hn : (z : Int).toNat = z := by simp
            rw [hn]
            rcases Bool.eq_false_or_eq_true (optOk (s.take 2) ((s.drop 10).take (z - 10))) with ho | ho
            · rw [if_pos ho]
              by_cases h262 : z < 262
              · rw [if_neg (short z (by omega) (by omega) ho h262)]
              · rw [if_neg ?_]
                intro he
                have he := beq_iff_eq.1 he
                have hd : ((s.drop 10).take (z - 10)).length = z - 10 := by simp; omega
                rw [enc_long (by omega) ho (by omega) (by omega)] at he
                apply hp
                unfold Lib.hasPrefix
                rw [List.isPrefixOf_iff_prefix, hcut8 (by omega)]
                have := congrArg (List.take 8) he
                rw [List.take_take, Nat.min_eq_left (by omega)] at this
                rw [this]
                exact ⟨List.take 4 (hexs (putL (((s.drop 10).take (z - 10)).length + 10) 2) ++ (s.drop 10).take (z - 10)), rfl⟩
            · rw [if_neg (by rw [ho]; decide)]
      · have hx0 : x.toNat ≠ 0 := fun h => h0 (UInt8.toNat_inj.1 h)
        have e2 : ¬ Lib.hasPrefix (cutO s 2 8) [48, 48, 48, 52] = true := fun h => by
          have h5 := (hpre h).2.1
          rw [h5] at hb
          exact h0 (hex1_inj (y := 0) (hb.trans (by decide)))
        unfold oDecR oDec oFromR oFrom
        rw [e1, if_neg (by omega), if_neg e2, e3]
        by_cases hz : (x.toNat : Int) < (4 : Nat) ∨ (x.toNat : Int) > s.length
        · rw [if_pos hz, if_neg (by omega)]
        · rw [if_neg hz]
          have hn : (x.toNat : Int).toNat = x.toNat := by simp
          rw [hn]
          rcases Bool.eq_false_or_eq_true (optOk (s.take 2) ((s.drop 4).take (x.toNat - 4))) with ho | ho
          · rw [if_pos ho]
            have hd : ((s.drop 4).take (x.toNat - 4)).length = x.toNat - 4 := by simp; omega
            have he : optEnc (s.take 2) ((s.drop 4).take (x.toNat - 4)) = s.take x.toNat := by
              unfold optEnc
              rw [if_pos ho, if_pos (by rw [hd]; omega), hd, take_split s 4 x.toNat (by omega), take_split s 2 4 (by omega)]
              congr 2
              rw [← hb]
              have : x.toNat - 4 + 4 = x.toNat := by omega
              rw [this]; simp [putL]
            rw [he, if_pos (by simp), if_pos ⟨by omega, by omega, ho⟩]
          · rw [if_neg (by rw [ho]; decide), if_neg (by rw [ho]; simp)]
end Go.Proofs.YtipomdmlkkifcaaGreatDoor.Vm
/- Contracts: option.Padding, clavigerref32.Padding. -/
set_option maxRecDepth 100000
namespace Go.Proofs.YtipomdmlkkifcaaGreatDoor.Vm
open Go Go.Proofs Go.RowKit Go.Proofs.YtipomdmlkkifcaaGreatDoor.Flt
variable {ml : Int}
/-- What makes a length a multiple of 16. -/
def padL (n : Nat) : List UInt8 := if n % 16 = 0 then [] else optEnc [80, 66] (List.replicate ((16 - (n + 4) % 16) % 16) 48)
theorem pPadding (n : Nat) (hn : n ≤ 1000000000000) : Ret P (C ml) 217 [.i .i64 n] (.s (padL n)) := by
  refine hR Tryz.func217 ?_
  have g1 : bitsI .and .i64 (n : Int) 15 = ((n % 16 : Nat) : Int) := by
    have := bitsI_and .i64 n 15 (by show n < 2 ^ 64; omega) (by decide)
    rw [show n &&& 15 = n % 16 from Nat.and_two_pow_sub_one_eq_mod n 4] at this
    exact this.trans (w64 (by omega) (by omega))
  have k1 := repeat0 (ml := ml) ((16 - (n + 4) % 16) % 16) (by omega)
  have k2 := pOEnc (ml := ml) [80, 66] (List.replicate ((16 - (n + 4) % 16) % 16) 48)
  have w1 : IntKind.i64.wrap ((n : Int) + 4) = ((n + 4 : Nat) : Int) := by rw [w64 (by omega) (by omega)]; simp
  have w2 : ((n + 4 : Nat) : Int).tmod 16 = (((n + 4) % 16 : Nat) : Int) := rfl
  have w3 : IntKind.i64.wrap (16 - (((n + 4) % 16 : Nat) : Int)) = ((16 - (n + 4) % 16 : Nat) : Int) := by rw [w64 (by omega) (by omega)]; omega
  have w4 : (IntKind.i64.wrap (16 - (IntKind.i64.wrap ((n : Int) + 4)).tmod 16)).tmod 16 = (((16 - (n + 4) % 16) % 16 : Nat) : Int) := by rw [w1, w2, w3]; rfl
  rw [← w4] at k1
  unfold padL
  by_cases h : n % 16 = 0
  · rw [if_pos h]
    have c1 : (bitsI .and .i64 (n : Int) 15 == 0) = true := by rw [g1, h]; rfl
    refine gFs [.f, .t] rfl (ret_of rfl ?_ trivial trivial)
    simp [tle, look]
  · rw [if_neg h]
    have c1 : (bitsI .and .i64 (n : Int) 15 == 0) = false := by rw [g1]; simp; omega
    clear g1
    refine gFs [.f, .f, cc k1, cc k2] rfl (ret_of rfl ?_ trivial trivial)
    simp [tle, look]
theorem rPadding (n : Nat) (hn : n ≤ 1000000000000) : Ret P (C ml) 159 [.i .i64 n] (.s (padL n)) := by
  refine hR Tryz.func159 ?_
  have w2 : (n : Int).tmod 16 = ((n % 16 : Nat) : Int) := rfl
  unfold padL
  by_cases h : n % 16 = 0
  · rw [if_pos h]
    have c1 : ((n : Int).tmod 16 == 0) = true := by rw [w2, h]; rfl
    refine gFs [.f, .t] rfl (ret_of rfl ?_ trivial trivial)
    simp [tle, look]
  · rw [if_neg h]
    have c1 : ((n : Int).tmod 16 == 0) = false := by rw [w2]; simp; omega
    refine gRs [.f, .f] rfl ?_
    refine g_loop (fun i : Nat => [(0, .i .i64 n), (3, .s (List.replicate i 48))]) (fun _ => []) (fun i => i ≤ (16 - (n + 4) % 16) % 16) (fun i => (16 - (n + 4) % 16) % 16 - i) 0 ⟨⟨rfl, rfl, trivial⟩, trivial, trivial⟩ (by omega) ?_
    intro i h1
    have w1 : IntKind.i64.wrap ((n : Int) + 4) = ((n + 4 : Nat) : Int) := by rw [w64 (by omega) (by omega)]; simp
    have w3 : IntKind.i64.wrap (((n + 4 : Nat) : Int) + ((List.replicate i (48 : UInt8)).length : Int)) = ((n + 4 + i : Nat) : Int) := by rw [List.length_replicate, w64 (by omega) (by omega)]; simp
    have w4 : (IntKind.i64.wrap (IntKind.i64.wrap ((n : Int) + 4) + ((List.replicate i (48 : UInt8)).length : Int))).tmod 16 = (((n + 4 + i) % 16 : Nat) : Int) := by rw [w1, w3]; rfl
    by_cases hi : i < (16 - (n + 4) % 16) % 16
    · have c2 : ((IntKind.i64.wrap (IntKind.i64.wrap ((n : Int) + 4) + ((List.replicate i (48 : UInt8)).length : Int))).tmod 16 != 0) = true := by rw [w4]; simp; omega
      have hr : List.replicate (i + 1) (48 : UInt8) = List.replicate i 48 ++ [48] := List.replicate_succ'
      have hl : (List.replicate i (48 : UInt8)).length ≤ 16 := by simp; omega
      refine gFs [.t] rfl (rd_next (i + 1) (by omega) (by omega) ⟨rfl, congrArg T.s hr.symm, trivial⟩ trivial trivial)
    · have e : i = (16 - (n + 4) % 16) % 16 := by omega
      have c2 : ((IntKind.i64.wrap (IntKind.i64.wrap ((n : Int) + 4) + ((List.replicate i (48 : UInt8)).length : Int))).tmod 16 != 0) = false := by rw [w4]; simp; omega
      rw [← e]
      have k2 := rOEnc (ml := ml) [80, 66] (List.replicate i 48)
      refine gFs [.f] rfl (rd_exit rfl ?_)
      refine gFs [cc k2] rfl (ret_of rfl ?_ trivial trivial)
      simp [tle, look]
end Go.Proofs.YtipomdmlkkifcaaGreatDoor.Vm
/- What Pack gives (plain), and the cells of a list of options. -/
set_option maxRecDepth 100000
namespace Go.Proofs.YtipomdmlkkifcaaGreatDoor.Vm
open Go Go.Proofs
abbrev Opt := List UInt8 × List UInt8
/-- The cells of a list of options: two each. -/
def optCells : List Opt → List T
  | [] => []
  | o :: l => .s o.1 :: .s o.2 :: optCells l
theorem optCells_length : ∀ l : List Opt, (optCells l).length = 2 * l.length
  | [] => rfl
  | o :: l => by simp [optCells, optCells_length l]; omega
theorem optCells_two : ∀ (l : List Opt) (i : Nat), i < l.length → ((optCells l).drop (i * 2)).take 2 = [.s (l.getD i ([], [])).1, .s (l.getD i ([], [])).2]
  | [], _, h => by simp at h
  | o :: l, 0, _ => rfl
  | o :: l, i + 1, h => by
    have := optCells_two l i (by simpa using h)
    rw [show (i + 1) * 2 = i * 2 + 1 + 1 by omega]
    exact this
theorem optCells_id (l : List Opt) (i : Nat) (h : i < l.length) : (optCells l)[i * 2]? = some (.s (l.getD i ([], [])).1) := by
  have := congrArg (fun x => x[0]?) (optCells_two l i h)
  simpa [List.getElem?_take, List.getElem?_drop] using this
theorem optCells_take : ∀ (l : List Opt) (i : Nat), (optCells l).take (i * 2) = optCells (l.take i)
  | [], i => by simp [optCells]
  | o :: l, 0 => rfl
  | o :: l, i + 1 => by
    rw [show (i + 1) * 2 = i * 2 + 1 + 1 by omega]
    simp only [optCells, List.take_succ_cons, optCells_take l i]
/-- An option that may stand where it stands. -/
def optGood (l : List Opt) (i : Nat) : Bool := optOk (l.getD i ([], [])).1 (l.getD i ([], [])).2 && !((l.getD i ([], [])).1 == [80, 66]) && !((l.take i).any fun x => x.1 == (l.getD i ([], [])).1)
/-- All of them, one behind the other. -/
def encAll (l : List Opt) : List UInt8 := l.flatMap fun o => optEnc o.1 o.2
def packOk (l : List Opt) : Bool := (List.range l.length).all (optGood l)
/-- What Pack gives: the signs, the number, the error. -/
def packL (l : List Opt) : List UInt8 × Nat × Int :=
  if packOk l then
    (if (l.length + (if padL (encAll l).length = [] then 0 else 1)) > 98 ∨ (encAll l ++ padL (encAll l).length).length > 9999 then ([], 0, 4)
     else (encAll l ++ padL (encAll l).length, l.length + (if padL (encAll l).length = [] then 0 else 1), 0))
  else ([], 0, 5)
theorem encAll_take (l : List Opt) (i : Nat) (h : i < l.length) : encAll (l.take (i + 1)) = encAll (l.take i) ++ optEnc (l.getD i ([], [])).1 (l.getD i ([], [])).2 := by
  unfold encAll
  rw [List.take_succ_eq_append_getElem h, List.flatMap_append]
  simp [h]
theorem packOk_bad (l : List Opt) (i : Nat) (h : i < l.length) (hg : optGood l i = false) : packOk l = false := by
  unfold packOk
  rw [List.all_eq_false]
  exact ⟨i, List.mem_range.2 h, by simp [hg]⟩
theorem packOk_all (l : List Opt) (h : ∀ i, i < l.length → optGood l i = true) : packOk l = true := by
  unfold packOk
  rw [List.all_eq_true]
  exact fun i hi => h i (List.mem_range.1 hi)
end Go.Proofs.YtipomdmlkkifcaaGreatDoor.Vm
/- Contracts: clavigerref32.Pack. -/
set_option maxRecDepth 100000
namespace Go.Proofs.YtipomdmlkkifcaaGreatDoor.Vm
open Go Go.Proofs Go.RowKit Go.Proofs.YtipomdmlkkifcaaGreatDoor.Flt
variable {ml : Int}
theorem optEnc_le (id d : List UInt8) : (optEnc id d).length ≤ 9010 := by
  unfold optEnc
  split
  · rename_i h
    simp [optOk] at h
    split <;> simp [hexs_length, putL_length] <;> omega
  · simp
theorem encAll_le : ∀ l : List Opt, (encAll l).length ≤ 9010 * l.length
  | [] => by simp [encAll]
  | o :: l => by
    have := encAll_le l
    have := optEnc_le o.1 o.2
    simp only [encAll, List.flatMap_cons, List.length_append, List.length_cons] at *
    omega
theorem rPack (l : List Opt) (hl : l.length ≤ 1000) : Ret P (C ml) 92 [.sl l.length (optCells l)] (.tup [.s (packL l).1, .i .i64 (packL l).2.1, .i .i64 (packL l).2.2]) := by
  refine hR Tryz.func92 ?_
  refine gRs [] rfl ?_
  refine g_loop (fun i : Nat => [(0, .sl l.length (optCells l)), (5, .s (encAll (l.take i))), (6, .i .i64 i)]) (fun _ => []) (fun i => i ≤ l.length ∧ ∀ j, j < i → optGood l j = true) (fun i => l.length - i) 0 ⟨⟨rfl, rfl, rfl, trivial⟩, trivial, trivial⟩ ⟨by omega, by omega⟩ ?_
  rintro i ⟨i1, i2⟩
  by_cases hi : i < l.length
  · have h2 := optCells_two l i hi
    have h3 := optCells_id l i hi
    have het := encAll_take l i hi
    have k1 := rOEnc (ml := ml) (l.getD i ([], [])).1 (l.getD i ([], [])).2
    generalize hid : (l.getD i ([], [])).1 = id at *
    generalize hd : (l.getD i ([], [])).2 = d at *
    by_cases ho : optOk id d = true
    · rw [ho] at k1
      by_cases hpb : id = [80, 66]
      · have hg : packL l = ([], 0, 5) := by
          have : optGood l i = false := by unfold optGood; rw [hid, hd, hpb]; simp
          unfold packL; rw [packOk_bad l i hi this]; rfl
        rw [hg]
        have hq : (id == [80, 66]) = true := by rw [hpb]; rfl
        refine gFs [.t, ldv h2, cc k1, .f, ld1 h3, .t] rfl (rd_ret (ret_of rfl ?_ trivial trivial))
        simp [tle, tleL, look]
      · have hq : (id == [80, 66]) = false := by simpa using hpb
        have hle := encAll_le (l.take i)
        rw [List.length_take, Nat.min_eq_left (by omega)] at hle
        have hle2 := optEnc_le id d
        refine gRs [.t, ldv h2, cc k1, .f, ld1 h3, .f] rfl ?_
        refine g_loop (fun k : Nat => [(0, .sl l.length (optCells l)), (5, .s (encAll (l.take i))), (6, .i .i64 i), (7, .s (optEnc id d)), (9, .i .i64 k)]) (fun _ => []) (fun k => k ≤ i ∧ ∀ j, j < k → ((l.getD j ([], [])).1 == id) = false) (fun k => i - k) 0 ⟨⟨rfl, rfl, rfl, rfl, rfl, trivial⟩, trivial, trivial⟩ ⟨by omega, by omega⟩ ?_
        rintro k ⟨j1, j2⟩
        by_cases hk : k < i
        · have h5 := optCells_id l k (by omega)
          rcases Bool.eq_false_or_eq_true ((l.getD k ([], [])).1 == id) with hm | hm
          · have hg : packL l = ([], 0, 5) := by
              have : optGood l i = false := by
                unfold optGood
                have : ((l.take i).any fun x => x.1 == (l.getD i ([], [])).1) = true := by
                  rw [List.any_eq_true]
                  refine ⟨l.getD k ([], []), ?_, by rw [hid]; exact hm⟩
                  rw [getD_at _ _ (by omega : k < l.length)]
                  exact List.mem_take_iff_getElem.2 ⟨k, by omega, rfl⟩
                rw [this]; simp
              unfold packL; rw [packOk_bad l i hi this]; rfl
            rw [hg]
            refine gFs [.t, ld1 h5, ld1 h3, .t] rfl (rd_ret (rd_ret (ret_of rfl ?_ trivial trivial)))
            simp [tle, tleL, look]
          · refine gFs [.t, ld1 h5, ld1 h3, .f] rfl (rd_next (k + 1) ⟨by omega, ext_lt j2 hm⟩ (by omega) ⟨rfl, rfl, rfl, rfl, ?_, trivial⟩ trivial trivial)
            (simp [look, tle]; omega)
        · have ek : k = i := by omega
          subst ek
          have hgood : optGood l k = true := by
            unfold optGood
            rw [hid, hd, ho, hq]
            simp only [Bool.not_false, Bool.and_true, Bool.true_and, Bool.not_eq_true']
            rw [List.any_eq_false]
            intro x hx hxe
            obtain ⟨j, hj, rfl⟩ := List.mem_take_iff_getElem.1 hx
            have := j2 j (by omega)
            rw [getD_at _ _ (by omega : j < l.length)] at this
            rw [this] at hxe; cases hxe
          refine gFs [.f] rfl (rd_exit rfl ?_)
          refine gFs [] rfl (rd_next (k + 1) ⟨by omega, ext_lt i2 hgood⟩ (by omega) ⟨rfl, congrArg T.s het.symm, ?_, trivial⟩ trivial trivial)
          simp [look, tle]; omega
    · have ho := Bool.not_eq_true _ |>.mp ho
      rw [ho] at k1
      have hg : packL l = ([], 0, 5) := by
        have : optGood l i = false := by unfold optGood; rw [hid, hd, ho]; simp
        unfold packL; rw [packOk_bad l i hi this]; rfl
      rw [hg]
      refine gFs [.t, ldv h2, cc k1, .t] rfl (rd_ret (ret_of rfl ?_ trivial trivial))
      simp [tle, tleL, look]
  · have ei : i = l.length := by omega
    subst ei
    have hle := encAll_le l
    have k1 := rPadding (ml := ml) (encAll l).length (by omega)
    have hg := packOk_all l i2
    rw [List.take_of_length_le (Nat.le_refl _)]
    refine gFs [.f] rfl (rd_exit rfl ?_)
    have hp9 : (padL (encAll l).length).length ≤ 9010 := by
      unfold padL; split
      · simp
      · exact optEnc_le _ _
    unfold packL
    rw [hg, if_pos rfl]
    generalize padL (encAll l).length = pd at *
    generalize encAll l = E at *
    by_cases hpd : pd = []
    · subst hpd
      rw [if_pos rfl]
      have hb : (([] : List UInt8) == []) = true := rfl
      by_cases hc : l.length + 0 > 98
      · rw [if_pos (.inl hc)]
        refine gFs [cc k1, .f, .t] rfl (ret_of rfl ?_ trivial trivial)
        simp [tle, tleL, look]
      · by_cases hc2 : (E ++ []).length > 9999
        · rw [if_pos (.inr hc2)]
          rw [List.append_nil] at hc2
          refine gFs [cc k1, .f, .f, .t] rfl (ret_of rfl ?_ trivial trivial)
          simp [tle, tleL, look]
        · rw [if_neg (by omega)]
          rw [List.append_nil] at hc2 ⊢
          refine gFs [cc k1, .f, .f, .f] rfl (ret_of rfl ?_ trivial trivial)
          simp [tle, tleL, look]
    · rw [if_neg hpd]
      have hb : (pd == []) = false := by simpa using hpd
      have w1 : IntKind.i64.wrap ((l.length : Int) + 1) = ((l.length + 1 : Nat) : Int) := by rw [w64 (by omega) (by omega)]; simp
      by_cases hc : l.length + 1 > 98
      · rw [if_pos (.inl hc)]
        have c1 : decide (IntKind.i64.wrap ((l.length : Int) + 1) > 98) = true := decide_eq_true (by rw [w1]; omega)
        refine gFs [cc k1, .t, .t] rfl (ret_of rfl ?_ trivial trivial)
        simp [tle, tleL, look]
      · have c1 : decide (IntKind.i64.wrap ((l.length : Int) + 1) > 98) = false := decide_eq_false (by rw [w1]; omega)
        by_cases hc2 : (E ++ pd).length > 9999
        · rw [if_pos (.inr hc2)]
          have c2 : decide (((E ++ pd).length : Int) > 9999) = true := decide_eq_true (by omega)
          refine gFs [cc k1, .t, .f, .t] rfl (ret_of rfl ?_ trivial trivial)
          simp [tle, tleL, look]
        · rw [if_neg (by omega)]
          have c2 : decide (((E ++ pd).length : Int) > 9999) = false := decide_eq_false (by omega)
          refine gFs [cc k1, .t, .f, .f] rfl (ret_of rfl ?_ trivial trivial)
          (simp [tle, tleL, look]; omega)
end Go.Proofs.YtipomdmlkkifcaaGreatDoor.Vm
