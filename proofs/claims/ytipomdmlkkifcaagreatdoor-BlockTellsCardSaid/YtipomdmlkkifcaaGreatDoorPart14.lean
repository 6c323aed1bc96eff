/- Texts of one proof, gathered: TemplL UnpackB FrameL FrameB. -/
import Derived.Test.YtipomdmlkkifcaaGreatDoorPart13
import Derived.Test.YtipomdmlkkifcaaGreatDoorPart10
set_option linter.unusedSimpArgs false
set_option linter.unusedVariables false
set_option linter.unnecessarySimpa false
/- Attributes (plain): which may be, their digits, and back. -/
set_option maxRecDepth 100000
namespace Go.Proofs.YtipomdmlkkifcaaGreatDoor.Vm
open Go Go.Proofs
/-- The tag ahead; 0: there is none. -/
def tagAt (l : List Att) : Nat → Int
  | 0 => 0
  | i + 1 => (l.getD i (0, [])).1
def atGood (l : List Att) (i : Nat) : Bool := decide (tagAt l i < (l.getD i (0, [])).1 ∧ (l.getD i (0, [])).1 ≤ 65535 ∧ (l.getD i (0, [])).2.length ≤ 255)
def atOk (l : List Att) : Bool := decide (l.length ≤ 32) && (List.range l.length).all (atGood l)
def atErr (l : List Att) : Int := if atOk l = true then 0 else 11
theorem atOk_bad (l : List Att) (i : Nat) (h : i < l.length) (hg : atGood l i = false) : atOk l = false := by
  unfold atOk
  rw [Bool.and_eq_false_iff]
  refine .inr ?_
  rw [List.all_eq_false]
  exact ⟨i, List.mem_range.2 h, by simp [hg]⟩
theorem atOk_all (l : List Att) (h0 : l.length ≤ 32) (h : ∀ i, i < l.length → atGood l i = true) : atOk l = true := by
  unfold atOk
  rw [decide_eq_true h0, Bool.true_and, List.all_eq_true]
  exact fun i hi => h i (List.mem_range.1 hi)
theorem atOk_iff {l : List Att} (h : atOk l = true) : l.length ≤ 32 ∧ ∀ i, i < l.length → atGood l i = true := by
  unfold atOk at h
  rw [Bool.and_eq_true, List.all_eq_true] at h
  exact ⟨of_decide_eq_true h.1, fun i hi => h.2 i (List.mem_range.2 hi)⟩
theorem atGood_pos {l : List Att} (h : ∀ i, i < l.length → atGood l i = true) : ∀ i, i < l.length → 1 ≤ (l.getD i (0, [])).1
  | 0, hi => by
    have := of_decide_eq_true (h 0 hi)
    simp only [tagAt] at this; omega
  | i + 1, hi => by
    have := of_decide_eq_true (h (i + 1) hi)
    have := atGood_pos h i (by omega)
    simp only [tagAt] at *; omega
theorem atOk_mem {l : List Att} (h : atOk l = true) : ∀ a ∈ l, 1 ≤ a.1 ∧ a.1 ≤ 65535 ∧ a.2.length ≤ 255 := fun a ha => by
  obtain ⟨h0, h⟩ := atOk_iff h
  obtain ⟨i, hi, rfl⟩ := List.getElem_of_mem ha
  have h1 := of_decide_eq_true (h i hi)
  have h2 := atGood_pos h i hi
  rw [getD_at _ _ hi] at h1 h2
  exact ⟨h2, h1.2⟩
theorem attCells_tag (l : List Att) (i : Nat) (h : i < l.length) : (attCells l)[i * 2]? = some (.i .i64 (l.getD i (0, [])).1) := by
  have := congrArg (fun x => x[0]?) (attCells_two l i h)
  simpa [List.getElem?_take, List.getElem?_drop] using this
/-- An attribute's bytes. -/
def attB (a : Att) : List UInt8 := putL a.1.toNat 2 ++ putL a.2.length 1 ++ a.2
theorem attB_length (a : Att) : (attB a).length = 3 + a.2.length := by simp [attB, putL_length]; omega
def encA (l : List Att) : List UInt8 := l.flatMap attB
theorem encA_take (l : List Att) (i : Nat) (h : i < l.length) : encA (l.take (i + 1)) = encA (l.take i) ++ attB (l.getD i (0, [])) := by
  unfold encA
  rw [List.take_succ_eq_append_getElem h, List.flatMap_append]
  simp [h]
theorem encA_le : ∀ l : List Att, (∀ a ∈ l, a.2.length ≤ 255) → (encA l).length ≤ 258 * l.length
  | [], _ => by simp [encA]
  | a :: l, h => by
    have := encA_le l fun b hb => h b (by simp [hb])
    have h1 := h a (by simp)
    have := attB_length a
    simp only [encA, List.flatMap_cons, List.length_append, List.length_cons] at *
    omega
theorem encA_nil (l : List Att) : encA l = [] ↔ l = [] := by
  cases l with
  | nil => simp [encA]
  | cons a l =>
    simp only [encA, List.flatMap_cons, reduceCtorEq, iff_false]
    intro h
    have := congrArg List.length h
    rw [List.length_append, attB_length] at this
    simp at this
/-- One attribute from the beginning of bytes. -/
def takeA (s : List UInt8) : Option (Att × List UInt8) :=
  if s.length < 3 ∨ s.length < 3 + (s.getD 2 0).toNat then none else some (((256 * (s.getD 0 0).toNat + (s.getD 1 0).toNat : Nat), (s.drop 3).take (s.getD 2 0).toNat), s.drop (3 + (s.getD 2 0).toNat))
theorem takeA_att {a : Att} (h1 : 0 ≤ a.1) (h2 : a.1 ≤ 65535) (h3 : a.2.length ≤ 255) (r : List UInt8) : takeA (attB a ++ r) = some (a, r) := by
  obtain ⟨t, v⟩ := a
  obtain ⟨n, rfl⟩ : ∃ n : Nat, t = n := ⟨t.toNat, by simp at h1; omega⟩
  simp only at h1 h2 h3
  have e : attB ((n : Int), v) ++ r = UInt8.ofNat (n / 256) :: UInt8.ofNat n :: UInt8.ofNat v.length :: (v ++ r) := by
    simp [attB, putL]
  have z0 : (UInt8.ofNat (n / 256)).toNat = n / 256 := by simp [UInt8.toNat_ofNat']; omega
  have z1 : (UInt8.ofNat n).toNat = n % 256 := by simp [UInt8.toNat_ofNat']
  have z2 : (UInt8.ofNat v.length).toNat = v.length := by simp [UInt8.toNat_ofNat']; omega
  rw [e]
  unfold takeA
  simp only [List.getD_cons_succ, List.getD_cons_zero, z0, z1, z2, List.length_cons, List.length_append]
  rw [if_neg (by omega)]
  simp only [List.drop_succ_cons, List.drop_zero, List.take_left, Nat.add_comm 3, List.drop_left]
  congr 3
  omega
theorem takeA_back {s r : List UInt8} {a : Att} (h : takeA s = some (a, r)) : attB a ++ r = s ∧ 0 ≤ a.1 ∧ a.1 ≤ 65535 ∧ a.2.length ≤ 255 := by
  unfold takeA at h
  split at h
  · cases h
  · rename_i hc
    match s, hc with
    | x :: y :: z :: s, hc =>
      simp only [List.getD_cons_succ, List.getD_cons_zero, List.length_cons, List.drop_succ_cons, List.drop_zero, Nat.add_comm 3, Option.some.injEq, Prod.mk.injEq] at h hc
      obtain ⟨rfl, rfl⟩ := h
      have hz := z.toNat_lt
      have hx := x.toNat_lt
      have hy := y.toNat_lt
      have hl : (s.take z.toNat).length = z.toNat := by rw [List.length_take]; omega
      refine ⟨?_, by simp; omega, by simp only; omega, by simp only; omega⟩
      simp only [attB, putL, hl, Int.toNat_natCast, List.append_assoc, List.cons_append, List.nil_append, List.take_append_drop, Nat.pow_zero, Nat.div_one, Nat.pow_one]
      congr 1
      · rw [show (256 * x.toNat + y.toNat) / 256 = x.toNat by omega]; simp
      congr 1
      · apply UInt8.toNat_inj.1; simp [UInt8.toNat_ofNat']
      congr 1
      simp
    | [], hc => simp at hc
    | [_], hc => simp at hc
    | [_, _], hc => simp at hc
/-- So many attributes that are taken from the beginning of bytes, and what is left. -/
def decAs (s : List UInt8) : Nat → Option (List Att × List UInt8)
  | 0 => some ([], s)
  | j + 1 => match decAs s j with
    | none => none
    | some (l, r) => match takeA r with
      | none => none
      | some (a, r') => some (l ++ [a], r')
def decA : Nat → List UInt8 → Option (List Att)
  | 0, _ => none
  | _ + 1, [] => some []
  | n + 1, c :: s => match takeA (c :: s) with
    | none => none
    | some (a, r) => (decA n r).map (a :: ·)
def decAL (s : List UInt8) : Option (List Att) := decA (s.length + 1) s
theorem decAs_len {s : List UInt8} : ∀ {j : Nat} {l : List Att} {r : List UInt8}, decAs s j = some (l, r) → l.length = j ∧ r.length + 3 * j ≤ s.length
  | 0, l, r, h => by simp only [decAs, Option.some.injEq, Prod.mk.injEq] at h; obtain ⟨rfl, rfl⟩ := h; simp
  | j + 1, l, r, h => by
    simp only [decAs] at h
    split at h
    · cases h
    · rename_i l0 r0 h0
      split at h
      · cases h
      · rename_i a r' h1
        simp only [Option.some.injEq, Prod.mk.injEq] at h; obtain ⟨rfl, rfl⟩ := h
        obtain ⟨e, _⟩ := takeA_back h1
        have := congrArg List.length e
        rw [List.length_append, attB_length] at this
        obtain ⟨h2, h3⟩ := decAs_len h0
        simp; omega
theorem takeA_nil : takeA [] = none := rfl
theorem decA_as {s : List UInt8} : ∀ {j : Nat} {l : List Att} {r : List UInt8} (n : Nat), decAs s j = some (l, r) → decA (n + j) s = (decA n r).map (l ++ ·)
  | 0, l, r, n, h => by
    simp only [decAs, Option.some.injEq, Prod.mk.injEq] at h; obtain ⟨rfl, rfl⟩ := h
    simp
  | j + 1, l, r, n, h => by
    simp only [decAs] at h
    split at h
    · cases h
    · rename_i l0 r0 h0
      split at h
      · cases h
      · rename_i a r' h1
        simp only [Option.some.injEq, Prod.mk.injEq] at h; obtain ⟨rfl, rfl⟩ := h
        have := decA_as (n + 1) h0
        rw [show n + (j + 1) = n + 1 + j by omega, this]
        cases r0 with
        | nil => rw [takeA_nil] at h1; cases h1
        | cons c r0 =>
          simp only [decA, h1, Option.map_map]
          congr 1
          funext x; simp
theorem decAL_end {s : List UInt8} {j : Nat} {l : List Att} (h : decAs s j = some (l, [])) : decAL s = some l := by
  obtain ⟨h1, h2⟩ := decAs_len h
  have := decA_as (s.length + 1 - j) h
  rw [show s.length + 1 - j + j = s.length + 1 by omega] at this
  unfold decAL; rw [this]
  rw [show s.length + 1 - j = s.length - j + 1 by omega]
  simp [decA]
theorem decAL_bad {s r : List UInt8} {j : Nat} {l : List Att} (h : decAs s j = some (l, r)) (hr : r ≠ []) (ht : takeA r = none) : decAL s = none := by
  obtain ⟨h1, h2⟩ := decAs_len h
  have := decA_as (s.length + 1 - j) h
  rw [show s.length + 1 - j + j = s.length + 1 by omega] at this
  unfold decAL; rw [this]
  rw [show s.length + 1 - j = s.length - j + 1 by omega]
  cases r with
  | nil => exact absurd rfl hr
  | cons c r => simp [decA, ht]
theorem decA_back : ∀ {n : Nat} {s : List UInt8} {l : List Att}, decA n s = some l → encA l = s
  | 0, s, l, h => by cases h
  | n + 1, [], l, h => by simp only [decA, Option.some.injEq] at h; subst h; rfl
  | n + 1, c :: s, l, h => by
    simp only [decA] at h
    split at h
    · cases h
    · rename_i a r h1
      rw [Option.map_eq_some_iff] at h
      obtain ⟨l', h2, rfl⟩ := h
      have := decA_back h2
      rw [← (takeA_back h1).1, ← this]; simp [encA]
theorem decA_enc : ∀ {l : List Att} {n : Nat}, l.length < n → (∀ a ∈ l, 1 ≤ a.1 ∧ a.1 ≤ 65535 ∧ a.2.length ≤ 255) → decA n (encA l) = some l
  | [], n + 1, _, _ => rfl
  | a :: l, n + 1, hn, h => by
    have ih := decA_enc (l := l) (n := n) (by simpa using hn) fun b hb => h b (by simp [hb])
    obtain ⟨h1, h2, h3⟩ := h a (by simp)
    have e := takeA_att (by omega) h2 h3 (encA l)
    have e2 : encA (a :: l) = attB a ++ encA l := by simp [encA]
    rw [e2]
    cases hx : attB a ++ encA l with
    | nil =>
      have := congrArg List.length hx
      rw [List.length_append, attB_length] at this
      simp at this
    | cons c s =>
      rw [hx] at e
      simp only [decA, e, ih, Option.map_some]
/-- What Decode gives: the attributes, the error. -/
def decT (t : List UInt8) : List Att × Int := match unhexO t with
  | none => ([], 5)
  | some s => match decAL s with
    | none => ([], 5)
    | some l => if atOk l = true then (l, 0) else ([], 11)
/-- What From gives. -/
def fromO (l : List Opt) : List Att × Int := match l with
  | [] => ([], 0)
  | [(id, d)] => if id = [49, 48] ∧ d ≠ [] then decT d else ([], 5)
  | _ => ([], 5)
/-- What Options gives. -/
def optsA (l : List Att) : List Opt × Int :=
  if atOk l = true then (if l = [] then ([], 0) else if (hexs (encA l)).length > 9000 then ([], 4) else ([([49, 48], hexs (encA l))], 0)) else ([], 11)
theorem decT_enc {l : List Att} (h : atOk l = true) : decT (hexs (encA l)) = (l, 0) := by
  have e : decAL (encA l) = some l := by
    refine decA_enc ?_ (atOk_mem h)
    have : ∀ l : List Att, l.length ≤ (encA l).length := fun l => by
      induction l with
      | nil => simp
      | cons a l ih =>
        have := attB_length a
        simp only [encA, List.flatMap_cons, List.length_append, List.length_cons] at *
        omega
    have := this l
    omega
  simp only [decT, unhexO_hexs, e, h, if_true]
theorem decT_ok {t : List UInt8} {l : List Att} (h : decT t = (l, 0)) : atOk l = true ∧ hexs (encA l) = t := by
  unfold decT at h
  split at h
  · simp at h
  · rename_i s hs
    split at h
    · simp at h
    · rename_i l0 hl
      split at h
      · rename_i ho
        simp only [Prod.mk.injEq, and_true] at h; subst h
        refine ⟨ho, ?_⟩
        rw [decA_back hl]
        exact hexs_unhexO _ _ hs
      · simp at h
theorem fromO_opts {l : List Att} {o : List Opt} (h : optsA l = (o, 0)) : fromO o = (l, 0) := by
  unfold optsA at h
  split at h
  · rename_i ho
    split at h
    · rename_i hl
      simp only [Prod.mk.injEq, and_true] at h; subst h; subst hl; rfl
    · rename_i hl
      split at h
      · simp at h
      · simp only [Prod.mk.injEq, and_true] at h; subst h
        have hne : hexs (encA l) ≠ [] := fun e => hl ((encA_nil l).1 (by
          have := congrArg List.length e
          rw [hexs_length, List.length_nil] at this
          exact List.length_eq_zero_iff.1 (by omega)))
        show (if ([49, 48] : List UInt8) = [49, 48] ∧ hexs (encA l) ≠ [] then decT (hexs (encA l)) else ([], 5)) = _
        rw [if_pos ⟨rfl, hne⟩, decT_enc ho]
  · simp at h
end Go.Proofs.YtipomdmlkkifcaaGreatDoor.Vm
/- What Pack gives, Unpack reads (plain). -/
set_option maxRecDepth 100000
namespace Go.Proofs.YtipomdmlkkifcaaGreatDoor.Vm
open Go Go.Proofs
theorem getN_one (x : UInt8) : getN [x] = x.toNat := by simp [getN]
theorem getN_two (x y : UInt8) : getN [x, y] = x.toNat * 256 + y.toNat := by simp [getN]
theorem optOk_iff {id d : List UInt8} (h : optOk id d = true) : id.length = 2 ∧ d.length ≤ 9000 := by
  unfold optOk at h
  simp only [Bool.and_eq_true, beq_iff_eq, decide_eq_true_eq] at h
  exact ⟨h.1.1.1, h.1.1.2⟩
theorem cutO_eq {s : List UInt8} {n : Int} (h : 2 < s.length) (hn : 1 ≤ n) : cutO s 2 n = (s.drop 2).take n.toNat := by
  unfold cutO; rw [if_neg (by omega)]; rfl
theorem oDec_enc {id d : List UInt8} (h : optOk id d = true) (r : List UInt8) : oDec (optEnc id d ++ r) = some (id, d, (optEnc id d).length) := by
  obtain ⟨h1, h2⟩ := optOk_iff h
  by_cases hd : d.length + 4 < 256
  · have e : optEnc id d = id ++ (hexs (putL (d.length + 4) 1) ++ d) := by unfold optEnc; rw [if_pos h, if_pos hd, List.append_assoc]
    have hp : putL (d.length + 4) 1 = [UInt8.ofNat (d.length + 4)] := by simp [putL]
    have hx : (hexs [UInt8.ofNat (d.length + 4)]).length = 2 := rfl
    rw [e, hp]
    have es : id ++ (hexs [UInt8.ofNat (d.length + 4)] ++ d) ++ r = id ++ (hexs [UInt8.ofNat (d.length + 4)] ++ (d ++ r)) := by simp
    rw [es]
    have hl : (id ++ (hexs [UInt8.ofNat (d.length + 4)] ++ (d ++ r))).length = 4 + d.length + r.length := by simp only [List.length_append, h1, hx]; omega
    have c8 : cutO (id ++ (hexs [UInt8.ofNat (d.length + 4)] ++ (d ++ r))) 2 8 = (hexs [UInt8.ofNat (d.length + 4)] ++ (d ++ r)).take 8 := by
      rw [cutO_eq (by omega) (by omega), List.drop_left' h1]; rfl
    have c2 : cutO (id ++ (hexs [UInt8.ofNat (d.length + 4)] ++ (d ++ r))) 2 2 = hexs [UInt8.ofNat (d.length + 4)] := by
      rw [cutO_eq (by omega) (by omega), List.drop_left' h1]
      exact List.take_left' hx
    have hn : ¬ Lib.hasPrefix (cutO (id ++ (hexs [UInt8.ofNat (d.length + 4)] ++ (d ++ r))) 2 8) [48, 48, 48, 52] = true := by
      rw [c8]
      intro hpre
      unfold Lib.hasPrefix at hpre
      rw [List.isPrefixOf_iff_prefix] at hpre
      obtain ⟨q, hq⟩ := hpre
      have h5 := congrArg (List.take 2) hq
      rw [List.take_take, Nat.min_eq_left (by decide), List.take_left' hx] at h5
      have h6 : hexs [0] = hexs [UInt8.ofNat (d.length + 4)] := h5
      exact ofN_ne (by omega) hd (hex1_inj h6).symm
    have hz : numP (hexs [UInt8.ofNat (d.length + 4)]) = d.length + 4 := by
      unfold numP
      rw [unhexO_hexs]
      show getN _ = _
      rw [getN_one]
      simp [UInt8.toNat_ofNat']; omega
    unfold oDec
    rw [if_neg hn, c2, hz]
    unfold oFrom
    have e1 : (id ++ (hexs [UInt8.ofNat (d.length + 4)] ++ (d ++ r))).take 2 = id := List.take_left' h1
    have e2 : ((id ++ (hexs [UInt8.ofNat (d.length + 4)] ++ (d ++ r))).drop 4).take (d.length + 4 - 4) = d := by
      rw [show 4 = 2 + 2 from rfl, ← List.drop_drop, List.drop_left' h1, List.drop_left' hx, Nat.add_sub_cancel, List.take_left]
    rw [e1, e2, if_pos ⟨by omega, by omega, h⟩]
    simp only [List.length_append, h1, hx]
    congr 3; omega
  · have e : optEnc id d = id ++ ([48, 48, 48, 52] ++ (hexs (putL (d.length + 10) 2) ++ d)) := by unfold optEnc; rw [if_pos h, if_neg hd]; simp
    have hx : (hexs (putL (d.length + 10) 2)).length = 4 := by rw [hexs_length, putL_length]
    generalize hq : hexs (putL (d.length + 10) 2) = q at *
    rw [e]
    have es : id ++ ([48, 48, 48, 52] ++ (q ++ d)) ++ r = id ++ ([48, 48, 48, 52] ++ (q ++ (d ++ r))) := by simp
    rw [es]
    have hl : (id ++ ([48, 48, 48, 52] ++ (q ++ (d ++ r)))).length = 10 + d.length + r.length := by simp only [List.length_append, h1, hx, List.length_cons, List.length_nil]; omega
    have c8 : cutO (id ++ ([48, 48, 48, 52] ++ (q ++ (d ++ r)))) 2 8 = [48, 48, 48, 52] ++ q := by
      rw [cutO_eq (by omega) (by omega), List.drop_left' h1, ← List.append_assoc]
      exact List.take_left' (by simp [hx])
    have hp : Lib.hasPrefix ([48, 48, 48, 52] ++ q) [48, 48, 48, 52] = true := by
      unfold Lib.hasPrefix
      rw [List.isPrefixOf_iff_prefix]
      exact ⟨q, rfl⟩
    have ht : Lib.trimPrefix ([48, 48, 48, 52] ++ q) [48, 48, 48, 52] = q := by
      unfold Lib.trimPrefix
      rw [if_pos hp]
      exact List.drop_left' rfl
    have hz : numP q = d.length + 10 := by
      rw [← hq]
      unfold numP
      rw [unhexO_hexs]
      show getN _ = _
      simp only [putL, getN_two, Nat.pow_zero, Nat.div_one, Nat.pow_one]
      simp [UInt8.toNat_ofNat']; omega
    unfold oDec
    rw [c8, if_pos hp, ht, hz, if_neg (by omega)]
    unfold oFrom
    have e1 : (id ++ ([48, 48, 48, 52] ++ (q ++ (d ++ r)))).take 2 = id := List.take_left' h1
    have e2 : ((id ++ ([48, 48, 48, 52] ++ (q ++ (d ++ r)))).drop 10).take (d.length + 10 - 10) = d := by
      rw [show 10 = 2 + (4 + 4) from rfl, ← List.drop_drop, List.drop_left' h1, ← List.drop_drop, List.drop_left' (show ([48, 48, 48, 52] : List UInt8).length = 4 from rfl), List.drop_left' hx, Nat.add_sub_cancel, List.take_left]
    rw [e1, e2, if_pos ⟨by omega, by omega, h⟩]
    simp only [List.length_append, h1, hx, List.length_cons, List.length_nil]
    congr 3; omega
theorem decs_enc (l : List Opt) (r : List UInt8) (h : ∀ i, i < l.length → optOk (l.getD i ([], [])).1 (l.getD i ([], [])).2 = true) : ∀ k, k ≤ l.length → decs (encAll l ++ r) k = some (l.take k, (encAll (l.take k)).length)
  | 0, _ => by simp [decs, encAll]
  | k + 1, hk => by
    have ih := decs_enc l r h k (by omega)
    have he := encAll_take l k (by omega)
    have hs : encAll l ++ r = encAll (l.take (k + 1)) ++ (encAll (l.drop (k + 1)) ++ r) := by
      rw [← List.append_assoc]
      unfold encAll
      rw [← List.flatMap_append, List.take_append_drop]
    have hd : (encAll l ++ r).drop (encAll (l.take k)).length = optEnc (l.getD k ([], [])).1 (l.getD k ([], [])).2 ++ (encAll (l.drop (k + 1)) ++ r) := by
      rw [hs, he, List.append_assoc, List.drop_left]
    simp only [decs, ih, hd, oDec_enc (h k (by omega))]
    rw [he, List.length_append]
    have hg := getD_at l k (by omega) ([], [])
    rw [hg, List.take_succ_eq_append_getElem (by omega : k < l.length)]
theorem pad_ok (n : Nat) : optOk [80, 66] (List.replicate ((16 - (n + 4) % 16) % 16) 48) = true := by
  have : ∀ k : Fin 16, optOk [80, 66] (List.replicate k.val 48) = true := by decide
  exact this ⟨_, Nat.mod_lt _ (by decide)⟩
theorem packOk_iff {l : List Opt} (h : packOk l = true) : ∀ i, i < l.length → optGood l i = true := by
  unfold packOk at h
  rw [List.all_eq_true] at h
  exact fun i hi => h i (List.mem_range.2 hi)
theorem optGood_iff {l : List Opt} {i : Nat} (h : optGood l i = true) : optOk (l.getD i ([], [])).1 (l.getD i ([], [])).2 = true ∧ ((l.getD i ([], [])).1 == [80, 66]) = false := by
  unfold optGood at h
  simp only [Bool.and_eq_true, Bool.not_eq_true'] at h
  exact ⟨h.1.1, h.1.2⟩
theorem unp_pack {l : List Opt} {p : List UInt8} {k : Nat} (h : packL l = (p, k, 0)) (r : List UInt8) : unpL (p ++ r) k = (l, p.length, 0) := by
  have h0 := h
  unfold packL at h
  by_cases ho : packOk l = true
  · rw [if_pos ho] at h
    have hg := packOk_iff ho
    by_cases hcnd : (l.length + (if padL (encAll l).length = [] then 0 else 1)) > 98 ∨ (encAll l ++ padL (encAll l).length).length > 9999
    · rw [if_pos hcnd] at h; simp at h
    · rw [if_neg hcnd] at h
      simp only [Prod.mk.injEq, and_true] at h
      obtain ⟨hp, hk⟩ := h
      have hgo : ∀ i, i < l.length → optOk (l.getD i ([], [])).1 (l.getD i ([], [])).2 = true := fun i hi => (optGood_iff (hg i hi)).1
      by_cases hpd : padL (encAll l).length = []
      · rw [if_pos hpd] at hk
        rw [hpd, List.append_nil] at hp
        subst hp
        obtain rfl : k = l.length := by omega
        have hd := decs_enc l r hgo l.length (Nat.le_refl _)
        rw [List.take_of_length_le (Nat.le_refl _)] at hd
        have hq : dropPB l = l := by
          unfold dropPB
          rw [if_neg]
          unfold lastPB
          intro hc
          rw [Bool.and_eq_true] at hc
          have h1 := of_decide_eq_true hc.1
          have := (optGood_iff (hg (l.length - 1) (by omega))).2
          rw [this] at hc; exact absurd hc.2 (by decide)
        simp only [unpL, hd, hq, h0, List.take_left, if_true]
      · rw [if_neg hpd] at hk
        have hpe : padL (encAll l).length = optEnc [80, 66] (List.replicate ((16 - ((encAll l).length + 4) % 16) % 16) 48) := by
          unfold padL at hpd ⊢
          split at hpd
          · exact absurd rfl hpd
          · rename_i hc; rw [if_neg hc]
        have hpo := pad_ok (encAll l).length
        generalize hz : List.replicate ((16 - ((encAll l).length + 4) % 16) % 16) (48 : UInt8) = z at hpe hpo
        have hall : encAll (l ++ [([80, 66], z)]) = p := by
          rw [← hp, hpe]; simp [encAll]
        have hgo' : ∀ i, i < (l ++ [([80, 66], z)]).length → optOk ((l ++ [([80, 66], z)]).getD i ([], [])).1 ((l ++ [([80, 66], z)]).getD i ([], [])).2 = true := fun i hi => by
          by_cases hil : i < l.length
          · have := hgo i hil
            rw [getD_at _ _ hi, List.getElem_append_left hil]
            rwa [getD_at _ _ hil] at this
          · obtain rfl : i = l.length := by simp at hi; omega
            rw [getD_at _ _ hi]
            simpa using hpo
        have hd := decs_enc (l ++ [([80, 66], z)]) r hgo' k (by simp; omega)
        rw [List.take_of_length_le (by simp; omega), hall] at hd
        have hq : dropPB (l ++ [([80, 66], z)]) = l := by
          have hl : lastPB (l ++ [([80, 66], z)]) = true := by
            unfold lastPB
            simp
          unfold dropPB
          rw [if_pos hl]
          simp
        simp only [unpL, hd, hq, h0, List.take_left, if_true]
  · rw [if_neg ho] at h; simp at h
theorem unp_ok {s : List UInt8} {k a : Nat} {l : List Opt} (h : unpL s k = (l, a, 0)) : packL l = (s.take a, k, 0) ∧ a ≤ s.length := by
  unfold unpL at h
  split at h
  · simp at h
  · rename_i l0 a0 hd
    split at h
    · rename_i hp
      simp only [Prod.mk.injEq, and_true] at h
      obtain ⟨rfl, rfl⟩ := h
      exact ⟨hp, (decs_ok hd).2⟩
    · simp at h
/-- What From gives comes of what Options gives. -/
theorem opts_fromO {o : List Opt} {l : List Att} {p : List UInt8} {k : Nat} (h : fromO o = (l, 0)) (hp : packL o = (p, k, 0)) : optsA l = (o, 0) := by
  unfold fromO at h
  split at h
  · simp only [Prod.mk.injEq, and_true] at h; subst h; rfl
  · rename_i id d
    split at h
    · rename_i hc
      obtain ⟨rfl, hd⟩ := hc
      obtain ⟨ho, he⟩ := decT_ok h
      have hl : l ≠ [] := fun e => by
        subst e
        exact hd he.symm
      have hok : packOk [(([49, 48] : List UInt8), d)] = true := by
        unfold packL at hp
        by_cases ho : packOk [(([49, 48] : List UInt8), d)] = true
        · exact ho
        · rw [if_neg ho] at hp; simp at hp
      have h9 := (optOk_iff (optGood_iff (packOk_iff hok 0 (by simp))).1).2
      have h9 : d.length ≤ 9000 := h9
      unfold optsA
      rw [if_pos ho, if_neg hl, he, if_neg (by omega)]
    · simp at h
  · simp at h
end Go.Proofs.YtipomdmlkkifcaaGreatDoor.Vm
/- Key blocks' parts (plain). -/
set_option maxRecDepth 100000
namespace Go.Proofs.YtipomdmlkkifcaaGreatDoor.Vm
open Go Go.Proofs
structure Fr where
  l : List UInt8
  h : Hd
  a : List Att
  t : List UInt8
  c : List UInt8
  g : List UInt8
def Fr.none : Fr := ⟨[], ⟨[], [], [], []⟩, [], [], [], []⟩
def Fr.cells (x : Fr) : List T := [.s x.l, .s x.h.u, .s x.h.m, .s x.h.v, .s x.h.e, .sl x.a.length (attCells x.a), .s x.t, .s x.c, .s x.g]
/-- What Top gives. -/
def topL (l : List UInt8) (h : Hd) (a : List Att) (n : Int) : List UInt8 × Int :=
  if kMost l = 0 ∨ n < 16 ∨ n > 4096 ∨ n % 16 ≠ 0 then ([], 1)
  else if tChk h l = true then
    (if (optsA a).2 ≠ 0 then ([], (optsA a).2)
     else if (packL (optsA a).1).2.2 ≠ 0 ∨ 16 + ((packL (optsA a).1).1.length : Int) + 2 * n + 32 > 9999 then ([], 4)
     else ((hEnc ⟨16 + ((packL (optsA a).1).1.length : Int) + 2 * n + 32, l, (packL (optsA a).1).2.1, h⟩).1 ++ (packL (optsA a).1).1, 0))
  else ([], 12)
/-- What stands behind the top: the cipher and the tag, in digits. -/
def hexTail (r : List UInt8) : Option (List UInt8 × List UInt8) := match unhexO r with
  | none => none
  | some s => if s.length < 32 ∨ s.length % 16 ≠ 0 then none else some (s.take (s.length - 16), s.drop (s.length - 16))
theorem unhexO_append : ∀ (x y : List UInt8), x.length % 2 = 0 → unhexO (x ++ y) = (unhexO x).bind fun a => (unhexO y).map (a ++ ·)
  | [], y, _ => by
    show unhexO y = (unhexO y).map (fun z => [] ++ z)
    cases unhexO y <;> rfl
  | [_], _, h => by simp at h
  | c :: d :: x, y, h => by
    have ih := unhexO_append x y (by simp at h; omega)
    simp only [List.cons_append, unhexO, ih]
    split
    · rfl
    · cases unhexO x with
      | none => rfl
      | some a =>
        simp only [Option.bind_some, Option.map_some, Option.map_map]
        cases unhexO y <;> rfl
theorem unhexO_len {x z : List UInt8} (h : unhexO x = some z) : x.length = 2 * z.length := by
  have := hexs_unhexO x z h
  rw [← this, hexs_length]
/-- The same, each in turn. -/
theorem hexTail_two (r : List UInt8) : hexTail r = if r.length < 64 ∨ r.length % 32 ≠ 0 then none else
    match unhexO (r.take (r.length - 32)) with
    | none => none
    | some c => match unhexO (r.drop (r.length - 32)) with
      | none => none
      | some g => some (c, g) := by
  unfold hexTail
  by_cases hc : r.length < 64 ∨ r.length % 32 ≠ 0
  · rw [if_pos hc]
    cases hu : unhexO r with
    | none => rfl
    | some s =>
      have := unhexO_len hu
      simp only
      rw [if_pos (by omega)]
  · rw [if_neg hc]
    have hsplit := unhexO_append (r.take (r.length - 32)) (r.drop (r.length - 32)) (by rw [List.length_take]; omega)
    rw [List.take_append_drop] at hsplit
    rw [hsplit]
    cases h1 : unhexO (r.take (r.length - 32)) with
    | none => rfl
    | some c =>
      cases h2 : unhexO (r.drop (r.length - 32)) with
      | none => rfl
      | some g =>
        have l1 := unhexO_len h1
        have l2 := unhexO_len h2
        rw [List.length_take] at l1
        rw [List.length_drop] at l2
        simp only [Option.bind_some, Option.map_some]
        have lg : g.length = 16 := by omega
        rw [if_neg (by rw [List.length_append]; omega)]
        have e : (c ++ g).length - 16 = c.length := by rw [List.length_append]; omega
        rw [e, List.take_left, List.drop_left]
/-- What Unpack gives of a key block. -/
def cutA (b : List UInt8) : List Opt × Nat × Int := unpL (b.drop 16) (hDec b).1.k.toNat
/-- What Cut gives: the parts, the error. -/
def cutF (b : List UInt8) : Fr × Int :=
  if b = [] then (Fr.none, 3) else if b.length > 9999 then (Fr.none, 4)
  else if (hDec b).2 ≠ 0 then (Fr.none, (hDec b).2) else if (hDec b).1.n ≠ b.length then (Fr.none, 5)
  else if (cutA b).2.2 ≠ 0 then (Fr.none, (cutA b).2.2) else if (fromO (cutA b).1).2 ≠ 0 then (Fr.none, (fromO (cutA b).1).2)
  else match hexTail (b.drop (16 + (cutA b).2.1)) with
    | none => (Fr.none, 5)
    | some (c, g) => (⟨(hDec b).1.l, (hDec b).1.h, (fromO (cutA b).1).1, b.take (16 + (cutA b).2.1), c, g⟩, 0)
theorem unpL_len (s : List UInt8) (k : Nat) : (unpL s k).1.length ≤ k := by
  unfold unpL
  split
  · simp
  · rename_i l a hd
    split
    · have := dropPB_le l
      have := (decs_ok hd).1
      simp only; omega
    · simp
theorem unpL_data (s : List UInt8) (k : Nat) : ((unpL s k).1.getD 0 ([], [])).2.length ≤ 100000 := by
  unfold unpL
  split
  · simp
  · rename_i l a hd
    split
    · rename_i hp
      simp only
      by_cases h0 : 0 < (dropPB l).length
      · have hok : packOk (dropPB l) = true := by
          unfold packL at hp
          by_cases ho : packOk (dropPB l) = true
          · exact ho
          · rw [if_neg ho] at hp; simp at hp
        have := (optOk_iff (optGood_iff (packOk_iff hok 0 h0)).1).2
        omega
      · have : dropPB l = [] := List.length_eq_zero_iff.1 (by omega)
        rw [this]; simp
    · simp
theorem unpL_at (s : List UInt8) (k : Nat) : (unpL s k).2.1 ≤ s.length := by
  unfold unpL
  split
  · simp
  · rename_i l a hd
    split
    · exact (decs_ok hd).2
    · simp
theorem hDec_len {b : List UInt8} (h : (hDec b).2 = 0) : 16 ≤ b.length := by
  rcases Nat.lt_or_ge b.length 16 with h1 | h1
  · rw [hDec_lt b h1] at h; simp at h
  · exact h1
theorem optsA_len (a : List Att) : (optsA a).1.length ≤ 1 := by
  unfold optsA
  split
  · split
    · simp
    · split <;> simp
  · simp
theorem packL_le (l : List Opt) : (packL l).1.length ≤ 9999 ∧ (packL l).2.1 ≤ 98 := by
  unfold packL
  by_cases ho : packOk l = true
  · rw [if_pos ho]
    by_cases hc : (l.length + (if padL (encAll l).length = [] then 0 else 1)) > 98 ∨ (encAll l ++ padL (encAll l).length).length > 9999
    · rw [if_pos hc]; simp
    · rw [if_neg hc]; simp only; omega
  · rw [if_neg ho]; simp
end Go.Proofs.YtipomdmlkkifcaaGreatDoor.Vm
/- Key blocks' parts, there and back (plain). -/
set_option maxRecDepth 100000
namespace Go.Proofs.YtipomdmlkkifcaaGreatDoor.Vm
open Go Go.Proofs
theorem topL_ok {l : List UInt8} {h : Hd} {a : List Att} {n : Int} {s : List UInt8} (ht : topL l h a n = (s, 0)) :
    kMost l ≠ 0 ∧ 16 ≤ n ∧ n ≤ 4096 ∧ n % 16 = 0 ∧ tChk h l = true ∧ (optsA a).2 = 0 ∧ (packL (optsA a).1).2.2 = 0 ∧ 16 + ((packL (optsA a).1).1.length : Int) + 2 * n + 32 ≤ 9999 ∧
      s = (hEnc ⟨16 + ((packL (optsA a).1).1.length : Int) + 2 * n + 32, l, (packL (optsA a).1).2.1, h⟩).1 ++ (packL (optsA a).1).1 := by
  unfold topL at ht
  by_cases c1 : kMost l = 0 ∨ n < 16 ∨ n > 4096 ∨ n % 16 ≠ 0
  · rw [if_pos c1] at ht; simp at ht
  · rw [if_neg c1] at ht
    by_cases c2 : tChk h l = true
    · rw [if_pos c2] at ht
      by_cases c3 : (optsA a).2 ≠ 0
      · rw [if_pos c3] at ht
        simp only [Prod.mk.injEq] at ht
        exact absurd ht.2 c3
      · rw [if_neg c3] at ht
        by_cases c4 : (packL (optsA a).1).2.2 ≠ 0 ∨ 16 + ((packL (optsA a).1).1.length : Int) + 2 * n + 32 > 9999
        · rw [if_pos c4] at ht; simp at ht
        · rw [if_neg c4] at ht
          simp only [Prod.mk.injEq, and_true] at ht
          refine ⟨fun h => c1 (.inl h), by omega, by omega, by omega, c2, by simpa using c3, ?_, by omega, ht.symm⟩
          exact Classical.byContradiction fun h => c4 (.inl h)
    · rw [if_neg c2] at ht; simp at ht
theorem hEnc_ok {x : Hdr} (h1 : 0 ≤ x.n) (h2 : x.n ≤ 9999) (h3 : 0 ≤ x.k) (h4 : x.k ≤ 99) (h5 : kMost x.l ≠ 0) (h6 : tChk x.h x.l = true) : (hEnc x).2 = 0 := by
  unfold hEnc
  rw [if_neg (by omega), if_pos h6]
theorem hEnc_iff {x : Hdr} (h : (hEnc x).2 = 0) : kMost x.l ≠ 0 ∧ tChk x.h x.l = true := by
  unfold hEnc at h
  by_cases c1 : x.n < 0 ∨ 9999 < x.n ∨ x.k < 0 ∨ 99 < x.k ∨ kMost x.l = 0
  · rw [if_pos c1] at h; simp at h
  · rw [if_neg c1] at h
    by_cases c2 : tChk x.h x.l = true
    · exact ⟨fun e => c1 (by simp [e]), c2⟩
    · rw [if_neg c2] at h; simp at h
theorem hexTail_hexs (c g : List UInt8) (h1 : 16 ≤ c.length) (h2 : c.length % 16 = 0) (h3 : g.length = 16) : hexTail (hexs c ++ hexs g) = some (c, g) := by
  rw [← hexs_append]
  unfold hexTail
  rw [unhexO_hexs]
  simp only
  rw [if_neg (by rw [List.length_append]; omega)]
  have e : (c ++ g).length - 16 = c.length := by rw [List.length_append]; omega
  rw [e, List.take_left, List.drop_left]
/-- What is put together is cut as it was. -/
theorem cut_join {l : List UInt8} {h : Hd} {a : List Att} {s c g : List UInt8} (ht : topL l h a c.length = (s, 0)) (hg : g.length = 16) : cutF (s ++ hexs c ++ hexs g) = (⟨l, h, a, s, c, g⟩, 0) := by
  obtain ⟨t1, t2, t3, t4, t5, t6, t7, t8, t9⟩ := topL_ok ht
  generalize ho : optsA a = oa at *
  obtain ⟨o, e⟩ := oa
  simp only at t6 t7 t8 t9
  subst t6
  have hfo := fromO_opts ho
  have hle := packL_le o
  have hpk : packL o = ((packL o).1, (packL o).2.1, 0) := by rw [← t7]
  generalize (packL o).1 = p at *
  generalize (packL o).2.1 = k at *
  have hx := hEnc_ok (x := ⟨16 + (p.length : Int) + 2 * (c.length : Int) + 32, l, k, h⟩) (by simp only; omega) (by simp only; omega) (by simp only; omega) (by simp only; omega) t1 t5
  obtain ⟨q1, q2⟩ := enc_dec ⟨16 + (p.length : Int) + 2 * (c.length : Int) + 32, l, k, h⟩ (p ++ (hexs c ++ hexs g)) hx
  generalize (hEnc ⟨16 + (p.length : Int) + 2 * (c.length : Int) + 32, l, k, h⟩).1 = hd at *
  have hb : s ++ hexs c ++ hexs g = hd ++ (p ++ (hexs c ++ hexs g)) := by rw [t9]; simp
  rw [hb]
  have hlen : (hd ++ (p ++ (hexs c ++ hexs g))).length = 16 + p.length + 2 * c.length + 32 := by
    simp only [List.length_append, hexs_length, q1, hg]; omega
  have hca : cutA (hd ++ (p ++ (hexs c ++ hexs g))) = (o, p.length, 0) := by
    unfold cutA
    rw [q2, List.drop_left' q1]
    simp only [Int.toNat_natCast]
    exact unp_pack hpk _
  unfold cutF
  rw [if_neg (by intro e; rw [e] at hlen; simp at hlen), if_neg (by omega), hca, q2]
  simp only
  rw [if_neg (by simp), if_neg (by rw [hlen]; push_cast; omega), if_neg (by simp), hfo]
  simp only
  rw [if_neg (by simp)]
  have hdr : (hd ++ (p ++ (hexs c ++ hexs g))).drop (16 + p.length) = hexs c ++ hexs g := by
    rw [← List.drop_drop, List.drop_left' q1, List.drop_left]
  have htk : (hd ++ (p ++ (hexs c ++ hexs g))).take (16 + p.length) = s := by
    rw [← List.append_assoc, List.take_left' (by simp [q1]), t9]
  rw [hdr, htk, hexTail_hexs c g (by omega) (by omega) hg]
theorem hexTail_ok {r c g : List UInt8} (h : hexTail r = some (c, g)) : hexs c ++ hexs g = r ∧ 16 ≤ c.length ∧ c.length % 16 = 0 ∧ g.length = 16 := by
  unfold hexTail at h
  split at h
  · cases h
  · rename_i s hs
    split at h
    · cases h
    · rename_i hc
      simp only [Option.some.injEq, Prod.mk.injEq] at h
      obtain ⟨rfl, rfl⟩ := h
      refine ⟨?_, by rw [List.length_take]; omega, by rw [List.length_take]; omega, by rw [List.length_drop]; omega⟩
      rw [← hexs_append, List.take_append_drop]
      exact hexs_unhexO _ _ hs
/-- What is cut, put together again, is what it was. -/
theorem cut_back {b : List UInt8} {x : Fr} (h : cutF b = (x, 0)) : x.t ++ hexs x.c ++ hexs x.g = b ∧ (x.c.length ≤ 4096 → topL x.l x.h x.a x.c.length = (x.t, 0)) ∧ x.l.length ≤ 20 ∧ hdFine x.h = true ∧ x.a.length ≤ 32 ∧ x.t.length ≤ 9999 ∧ x.c.length ≤ 9999 ∧ x.g.length ≤ 9999 := by
  unfold cutF at h
  by_cases c0 : b = []
  · rw [if_pos c0] at h; simp at h
  rw [if_neg c0] at h
  by_cases c1 : b.length > 9999
  · rw [if_pos c1] at h; simp at h
  rw [if_neg c1] at h
  by_cases c2 : (hDec b).2 = 0
  · rw [if_neg (by simp [c2])] at h
    have hl16 := hDec_len c2
    obtain ⟨d1, d2, d3, d4, d5, d6, d7⟩ := dec_enc b c2
    by_cases c3 : (hDec b).1.n = b.length
    · rw [if_neg (by simp [c3])] at h
      by_cases c4 : (cutA b).2.2 = 0
      · rw [if_neg (by simp [c4])] at h
        by_cases c5 : (fromO (cutA b).1).2 = 0
        · rw [if_neg (by simp [c5])] at h
          have hu : unpL (b.drop 16) (hDec b).1.k.toNat = ((cutA b).1, (cutA b).2.1, 0) := by rw [← c4]; rfl
          obtain ⟨p1, p2⟩ := unp_ok hu
          rw [List.length_drop] at p2
          have hf : fromO (cutA b).1 = ((fromO (cutA b).1).1, 0) := by rw [← c5]
          have hop := opts_fromO hf p1
          generalize (fromO (cutA b).1).1 = l at *
          generalize (cutA b).1 = o at *
          generalize (cutA b).2.1 = a at *
          split at h
          · simp at h
          · rename_i c g hh
            simp only [Prod.mk.injEq, and_true] at h
            subst h
            obtain ⟨e1, e2, e3, e4⟩ := hexTail_ok hh
            have hlen := congrArg List.length e1
            rw [List.length_append, hexs_length, hexs_length, List.length_drop] at hlen
            have hao : atOk l = true := by
              unfold optsA at hop
              by_cases ho : atOk l = true
              · exact ho
              · rw [if_neg ho] at hop; simp at hop
            obtain ⟨m1, m2⟩ := hEnc_iff (x := (hDec b).1) (by rw [d1])
            simp only
            refine ⟨?_, fun hc => ?_, d6, d7, (atOk_iff hao).1, by rw [List.length_take]; omega, by omega, by omega⟩
            · rw [List.append_assoc, e1, List.take_append_drop]
            · unfold topL
              rw [if_neg (by omega), if_pos m2, hop]
              simp only
              rw [if_neg (by simp), p1]
              simp only
              have hpl : ((b.drop 16).take a).length = a := by rw [List.length_take, List.length_drop]; omega
              rw [hpl, if_neg (by simp; omega)]
              have hX : (⟨16 + (a : Int) + 2 * (c.length : Int) + 32, (hDec b).1.l, ((hDec b).1.k.toNat : Int), (hDec b).1.h⟩ : Hdr) = (hDec b).1 := by
                rw [Int.toNat_of_nonneg d4, show 16 + (a : Int) + 2 * (c.length : Int) + 32 = (hDec b).1.n by omega]
              rw [hX, d1]
              simp only [Prod.mk.injEq, and_true]
              rw [List.take_add]
        · rw [if_pos c5] at h
          simp only [Prod.mk.injEq] at h
          exact absurd h.2 c5
      · rw [if_pos c4] at h
        simp only [Prod.mk.injEq] at h
        exact absurd h.2 c4
    · rw [if_pos c3] at h; simp at h
  · rw [if_pos c2] at h
    simp only [Prod.mk.injEq] at h
    exact absurd h.2 c2
end Go.Proofs.YtipomdmlkkifcaaGreatDoor.Vm
