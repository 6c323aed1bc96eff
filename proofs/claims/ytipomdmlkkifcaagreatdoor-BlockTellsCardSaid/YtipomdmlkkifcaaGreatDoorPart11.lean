/- Texts of one proof, gathered: Span Octets Option Option2 Option3 Option4 Option5. -/
import Derived.Test.YtipomdmlkkifcaaGreatDoorPart3
import Derived.Test.YtipomdmlkkifcaaGreatDoorPart10
set_option linter.unusedSimpArgs false
set_option linter.unusedVariables false
set_option linter.unnecessarySimpa false
/- Contracts: span. -/
set_option maxRecDepth 100000
namespace Go.Proofs.YtipomdmlkkifcaaGreatDoor.Vm
open Go Go.Proofs Go.RowKit Go.Proofs.YtipomdmlkkifcaaGreatDoor.Flt
variable {ml : Int}
/-- A number that may be a part of a span. -/
abbrev sp (z : Int) : Prop := 0 ≤ z ∧ z ≤ 65552
theorem sp_abs {z : Int} (h : sp z) : z.natAbs < 2 ^ 53 := by obtain ⟨h1, h2⟩ := h; have : (2 : Nat) ^ 53 = 9007199254740992 := rfl; omega
abbrev xs (a b : Int) : T := .cx .f64 (nr a) (nr b)
theorem spWhole (z : Int) (h : sp z) : Ret P (C ml) 254 [.fl .f64 (nr z)] (.b true) := by
  refine hR Tryz.func254 ?_
  have a0 := sp_abs h
  have q1 := fcmp a0 (show (0 : Int).natAbs < 2 ^ 53 by decide)
  have q2 := fcmp a0 (show (65552 : Int).natAbs < 2 ^ 53 by decide)
  have q3 := fcmp a0 a0
  have i1 := fti a0
  rw [nr0] at q1
  rw [nrBlob] at q2
  obtain ⟨h1, h2⟩ := h
  have g1 : (FloatKind.f64.format.order (nr z) 0 == some .gt || FloatKind.f64.format.order (nr z) 0 == some .eq) = true := by rw [q1.1, q1.2.2]; simp; omega
  have g2 : (FloatKind.f64.format.order (nr z) 4679241112349573120 == some .lt || FloatKind.f64.format.order (nr z) 4679241112349573120 == some .eq) = true := by rw [q2.1, q2.2.1]; simp; omega
  have g3 : (FloatKind.f64.format.order (nr z) (nr z) == some .eq) = true := by rw [q3.1]; simp
  clear q1 q2 q3
  refine gFs [.t, .t, fio i1] rfl (ret_of rfl ?_ trivial trivial)
  exact .inl (congrArg T.b g3)
theorem spMay (a b : Int) (ha : sp a) (hb : sp b) : Ret P (C ml) 203 [xs a b] (.b (decide (a ≤ b))) := by
  refine hR Tryz.func203 ?_
  have k1 := spWhole (ml := ml) a ha
  have k2 := spWhole (ml := ml) b hb
  have q1 := fcmp (sp_abs ha) (sp_abs hb)
  refine gFs [cc k1, .t, cc k2, .t] rfl (ret_of rfl ?_ trivial trivial)
  exact .inl (congrArg T.b (by rw [q1.1, q1.2.1, Bool.eq_iff_iff]; simp; omega))
theorem spSure (a b : Int) (ha : sp a) (hb : sp b) (h : a ≤ b) : Ret P (C ml) 200 [xs a b] (xs a b) := by
  refine hR Tryz.func200 ?_
  have k1 := spMay (ml := ml) a b ha hb
  rw [decide_eq_true h] at k1
  have i1 := add0 (sp_abs ha)
  have i2 := add0 (sp_abs hb)
  refine gFs [cc k1, .t, flo i1, flo i2] rfl (ret_of rfl ?_ trivial trivial)
  (first | exact .inl rfl | rfl | (simp [tle]; done) | (simp_all [tle, tleL]; done))
theorem spOf (a b : Int) (ha : sp a) (hb : sp b) (h : a ≤ b) : Ret P (C ml) 127 [.i .i64 a, .i .i64 b] (xs a b) := by
  refine hR Tryz.func127 ?_
  have k1 := spSure (ml := ml) a b ha hb h
  obtain ⟨h1, h2⟩ := ha; obtain ⟨h3, h4⟩ := hb
  have m1 : minI a b = a := by unfold minI; split <;> omega
  have m2 : maxI a b = b := by unfold maxI; split <;> omega
  refine gFs [.f, .f, cc k1] rfl (ret_of rfl ?_ trivial trivial)
  (first | exact .inl rfl | rfl | (simp [tle]; done) | (simp_all [tle, tleL]; done))
theorem spFrom (a b : Int) (ha : sp a) (hb : sp b) (h : a ≤ b) : Ret P (C ml) 204 [xs a b] (.i .i64 a) := by
  refine hR Tryz.func204 ?_
  have k1 := spSure (ml := ml) a b ha hb h
  have i1 := fti (sp_abs ha)
  refine gFs [cc k1, fio i1] rfl (ret_of rfl ?_ trivial trivial)
  (first | exact .inl rfl | rfl | (simp [tle]; done) | (simp_all [tle, tleL]; done))
theorem spTo (a b : Int) (ha : sp a) (hb : sp b) (h : a ≤ b) : Ret P (C ml) 130 [xs a b] (.i .i64 b) := by
  refine hR Tryz.func130 ?_
  have k1 := spSure (ml := ml) a b ha hb h
  have i1 := fti (sp_abs hb)
  refine gFs [cc k1, fio i1] rfl (ret_of rfl ?_ trivial trivial)
  (first | exact .inl rfl | rfl | (simp [tle]; done) | (simp_all [tle, tleL]; done))
theorem spShift (a b n : Int) (ha : sp a) (hb : sp b) (h : a ≤ b) (hn : -65552 ≤ n ∧ n ≤ 65552) (h1 : sp (a + n)) (h2 : sp (b + n)) : Ret P (C ml) 131 [xs a b, .i .i64 n] (xs (a + n) (b + n)) := by
  refine hR Tryz.func131 ?_
  have k1 := spMay (ml := ml) a b ha hb
  rw [decide_eq_true h] at k1
  have k2 := spSure (ml := ml) (a + n) (b + n) h1 h2 (by omega)
  have hp : (2 : Nat) ^ 53 = 9007199254740992 := rfl
  have i1 : FloatKind.f64.format.add (nr a) (nr n) = some (nr (a + n)) ∧ FloatKind.f64.format.add (nr b) (nr n) = some (nr (b + n)) := ⟨add_nr (sp_abs ha) (by omega) (sp_abs h1), add_nr (sp_abs hb) (by omega) (sp_abs h2)⟩
  clear ha hb h1 h2
  refine gFs [cc k1, .f, .f, .f, cxo i1, cc k2] rfl (ret_of rfl ?_ trivial trivial)
  (first | exact .inl rfl | rfl | (simp [tle]; done) | (simp_all [tle, tleL]; done))
/-- A piece of a text, as octets.Cut gives it. -/
def cutO (l : List UInt8) (i n : Int) : List UInt8 := if i < 0 ∨ i ≥ l.length ∨ n < 1 then [] else (l.drop i.toNat).take n.toNat
theorem cut_min (l : List UInt8) (i n : Int) (hi : 0 ≤ i) (h : i < l.length) (hn : 1 ≤ n) : (l.take (i + minI n (l.length - i)).toNat).drop i.toNat = (l.drop i.toNat).take n.toNat := by
  rw [List.drop_take]
  unfold minI
  split
  · rw [List.take_of_length_le (by simp; omega), List.take_of_length_le (by simp; omega)]
  · congr 1; omega
theorem oCut (l : List UInt8) (i n : Int) (hl : (l.length : Int) ≤ 9223372036854775807) (hi : i ≤ 9223372036854775807) (hn : n ≤ 9223372036854775807) : Ret P (C ml) 180 [.s l, .i .i64 i, .i .i64 n] (.s (cutO l i n)) := by
  refine hR Tryz.func180 ?_
  by_cases hc : i < 0 ∨ i ≥ l.length ∨ n < 1
  · rcases Bool.eq_false_or_eq_true (decide (i < 0)) with c1 | c1
    · have d1 := c1; (try simp at d1)
      refine gFs [.t] rfl (ret_of rfl ?_ trivial trivial)
      simp [tle, cutO, if_pos hc]
    · have d1 := c1; (try simp at d1)
      rcases Bool.eq_false_or_eq_true (decide (i ≥ (↑l.length : Int))) with c2 | c2
      · have d2 := c2; (try simp at d2)
        refine gFs [.f, .t] rfl (ret_of rfl ?_ trivial trivial)
        simp [tle, cutO, if_pos hc]
      · have d2 := c2; (try simp at d2)
        refine gFs [.f, .f, .t] rfl (ret_of rfl ?_ trivial trivial)
        simp [tle, cutO, if_pos hc]
  · have w1 : IntKind.i64.wrap (↑l.length - i) = ↑l.length - i := w64 (by omega) (by omega)
    have w2 : IntKind.i64.wrap (i + minI n (IntKind.i64.wrap (↑l.length - i))) = i + minI n (↑l.length - i) := by rw [w1]; exact w64 (by unfold minI; split <;> omega) (by unfold minI; split <;> omega)
    have w3 : 0 ≤ minI n (↑l.length - i) ∧ i + minI n (↑l.length - i) ≤ l.length := by unfold minI; split <;> omega
    refine gFs [.f, .f, .f] rfl (ret_of rfl ?_ trivial trivial)
    (rw [w2]; simp only [tle, look, cutO, if_neg hc]; first | exact .inl (congrArg T.s (cut_min l i n (by omega) (by omega) (by omega))) | exact congrArg T.s (cut_min l i n (by omega) (by omega) (by omega)) | trace_state)
theorem spCut (l : List UInt8) (a b : Int) (ha : sp a) (hb : sp b) (h : a ≤ b) (hl : b ≤ l.length) (hm : (l.length : Int) ≤ 9223372036854775807) : Ret P (C ml) 132 [.s l, xs a b] (.s (cutO l a (b - a))) := by
  refine hR Tryz.func132 ?_
  have k1 := spMay (ml := ml) a b ha hb
  rw [decide_eq_true h] at k1
  have k2 := spTo (ml := ml) a b ha hb h
  have k3 := spFrom (ml := ml) a b ha hb h
  have w1 : IntKind.i64.wrap (b - a) = b - a := w64 (by have := ha.1; have := hb.2; omega) (by have := ha.1; have := hb.2; omega)
  have k4 := oCut (ml := ml) l a (b - a) hm (by have := ha.2; omega) (by have := ha.1; have := hb.2; omega)
  rw [← w1] at k4
  refine gFs [cc k1, .f, cc k2, .f, cc k3, cc k2, cc k3, cc k4] rfl (ret_of rfl ?_ trivial trivial)
  (first | (simp [tle, look, w1]; done) | trace_state)
end Go.Proofs.YtipomdmlkkifcaaGreatDoor.Vm
/- Contracts: octets.Put, Get; clavigerref01.Put. -/
set_option maxRecDepth 100000
namespace Go.Proofs.YtipomdmlkkifcaaGreatDoor.Vm
open Go Go.Proofs Go.RowKit Go.Proofs.YtipomdmlkkifcaaGreatDoor.Flt
variable {ml : Int}
/-- A number's bytes. -/
def putL (n : Nat) : Nat → List UInt8
  | 0 => []
  | k + 1 => UInt8.ofNat (n / 256 ^ k) :: putL n k
theorem putL_length (n : Nat) : ∀ k, (putL n k).length = k
  | 0 => rfl
  | k + 1 => by simp [putL, putL_length n k]
theorem rPut (n : Nat) (w : Int) (hn : n < 18446744073709551616) : Ret P (C ml) 89 [.i .u64 n, .i .i64 w] (.s (if w < 1 ∨ w > 8 then [] else putL n w.toNat)) := by
  refine hR Tryz.func89 ?_
  by_cases hw : w < 1 ∨ w > 8
  · rcases Bool.eq_false_or_eq_true (decide (w < 1)) with c1 | c1
    · have d1 := c1; (try simp at d1)
      refine gFs [.t] rfl (ret_of rfl ?_ trivial trivial)
      simp [tle, if_pos hw]
    · have d1 := c1; (try simp at d1)
      refine gFs [.f, .t] rfl (ret_of rfl ?_ trivial trivial)
      simp [tle, if_pos hw]
  · obtain ⟨W, rfl⟩ : ∃ W : Nat, w = W := ⟨w.toNat, by omega⟩
    refine gRs [.f, .f] rfl ?_
    refine g_loop (fun k : Nat => [(0, .i .u64 (n / 256 ^ k : Nat)), (1, .i .i64 W), (5, .s (putL n k)), (6, .i .i64 k)]) (fun _ => []) (fun k => k ≤ W) (fun k => W - k) 0 ⟨⟨by show T.i _ _ = T.i _ _; simp, rfl, rfl, rfl, trivial⟩, trivial, trivial⟩ (by omega) ?_
    intro k h1
    by_cases hk : k < W
    · have hl := putL_length n k
      have hp : putL n (k + 1) = UInt8.ofNat (n / 256 ^ k) :: putL n k := rfl
      have hq : n / 256 ^ (k + 1) = n / 256 ^ k / 256 := by rw [Nat.pow_succ, Nat.div_div_eq_div_mul]
      have hm : n / 256 ^ k < 18446744073709551616 := Nat.lt_of_le_of_lt (Nat.div_le_self _ _) hn
      generalize n / 256 ^ k = m at *
      have f1 : IntKind.u8.wrap ((m : Int).tmod 256) = ((UInt8.ofNat m).toNat : Int) := by
        rw [Int.tmod_eq_emod_of_nonneg (by omega), wrap_u8]; simp
      have f2 : IntKind.u64.wrap ((m : Int).tdiv 256) = ((m / 256 : Nat) : Int) := by
        rw [Int.tdiv_eq_ediv_of_nonneg (by omega), wrap_u64]; omega
      have hb : [T.i .u8 (IntKind.u8.wrap ((m : Int).tmod 256))] = bytesT [UInt8.ofNat m] := by simp [bytesT, f1]
      refine gFs [.t, ldb hb] rfl (rd_next (k + 1) (by omega) (by omega) ⟨?_, rfl, ?_, ?_, trivial⟩ trivial trivial)
      all_goals (simp_all [tle, look]; try omega)
    · refine gFs [.f] rfl (rd_exit rfl ?_)
      refine gFs [] rfl (ret_of rfl ?_ trivial trivial)
      (have e : k = W := by omega); subst e; simp [tle, look, if_neg hw]
theorem putL_zero (n : Nat) (k i : Nat) (h : i < k) : (bytesT (List.replicate (k - i) 0 ++ putL n i)).set (k - 1 - i) (.i .u8 ((UInt8.ofNat (n / 256 ^ i)).toNat)) = bytesT (List.replicate (k - (i + 1)) 0 ++ putL n (i + 1)) := by
  obtain ⟨j, hj⟩ : ∃ j, k - i = j + 1 := ⟨k - i - 1, by omega⟩
  have h1 : k - 1 - i = j := by omega
  have h2 : k - (i + 1) = j := by omega
  rw [hj, h1, h2, List.replicate_succ', putL]
  simp only [bytesT, List.map_append, List.append_assoc]
  rw [List.set_append_right _ _ (by simp)]
  simp
theorem pPut (n : Nat) (w : Int) (hn : n < 18446744073709551616) : Ret P (C ml) 85 [.i .u64 n, .i .i64 w] (.s (if w < 1 ∨ w > 8 then [] else putL n w.toNat)) := by
  refine hR Tryz.func85 ?_
  by_cases hw : w < 1 ∨ w > 8
  · rcases Bool.eq_false_or_eq_true (decide (w < 1)) with c1 | c1
    · have d1 := c1; (try simp at d1)
      refine gFs [.t] rfl (ret_of rfl ?_ trivial trivial)
      simp [tle, if_pos hw]
    · have d1 := c1; (try simp at d1)
      refine gFs [.f, .t] rfl (ret_of rfl ?_ trivial trivial)
      simp [tle, if_pos hw]
  · obtain ⟨W, rfl⟩ : ∃ W : Nat, w = W := ⟨w.toNat, by omega⟩
    refine gRs [.f, .f] rfl ?_
    refine g_loop (fun i : Nat => [(0, .i .u64 n), (1, .i .i64 W), (5, .p 5 0 0), (13, .i .i64 i)]) (fun i => [(5, 0, .row true 1 (bytesT (List.replicate (8 - i) 0 ++ putL n i)))]) (fun i => i ≤ 8) (fun i => 8 - i) 0 ⟨⟨rfl, rfl, ⟨rfl, rfl, rfl, rfl⟩, rfl, trivial⟩, ⟨⟨rfl, rfl, trivial⟩, trivial⟩, trivial⟩ (by omega) ?_
    intro i h1
    by_cases hk : i < 8
    · have hs := putL_zero n 8 i hk
      have hz : (tin (C ml) 5).size = 1 := rfl
      have g1 : IntKind.i64.wrap (8 * (i : Int)) = 8 * (i : Int) := w64 (by omega) (by omega)
      have g2 : IntKind.i64.wrap (7 - (i : Int)) = 7 - (i : Int) := w64 (by omega) (by omega)
      have g3 : min (8 * (i : Int)).toNat IntKind.u64.bits = 8 * i := by show min _ 64 = _; omega
      have g4 : (n : Int).fdiv (2 ^ (8 * i)) = ((n / 256 ^ i : Nat) : Int) := by
        have : (2 : Int) ^ (8 * i) = ((256 ^ i : Nat) : Int) := by rw [Int.pow_mul]; simp
        rw [this, Int.fdiv_eq_ediv_of_nonneg _ (Int.natCast_nonneg _)]; rfl
      have g5 : IntKind.u8.wrap ((n / 256 ^ i : Nat) : Int) = ((UInt8.ofNat (n / 256 ^ i)).toNat : Int) := by rw [wrap_u8]; simp
      refine g_fin tab_ok mixed 3000 [.t] rfl (by simp only [AllR, g1, g2, g3, g4, g5, hz]; exact ⟨decide_eq_true (by omega), by omega, ⟨by omega, by omega⟩, by simp [bytesT, putL_length]; omega, trivial⟩) (rd_next (i + 1) (by omega) (by omega) ⟨rfl, rfl, ⟨rfl, rfl, rfl, rfl⟩, ?_, trivial⟩ ⟨⟨rfl, ?_, trivial⟩, trivial⟩ trivial)
      · show T.i _ _ = T.i _ _
        rw [w64 (by omega) (by omega)]; simp
      · simp only [g1, g2, g3, g4, g5, hz]
        have e : 0 + (7 - (i : Int)).toNat * 1 = 8 - 1 - i := by omega
        rw [e]
        exact hs
    · have e : i = 8 := by omega
      subst e
      have g6 : IntKind.i64.wrap (8 - (W : Int)) = 8 - (W : Int) := w64 (by omega) (by omega)
      have hz : (tin (C ml) 5).size = 1 := rfl
      have hd : ∀ j, j ≤ 8 → (putL n 8).drop (8 - j) = putL n j := by
        intro j hj
        obtain rfl | rfl | rfl | rfl | rfl | rfl | rfl | rfl | rfl : j = 0 ∨ j = 1 ∨ j = 2 ∨ j = 3 ∨ j = 4 ∨ j = 5 ∨ j = 6 ∨ j = 7 ∨ j = 8 := by omega
        all_goals rfl
      have hb : (((bytesT (List.replicate (8 - 8) 0 ++ putL n 8)).drop (0 + (IntKind.i64.wrap (8 - (W : Int))).toNat * (tin (C ml) 5).size)).take ((((8 : Nat) : Int).toNat - (IntKind.i64.wrap (8 - (W : Int))).toNat) * szOf (1 : Mk))) = bytesT (putL n W) := by
        rw [g6, hz]
        have e1 : 0 + (8 - (W : Int)).toNat * 1 = 8 - W := by omega
        have e2 : (((8 : Nat) : Int).toNat - (8 - (W : Int)).toNat) * szOf (1 : Mk) = W := by show (8 - _) * 1 = _; omega
        rw [e1, e2]
        simp only [bytesT, Nat.sub_self, List.replicate_zero, List.nil_append, ← List.map_drop]
        rw [hd W (by omega), List.take_of_length_le (by simp [putL_length])]
      refine gFs [.f] rfl (rd_exit rfl ?_)
      refine g_fin tab_ok mixed 3000 [ldb hb] rfl ⟨⟨by rw [g6]; omega, by rw [g6]; omega, by omega, by simp [bytesT, putL_length, hz]⟩, ⟨hb, by rw [putL_length, g6]; omega⟩, trivial⟩ (ret_of rfl ?_ trivial trivial)
      simp [tle, look, if_neg hw]
/-- The number that bytes are. -/
def getN (l : List UInt8) : Nat := l.foldl (fun a c => a * 256 + c.toNat) 0
theorem getN_lt (l : List UInt8) : getN l < 256 ^ l.length := by
  unfold getN
  rw [← List.reverse_reverse l]
  generalize l.reverse = r
  induction r with
  | nil => simp
  | cons c r ih =>
    simp only [List.reverse_cons, List.foldl_append, List.foldl_cons, List.foldl_nil, List.length_append, List.length_cons, List.length_nil] at ih ⊢
    have := c.toNat_lt
    rw [Nat.pow_succ]
    omega
theorem getN_take (l : List UInt8) (i : Nat) (h : i < l.length) : getN (l.take (i + 1)) = getN (l.take i) * 256 + (l.getD i 0).toNat := by
  unfold getN
  rw [take_succ_getD l i h, List.foldl_append]; rfl
theorem pGet (l : List UInt8) (hl : (l.length : Int) ≤ 9223372036854775807) : Ret P (C ml) 168 [.s l] (.tup [.i .u64 (if l.length = 0 ∨ l.length > 8 then 0 else getN l : Nat), .b (decide (¬ (l.length = 0 ∨ l.length > 8)))]) := by
  refine hR Tryz.func168 ?_
  by_cases hc : l.length = 0 ∨ l.length > 8
  · rw [if_pos hc, decide_eq_false (not_not_intro hc)]
    rcases hc with hc | hc
    · refine gFs [.t] rfl (ret_of rfl ?_ trivial trivial)
      simp [tle, tleL, look]
    · rcases Bool.eq_false_or_eq_true ((↑l.length : Int) == 0) with c1 | c1
      · have d1 := c1; (try simp at d1)
        refine gFs [.t] rfl (ret_of rfl ?_ trivial trivial)
        simp [tle, tleL, look]
      · have d1 := c1; (try simp at d1)
        refine gFs [.f, .t] rfl (ret_of rfl ?_ trivial trivial)
        simp [tle, tleL, look]
  · rw [if_neg hc, decide_eq_true hc]
    refine gRs [.f, .f] rfl ?_
    refine g_loop (fun i : Nat => [(0, .s l), (4, .i .u64 (getN (l.take i))), (15, .i .i64 l.length), (16, .i .i64 i)]) (fun _ => []) (fun i => i ≤ l.length) (fun i => l.length - i) 0 ⟨⟨rfl, rfl, rfl, rfl, trivial⟩, trivial, trivial⟩ (by omega) ?_
    intro i h1
    by_cases hi : i < l.length
    · have hg := getN_take l i hi
      have hb := getN_lt (l.take i)
      have hb2 := getN_lt (l.take (i + 1))
      have e1 : bt l i = ((l.getD i 0).toNat : Int) := rfl
      have hn := (l.getD i 0).toNat_lt
      rw [List.length_take, Nat.min_eq_left (by omega)] at hb
      have hp : (256 : Nat) ^ i * 256 ≤ 18446744073709551616 := by
        have : (256 : Nat) ^ i ≤ 256 ^ 7 := Nat.pow_le_pow_right (by decide) (by omega)
        have : (256 : Nat) ^ 7 = 72057594037927936 := by decide
        omega
      have hM : getN (l.take i) * 256 + 256 ≤ 18446744073709551616 := by
        have : (getN (l.take i) + 1) * 256 ≤ 256 ^ i * 256 := Nat.mul_le_mul_right _ hb
        omega
      generalize getN (l.take i) = M at *
      generalize (l.getD i 0).toNat = c at *
      have g1 : IntKind.u64.wrap ((M : Int) * 2 ^ (min (Int.toNat 8) IntKind.u64.bits)) = ((M * 256 : Nat) : Int) := by
        show IntKind.u64.wrap ((M : Int) * 256) = _
        rw [wrap_u64]; omega
      have g2 : IntKind.u64.wrap (c : Int) = (c : Int) := by rw [wrap_u64]; omega
      have g3 : bitsI .or .u64 ((M * 256 : Nat) : Int) (c : Int) = ((M * 256 + c : Nat) : Int) := by
        have := bitsI_or .u64 (M * 256) c (by show _ < 2 ^ 64; omega) (by show _ < 2 ^ 64; omega)
        rw [this, wrap_u64]
        have e : M * 256 ||| c = M * 256 + c := by
          have := Nat.shiftLeft_add_eq_or_of_lt (show c < 2 ^ 8 from hn) M
          rw [Nat.shiftLeft_eq] at this; exact this.symm
        rw [e]; omega
      refine gFs [.t] rfl (rd_next (i + 1) (by omega) (by omega) ⟨rfl, ?_, rfl, ?_, trivial⟩ trivial trivial)
      · (show T.i _ _ = T.i _ _); rw [e1, g2, g1, g3, hg]
      · show T.i _ _ = T.i _ _
        rw [w64 (by omega) (by omega)]; simp
    · refine gFs [.f] rfl (rd_exit rfl ?_)
      refine gFs [] rfl (ret_of rfl ?_ trivial trivial)
      (have e : i = l.length := by omega); subst e; simp [tle, tleL, look]
end Go.Proofs.YtipomdmlkkifcaaGreatDoor.Vm
/- Contracts: option.all, may, hex, Encode; clavigerref32.may, Encode. -/
set_option maxRecDepth 100000
namespace Go.Proofs.YtipomdmlkkifcaaGreatDoor.Vm
open Go Go.Proofs Go.RowKit Go.Proofs.YtipomdmlkkifcaaGreatDoor.Flt
variable {ml : Int}
/-- The signs of an option's name, and of its data. -/
def idc (c : UInt8) : Bool := decide ((65 ≤ c.toNat ∧ c.toNat ≤ 90) ∨ (48 ≤ c.toNat ∧ c.toNat ≤ 57))
def sgc (c : UInt8) : Bool := decide (32 ≤ c.toNat ∧ c.toNat ≤ 126)
theorem pId (c : UInt8) : Ret P (C ml) 297 [.i .u8 c.toNat] (.b (idc c)) := by
  refine hR Tryz.func297 ?_
  unfold idc
  rcases Bool.eq_false_or_eq_true (decide ((↑c.toNat : Int) ≥ 65)) with c1 | c1
  · have d1 := c1; (try simp at d1)
    rcases Bool.eq_false_or_eq_true (decide ((↑c.toNat : Int) ≤ 90)) with c2 | c2
    · have d2 := c2; (try simp at d2)
      refine gFs [.t, .t] rfl (ret_of rfl ?_ trivial trivial)
      first | exact .inl (congrArg T.b (by rw [Bool.eq_iff_iff]; simp; omega)) | exact .inr (congrArg T.bl (by rw [Bool.eq_iff_iff]; simp; omega))
    · have d2 := c2; (try simp at d2)
      refine gFs [.t, .f, .t] rfl (ret_of rfl ?_ trivial trivial)
      first | exact .inl (congrArg T.b (by rw [Bool.eq_iff_iff]; simp; omega)) | exact .inr (congrArg T.bl (by rw [Bool.eq_iff_iff]; simp; omega))
  · have d1 := c1; (try simp at d1)
    rcases Bool.eq_false_or_eq_true (decide ((↑c.toNat : Int) ≥ 48)) with c2 | c2
    · have d2 := c2; (try simp at d2)
      refine gFs [.f, .t] rfl (ret_of rfl ?_ trivial trivial)
      first | exact .inl (congrArg T.b (by rw [Bool.eq_iff_iff]; simp; omega)) | exact .inr (congrArg T.bl (by rw [Bool.eq_iff_iff]; simp; omega))
    · have d2 := c2; (try simp at d2)
      refine gFs [.f, .f] rfl (ret_of rfl ?_ trivial trivial)
      first | exact .inl (congrArg T.b (by rw [Bool.eq_iff_iff]; simp; omega)) | exact .inr (congrArg T.bl (by rw [Bool.eq_iff_iff]; simp; omega))
theorem pSign (c : UInt8) : Ret P (C ml) 298 [.i .u8 c.toNat] (.b (sgc c)) := by
  refine hR Tryz.func298 ?_
  unfold sgc
  rcases Bool.eq_false_or_eq_true (decide ((↑c.toNat : Int) ≥ 32)) with c1 | c1
  · have d1 := c1; (try simp at d1)
    refine gFs [.t] rfl (ret_of rfl ?_ trivial trivial)
    first | exact .inl (congrArg T.b (by rw [Bool.eq_iff_iff]; simp; omega)) | exact .inr (congrArg T.bl (by rw [Bool.eq_iff_iff]; simp; omega))
  · have d1 := c1; (try simp at d1)
    refine gFs [.f] rfl (ret_of rfl ?_ trivial trivial)
    first | exact .inl (congrArg T.b (by rw [Bool.eq_iff_iff]; simp; omega)) | exact .inr (congrArg T.bl (by rw [Bool.eq_iff_iff]; simp; omega))
theorem all_take (s : List UInt8) (q : UInt8 → Bool) (i : Nat) (h : i < s.length) (h2 : q (s.getD i 0) = false) : s.all q = false := by
  rw [List.all_eq_false]
  rw [getD_at _ _ h] at h2
  exact ⟨s[i], List.getElem_mem h, by simp [h2]⟩
theorem all_done (s : List UInt8) (q : UInt8 → Bool) (h : ∀ i, i < s.length → q (s.getD i 0) = true) : s.all q = true := by
  rw [List.all_eq_true]
  intro x hx
  obtain ⟨i, hi, rfl⟩ := List.getElem_of_mem hx
  have := h i hi
  rwa [getD_at _ _ hi] at this
theorem pAll (s : List UInt8) (f : Nat) (q : UInt8 → Bool) (hs : s.length ≤ 9000) (hq : ∀ c : UInt8, Ret P (C ml) f [.i .u8 c.toNat] (.b (q c))) : Ret P (C ml) 299 [.s s, .fn (.func f) [] []] (.b (s.all q)) := by
  refine hR Tryz.func299 ?_
  refine gRs [] rfl ?_
  refine g_loop (fun i : Nat => [(0, .s s), (1, .fn (.func f) [] []), (7, .i .i64 s.length), (8, .i .i64 i)]) (fun _ => []) (fun i => i ≤ s.length ∧ ∀ j, j < i → q (s.getD j 0) = true) (fun i => s.length - i) 0 ⟨⟨rfl, ?_, rfl, rfl, trivial⟩, trivial, trivial⟩ ⟨by omega, by omega⟩ ?_
  · simp [tle, tleL, look, enumA]
  rintro i ⟨h1, h2⟩
  by_cases hi : i < s.length
  · have k := hq (s.getD i 0)
    by_cases hc : q (s.getD i 0) = true
    · rw [hc] at k
      refine gFs [.t, cc k, .f] rfl (rd_next (i + 1) ⟨by omega, ?_⟩ (by omega) ⟨rfl, ?_, rfl, ?_, trivial⟩ trivial trivial)
      · intro j hj
        rcases Nat.lt_or_ge j i with h | h
        · exact h2 j h
        · rw [show j = i by omega]; exact hc
      · simp [tle, tleL, look]
      · simp [look, tle]; omega
    · have hc := Bool.not_eq_true _ |>.mp hc
      rw [hc] at k
      refine gFs [.t, cc k, .t] rfl (rd_ret (ret_of rfl ?_ trivial trivial))
      rw [all_take s q i hi hc]
      simp [tle, look]
  · have e : i = s.length := by omega
    subst e
    rw [all_done s q h2]
    refine gFs [.f] rfl (rd_exit rfl ?_)
    refine gFs [] rfl (ret_of rfl ?_ trivial trivial)
    simp [tle, look]
/-- May an option be. -/
def optOk (id d : List UInt8) : Bool := id.length == 2 && decide (d.length ≤ 9000) && id.all idc && d.all sgc
theorem pMay (id d : List UInt8) : Ret P (C ml) 252 [.agg [.s id, .s d]] (.b (optOk id d)) := by
  refine hR Tryz.func252 ?_
  by_cases h1 : id.length = 2
  · have k1 := pAll (ml := ml) id _ idc (by omega) pId
    by_cases h2 : d.length ≤ 9000
    · have k2 := pAll (ml := ml) d _ sgc h2 pSign
      have e : optOk id d = (id.all idc && d.all sgc) := by simp [optOk, h1, h2]
      rw [e]
      clear e
      generalize id.all idc = u at *
      generalize d.all sgc = v at *
      rcases Bool.eq_false_or_eq_true (u) with c1 | c1
      · have d1 := c1; (try simp at d1)
        refine gFs [.t, .t, cc k1, .t, cc k2] rfl (ret_of rfl ?_ trivial trivial)
        simp_all [tle, look]
      · have d1 := c1; (try simp at d1)
        refine gFs [.t, .t, cc k1, .f] rfl (ret_of rfl ?_ trivial trivial)
        simp_all [tle, look]
    · have e : optOk id d = false := by simp [optOk, h1, h2]
      rw [e]
      refine gFs [.t, .f] rfl (ret_of rfl ?_ trivial trivial)
      simp_all [tle, look]
  · have e : optOk id d = false := by simp [optOk, h1]
    rw [e]
    refine gFs [.f] rfl (ret_of rfl ?_ trivial trivial)
    simp_all [tle, look]
/-- An option's signs. -/
def optEnc (id d : List UInt8) : List UInt8 := if optOk id d then (if d.length + 4 < 256 then id ++ hexs (putL (d.length + 4) 1) ++ d else id ++ [48, 48, 48, 52] ++ hexs (putL (d.length + 10) 2) ++ d) else []
theorem pHex (n w : Nat) (hn : n < 1000000000) (hw : 1 ≤ w ∧ w ≤ 8) : Ret P (C ml) 262 [.i .i64 n, .i .i64 w] (.s (hexs (putL n w))) := by
  refine hR Tryz.func262 ?_
  have k1 := pPut (ml := ml) n w (by omega)
  rw [if_neg (by omega)] at k1
  have e : IntKind.u64.wrap (n : Int) = n := by rw [wrap_u64]; omega
  rw [← e] at k1
  have k2 := dHex (ml := ml) (putL n w) (by rw [putL_length]; omega)
  refine gFs [cc k1, cc k2] rfl (ret_of rfl ?_ trivial trivial)
  simp [tle, look]
theorem pOEnc (id d : List UInt8) : Ret P (C ml) 214 [.agg [.s id, .s d]] (.tup [.s (optEnc id d), .i .i64 (if optOk id d then 0 else 5)]) := by
  refine hR Tryz.func214 ?_
  have k1 := pMay (ml := ml) id d
  unfold optEnc
  rcases Bool.eq_false_or_eq_true (optOk id d) with h | h
  · rw [h] at k1
    have h0 : id.length = 2 ∧ d.length ≤ 9000 := by simp [optOk] at h; exact ⟨h.1.1.1, h.1.1.2⟩
    simp only [h, if_true]
    have w1 : IntKind.i64.wrap ((d.length : Int) + 4) = ((d.length + 4 : Nat) : Int) := by rw [w64 (by omega) (by omega)]; simp
    have w2 : IntKind.i64.wrap ((d.length : Int) + 10) = ((d.length + 10 : Nat) : Int) := by rw [w64 (by omega) (by omega)]; simp
    have k2 := pHex (ml := ml) (d.length + 4) 1 (by omega) (by omega)
    have k3 := pHex (ml := ml) (d.length + 10) 2 (by omega) (by omega)
    rw [← w1] at k2
    rw [← w2] at k3
    have hl1 : (hexs (putL (d.length + 4) 1)).length = 2 := by rw [hexs_length, putL_length]
    have hl2 : (hexs (putL (d.length + 10) 2)).length = 4 := by rw [hexs_length, putL_length]
    by_cases hc : d.length + 4 < 256
    · rw [if_pos hc]
      refine gFs [cc k1, .f, .t, cc k2] rfl (ret_of rfl ?_ trivial trivial)
      simp [tle, tleL, look]
    · rw [if_neg hc]
      refine gFs [cc k1, .f, .f, cc k3] rfl (ret_of rfl ?_ trivial trivial)
      simp [tle, tleL, look]
  · rw [h] at k1
    simp only [h]
    refine gFs [cc k1, .t] rfl (ret_of rfl ?_ trivial trivial)
    simp [tle, tleL, look]
end Go.Proofs.YtipomdmlkkifcaaGreatDoor.Vm
/- Contracts: clavigerref32.may, Encode. -/
set_option maxRecDepth 100000
namespace Go.Proofs.YtipomdmlkkifcaaGreatDoor.Vm
open Go Go.Proofs Go.RowKit Go.Proofs.YtipomdmlkkifcaaGreatDoor.Flt
variable {ml : Int}
theorem ext_lt {p : Nat → Prop} {i : Nat} (h : ∀ j, j < i → p j) (hi : p i) : ∀ j, j < i + 1 → p j := fun j hj => by
  rcases Nat.lt_or_ge j i with h2 | h2
  · exact h j h2
  · rw [show j = i by omega]; exact hi
theorem optOk_id {id d : List UInt8} (i : Nat) (h : i < id.length) (h2 : idc (id.getD i 0) = false) : optOk id d = false := by
  unfold optOk; rw [all_take id idc i h h2]; simp
theorem rMay (id d : List UInt8) : Ret P (C ml) 230 [.agg [.s id, .s d]] (.b (optOk id d)) := by
  refine hR Tryz.func230 ?_
  by_cases h1 : id.length = 2
  · by_cases h2 : d.length ≤ 9000
    · refine gRs [.f, .f] rfl ?_
      refine g_loop (fun i : Nat => [(1, .p 1 0 0), (3, .i .i64 i)]) (fun _ => [(1, 0, .row false (.cell 177) [.s id, .s d])]) (fun i => i ≤ 2 ∧ ∀ j, j < i → idc (id.getD j 0) = true) (fun i => 2 - i) 0 ⟨⟨⟨rfl, rfl, rfl, rfl⟩, rfl, trivial⟩, ⟨⟨rfl, rfl, rfl, rfl, rfl⟩, trivial⟩, trivial⟩ ⟨by omega, by omega⟩ ?_
      rintro i ⟨i1, i2⟩
      by_cases hi : i < 2
      · have hb : bt id i = ((id.getD i 0).toNat : Int) := rfl
        by_cases hc : idc (id.getD i 0) = true
        · have hd : (65 ≤ (id.getD i 0).toNat ∧ (id.getD i 0).toNat ≤ 90) ∨ (48 ≤ (id.getD i 0).toNat ∧ (id.getD i 0).toNat ≤ 57) := by simpa [idc] using hc
          generalize hx : (id.getD i 0).toNat = x at *
          rcases Bool.eq_false_or_eq_true (decide (bt id (↑i : Int) < 65)) with c1 | c1
          · have d1 := c1; (try simp at d1)
            refine gFs [.t, .t, .f, .f] rfl (rd_next (i + 1) ⟨by omega, ext_lt i2 hc⟩ (by omega) ⟨⟨rfl, rfl, rfl, rfl⟩, ?_, trivial⟩ ⟨⟨rfl, rfl, rfl, rfl, rfl⟩, trivial⟩ trivial)
            (simp [look, tle]; omega)
          · have d1 := c1; (try simp at d1)
            refine gFs [.t, .f, .f] rfl (rd_next (i + 1) ⟨by omega, ext_lt i2 hc⟩ (by omega) ⟨⟨rfl, rfl, rfl, rfl⟩, ?_, trivial⟩ ⟨⟨rfl, rfl, rfl, rfl, rfl⟩, trivial⟩ trivial)
            (simp [look, tle]; omega)
        · have hc := Bool.not_eq_true _ |>.mp hc
          rw [optOk_id i (by omega) hc]
          have hd : ¬ ((65 ≤ (id.getD i 0).toNat ∧ (id.getD i 0).toNat ≤ 90) ∨ (48 ≤ (id.getD i 0).toNat ∧ (id.getD i 0).toNat ≤ 57)) := by simpa only [idc, decide_eq_false_iff_not] using hc
          generalize hx : (id.getD i 0).toNat = x at *
          rcases Bool.eq_false_or_eq_true (decide (bt id (↑i : Int) < 65)) with c1 | c1
          · have d1 := c1; (try simp at d1)
            rcases Bool.eq_false_or_eq_true (decide (bt id (↑i : Int) < 48)) with c2 | c2
            · have d2 := c2; (try simp at d2)
              refine gFs [.t, .t, .t] rfl (rd_ret (ret_of rfl ?_ trivial trivial))
              simp [look, tle]
            · have d2 := c2; (try simp at d2)
              refine gFs [.t, .t, .f, .t] rfl (rd_ret (ret_of rfl ?_ trivial trivial))
              simp [look, tle]
          · have d1 := c1; (try simp at d1)
            refine gFs [.t, .f, .t, .f, .t] rfl (rd_ret (ret_of rfl ?_ trivial trivial))
            simp [look, tle]
      · have hid : id.all idc = true := all_done id idc fun j hj => i2 j (by omega)
        refine gFs [.f] rfl (rd_exit rfl ?_)
        refine gRs [] rfl ?_
        refine g_loop (fun i : Nat => [(1, .p 1 0 0), (5, .i .i64 i)]) (fun _ => [(1, 0, .row false (.cell 177) [.s id, .s d])]) (fun i => i ≤ d.length ∧ ∀ j, j < i → sgc (d.getD j 0) = true) (fun i => d.length - i) 0 ⟨⟨⟨rfl, rfl, rfl, rfl⟩, rfl, trivial⟩, ⟨⟨rfl, rfl, rfl, rfl, rfl⟩, trivial⟩, trivial⟩ ⟨by omega, by omega⟩ ?_
        clear i2 i1 hi i
        rintro i ⟨i1, i2⟩
        by_cases hi : i < d.length
        · have hb : bt d i = ((d.getD i 0).toNat : Int) := rfl
          by_cases hc : sgc (d.getD i 0) = true
          · have hd : (32 ≤ (d.getD i 0).toNat ∧ (d.getD i 0).toNat ≤ 126) := by simpa [sgc] using hc
            generalize hx : (d.getD i 0).toNat = x at *
            refine gFs [.t, .f, .f] rfl (rd_next (i + 1) ⟨by omega, ext_lt i2 hc⟩ (by omega) ⟨⟨rfl, rfl, rfl, rfl⟩, ?_, trivial⟩ ⟨⟨rfl, rfl, rfl, rfl, rfl⟩, trivial⟩ trivial)
            (simp [look, tle]; omega)
          · have hc := Bool.not_eq_true _ |>.mp hc
            have e : optOk id d = false := by unfold optOk; rw [all_take d sgc i hi hc]; simp
            rw [e]
            have hd : ¬ (32 ≤ (d.getD i 0).toNat ∧ (d.getD i 0).toNat ≤ 126) := by simpa only [sgc, decide_eq_false_iff_not] using hc
            generalize hx : (d.getD i 0).toNat = x at *
            rcases Bool.eq_false_or_eq_true (decide (bt d (↑i : Int) < 32)) with c1 | c1
            · have d1 := c1; (try simp at d1)
              refine gFs [.t, .t] rfl (rd_ret (ret_of rfl ?_ trivial trivial))
              simp [look, tle]
            · have d1 := c1; (try simp at d1)
              refine gFs [.t, .f, .t] rfl (rd_ret (ret_of rfl ?_ trivial trivial))
              simp [look, tle]
        · have e : i = d.length := by omega
          subst e
          have e : optOk id d = true := by unfold optOk; rw [hid, all_done d sgc i2]; simp [h1, h2]
          rw [e]
          refine gFs [.f] rfl (rd_exit rfl ?_)
          refine gFs [] rfl (ret_of rfl ?_ trivial trivial)
          simp [look, tle]
    · have e : optOk id d = false := by simp [optOk, h1, h2]
      rw [e]
      refine gFs [.f, .t] rfl (ret_of rfl ?_ trivial trivial)
      simp_all [tle, look]
  · have e : optOk id d = false := by simp [optOk, h1]
    rw [e]
    refine gFs [.t] rfl (ret_of rfl ?_ trivial trivial)
    simp_all [tle, look]
theorem rOEnc (id d : List UInt8) : Ret P (C ml) 158 [.agg [.s id, .s d]] (.tup [.s (optEnc id d), .i .i64 (if optOk id d then 0 else 5)]) := by
  refine hR Tryz.func158 ?_
  have k1 := rMay (ml := ml) id d
  unfold optEnc
  rcases Bool.eq_false_or_eq_true (optOk id d) with h | h
  · rw [h] at k1
    have h0 : id.length = 2 ∧ d.length ≤ 9000 := by simp [optOk] at h; exact ⟨h.1.1.1, h.1.1.2⟩
    simp only [h, if_true]
    have w1 : IntKind.u64.wrap (IntKind.i64.wrap ((d.length : Int) + 4)) = ((d.length + 4 : Nat) : Int) := by rw [w64 (by omega) (by omega), wrap_u64]; omega
    have w2 : IntKind.u64.wrap (IntKind.i64.wrap ((d.length : Int) + 10)) = ((d.length + 10 : Nat) : Int) := by rw [w64 (by omega) (by omega), wrap_u64]; omega
    have k2 := rPut (ml := ml) (d.length + 4) 1 (by omega)
    have k3 := rPut (ml := ml) (d.length + 10) 2 (by omega)
    rw [if_neg (by omega), ← w1] at k2
    rw [if_neg (by omega), ← w2] at k3
    have hl1 : (hexs (putL (d.length + 4) 1)).length = 2 := by rw [hexs_length, putL_length]
    have hl2 : (hexs (putL (d.length + 10) 2)).length = 4 := by rw [hexs_length, putL_length]
    have k4 := hex02 (ml := ml) (putL (d.length + 4) (1 : Int).toNat) (by rw [putL_length]; decide)
    have k5 := hex02 (ml := ml) (putL (d.length + 10) (2 : Int).toNat) (by rw [putL_length]; decide)
    by_cases hc : d.length + 4 < 256
    · rw [if_pos hc]
      refine gFs [cc k1, .f, .t, cc k2, cc k4] rfl (ret_of rfl ?_ trivial trivial)
      simp [tle, tleL, look]
    · rw [if_neg hc]
      refine gFs [cc k1, .f, .f, cc k3, cc k5] rfl (ret_of rfl ?_ trivial trivial)
      simp [tle, tleL, look]
  · rw [h] at k1
    simp only [h]
    refine gFs [cc k1, .t] rfl (ret_of rfl ?_ trivial trivial)
    simp [tle, tleL, look]
end Go.Proofs.YtipomdmlkkifcaaGreatDoor.Vm
/- Contracts: option.number, clavigerref32.number. -/
set_option maxRecDepth 100000
namespace Go.Proofs.YtipomdmlkkifcaaGreatDoor.Vm
open Go Go.Proofs Go.RowKit Go.Proofs.YtipomdmlkkifcaaGreatDoor.Flt
variable {ml : Int}
/-- What digits to the base 16 say; 0: there are none. -/
def numP (s : List UInt8) : Nat := match unhexO s with | some b => getN b | none => 0
theorem pNumber (s : List UInt8) (hs : s.length ≤ 8) : Ret P (C ml) 251 [.s s] (.i .i64 (numP s)) := by
  refine hR Tryz.func251 ?_
  have k1 := dUnhex (ml := ml) s (by omega)
  unfold numP
  cases hu : unhexO s with
  | none =>
    rw [hu] at k1
    have k2 := pGet (ml := ml) [] (by simp)
    refine gFs [cc k1, cc k2] rfl (ret_of rfl ?_ trivial trivial)
    simp [tle, look]
  | some b =>
    rw [hu] at k1
    have hb := hexs_unhexO s b hu
    have hl := hexs_length b
    rw [hb] at hl
    have k2 := pGet (ml := ml) b (by omega)
    have hg := getN_lt b
    have hp : (256 : Nat) ^ b.length ≤ 256 ^ 4 := Nat.pow_le_pow_right (by decide) (by omega)
    have h4 : (256 : Nat) ^ 4 = 4294967296 := by decide
    by_cases h0 : b.length = 0
    · have : b = [] := List.length_eq_zero_iff.1 h0
      subst this
      refine gFs [cc k1, cc k2] rfl (ret_of rfl ?_ trivial trivial)
      simp [tle, look, getN]
    · rw [if_neg (by omega)] at k2
      have e : IntKind.i64.wrap (getN b : Int) = getN b := w64 (by omega) (by omega)
      refine gFs [cc k1, cc k2] rfl (ret_of rfl ?_ trivial trivial)
      (show T.i _ _ = T.i _ _); rw [e]
/-- Digits to the base 16, one behind the other. -/
def hexN (l : List UInt8) : Option Nat := l.foldl (fun a c => a.bind fun v => if hexv c.toNat < 0 then none else some (16 * v + (hexv c.toNat).toNat)) (some 0)
theorem hexN_take (l : List UInt8) (i : Nat) (h : i < l.length) : hexN (l.take (i + 1)) = (hexN (l.take i)).bind fun v => if hexv (l.getD i 0).toNat < 0 then none else some (16 * v + (hexv (l.getD i 0).toNat).toNat) := by
  unfold hexN
  rw [take_succ_getD l i h, List.foldl_append]; rfl
theorem hexN_none (l : List UInt8) (k : Nat) (h : hexN (l.take k) = none) : hexN l = none := by
  rw [← List.take_append_drop k l]
  unfold hexN at h ⊢
  rw [List.foldl_append, h]
  generalize l.drop k = r
  induction r with
  | nil => rfl
  | cons c r ih => simpa using ih
/-- What clavigerref32.number gives. -/
def numR (s : List UInt8) (a n : Nat) : Int := if a + n > s.length then -1 else match hexN ((s.drop a).take n) with | some v => (v : Int) | none => -1
theorem rNumber (s : List UInt8) (a n : Nat) (hn : n ≤ 8) (ha : a ≤ 100) (hs : s.length ≤ 1000000) : Ret P (C ml) 208 [.s s, .i .i64 a, .i .i64 n] (.i .i64 (numR s a n)) := by
  refine hR Tryz.func208 ?_
  unfold numR
  have w1 : IntKind.i64.wrap ((a : Int) + n) = ((a + n : Nat) : Int) := by rw [w64 (by omega) (by omega)]; simp
  by_cases h0 : a + n > s.length
  · rw [if_pos h0]
    have c0 : decide (IntKind.i64.wrap ((a : Int) + n) > (s.length : Int)) = true := decide_eq_true (by rw [w1]; omega)
    refine gFs [.t] rfl (ret_of rfl ?_ trivial trivial)
    simp [tle, look]
  · rw [if_neg h0]
    have c0 : decide (IntKind.i64.wrap ((a : Int) + n) > (s.length : Int)) = false := decide_eq_false (by rw [w1]; omega)
    refine gRs [.f] rfl ?_
    have hll : ((s.drop a).take n).length = n := by simp; omega
    have hget : ∀ j, j < n → s.getD (a + j) 0 = ((s.drop a).take n).getD j 0 := by
      intro j hj
      rw [getD_at _ _ (by omega), getD_at _ _ (by omega)]; simp
    generalize hl : (s.drop a).take n = l at *
    refine g_loop (fun x : Nat × Nat => [(0, .s s), (1, .i .i64 a), (2, .i .i64 n), (7, .i .i64 x.2), (8, .i .i64 (a + x.1 : Nat))]) (fun _ => []) (fun x => x.1 ≤ n ∧ hexN (l.take x.1) = some x.2 ∧ x.2 < 16 ^ x.1) (fun x => n - x.1) (0, 0) ⟨⟨rfl, rfl, rfl, rfl, rfl, trivial⟩, trivial, trivial⟩ ⟨by omega, rfl, by decide⟩ ?_
    rintro ⟨j, v⟩ ⟨h1, h2, h3⟩
    simp only at h1 h2 h3 ⊢
    have hp : (16 : Nat) ^ j ≤ 16 ^ 8 := Nat.pow_le_pow_right (by decide) (by omega)
    have h4 : (16 : Nat) ^ 8 = 4294967296 := by decide
    by_cases hi : j < n
    · have ht := hexN_take l j (by omega)
      rw [h2] at ht
      have hb : bt s ((a + j : Nat) : Int) = ((l.getD j 0).toNat : Int) := by rw [← hget j hi]; rfl
      have k1 := value02 (ml := ml) ((l.getD j 0).toNat : Int)
      have hx := hexv_lo ((l.getD j 0).toNat : Int)
      have hy := hexv_hi ((l.getD j 0).toNat : Int)
      rw [← hb] at k1
      have c1 : decide (((a + j : Nat) : Int) < IntKind.i64.wrap ((a : Int) + n)) = true := decide_eq_true (by rw [w1]; omega)
      by_cases hc : hexv (l.getD j 0).toNat < 0
      · have hN : hexN l = none := hexN_none l (j + 1) (by rw [ht, Option.bind_some, if_pos hc])
        rw [hN]
        have c2 : decide (hexv (bt s ((a + j : Nat) : Int)) < 0) = true := decide_eq_true (by rw [hb]; exact hc)
        refine gFs [.t, cc k1, .t] rfl (rd_ret (ret_of rfl ?_ trivial trivial))
        simp [tle, look]
      · have c2 : decide (hexv (bt s ((a + j : Nat) : Int)) < 0) = false := decide_eq_false (by rw [hb]; exact hc)
        have e1 : IntKind.i64.wrap (16 * (v : Int)) = 16 * (v : Int) := w64 (by omega) (by omega)
        have hpow : (16 : Nat) ^ (j + 1) = 16 ^ j * 16 := Nat.pow_succ 16 j
        refine gFs [.t, cc k1, .f] rfl (rd_next (j + 1, 16 * v + (hexv (l.getD j 0).toNat).toNat) ⟨by simp only; omega, by rw [ht, Option.bind_some, if_neg hc], by simp only; omega⟩ (by simp only; omega) ⟨rfl, rfl, rfl, ?_, ?_, trivial⟩ trivial trivial)
        all_goals ((show T.i _ _ = T.i _ _); congr 1; (try rw [hb, e1]); rw [w64 (by omega) (by omega)]; (try simp only); omega)
    · have e : j = n := by omega
      subst e
      have c1 : decide (((a + j : Nat) : Int) < IntKind.i64.wrap ((a : Int) + j)) = false := decide_eq_false (by rw [w1]; omega)
      have hN : hexN l = some v := by rw [← h2, List.take_of_length_le (by omega)]
      rw [hN]
      refine gFs [.f] rfl (rd_exit rfl ?_)
      refine gFs [] rfl (ret_of rfl ?_ trivial trivial)
      simp [tle, look]
end Go.Proofs.YtipomdmlkkifcaaGreatDoor.Vm
/- Contracts: option.Decode, clavigerref32.Decode. -/
set_option maxRecDepth 100000
namespace Go.Proofs.YtipomdmlkkifcaaGreatDoor.Vm
open Go Go.Proofs Go.RowKit Go.Proofs.YtipomdmlkkifcaaGreatDoor.Flt
variable {ml : Int}
theorem cutO_length (l : List UInt8) (i n : Int) (k : Nat) (h : n ≤ k) : (cutO l i n).length ≤ k := by
  unfold cutO
  split
  · simp
  · simp; omega
theorem numP_lt (s : List UInt8) (h : s.length ≤ 8) : numP s < 4294967296 := by
  unfold numP
  split
  · rename_i b hu
    have hb := hexs_unhexO s b hu
    have hl := hexs_length b
    rw [hb] at hl
    have hg := getN_lt b
    have hp : (256 : Nat) ^ b.length ≤ 256 ^ 4 := Nat.pow_le_pow_right (by decide) (by omega)
    have h4 : (256 : Nat) ^ 4 = 4294967296 := by decide
    omega
  · decide
/-- An option from its beginning and its end. -/
def oFrom (s : List UInt8) (begin size : Nat) : Option (List UInt8 × List UInt8 × Nat) :=
  if begin ≤ size ∧ size ≤ s.length ∧ optOk (s.take 2) ((s.drop begin).take (size - begin)) = true then some (s.take 2, (s.drop begin).take (size - begin), size) else none
/-- An option that is read. -/
def oDec (s : List UInt8) : Option (List UInt8 × List UInt8 × Nat) :=
  if Lib.hasPrefix (cutO s 2 8) [48, 48, 48, 52] = true then (if numP (Lib.trimPrefix (cutO s 2 8) [48, 48, 48, 52]) < 262 then none else oFrom s 10 (numP (Lib.trimPrefix (cutO s 2 8) [48, 48, 48, 52]))) else oFrom s 4 (numP (cutO s 2 2))
def oTup (o : Option (List UInt8 × List UInt8 × Nat)) : T := match o with
  | some (a, b, n) => .tup [.agg [.s a, .s b], .i .i64 n, .i .i64 0]
  | none => .tup [.agg [.s [], .s []], .i .i64 0, .i .i64 5]
theorem sp_ret {P : Program} {C : Ctx} {nt : Nat} {kp : List Nat} {Φ : APost} {k : List Item} {c : Code} : ∀ {n : Nat} {e : Env} {h : Heap} {ds : Ds}, Φ .ret e h ds → SP P C nt kp Φ k c n .ret e h ds
  | 0, _, _, _, g => g
  | _ + 1, _, _, _, g => g
theorem rODec0 (s : List UInt8) (b z : Nat) (hb : b = 4 ∨ b = 10) : Ret P (C ml) 252 [.agg [.s ((s.take 2).drop 0), .s ((s.take z).drop b)]] (.b (optOk (s.take 2) ((s.drop b).take (z - b)))) := by
  rw [← List.drop_take]; exact pMay _ _
theorem pODec (s : List UInt8) (hs : s.length ≤ 1000000) : Ret P (C ml) 201 [.s s] (oTup (oDec s)) := by
  refine hR Tryz.func201 ?_
  have k1 := oCut (ml := ml) s 2 2 (by omega) (by omega) (by omega)
  have k2 := pNumber (ml := ml) (cutO s 2 2) (cutO_length s 2 2 8 (by omega))
  have k3 := oCut (ml := ml) s 2 8 (by omega) (by omega) (by omega)
  have k4 := cutPrefix (ml := ml) (cutO s 2 8) [48, 48, 48, 52]
  have l4 : (Lib.trimPrefix (cutO s 2 8) [48, 48, 48, 52]).length ≤ 8 := by
    have := cutO_length s 2 8 8 (by omega)
    unfold Lib.trimPrefix; split
    · simp; omega
    · exact this
  have k5 := pNumber (ml := ml) (Lib.trimPrefix (cutO s 2 8) [48, 48, 48, 52]) l4
  have b1 := numP_lt _ l4
  have b2 := numP_lt _ (cutO_length s 2 2 8 (by omega))
  unfold oDec oFrom
  generalize Lib.trimPrefix (cutO s 2 8) [48, 48, 48, 52] = q at *
  generalize Lib.hasPrefix (cutO s 2 8) [48, 48, 48, 52] = hp at *
  generalize numP q = z1 at *
  generalize numP (cutO s 2 2) = z2 at *
  have k6 := rODec0 (ml := ml) s 4 z2 (by omega)
  have k7 := rODec0 (ml := ml) s 10 z1 (by omega)
  generalize optOk (s.take 2) ((s.drop 4).take (z2 - 4)) = o1 at *
  generalize optOk (s.take 2) ((s.drop 10).take (z1 - 10)) = o2 at *
  have d1 := List.drop_take (i := 4) (j := z2) (l := s)
  have d2 := List.drop_take (i := 10) (j := z1) (l := s)
  refine g_run tab_ok mixed 3000 [] rfl trivial ?_
  refine g_scope 1 ?_
  rcases Bool.eq_false_or_eq_true hp with h | h
  · by_cases hz : z1 < 262
    · rw [h, if_pos rfl, if_pos hz]
      refine gFs [cc k1, cc k2, cc k3, cc k4, .t, cc k5, .t] rfl ?_
      refine ⟨_, rfl, ?_⟩
      refine gFs [] rfl (sp_ret (ret_of rfl ?_ trivial trivial))
      simp [tle, tleL, look, oTup, noRefL, noRef, both]
    · rw [h, if_pos rfl, if_neg hz]
      rcases Bool.eq_false_or_eq_true (decide ((↑z1 : Int) ≤ (↑s.length : Int))) with c1 | c1
      · have d1 := c1; (try simp at d1)
        rcases Bool.eq_false_or_eq_true (o2) with c2 | c2
        · have d2 := c2; (try simp at d2)
          refine gFs [cc k1, cc k2, cc k3, cc k4, .t, cc k5, .f, .t, .t, cc k7, .t] rfl (sp_ret (ret_of rfl ?_ trivial trivial))
          ((first | rw [if_pos (⟨by omega, by omega, by assumption⟩ : _ ∧ _ ∧ _)] | rw [if_neg (by intro hh; obtain ⟨hh1, hh2, hh3⟩ := hh; first | omega | simp_all)]); simp_all [tle, tleL, look, oTup, noRefL, noRef, both])
        · have d2 := c2; (try simp at d2)
          refine gFs [cc k1, cc k2, cc k3, cc k4, .t, cc k5, .f, .t, .t, cc k7, .f] rfl (sp_ret (ret_of rfl ?_ trivial trivial))
          ((first | rw [if_pos (⟨by omega, by omega, by assumption⟩ : _ ∧ _ ∧ _)] | rw [if_neg (by intro hh; obtain ⟨hh1, hh2, hh3⟩ := hh; first | omega | simp_all)]); simp_all [tle, tleL, look, oTup, noRefL, noRef, both])
      · have d1 := c1; (try simp at d1)
        refine gFs [cc k1, cc k2, cc k3, cc k4, .t, cc k5, .f, .t, .f] rfl (sp_ret (ret_of rfl ?_ trivial trivial))
        ((first | rw [if_pos (⟨by omega, by omega, by assumption⟩ : _ ∧ _ ∧ _)] | rw [if_neg (by intro hh; obtain ⟨hh1, hh2, hh3⟩ := hh; first | omega | simp_all)]); simp_all [tle, tleL, look, oTup, noRefL, noRef, both])
  · rw [h, if_neg (by decide)]
    rcases Bool.eq_false_or_eq_true (decide ((↑z2 : Int) ≥ 4)) with c1 | c1
    · have d1 := c1; (try simp at d1)
      rcases Bool.eq_false_or_eq_true (decide ((↑z2 : Int) ≤ (↑s.length : Int))) with c2 | c2
      · have d2 := c2; (try simp at d2)
        rcases Bool.eq_false_or_eq_true (o1) with c3 | c3
        · have d3 := c3; (try simp at d3)
          refine gFs [cc k1, cc k2, cc k3, cc k4, .f, .t, .t, cc k6, .t] rfl (sp_ret (ret_of rfl ?_ trivial trivial))
          ((first | rw [if_pos (⟨by omega, by omega, by assumption⟩ : _ ∧ _ ∧ _)] | rw [if_neg (by intro hh; obtain ⟨hh1, hh2, hh3⟩ := hh; first | omega | simp_all)]); simp_all [tle, tleL, look, oTup, noRefL, noRef, both])
        · have d3 := c3; (try simp at d3)
          refine gFs [cc k1, cc k2, cc k3, cc k4, .f, .t, .t, cc k6, .f] rfl (sp_ret (ret_of rfl ?_ trivial trivial))
          ((first | rw [if_pos (⟨by omega, by omega, by assumption⟩ : _ ∧ _ ∧ _)] | rw [if_neg (by intro hh; obtain ⟨hh1, hh2, hh3⟩ := hh; first | omega | simp_all)]); simp_all [tle, tleL, look, oTup, noRefL, noRef, both])
      · have d2 := c2; (try simp at d2)
        refine gFs [cc k1, cc k2, cc k3, cc k4, .f, .t, .f] rfl (sp_ret (ret_of rfl ?_ trivial trivial))
        ((first | rw [if_pos (⟨by omega, by omega, by assumption⟩ : _ ∧ _ ∧ _)] | rw [if_neg (by intro hh; obtain ⟨hh1, hh2, hh3⟩ := hh; first | omega | simp_all)]); simp_all [tle, tleL, look, oTup, noRefL, noRef, both])
    · have d1 := c1; (try simp at d1)
      refine gFs [cc k1, cc k2, cc k3, cc k4, .f, .f] rfl (sp_ret (ret_of rfl ?_ trivial trivial))
      ((first | rw [if_pos (⟨by omega, by omega, by assumption⟩ : _ ∧ _ ∧ _)] | rw [if_neg (by intro hh; obtain ⟨hh1, hh2, hh3⟩ := hh; first | omega | simp_all)]); simp_all [tle, tleL, look, oTup, noRefL, noRef, both])
end Go.Proofs.YtipomdmlkkifcaaGreatDoor.Vm
/- Contracts: clavigerref32.Decode. -/
set_option maxRecDepth 100000
namespace Go.Proofs.YtipomdmlkkifcaaGreatDoor.Vm
open Go Go.Proofs Go.RowKit Go.Proofs.YtipomdmlkkifcaaGreatDoor.Flt
variable {ml : Int}
/-- The same, as the document says it: written again, it must be the same. -/
def oFromR (s : List UInt8) (b : Nat) (z : Int) : Option (List UInt8 × List UInt8 × Nat) :=
  if z < b ∨ z > s.length then none
  else if optOk (s.take 2) ((s.drop b).take (z.toNat - b)) = true then
    (if optEnc (s.take 2) ((s.drop b).take (z.toNat - b)) == s.take z.toNat then some (s.take 2, (s.drop b).take (z.toNat - b), z.toNat) else none)
  else none
def oDecR (s : List UInt8) : Option (List UInt8 × List UInt8 × Nat) :=
  if numR s 2 2 = 0 then oFromR s 10 (numR s 6 4) else oFromR s 4 (numR s 2 2)
theorem rODec1 (s : List UInt8) (b : Nat) (z : Int) : Ret P (C ml) 158 [.agg [.s ((s.take 2).drop 0), .s ((s.take z.toNat).drop b)]] (.tup [.s (optEnc (s.take 2) ((s.drop b).take (z.toNat - b))), .i .i64 (if optOk (s.take 2) ((s.drop b).take (z.toNat - b)) then 0 else 5)]) := by
  rw [← List.drop_take]; exact rOEnc _ _
theorem rODec (s : List UInt8) (hs : s.length ≤ 1000000) : Ret P (C ml) 137 [.s s] (oTup (oDecR s)) := by
  refine hR Tryz.func137 ?_
  have k1 := rNumber (ml := ml) s 2 2 (by omega) (by omega) hs
  have k2 := rNumber (ml := ml) s 6 4 (by omega) (by omega) hs
  unfold oDecR oFromR
  generalize numR s 2 2 = z2 at *
  generalize numR s 6 4 = z1 at *
  have k3 := rODec1 (ml := ml) s 4 z2
  have k4 := rODec1 (ml := ml) s 10 z1
  generalize optOk (s.take 2) ((s.drop 4).take (z2.toNat - 4)) = o1 at *
  generalize optOk (s.take 2) ((s.drop 10).take (z1.toNat - 10)) = o2 at *
  generalize optEnc (s.take 2) ((s.drop 4).take (z2.toNat - 4)) = e1 at *
  generalize optEnc (s.take 2) ((s.drop 10).take (z1.toNat - 10)) = e2 at *
  by_cases h : z2 = 0
  · rw [if_pos h]
    by_cases hz : z1 < (10 : Nat) ∨ z1 > s.length
    · rw [if_pos hz]
      rcases hz with hz | hz
      · refine gFs [cc k1, .t, cc k2, .t] rfl (ret_of rfl ?_ trivial trivial)
        simp [tle, tleL, look, oTup, noRefL, noRef, both]
      · rcases Bool.eq_false_or_eq_true (decide (z1 < 10)) with c1 | c1
        · have d1 := c1; (try simp at d1)
          refine gFs [cc k1, .t, cc k2, .t] rfl (ret_of rfl ?_ trivial trivial)
          simp [tle, tleL, look, oTup, noRefL, noRef, both]
        · have d1 := c1; (try simp at d1)
          refine gFs [cc k1, .t, cc k2, .f, .t] rfl (ret_of rfl ?_ trivial trivial)
          simp [tle, tleL, look, oTup, noRefL, noRef, both]
    · rw [if_neg hz]
      rcases Bool.eq_false_or_eq_true o2 with ho | ho
      · rw [ho, if_pos rfl]
        rw [ho] at k4
        rcases Bool.eq_false_or_eq_true (e2 == s.take z1.toNat) with hq | hq
        · rw [hq, if_pos rfl]
          refine gFs [cc k1, .t, cc k2, .f, .f, cc k4, .f, .f] rfl (ret_of rfl ?_ trivial trivial)
          (simp_all [tle, tleL, look, oTup, noRefL, noRef, both, List.drop_take]; try omega)
        · rw [hq, if_neg (by decide)]
          refine gFs [cc k1, .t, cc k2, .f, .f, cc k4, .f, .t] rfl (ret_of rfl ?_ trivial trivial)
          (simp_all [tle, tleL, look, oTup, noRefL, noRef, both, List.drop_take]; try omega)
      · rw [ho, if_neg (by decide)]
        rw [ho] at k4
        refine gFs [cc k1, .t, cc k2, .f, .f, cc k4, .t] rfl (ret_of rfl ?_ trivial trivial)
        (simp_all [tle, tleL, look, oTup, noRefL, noRef, both, List.drop_take]; try omega)
  · rw [if_neg h]
    by_cases hz : z2 < (4 : Nat) ∨ z2 > s.length
    · rw [if_pos hz]
      rcases hz with hz | hz
      · refine gFs [cc k1, .f, .t] rfl (ret_of rfl ?_ trivial trivial)
        simp [tle, tleL, look, oTup, noRefL, noRef, both]
      · rcases Bool.eq_false_or_eq_true (decide (z2 < 4)) with c1 | c1
        · have d1 := c1; (try simp at d1)
          refine gFs [cc k1, .f, .t] rfl (ret_of rfl ?_ trivial trivial)
          simp [tle, tleL, look, oTup, noRefL, noRef, both]
        · have d1 := c1; (try simp at d1)
          refine gFs [cc k1, .f, .f, .t] rfl (ret_of rfl ?_ trivial trivial)
          simp [tle, tleL, look, oTup, noRefL, noRef, both]
    · rw [if_neg hz]
      rcases Bool.eq_false_or_eq_true o1 with ho | ho
      · rw [ho, if_pos rfl]
        rw [ho] at k3
        rcases Bool.eq_false_or_eq_true (e1 == s.take z2.toNat) with hq | hq
        · rw [hq, if_pos rfl]
          refine gFs [cc k1, .f, .f, .f, cc k3, .f, .f] rfl (ret_of rfl ?_ trivial trivial)
          (simp_all [tle, tleL, look, oTup, noRefL, noRef, both, List.drop_take]; try omega)
        · rw [hq, if_neg (by decide)]
          refine gFs [cc k1, .f, .f, .f, cc k3, .f, .t] rfl (ret_of rfl ?_ trivial trivial)
          (simp_all [tle, tleL, look, oTup, noRefL, noRef, both, List.drop_take]; try omega)
      · rw [ho, if_neg (by decide)]
        rw [ho] at k3
        refine gFs [cc k1, .f, .f, .f, cc k3, .t] rfl (ret_of rfl ?_ trivial trivial)
        (simp_all [tle, tleL, look, oTup, noRefL, noRef, both, List.drop_take]; try omega)
end Go.Proofs.YtipomdmlkkifcaaGreatDoor.Vm
