/- Texts of one proof, gathered: Option10 Option11 Option12 PlainA UnpackL Join. -/
import Derived.Test.YtipomdmlkkifcaaGreatDoorPart12
import Derived.Test.YtipomdmlkkifcaaGreatDoorPart10
import Derived.Test.YtipomdmlkkifcaaGreatDoorPart6
set_option linter.unusedSimpArgs false
set_option linter.unusedVariables false
set_option linter.unnecessarySimpa false
/- Contracts: option.Pack's closure, slices.IndexFunc and ContainsFunc with it. -/
set_option maxRecDepth 100000
namespace Go.Proofs.YtipomdmlkkifcaaGreatDoor.Vm
open Go Go.Proofs Go.RowKit Go.Proofs.YtipomdmlkkifcaaGreatDoor.Flt
variable {ml : Int}
/-- The cell of the option that is asked for. -/
abbrev oCell (a b : List UInt8) : Heap := [(7, 0, .row false (.cell 235) [.s a, .s b])]
theorem pTwice (x y a b : List UInt8) : HRet P (C ml) 216 [.agg [.s x, .s y], .p 7 0 0] (oCell a b) (.b (x == a)) (oCell a b) := by
  refine hR Tryz.func216 ?_
  refine gFs [] rfl (ret_of rfl ?_ ?_ ?_)
  · simp [tle]
  · exact ⟨⟨rfl, rfl, ⟨by simp [tle], ⟨by simp [tle], rfl⟩⟩⟩, trivial⟩
  · exact ⟨rfl, trivial⟩
/-- Where the first one lies that bears a name; -1: nowhere. -/
def idxOf (l : List Opt) (a : List UInt8) : Int := if (l.any fun x => x.1 == a) then (l.findIdx fun x => x.1 == a : Nat) else -1
theorem idx_hit (l : List Opt) (a : List UInt8) (i : Nat) (h : i < l.length) (h1 : ∀ j, j < i → ((l.getD j ([], [])).1 == a) = false) (h2 : ((l.getD i ([], [])).1 == a) = true) : idxOf l a = i := by
  unfold idxOf
  rw [getD_at _ _ h] at h2
  rw [if_pos (List.any_eq_true.2 ⟨l[i], List.getElem_mem h, h2⟩)]
  have : (l.findIdx fun x => x.1 == a) = i := by
    rw [List.findIdx_eq h]
    refine ⟨h2, fun j hj => ?_⟩
    have := h1 j hj
    rwa [getD_at _ _ (by omega)] at this
  rw [this]
theorem idx_none (l : List Opt) (a : List UInt8) (h1 : ∀ j, j < l.length → ((l.getD j ([], [])).1 == a) = false) : idxOf l a = -1 := by
  unfold idxOf
  rw [if_neg]
  intro h
  obtain ⟨x, hx, he⟩ := List.any_eq_true.1 h
  obtain ⟨j, hj, rfl⟩ := List.getElem_of_mem hx
  have := h1 j hj
  rw [getD_at _ _ hj, he] at this
  cases this
theorem pIndex (l : List Opt) (hl : l.length ≤ 1000) (a b : List UInt8) : HRet P (C ml) 263 [.sl l.length (optCells l), .fn (.func 216) [] [.p 7 0 0]] (oCell a b) (.i .i64 (idxOf l a)) (oCell a b) := by
  refine hR Tryz.func263 ?_
  refine gRs [] rfl ?_
  refine g_loop (fun i : Nat => [(0, .sl l.length (optCells l)), (1, .fn (.func 216) [] [.p 7 0 0]), (7, .i .i64 l.length), (8, .i .i64 i)]) (fun _ => oCell a b) (fun i => i ≤ l.length ∧ ∀ j, j < i → ((l.getD j ([], [])).1 == a) = false) (fun i => l.length - i) 0 ⟨⟨rfl, ?_, rfl, rfl, trivial⟩, ⟨⟨rfl, rfl, ⟨by simp [tle], ⟨by simp [tle], rfl⟩⟩⟩, trivial⟩, ?_⟩ ⟨by omega, by omega⟩ ?_
  · exact ⟨rfl, rfl, ⟨rfl, rfl, rfl, rfl⟩, rfl⟩
  · exact ⟨rfl, trivial⟩
  rintro i ⟨i1, i2⟩
  by_cases hi : i < l.length
  · have h2 := optCells_two l i hi
    have k1 := pTwice (ml := ml) (l.getD i ([], [])).1 (l.getD i ([], [])).2 a b
    rcases Bool.eq_false_or_eq_true ((l.getD i ([], [])).1 == a) with hm | hm
    · rw [idx_hit l a i hi i2 hm]
      rw [hm] at k1
      refine gFs [.t, ldv h2, ch k1, .t] rfl (rd_ret (ret_of rfl ?_ ?_ ?_))
      · simp [tle, look]
      · exact ⟨⟨rfl, rfl, ⟨by simp [tle], ⟨by simp [tle], rfl⟩⟩⟩, trivial⟩
      · exact ⟨rfl, trivial⟩
    · rw [hm] at k1
      refine gFs [.t, ldv h2, ch k1, .f] rfl (rd_next (i + 1) ⟨by omega, ext_lt i2 hm⟩ (by omega) ⟨rfl, ?_, rfl, ?_, trivial⟩ ⟨⟨rfl, rfl, ⟨by simp [tle], ⟨by simp [tle], rfl⟩⟩⟩, trivial⟩ ?_)
      · exact ⟨rfl, rfl, ⟨rfl, rfl, rfl, rfl⟩, rfl⟩
      · simp [look, tle]; omega
      · exact ⟨rfl, trivial⟩
  · have ei : i = l.length := by omega
    subst ei
    rw [idx_none l a i2]
    refine gFs [.f] rfl (rd_exit rfl ?_)
    refine gFs [] rfl (ret_of rfl ?_ ?_ ?_)
    · simp [tle, look]
    · exact ⟨⟨rfl, rfl, ⟨by simp [tle], ⟨by simp [tle], rfl⟩⟩⟩, trivial⟩
    · exact ⟨rfl, trivial⟩
theorem idx_any (l : List Opt) (a : List UInt8) : decide (idxOf l a ≥ 0) = (l.any fun x => x.1 == a) := by
  unfold idxOf
  rcases Bool.eq_false_or_eq_true (l.any fun x => x.1 == a) with h | h
  · rw [h, if_pos rfl]; exact decide_eq_true (Int.natCast_nonneg _)
  · rw [h, if_neg (by decide)]; rfl
theorem pContains (l : List Opt) (hl : l.length ≤ 1000) (a b : List UInt8) : HRet P (C ml) 215 [.sl l.length (optCells l), .fn (.func 216) [] [.p 7 0 0]] (oCell a b) (.b (l.any fun x => x.1 == a)) (oCell a b) := by
  refine hR Tryz.func215 ?_
  have k1 := pIndex (ml := ml) l hl a b
  rw [← idx_any]
  refine gFs [ch k1] rfl (ret_of rfl ?_ ?_ ?_)
  · simp [tle, look]
  · exact ⟨⟨rfl, rfl, ⟨by simp [tle], ⟨by simp [tle], rfl⟩⟩⟩, trivial⟩
  · exact ⟨rfl, trivial⟩
end Go.Proofs.YtipomdmlkkifcaaGreatDoor.Vm
/- Contracts: clavigerref32.Pack of no options. -/
set_option maxRecDepth 100000
namespace Go.Proofs.YtipomdmlkkifcaaGreatDoor.Vm
open Go Go.Proofs Go.RowKit Go.Proofs.YtipomdmlkkifcaaGreatDoor.Flt
variable {ml : Int}
theorem rPackNil : Ret P (C ml) 92 [.nsl] (.tup [.s [], .i .i64 0, .i .i64 0]) := by
  refine hR Tryz.func92 ?_
  have k1 : Ret P (C ml) 159 [.i .i64 0] (.s []) := rPadding (ml := ml) 0 (by omega)
  refine gRs [] rfl ?_
  refine g_loop (fun _ : Nat => [(0, .nsl), (5, .s []), (6, .i .i64 0)]) (fun _ => []) (fun i => i = 0) (fun _ => 0) 0 ⟨⟨rfl, rfl, rfl, trivial⟩, trivial, trivial⟩ rfl ?_
  rintro i rfl
  refine gFs [.f] rfl (rd_exit rfl ?_)
  refine gFs [cc k1, .f, .f, .f] rfl (ret_of rfl ?_ trivial trivial)
  simp [tle, tleL, look]
end Go.Proofs.YtipomdmlkkifcaaGreatDoor.Vm
/- Contracts: option.Pack. -/
set_option maxRecDepth 100000
namespace Go.Proofs.YtipomdmlkkifcaaGreatDoor.Vm
open Go Go.Proofs Go.RowKit Go.Proofs.YtipomdmlkkifcaaGreatDoor.Flt
variable {ml : Int}
theorem optEnc_ne {id d : List UInt8} (h : optOk id d = true) : optEnc id d ≠ [] := by
  intro e
  have e2 := congrArg List.length e
  unfold optEnc at e2
  rw [if_pos h] at e2
  unfold optOk at h
  simp only [Bool.and_eq_true, beq_iff_eq] at h
  have h2 := h.1.1.1
  split at e2 <;> simp only [List.length_append, List.length_nil] at e2 <;> omega
/-- The heap of Pack's loop. -/
def pkHeap (l : List Opt) : Nat → Heap
  | 0 => [(5, oB 0 [.np, .nsl])]
  | i + 1 => [(5, oB 0 [.p 5 0 0, .ref 1000 0 0 (encAll (l.take (i + 1))).length]), (1000, oR 0 (encAll (l.take (i + 1))))]
theorem pkHeap_zero (l : List Opt) {i : Nat} (h : i = 0) : pkHeap l i = [(5, oB 0 [.np, .nsl])] := by subst h; rfl
theorem pkHeap_pos (l : List Opt) {i : Nat} (h : 0 < i) : pkHeap l i = [(5, oB 0 [.p 5 0 0, .ref 1000 0 0 (encAll (l.take i)).length]), (1000, oR 0 (encAll (l.take i)))] := by
  cases i with
  | zero => omega
  | succ i => rfl
theorem pContainsT (l : List Opt) (hl : l.length ≤ 1000) (i : Nat) (hi : i < l.length) (a b : List UInt8) : HRet P (C ml) 215 [.sl i ((optCells l).take (i * 2)), .fn (.func 216) [] [.p 7 0 0]] (oCell a b) (.b ((l.take i).any fun x => x.1 == a)) (oCell a b) := by
  have k := pContains (ml := ml) (l.take i) (by rw [List.length_take]; omega) a b
  rw [List.length_take, Nat.min_eq_left (by omega)] at k
  rw [optCells_take]; exact k
theorem pPack (l : List Opt) (hl : l.length ≤ 1000) : Ret P (C ml) 146 [.sl l.length (optCells l)] (.tup [.s (packL l).1, .i .i64 (packL l).2.1, .i .i64 (packL l).2.2]) := by
  refine hR Tryz.func146 ?_
  refine gRs [] rfl ?_
  refine g_loop (fun i : Nat => [(0, .sl l.length (optCells l)), (5, .p 5 0 0), (13, .sl l.length (optCells l)), (14, .i .i64 l.length), (15, .i .i64 i)]) (fun i => pkHeap l i) (fun i => i ≤ l.length ∧ ∀ j, j < i → optGood l j = true) (fun i => l.length - i) 0 ⟨?_, ?_, ?_⟩ ⟨by omega, by omega⟩ ?_
  · ((repeat' first | rfl | exact True.intro | apply And.intro); all_goals (simp [tle, look]; try omega))
  · ((repeat' first | rfl | exact True.intro | apply And.intro); all_goals (simp [tle, look]; try omega))
  · ((repeat' first | rfl | exact True.intro | apply And.intro); all_goals (simp [tle, look]; try omega))
  rintro i ⟨i1, i2⟩
  by_cases hi : i < l.length
  · have h2 := optCells_two l i hi
    have het := encAll_take l i hi
    have k1 := pOEnc (ml := ml) (l.getD i ([], [])).1 (l.getD i ([], [])).2
    have k2 := pContainsT (ml := ml) l hl i hi (l.getD i ([], [])).1 (l.getD i ([], [])).2
    have hg0 : optGood l i = false → packL l = ([], 0, 5) := fun h => by unfold packL; rw [packOk_bad l i hi h]; rfl
    have hgd : optGood l i = (optOk (l.getD i ([], [])).1 (l.getD i ([], [])).2 && !((l.getD i ([], [])).1 == [80, 66]) && !((l.take i).any fun x => x.1 == (l.getD i ([], [])).1)) := rfl
    have hlen := encAll_le (l.take i)
    rw [List.length_take, Nat.min_eq_left (by omega)] at hlen
    generalize hid : (l.getD i ([], [])).1 = id at *
    generalize hd : (l.getD i ([], [])).2 = d at *
    have hle2 := optEnc_le id d
    generalize htw : ((l.take i).any fun x => x.1 == id) = tw at *
    rcases Bool.eq_false_or_eq_true (optOk id d) with ho | ho
    · rw [ho] at k1 hgd
      have hne := optEnc_ne ho
      rcases Bool.eq_false_or_eq_true (id == [80, 66]) with hq | hq
      · rw [hq] at hgd
        rw [hg0 (by rw [hgd]; simp)]
        rcases Nat.eq_zero_or_pos i with hz | hz
        · simp only [pkHeap_zero l hz]
          refine gFs [.t, ldv h2, cc k1, ch k2, .f, .t] rfl (rd_ret (ret_of rfl ?_ trivial trivial))
          simp [tle, tleL, look]
        · simp only [pkHeap_pos l hz]
          refine gFs [.t, ldv h2, cc k1, ch k2, .f, .t] rfl (rd_ret (ret_of rfl ?_ trivial trivial))
          simp [tle, tleL, look]
      · rw [hq] at hgd
        rcases Bool.eq_false_or_eq_true tw with ht | ht
        · rw [ht] at hgd k2
          rw [hg0 (by rw [hgd]; simp)]
          rcases Nat.eq_zero_or_pos i with hz | hz
          · simp only [pkHeap_zero l hz]
            refine gFs [.t, ldv h2, cc k1, ch k2, .t] rfl (rd_ret (ret_of rfl ?_ trivial trivial))
            simp [tle, tleL, look]
          · simp only [pkHeap_pos l hz]
            refine gFs [.t, ldv h2, cc k1, ch k2, .f, .f, .t] rfl (rd_ret (ret_of rfl ?_ trivial trivial))
            simp [tle, tleL, look]
        · rw [ht] at hgd k2
          have hgood : optGood l i = true := by rw [hgd]; simp
          rcases Nat.eq_zero_or_pos i with hz | hz
          · simp only [pkHeap_zero l hz]
            have h0e : encAll (l.take i) ++ optEnc id d = optEnc id d := by rw [hz]; rfl
            have w0 : HRet P (C ml) 71 [.p 5 0 0, .s (optEnc id d)] [(5, oB 0 [.np, .nsl])] (.tup [.i .i64 (optEnc id d).length, .nif]) [(5, oB 0 [.p 5 0 0, .ref 1000 0 0 (optEnc id d).length]), (1000, oR 0 (optEnc id d))] := wsFresh 5 1000 (by decide) (by decide) _ hne (by omega)
            refine gFs [.t, ldv h2, cc k1, ch k2, .f, .f, .f, ch w0] rfl (rd_next (i + 1) ⟨by omega, ext_lt i2 hgood⟩ (by omega) ?_ ?_ ?_)
            · ((repeat' first | rfl | exact True.intro | apply And.intro); all_goals (simp [tle, look]; try omega))
            · rw [pkHeap_pos l (Nat.succ_pos i), het, h0e]; ((repeat' first | rfl | exact True.intro | apply And.intro); all_goals (simp [tle, look]; try omega))
            · ((repeat' first | rfl | exact True.intro | apply And.intro); all_goals (simp [tle, look]; try omega))
          · simp only [pkHeap_pos l hz]
            have w1 : HRet P (C ml) 71 [.p 5 0 0, .s (optEnc id d)] [(5, oB 0 [.p 5 0 0, .ref 1000 0 0 (encAll (l.take i)).length]), (1000, oR 0 (encAll (l.take i)))] (.tup [.i .i64 (optEnc id d).length, .nif])
                [(5, oB 0 [.p 5 0 0, .ref 1000 1 0 ((encAll (l.take i)).length + (optEnc id d).length)]), (1000, oR 1 (encAll (l.take i) ++ optEnc id d))] := wsUsed 5 1000 (by decide) (by decide) _ _ (by omega) (by omega)
            refine gFs [.t, ldv h2, cc k1, ch k2, .f, .f, .f, ch w1] rfl (rd_next (i + 1) ⟨by omega, ext_lt i2 hgood⟩ (by omega) ?_ ?_ ?_)
            · ((repeat' first | rfl | exact True.intro | apply And.intro); all_goals (simp [tle, look]; try omega))
            · rw [pkHeap_pos l (Nat.succ_pos i), het, List.length_append]; ((repeat' first | rfl | exact True.intro | apply And.intro); all_goals (simp [tle, look]; try omega))
            · ((repeat' first | rfl | exact True.intro | apply And.intro); all_goals (simp [tle, look]; try omega))
    · rw [ho] at k1 hgd
      rw [hg0 (by rw [hgd]; simp)]
      rcases Nat.eq_zero_or_pos i with hz | hz
      · simp only [pkHeap_zero l hz]
        refine gFs [.t, ldv h2, cc k1, ch k2, .t] rfl (rd_ret (ret_of rfl ?_ trivial trivial))
        simp [tle, tleL, look]
      · simp only [pkHeap_pos l hz]
        refine gFs [.t, ldv h2, cc k1, ch k2, .t] rfl (rd_ret (ret_of rfl ?_ trivial trivial))
        simp [tle, tleL, look]
  · have ei : i = l.length := by omega
    subst ei
    have hle := encAll_le l
    have hg := packOk_all l i2
    rcases Nat.eq_zero_or_pos l.length with hz | hz
    · have k1 : Ret P (C ml) 217 [.i .i64 0] (.s []) := pPadding (ml := ml) 0 (by omega)
      have w0 := bLenF (ml := ml) 5
      have w1 := bsFresh (ml := ml) 5
      have hpk : packL l = ([], 0, 0) := by rw [List.length_eq_zero_iff.1 hz]; simp [packL, packOk, encAll, padL]
      rw [hpk]
      simp only [pkHeap_zero l hz]
      refine gFs [.f] rfl (rd_exit rfl ?_)
      refine gFs [ch w0, cc k1, .f, .f, ch w0, .f, ch w1] rfl (ret_of rfl ?_ trivial trivial)
      simp [tle, tleL, look, hz]
    · have k1 := pPadding (ml := ml) (encAll l).length (by omega)
      have hne : encAll l ≠ [] := by
        have h0 := i2 0 hz
        unfold optGood at h0
        simp only [Bool.and_eq_true] at h0
        have h1 := optEnc_ne h0.1.1
        have h2 := encAll_take l 0 hz
        intro e
        have h3 : encAll l = encAll (l.take (0 + 1)) ++ encAll (l.drop (0 + 1)) := by
          unfold encAll; rw [← List.flatMap_append, List.take_append_drop]
        rw [e, h2] at h3
        have h3 := h3.symm
        simp only [List.append_eq_nil_iff] at h3
        exact h1 h3.1.2
      have hp9 : (padL (encAll l).length).length ≤ 9010 := by
        unfold padL; split
        · simp
        · exact optEnc_le _ _
      simp only [pkHeap_pos l hz, List.take_of_length_le (Nat.le_refl l.length)]
      refine gFs [.f] rfl (rd_exit rfl ?_)
      unfold packL
      rw [hg, if_pos rfl]
      generalize padL (encAll l).length = pd at *
      generalize encAll l = E at *
      have w0 : HRet P (C ml) 117 [.p 5 0 0] [(5, oB 0 [.p 5 0 0, .ref 1000 0 0 E.length]), (1000, oR 0 E)] (.i .i64 E.length) [(5, oB 0 [.p 5 0 0, .ref 1000 0 0 E.length]), (1000, oR 0 E)] := bLen0 5 1000 (by decide) (by decide) E
      by_cases hpd : pd = []
      · subst hpd
        rw [if_pos rfl]
        have hb : (([] : List UInt8) == []) = true := rfl
        have w1 : HRet P (C ml) 72 [.p 5 0 0] [(5, oB 0 [.p 5 0 0, .ref 1000 0 0 E.length]), (1000, oR 0 E)] (.s E) [(5, 0, .dead), (1000, 0, .dead)] := bsUsedG 5 1000 (by decide) (by decide) 0 E hne (by omega)
        by_cases hc : l.length + 0 > 98
        · rw [if_pos (.inl hc)]
          have c0 : decide ((l.length : Int) > 98) = true := decide_eq_true (by omega)
          refine gFs [ch w0, cc k1, .f, .t] rfl (ret_of rfl ?_ trivial trivial)
          simp [tle, tleL, look]
        · have c0 : decide ((l.length : Int) > 98) = false := decide_eq_false (by omega)
          by_cases hc2 : (E ++ []).length > 9999
          · rw [if_pos (.inr hc2)]
            rw [List.append_nil] at hc2
            refine gFs [ch w0, cc k1, .f, .f, ch w0, .t] rfl (ret_of rfl ?_ trivial trivial)
            simp [tle, tleL, look]
          · rw [if_neg (by omega)]
            rw [List.append_nil] at hc2 ⊢
            refine gFs [ch w0, cc k1, .f, .f, ch w0, .f, ch w1] rfl (ret_of rfl ?_ trivial trivial)
            simp [tle, tleL, look]
      · rw [if_neg hpd]
        have hb : (pd == []) = false := by simpa using hpd
        have wi : IntKind.i64.wrap ((l.length : Int) + 1) = ((l.length + 1 : Nat) : Int) := by rw [w64 (by omega) (by omega)]; simp
        have w2 : HRet P (C ml) 71 [.p 5 0 0, .s pd] [(5, oB 0 [.p 5 0 0, .ref 1000 0 0 E.length]), (1000, oR 0 E)] (.tup [.i .i64 pd.length, .nif])
            [(5, oB 0 [.p 5 0 0, .ref 1000 1 0 (E ++ pd).length]), (1000, oR 1 (E ++ pd))] := by rw [List.length_append]; exact wsUsed 5 1000 (by decide) (by decide) _ _ (by omega) (by omega)
        have w3 : HRet P (C ml) 117 [.p 5 0 0] [(5, oB 0 [.p 5 0 0, .ref 1000 1 0 (E ++ pd).length]), (1000, oR 1 (E ++ pd))] (.i .i64 (E ++ pd).length) [(5, oB 0 [.p 5 0 0, .ref 1000 1 0 (E ++ pd).length]), (1000, oR 1 (E ++ pd))] := bLen1 5 1000 (by decide) (by decide) _
        have w1 : HRet P (C ml) 72 [.p 5 0 0] [(5, oB 0 [.p 5 0 0, .ref 1000 1 0 (E ++ pd).length]), (1000, oR 1 (E ++ pd))] (.s (E ++ pd)) [(5, 0, .dead), (1000, 1, .dead)] := bsUsedG 5 1000 (by decide) (by decide) 1 _ (by simp [hpd]) (by rw [List.length_append]; omega)
        by_cases hc : l.length + 1 > 98
        · rw [if_pos (.inl hc)]
          have c1 : decide (IntKind.i64.wrap ((l.length : Int) + 1) > 98) = true := decide_eq_true (by rw [wi]; omega)
          refine gFs [ch w0, cc k1, .t, ch w2, .t] rfl (ret_of rfl ?_ trivial trivial)
          simp [tle, tleL, look]
        · have c1 : decide (IntKind.i64.wrap ((l.length : Int) + 1) > 98) = false := decide_eq_false (by rw [wi]; omega)
          by_cases hc2 : (E ++ pd).length > 9999
          · rw [if_pos (.inr hc2)]
            have c2 : decide (((E ++ pd).length : Int) > 9999) = true := decide_eq_true (by omega)
            refine gFs [ch w0, cc k1, .t, ch w2, .f, ch w3, .t] rfl (ret_of rfl ?_ trivial trivial)
            simp [tle, tleL, look]
          · rw [if_neg (by omega)]
            have c2 : decide (((E ++ pd).length : Int) > 9999) = false := decide_eq_false (by omega)
            refine gFs [ch w0, cc k1, .t, ch w2, .f, ch w3, .f, ch w1] rfl (ret_of rfl ?_ trivial trivial)
            (simp [tle, tleL, look]; omega)
end Go.Proofs.YtipomdmlkkifcaaGreatDoor.Vm
/- Contracts: clavigerplain.Few. The cells of a list of attributes. -/
set_option maxRecDepth 100000
namespace Go.Proofs.YtipomdmlkkifcaaGreatDoor.Vm
open Go Go.Proofs Go.RowKit
variable {ml : Int}
abbrev Att := Int × List UInt8
/-- The cells of a list of attributes: two each. -/
def attCells : List Att → List T
  | [] => []
  | o :: l => .i .i64 o.1 :: .s o.2 :: attCells l
theorem attCells_length : ∀ l : List Att, (attCells l).length = 2 * l.length
  | [] => rfl
  | o :: l => by simp [attCells, attCells_length l]; omega
theorem attCells_two : ∀ (l : List Att) (i : Nat), i < l.length → ((attCells l).drop (i * 2)).take 2 = [.i .i64 (l.getD i (0, [])).1, .s (l.getD i (0, [])).2]
  | [], _, h => by simp at h
  | o :: l, 0, _ => rfl
  | o :: l, i + 1, h => by
    have := attCells_two l i (by simpa using h)
    rw [show (i + 1) * 2 = i * 2 + 1 + 1 by omega]
    exact this
theorem attCells_val (l : List Att) (i : Nat) (h : i < l.length) : (attCells l)[i * 2 + 1]? = some (.s (l.getD i (0, [])).2) := by
  have := congrArg (fun x => x[1]?) (attCells_two l i h)
  simpa [List.getElem?_take, List.getElem?_drop] using this
def few (l : List Att) (n : Int) : Bool := decide ((l.length : Int) ≤ n) && l.all fun x => decide (x.2.length ≤ 300)
theorem few_bad (l : List Att) (n : Int) (i : Nat) (h : i < l.length) (h2 : ¬ (l.getD i (0, [])).2.length ≤ 300) : few l n = false := by
  have : (l.all fun x => decide (x.2.length ≤ 300)) = false := by
    rw [List.all_eq_false]
    rw [getD_at _ _ h] at h2
    exact ⟨l[i], List.getElem_mem h, by simpa using h2⟩
  unfold few; rw [this, Bool.and_false]
theorem few_good (l : List Att) (n : Int) (h : (l.length : Int) ≤ n) (h2 : ∀ j, j < l.length → (l.getD j (0, [])).2.length ≤ 300) : few l n = true := by
  have : (l.all fun x => decide (x.2.length ≤ 300)) = true := by
    rw [List.all_eq_true]
    intro x hx
    obtain ⟨j, hj, rfl⟩ := List.getElem_of_mem hx
    have := h2 j hj
    rw [getD_at _ _ hj] at this
    exact decide_eq_true this
  unfold few; rw [this, Bool.and_true, decide_eq_true h]
theorem plainFew (l : List Att) (n : Int) (hn : n ≤ 1000) : Ret P (C ml) 35 [.sl l.length (attCells l), .i .i64 n] (.b (few l n)) := by
  refine hR Tryz.func35 ?_
  by_cases h0 : (l.length : Int) ≤ n
  · refine gRs [.f] rfl ?_
    refine g_loop (fun i : Nat => [(0, .sl l.length (attCells l)), (5, .i .i64 i)]) (fun _ => []) (fun i => i ≤ l.length ∧ ∀ j, j < i → (l.getD j (0, [])).2.length ≤ 300) (fun i => l.length - i) 0 ⟨⟨rfl, rfl, trivial⟩, trivial, trivial⟩ ⟨by omega, by omega⟩ ?_
    rintro i ⟨i1, i2⟩
    by_cases hi : i < l.length
    · have h3 := attCells_val l i hi
      by_cases hc : (l.getD i (0, [])).2.length ≤ 300
      · generalize hv : (l.getD i (0, [])).2 = v at *
        refine gFs [.t, ld1 h3, .f] rfl (rd_next (i + 1) ⟨by omega, ext_lt i2 (by rw [hv]; exact hc)⟩ (by omega) ⟨rfl, ?_, trivial⟩ trivial trivial)
        simp [look, tle]; omega
      · rw [few_bad l n i hi hc]
        generalize hv : (l.getD i (0, [])).2 = v at *
        refine gFs [.t, ld1 h3, .t] rfl (rd_ret (ret_of rfl ?_ trivial trivial))
        simp [look, tle]
    · have e : i = l.length := by omega
      subst e
      rw [few_good l n h0 i2]
      refine gFs [.f] rfl (rd_exit rfl ?_)
      refine gFs [] rfl (ret_of rfl ?_ trivial trivial)
      simp [tle, look]
  · have e : few l n = false := by unfold few; rw [decide_eq_false h0, Bool.false_and]
    rw [e]
    refine gFs [.t] rfl (ret_of rfl ?_ trivial trivial)
    simp [tle, look]
end Go.Proofs.YtipomdmlkkifcaaGreatDoor.Vm
/- What Unpack gives (plain); contracts that a weaker one follows from. -/
set_option maxRecDepth 100000
namespace Go.Proofs.YtipomdmlkkifcaaGreatDoor.Vm
open Go Go.Proofs
section
variable {P : Program} {C : Ctx} {f : FuncId} {args args' : List T} {r r' : T}
theorem ret_args (h : ∀ ρ I vals, VRs ρ (hlook []) I args' vals → VRs ρ (hlook []) I args vals) (k : Ret P C f args r) : Ret P C f args' r :=
  ⟨k.1, fun ρ I w vals hg hs hv => k.2 ρ I w vals hg hs (h ρ I vals hv)⟩
theorem ret_res (h : ∀ ρ hl I v, VR ρ hl I r v → VR ρ hl I r' v) (k : Ret P C f args r) : Ret P C f args r' :=
  ⟨k.1, fun ρ I w vals hg hs hv => (k.2 ρ I w vals hg hs hv).mono fun e w' hx => by
    obtain ⟨v, r0, ρ', hout, I', rfl, h1, h2, h3, h4, rfl, rfl⟩ := hx
    exact ⟨v, r', ρ', [], I', rfl, h _ _ _ _ h1, h2, h3, h4, rfl, rfl⟩⟩
theorem nil_sl {ρ : Place} {hl : Objs} {I : Mem} {v : Value} (h : VR ρ hl I .nsl v) : VR ρ hl I (.sl 0 []) v := by
  simp only [VR] at h; subst h
  simp only [VR, PV, PVs, Lies]
  exact ⟨none, 0, [], rfl, ⟨Nat.le_refl _, fun _ => trivial⟩, rfl, by simp⟩
/-- What holds of a list that is empty holds of nil. -/
theorem ret_nil1 {ts : List T} (k : Ret P C f (.sl 0 [] :: ts) r) : Ret P C f (.nsl :: ts) r :=
  ret_args (fun ρ I vals h => by
    unfold VRs at h ⊢
    obtain ⟨v, rs, rfl, h1, h2⟩ := h
    exact ⟨v, rs, rfl, nil_sl h1, h2⟩) k
/-- Nil is a list that is empty. -/
theorem ret_out1 {ts : List T} (k : Ret P C f args (.tup (.nsl :: ts))) : Ret P C f args (.tup (.sl 0 [] :: ts)) :=
  ret_res (fun ρ hl I v h => by
    unfold VR at h ⊢
    unfold VRs at h ⊢
    obtain ⟨vs, rfl, v, rs, rfl, h1, h2⟩ := h
    exact ⟨_, rfl, v, rs, rfl, nil_sl h1, h2⟩) k
end
/-- So many options that are read from the beginning of signs, and where they end. -/
def decs (s : List UInt8) : Nat → Option (List Opt × Nat)
  | 0 => some ([], 0)
  | k + 1 => match decs s k with
    | none => none
    | some (l, a) => match oDec (s.drop a) with
      | none => none
      | some (id, d, n) => some (l ++ [(id, d)], a + n)
theorem oFrom_le {s : List UInt8} {b z : Nat} {x : List UInt8 × List UInt8 × Nat} (h : oFrom s b z = some x) : x.2.2 ≤ s.length := by
  unfold oFrom at h
  split at h
  · rename_i hc
    simp only [Option.some.injEq] at h; subst h; exact hc.2.1
  · cases h
theorem oDec_le {s : List UInt8} {id d : List UInt8} {n : Nat} (h : oDec s = some (id, d, n)) : n ≤ s.length := by
  unfold oDec at h
  split at h
  · split at h
    · cases h
    · exact oFrom_le h
  · exact oFrom_le h
theorem decs_ok {s : List UInt8} : ∀ {k : Nat} {l : List Opt} {a : Nat}, decs s k = some (l, a) → l.length = k ∧ a ≤ s.length
  | 0, l, a, h => by simp only [decs, Option.some.injEq, Prod.mk.injEq] at h; obtain ⟨rfl, rfl⟩ := h; simp
  | k + 1, l, a, h => by
    simp only [decs] at h
    split at h
    · cases h
    · rename_i l0 a0 h0
      split at h
      · cases h
      · rename_i id d n h1
        simp only [Option.some.injEq, Prod.mk.injEq] at h; obtain ⟨rfl, rfl⟩ := h
        have := decs_ok h0
        have := oDec_le h1
        simp only [List.length_drop] at this
        simp; omega
theorem decs_none {s : List UInt8} {k : Nat} (h : decs s k = none) : ∀ {j : Nat}, k ≤ j → decs s j = none
  | 0, hj => by obtain rfl : k = 0 := by omega
                exact h
  | j + 1, hj => by
    by_cases e : k = j + 1
    · subst e; exact h
    · simp only [decs, decs_none h (show k ≤ j by omega)]
def lastPB (l : List Opt) : Bool := decide (1 ≤ l.length) && ((l.getD (l.length - 1) ([], [])).1 == [80, 66])
def dropPB (l : List Opt) : List Opt := if lastPB l = true then l.take (l.length - 1) else l
theorem dropPB_le (l : List Opt) : (dropPB l).length ≤ l.length := by
  unfold dropPB; split
  · simp
  · exact Nat.le_refl _
/-- What Unpack gives: the options, where they end, the error. -/
def unpL (s : List UInt8) (k : Nat) : List Opt × Nat × Int := match decs s k with
  | none => ([], 0, 5)
  | some (l, a) => if packL (dropPB l) = (s.take a, k, 0) then (dropPB l, a, 0) else ([], 0, 5)
def uTup (x : List Opt × Nat × Int) : T := .tup [.sl x.1.length (optCells x.1), .i .i64 x.2.1, .i .i64 x.2.2]
end Go.Proofs.YtipomdmlkkifcaaGreatDoor.Vm
/- Contracts: strings.Join with nothing between, octets.Join. -/
set_option maxRecDepth 100000
namespace Go.Proofs.YtipomdmlkkifcaaGreatDoor.Vm
open Go Go.Proofs Go.RowKit
variable {ml : Int}
theorem join_flat : ∀ l : List (List UInt8), Lib.join l [] = l.flatten
  | [] => rfl
  | x :: r => by
    rw [Lib.join_cons]
    simp [Lib.joinTail]
theorem joinL (l : List (List UInt8)) (hl : l.length ≤ 100000) (hb : l.flatten.length ≤ 100000000) : Ret P (C ml) 29 [.sl l.length (l.map .s), .s []] (.s l.flatten) :=
  ret_of_calls (callable_of Tryz.func29 rfl rfl) fun ρ I w vals hg hm hv => by
    simp only [VRs, VR] at hv
    obtain ⟨v, _, rfl, hv, _, _, rfl, rfl, rfl⟩ := hv
    simp only [PV] at hv
    obtain ⟨a, cap, vs, rfl, ⟨h1, h2⟩, h3, h4⟩ := hv
    match l, a with
    | [], a =>
      refine (Tryz.strings_Join_none a cap ⟨#[]⟩ w).mono ?_
      rintro _ _ ⟨rfl, rfl⟩
      exact ⟨_, rfl, rfl, Below.refl _ _⟩
    | x :: l, none => exact absurd (h2 rfl) (by simp)
    | x :: l, some ⟨bk, o, sp⟩ =>
      obtain ⟨rfl, h4⟩ := h4
      have hc : ∀ (j : Nat) y, ((x :: l).map fun s : List UInt8 => (⟨⟨s⟩⟩ : ByteArray))[j]? = some y → w.cell? ⟨bk, o + j, none⟩ = some (.string y) := fun j y hj => by
        rw [List.getElem?_map] at hj
        cases hx : (x :: l)[j]? with
        | none => rw [hx] at hj; cases hj
        | some z =>
          rw [hx] at hj
          simp only [Option.map_some, Option.some.injEq] at hj; subst hj
          obtain ⟨v, e1, e2⟩ := h3.get j (.s z) (by rw [List.getElem?_map, hx]; rfl)
          have e2 : v = .string ⟨⟨z⟩⟩ := e2
          subst e2
          exact hm _ _ (h4 j _ e1)
      have hbk : bk < w.heap.size := by
        have h0 := hc 0 _ rfl
        refine Nat.lt_of_not_le fun hge => ?_
        have : w.heap[bk]? = none := Array.getElem?_eq_none hge
        simp [World.cell?, this] at h0
      have e0 : ((x :: l).map fun s : List UInt8 => (⟨⟨s⟩⟩ : ByteArray)).map (·.data.toList) = x :: l := by rw [List.map_map]; exact List.map_id _
      have k := Tryz.strings_Join bk o cap ((x :: l).map fun s : List UInt8 => (⟨⟨s⟩⟩ : ByteArray)) ⟨#[]⟩ w hc hbk (by simp at hl ⊢; omega) (by simpa using h1) (by rw [e0]; show (Lib.join (x :: l) []).length ≤ _; rw [join_flat]; omega)
      rw [e0, List.length_map] at k
      refine k.mono ?_
      rintro _ _ ⟨rfl, hb⟩
      refine ⟨_, rfl, ?_, hb⟩
      show Value.string ⟨(Lib.join (x :: l) []).toArray⟩ = _
      rw [join_flat]
theorem oJoin (l : List (List UInt8)) (hl : l.length ≤ 100000) (hb : l.flatten.length ≤ 100000000) : Ret P (C ml) 84 [.sl l.length (l.map .s)] (.s l.flatten) := by
  refine hR Tryz.func84 ?_
  have k1 := joinL (ml := ml) l hl hb
  refine gFs [cc k1] rfl (ret_of rfl ?_ trivial trivial)
  simp [tle, look]
end Go.Proofs.YtipomdmlkkifcaaGreatDoor.Vm
