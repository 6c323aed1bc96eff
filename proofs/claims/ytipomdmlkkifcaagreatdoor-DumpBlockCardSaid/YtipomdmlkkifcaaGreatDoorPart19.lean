/- Texts of one proof, gathered: Dump Dump2 Dump3 Dump4. -/
import Derived.Test.YtipomdmlkkifcaaGreatDoorPart14
import Derived.Test.YtipomdmlkkifcaaGreatDoorPart18
/- What a key block's lines are (plain). -/
set_option linter.unusedVariables false
set_option linter.unusedSimpArgs false
set_option linter.unnecessarySimpa false
set_option maxRecDepth 100000
namespace Go.Proofs.YtipomdmlkkifcaaGreatDoor.Vm
open Go Go.Proofs
/-- An attribute's line. -/
def atLine (a : Att) : List UInt8 := [97, 116, 116, 114, 32] ++ Lib.itoa a.1 ++ [61] ++ hexs a.2
/-- A key block's lines. -/
def blkLines (x : Fr) : List (List UInt8) :=
  [[117, 115, 97, 103, 101, 32] ++ x.h.u, [108, 101, 116, 116, 101, 114, 32] ++ x.l, [109, 111, 100, 101, 32] ++ x.h.m, [118, 101, 114, 115, 105, 111, 110, 32] ++ x.h.v, [101, 120, 112, 111, 114, 116, 32] ++ x.h.e] ++ x.a.map atLine ++ [[99, 105, 112, 104, 101, 114, 32] ++ Lib.itoa (x.c.length : Int), [116, 97, 103, 32] ++ hexs x.g]
end Go.Proofs.YtipomdmlkkifcaaGreatDoor.Vm
/- Contracts: slices.Equal, clavigerref47.Block, strings.Join with something between. -/
set_option maxRecDepth 100000
namespace Go.Proofs.YtipomdmlkkifcaaGreatDoor.Vm
open Go Go.Proofs Go.RowKit
variable {ml : Int}
theorem strs_at (l : List (List UInt8)) (i : Nat) (h : i < l.length) : (l.map T.s)[i * 1]? = some (.s (l.getD i [])) := by
  rw [Nat.mul_one, List.getElem?_map, List.getElem?_eq_getElem h, getD_at _ _ h]; rfl
theorem eqStrs (l : List (List UInt8)) (hl : l.length ≤ 100000) : Ret P (C ml) 10 [.sl l.length (l.map .s), .sl l.length (l.map .s)] (.b true) := by
  refine hret_of tab_ok Tryz.func10 rfl rfl (by kernel_rfl) rfl ?_
  refine g_run tab_ok mixed 3000 [.f] rfl (by (simp only [AllR]; (repeat' first | exact True.intro | (show (_ : Bool) = _; assumption) | omega | apply And.intro); all_goals first | (simp; done) | (simp; omega) | exact Nat.le_of_ble_eq_true rfl | kernel_rfl)) ?_
  refine g_loop (fun i : Nat => [(0, .sl l.length (l.map .s)), (1, .sl l.length (l.map .s)), (12, .i .i64 l.length), (13, .i .i64 i)]) (fun _ => []) (fun i => i ≤ l.length) (fun i => l.length - i) 0 ⟨⟨rfl, rfl, rfl, rfl, trivial⟩, trivial, trivial⟩ (by omega) ?_
  intro i i1
  by_cases hi : i < l.length
  · have h2 := strs_at l i hi
    generalize l.getD i [] = x at *
    have b1 : (x != x) = false := by simp
    refine g_fin tab_ok mixed 3000 [.t, ld1 h2, ld1 h2, .f] rfl (by (simp only [AllR]; (repeat' first | exact h2 | exact True.intro | (show (_ : Bool) = _; assumption) | omega | apply And.intro); all_goals first | (simp; done) | (simp; omega) | exact Nat.le_of_ble_eq_true rfl | kernel_rfl)) (rd_next (i + 1) (by omega) (by omega) ⟨rfl, rfl, rfl, ?_, trivial⟩ trivial trivial)
    (simp [look, tle]; omega)
  · have e : i = l.length := by omega
    subst e
    refine g_fin tab_ok mixed 3000 [.f] rfl (by (simp only [AllR]; (repeat' first | exact True.intro | (show (_ : Bool) = _; assumption) | omega | apply And.intro); all_goals first | (simp; done) | (simp; omega) | exact Nat.le_of_ble_eq_true rfl | kernel_rfl)) (rd_exit rfl ?_)
    refine g_fin tab_ok mixed 3000 [] rfl (by (simp only [AllR]; (repeat' first | exact True.intro | (show (_ : Bool) = _; assumption) | omega | apply And.intro); all_goals first | (simp; done) | (simp; omega) | exact Nat.le_of_ble_eq_true rfl | kernel_rfl)) (ret_of rfl ?_ trivial trivial)
    simp [tle, look]
theorem eqStrsNil : Ret P (C ml) 10 [.nsl, .nsl] (.b true) := by
  refine ret_args (args := [.sl 0 [], .sl 0 []]) (fun ρ I vals h => ?_) (eqStrs (ml := ml) [] (by decide))
  unfold VRs at h ⊢
  obtain ⟨v, rs, rfl, h1, h2⟩ := h
  unfold VRs at h2
  obtain ⟨v2, rs2, rfl, h3, h4⟩ := h2
  refine ⟨v, _, rfl, nil_sl h1, ?_⟩
  unfold VRs
  exact ⟨v2, rs2, rfl, nil_sl h3, h4⟩
/-- What both sides' Block give. -/
def bRes (b : List UInt8) : T := if (cutF b).2 = 0 then .tup [.sl (blkLines (cutF b).1).length ((blkLines (cutF b).1).map .s), .i .i64 0] else .tup [.nsl, .i .i64 (cutF b).2]
theorem cut_atok {b : List UInt8} {x : Fr} (h : cutF b = (x, 0)) (hb : b.length ≤ 8000) : atOk x.a = true := by
  obtain ⟨q1, q2, _⟩ := cut_back h
  have hc : x.c.length ≤ 4096 := by
    have := congrArg List.length q1
    simp only [List.length_append, hexs_length] at this; omega
  have := (topL_ok (q2 hc)).2.2.2.2.2.1
  unfold optsA at this
  by_cases ho : atOk x.a = true
  · exact ho
  · rw [if_neg ho] at this; simp at this
def blkPre (x : Fr) : List (List UInt8) := [[117, 115, 97, 103, 101, 32] ++ x.h.u, [108, 101, 116, 116, 101, 114, 32] ++ x.l, [109, 111, 100, 101, 32] ++ x.h.m, [118, 101, 114, 115, 105, 111, 110, 32] ++ x.h.v, [101, 120, 112, 111, 114, 116, 32] ++ x.h.e]
theorem rBlock47 (b : List UInt8) (hb : b.length ≤ 2000) : Ret P (C ml) 9 [.s b] (bRes b) := by
  refine hret_of tab_ok Tryz.func9 rfl rfl (by kernel_rfl) rfl ?_
  have k1 := rCut0 (ml := ml) b (by omega)
  unfold frC at k1
  unfold bRes
  by_cases e : (cutF b).2 = 0
  · have hx : cutF b = ((cutF b).1, 0) := by rw [← e]
    have hok := cut_atok hx (by omega)
    obtain ⟨q1, q2, q3, q4, q5, q6, q7, q8⟩ := cut_back hx
    rw [if_pos e, e] at k1
    rw [if_pos e]
    refine g_end_frz 35 ?_
    generalize (cutF b).1 = x at *
    obtain ⟨f1, f2, f3, f4⟩ := hdFine_len q4
    have hm := atOk_mem hok
    refine g_run tab_ok mixed 3000 [cc k1, .f] rfl (by (simp only [AllR]; (repeat' first | exact k1 | exact True.intro | (show (_ : Bool) = _; assumption) | omega | apply And.intro); all_goals first | (simp; done) | (simp; omega) | exact Nat.le_of_ble_eq_true rfl | kernel_rfl)) ?_
    refine g_loop (fun i : Nat => [(4, .p 4 0 0), (6, .ref 35 0 0 (5 + i)), (7, .i .i64 i)]) (fun i => [(4, 0, .row false (.cell 62) x.cells), (35, 0, .row true 1 ((blkPre x ++ (x.a.take i).map atLine).map .s))]) (fun i => i ≤ x.a.length) (fun i => x.a.length - i) 0 ⟨⟨⟨rfl, rfl, rfl, rfl⟩, ⟨rfl, rfl, rfl, rfl, rfl⟩, rfl, trivial⟩, ⟨⟨rfl, rfl, ⟨rfl, rfl, rfl, rfl, rfl, rfl, rfl, rfl, rfl, rfl⟩⟩, ⟨rfl, rfl, trivial⟩, trivial⟩, trivial⟩ (by omega) ?_
    intro i i1
    by_cases hi : i < x.a.length
    · have h2 := attCells_tag x.a i hi
      have h3 := attCells_val x.a i hi
      obtain ⟨m1, m2, m3⟩ := hm (x.a.getD i (0, [])) (by rw [getD_at _ _ hi]; exact List.getElem_mem hi)
      have hl : (x.a.take (i + 1)).map atLine = (x.a.take i).map atLine ++ [atLine (x.a.getD i (0, []))] := by
        rw [List.take_succ_eq_append_getElem hi, List.map_append, getD_at _ _ hi]; rfl
      have hl2 : atLine (x.a.getD i (0, [])) = [97, 116, 116, 114, 32] ++ Lib.itoa (x.a.getD i (0, [])).1 ++ [61] ++ hexs (x.a.getD i (0, [])).2 := rfl
      rw [hl2] at hl
      clear hl2
      have k2 := num02 (ml := ml) (x.a.getD i (0, [])).1 (by omega) (by omega)
      have k3 := hex02 (ml := ml) (x.a.getD i (0, [])).2 (by omega)
      have l1 := itoa_len (v := (x.a.getD i (0, [])).1) (by omega) (by omega)
      have l2 := hexs_length (x.a.getD i (0, [])).2
      have hpl : ((x.a.take i).map atLine).length = i := by rw [List.length_map, List.length_take]; omega
      have q1 : (5 + i) * 1 = ((blkPre x ++ (x.a.take i).map atLine).map T.s).length := by rw [List.length_map, List.length_append, hpl]; show _ = 5 + i; omega
      have h32 := (atOk_iff hok).1
      have zb : (tin (C ml) 9).bytes = 16 := rfl
      have q2 : (5 + i + 1) * (tin (C ml) 9).bytes ≤ 140737488355328 := by rw [zb]; omega
      clear hpl
      generalize (x.a.getD i (0, [])).1 = tg at *
      generalize (x.a.getD i (0, [])).2 = v at *
      generalize Lib.itoa tg = it at *
      generalize hexs v = hv at *
      refine g_fin tab_ok mixed 3000 [.t, ld1 h2, cc k2, ld1 h3, cc k3] rfl (by (simp only [AllR]; (repeat' first | exact k2 | exact k3 | exact h2 | exact h3 | exact q1 | exact q2 | exact True.intro | (show (_ : Bool) = _; assumption) | omega | apply And.intro); all_goals first | (simp; done) | (simp; omega) | exact Nat.le_of_ble_eq_true rfl | kernel_rfl)) (rd_next (i + 1) (by omega) (by omega) ⟨⟨rfl, rfl, rfl, rfl⟩, ⟨rfl, rfl, rfl, rfl, rfl⟩, ?_, trivial⟩ ⟨⟨rfl, rfl, ⟨rfl, rfl, rfl, rfl, rfl, rfl, rfl, rfl, rfl, rfl⟩⟩, ⟨rfl, ?_, trivial⟩, trivial⟩ trivial)
      · (simp [look, tle]; omega)
      · show ((blkPre x ++ (x.a.take i).map atLine).map T.s) ++ [T.s ([97, 116, 116, 114, 32] ++ it ++ [61] ++ hv)] = _
        rw [hl]; simp
    · have ei : i = x.a.length := by omega
      subst ei
      have k2 := num02 (ml := ml) x.c.length (by omega) (by omega)
      have k3 := hex02 (ml := ml) x.g (by omega)
      have l1 := itoa_len (v := (x.c.length : Int)) (by omega) (by omega)
      have l2 := hexs_length x.g
      have h32 := (atOk_iff hok).1
      rw [List.take_of_length_le (Nat.le_refl _)]
      have hpl : (x.a.map atLine).length = x.a.length := List.length_map _
      have q1 : (5 + x.a.length) * 1 = ((blkPre x ++ x.a.map atLine).map T.s).length := by rw [List.length_map, List.length_append, hpl]; show _ = 5 + x.a.length; omega
      have zb : (tin (C ml) 9).bytes = 16 := rfl
      have q2 : (5 + x.a.length + 2) * (tin (C ml) 9).bytes ≤ 140737488355328 := by rw [zb]; omega
      have q0 : (5 + x.a.length) * szOf 1 = ((blkPre x ++ x.a.map atLine).map T.s).length := q1
      have hlen : (blkLines x).length = 5 + x.a.length + 2 := by simp [blkLines]; omega
      have hfin : ((blkPre x ++ x.a.map atLine).map T.s ++ [T.s ([99, 105, 112, 104, 101, 114, 32] ++ Lib.itoa (x.c.length : Int)), T.s ([116, 97, 103, 32] ++ hexs x.g)]).take ((5 + x.a.length + 2) * 1) = (blkLines x).map T.s := by
        rw [List.take_of_length_le (by rw [List.length_append, ← q1]; show _ + 2 ≤ _; omega)]
        simp [blkLines, blkPre]
      rw [hlen]
      generalize Lib.itoa (x.c.length : Int) = it at *
      generalize hexs x.g = hv at *
      refine g_fin tab_ok mixed 3000 [.f] rfl (by (simp only [AllR]; (repeat' first | exact True.intro | (show (_ : Bool) = _; assumption) | omega | apply And.intro); all_goals first | (simp; done) | (simp; omega) | exact Nat.le_of_ble_eq_true rfl | kernel_rfl)) (rd_exit rfl ?_)
      refine g_fin tab_ok mixed 3000 [cc k2, cc k3] rfl (by (simp only [AllR]; (repeat' first | exact k2 | exact k3 | exact q0 | exact q1 | exact q2 | exact True.intro | (show (_ : Bool) = _; assumption) | omega | apply And.intro); all_goals first | (simp; done) | (simp; omega) | exact Nat.le_of_ble_eq_true rfl | kernel_rfl)) ⟨rfl, _, _, rfl, ret_of rfl ?_ trivial trivial⟩
      exact ⟨congrArg (T.sl (5 + x.a.length + 2)) hfin, rfl, rfl⟩
  · rw [if_neg e] at k1
    rw [if_neg e]
    have b1 : ((cutF b).2 != 0) = true := by simpa using e
    refine g_fin tab_ok mixed 3000 [cc k1, .t] rfl (by (simp only [AllR]; (repeat' first | exact k1 | exact True.intro | (show (_ : Bool) = _; assumption) | omega | apply And.intro); all_goals first | (simp; done) | (simp; omega) | exact Nat.le_of_ble_eq_true rfl | kernel_rfl)) (ret_of rfl ?_ trivial trivial)
    simp [tle, tleL, look]
end Go.Proofs.YtipomdmlkkifcaaGreatDoor.Vm
/- Contracts: dump.Block. -/
set_option maxRecDepth 100000
namespace Go.Proofs.YtipomdmlkkifcaaGreatDoor.Vm
open Go Go.Proofs Go.RowKit
variable {ml : Int}
theorem joinS (l : List (List UInt8)) (sep : List UInt8) (hl : l.length ≤ 100000) (hb : (Lib.join l sep).length ≤ 100000000) : Ret P (C ml) 29 [.sl l.length (l.map .s), .s sep] (.s (Lib.join l sep)) :=
  ret_of_calls (callable_of Tryz.func29 rfl rfl) fun ρ I w vals hg hm hv => by
    simp only [VRs, VR] at hv
    obtain ⟨v, _, rfl, hv, _, _, rfl, rfl, rfl⟩ := hv
    simp only [PV] at hv
    obtain ⟨a, cap, vs, rfl, ⟨h1, h2⟩, h3, h4⟩ := hv
    match l, a with
    | [], a =>
      refine (Tryz.strings_Join_none a cap ⟨⟨sep⟩⟩ w).mono ?_
      rintro _ _ ⟨rfl, rfl⟩
      exact ⟨_, rfl, rfl, Below.refl _ _⟩
    | x :: l, none => exact absurd (h2 rfl) (by simp)
    | x :: l, some ⟨bk, o, sp⟩ =>
      obtain ⟨rfl, h4⟩ := h4
      have hc : ∀ (j : Nat) y, ((x :: l).map fun s : List UInt8 => (⟨⟨s⟩⟩ : ByteArray))[j]? = some y → w.cell? ⟨bk, o + j, none⟩ = some (.string y) := fun j y hj => by
        rw [List.getElem?_map] at hj
        cases hx : (x :: l)[j]? with
        | none => rw [hx] at hj; cases hj
        | some z =>
          rw [hx] at hj
          simp only [Option.map_some, Option.some.injEq] at hj; subst hj
          obtain ⟨v, e1, e2⟩ := h3.get j (.s z) (by rw [List.getElem?_map, hx]; rfl)
          have e2 : v = .string ⟨⟨z⟩⟩ := e2
          subst e2
          exact hm _ _ (h4 j _ e1)
      have hbk : bk < w.heap.size := by
        have h0 := hc 0 _ rfl
        refine Nat.lt_of_not_le fun hge => ?_
        have : w.heap[bk]? = none := Array.getElem?_eq_none hge
        simp [World.cell?, this] at h0
      have e0 : ((x :: l).map fun s : List UInt8 => (⟨⟨s⟩⟩ : ByteArray)).map (·.data.toList) = x :: l := by rw [List.map_map]; exact List.map_id _
      have k := Tryz.strings_Join bk o cap ((x :: l).map fun s : List UInt8 => (⟨⟨s⟩⟩ : ByteArray)) ⟨⟨sep⟩⟩ w hc hbk (by simp at hl ⊢; omega) (by simpa using h1) (by rw [e0]; show (Lib.join (x :: l) sep).length ≤ _; omega)
      rw [e0, List.length_map] at k
      refine k.mono ?_
      rintro _ _ ⟨rfl, hb⟩
      exact ⟨_, rfl, rfl, hb⟩
abbrev oS (g : Nat) (l : List (List UInt8)) : Nat × Obj := (g, .row true (.row 1 9) (l.map .s))
abbrev oOut (t : T) : Nat × Obj := (0, .row false (.cell 23) [t])
/-- The first line that is said. -/
theorem sayF0 (w x : List UInt8) (hw : w.length ≤ 100) (hx : x.length ≤ 100000) : HRet P (C ml) 28 [.s w, .ref 100 0 0 1, .p 6 0 0] [(6, oOut .nsl), (100, oS 0 [x])] (.tup []) [(6, oOut (.ref 12 0 0 1)), (12, oS 0 [w ++ [32] ++ x]), (100, 0, .dead)] := by
  refine hret_of tab_ok Tryz.func28 rfl rfl (by kernel_rfl) rfl ?_
  have k1 : Ret P (C ml) 29 [.sl 1 [.s x], .s [61]] (.s x) := by
    have := joinS (ml := ml) [x] [61] (by simp) (by rw [Lib.join_one]; omega)
    rwa [Lib.join_one] at this
  have zb : (tin (C ml) 9).bytes = 16 := rfl
  have q3 : 1 * (tin (C ml) 9).bytes ≤ 140737488355328 := by rw [zb]; decide
  refine g_frz 100 rfl ?_
  refine g_fin tab_ok mixed 3000 [cc k1] rfl (by (simp only [AllR]; (repeat' first | exact k1 | exact q3 | exact True.intro | (show (_ : Bool) = _; assumption) | omega | apply And.intro); all_goals first | (simp; done) | (simp; omega) | exact Nat.le_of_ble_eq_true rfl | kernel_rfl)) (ret_of rfl ?_ ?_ ?_)
  · exact rfl
  · exact ⟨⟨rfl, rfl, ⟨⟨rfl, rfl, rfl, rfl, rfl⟩, rfl⟩⟩, ⟨rfl, rfl, trivial⟩, trivial, trivial⟩
  · exact ⟨rfl, rfl, trivial⟩
theorem say0 (L : List (List UInt8)) (hL : L.length ≤ 1000) (w x : List UInt8) (hw : w.length ≤ 100) (hx : x.length ≤ 100000) : HRet P (C ml) 28 [.s w, .ref 100 0 0 1, .p 6 0 0] [(6, oOut (.ref 12 0 0 L.length)), (12, oS 0 L), (100, oS 0 [x])] (.tup [])
    [(6, oOut (.ref 12 1 0 (L.length + 1))), (12, oS 1 (L ++ [w ++ [32] ++ x])), (100, 0, .dead)] := by
  refine hret_of tab_ok Tryz.func28 rfl rfl (by kernel_rfl) rfl ?_
  have k1 : Ret P (C ml) 29 [.sl 1 [.s x], .s [61]] (.s x) := by
    have := joinS (ml := ml) [x] [61] (by simp) (by rw [Lib.join_one]; omega)
    rwa [Lib.join_one] at this
  have zb : (tin (C ml) 9).bytes = 16 := rfl
  have q1 : L.length * 1 = (L.map T.s).length := by simp
  have q2 : (L.length + 1) * (tin (C ml) 9).bytes ≤ 140737488355328 := by rw [zb]; omega
  refine g_frz 100 rfl ?_
  refine g_fin tab_ok mixed 3000 [cc k1] rfl (by (simp only [AllR]; (repeat' first | exact k1 | exact q1 | exact q2 | exact True.intro | (show (_ : Bool) = _; assumption) | omega | apply And.intro); all_goals first | (simp; done) | (simp; omega) | exact Nat.le_of_ble_eq_true rfl | kernel_rfl)) (ret_of rfl ?_ ?_ ?_)
  · exact rfl
  · exact ⟨⟨rfl, rfl, ⟨⟨rfl, rfl, rfl, rfl, rfl⟩, rfl⟩⟩, ⟨rfl, by show L.map T.s ++ [T.s (w ++ [32] ++ x)] = _; simp, trivial⟩, trivial, trivial⟩
  · exact ⟨rfl, rfl, rfl, trivial⟩
theorem say1 (L : List (List UInt8)) (hL : L.length ≤ 1000) (w x : List UInt8) (hw : w.length ≤ 100) (hx : x.length ≤ 100000) : HRet P (C ml) 28 [.s w, .ref 100 0 0 1, .p 6 0 0] [(6, oOut (.ref 12 1 0 L.length)), (12, oS 1 L), (100, oS 0 [x])] (.tup [])
    [(6, oOut (.ref 12 2 0 (L.length + 1))), (12, oS 2 (L ++ [w ++ [32] ++ x])), (100, 0, .dead)] := by
  refine hret_of tab_ok Tryz.func28 rfl rfl (by kernel_rfl) rfl ?_
  have k1 : Ret P (C ml) 29 [.sl 1 [.s x], .s [61]] (.s x) := by
    have := joinS (ml := ml) [x] [61] (by simp) (by rw [Lib.join_one]; omega)
    rwa [Lib.join_one] at this
  have zb : (tin (C ml) 9).bytes = 16 := rfl
  have q1 : L.length * 1 = (L.map T.s).length := by simp
  have q2 : (L.length + 1) * (tin (C ml) 9).bytes ≤ 140737488355328 := by rw [zb]; omega
  refine g_frz 100 rfl ?_
  refine g_fin tab_ok mixed 3000 [cc k1] rfl (by (simp only [AllR]; (repeat' first | exact k1 | exact q1 | exact q2 | exact True.intro | (show (_ : Bool) = _; assumption) | omega | apply And.intro); all_goals first | (simp; done) | (simp; omega) | exact Nat.le_of_ble_eq_true rfl | kernel_rfl)) (ret_of rfl ?_ ?_ ?_)
  · exact rfl
  · exact ⟨⟨rfl, rfl, ⟨⟨rfl, rfl, rfl, rfl, rfl⟩, rfl⟩⟩, ⟨rfl, by show L.map T.s ++ [T.s (w ++ [32] ++ x)] = _; simp, trivial⟩, trivial, trivial⟩
  · exact ⟨rfl, rfl, rfl, trivial⟩
theorem say2 (L : List (List UInt8)) (hL : L.length ≤ 1000) (w x : List UInt8) (hw : w.length ≤ 100) (hx : x.length ≤ 100000) : HRet P (C ml) 28 [.s w, .ref 100 0 0 1, .p 6 0 0] [(6, oOut (.ref 12 2 0 L.length)), (12, oS 2 L), (100, oS 0 [x])] (.tup [])
    [(6, oOut (.ref 12 3 0 (L.length + 1))), (12, oS 3 (L ++ [w ++ [32] ++ x])), (100, 0, .dead)] := by
  refine hret_of tab_ok Tryz.func28 rfl rfl (by kernel_rfl) rfl ?_
  have k1 : Ret P (C ml) 29 [.sl 1 [.s x], .s [61]] (.s x) := by
    have := joinS (ml := ml) [x] [61] (by simp) (by rw [Lib.join_one]; omega)
    rwa [Lib.join_one] at this
  have zb : (tin (C ml) 9).bytes = 16 := rfl
  have q1 : L.length * 1 = (L.map T.s).length := by simp
  have q2 : (L.length + 1) * (tin (C ml) 9).bytes ≤ 140737488355328 := by rw [zb]; omega
  refine g_frz 100 rfl ?_
  refine g_fin tab_ok mixed 3000 [cc k1] rfl (by (simp only [AllR]; (repeat' first | exact k1 | exact q1 | exact q2 | exact True.intro | (show (_ : Bool) = _; assumption) | omega | apply And.intro); all_goals first | (simp; done) | (simp; omega) | exact Nat.le_of_ble_eq_true rfl | kernel_rfl)) (ret_of rfl ?_ ?_ ?_)
  · exact rfl
  · exact ⟨⟨rfl, rfl, ⟨⟨rfl, rfl, rfl, rfl, rfl⟩, rfl⟩⟩, ⟨rfl, by show L.map T.s ++ [T.s (w ++ [32] ++ x)] = _; simp, trivial⟩, trivial, trivial⟩
  · exact ⟨rfl, rfl, rfl, trivial⟩
theorem say3 (L : List (List UInt8)) (hL : L.length ≤ 1000) (w x : List UInt8) (hw : w.length ≤ 100) (hx : x.length ≤ 100000) : HRet P (C ml) 28 [.s w, .ref 100 0 0 1, .p 6 0 0] [(6, oOut (.ref 12 3 0 L.length)), (12, oS 3 L), (100, oS 0 [x])] (.tup [])
    [(6, oOut (.ref 12 4 0 (L.length + 1))), (12, oS 4 (L ++ [w ++ [32] ++ x])), (100, 0, .dead)] := by
  refine hret_of tab_ok Tryz.func28 rfl rfl (by kernel_rfl) rfl ?_
  have k1 : Ret P (C ml) 29 [.sl 1 [.s x], .s [61]] (.s x) := by
    have := joinS (ml := ml) [x] [61] (by simp) (by rw [Lib.join_one]; omega)
    rwa [Lib.join_one] at this
  have zb : (tin (C ml) 9).bytes = 16 := rfl
  have q1 : L.length * 1 = (L.map T.s).length := by simp
  have q2 : (L.length + 1) * (tin (C ml) 9).bytes ≤ 140737488355328 := by rw [zb]; omega
  refine g_frz 100 rfl ?_
  refine g_fin tab_ok mixed 3000 [cc k1] rfl (by (simp only [AllR]; (repeat' first | exact k1 | exact q1 | exact q2 | exact True.intro | (show (_ : Bool) = _; assumption) | omega | apply And.intro); all_goals first | (simp; done) | (simp; omega) | exact Nat.le_of_ble_eq_true rfl | kernel_rfl)) (ret_of rfl ?_ ?_ ?_)
  · exact rfl
  · exact ⟨⟨rfl, rfl, ⟨⟨rfl, rfl, rfl, rfl, rfl⟩, rfl⟩⟩, ⟨rfl, by show L.map T.s ++ [T.s (w ++ [32] ++ x)] = _; simp, trivial⟩, trivial, trivial⟩
  · exact ⟨rfl, rfl, rfl, trivial⟩
theorem sayTwo (L : List (List UInt8)) (hL : L.length ≤ 1000) (w x y : List UInt8) (hw : w.length ≤ 100) (hx : x.length ≤ 100000) (hy : y.length ≤ 100000) : HRet P (C ml) 28 [.s w, .ref 100 0 0 2, .p 6 0 0] [(6, oOut (.ref 12 0 0 L.length)), (12, oS 0 L), (100, oS 0 [x, y])] (.tup [])
    [(6, oOut (.ref 12 1 0 (L.length + 1))), (12, oS 1 (L ++ [w ++ [32] ++ (x ++ ([61] ++ y))])), (100, 0, .dead)] := by
  refine hret_of tab_ok Tryz.func28 rfl rfl (by kernel_rfl) rfl ?_
  have ej : Lib.join [x, y] [61] = x ++ ([61] ++ y) := by rw [Lib.join_cons]; simp [Lib.joinTail]
  have k1 : Ret P (C ml) 29 [.sl 2 [.s x, .s y], .s [61]] (.s (x ++ ([61] ++ y))) := by
    have := joinS (ml := ml) [x, y] [61] (by simp) (by rw [ej]; simp; omega)
    rwa [ej] at this
  have zb : (tin (C ml) 9).bytes = 16 := rfl
  have q1 : L.length * 1 = (L.map T.s).length := by simp
  have q2 : (L.length + 1) * (tin (C ml) 9).bytes ≤ 140737488355328 := by rw [zb]; omega
  refine g_frz 100 rfl ?_
  refine g_fin tab_ok mixed 3000 [cc k1] rfl (by (simp only [AllR]; (repeat' first | exact k1 | exact q1 | exact q2 | exact True.intro | (show (_ : Bool) = _; assumption) | omega | apply And.intro); all_goals first | (simp; done) | (simp; omega) | exact Nat.le_of_ble_eq_true rfl | kernel_rfl)) (ret_of rfl ?_ ?_ ?_)
  · exact rfl
  · exact ⟨⟨rfl, rfl, ⟨⟨rfl, rfl, rfl, rfl, rfl⟩, rfl⟩⟩, ⟨rfl, by show L.map T.s ++ [T.s (w ++ [32] ++ (x ++ ([61] ++ y)))] = _; simp, trivial⟩, trivial, trivial⟩
  · exact ⟨rfl, rfl, rfl, trivial⟩
theorem renL_strs (a b : Nat) : ∀ l : List (List UInt8), renL a b (l.map T.s) = l.map T.s
  | [] => rfl
  | c :: l => by
    have := renL_strs a b l
    simp only [List.map_cons, renL, renT] at this ⊢
    rw [this]
end Go.Proofs.YtipomdmlkkifcaaGreatDoor.Vm
/- Contract: dump.Block. -/
set_option maxRecDepth 100000
namespace Go.Proofs.YtipomdmlkkifcaaGreatDoor.Vm
open Go Go.Proofs Go.RowKit
variable {ml : Int}
theorem pBlock47 (b : List UInt8) (hb : b.length ≤ 2000) : Ret P (C ml) 8 [.s b] (bRes b) := by
  refine hret_of tab_ok Tryz.func8 rfl rfl (by kernel_rfl) rfl ?_
  have k1 := pCutF0 (ml := ml) b (by omega)
  unfold frC at k1
  unfold bRes
  by_cases e : (cutF b).2 = 0
  · have hx : cutF b = ((cutF b).1, 0) := by rw [← e]
    have hok := cut_atok hx (by omega)
    obtain ⟨q1, q2, q3, q4, q5, q6, q7, q8⟩ := cut_back hx
    rw [if_pos e, e] at k1
    rw [if_pos e]
    refine g_end_frz 12 ?_
    generalize (cutF b).1 = x at *
    obtain ⟨f1, f2, f3, f4⟩ := hdFine_len q4
    have hm := atOk_mem hok
    have s1 : HRet P (C ml) 28 [.s [117, 115, 97, 103, 101], .ref 23 0 0 1, .p 6 0 0] [(6, oOut .nsl), (23, oS 0 [x.h.u])] (.tup []) [(6, oOut (.ref 12 0 0 1)), (12, oS 0 [[117, 115, 97, 103, 101] ++ [32] ++ x.h.u]), (23, 0, .dead)] := by
      exact hret_ren 100 23 (sayF0 (ml := ml) [117, 115, 97, 103, 101] x.h.u (by decide) (by omega))
    have s2 : HRet P (C ml) 28 [.s [108, 101, 116, 116, 101, 114], .ref 28 0 0 1, .p 6 0 0] [(6, oOut (.ref 12 0 0 1)), (12, oS 0 [[117, 115, 97, 103, 101] ++ [32] ++ x.h.u]), (28, oS 0 [x.l])] (.tup []) [(6, oOut (.ref 12 1 0 2)), (12, oS 1 [[117, 115, 97, 103, 101] ++ [32] ++ x.h.u, [108, 101, 116, 116, 101, 114] ++ [32] ++ x.l]), (28, 0, .dead)] := by
      exact hret_ren 100 28 (say0 (ml := ml) [[117, 115, 97, 103, 101] ++ [32] ++ x.h.u] (by simp) [108, 101, 116, 116, 101, 114] x.l (by decide) (by omega))
    have s3 : HRet P (C ml) 28 [.s [109, 111, 100, 101], .ref 34 0 0 1, .p 6 0 0] [(6, oOut (.ref 12 1 0 2)), (12, oS 1 [[117, 115, 97, 103, 101] ++ [32] ++ x.h.u, [108, 101, 116, 116, 101, 114] ++ [32] ++ x.l]), (34, oS 0 [x.h.m])] (.tup []) [(6, oOut (.ref 12 2 0 3)), (12, oS 2 [[117, 115, 97, 103, 101] ++ [32] ++ x.h.u, [108, 101, 116, 116, 101, 114] ++ [32] ++ x.l, [109, 111, 100, 101] ++ [32] ++ x.h.m]), (34, 0, .dead)] := by
      exact hret_ren 100 34 (say1 (ml := ml) [[117, 115, 97, 103, 101] ++ [32] ++ x.h.u, [108, 101, 116, 116, 101, 114] ++ [32] ++ x.l] (by simp) [109, 111, 100, 101] x.h.m (by decide) (by omega))
    have s4 : HRet P (C ml) 28 [.s [118, 101, 114, 115, 105, 111, 110], .ref 40 0 0 1, .p 6 0 0] [(6, oOut (.ref 12 2 0 3)), (12, oS 2 [[117, 115, 97, 103, 101] ++ [32] ++ x.h.u, [108, 101, 116, 116, 101, 114] ++ [32] ++ x.l, [109, 111, 100, 101] ++ [32] ++ x.h.m]), (40, oS 0 [x.h.v])] (.tup []) [(6, oOut (.ref 12 3 0 4)), (12, oS 3 [[117, 115, 97, 103, 101] ++ [32] ++ x.h.u, [108, 101, 116, 116, 101, 114] ++ [32] ++ x.l, [109, 111, 100, 101] ++ [32] ++ x.h.m, [118, 101, 114, 115, 105, 111, 110] ++ [32] ++ x.h.v]), (40, 0, .dead)] := by
      exact hret_ren 100 40 (say2 (ml := ml) [[117, 115, 97, 103, 101] ++ [32] ++ x.h.u, [108, 101, 116, 116, 101, 114] ++ [32] ++ x.l, [109, 111, 100, 101] ++ [32] ++ x.h.m] (by simp) [118, 101, 114, 115, 105, 111, 110] x.h.v (by decide) (by omega))
    have s5 : HRet P (C ml) 28 [.s [101, 120, 112, 111, 114, 116], .ref 46 0 0 1, .p 6 0 0] [(6, oOut (.ref 12 3 0 4)), (12, oS 3 [[117, 115, 97, 103, 101] ++ [32] ++ x.h.u, [108, 101, 116, 116, 101, 114] ++ [32] ++ x.l, [109, 111, 100, 101] ++ [32] ++ x.h.m, [118, 101, 114, 115, 105, 111, 110] ++ [32] ++ x.h.v]), (46, oS 0 [x.h.e])] (.tup [])
        [(6, oOut (.ref 12 4 0 5)), (12, oS 4 [[117, 115, 97, 103, 101] ++ [32] ++ x.h.u, [108, 101, 116, 116, 101, 114] ++ [32] ++ x.l, [109, 111, 100, 101] ++ [32] ++ x.h.m, [118, 101, 114, 115, 105, 111, 110] ++ [32] ++ x.h.v, [101, 120, 112, 111, 114, 116] ++ [32] ++ x.h.e]), (46, 0, .dead)] := by
      exact hret_ren 100 46 (say3 (ml := ml) [[117, 115, 97, 103, 101] ++ [32] ++ x.h.u, [108, 101, 116, 116, 101, 114] ++ [32] ++ x.l, [109, 111, 100, 101] ++ [32] ++ x.h.m, [118, 101, 114, 115, 105, 111, 110] ++ [32] ++ x.h.v] (by simp) [101, 120, 112, 111, 114, 116] x.h.e (by decide) (by omega))
    refine g_run tab_ok mixed 3000 [cc k1, .f, ch s1, ch s2, ch s3, ch s4, ch s5] rfl (by (simp only [AllR]; (repeat' first | exact k1 | exact s1 | exact s2 | exact s3 | exact s4 | exact s5 | exact True.intro | (show (_ : Bool) = _; assumption) | omega | apply And.intro); all_goals first | (simp; done) | (simp; omega) | exact Nat.le_of_ble_eq_true rfl | kernel_rfl)) ?_
    refine g_loop (fun i : Nat => [(4, .p 4 0 0), (6, .p 6 0 0), (7, .fn (.func 28) [] [.p 6 0 0]), (49, .sl x.a.length (attCells x.a)), (50, .i .i64 x.a.length), (51, .i .i64 i)]) (fun i => [(4, 0, .row false (.cell 54) x.cells), (6, oOut (.ref 12 0 0 (5 + i))), (12, oS 0 (blkPre x ++ (x.a.take i).map atLine))]) (fun i => i ≤ x.a.length) (fun i => x.a.length - i) 0 ⟨⟨⟨rfl, rfl, rfl, rfl⟩, ⟨rfl, rfl, rfl, rfl⟩, ⟨rfl, rfl, ⟨rfl, rfl, rfl, rfl⟩, rfl⟩, rfl, rfl, rfl, trivial⟩, ⟨⟨rfl, rfl, ⟨rfl, rfl, rfl, rfl, rfl, rfl, rfl, rfl, rfl, rfl⟩⟩, ⟨rfl, rfl, ⟨⟨rfl, rfl, rfl, rfl, rfl⟩, rfl⟩⟩, ⟨rfl, rfl, trivial⟩, trivial⟩, trivial⟩ (by omega) ?_
    intro i i1
    by_cases hi : i < x.a.length
    · have h2 := attCells_two x.a i hi
      obtain ⟨m1, m2, m3⟩ := hm (x.a.getD i (0, [])) (by rw [getD_at _ _ hi]; exact List.getElem_mem hi)
      have hl : (x.a.take (i + 1)).map atLine = (x.a.take i).map atLine ++ [atLine (x.a.getD i (0, []))] := by
        rw [List.take_succ_eq_append_getElem hi, List.map_append, getD_at _ _ hi]; rfl
      have hl2 : atLine (x.a.getD i (0, [])) = [97, 116, 116, 114, 32] ++ Lib.itoa (x.a.getD i (0, [])).1 ++ [61] ++ hexs (x.a.getD i (0, [])).2 := rfl
      rw [hl2] at hl
      clear hl2
      have k2 := dNum (ml := ml) (x.a.getD i (0, [])).1 (by omega) (by omega)
      have k3 := dHex (ml := ml) (x.a.getD i (0, [])).2 (by omega)
      have l1 := itoa_len (v := (x.a.getD i (0, [])).1) (by omega) (by omega)
      have l2 := hexs_length (x.a.getD i (0, [])).2
      have hpl : (blkPre x ++ (x.a.take i).map atLine).length = 5 + i := by rw [List.length_append, List.length_map, List.length_take]; show 5 + _ = _; omega
      have h32 := (atOk_iff hok).1
      generalize (x.a.getD i (0, [])).1 = tg at *
      generalize (x.a.getD i (0, [])).2 = v at *
      generalize Lib.itoa tg = it at *
      generalize hexs v = hv at *
      generalize hL : blkPre x ++ (x.a.take i).map atLine = L at *
      have s6 := hret_ren 100 62 (sayTwo (ml := ml) L (by omega) [97, 116, 116, 114] it hv (by decide) (by omega) (by omega))
      rw [hpl] at s6
      have s6 : HRet P (C ml) 28 [.s [97, 116, 116, 114], .ref 62 0 0 2, .p 6 0 0] [(6, oOut (.ref 12 0 0 (5 + i))), (12, oS 0 L), (62, oS 0 [it, hv])] (.tup [])
              [(6, oOut (.ref 12 1 0 (5 + i + 1))), (12, oS 1 (L ++ [[97, 116, 116, 114] ++ [32] ++ (it ++ ([61] ++ hv))])), (62, 0, .dead)] := by
        simpa only [renL, renH, renT, renO, renL_strs, show sw 100 62 6 = 6 from rfl, show sw 100 62 12 = 12 from rfl, show sw 100 62 100 = 62 from rfl] using s6
      refine g_fin tab_ok mixed 3000 [.t, ldv h2, cc k2, cc k3, ch s6] rfl (by (simp only [AllR]; (repeat' first | exact k2 | exact k3 | exact h2 | exact s6 | exact True.intro | (show (_ : Bool) = _; assumption) | omega | apply And.intro); all_goals first | (simp; done) | (simp; omega) | exact Nat.le_of_ble_eq_true rfl | kernel_rfl)) (rd_next (i + 1) (by omega) (by omega) ⟨⟨rfl, rfl, rfl, rfl⟩, ⟨rfl, rfl, rfl, rfl⟩, ⟨rfl, rfl, ⟨rfl, rfl, rfl, rfl⟩, rfl⟩, rfl, rfl, ?_, trivial⟩ ⟨⟨rfl, rfl, ⟨rfl, rfl, rfl, rfl, rfl, rfl, rfl, rfl, rfl, rfl⟩⟩, ⟨rfl, rfl, ⟨⟨rfl, rfl, rfl, rfl, rfl⟩, rfl⟩⟩, ⟨rfl, ?_, trivial⟩, trivial⟩ trivial)
      · (simp [look, tle]; omega)
      · refine congrArg (List.map T.s) ?_
        rw [hl]; simp [← hL]
    · have ei : i = x.a.length := by omega
      subst ei
      have k2 := dNum (ml := ml) x.c.length (by omega) (by omega)
      have k3 := dHex (ml := ml) x.g (by omega)
      have l1 := itoa_len (v := (x.c.length : Int)) (by omega) (by omega)
      have l2 := hexs_length x.g
      have h32 := (atOk_iff hok).1
      rw [List.take_of_length_le (Nat.le_refl _)]
      have hpl : (blkPre x ++ x.a.map atLine).length = 5 + x.a.length := by rw [List.length_append, List.length_map]; rfl
      have hfin : (blkLines x) = (blkPre x ++ x.a.map atLine) ++ [[99, 105, 112, 104, 101, 114, 32] ++ Lib.itoa (x.c.length : Int)] ++ [[116, 97, 103, 32] ++ hexs x.g] := by simp [blkLines, blkPre]
      rw [hfin]
      clear hfin
      generalize Lib.itoa (x.c.length : Int) = it at *
      generalize hexs x.g = hv at *
      generalize hL : blkPre x ++ x.a.map atLine = L at *
      have hll : (L ++ [[99, 105, 112, 104, 101, 114, 32] ++ it] ++ [[116, 97, 103, 32] ++ hv]).length = 5 + x.a.length + 1 + 1 := by simp; omega
      rw [hll]
      have s6 := hret_ren 100 70 (say0 (ml := ml) L (by omega) [99, 105, 112, 104, 101, 114] it (by decide) (by omega))
      have s7 := hret_ren 100 76 (say1 (ml := ml) (L ++ [[99, 105, 112, 104, 101, 114] ++ [32] ++ it]) (by simp; omega) [116, 97, 103] hv (by decide) (by omega))
      have hl1 : (L ++ [[99, 105, 112, 104, 101, 114] ++ [32] ++ it]).length = 5 + x.a.length + 1 := by simp; omega
      rw [hl1] at s7
      rw [hpl] at s6
      have s6 : HRet P (C ml) 28 [.s [99, 105, 112, 104, 101, 114], .ref 70 0 0 1, .p 6 0 0] [(6, oOut (.ref 12 0 0 (5 + x.a.length))), (12, oS 0 L), (70, oS 0 [it])] (.tup [])
          [(6, oOut (.ref 12 1 0 (5 + x.a.length + 1))), (12, oS 1 (L ++ [[99, 105, 112, 104, 101, 114] ++ [32] ++ it])), (70, 0, .dead)] := by
        simpa only [renL, renH, renT, renO, renL_strs, show sw 100 70 6 = 6 from rfl, show sw 100 70 12 = 12 from rfl, show sw 100 70 100 = 70 from rfl] using s6
      have s7 : HRet P (C ml) 28 [.s [116, 97, 103], .ref 76 0 0 1, .p 6 0 0] [(6, oOut (.ref 12 1 0 (5 + x.a.length + 1))), (12, oS 1 (L ++ [[99, 105, 112, 104, 101, 114] ++ [32] ++ it])), (76, oS 0 [hv])] (.tup [])
          [(6, oOut (.ref 12 2 0 (5 + x.a.length + 1 + 1))), (12, oS 2 (L ++ [[99, 105, 112, 104, 101, 114] ++ [32] ++ it] ++ [[116, 97, 103] ++ [32] ++ hv])), (76, 0, .dead)] := by
        simpa only [renL, renH, renT, renO, renL_strs, show sw 100 76 6 = 6 from rfl, show sw 100 76 12 = 12 from rfl, show sw 100 76 100 = 76 from rfl] using s7
      refine g_fin tab_ok mixed 3000 [.f] rfl (by (simp only [AllR]; (repeat' first | exact True.intro | (show (_ : Bool) = _; assumption) | omega | apply And.intro); all_goals first | (simp; done) | (simp; omega) | exact Nat.le_of_ble_eq_true rfl | kernel_rfl)) (rd_exit rfl ?_)
      refine g_fin tab_ok mixed 3000 [cc k2, ch s6, cc k3, ch s7] rfl (by (simp only [AllR]; (repeat' first | exact k2 | exact k3 | exact s6 | exact s7 | exact True.intro | (show (_ : Bool) = _; assumption) | omega | apply And.intro); all_goals first | (simp; done) | (simp; omega) | exact Nat.le_of_ble_eq_true rfl | kernel_rfl)) ⟨rfl, _, _, rfl, ret_of rfl ?_ trivial trivial⟩
      refine ⟨?_, rfl, rfl⟩
      show T.sl _ _ = _
      refine congrArg (T.sl _) ?_
      clear s1 s2 s3 s4 s5 s6 s7
      rw [List.take_of_length_le (by rw [List.length_map]; show _ ≤ _ * 1; simp only [List.length_append, List.length_cons, List.length_nil] at hll ⊢; omega)]
      rfl
  · rw [if_neg e] at k1
    rw [if_neg e]
    have b1 : ((cutF b).2 != 0) = true := by simpa using e
    refine g_fin tab_ok mixed 3000 [cc k1, .t] rfl (by (simp only [AllR]; (repeat' first | exact k1 | exact True.intro | (show (_ : Bool) = _; assumption) | omega | apply And.intro); all_goals first | (simp; done) | (simp; omega) | exact Nat.le_of_ble_eq_true rfl | kernel_rfl)) (ret_of rfl ?_ trivial trivial)
    simp [tle, tleL, look]
end Go.Proofs.YtipomdmlkkifcaaGreatDoor.Vm
