/- Texts of one proof, gathered: Unpack UnpackR Attr Templ. -/
import Derived.Test.YtipomdmlkkifcaaGreatDoorPart13
import Derived.Test.YtipomdmlkkifcaaGreatDoorPart14
set_option linter.unusedSimpArgs false
set_option linter.unusedVariables false
set_option linter.unnecessarySimpa false
/- Contracts: option.Unpack. -/
set_option maxRecDepth 100000
namespace Go.Proofs.YtipomdmlkkifcaaGreatDoor.Vm
open Go Go.Proofs Go.RowKit Go.Proofs.YtipomdmlkkifcaaGreatDoor.Flt
variable {ml : Int}
theorem pPackNil : Ret P (C ml) 146 [.nsl] (.tup [.s [], .i .i64 0, .i .i64 0]) := ret_nil1 (pPack (ml := ml) [] (by decide))
/-- A list that grows: its value, and its heap. -/
def outT (r : Nat) : Nat → T
  | 0 => .nsl
  | i + 1 => .ref r 0 0 (i + 1)
def outH (r : Nat) (z : Mk) (cs : List T) : Nat → Heap
  | 0 => []
  | _ + 1 => [(r, 0, .row true z cs)]
theorem outT_zero (r : Nat) {i : Nat} (h : i = 0) : outT r i = .nsl := by subst h; rfl
theorem outT_pos (r : Nat) {i : Nat} (h : 0 < i) : outT r i = .ref r 0 0 i := by
  cases i with
  | zero => omega
  | succ i => rfl
theorem outH_zero (r : Nat) (z : Mk) (cs : List T) {i : Nat} (h : i = 0) : outH r z cs i = [] := by subst h; rfl
theorem outH_pos (r : Nat) (z : Mk) (cs : List T) {i : Nat} (h : 0 < i) : outH r z cs i = [(r, 0, .row true z cs)] := by
  cases i with
  | zero => omega
  | succ i => rfl
theorem optCells_append (l m : List Opt) : optCells (l ++ m) = optCells l ++ optCells m := by
  induction l with
  | nil => rfl
  | cons o l ih => simp [optCells, ih]
def dL (s : List UInt8) (i : Nat) : List Opt := match decs s i with | some x => x.1 | none => []
def dA (s : List UInt8) (i : Nat) : Nat := match decs s i with | some x => x.2 | none => 0
theorem decs_eta {s : List UInt8} {i : Nat} (h : (decs s i).isSome = true) : decs s i = some (dL s i, dA s i) := by
  unfold dL dA
  cases e : decs s i with
  | none => rw [e] at h; cases h
  | some x => rfl
theorem decs_next {s : List UInt8} {i : Nat} (h : (decs s i).isSome = true) {id d : List UInt8} {n : Nat} (ho : oDec (s.drop (dA s i)) = some (id, d, n)) : (decs s (i + 1)).isSome = true ∧ dL s (i + 1) = dL s i ++ [(id, d)] ∧ dA s (i + 1) = dA s i + n := by
  have e := decs_eta h
  have e1 : decs s (i + 1) = some (dL s i ++ [(id, d)], dA s i + n) := by simp only [decs, e, ho]
  refine ⟨by rw [e1]; rfl, ?_, ?_⟩
  · show (match decs s (i + 1) with | some x => x.1 | none => []) = _; rw [e1]
  · show (match decs s (i + 1) with | some x => x.2 | none => 0) = _; rw [e1]
theorem decs_stop {s : List UInt8} {i k : Nat} (h : (decs s i).isSome = true) (ho : oDec (s.drop (dA s i)) = none) (hik : i < k) : unpL s k = ([], 0, 5) := by
  have e := decs_eta h
  have e1 : decs s (i + 1) = none := by simp only [decs, e, ho]
  unfold unpL; rw [decs_none e1 hik]
/-- What Unpack gives, nil where there is none. -/
def uRes (x : List Opt × Nat × Int) : T := match x.1 with
  | [] => .tup [.nsl, .i .i64 x.2.1, .i .i64 x.2.2]
  | _ :: _ => uTup x
theorem uRes_nil (a : Nat) (e : Int) : uRes ([], a, e) = .tup [.nsl, .i .i64 a, .i .i64 e] := rfl
theorem uRes_ne {l : List Opt} {a : Nat} {e : Int} (h : l ≠ []) : uRes (l, a, e) = uTup (l, a, e) := by
  cases l with
  | nil => exact absurd rfl h
  | cons o l => rfl
theorem uRes_ret {f : FuncId} {args : List T} {x : List Opt × Nat × Int} (k : Ret P (C ml) f args (uRes x)) : Ret P (C ml) f args (uTup x) := by
  obtain ⟨l, a, e⟩ := x
  cases l with
  | nil => exact ret_out1 k
  | cons o l => exact k
theorem pPackT (l : List Opt) (hl : l.length ≤ 1000) (j : Nat) (hj : j ≤ l.length) (z : Int) (hz : z = j) : Ret P (C ml) 146 [.sl z.toNat ((optCells l).take (z.toNat * 2))] (.tup [.s (packL (l.take j)).1, .i .i64 (packL (l.take j)).2.1, .i .i64 (packL (l.take j)).2.2]) := by
  have k := pPack (ml := ml) (l.take j) (by rw [List.length_take]; omega)
  rw [List.length_take, Nat.min_eq_left hj] at k
  subst hz
  rw [Int.toNat_natCast, optCells_take]; exact k
theorem pUnpack0 (s : List UInt8) (hs : s.length ≤ 100000) (k : Nat) (hk : k ≤ 900) : Ret P (C ml) 128 [.s s, .i .i64 k] (uRes (unpL s k)) := by
  refine hR Tryz.func128 ?_
  refine gRs [] rfl ?_
  refine g_loop (fun i : Nat => [(0, .s s), (1, .i .i64 k), (7, outT 33 i), (8, .i .i64 (dA s i)), (16, .i .i64 k), (17, .i .i64 i)]) (fun i => outH 33 2 (optCells (dL s i)) i) (fun i => i ≤ k ∧ (decs s i).isSome = true) (fun i => k - i) 0 ⟨?_, ?_, ?_⟩ ⟨by omega, rfl⟩ ?_
  · exact ⟨rfl, rfl, rfl, rfl, rfl, rfl, trivial⟩
  · trivial
  · trivial
  rintro i ⟨i1, i2⟩
  have ed := decs_eta i2
  obtain ⟨hlen, hat⟩ := decs_ok ed
  by_cases hi : i < k
  · have k1 := pODec (ml := ml) (s.drop (dA s i)) (by rw [List.length_drop]; omega)
    cases ho : oDec (s.drop (dA s i)) with
    | none =>
      rw [ho] at k1
      simp only [oTup] at k1
      rw [decs_stop i2 ho hi, uRes_nil]
      rcases Nat.eq_zero_or_pos i with hz | hz
      · simp only [outT_zero 33 hz, outH_zero 33 2 _ hz]
        refine gFs [.t, cc k1, .t] rfl (rd_ret (ret_of rfl ?_ trivial trivial))
        simp [tle, tleL, look]
      · simp only [outT_pos 33 hz, outH_pos 33 2 _ hz]
        refine gFs [.t, cc k1, .t] rfl (rd_ret (ret_of rfl ?_ trivial trivial))
        simp [tle, tleL, look]
    | some x =>
      obtain ⟨id, d, n⟩ := x
      rw [ho] at k1
      simp only [oTup] at k1
      obtain ⟨n1, n2, n3⟩ := decs_next i2 ho
      obtain ⟨_, hat2⟩ := decs_ok (decs_eta n1)
      have q1 : i * 2 = (optCells (dL s i)).length := by rw [optCells_length]; omega
      have zb : (tin (C ml) 235).bytes = 32 := rfl
      have q3 : 1 * (tin (C ml) 235).bytes ≤ 140737488355328 := by rw [zb]; decide
      have q4 : 1 * (tin (C ml) 235).size = 2 := rfl
      have q2 : (i + 1) * (tin (C ml) 235).bytes ≤ 140737488355328 := by rw [zb]; omega
      have hc : optCells (dL s (i + 1)) = optCells (dL s i) ++ [.s id, .s d] := by rw [n2, optCells_append]; rfl
      rcases Nat.eq_zero_or_pos i with hz | hz
      · simp only [outT_zero 33 hz, outH_zero 33 2 _ hz]
        have e0 : dL s i = [] := List.length_eq_zero_iff.1 (by omega)
        rw [e0] at hc
        have hc0 : optCells (dL s (i + 1)) = [.s id, .s d] := hc
        refine gFs [.t, cc k1, .f] rfl (rd_next (i + 1) ⟨by omega, n1⟩ (by omega) ⟨rfl, rfl, ?_, ?_, rfl, ?_, trivial⟩ ?_ trivial)
        · rw [outT_pos 33 (Nat.succ_pos i)]; exact ⟨rfl, rfl, (by omega), rfl, rfl⟩
        · (simp [look, tle]; omega)
        · (simp [look, tle]; omega)
        · rw [outH_pos 33 2 _ (Nat.succ_pos i), hc0]; exact ⟨⟨rfl, rfl, trivial⟩, trivial⟩
      · simp only [outT_pos 33 hz, outH_pos 33 2 _ hz]
        refine gFs [.t, cc k1, .f] rfl (rd_next (i + 1) ⟨by omega, n1⟩ (by omega) ⟨rfl, rfl, ?_, ?_, rfl, ?_, trivial⟩ ?_ trivial)
        · rw [outT_pos 33 (Nat.succ_pos i)]; exact ⟨rfl, rfl, rfl, rfl, rfl⟩
        · (simp [look, tle]; omega)
        · (simp [look, tle]; omega)
        · rw [outH_pos 33 2 _ (Nat.succ_pos i), hc]; exact ⟨⟨rfl, rfl, trivial⟩, trivial⟩
  · have ei : i = k := by omega
    subst ei
    have hu : unpL s i = if packL (dropPB (dL s i)) = (s.take (dA s i), i, 0) then (dropPB (dL s i), dA s i, 0) else ([], 0, 5) := by unfold unpL; rw [ed]
    rcases Nat.eq_zero_or_pos i with hz | hz
    · simp only [outT_zero 33 hz, outH_zero 33 2 _ hz]
      have k2 := pPackNil (ml := ml)
      have e0 : unpL s i = ([], 0, 0) := by rw [hu, hz]; simp [dL, dA, decs, dropPB, lastPB, packL, packOk, encAll, padL]
      have ha : dA s i = 0 := by rw [hz]; rfl
      rw [e0, uRes_nil]
      generalize dA s i = a at *
      have hps : (([] : List UInt8) == s.take a) = true := by rw [ha]; rfl
      refine gFs [.f] rfl (rd_exit rfl ?_)
      refine gFs [.f, cc k2, .f, .f, .f] rfl (ret_of rfl ?_ trivial trivial)
      simp [tle, tleL, look, ha]
    · simp only [outT_pos 33 hz, outH_pos 33 2 _ hz]
      refine gFs [.f] rfl (rd_exit rfl ?_)
      obtain ⟨j, hj⟩ : ∃ j, i = j + 1 := ⟨i - 1, by omega⟩
      refine g_frz 33 rfl ?_
      generalize dL s i = L at *
      generalize dA s i = a at *
      have hcl : (optCells L).take (i * szOf 2) = optCells L := List.take_of_length_le (by rw [optCells_length]; show _ ≤ i * 2; omega)
      refine g_weak (e' := [(0, .s s), (1, .i .i64 i), (7, .sl i (optCells L)), (8, .i .i64 a)]) (h' := []) ⟨⟨rfl, rfl, congrArg (T.sl i) hcl, rfl, trivial⟩, trivial, trivial⟩ ?_
      have wj : IntKind.i64.wrap ((i : Int) - 1) = j := by rw [w64 (by omega) (by omega)]; omega
      have hld : (optCells L)[(IntKind.i64.wrap ((i : Int) - 1)).toNat * 2]? = some (.s (L.getD j ([], [])).1) := by
        rw [wj, Int.toNat_natCast]; exact optCells_id L j (by omega)
      have hge : decide (IntKind.i64.wrap ((i : Int) - 1) ≥ 0) = true := decide_eq_true (by rw [wj]; omega)
      have hlp : lastPB L = ((L.getD j ([], [])).1 == [80, 66]) := by
        unfold lastPB
        rw [hlen, decide_eq_true (by omega), Bool.true_and, hj, Nat.add_sub_cancel]
      generalize hid : (L.getD j ([], [])).1 = id at *
      rcases Bool.eq_false_or_eq_true (id == [80, 66]) with hq | hq
      · have hdr : dropPB L = L.take j := by unfold dropPB; rw [hlp, if_pos hq, hlen, hj, Nat.add_sub_cancel]
        have k2 := pPackT (ml := ml) L (by omega) j (by omega) _ wj
        rw [hdr] at hu
        have hl' : (L.take j).length = j := by rw [List.length_take]; omega
        rw [hu]
        generalize hpk : packL (L.take j) = q at *
        obtain ⟨p, n, e⟩ := q
        by_cases he : e = 0
        · by_cases hn : n = i
          · by_cases hp : p = s.take a
            · rw [if_pos (by rw [he, hn, hp])]
              have hne : L.take j ≠ [] := fun h0 => by
                rw [h0] at hpk hl'
                have : packL [] = ([], 0, 0) := by simp [packL, packOk, encAll, padL]
                rw [this] at hpk
                simp only [Prod.mk.injEq] at hpk
                omega
              rw [uRes_ne hne]
              have hps : (p == s.take a) = true := by simp [hp]
              refine gFs [.t, ld1 hld, .t, cc k2, .f, .f, .f] rfl (ret_of rfl ?_ trivial trivial)
              have hv : T.sl (IntKind.i64.wrap ((i : Int) - 1)).toNat ((optCells L).take ((IntKind.i64.wrap ((i : Int) - 1)).toNat * 2)) = T.sl (L.take j).length (optCells (L.take j)) := by rw [wj, Int.toNat_natCast, optCells_take, hl']
              exact ⟨hv, rfl, rfl, rfl⟩
            · rw [if_neg (by simp [hp]), uRes_nil]
              have hps : (p == s.take a) = false := by simp [hp]
              refine gFs [.t, ld1 hld, .t, cc k2, .f, .f, .t] rfl (ret_of rfl ?_ trivial trivial)
              simp [tle, tleL, look]
          · rw [if_neg (by simp [hn]), uRes_nil]
            refine gFs [.t, ld1 hld, .t, cc k2, .f, .t] rfl (ret_of rfl ?_ trivial trivial)
            simp [tle, tleL, look]
        · rw [if_neg (by simp [he]), uRes_nil]
          refine gFs [.t, ld1 hld, .t, cc k2, .t] rfl (ret_of rfl ?_ trivial trivial)
          simp [tle, tleL, look]
      · have hdr : dropPB L = L := by unfold dropPB; rw [hlp, hq]; rfl
        have k2 := pPack (ml := ml) L (by omega)
        rw [hlen] at k2
        rw [hdr] at hu
        rw [hu]
        generalize hpk : packL L = q at *
        obtain ⟨p, n, e⟩ := q
        by_cases he : e = 0
        · by_cases hn : n = i
          · by_cases hp : p = s.take a
            · rw [if_pos (by rw [he, hn, hp])]
              have hne : L ≠ [] := fun h0 => by rw [h0] at hlen; simp at hlen; omega
              rw [uRes_ne hne]
              have hps : (p == s.take a) = true := by simp [hp]
              refine gFs [.t, ld1 hld, .f, cc k2, .f, .f, .f] rfl (ret_of rfl ?_ trivial trivial)
              have hv : T.sl i (optCells L) = T.sl L.length (optCells L) := by rw [hlen]
              exact ⟨hv, rfl, rfl, rfl⟩
            · rw [if_neg (by simp [hp]), uRes_nil]
              have hps : (p == s.take a) = false := by simp [hp]
              refine gFs [.t, ld1 hld, .f, cc k2, .f, .f, .t] rfl (ret_of rfl ?_ trivial trivial)
              simp [tle, tleL, look]
          · rw [if_neg (by simp [hn]), uRes_nil]
            refine gFs [.t, ld1 hld, .f, cc k2, .f, .t] rfl (ret_of rfl ?_ trivial trivial)
            simp [tle, tleL, look]
        · rw [if_neg (by simp [he]), uRes_nil]
          refine gFs [.t, ld1 hld, .f, cc k2, .t] rfl (ret_of rfl ?_ trivial trivial)
          simp [tle, tleL, look]
end Go.Proofs.YtipomdmlkkifcaaGreatDoor.Vm
/- Contracts: clavigerref32.Unpack. -/
set_option maxRecDepth 100000
namespace Go.Proofs.YtipomdmlkkifcaaGreatDoor.Vm
open Go Go.Proofs Go.RowKit Go.Proofs.YtipomdmlkkifcaaGreatDoor.Flt
variable {ml : Int}
/-- The list as the document has it: the last one is not taken if it pads. -/
def oL (s : List UInt8) (k i : Nat) : List Opt := if i < k then dL s i else dropPB (dL s i)
theorem oL_lt {s : List UInt8} {k i : Nat} (h : i < k) : oL s k i = dL s i := by unfold oL; rw [if_pos h]
theorem lastPB_snoc (l : List Opt) (o : Opt) : lastPB (l ++ [o]) = (o.1 == [80, 66]) := by
  unfold lastPB
  have : (l ++ [o]).length - 1 = l.length := by simp
  rw [this, decide_eq_true (by simp), Bool.true_and, getD_at _ _ (by simp)]
  simp
theorem dropPB_snoc (l : List Opt) (o : Opt) : dropPB (l ++ [o]) = if (o.1 == [80, 66]) = true then l else l ++ [o] := by
  unfold dropPB
  rw [lastPB_snoc]
  split
  · simp
  · rfl
theorem rUnpack0 (s : List UInt8) (hs : s.length ≤ 100000) (k : Nat) (hk : k ≤ 900) : Ret P (C ml) 75 [.s s, .i .i64 k] (uRes (unpL s k)) := by
  refine hR Tryz.func75 ?_
  refine gRs [] rfl ?_
  refine g_loop (fun i : Nat => [(0, .s s), (1, .i .i64 k), (7, outT 46 (oL s k i).length), (8, .i .i64 (dA s i)), (9, .i .i64 i)]) (fun i => outH 46 2 (optCells (oL s k i)) (oL s k i).length) (fun i => i ≤ k ∧ (decs s i).isSome = true) (fun i => k - i) 0 ⟨?_, ?_, ?_⟩ ⟨by omega, rfl⟩ ?_
  · have : oL s k 0 = [] := by unfold oL; split <;> rfl
    rw [this]; exact ⟨rfl, rfl, rfl, rfl, rfl, trivial⟩
  · have : oL s k 0 = [] := by unfold oL; split <;> rfl
    rw [this]; trivial
  · trivial
  rintro i ⟨i1, i2⟩
  have ed := decs_eta i2
  obtain ⟨hlen, hat⟩ := decs_ok ed
  by_cases hi : i < k
  · have k1 := rODec (ml := ml) (s.drop (dA s i)) (by rw [List.length_drop]; omega)
    rw [oDec_eq] at k1
    have wk : IntKind.i64.wrap ((k : Int) - 1) = (k : Int) - 1 := w64 (by omega) (by omega)
    simp only [oL_lt hi, hlen]
    cases ho : oDec (s.drop (dA s i)) with
    | none =>
      rw [ho] at k1
      simp only [oTup] at k1
      rw [decs_stop i2 ho hi, uRes_nil]
      rcases Nat.eq_zero_or_pos i with hz | hz
      · simp only [outT_zero 46 hz, outH_zero 46 2 _ hz]
        refine gFs [.t, cc k1, .t] rfl (rd_ret (ret_of rfl ?_ trivial trivial))
        simp [tle, tleL, look]
      · simp only [outT_pos 46 hz, outH_pos 46 2 _ hz]
        refine gFs [.t, cc k1, .t] rfl (rd_ret (ret_of rfl ?_ trivial trivial))
        simp [tle, tleL, look]
    | some x =>
      obtain ⟨id, d, n⟩ := x
      rw [ho] at k1
      simp only [oTup] at k1
      obtain ⟨n1, n2, n3⟩ := decs_next i2 ho
      obtain ⟨hlen2, hat2⟩ := decs_ok (decs_eta n1)
      have q1 : i * 2 = (optCells (dL s i)).length := by rw [optCells_length]; omega
      have zb : (tin (C ml) 177).bytes = 32 := rfl
      have q3 : 1 * (tin (C ml) 177).bytes ≤ 140737488355328 := by rw [zb]; decide
      have q4 : 1 * (tin (C ml) 177).size = 2 := rfl
      have q2 : (i + 1) * (tin (C ml) 177).bytes ≤ 140737488355328 := by rw [zb]; omega
      have hc : optCells (dL s (i + 1)) = optCells (dL s i) ++ [.s id, .s d] := by rw [n2, optCells_append]; rfl
      have next (g : (i + 1 < k ∨ (id == [80, 66]) = false)) : oL s k (i + 1) = dL s (i + 1) := by
        unfold oL
        split
        · rfl
        · rw [n2, dropPB_snoc]
          rcases g with g | g
          · omega
          · rw [g]; rfl
      have stay (g1 : ¬ i + 1 < k) (g : (id == [80, 66]) = true) : oL s k (i + 1) = dL s i := by
        unfold oL
        rw [if_neg g1, n2, dropPB_snoc, if_pos g]
      by_cases hlast : i + 1 < k
      · have c1 : decide ((i : Int) < IntKind.i64.wrap ((k : Int) - 1)) = true := decide_eq_true (by rw [wk]; omega)
        have e1 := next (.inl hlast)
        rcases Nat.eq_zero_or_pos i with hz | hz
        · simp only [outT_zero 46 hz, outH_zero 46 2 _ hz]
          have e0 : dL s i = [] := List.length_eq_zero_iff.1 (by omega)
          rw [e0] at hc
          have hc0 : optCells (dL s (i + 1)) = [.s id, .s d] := hc
          refine gFs [.t, cc k1, .f, .t] rfl (rd_next (i + 1) ⟨by omega, n1⟩ (by omega) ⟨rfl, rfl, ?_, ?_, ?_, trivial⟩ ?_ trivial)
          · simp only [e1, hlen2]; rw [outT_pos 46 (Nat.succ_pos i)]; exact ⟨rfl, rfl, (by omega), rfl, rfl⟩
          · (simp [look, tle]; omega)
          · (simp [look, tle]; omega)
          · simp only [e1, hlen2]; rw [outH_pos 46 2 _ (Nat.succ_pos i), hc0]; exact ⟨⟨rfl, rfl, trivial⟩, trivial⟩
        · simp only [outT_pos 46 hz, outH_pos 46 2 _ hz]
          refine gFs [.t, cc k1, .f, .t] rfl (rd_next (i + 1) ⟨by omega, n1⟩ (by omega) ⟨rfl, rfl, ?_, ?_, ?_, trivial⟩ ?_ trivial)
          · simp only [e1, hlen2]; rw [outT_pos 46 (Nat.succ_pos i)]; exact ⟨rfl, rfl, (by omega), rfl, rfl⟩
          · (simp [look, tle]; omega)
          · (simp [look, tle]; omega)
          · simp only [e1, hlen2]; rw [outH_pos 46 2 _ (Nat.succ_pos i), hc]; exact ⟨⟨rfl, rfl, trivial⟩, trivial⟩
      · have c1 : decide ((i : Int) < IntKind.i64.wrap ((k : Int) - 1)) = false := decide_eq_false (by rw [wk]; omega)
        rcases Bool.eq_false_or_eq_true (id == [80, 66]) with hq | hq
        · have e1 := stay hlast hq
          rcases Nat.eq_zero_or_pos i with hz | hz
          · simp only [outT_zero 46 hz, outH_zero 46 2 _ hz]
            refine gFs [.t, cc k1, .f, .f, .f] rfl (rd_next (i + 1) ⟨by omega, n1⟩ (by omega) ⟨rfl, rfl, ?_, ?_, ?_, trivial⟩ ?_ trivial)
            · simp only [e1, hlen]; rw [outT_zero 46 hz]; exact rfl
            · (simp [look, tle]; omega)
            · (simp [look, tle]; omega)
            · simp only [e1, hlen]; rw [outH_zero 46 2 _ hz]; trivial
          · simp only [outT_pos 46 hz, outH_pos 46 2 _ hz]
            refine gFs [.t, cc k1, .f, .f, .f] rfl (rd_next (i + 1) ⟨by omega, n1⟩ (by omega) ⟨rfl, rfl, ?_, ?_, ?_, trivial⟩ ?_ trivial)
            · simp only [e1, hlen, outT_pos 46 hz, outH_pos 46 2 _ hz]; exact ⟨rfl, rfl, rfl, rfl, rfl⟩
            · (simp [look, tle]; omega)
            · (simp [look, tle]; omega)
            · simp only [e1, hlen]; rw [outH_pos 46 2 _ hz]; exact ⟨⟨rfl, rfl, trivial⟩, trivial⟩
        · have e1 := next (.inr hq)
          rcases Nat.eq_zero_or_pos i with hz | hz
          · simp only [outT_zero 46 hz, outH_zero 46 2 _ hz]
            have e0 : dL s i = [] := List.length_eq_zero_iff.1 (by omega)
            rw [e0] at hc
            have hc0 : optCells (dL s (i + 1)) = [.s id, .s d] := hc
            refine gFs [.t, cc k1, .f, .f, .t] rfl (rd_next (i + 1) ⟨by omega, n1⟩ (by omega) ⟨rfl, rfl, ?_, ?_, ?_, trivial⟩ ?_ trivial)
            · simp only [e1, hlen2]; rw [outT_pos 46 (Nat.succ_pos i)]; exact ⟨rfl, rfl, (by omega), rfl, rfl⟩
            · (simp [look, tle]; omega)
            · (simp [look, tle]; omega)
            · simp only [e1, hlen2]; rw [outH_pos 46 2 _ (Nat.succ_pos i), hc0]; exact ⟨⟨rfl, rfl, trivial⟩, trivial⟩
          · simp only [outT_pos 46 hz, outH_pos 46 2 _ hz]
            refine gFs [.t, cc k1, .f, .f, .t] rfl (rd_next (i + 1) ⟨by omega, n1⟩ (by omega) ⟨rfl, rfl, ?_, ?_, ?_, trivial⟩ ?_ trivial)
            · simp only [e1, hlen2]; rw [outT_pos 46 (Nat.succ_pos i)]; exact ⟨rfl, rfl, (by omega), rfl, rfl⟩
            · (simp [look, tle]; omega)
            · (simp [look, tle]; omega)
            · simp only [e1, hlen2]; rw [outH_pos 46 2 _ (Nat.succ_pos i), hc]; exact ⟨⟨rfl, rfl, trivial⟩, trivial⟩
  · have ei : i = k := by omega
    subst ei
    have hu : unpL s i = if packL (dropPB (dL s i)) = (s.take (dA s i), i, 0) then (dropPB (dL s i), dA s i, 0) else ([], 0, 5) := by unfold unpL; rw [ed]
    have eo : oL s i i = dropPB (dL s i) := by unfold oL; rw [if_neg (by omega)]
    rw [hu]
    simp only [eo]
    have hdl := dropPB_le (dL s i)
    generalize dropPB (dL s i) = L at *
    generalize dA s i = a at *
    rcases Nat.eq_zero_or_pos L.length with hz | hz
    · have hL : L = [] := List.length_eq_zero_iff.1 hz
      have k2 := rPackNil (ml := ml)
      have e0 : packL [] = ([], 0, 0) := by simp [packL, packOk, encAll, padL]
      simp only [outT_zero 46 hz, outH_zero 46 2 _ hz]
      rw [hL, e0]
      refine gFs [.f] rfl (rd_exit rfl ?_)
      by_cases hn : i = 0
      · have ha : a = 0 := by rw [hn] at ed; simp [decs] at ed; exact ed.2.symm
        have hps : (([] : List UInt8) == s.take a) = true := by rw [ha]; rfl
        rw [if_pos (by rw [ha, hn]; rfl), uRes_nil]
        refine gFs [cc k2, .f, .f, .f] rfl (ret_of rfl ?_ trivial trivial)
        simp [tle, tleL, look, ha]
      · rw [if_neg (by simp; omega), uRes_nil]
        have c0 : decide ((i : Int) = 0) = false := decide_eq_false (by omega)
        refine gFs [cc k2, .f, .t] rfl (ret_of rfl ?_ trivial trivial)
        simp [tle, tleL, look]
    · simp only [outT_pos 46 hz, outH_pos 46 2 _ hz]
      refine gFs [.f] rfl (rd_exit rfl ?_)
      refine g_frz 46 rfl ?_
      have hcl : (optCells L).take (L.length * szOf 2) = optCells L := List.take_of_length_le (by rw [optCells_length]; show _ ≤ L.length * 2; omega)
      refine g_weak (e' := [(0, .s s), (1, .i .i64 i), (7, .sl L.length (optCells L)), (8, .i .i64 a)]) (h' := []) ⟨⟨rfl, rfl, congrArg (T.sl L.length) hcl, rfl, trivial⟩, trivial, trivial⟩ ?_
      have hne : L ≠ [] := fun e => by rw [e] at hz; simp at hz
      have k2 := rPack (ml := ml) L (by omega)
      generalize hpk : packL L = q at *
      obtain ⟨p, n, e⟩ := q
      by_cases he : e = 0
      · by_cases hn : n = i
        · by_cases hp : p = s.take a
          · rw [if_pos (by rw [he, hn, hp])]
            rw [uRes_ne hne]
            have hps : (p == s.take a) = true := by simp [hp]
            refine gFs [cc k2, .f, .f, .f] rfl (ret_of rfl ?_ trivial trivial)
            exact ⟨rfl, rfl, rfl, rfl⟩
          · rw [if_neg (by simp [hp]), uRes_nil]
            have hps : (p == s.take a) = false := by simp [hp]
            refine gFs [cc k2, .f, .f, .t] rfl (ret_of rfl ?_ trivial trivial)
            simp [tle, tleL, look]
        · rw [if_neg (by simp [hn]), uRes_nil]
          refine gFs [cc k2, .f, .t] rfl (ret_of rfl ?_ trivial trivial)
          simp [tle, tleL, look]
      · rw [if_neg (by simp [he]), uRes_nil]
        refine gFs [cc k2, .t] rfl (ret_of rfl ?_ trivial trivial)
        simp [tle, tleL, look]
theorem pUnpack (s : List UInt8) (hs : s.length ≤ 100000) (k : Nat) (hk : k ≤ 900) : Ret P (C ml) 128 [.s s, .i .i64 k] (uTup (unpL s k)) := uRes_ret (pUnpack0 s hs k hk)
theorem rUnpack (s : List UInt8) (hs : s.length ≤ 100000) (k : Nat) (hk : k ≤ 900) : Ret P (C ml) 75 [.s s, .i .i64 k] (uTup (unpL s k)) := uRes_ret (rUnpack0 s hs k hk)
end Go.Proofs.YtipomdmlkkifcaaGreatDoor.Vm
/- Contracts: attr.Check, clavigerref24.Check, templ.Encode, clavigerref33.Encode, .Options. -/
set_option maxRecDepth 100000
namespace Go.Proofs.YtipomdmlkkifcaaGreatDoor.Vm
open Go Go.Proofs Go.RowKit
variable {ml : Int}
theorem aCheck (l : List Att) (hl : l.length ≤ 100000) : Ret P (C ml) 140 [.sl l.length (attCells l)] (.i .i64 (atErr l)) := by
  refine hR Tryz.func140 ?_
  by_cases h0 : l.length ≤ 32
  · refine gRs [.f] rfl ?_
    refine g_loop (fun i : Nat => [(0, .sl l.length (attCells l)), (3, .i .i64 (tagAt l i)), (9, .sl l.length (attCells l)), (10, .i .i64 l.length), (11, .i .i64 i)]) (fun _ => []) (fun i => i ≤ l.length ∧ ∀ j, j < i → atGood l j = true) (fun i => l.length - i) 0 ⟨⟨rfl, rfl, rfl, rfl, rfl, trivial⟩, trivial, trivial⟩ ⟨by omega, by omega⟩ ?_
    rintro i ⟨i1, i2⟩
    by_cases hi : i < l.length
    · have h2 := attCells_two l i hi
      have hbad : atGood l i = false → atErr l = 11 := fun h => by unfold atErr; rw [atOk_bad l i hi h]; rfl
      have hg : atGood l i = decide (tagAt l i < (l.getD i (0, [])).1 ∧ (l.getD i (0, [])).1 ≤ 65535 ∧ (l.getD i (0, [])).2.length ≤ 255) := rfl
      have ht : tagAt l (i + 1) = (l.getD i (0, [])).1 := rfl
      generalize (l.getD i (0, [])).1 = x at *
      generalize (l.getD i (0, [])).2 = v at *
      generalize tagAt l i = y at *
      by_cases g1 : y < x
      · by_cases g2 : x ≤ 65535
        · by_cases g3 : v.length ≤ 255
          · have hgood : atGood l i = true := by rw [hg]; exact decide_eq_true ⟨g1, g2, g3⟩
            refine gFs [.t, ldv h2, .f, .f, .f] rfl (rd_next (i + 1) ⟨by omega, ext_lt i2 hgood⟩ (by omega) ⟨rfl, ?_, rfl, rfl, ?_, trivial⟩ trivial trivial)
            · simp [look, tle, ht]
            · simp [look, tle]; omega
          · rw [hbad (by rw [hg]; exact decide_eq_false (fun g => g3 g.2.2))]
            refine gFs [.t, ldv h2, .f, .f, .t] rfl (rd_ret (ret_of rfl ?_ trivial trivial))
            simp [look, tle]
        · rw [hbad (by rw [hg]; exact decide_eq_false (fun g => g2 g.2.1))]
          refine gFs [.t, ldv h2, .f, .t] rfl (rd_ret (ret_of rfl ?_ trivial trivial))
          simp [look, tle]
      · rw [hbad (by rw [hg]; exact decide_eq_false (fun g => g1 g.1))]
        refine gFs [.t, ldv h2, .t] rfl (rd_ret (ret_of rfl ?_ trivial trivial))
        simp [look, tle]
    · have e : i = l.length := by omega
      subst e
      have e0 : atErr l = 0 := by unfold atErr; rw [atOk_all l h0 i2]; rfl
      rw [e0]
      refine gFs [.f] rfl (rd_exit rfl ?_)
      refine gFs [] rfl (ret_of rfl ?_ trivial trivial)
      simp [tle, look]
  · have e : atErr l = 11 := by
      unfold atErr atOk
      rw [decide_eq_false h0]; rfl
    rw [e]
    refine gFs [.t] rfl (ret_of rfl ?_ trivial trivial)
    simp [tle, look]
theorem rACheck (l : List Att) (hl : l.length ≤ 100000) : Ret P (C ml) 57 [.sl l.length (attCells l)] (.i .i64 (atErr l)) := by
  refine hR Tryz.func57 ?_
  by_cases h0 : l.length ≤ 32
  · refine gRs [.f] rfl ?_
    refine g_loop (fun i : Nat => [(0, .sl l.length (attCells l)), (3, .i .i64 i)]) (fun _ => []) (fun i => i ≤ l.length ∧ ∀ j, j < i → atGood l j = true) (fun i => l.length - i) 0 ⟨⟨rfl, rfl, trivial⟩, trivial, trivial⟩ ⟨by omega, by omega⟩ ?_
    rintro i ⟨i1, i2⟩
    by_cases hi : i < l.length
    · have h2 := attCells_tag l i hi
      have h3 := attCells_val l i hi
      have hbad : atGood l i = false → atErr l = 11 := fun h => by unfold atErr; rw [atOk_bad l i hi h]; rfl
      have hg : atGood l i = decide (tagAt l i < (l.getD i (0, [])).1 ∧ (l.getD i (0, [])).1 ≤ 65535 ∧ (l.getD i (0, [])).2.length ≤ 255) := rfl
      generalize (l.getD i (0, [])).1 = x at *
      generalize (l.getD i (0, [])).2 = v at *
      rcases Nat.eq_zero_or_pos i with hz | hz
      · have hy : tagAt l i = 0 := by rw [hz]; rfl
        rw [hy] at hg
        by_cases g1 : 0 < x
        · by_cases g2 : x ≤ 65535
          · by_cases g3 : v.length ≤ 255
            · have hgood : atGood l i = true := by rw [hg]; exact decide_eq_true ⟨g1, g2, g3⟩
              refine gFs [.t, ld1 h2, .f, ld1 h2, .f, ld1 h3, .f, .f] rfl (rd_next (i + 1) ⟨by omega, ext_lt i2 hgood⟩ (by omega) ⟨rfl, ?_, trivial⟩ trivial trivial)
              simp [look, tle]; try omega
            · rw [hbad (by rw [hg]; exact decide_eq_false (fun g => g3 g.2.2))]
              refine gFs [.t, ld1 h2, .f, ld1 h2, .f, ld1 h3, .t] rfl (rd_ret (ret_of rfl ?_ trivial trivial))
              simp [look, tle]
          · rw [hbad (by rw [hg]; exact decide_eq_false (fun g => g2 g.2.1))]
            refine gFs [.t, ld1 h2, .f, ld1 h2, .t] rfl (rd_ret (ret_of rfl ?_ trivial trivial))
            simp [look, tle]
        · rw [hbad (by rw [hg]; exact decide_eq_false (fun g => g1 g.1))]
          refine gFs [.t, ld1 h2, .t] rfl (rd_ret (ret_of rfl ?_ trivial trivial))
          simp [look, tle]
      · obtain ⟨m, hm⟩ : ∃ m, i = m + 1 := ⟨i - 1, by omega⟩
        have wi : IntKind.i64.wrap ((i : Int) - 1) = m := by rw [w64 (by omega) (by omega)]; omega
        have hy : tagAt l i = (l.getD m (0, [])).1 := by rw [hm]; rfl
        have hpos : 1 ≤ (l.getD m (0, [])).1 := by
          have := atGood_pos (l := l.take i) (fun j hj => by
            have hj' : j < i := by rw [List.length_take] at hj; omega
            have := i2 j hj'
            unfold atGood at this ⊢
            have e1 : (l.take i).getD j (0, []) = l.getD j (0, []) := by
              rw [getD_at _ _ hj, getD_at _ _ (by omega : j < l.length)]; simp
            have e2 : tagAt (l.take i) j = tagAt l j := by
              cases j with
              | zero => rfl
              | succ j =>
                show ((l.take i).getD j (0, [])).1 = (l.getD j (0, [])).1
                rw [getD_at _ _ (by omega : j < (l.take i).length), getD_at _ _ (by omega : j < l.length)]; simp
            rw [e1, e2]; exact this) m (by rw [List.length_take]; omega)
          rwa [getD_at _ _ (by rw [List.length_take]; omega), List.getElem_take, ← getD_at _ _ (by omega : m < l.length) (0, [])] at this
        have h4 : (attCells l)[(IntKind.i64.wrap ((i : Int) - 1)).toNat * 2]? = some (.i .i64 (l.getD m (0, [])).1) := by
          rw [wi, Int.toNat_natCast]; exact attCells_tag l m (by omega)
        rw [hy] at hg
        generalize (l.getD m (0, [])).1 = y at *
        by_cases g1 : y < x
        · by_cases g2 : x ≤ 65535
          · by_cases g3 : v.length ≤ 255
            · have hgood : atGood l i = true := by rw [hg]; exact decide_eq_true ⟨g1, g2, g3⟩
              refine gFs [.t, ld1 h2, .f, ld1 h2, .f, ld1 h3, .f, .t, ld1 h4, ld1 h2, .f] rfl (rd_next (i + 1) ⟨by omega, ext_lt i2 hgood⟩ (by omega) ⟨rfl, ?_, trivial⟩ trivial trivial)
              simp [look, tle]; try omega
            · rw [hbad (by rw [hg]; exact decide_eq_false (fun g => g3 g.2.2))]
              refine gFs [.t, ld1 h2, .f, ld1 h2, .f, ld1 h3, .t] rfl (rd_ret (ret_of rfl ?_ trivial trivial))
              simp [look, tle]
          · rw [hbad (by rw [hg]; exact decide_eq_false (fun g => g2 g.2.1))]
            refine gFs [.t, ld1 h2, .f, ld1 h2, .t] rfl (rd_ret (ret_of rfl ?_ trivial trivial))
            simp [look, tle]
        · rw [hbad (by rw [hg]; exact decide_eq_false (fun g => g1 g.1))]
          by_cases g0 : x < 1
          · refine gFs [.t, ld1 h2, .t] rfl (rd_ret (ret_of rfl ?_ trivial trivial))
            simp [look, tle]
          · by_cases g2 : x ≤ 65535
            · by_cases g3 : v.length ≤ 255
              · refine gFs [.t, ld1 h2, .f, ld1 h2, .f, ld1 h3, .f, .t, ld1 h4, ld1 h2, .t] rfl (rd_ret (ret_of rfl ?_ trivial trivial))
                simp [look, tle]
              · refine gFs [.t, ld1 h2, .f, ld1 h2, .f, ld1 h3, .t] rfl (rd_ret (ret_of rfl ?_ trivial trivial))
                simp [look, tle]
            · refine gFs [.t, ld1 h2, .f, ld1 h2, .t] rfl (rd_ret (ret_of rfl ?_ trivial trivial))
              simp [look, tle]
    · have e : i = l.length := by omega
      subst e
      have e0 : atErr l = 0 := by unfold atErr; rw [atOk_all l h0 i2]; rfl
      rw [e0]
      refine gFs [.f] rfl (rd_exit rfl ?_)
      refine gFs [] rfl (ret_of rfl ?_ trivial trivial)
      simp [tle, look]
  · have e : atErr l = 11 := by
      unfold atErr atOk
      rw [decide_eq_false h0]; rfl
    rw [e]
    refine gFs [.t] rfl (ret_of rfl ?_ trivial trivial)
    simp [tle, look]
end Go.Proofs.YtipomdmlkkifcaaGreatDoor.Vm
/- Contracts: templ.Encode, .Options, clavigerref33.Encode, .Options. -/
set_option maxRecDepth 100000
namespace Go.Proofs.YtipomdmlkkifcaaGreatDoor.Vm
open Go Go.Proofs Go.RowKit
variable {ml : Int}
/-- The parts of attributes' bytes. -/
def attParts (l : List Att) : List (List UInt8) := l.flatMap fun a => [putL a.1.toNat 2, putL a.2.length 1, a.2]
theorem attParts_flat (l : List Att) : (attParts l).flatten = encA l := by
  induction l with
  | nil => rfl
  | cons a l ih =>
    simp only [attParts, encA, List.flatMap_cons, List.flatten_append] at ih ⊢
    rw [ih]; simp [attB]
theorem attParts_length (l : List Att) : (attParts l).length = 3 * l.length := by
  induction l with
  | nil => rfl
  | cons a l ih =>
    simp only [attParts, List.flatMap_cons, List.length_append, List.length_cons] at ih ⊢
    rw [ih]; simp; omega
theorem attParts_take (l : List Att) (i : Nat) (h : i < l.length) : attParts (l.take (i + 1)) = attParts (l.take i) ++ [putL (l.getD i (0, [])).1.toNat 2, putL (l.getD i (0, [])).2.length 1, (l.getD i (0, [])).2] := by
  unfold attParts
  rw [List.take_succ_eq_append_getElem h, List.flatMap_append]
  simp [h]
def aEnc (l : List Att) : List UInt8 := if atOk l = true then hexs (encA l) else []
theorem putTag (x : Int) (h1 : 0 ≤ x) (h2 : x ≤ 65535) : Ret P (C ml) 85 [.i .u64 (IntKind.u64.wrap x), .i .i64 2] (.s (putL x.toNat 2)) := by
  have k := pPut (ml := ml) x.toNat 2 (by omega)
  rw [if_neg (by omega)] at k
  have e : IntKind.u64.wrap x = (x.toNat : Int) := by rw [wrap_u64]; omega
  rw [e]; exact k
theorem putLen (n : Nat) (h2 : n ≤ 255) : Ret P (C ml) 85 [.i .u64 (IntKind.u64.wrap n), .i .i64 1] (.s (putL n 1)) := by
  have k := pPut (ml := ml) n 1 (by omega)
  rw [if_neg (by omega)] at k
  have e : IntKind.u64.wrap (n : Int) = (n : Int) := by rw [wrap_u64]; omega
  rw [e]; exact k
theorem putTagR (x : Int) (h1 : 0 ≤ x) (h2 : x ≤ 65535) : Ret P (C ml) 89 [.i .u64 (IntKind.u64.wrap x), .i .i64 2] (.s (putL x.toNat 2)) := by
  have k := rPut (ml := ml) x.toNat 2 (by omega)
  rw [if_neg (by omega)] at k
  have e : IntKind.u64.wrap x = (x.toNat : Int) := by rw [wrap_u64]; omega
  rw [e]; exact k
theorem putLenR (n : Nat) (h2 : n ≤ 255) : Ret P (C ml) 89 [.i .u64 (IntKind.u64.wrap n), .i .i64 1] (.s (putL n 1)) := by
  have k := rPut (ml := ml) n 1 (by omega)
  rw [if_neg (by omega)] at k
  have e : IntKind.u64.wrap (n : Int) = (n : Int) := by rw [wrap_u64]; omega
  rw [e]; exact k
theorem pAEnc (l : List Att) (hl : l.length ≤ 100000) : Ret P (C ml) 213 [.sl l.length (attCells l)] (.tup [.s (aEnc l), .i .i64 (atErr l)]) := by
  refine hR Tryz.func213 ?_
  have k1 := aCheck (ml := ml) l hl
  unfold aEnc
  by_cases ho : atOk l = true
  · have e0 : atErr l = 0 := by unfold atErr; rw [if_pos ho]
    have hm := atOk_mem ho
    have h32 := (atOk_iff ho).1
    rw [e0] at k1 ⊢
    rw [if_pos ho]
    have zb : (tin (C ml) 9).bytes = 16 := rfl
    have q5 : (l.length : Int) * ((tin (C ml) 9).bytes : Int) ≤ 281474976710656 := by rw [zb]; omega
    refine gRs [cc k1, .f] rfl ?_
    refine g_loop (fun i : Nat => [(5, .ref 15 0 0 (3 * i)), (16, .sl l.length (attCells l)), (17, .i .i64 l.length), (18, .i .i64 i)]) (fun i => [(15, 0, .row true 1 ((attParts (l.take i)).map .s))]) (fun i => i ≤ l.length) (fun i => l.length - i) 0 ⟨⟨?_, rfl, rfl, rfl, trivial⟩, ⟨⟨rfl, rfl, trivial⟩, trivial⟩, trivial⟩ (by omega) ?_
    · exact ⟨rfl, rfl, rfl, rfl, rfl⟩
    intro i i1
    by_cases hi : i < l.length
    · have h2 := attCells_two l i hi
      have hp := attParts_take l i hi
      have hpl := attParts_length (l.take i)
      rw [List.length_take, Nat.min_eq_left (by omega)] at hpl
      obtain ⟨m1, m2, m3⟩ := hm (l.getD i (0, [])) (by rw [getD_at _ _ hi]; exact List.getElem_mem hi)
      have k2 := putTag (ml := ml) (l.getD i (0, [])).1 (by omega) m2
      have k3 := putLen (ml := ml) (l.getD i (0, [])).2.length m3
      generalize (l.getD i (0, [])).1 = x at *
      generalize (l.getD i (0, [])).2 = v at *
      have q1 : 3 * i * 1 = ((attParts (l.take i)).map T.s).length := by rw [List.length_map, hpl]; omega
      have q2 : (3 * i + 3) * (tin (C ml) 9).bytes ≤ 140737488355328 := by rw [zb]; omega
      refine gFs [.t, ldv h2, cc k2, cc k3] rfl (rd_next (i + 1) (by omega) (by omega) ⟨?_, rfl, rfl, ?_, trivial⟩ ⟨⟨rfl, ?_, trivial⟩, trivial⟩ trivial)
      · exact ⟨rfl, rfl, rfl, rfl, rfl⟩
      · (simp [look, tle]; omega)
      · rw [hp, List.map_append]; rfl
    · have e : i = l.length := by omega
      subst e
      refine gFs [.f] rfl (rd_exit rfl ?_)
      rw [List.take_of_length_le (Nat.le_refl _)]
      refine g_frz 15 rfl ?_
      have hcl : ((attParts l).map T.s).take (3 * l.length * szOf 1) = (attParts l).map T.s := List.take_of_length_le (by rw [List.length_map, attParts_length]; show _ ≤ 3 * l.length * 1; omega)
      refine g_weak (e' := [(5, .sl (3 * l.length) ((attParts l).map .s))]) (h' := []) ⟨⟨congrArg (T.sl (3 * l.length)) hcl, trivial⟩, trivial, trivial⟩ ?_
      have hle := encA_le l (fun a ha => (hm a ha).2.2)
      have k4 := oJoin (ml := ml) (attParts l) (by rw [attParts_length]; omega) (by rw [attParts_flat]; omega)
      rw [attParts_flat, attParts_length] at k4
      have k5 := dHex (ml := ml) (encA l) (by omega)
      refine gFs [cc k4, cc k5] rfl (ret_of rfl ?_ trivial trivial)
      simp [tle, tleL, look]
  · have e0 : atErr l = 11 := by unfold atErr; rw [if_neg ho]
    rw [e0] at k1 ⊢
    rw [if_neg ho]
    refine gFs [cc k1, .t] rfl (ret_of rfl ?_ trivial trivial)
    simp [tle, tleL, look]
theorem rDigitsA (l : List Att) (ho : atOk l = true) : Ret P (C ml) 229 [.sl l.length (attCells l)] (.s (hexs (encA l))) := by
  refine hR Tryz.func229 ?_
  have hm := atOk_mem ho
  have h32 := (atOk_iff ho).1
  have hle := encA_le l (fun a ha => (hm a ha).2.2)
  refine gRs [] rfl ?_
  refine g_loop (fun i : Nat => [(0, .sl l.length (attCells l)), (3, .s (encA (l.take i))), (4, .i .i64 i)]) (fun _ => []) (fun i => i ≤ l.length) (fun i => l.length - i) 0 ⟨⟨rfl, rfl, rfl, trivial⟩, trivial, trivial⟩ (by omega) ?_
  intro i i1
  by_cases hi : i < l.length
  · have h2 := attCells_tag l i hi
    have h3 := attCells_val l i hi
    have het := encA_take l i hi
    have hlt := encA_le (l.take i) (fun a ha => (hm a (List.mem_of_mem_take ha)).2.2)
    rw [List.length_take, Nat.min_eq_left (by omega)] at hlt
    obtain ⟨m1, m2, m3⟩ := hm (l.getD i (0, [])) (by rw [getD_at _ _ hi]; exact List.getElem_mem hi)
    have k2 := putTagR (ml := ml) (l.getD i (0, [])).1 (by omega) m2
    have k3 := putLenR (ml := ml) (l.getD i (0, [])).2.length m3
    unfold attB at het
    generalize (l.getD i (0, [])).1 = x at *
    generalize (l.getD i (0, [])).2 = v at *
    have b1 := putL_length x.toNat 2
    have b2 := putL_length v.length 1
    generalize putL x.toNat 2 = u1 at *
    generalize putL v.length 1 = u2 at *
    refine gFs [.t, ld1 h2, cc k2, ld1 h3, cc k3, ld1 h3] rfl (rd_next (i + 1) (by omega) (by omega) ⟨rfl, ?_, ?_, trivial⟩ trivial trivial)
    · simp [look, tle, het]
    · (simp [look, tle]; omega)
  · have e : i = l.length := by omega
    subst e
    have k5 := hex02 (ml := ml) (encA l) (by omega)
    refine gFs [.f] rfl (rd_exit rfl ?_)
    rw [List.take_of_length_le (Nat.le_refl _)]
    refine gFs [cc k5] rfl (ret_of rfl ?_ trivial trivial)
    simp [tle, tleL, look]
theorem rAEnc (l : List Att) (hl : l.length ≤ 100000) : Ret P (C ml) 157 [.sl l.length (attCells l)] (.tup [.s (aEnc l), .i .i64 (atErr l)]) := by
  refine hR Tryz.func157 ?_
  have k1 := rACheck (ml := ml) l hl
  unfold aEnc
  by_cases ho : atOk l = true
  · have e0 : atErr l = 0 := by unfold atErr; rw [if_pos ho]
    have k2 := rDigitsA (ml := ml) l ho
    rw [e0] at k1 ⊢
    rw [if_pos ho]
    refine gFs [cc k1, .f, cc k2] rfl (ret_of rfl ?_ trivial trivial)
    simp [tle, tleL, look]
  · have e0 : atErr l = 11 := by unfold atErr; rw [if_neg ho]
    rw [e0] at k1 ⊢
    rw [if_neg ho]
    refine gFs [cc k1, .t] rfl (ret_of rfl ?_ trivial trivial)
    simp [tle, tleL, look]
def oTupN (x : List Opt × Int) : T := match x.1 with
  | [] => .tup [.nsl, .i .i64 x.2]
  | l => .tup [.sl l.length (optCells l), .i .i64 x.2]
theorem optsA_eq (l : List Att) : optsA l = if atOk l = true then (if aEnc l = [] then ([], 0) else if (aEnc l).length > 9000 then ([], 4) else ([([49, 48], aEnc l)], 0)) else ([], 11) := by
  unfold optsA aEnc
  by_cases ho : atOk l = true
  · simp only [if_pos ho]
    have : hexs (encA l) = [] ↔ l = [] := by
      rw [← encA_nil l]
      constructor
      · intro h
        have := congrArg List.length h
        rw [hexs_length, List.length_nil] at this
        exact List.length_eq_zero_iff.1 (by omega)
      · intro h; rw [h]; rfl
    simp only [this]
  · simp only [if_neg ho]
theorem pOptions0 (l : List Att) (hl : l.length ≤ 100000) : Ret P (C ml) 145 [.sl l.length (attCells l)] (oTupN (optsA l)) := by
  refine hR Tryz.func145 ?_
  have k1 := pAEnc (ml := ml) l hl
  rw [optsA_eq]
  by_cases ho : atOk l = true
  · have e0 : atErr l = 0 := by unfold atErr; rw [if_pos ho]
    rw [e0] at k1
    rw [if_pos ho]
    generalize aEnc l = q at *
    by_cases hq : q = []
    · subst hq
      rw [if_pos rfl]
      refine gFs [cc k1, .f, .t] rfl (ret_of rfl ?_ trivial trivial)
      simp [tle, tleL, look, oTupN]
    · rw [if_neg hq]
      have hqb : (q == []) = false := by simpa using hq
      by_cases h9 : q.length > 9000
      · rw [if_pos h9]
        refine gFs [cc k1, .f, .f, .t] rfl (ret_of rfl ?_ trivial trivial)
        simp [tle, tleL, look, oTupN]
      · rw [if_neg h9]
        refine g_end_frz 25 ?_
        refine gFs [cc k1, .f, .f, .f] rfl ⟨rfl, _, _, rfl, ret_of rfl ?_ trivial trivial⟩
        exact ⟨rfl, rfl, rfl⟩
  · have e0 : atErr l = 11 := by unfold atErr; rw [if_neg ho]
    rw [e0] at k1
    rw [if_neg ho]
    refine gFs [cc k1, .t] rfl (ret_of rfl ?_ trivial trivial)
    simp [tle, tleL, look, oTupN]
theorem rOptions0 (l : List Att) (hl : l.length ≤ 100000) : Ret P (C ml) 91 [.sl l.length (attCells l)] (oTupN (optsA l)) := by
  refine hR Tryz.func91 ?_
  have k1 := rAEnc (ml := ml) l hl
  unfold optsA
  by_cases ho : atOk l = true
  · have e0 : atErr l = 0 := by unfold atErr; rw [if_pos ho]
    have ea : aEnc l = hexs (encA l) := by unfold aEnc; rw [if_pos ho]
    rw [e0, ea] at k1
    rw [if_pos ho]
    generalize hexs (encA l) = q at *
    by_cases hq : l = []
    · subst hq
      rw [if_pos rfl]
      refine gFs [cc k1, .f, .t] rfl (ret_of rfl ?_ trivial trivial)
      simp [tle, tleL, look, oTupN]
    · rw [if_neg hq]
      have hlp : l.length ≠ 0 := fun e => hq (List.length_eq_zero_iff.1 e)
      by_cases h9 : q.length > 9000
      · rw [if_pos h9]
        refine gFs [cc k1, .f, .f, .t] rfl (ret_of rfl ?_ trivial trivial)
        simp [tle, tleL, look, oTupN]
      · rw [if_neg h9]
        refine g_end_frz 24 ?_
        refine gFs [cc k1, .f, .f, .f] rfl ⟨rfl, _, _, rfl, ret_of rfl ?_ trivial trivial⟩
        exact ⟨rfl, rfl, rfl⟩
  · have e0 : atErr l = 11 := by unfold atErr; rw [if_neg ho]
    rw [e0] at k1
    rw [if_neg ho]
    refine gFs [cc k1, .t] rfl (ret_of rfl ?_ trivial trivial)
    simp [tle, tleL, look, oTupN]
theorem oTupN_ret {f : FuncId} {args : List T} {x : List Opt × Int} (k : Ret P (C ml) f args (oTupN x)) : Ret P (C ml) f args (.tup [.sl x.1.length (optCells x.1), .i .i64 x.2]) := by
  obtain ⟨l, e⟩ := x
  cases l with
  | nil => exact ret_out1 k
  | cons o l => exact k
theorem pOptions (l : List Att) (hl : l.length ≤ 100000) : Ret P (C ml) 145 [.sl l.length (attCells l)] (.tup [.sl (optsA l).1.length (optCells (optsA l).1), .i .i64 (optsA l).2]) := oTupN_ret (pOptions0 l hl)
theorem rOptions (l : List Att) (hl : l.length ≤ 100000) : Ret P (C ml) 91 [.sl l.length (attCells l)] (.tup [.sl (optsA l).1.length (optCells (optsA l).1), .i .i64 (optsA l).2]) := oTupN_ret (rOptions0 l hl)
end Go.Proofs.YtipomdmlkkifcaaGreatDoor.Vm
