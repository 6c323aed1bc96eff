/- Texts of one proof, gathered: TemplD TemplR. -/
import Derived.Test.YtipomdmlkkifcaaGreatDoorPart15
set_option linter.unusedSimpArgs false
set_option linter.unusedVariables false
set_option linter.unnecessarySimpa false
/- Contracts: templ.take, .Decode, .From. -/
set_option maxRecDepth 100000
namespace Go.Proofs.YtipomdmlkkifcaaGreatDoor.Vm
open Go Go.Proofs Go.RowKit Go.Proofs.YtipomdmlkkifcaaGreatDoor.Flt
variable {ml : Int}
def tkTup (x : Option (Att × List UInt8)) : T := match x with
  | some (a, r) => .tup [.agg [.i .i64 a.1, .s a.2], .s r, .b true]
  | none => .tup [.agg [.i .i64 0, .s []], .s [], .b false]
theorem aTake (s : List UInt8) (hs : s.length ≤ 1000000) : Ret P (C ml) 253 [.s s] (tkTup (takeA s)) := by
  refine hR Tryz.func253 ?_
  have k1 := oCut (ml := ml) s 0 2 (by omega) (by omega) (by omega)
  have k3 := oCut (ml := ml) s 2 1 (by omega) (by omega) (by omega)
  by_cases h3 : s.length < 3
  · have e2 : cutO s 2 1 = [] := by unfold cutO; rw [if_pos (by omega)]
    have k4 : Ret P (C ml) 168 [.s []] (.tup [.i .u64 0, .b false]) := pGet (ml := ml) [] (by simp)
    obtain ⟨n0, b0, k2⟩ : ∃ (n : Int) (b : Bool), Ret P (C ml) 168 [.s (cutO s 0 2)] (.tup [.i .u64 n, .b b]) := ⟨_, _, pGet (ml := ml) (cutO s 0 2) (by have := cutO_length s 0 2 8 (by omega); omega)⟩
    rw [e2] at k3
    have et : takeA s = none := by unfold takeA; rw [if_pos (.inl h3)]
    rw [et]
    cases b0
    · refine gFs [cc k1, cc k2, cc k3, cc k4, .t] rfl (ret_of rfl ?_ trivial trivial)
      simp [tle, tleL, look, tkTup, noRefL, noRef, both]
    · refine gFs [cc k1, cc k2, cc k3, cc k4, .f, .t] rfl (ret_of rfl ?_ trivial trivial)
      simp [tle, tleL, look, tkTup, noRefL, noRef, both]
  · obtain ⟨x, y, z, r, es⟩ : ∃ x y z r, s = x :: y :: z :: r := by
      match s, h3 with
      | x :: y :: z :: r, _ => exact ⟨x, y, z, r, rfl⟩
      | [], h => simp at h
      | [_], h => simp at h
      | [_, _], h => simp at h
    have hl : s.length = r.length + 3 := by rw [es]; rfl
    have hx := x.toNat_lt
    have hy := y.toNat_lt
    have hz := z.toNat_lt
    have e1 : cutO s 0 2 = [x, y] := by unfold cutO; rw [if_neg (by omega), es]; rfl
    have e2 : cutO s 2 1 = [z] := by unfold cutO; rw [if_neg (by omega), es]; rfl
    rw [e1] at k1
    rw [e2] at k3
    have g1 : getN [x, y] = x.toNat * 256 + y.toNat := by simp [getN]
    have g2 : getN [z] = z.toNat := by simp [getN]
    have k2 : Ret P (C ml) 168 [.s [x, y]] (.tup [.i .u64 ((x.toNat * 256 + y.toNat : Nat) : Int), .b true]) := by rw [← g1]; exact pGet (ml := ml) [x, y] (by simp)
    have k4 : Ret P (C ml) 168 [.s [z]] (.tup [.i .u64 (z.toNat : Int), .b true]) := by rw [← g2]; exact pGet (ml := ml) [z] (by simp)
    have w1 : IntKind.i64.wrap (z.toNat : Int) = z.toNat := w64 (by omega) (by omega)
    have w2 : IntKind.i64.wrap (3 + (z.toNat : Int)) = 3 + z.toNat := w64 (by omega) (by omega)
    have w3 : IntKind.u64.wrap (3 + (z.toNat : Int)) = 3 + z.toNat := by rw [wrap_u64]; omega
    have w4 : IntKind.i64.wrap ((x.toNat * 256 + y.toNat : Nat) : Int) = (x.toNat * 256 + y.toNat : Nat) := w64 (by omega) (by omega)
    have et : takeA s = if s.length < 3 + z.toNat then none else some ((((256 * x.toNat + y.toNat : Nat) : Int), r.take z.toNat), r.drop z.toNat) := by
      unfold takeA
      rw [hl, es]
      simp only [List.getD_cons_succ, List.getD_cons_zero, List.drop_succ_cons, List.drop_zero, Nat.add_comm 3]
      by_cases hc : r.length + 3 < z.toNat + 3
      · rw [if_pos (.inr hc), if_pos hc]
      · rw [if_neg (by omega), if_neg hc]
    rw [et]
    by_cases hc : s.length < 3 + z.toNat
    · rw [if_pos hc]
      have c1 : decide ((s.length : Int) < IntKind.i64.wrap (3 + IntKind.i64.wrap (z.toNat : Int))) = true := decide_eq_true (by rw [w1, w2]; omega)
      refine gFs [cc k1, cc k2, cc k3, cc k4, .f, .f, .t] rfl (ret_of rfl ?_ trivial trivial)
      simp [tle, tleL, look, tkTup, noRefL, noRef, both]
    · rw [if_neg hc]
      have c1 : decide ((s.length : Int) < IntKind.i64.wrap (3 + IntKind.i64.wrap (z.toNat : Int))) = false := decide_eq_false (by rw [w1, w2]; omega)
      have k5 := oCut (ml := ml) s 3 (IntKind.i64.wrap (z.toNat : Int)) (by omega) (by omega) (by omega)
      have e5 : cutO s 3 (IntKind.i64.wrap (z.toNat : Int)) = r.take z.toNat := by
        rw [w1]
        unfold cutO
        split
        · rename_i h
          have : z.toNat = 0 ∨ r = [] := by
            rcases h with h | h | h
            · omega
            · exact .inr (List.length_eq_zero_iff.1 (by omega))
            · exact .inl (by omega)
          rcases this with h | h
          · rw [h]; rfl
          · rw [h]; simp
        · rw [es]; rfl
      rw [e5] at k5
      have c2 : 0 ≤ IntKind.u64.wrap (3 + (z.toNat : Int)) ∧ IntKind.u64.wrap (3 + (z.toNat : Int)) ≤ s.length := by rw [w3]; omega
      have e6 : s.drop (IntKind.u64.wrap (3 + (z.toNat : Int))).toNat = r.drop z.toNat := by
        rw [w3, show (3 + (z.toNat : Int)).toNat = z.toNat + 3 by omega, es]; rfl
      refine gFs [cc k1, cc k2, cc k3, cc k4, .f, .f, .f, cc k5] rfl (ret_of rfl ?_ trivial trivial)
      have e7 : T.agg [.i .i64 (IntKind.i64.wrap ((x.toNat * 256 + y.toNat : Nat) : Int)), .s (r.take z.toNat)] = T.agg [.i .i64 ((256 * x.toNat + y.toNat : Nat) : Int), .s (r.take z.toNat)] := by rw [w4, Nat.mul_comm]
      exact ⟨⟨e7, rfl⟩, congrArg T.s e6, .inr rfl, rfl⟩
theorem attCells_append (l m : List Att) : attCells (l ++ m) = attCells l ++ attCells m := by
  induction l with
  | nil => rfl
  | cons o l ih => simp [attCells, ih]
def aL (s : List UInt8) (i : Nat) : List Att := match decAs s i with | some x => x.1 | none => []
def aR (s : List UInt8) (i : Nat) : List UInt8 := match decAs s i with | some x => x.2 | none => []
theorem decAs_eta {s : List UInt8} {i : Nat} (h : (decAs s i).isSome = true) : decAs s i = some (aL s i, aR s i) := by
  unfold aL aR
  cases e : decAs s i with
  | none => rw [e] at h; cases h
  | some x => rfl
theorem decAs_next {s : List UInt8} {i : Nat} (h : (decAs s i).isSome = true) {a : Att} {r : List UInt8} (ho : takeA (aR s i) = some (a, r)) : (decAs s (i + 1)).isSome = true ∧ aL s (i + 1) = aL s i ++ [a] ∧ aR s (i + 1) = r := by
  have e := decAs_eta h
  have e1 : decAs s (i + 1) = some (aL s i ++ [a], r) := by simp only [decAs, e, ho]
  refine ⟨by rw [e1]; rfl, ?_, ?_⟩
  · show (match decAs s (i + 1) with | some x => x.1 | none => []) = _; rw [e1]
  · show (match decAs s (i + 1) with | some x => x.2 | none => []) = _; rw [e1]
/-- What Decode gives, nil where there is none. -/
def dRes (x : List Att × Int) : T := match x.1 with
  | [] => .tup [.nsl, .i .i64 x.2]
  | l => .tup [.sl l.length (attCells l), .i .i64 x.2]
theorem dRes_ret {f : FuncId} {args : List T} {x : List Att × Int} (k : Ret P (C ml) f args (dRes x)) : Ret P (C ml) f args (.tup [.sl x.1.length (attCells x.1), .i .i64 x.2]) := by
  obtain ⟨l, e⟩ := x
  cases l with
  | nil => exact ret_out1 k
  | cons o l => exact k
theorem dRes_nil (e : Int) : dRes ([], e) = .tup [.nsl, .i .i64 e] := rfl
theorem dRes_ne {l : List Att} {e : Int} (h : l ≠ []) : dRes (l, e) = .tup [.sl l.length (attCells l), .i .i64 e] := by
  cases l with
  | nil => exact absurd rfl h
  | cons o l => rfl
theorem aCheckT (l : List Att) (hl : l.length ≤ 100000) (n : Nat) (hn : n = l.length) : Ret P (C ml) 140 [.sl n (attCells l)] (.i .i64 (atErr l)) := by subst hn; exact aCheck l hl
theorem aCheckNil : Ret P (C ml) 140 [.nsl] (.i .i64 0) := ret_nil1 (aCheck (ml := ml) [] (by decide))
theorem aDecode0 (t : List UInt8) (ht : t.length ≤ 100000) : Ret P (C ml) 202 [.s t] (dRes (decT t)) := by
  refine hR Tryz.func202 ?_
  have k0 := dUnhex (ml := ml) t (by omega)
  unfold decT
  cases hu : unhexO t with
  | none =>
    rw [hu] at k0
    simp only [Option.getD, Option.isSome] at k0 ⊢
    refine gRs [cc k0] rfl ?_
    refine g_loop (fun _ : Nat => [(5, .b false)]) (fun _ => []) (fun i => i = 0) (fun _ => 0) 0 ⟨⟨?_, trivial⟩, trivial, trivial⟩ rfl ?_
    · exact .inl rfl
    rintro i rfl
    refine gFs [.f] rfl (rd_exit rfl ?_)
    refine gFs [.t] rfl (ret_of rfl ?_ trivial trivial)
    simp [tle, tleL, look, dRes_nil]
  | some s =>
    rw [hu] at k0
    have hsl : s.length ≤ 50000 := by
      have := hexs_unhexO t s hu
      have := congrArg List.length this
      rw [hexs_length] at this; omega
    simp only [Option.getD, Option.isSome] at k0 ⊢
    refine gRs [cc k0] rfl ?_
    refine g_loop (fun x : Nat × Bool => [(4, .s (if x.2 then [] else aR s x.1)), (5, .b (!x.2)), (6, outT 28 (if x.2 then x.1 + 1 else x.1))]) (fun x => outH 28 2 (attCells (if x.2 then aL s x.1 ++ [(0, [])] else aL s x.1)) (if x.2 then x.1 + 1 else x.1)) (fun x => (decAs s x.1).isSome = true ∧ (x.2 = true → aR s x.1 ≠ [] ∧ takeA (aR s x.1) = none)) (fun x => if x.2 then 0 else (aR s x.1).length + 1) (0, false) ⟨⟨?_, ?_, ?_, trivial⟩, trivial, trivial⟩ ⟨rfl, fun h => by cases h⟩ ?_
    · exact rfl
    · exact .inl rfl
    · exact rfl
    rintro ⟨i, f⟩ ⟨p1, p2⟩
    have p1 : (decAs s i).isSome = true := p1
    have p2 : f = true → aR s i ≠ [] ∧ takeA (aR s i) = none := p2
    have ed := decAs_eta p1
    obtain ⟨hlen, hrl⟩ := decAs_len ed
    cases f with
    | true =>
      obtain ⟨q1, q2⟩ := p2 rfl
      rw [decAL_bad ed q1 q2]
      simp only [if_true, Bool.not_true]
      refine gFs [.f] rfl (rd_exit rfl ?_)
      refine gFs [.t] rfl (ret_of rfl ?_ trivial trivial)
      simp [tle, tleL, look, dRes_nil]
    | false =>
      simp only [Bool.false_eq_true, if_false, Bool.not_false]
      by_cases hr : aR s i = []
      · rw [hr] at ed
        rw [decAL_end ed, hr]
        simp only
        rcases Nat.eq_zero_or_pos i with hz | hz
        · have k5 := aCheckNil (ml := ml)
          have e0 : aL s i = [] := List.length_eq_zero_iff.1 (by omega)
          have e1 : atOk [] = true := rfl
          simp only [outT_zero 28 hz, outH_zero 28 2 _ hz]
          rw [e0, if_pos e1]
          refine gFs [.t, .f] rfl (rd_exit rfl ?_)
          refine gFs [.f, cc k5, .f] rfl (ret_of rfl ?_ trivial trivial)
          simp [tle, tleL, look, dRes_nil]
        · simp only [outT_pos 28 hz, outH_pos 28 2 _ hz]
          refine gFs [.t, .f] rfl (rd_exit rfl ?_)
          refine g_frz 28 rfl ?_
          generalize aL s i = L at *
          have hcl : (attCells L).take (i * szOf 2) = attCells L := List.take_of_length_le (by rw [attCells_length]; show _ ≤ i * 2; omega)
          refine g_weak (e' := [(5, .b true), (6, .sl i (attCells L))]) (h' := []) ⟨⟨.inl rfl, congrArg (T.sl i) hcl, trivial⟩, trivial, trivial⟩ ?_
          have k5 := aCheckT (ml := ml) L (by omega) i hlen.symm
          unfold atErr at k5
          by_cases ho : atOk L = true
          · rw [if_pos ho] at k5 ⊢
            rw [dRes_ne (fun e => by rw [e] at hlen; simp at hlen; omega), hlen]
            refine gFs [.f, cc k5, .f] rfl (ret_of rfl ?_ trivial trivial)
            simp [tle, tleL, look]
          · rw [if_neg ho] at k5 ⊢
            refine gFs [.f, cc k5, .t] rfl (ret_of rfl ?_ trivial trivial)
            simp [tle, tleL, look, dRes_nil]
      · have hrb : (aR s i == []) = false := by simpa using hr
        have k1 := aTake (ml := ml) (aR s i) (by omega)
        cases hk : takeA (aR s i) with
        | none =>
          rw [hk] at k1
          simp only [tkTup] at k1
          have q1 : i * 2 = (attCells (aL s i)).length := by rw [attCells_length]; omega
          have zb : (tin (C ml) 60).bytes = 24 := rfl
          have q3 : 1 * (tin (C ml) 60).bytes ≤ 140737488355328 := by rw [zb]; decide
          have q4 : 1 * (tin (C ml) 60).size = 2 := rfl
          have q2 : (i + 1) * (tin (C ml) 60).bytes ≤ 140737488355328 := by rw [zb]; omega
          have hc : attCells (aL s i ++ [(0, [])]) = attCells (aL s i) ++ [.i .i64 0, .s []] := by rw [attCells_append]; rfl
          rcases Nat.eq_zero_or_pos i with hz | hz
          · simp only [outT_zero 28 hz, outH_zero 28 2 _ hz]
            have e0 : aL s i = [] := List.length_eq_zero_iff.1 (by omega)
            refine gFs [.t, .t, cc k1] rfl (rd_next (i, true) ⟨p1, fun _ => ⟨hr, hk⟩⟩ (by simp) ⟨?_, ?_, ?_, trivial⟩ ?_ trivial)
            · exact rfl
            · exact .inl rfl
            · simp only [if_true]; rw [outT_pos 28 (Nat.succ_pos i)]; exact ⟨rfl, rfl, (by omega), rfl, rfl⟩
            · simp only [if_true]; rw [outH_pos 28 2 _ (Nat.succ_pos i), hc, e0]; exact ⟨⟨rfl, rfl, trivial⟩, trivial⟩
          · simp only [outT_pos 28 hz, outH_pos 28 2 _ hz]
            refine gFs [.t, .t, cc k1] rfl (rd_next (i, true) ⟨p1, fun _ => ⟨hr, hk⟩⟩ (by simp) ⟨?_, ?_, ?_, trivial⟩ ?_ trivial)
            · exact rfl
            · exact .inl rfl
            · simp only [if_true]; rw [outT_pos 28 (Nat.succ_pos i)]; exact ⟨rfl, rfl, rfl, rfl, rfl⟩
            · simp only [if_true]; rw [outH_pos 28 2 _ (Nat.succ_pos i), hc]; exact ⟨⟨rfl, rfl, trivial⟩, trivial⟩
        | some x =>
          obtain ⟨⟨n, v⟩, r⟩ := x
          rw [hk] at k1
          simp only [tkTup] at k1
          obtain ⟨n1, n2, n3⟩ := decAs_next p1 hk
          obtain ⟨hlen2, hrl2⟩ := decAs_len (decAs_eta n1)
          have hlt : (aR s (i + 1)).length < (aR s i).length := by
            have := congrArg List.length (takeA_back hk).1
            rw [List.length_append, attB_length] at this
            rw [n3]; omega
          have q1 : i * 2 = (attCells (aL s i)).length := by rw [attCells_length]; omega
          have zb : (tin (C ml) 60).bytes = 24 := rfl
          have q3 : 1 * (tin (C ml) 60).bytes ≤ 140737488355328 := by rw [zb]; decide
          have q4 : 1 * (tin (C ml) 60).size = 2 := rfl
          have q2 : (i + 1) * (tin (C ml) 60).bytes ≤ 140737488355328 := by rw [zb]; omega
          have hc : attCells (aL s (i + 1)) = attCells (aL s i) ++ [.i .i64 n, .s v] := by rw [n2, attCells_append]; rfl
          rcases Nat.eq_zero_or_pos i with hz | hz
          · simp only [outT_zero 28 hz, outH_zero 28 2 _ hz]
            have e0 : aL s i = [] := List.length_eq_zero_iff.1 (by omega)
            rw [e0] at hc
            have hc : attCells (aL s (i + 1)) = [.i .i64 n, .s v] := hc
            refine gFs [.t, .t, cc k1] rfl (rd_next (i + 1, false) ⟨n1, fun h => by cases h⟩ (by simp; omega) ⟨?_, ?_, ?_, trivial⟩ ?_ trivial)
            · exact congrArg T.s n3.symm
            · exact .inl rfl
            · simp only [Bool.false_eq_true, if_false]; rw [outT_pos 28 (Nat.succ_pos i)]; exact ⟨rfl, rfl, (by omega), rfl, rfl⟩
            · simp only [Bool.false_eq_true, if_false]; rw [outH_pos 28 2 _ (Nat.succ_pos i), hc]; exact ⟨⟨rfl, rfl, trivial⟩, trivial⟩
          · simp only [outT_pos 28 hz, outH_pos 28 2 _ hz]
            refine gFs [.t, .t, cc k1] rfl (rd_next (i + 1, false) ⟨n1, fun h => by cases h⟩ (by simp; omega) ⟨?_, ?_, ?_, trivial⟩ ?_ trivial)
            · exact congrArg T.s n3.symm
            · exact .inl rfl
            · simp only [Bool.false_eq_true, if_false]; rw [outT_pos 28 (Nat.succ_pos i)]; exact ⟨rfl, rfl, rfl, rfl, rfl⟩
            · simp only [Bool.false_eq_true, if_false]; rw [outH_pos 28 2 _ (Nat.succ_pos i), hc]; exact ⟨⟨rfl, rfl, trivial⟩, trivial⟩
theorem aFrom0 (l : List Opt) (hl : l.length ≤ 1000) (hd : (l.getD 0 ([], [])).2.length ≤ 100000) : Ret P (C ml) 129 [.sl l.length (optCells l)] (dRes (fromO l)) := by
  refine hR Tryz.func129 ?_
  match l, hl, hd with
  | [], _, _ =>
    refine gFs [.t] rfl (ret_of rfl ?_ trivial trivial)
    simp [tle, tleL, look, dRes, fromO]
  | [(id, d)], _, hd =>
    have hd : d.length ≤ 100000 := hd
    have k1 := aDecode0 (ml := ml) d hd
    have ef : fromO [(id, d)] = if id = [49, 48] ∧ d ≠ [] then decT d else ([], 5) := rfl
    rw [ef]
    have h2 : (optCells [(id, d)])[0]? = some (.s id) := rfl
    have h3 : (optCells [(id, d)])[1]? = some (.s d) := rfl
    by_cases h0 : id = [49, 48]
    · by_cases h1 : d = []
      · rw [if_neg (fun h => h.2 h1)]
        have b0 : (id == [49, 48]) = true := by simp [h0]
        have b1 : (d == []) = true := by simp [h1]
        refine gFs [.f, .f, .a, .f, ld1 h3, .t] rfl (ret_of rfl ?_ trivial trivial)
        simp [tle, tleL, look, dRes_nil]
      · rw [if_pos ⟨h0, h1⟩]
        have b0 : (id == [49, 48]) = true := by simp [h0]
        have b1 : (d == []) = false := by simp [h1]
        generalize decT d = q at *
        obtain ⟨m, e⟩ := q
        cases m with
        | nil =>
          refine gFs [.f, .f, .a, .f, ld1 h3, .f, ld1 h3, cc k1] rfl (ret_of rfl ?_ trivial trivial)
          simp [tle, tleL, look, dRes_nil]
        | cons a m =>
          refine gFs [.f, .f, .a, .f, ld1 h3, .f, ld1 h3, cc k1] rfl (ret_of rfl ?_ trivial trivial)
          exact ⟨rfl, rfl, rfl⟩
    · rw [if_neg (fun h => h0 h.1)]
      have b0 : (id == [49, 48]) = false := by simp [h0]
      refine gFs [.f, .f, .a, .t, .t] rfl (ret_of rfl ?_ trivial trivial)
      simp [tle, tleL, look, dRes_nil]
  | o :: o' :: l, hl, _ =>
    have ef : fromO (o :: o' :: l) = ([], 5) := rfl
    rw [ef]
    have hn : (o :: o' :: l).length = l.length + 2 := rfl
    generalize (o :: o' :: l).length = n at *
    refine gFs [.f, .t, .t] rfl (ret_of rfl ?_ trivial trivial)
    simp [tle, tleL, look, dRes_nil]
theorem aFrom (l : List Opt) (hl : l.length ≤ 1000) (hd : (l.getD 0 ([], [])).2.length ≤ 100000) : Ret P (C ml) 129 [.sl l.length (optCells l)] (.tup [.sl (fromO l).1.length (attCells (fromO l).1), .i .i64 (fromO l).2]) := dRes_ret (aFrom0 l hl hd)
end Go.Proofs.YtipomdmlkkifcaaGreatDoor.Vm
/- Contracts: clavigerref33.Decode, .From. -/
set_option maxRecDepth 100000
namespace Go.Proofs.YtipomdmlkkifcaaGreatDoor.Vm
open Go Go.Proofs Go.RowKit Go.Proofs.YtipomdmlkkifcaaGreatDoor.Flt
variable {ml : Int}
theorem rACheckT (l : List Att) (hl : l.length ≤ 100000) (n : Nat) (hn : n = l.length) : Ret P (C ml) 57 [.sl n (attCells l)] (.i .i64 (atErr l)) := by subst hn; exact rACheck l hl
theorem rACheckNil : Ret P (C ml) 57 [.nsl] (.i .i64 0) := ret_nil1 (rACheck (ml := ml) [] (by decide))
theorem rADecode0 (t : List UInt8) (ht : t.length ≤ 100000) : Ret P (C ml) 138 [.s t] (dRes (decT t)) := by
  refine hR Tryz.func138 ?_
  have k0 := unhex02 (ml := ml) t (by omega)
  unfold decT
  cases hu : unhexO t with
  | none =>
    rw [hu] at k0
    simp only [Option.getD, Option.isSome] at k0 ⊢
    refine gFs [cc k0, .t] rfl (ret_of rfl ?_ trivial trivial)
    simp [tle, tleL, look, dRes_nil]
  | some s =>
    rw [hu] at k0
    have hsl : s.length ≤ 50000 := by
      have := hexs_unhexO t s hu
      have := congrArg List.length this
      rw [hexs_length] at this; omega
    simp only [Option.getD, Option.isSome] at k0 ⊢
    refine gRs [cc k0, .f] rfl ?_
    refine g_loop (fun i : Nat => [(4, .s (aR s i)), (6, outT 49 i)]) (fun i => outH 49 2 (attCells (aL s i)) i) (fun i => (decAs s i).isSome = true) (fun i => (aR s i).length) 0 ⟨⟨rfl, rfl, trivial⟩, trivial, trivial⟩ rfl ?_
    intro i p1
    have ed := decAs_eta p1
    obtain ⟨hlen, hrl⟩ := decAs_len ed
    by_cases hr : aR s i = []
    · rw [hr] at ed
      have hr0 : (aR s i).length = 0 := by rw [hr]; rfl
      rw [decAL_end ed]
      generalize aR s i = r at *
      simp only
      rcases Nat.eq_zero_or_pos i with hz | hz
      · have k5 := rACheckNil (ml := ml)
        have e0 : aL s i = [] := List.length_eq_zero_iff.1 (by omega)
        have e1 : atOk [] = true := rfl
        simp only [outT_zero 49 hz, outH_zero 49 2 _ hz]
        rw [e0, if_pos e1]
        refine gFs [.f] rfl (rd_exit rfl ?_)
        refine gFs [cc k5, .f] rfl (ret_of rfl ?_ trivial trivial)
        simp [tle, tleL, look, dRes_nil]
      · simp only [outT_pos 49 hz, outH_pos 49 2 _ hz]
        refine gFs [.f] rfl (rd_exit rfl ?_)
        refine g_frz 49 rfl ?_
        generalize aL s i = L at *
        have hcl : (attCells L).take (i * szOf 2) = attCells L := List.take_of_length_le (by rw [attCells_length]; show _ ≤ i * 2; omega)
        refine g_weak (e' := [(6, .sl i (attCells L))]) (h' := []) ⟨⟨congrArg (T.sl i) hcl, trivial⟩, trivial, trivial⟩ ?_
        have k5 := rACheckT (ml := ml) L (by omega) i hlen.symm
        unfold atErr at k5
        by_cases ho : atOk L = true
        · rw [if_pos ho] at k5 ⊢
          rw [dRes_ne (fun e => by rw [e] at hlen; simp at hlen; omega), hlen]
          refine gFs [cc k5, .f] rfl (ret_of rfl ?_ trivial trivial)
          simp [tle, tleL, look]
        · rw [if_neg ho] at k5 ⊢
          refine gFs [cc k5, .t] rfl (ret_of rfl ?_ trivial trivial)
          simp [tle, tleL, look, dRes_nil]
    · have hpos : 0 < (aR s i).length := List.length_pos_iff.2 hr
      have ht : takeA (aR s i) = if (aR s i).length < 3 ∨ (aR s i).length < 3 + ((aR s i).getD 2 0).toNat then none else some ((((256 * ((aR s i).getD 0 0).toNat + ((aR s i).getD 1 0).toNat : Nat) : Int), ((aR s i).drop 3).take ((aR s i).getD 2 0).toNat), (aR s i).drop (3 + ((aR s i).getD 2 0).toNat)) := rfl
      have hz2 := ((aR s i).getD 2 0).toNat_lt
      have hz1 := ((aR s i).getD 1 0).toNat_lt
      have hz0 := ((aR s i).getD 0 0).toNat_lt
      have w0 : IntKind.i64.wrap (((aR s i).getD 2 0).toNat : Int) = ((aR s i).getD 2 0).toNat := w64 (by omega) (by omega)
      have w2 : IntKind.i64.wrap (3 + (((aR s i).getD 2 0).toNat : Int)) = 3 + ((aR s i).getD 2 0).toNat := w64 (by omega) (by omega)
      have w5 : IntKind.i64.wrap (3 + IntKind.i64.wrap (bt (aR s i) 2)) = 3 + ((aR s i).getD 2 0).toNat := by rw [show bt (aR s i) 2 = (((aR s i).getD 2 0).toNat : Int) from rfl, w0, w2]
      by_cases h3 : (aR s i).length < 3
      · rw [decAL_bad ed hr (by rw [ht, if_pos (.inl h3)])]
        simp only
        generalize aR s i = r at *
        rcases Nat.eq_zero_or_pos i with hz | hz
        · simp only [outT_zero 49 hz, outH_zero 49 2 _ hz]
          refine gFs [.t, .t] rfl (rd_ret (ret_of rfl ?_ trivial trivial))
          simp [tle, tleL, look, dRes_nil]
        · simp only [outT_pos 49 hz, outH_pos 49 2 _ hz]
          refine gFs [.t, .t] rfl (rd_ret (ret_of rfl ?_ trivial trivial))
          simp [tle, tleL, look, dRes_nil]
      · by_cases h4 : (aR s i).length < 3 + ((aR s i).getD 2 0).toNat
        · rw [decAL_bad ed hr (by rw [ht, if_pos (.inr h4)])]
          have c1 : decide (((aR s i).length : Int) < IntKind.i64.wrap (3 + IntKind.i64.wrap (bt (aR s i) 2))) = true := decide_eq_true (by rw [w5]; omega)
          simp only
          generalize aR s i = r at *
          rcases Nat.eq_zero_or_pos i with hz | hz
          · simp only [outT_zero 49 hz, outH_zero 49 2 _ hz]
            refine gFs [.t, .f, .t] rfl (rd_ret (ret_of rfl ?_ trivial trivial))
            simp [tle, tleL, look, dRes_nil]
          · simp only [outT_pos 49 hz, outH_pos 49 2 _ hz]
            refine gFs [.t, .f, .t] rfl (rd_ret (ret_of rfl ?_ trivial trivial))
            simp [tle, tleL, look, dRes_nil]
        · rw [if_neg (by omega)] at ht
          have c1 : decide (((aR s i).length : Int) < IntKind.i64.wrap (3 + IntKind.i64.wrap (bt (aR s i) 2))) = false := decide_eq_false (by rw [w5]; omega)
          obtain ⟨n1, n2, n3⟩ := decAs_next p1 ht
          obtain ⟨hlen2, hrl2⟩ := decAs_len (decAs_eta n1)
          have hlt : (aR s (i + 1)).length < (aR s i).length := by rw [n3, List.length_drop]; omega
          have hc : attCells (aL s (i + 1)) = attCells (aL s i) ++ [.i .i64 (256 * ((aR s i).getD 0 0).toNat + ((aR s i).getD 1 0).toNat : Nat), .s (((aR s i).drop 3).take ((aR s i).getD 2 0).toNat)] := by rw [n2, attCells_append]; rfl
          have q1 : i * 2 = (attCells (aL s i)).length := by rw [attCells_length]; omega
          have zb : (tin (C ml) 60).bytes = 24 := rfl
          have q3 : 1 * (tin (C ml) 60).bytes ≤ 140737488355328 := by rw [zb]; decide
          have q4 : 1 * (tin (C ml) 60).size = 2 := rfl
          have q2 : (i + 1) * (tin (C ml) 60).bytes ≤ 140737488355328 := by rw [zb]; omega
          generalize hgr : aR s i = r at *
          have v1 : IntKind.i64.wrap (IntKind.i64.wrap (256 * IntKind.i64.wrap (bt r 0)) + IntKind.i64.wrap (bt r 1)) = ((256 * (r.getD 0 0).toNat + (r.getD 1 0).toNat : Nat) : Int) := by
            have x0 : bt r 0 = ((r.getD 0 0).toNat : Int) := rfl
            have x1 : bt r 1 = ((r.getD 1 0).toNat : Int) := rfl
            rw [x0, x1]
            have y0 : IntKind.i64.wrap ((r.getD 0 0).toNat : Int) = (r.getD 0 0).toNat := w64 (by omega) (by omega)
            have y1 : IntKind.i64.wrap ((r.getD 1 0).toNat : Int) = (r.getD 1 0).toNat := w64 (by omega) (by omega)
            rw [y0, y1]
            have y2 : IntKind.i64.wrap (256 * ((r.getD 0 0).toNat : Int)) = 256 * (r.getD 0 0).toNat := w64 (by omega) (by omega)
            rw [y2, w64 (by omega) (by omega)]; omega
          have v2 : (r.take (IntKind.i64.wrap (3 + IntKind.i64.wrap (bt r 2))).toNat).drop 3 = (r.drop 3).take (r.getD 2 0).toNat := by
            rw [w5, show (3 + ((r.getD 2 0).toNat : Int)).toNat = 3 + (r.getD 2 0).toNat by omega, List.drop_take, Nat.add_sub_cancel_left]
          have v3 : r.drop (IntKind.i64.wrap (3 + IntKind.i64.wrap (bt r 2))).toNat = aR s (i + 1) := by
            rw [w5, n3, show (3 + ((r.getD 2 0).toNat : Int)).toNat = 3 + (r.getD 2 0).toNat by omega]
          have v4 : 3 ≤ IntKind.i64.wrap (3 + IntKind.i64.wrap (bt r 2)) ∧ IntKind.i64.wrap (3 + IntKind.i64.wrap (bt r 2)) ≤ r.length := by rw [w5]; omega
          have v5 : 0 ≤ IntKind.i64.wrap (3 + IntKind.i64.wrap (bt r 2)) ∧ IntKind.i64.wrap (3 + IntKind.i64.wrap (bt r 2)) ≤ r.length := by rw [w5]; omega
          rw [← v1, ← v2] at hc
          have d3 : decide ((r.length : Int) < 3) = false := decide_eq_false (by omega)
          rcases Nat.eq_zero_or_pos i with hz | hz
          · simp only [outT_zero 49 hz, outH_zero 49 2 _ hz]
            have e0 : aL s i = [] := List.length_eq_zero_iff.1 (by omega)
            rw [e0] at hc
            have hc := hc.trans (List.nil_append _)
            refine gF [.t, .f, .f] rfl (rd_next (i + 1) n1 (by show _ < (aR s i).length; rw [hgr]; omega) ⟨?_, ?_, trivial⟩ ?_ trivial)
            · exact congrArg T.s v3
            · rw [outT_pos 49 (Nat.succ_pos i)]; exact ⟨rfl, rfl, (by omega), rfl, rfl⟩
            · rw [outH_pos 49 2 _ (Nat.succ_pos i), hc]; exact ⟨⟨rfl, rfl, trivial⟩, trivial⟩
          · simp only [outT_pos 49 hz, outH_pos 49 2 _ hz]
            refine gF [.t, .f, .f] rfl (rd_next (i + 1) n1 (by show _ < (aR s i).length; rw [hgr]; omega) ⟨?_, ?_, trivial⟩ ?_ trivial)
            · exact congrArg T.s v3
            · rw [outT_pos 49 (Nat.succ_pos i)]; exact ⟨rfl, rfl, rfl, rfl, rfl⟩
            · rw [outH_pos 49 2 _ (Nat.succ_pos i), hc]; exact ⟨⟨rfl, rfl, trivial⟩, trivial⟩
theorem rAFrom0 (l : List Opt) (hl : l.length ≤ 1000) (hd : (l.getD 0 ([], [])).2.length ≤ 100000) : Ret P (C ml) 76 [.sl l.length (optCells l)] (dRes (fromO l)) := by
  refine hR Tryz.func76 ?_
  match l, hl, hd with
  | [], _, _ =>
    refine gFs [.t] rfl (ret_of rfl ?_ trivial trivial)
    simp [tle, tleL, look, dRes, fromO]
  | [(id, d)], _, hd =>
    have hd : d.length ≤ 100000 := hd
    have k1 := rADecode0 (ml := ml) d hd
    have ef : fromO [(id, d)] = if id = [49, 48] ∧ d ≠ [] then decT d else ([], 5) := rfl
    rw [ef]
    have h2 : (optCells [(id, d)])[0]? = some (.s id) := rfl
    have h3 : (optCells [(id, d)])[1]? = some (.s d) := rfl
    by_cases h0 : id = [49, 48]
    · by_cases h1 : d = []
      · rw [if_neg (fun h => h.2 h1)]
        have b0 : (id == [49, 48]) = true := by simp [h0]
        have b1 : (d == []) = true := by simp [h1]
        refine gFs [.f, .f, .a, .f, ld1 h3, .t] rfl (ret_of rfl ?_ trivial trivial)
        simp [tle, tleL, look, dRes]
      · rw [if_pos ⟨h0, h1⟩]
        have b0 : (id == [49, 48]) = true := by simp [h0]
        have b1 : (d == []) = false := by simp [h1]
        generalize decT d = q at *
        obtain ⟨m, e⟩ := q
        cases m with
        | nil =>
          refine gFs [.f, .f, .a, .f, ld1 h3, .f, ld1 h3, cc k1] rfl (ret_of rfl ?_ trivial trivial)
          simp [tle, tleL, look, dRes_nil]
        | cons a m =>
          refine gFs [.f, .f, .a, .f, ld1 h3, .f, ld1 h3, cc k1] rfl (ret_of rfl ?_ trivial trivial)
          exact ⟨rfl, rfl, rfl⟩
    · rw [if_neg (fun h => h0 h.1)]
      have b0 : (id == [49, 48]) = false := by simp [h0]
      refine gFs [.f, .f, .a, .t] rfl (ret_of rfl ?_ trivial trivial)
      simp [tle, tleL, look, dRes]
  | o :: o' :: l, hl, _ =>
    have ef : fromO (o :: o' :: l) = ([], 5) := rfl
    rw [ef]
    have hn : (o :: o' :: l).length = l.length + 2 := rfl
    generalize (o :: o' :: l).length = n at *
    refine gFs [.f, .t] rfl (ret_of rfl ?_ trivial trivial)
    simp [tle, tleL, look, dRes]
theorem rAFrom (l : List Opt) (hl : l.length ≤ 1000) (hd : (l.getD 0 ([], [])).2.length ≤ 100000) : Ret P (C ml) 76 [.sl l.length (optCells l)] (.tup [.sl (fromO l).1.length (attCells (fromO l).1), .i .i64 (fromO l).2]) := dRes_ret (rAFrom0 l hl hd)
end Go.Proofs.YtipomdmlkkifcaaGreatDoor.Vm
