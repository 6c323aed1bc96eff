/- Texts of one proof, gathered: RefC RefD. -/
import Derived.Test.YtipomdmlkkifcaaGreatDoorPart25
import Derived.Test.YtipomdmlkkifcaaGreatDoorPart21
import Derived.Test.YtipomdmlkkifcaaGreatDoorPart19
import Derived.Test.YtipomdmlkkifcaaGreatDoorPart22
set_option linter.unusedSimpArgs false
set_option linter.unusedVariables false
set_option linter.unnecessarySimpa false
/- Contracts: clavigerref08: Rounds, Constant, Words, Keys; clavigerref09: forward, backward, Encrypt, Many. -/
set_option maxRecDepth 100000
namespace Go.Proofs.YtipomdmlkkifcaaGreatDoor.Vm
open Go Go.Proofs Go.RowKit
variable {ml : Int}
theorem rRounds8 (n : Nat) (hn : n ≤ 1000000) : Ret P (C ml) 273 [.i .i64 n] (.i .i64 (nRounds n)) := by
  unfold nRounds
  have w : IntKind.i64.wrap (IntKind.i64.wrap (((n : Nat) : Int).tdiv 4) + 6) = ((6 + n / 4 : Nat) : Int) := by rw [Int.tdiv_eq_ediv_of_nonneg (by omega), w64 (x := (n : Int) / 4) (by omega) (by omega), w64 (by omega) (by omega)]; omega
  by_cases h1 : n = 16
  · have c1 : ((n : Int) == 16) = true := by simp; omega
    rw [if_pos (.inl h1)]
    refine hR Tryz.func273 ?_
    refine gF [.t] rfl (ret_of rfl ?_ trivial trivial)
    exact congrArg (T.i .i64) w
  have c1 : ((n : Int) == 16) = false := by simp; omega
  by_cases h2 : n = 24
  · have c2 : ((n : Int) == 24) = true := by simp; omega
    rw [if_pos (.inr (.inl h2))]
    refine hR Tryz.func273 ?_
    refine gF [.f, .t] rfl (ret_of rfl ?_ trivial trivial)
    exact congrArg (T.i .i64) w
  have c2 : ((n : Int) == 24) = false := by simp; omega
  by_cases h3 : n = 32
  · have c3 : ((n : Int) == 32) = true := by simp; omega
    rw [if_pos (.inr (.inr h3))]
    refine hR Tryz.func273 ?_
    refine gF [.f, .f, .t] rfl (ret_of rfl ?_ trivial trivial)
    exact congrArg (T.i .i64) w
  have c3 : ((n : Int) == 32) = false := by simp; omega
  rw [if_neg (by omega)]
  refine hR Tryz.func273 ?_
  refine gF [.f, .f, .f] rfl (ret_of rfl ?_ trivial trivial)
  exact rfl
theorem rConst (i : Nat) (h1 : 1 ≤ i) (h2 : i ≤ 200) : Ret P (C ml) 312 [.i .i64 i] (.i .u8 (bi (rc (i - 1)))) := by
  have k1 := rPow2 (ml := ml) (i - 1) (by omega)
  have c1 : decide ((i : Int) < 1) = false := decide_eq_false (by omega)
  have c2 : decide ((i : Int) > 255) = false := decide_eq_false (by omega)
  have w : IntKind.i64.wrap ((i : Int) - 1) = ((i - 1 : Nat) : Int) := by rw [w64 (by omega) (by omega)]; omega
  rw [← w] at k1
  clear w
  generalize rc (i - 1) = z at *
  refine hR Tryz.func312 ?_
  refine gF [.f, .f, cc k1] rfl (ret_of rfl ?_ trivial trivial)
  exact rfl
/-- A slice of texts that grows from nil. -/
def nsT (id : Nat) : Nat → T
  | 0 => .nsl
  | i + 1 => .ref id 0 0 (i + 1)
def nsH (id : Nat) (cs : List T) : Nat → Heap
  | 0 => []
  | _ + 1 => [(id, 0, .row true (.row 1 9) cs)]
theorem nsT_z {id i : Nat} (h : i = 0) : nsT id i = .nsl := by subst h; rfl
theorem nsH_z {id i : Nat} {cs : List T} (h : i = 0) : nsH id cs i = [] := by subst h; rfl
theorem nsT_p {id i : Nat} (h : 0 < i) : nsT id i = .ref id 0 0 i := by cases i with | zero => omega | succ i => rfl
theorem nsH_p {id i : Nat} {cs : List T} (h : 0 < i) : nsH id cs i = [(id, 0, .row true (.row 1 9) cs)] := by cases i with | zero => omega | succ i => rfl
theorem txt_at (l : List (List UInt8)) (j : Nat) (k : Nat) (h : j < l.length) (hk : k = j) : (l.map T.s)[k]? = some (.s (l.getD j [])) := by
  subst hk; rw [List.getElem?_map, List.getElem?_eq_getElem h]; simp [h]
theorem wAt_suc (key : List UInt8) (n i : Nat) : (wAt key n (i + 1)).map T.s = (wAt key n i).map T.s ++ [.s (wNext key n (wAt key n i) i)] := by rw [wAt]; simp
theorem cut_4 (s : List UInt8) (a b : Nat) (h : b = a + 4) : (s.take b).drop a = (s.drop a).take 4 := by
  subst h; rw [List.drop_take]; congr 1; omega
theorem rWords (key : List UInt8) (h : nRounds key.length ≠ 0) : Ret P (C ml) 274 [.s key] (.sl (wordsL key).length ((wordsL key).map .s)) := by
  have hk := nR_pos h
  have hRn : nRounds key.length ≤ 14 := by unfold nRounds; split <;> omega
  have k1 := rRounds8 (ml := ml) key.length (by omega)
  rw [show wordsL key = wAt key (key.length / 4) (4 * nRounds key.length + 4) from rfl, wAt_length]
  generalize hn : key.length / 4 = n at *
  generalize nRounds key.length = r at *
  have c1 : ((r : Int) == 0) = false := by simp; omega
  have wc : IntKind.i64.wrap (IntKind.i64.wrap (4 * (r : Int)) + 4) = ((4 * r + 4 : Nat) : Int) := by rw [w64 (x := 4 * (r : Int)) (by omega) (by omega), w64 (by omega) (by omega)]; omega
  have wn : IntKind.i64.wrap (((key.length : Int)).tdiv 4) = (n : Int) := by rw [Int.tdiv_eq_ediv_of_nonneg (by omega), w64 (by omega) (by omega)]; omega
  have hn8 : 4 ≤ n ∧ n ≤ 8 := by omega
  have hkl : key.length = 4 * n := by omega
  have zb : (tin (C ml) 9).bytes = 16 := rfl
  have hz : (tin (C ml) 9).size = 1 := rfl
  refine hR Tryz.func274 ?_
  refine gR [cc k1, .f] rfl ?_
  refine g_loop (fun i : Nat => [(0, .s key), (3, nsT 36 i), (4, .i .i64 n), (5, .i .i64 i)]) (fun i => nsH 36 ((wAt key n i).map .s) i) (fun i => i ≤ 4 * r + 4) (fun i => 4 * r + 4 - i) 0 ⟨⟨rfl, rfl, congrArg (T.i .i64) wn, rfl, trivial⟩, trivial, trivial⟩ (by omega) ?_
  intro i hi
  clear wn c1
  have hol := wAt_length key n i
  have q1 : i * 1 = ((wAt key n i).map T.s).length := by simp [hol]
  have q2 : (i + 1) * (tin (C ml) 9).bytes ≤ 140737488355328 := by rw [zb]; omega
  have es := wAt_suc key n i
  have wi : IntKind.i64.wrap ((i : Int) + 1) = ((i + 1 : Nat) : Int) := by rw [w64 (by omega) (by omega)]; omega
  by_cases hlt : i < 4 * r + 4
  · have c2 : decide ((i : Int) < IntKind.i64.wrap (IntKind.i64.wrap (4 * (r : Int)) + 4)) = true := by rw [wc]; exact decide_eq_true (by omega)
    by_cases hin : i < n
    · have c3 : decide ((i : Int) < (n : Int)) = true := decide_eq_true (by omega)
      have e1 : IntKind.i64.wrap (4 * (i : Int)) = ((4 * i : Nat) : Int) := by rw [w64 (by omega) (by omega)]; omega
      have e2 : IntKind.i64.wrap (IntKind.i64.wrap (4 * (i : Int)) + 4) = ((4 * i + 4 : Nat) : Int) := by rw [e1, w64 (by omega) (by omega)]; omega
      have p1 : 0 ≤ IntKind.i64.wrap (4 * (i : Int)) := by rw [e1]; omega
      have p2 : IntKind.i64.wrap (4 * (i : Int)) ≤ IntKind.i64.wrap (IntKind.i64.wrap (4 * (i : Int)) + 4) := by rw [e2, e1]; omega
      have p3 : IntKind.i64.wrap (IntKind.i64.wrap (4 * (i : Int)) + 4) ≤ (key.length : Int) := by rw [e2]; omega
      have ec : (key.take (IntKind.i64.wrap (IntKind.i64.wrap (4 * (i : Int)) + 4)).toNat).drop (IntKind.i64.wrap (4 * (i : Int))).toNat = wNext key n (wAt key n i) i := by
        rw [e2, e1, wNext, if_pos hin]; exact cut_4 key (4 * i) (4 * i + 4) rfl
      clear e1 e2
      generalize wNext key n (wAt key n i) i = x at *
      rcases Nat.eq_zero_or_pos i with hz0 | hz0
      · rw [nsT_z hz0, nsH_z hz0]
        rw [List.length_eq_zero_iff.1 (hol.trans hz0)] at es
        have q5 : 1 * (tin (C ml) 9).bytes ≤ 140737488355328 := by rw [zb]; omega
        refine gF [cc k1, .t, .t] rfl (rd_next (i + 1) (by omega) (by omega) ⟨rfl, ⟨rfl, rfl, (by omega), rfl, rfl⟩, rfl, congrArg (T.i .i64) wi, trivial⟩ ⟨⟨rfl, ?_, trivial⟩, trivial⟩ trivial)
        show [T.s _] = _
        rw [es, ec]; rfl
      · rw [nsT_p hz0, nsH_p hz0]
        refine gF [cc k1, .t, .t] rfl (rd_next (i + 1) (by omega) (by omega) ⟨rfl, ⟨rfl, rfl, rfl, rfl, rfl⟩, rfl, congrArg (T.i .i64) wi, trivial⟩ ⟨⟨rfl, ?_, trivial⟩, trivial⟩ trivial)
        show _ ++ [T.s _] = _
        rw [es, ec]
    · have c3 : decide ((i : Int) < (n : Int)) = false := decide_eq_false (by omega)
      have e1 : IntKind.i64.wrap ((i : Int) - 1) = ((i - 1 : Nat) : Int) := by rw [w64 (by omega) (by omega)]; omega
      have e2 : IntKind.i64.wrap ((i : Int) - (n : Int)) = ((i - n : Nat) : Int) := by rw [w64 (by omega) (by omega)]; omega
      have l1 := txt_at (wAt key n i) (i - 1) (0 + (IntKind.i64.wrap ((i : Int) - 1)).toNat * (tin (C ml) 9).size) (by omega) (by rw [e1, hz]; omega)
      have l2 := txt_at (wAt key n i) (i - n) (0 + (IntKind.i64.wrap ((i : Int) - (n : Int))).toNat * (tin (C ml) 9).size) (by omega) (by rw [e2, hz]; omega)
      have b1 : 0 ≤ IntKind.i64.wrap ((i : Int) - 1) := by rw [e1]; omega
      have b2 : IntKind.i64.wrap ((i : Int) - 1) < (i : Int) := by rw [e1]; omega
      have b3 : 0 ≤ IntKind.i64.wrap ((i : Int) - (n : Int)) := by rw [e2]; omega
      have b4 : IntKind.i64.wrap ((i : Int) - (n : Int)) < (i : Int) := by rw [e2]; omega
      have h41 := wAt_len4 hkl (by omega) i (i - 1) (by omega)
      have h42 := wAt_len4 hkl (by omega) i (i - n) (by omega)
      have hmod : ((i : Int)).tmod n = ((i % n : Nat) : Int) := by rw [Int.tmod_eq_emod_of_nonneg (by omega)]; rfl
      have hmod8 : ((i : Int)).tmod 8 = ((i % 8 : Nat) : Int) := by rw [Int.tmod_eq_emod_of_nonneg (by omega)]; rfl
      have z0 : (n : Int) ≠ 0 := by omega
      have z8 : (8 : Int) ≠ 0 := by decide
      have hd : i / n ≤ i := Nat.div_le_self _ _
      have hd1 : 1 ≤ i / n := Nat.div_pos (by omega) (by omega)
      have hdv : IntKind.i64.wrap (((i : Int)).tdiv n) = ((i / n : Nat) : Int) := by rw [show ((i : Int)).tdiv n = ((i / n : Nat) : Int) from rfl, w64 (by omega) (by omega)]
      have k2 := rConst (ml := ml) (i / n) hd1 (by have : i / n ≤ i := hd; omega)
      rw [← hdv] at k2
      rw [wNext, if_neg hin] at es
      rw [nsT_p (by omega), nsH_p (by omega)]
      generalize hw1 : (wAt key n i).getD (i - 1) [] = w1 at *
      generalize hw2 : (wAt key n i).getD (i - n) [] = w2 at *
      obtain ⟨a, b, c, d, rfl⟩ := len4 h41
      clear e1 e2 hw1 hw2 hdv hd
      by_cases hA : i % n = 0
      · have c4 : (((i : Int)).tmod n == 0) = true := by rw [hmod, hA]; rfl
        rw [if_pos hA] at es
        have k3 := rSubs (ml := ml) [b, c, d, a] (by simp)
        have k4 := rXor (ml := ml) ([b, c, d, a].map sb) [rc (i / n - 1), 0, 0, 0] (by simp) (by simp)
        have k5 := rXor (ml := ml) w2 (xorL ([b, c, d, a].map sb) [rc (i / n - 1), 0, 0, 0]) (by omega) (by rw [xorL_length]; simp)
        have es2 : (wAt key n (i + 1)).map T.s = (wAt key n i).map T.s ++ [.s (xorL w2 (xorL ([b, c, d, a].map sb) [rc (i / n - 1), 0, 0, 0]))] := es
        have k3 : Ret P (C ml) 311 [.s ([b, c, d] ++ [a])] (.s ([b, c, d, a].map sb)) := k3
        clear hmod hmod8 hA es
        generalize xorL w2 (xorL ([b, c, d, a].map sb) [rc (i / n - 1), 0, 0, 0]) = x3 at *
        generalize xorL ([b, c, d, a].map sb) [rc (i / n - 1), 0, 0, 0] = x2 at *
        generalize [b, c, d, a].map sb = x1 at *
        generalize rc (i / n - 1) = cz at *
        have hbz : List.take (4 * szOf (tsz (C ml) 5)) (List.drop 0 [T.i .u8 (bi cz), .i .u8 0, .i .u8 0, .i .u8 0]) = bytesT [cz, 0, 0, 0] := rfl
        refine gF [cc k1, .t, .f, ld1 l1, .t, cc k3, cc k2, ldb hbz, cc k4, ld1 l2, cc k5] rfl (rd_next (i + 1) (by omega) (by omega) ⟨rfl, ⟨rfl, rfl, rfl, rfl, rfl⟩, rfl, congrArg (T.i .i64) wi, trivial⟩ ⟨⟨rfl, ?_, trivial⟩, trivial⟩ trivial)
        exact es2.symm
      · have c4 : (((i : Int)).tmod n == 0) = false := by rw [hmod]; generalize i % n = z at *; simp; omega
        rw [if_neg hA] at es
        by_cases hB : n = 8 ∧ i % 8 = 4
        · have c5 : ((n : Int) == 8) = true := by rw [hB.1]; rfl
          have c6 : (((i : Int)).tmod 8 == 4) = true := by rw [hmod8, hB.2]; rfl
          rw [if_pos hB] at es
          have k3 := rSubs (ml := ml) [a, b, c, d] (by simp)
          have k5 := rXor (ml := ml) w2 ([a, b, c, d].map sb) (by omega) (by simp)
          clear hmod hmod8 hA hB
          generalize xorL w2 ([a, b, c, d].map sb) = x3 at *
          generalize [a, b, c, d].map sb = x1 at *
          generalize [a, b, c, d] = x0 at *
          refine gF [cc k1, .t, .f, ld1 l1, .f, .t, .t, cc k3, ld1 l2, cc k5] rfl (rd_next (i + 1) (by omega) (by omega) ⟨rfl, ⟨rfl, rfl, rfl, rfl, rfl⟩, rfl, congrArg (T.i .i64) wi, trivial⟩ ⟨⟨rfl, ?_, trivial⟩, trivial⟩ trivial)
          exact es.symm
        · rw [if_neg hB] at es
          have k5 := rXor (ml := ml) w2 [a, b, c, d] (by omega) (by simp)
          by_cases h8 : n = 8
          · have c5 : ((n : Int) == 8) = true := by rw [h8]; rfl
            have c6 : (((i : Int)).tmod 8 == 4) = false := by rw [hmod8]; simp; omega
            clear hmod hmod8 hA hB
            generalize xorL w2 [a, b, c, d] = x3 at *
            generalize [a, b, c, d] = x0 at *
            refine gF [cc k1, .t, .f, ld1 l1, .f, .t, .f, ld1 l2, cc k5] rfl (rd_next (i + 1) (by omega) (by omega) ⟨rfl, ⟨rfl, rfl, rfl, rfl, rfl⟩, rfl, congrArg (T.i .i64) wi, trivial⟩ ⟨⟨rfl, ?_, trivial⟩, trivial⟩ trivial)
            exact es.symm
          · have c5 : ((n : Int) == 8) = false := by simp; omega
            clear hmod hmod8 hA hB
            generalize xorL w2 [a, b, c, d] = x3 at *
            generalize [a, b, c, d] = x0 at *
            refine gF [cc k1, .t, .f, ld1 l1, .f, .f, ld1 l2, cc k5] rfl (rd_next (i + 1) (by omega) (by omega) ⟨rfl, ⟨rfl, rfl, rfl, rfl, rfl⟩, rfl, congrArg (T.i .i64) wi, trivial⟩ ⟨⟨rfl, ?_, trivial⟩, trivial⟩ trivial)
            exact es.symm
  · have e : i = 4 * r + 4 := by omega
    have c2 : decide ((i : Int) < IntKind.i64.wrap (IntKind.i64.wrap (4 * (r : Int)) + 4)) = false := by rw [wc]; exact decide_eq_false (by omega)
    rw [nsT_p (by omega), nsH_p (by omega), ← e]
    refine gF [cc k1, .f] rfl (rd_exit rfl ?_)
    refine g_end_frz 36 ?_
    refine gF [] rfl ⟨rfl, _, _, rfl, ret_of rfl ?_ trivial trivial⟩
    show T.sl _ _ = T.sl _ _
    rw [List.take_of_length_le (by simp [hol])]
theorem keysL_at (key : List UInt8) (j : Nat) (h : j < nRounds key.length + 1) : (keysL key).getD j [] = (wordsL key).getD (4 * j) [] ++ (wordsL key).getD (4 * j + 1) [] ++ (wordsL key).getD (4 * j + 2) [] ++ (wordsL key).getD (4 * j + 3) [] := by
  rw [List.getD_eq_getElem?_getD, keysL, List.getElem?_map, List.getElem?_range h]; rfl
theorem rKeys (key : List UInt8) (h : nRounds key.length ≠ 0) : Ret P (C ml) 233 [.s key] (.tup [.sl (keysL key).length ((keysL key).map .s), .i .i64 0]) := by
  have hk := nR_pos h
  have hRn : nRounds key.length ≤ 14 := by unfold nRounds; split <;> omega
  have k1 := rRounds8 (ml := ml) key.length (by omega)
  have k2 := rWords (ml := ml) key h
  have hwl := wordsL_length key
  have hkl := keysL_length key
  have hka := keysL_at key
  have h4 := wordsL_len4 h
  generalize keysL key = ks at *
  generalize wordsL key = ws at *
  generalize nRounds key.length = r at *
  have c1 : ((r : Int) == 0) = false := by simp; omega
  have zb : (tin (C ml) 9).bytes = 16 := rfl
  have hz : (tin (C ml) 9).size = 1 := rfl
  refine hR Tryz.func233 ?_
  refine gR [cc k1, .f, cc k2] rfl ?_
  refine g_loop (fun j : Nat => [(4, .sl ws.length (ws.map .s)), (5, nsT 43 j), (6, .i .i64 ((4 * j : Nat) : Int))]) (fun j => nsH 43 ((ks.take j).map .s) j) (fun j => j ≤ r + 1) (fun j => r + 1 - j) 0 ⟨⟨rfl, rfl, rfl, trivial⟩, trivial, trivial⟩ (by omega) ?_
  intro j hj
  clear k1 k2 c1
  by_cases hlt : j < r + 1
  · have c2 : decide (((4 * j : Nat) : Int) < (ws.length : Int)) = true := decide_eq_true (by omega)
    have e0 : ((4 * j : Nat) : Int).toNat = 4 * j := rfl
    have e1 : IntKind.i64.wrap (((4 * j : Nat) : Int) + 1) = ((4 * j + 1 : Nat) : Int) := by rw [w64 (by omega) (by omega)]; omega
    have e2 : IntKind.i64.wrap (((4 * j : Nat) : Int) + 2) = ((4 * j + 2 : Nat) : Int) := by rw [w64 (by omega) (by omega)]; omega
    have e3 : IntKind.i64.wrap (((4 * j : Nat) : Int) + 3) = ((4 * j + 3 : Nat) : Int) := by rw [w64 (by omega) (by omega)]; omega
    have e4 : IntKind.i64.wrap (((4 * j : Nat) : Int) + 4) = ((4 * (j + 1) : Nat) : Int) := by rw [w64 (by omega) (by omega)]; omega
    have l0 := txt_at ws (4 * j) (((4 * j : Nat) : Int).toNat * (tin (C ml) 9).size) (by omega) (by rw [hz, e0]; omega)
    have l1 := txt_at ws (4 * j + 1) ((IntKind.i64.wrap (((4 * j : Nat) : Int) + 1)).toNat * (tin (C ml) 9).size) (by omega) (by rw [hz, e1]; omega)
    have l2 := txt_at ws (4 * j + 2) ((IntKind.i64.wrap (((4 * j : Nat) : Int) + 2)).toNat * (tin (C ml) 9).size) (by omega) (by rw [hz, e2]; omega)
    have l3 := txt_at ws (4 * j + 3) ((IntKind.i64.wrap (((4 * j : Nat) : Int) + 3)).toNat * (tin (C ml) 9).size) (by omega) (by rw [hz, e3]; omega)
    have b0 : ((4 * j : Nat) : Int) < (ws.length : Int) := by omega
    have b1 : 0 ≤ IntKind.i64.wrap (((4 * j : Nat) : Int) + 1) ∧ IntKind.i64.wrap (((4 * j : Nat) : Int) + 1) < (ws.length : Int) := by rw [e1]; omega
    have b2 : 0 ≤ IntKind.i64.wrap (((4 * j : Nat) : Int) + 2) ∧ IntKind.i64.wrap (((4 * j : Nat) : Int) + 2) < (ws.length : Int) := by rw [e2]; omega
    have b3 : 0 ≤ IntKind.i64.wrap (((4 * j : Nat) : Int) + 3) ∧ IntKind.i64.wrap (((4 * j : Nat) : Int) + 3) < (ws.length : Int) := by rw [e3]; omega
    have g0 := h4 (4 * j) (by omega)
    have g1 := h4 (4 * j + 1) (by omega)
    have g2 := h4 (4 * j + 2) (by omega)
    have g3 := h4 (4 * j + 3) (by omega)
    have es : (ks.take (j + 1)).map T.s = (ks.take j).map T.s ++ [.s (ws.getD (4 * j) [] ++ ws.getD (4 * j + 1) [] ++ ws.getD (4 * j + 2) [] ++ ws.getD (4 * j + 3) [])] := by
      rw [List.take_succ_eq_append_getElem (by omega), List.map_append, ← hka j hlt]; simp [show j < ks.length by omega]
    have q1 : j * 1 = ((ks.take j).map T.s).length := by simp; omega
    have q2 : (j + 1) * (tin (C ml) 9).bytes ≤ 140737488355328 := by rw [zb]; omega
    have z0 : (ks.take j).length = j := by simp; omega
    generalize ws.getD (4 * j) [] = w0 at *
    generalize ws.getD (4 * j + 1) [] = w1 at *
    generalize ws.getD (4 * j + 2) [] = w2 at *
    generalize ws.getD (4 * j + 3) [] = w3 at *
    have p1 : w0.length + w1.length ≤ 9223372036854775807 := by omega
    have p2 : (w0 ++ w1).length + w2.length ≤ 9223372036854775807 := by simp; omega
    have p3 : (w0 ++ w1 ++ w2).length + w3.length ≤ 9223372036854775807 := by simp; omega
    clear e0 e1 e2 e3 h4 hka
    rcases Nat.eq_zero_or_pos j with hz0 | hz0
    · rw [nsT_z hz0, nsH_z hz0]
      rw [List.length_eq_zero_iff.1 (z0.trans hz0)] at es
      have q5 : 1 * (tin (C ml) 9).bytes ≤ 140737488355328 := by rw [zb]; omega
      refine g_fin tab_ok mixed 3000 [.t, ld1 l0, ld1 l1, ld1 l2, ld1 l3] rfl (by (simp only [AllR]; (repeat' first | exact l0 | exact l1 | exact l2 | exact l3 | exact b0 | exact b1.1 | exact b1.2 | exact b2.1 | exact b2.2 | exact b3.1 | exact b3.2 | exact p1 | exact p2 | exact p3 | exact q5 | exact True.intro | (show (_ : Bool) = _; assumption) | omega | apply And.intro); all_goals first | (simp; done) | (simp; omega) | exact Nat.le_of_ble_eq_true rfl | kernel_rfl)) (rd_next (j + 1) (by omega) (by omega) ⟨rfl, ⟨rfl, rfl, (by omega), rfl, rfl⟩, congrArg (T.i .i64) e4, trivial⟩ ⟨⟨rfl, ?_, trivial⟩, trivial⟩ trivial)
      exact es.symm
    · rw [nsT_p hz0, nsH_p hz0]
      refine g_fin tab_ok mixed 3000 [.t, ld1 l0, ld1 l1, ld1 l2, ld1 l3] rfl (by (simp only [AllR]; (repeat' first | exact l0 | exact l1 | exact l2 | exact l3 | exact b0 | exact b1.1 | exact b1.2 | exact b2.1 | exact b2.2 | exact b3.1 | exact b3.2 | exact p1 | exact p2 | exact p3 | exact q1 | exact q2 | exact True.intro | (show (_ : Bool) = _; assumption) | omega | apply And.intro); all_goals first | (simp; done) | (simp; omega) | exact Nat.le_of_ble_eq_true rfl | kernel_rfl)) (rd_next (j + 1) (by omega) (by omega) ⟨rfl, ⟨rfl, rfl, rfl, rfl, rfl⟩, congrArg (T.i .i64) e4, trivial⟩ ⟨⟨rfl, ?_, trivial⟩, trivial⟩ trivial)
      exact es.symm
  · have e : j = ks.length := by omega
    have c2 : decide (((4 * j : Nat) : Int) < (ws.length : Int)) = false := decide_eq_false (by omega)
    rw [nsT_p (by omega), nsH_p (by omega), List.take_of_length_le (by omega), ← e]
    refine gF [.f] rfl (rd_exit rfl ?_)
    refine g_end_frz 43 ?_
    refine gF [] rfl ⟨rfl, _, _, rfl, ret_of rfl ?_ trivial trivial⟩
    refine ⟨?_, rfl, rfl⟩
    show T.sl _ _ = T.sl _ _
    rw [List.take_of_length_le (by simp; omega)]
theorem rForward (ks : List (List UInt8)) (s : List UInt8) (hk : keysOk ks) (hl : ks.length ≤ 1000) (hs : s.length = 16) : Ret P (C ml) 234 [.sl ks.length (ks.map .s), .s s] (.s (fwd ks s)) := by
  have h2 := hk.1
  have k1 := rKey7 (ml := ml) s (ks.getD 0 []) hs (hk.2 0 (by omega))
  have l0 := txt_at ks 0 ((0 : Int).toNat * (tin (C ml) 9).size) (by omega) rfl
  have q0 : (0 : Int) < (ks.length : Int) := by omega
  have hD : ∀ i, i + 1 < ks.length → Ret P (C ml) 276 [.s (fwdAt ks s i), .s (ks.getD (i + 1) []), .b (i + 1 == ks.length - 1)] (.s (fwdAt ks s (i + 1))) := fun i hi => rDo _ _ _ (fwdAt_length hk hs (by omega)) (hk.2 _ hi)
  have hfl : ∀ i, i < ks.length → (fwdAt ks s i).length = 16 := fun i hi => fwdAt_length hk hs hi
  have hz : (tin (C ml) 9).size = 1 := rfl
  have hfw : fwd ks s = fwdAt ks s (ks.length - 1) := rfl
  rw [hfw]
  have hx0 : fwdAt ks s 0 = xorL s (ks.getD 0 []) := rfl
  rw [← hx0] at k1
  refine hR Tryz.func234 ?_
  refine gR [ld1 l0, cc k1] rfl ?_
  refine g_loop (fun i : Nat => [(0, .sl ks.length (ks.map .s)), (1, .s (fwdAt ks s i)), (5, .i .i64 ((i + 1 : Nat) : Int))]) (fun _ => []) (fun i => i + 1 ≤ ks.length) (fun i => ks.length - i) 0 ⟨⟨rfl, rfl, rfl, trivial⟩, trivial, trivial⟩ (by omega) ?_
  intro i hi
  clear k1 l0 q0
  by_cases hlt : i + 1 < ks.length
  · have c1 : decide (((i + 1 : Nat) : Int) < (ks.length : Int)) = true := decide_eq_true (by omega)
    have l1 := txt_at ks (i + 1) (((i + 1 : Nat) : Int).toNat * (tin (C ml) 9).size) hlt (by rw [hz]; omega)
    have q1 : ((i + 1 : Nat) : Int) < (ks.length : Int) := by omega
    have k1 := hD i hlt
    have eb : (i + 1 == ks.length - 1) = (((i + 1 : Nat) : Int) == IntKind.i64.wrap ((ks.length : Int) - 1)) := by rw [w64 (by omega) (by omega), Bool.eq_iff_iff]; simp; omega
    rw [eb] at k1
    clear eb hD hfl
    generalize hx1 : fwdAt ks s (i + 1) = x1 at *
    generalize fwdAt ks s i = x0 at *
    refine gF [.t, ld1 l1, cc k1] rfl (rd_next (i + 1) (by omega) (by omega) ⟨rfl, congrArg T.s hx1.symm, ?_, trivial⟩ trivial trivial)
    exact congrArg (T.i .i64) (by rw [w64 (by omega) (by omega)]; omega)
  · have e : ks.length - 1 = i := by omega
    have c1 : decide (((i + 1 : Nat) : Int) < (ks.length : Int)) = false := decide_eq_false (by omega)
    rw [e]
    refine gF [.f] rfl (rd_exit rfl ?_)
    refine gF [] rfl (ret_of rfl ?_ trivial trivial)
    exact rfl
theorem rBackward (ks : List (List UInt8)) (s : List UInt8) (hk : keysOk ks) (hl : ks.length ≤ 1000) (hs : s.length = 16) : Ret P (C ml) 238 [.sl ks.length (ks.map .s), .s s] (.s (bwd ks s)) := by
  have h2 := hk.1
  have hk7 := rKey7 (ml := ml) (bwdAt ks s (ks.length - 1)) (ks.getD 0 []) (bwdAt_length hs) (hk.2 0 (by omega))
  have l0 := txt_at ks 0 ((0 : Int).toNat * (tin (C ml) 9).size) (by omega) rfl
  have q0 : (0 : Int) < (ks.length : Int) := by omega
  have hU : ∀ j, j < ks.length → Ret P (C ml) 279 [.s (bwdAt ks s j), .s (ks.getD (ks.length - 1 - j) []), .b (j == 0)] (.s (bwdAt ks s (j + 1))) := fun j hj => rUndo _ _ _ (bwdAt_length hs) (hk.2 _ (by omega))
  have hz : (tin (C ml) 9).size = 1 := rfl
  unfold bwd
  have hb0 : bwdAt ks s 0 = s := rfl
  have w0 : IntKind.i64.wrap ((ks.length : Int) - 1) = ((ks.length - 1 - 0 : Nat) : Int) := by rw [w64 (by omega) (by omega)]; omega
  generalize xorL (bwdAt ks s (ks.length - 1)) (ks.getD 0 []) = o at *
  refine hR Tryz.func238 ?_
  refine gR [] rfl ?_
  refine g_loop (fun j : Nat => [(0, .sl ks.length (ks.map .s)), (1, .s (bwdAt ks s j)), (5, .i .i64 ((ks.length - 1 - j : Nat) : Int))]) (fun _ => []) (fun j => j + 1 ≤ ks.length) (fun j => ks.length - j) 0 ⟨⟨rfl, congrArg T.s hb0.symm, congrArg (T.i .i64) w0, trivial⟩, trivial, trivial⟩ (by omega) ?_
  intro j hj
  clear w0 hb0
  by_cases hlt : j + 1 < ks.length
  · have c1 : decide (((ks.length - 1 - j : Nat) : Int) > 0) = true := decide_eq_true (by omega)
    have l1 := txt_at ks (ks.length - 1 - j) (((ks.length - 1 - j : Nat) : Int).toNat * (tin (C ml) 9).size) (by omega) (by rw [hz]; omega)
    have q1 : ((ks.length - 1 - j : Nat) : Int) < (ks.length : Int) := by omega
    have k1 := hU j (by omega)
    have eb : (j == 0) = (((ks.length - 1 - j : Nat) : Int) == IntKind.i64.wrap ((ks.length : Int) - 1)) := by rw [w64 (by omega) (by omega), Bool.eq_iff_iff]; simp; omega
    have ew : IntKind.i64.wrap (((ks.length - 1 - j : Nat) : Int) - 1) = ((ks.length - 1 - (j + 1) : Nat) : Int) := by rw [w64 (by omega) (by omega)]; omega
    rw [eb] at k1
    clear eb hU hk7
    generalize hx1 : bwdAt ks s (j + 1) = x1 at *
    generalize bwdAt ks s j = x0 at *
    refine gF [.t, ld1 l1, cc k1] rfl (rd_next (j + 1) (by omega) (by omega) ⟨rfl, congrArg T.s hx1.symm, congrArg (T.i .i64) ew, trivial⟩ trivial trivial)
  · have e : ks.length - 1 = j := by omega
    rw [e] at hk7 ⊢
    have c1 : decide (((j - j : Nat) : Int) > 0) = false := decide_eq_false (by omega)
    generalize bwdAt ks s j = x0 at *
    refine gF [.f] rfl (rd_exit rfl ?_)
    refine gF [ld1 l0, cc hk7] rfl (ret_of rfl ?_ trivial trivial)
    exact rfl
theorem rEnc9 (key s : List UInt8) (h : nRounds key.length ≠ 0) (hs : s.length = 16) : Ret P (C ml) 163 [.s key, .s s] (.tup [.s (encK key s), .i .i64 0]) := by
  have hRn : nRounds key.length ≤ 14 := by unfold nRounds; split <;> omega
  have k1 := rKeys (ml := ml) key h
  have k2 := rForward (ml := ml) (keysL key) s (keysL_ok h) (by rw [keysL_length]; omega) hs
  change Ret P (C ml) _ _ (.s (encK key s)) at k2
  have c1 : ((s.length : Int) != 16) = false := by simp; omega
  generalize encK key s = o at *
  generalize keysL key = ks at *
  refine hR Tryz.func163 ?_
  refine gF [cc k1, .f, .f, cc k2] rfl (ret_of rfl ?_ trivial trivial)
  exact ⟨rfl, rfl, rfl⟩
theorem cut_blk (s : List UInt8) (j b : Nat) (h : b = 16 * j + 16) : (s.take b).drop (16 * j) = blkL s j := by
  subst h; unfold blkL; rw [List.drop_take]; congr 1; omega
theorem rMany (key s : List UInt8) (n : Nat) (h : nRounds key.length ≠ 0) (hs : s.length = 16 * n) (hn : n ≤ 1000) : Ret P (C ml) 171 [.s key, .s s, .bl true] (.tup [.s (catL (fun j => decK key (blkL s j)) n), .i .i64 0]) := by
  have hRn : nRounds key.length ≤ 14 := by unfold nRounds; split <;> omega
  have k1 := rKeys (ml := ml) key h
  have hB : ∀ j, j < n → Ret P (C ml) 238 [.sl (keysL key).length ((keysL key).map .s), .s (blkL s j)] (.s (decK key (blkL s j))) := fun j hj => rBackward (ml := ml) (keysL key) (blkL s j) (keysL_ok h) (by rw [keysL_length]; omega) (blkL_length hs hj)
  have hdl : ∀ j, j < n → (decK key (blkL s j)).length = 16 := fun j hj => (twoK h).d16 _ (blkL_length hs hj)
  have hcl : ∀ j, j ≤ n → (catL (fun j => decK key (blkL s j)) j).length = 16 * j := fun j hj => catL_length fun i hi => hdl i (by omega)
  have c1 : (((s.length : Int)).tmod 16 != 0) = false := by rw [Int.tmod_eq_emod_of_nonneg (by omega)]; simp; omega
  have q16 : (16 : Int) ≠ 0 := by decide
  generalize keysL key = ks at *
  refine hR Tryz.func171 ?_
  refine gR [cc k1, .f, .f] rfl ?_
  refine g_loop (fun j : Nat => [(1, .s s), (2, .bl true), (8, .sl ks.length (ks.map .s)), (10, .s (catL (fun j => decK key (blkL s j)) j)), (11, .i .i64 ((16 * j : Nat) : Int))]) (fun _ => []) (fun j => j ≤ n) (fun j => n - j) 0 ⟨⟨rfl, rfl, rfl, rfl, rfl, trivial⟩, trivial, trivial⟩ (by omega) ?_
  intro j hj
  clear k1 c1
  by_cases hlt : j < n
  · have c1 : decide (((16 * j : Nat) : Int) < (s.length : Int)) = true := decide_eq_true (by omega)
    have e1 : IntKind.i64.wrap (((16 * j : Nat) : Int) + 16) = ((16 * j + 16 : Nat) : Int) := by rw [w64 (by omega) (by omega)]; omega
    have ec : (s.take (IntKind.i64.wrap (((16 * j : Nat) : Int) + 16)).toNat).drop (((16 * j : Nat) : Int)).toNat = blkL s j := by rw [e1]; exact cut_blk s j _ rfl
    have p2 : ((16 * j : Nat) : Int) ≤ IntKind.i64.wrap (((16 * j : Nat) : Int) + 16) := by rw [e1]; omega
    have p3 : IntKind.i64.wrap (((16 * j : Nat) : Int) + 16) ≤ (s.length : Int) := by rw [e1]; omega
    have k1 := hB j hlt
    have hl0 := hcl j hj
    have hl1 := hdl j hlt
    have et : catL (fun j => decK key (blkL s j)) (j + 1) = catL (fun j => decK key (blkL s j)) j ++ decK key (blkL s j) := rfl
    generalize decK key (blkL s j) = z at *
    rw [← ec] at k1
    have q4 : (catL (fun j => decK key (blkL s j)) j).length + z.length ≤ 9223372036854775807 := by omega
    clear ec hB hcl hdl
    generalize hx1 : catL (fun j => decK key (blkL s j)) (j + 1) = x1 at *
    generalize catL (fun j => decK key (blkL s j)) j = x0 at *
    refine gF [.t, cc k1] rfl (rd_next (j + 1) (by omega) (by omega) ⟨rfl, rfl, rfl, ?_, ?_, trivial⟩ trivial trivial)
    · exact congrArg T.s (by rw [hx1, et])
    · exact congrArg (T.i .i64) (by rw [e1]; omega)
  · obtain rfl : j = n := by omega
    have c1 : decide (((16 * j : Nat) : Int) < (s.length : Int)) = false := decide_eq_false (by omega)
    generalize catL (fun j => decK key (blkL s j)) j = x0 at *
    refine gF [.f] rfl (rd_exit rfl ?_)
    refine gF [] rfl (ret_of rfl ?_ trivial trivial)
    exact ⟨rfl, rfl, rfl⟩
end Go.Proofs.YtipomdmlkkifcaaGreatDoor.Vm
/- Contracts: clavigerref10: bad, Encrypt, Decrypt; clavigerref11: Double, Subkeys, Tag; clavigerref12: Rounds, Counter; clavigerref35: Input, Key, Keys. -/
set_option maxRecDepth 100000
namespace Go.Proofs.YtipomdmlkkifcaaGreatDoor.Vm
open Go Go.Proofs Go.RowKit
variable {ml : Int}
theorem key3 {n : Nat} (h : nRounds n ≠ 0) : ((n : Int) != 16) = false ∨ ((n : Int) != 16) = true ∧ (((n : Int) != 24) = false ∨ ((n : Int) != 24) = true ∧ ((n : Int) != 32) = false) := by
  rcases nR_pos h with rfl | rfl | rfl
  · exact .inl rfl
  · exact .inr ⟨rfl, .inl rfl⟩
  · exact .inr ⟨rfl, .inr ⟨rfl, rfl⟩⟩
theorem rBad (key iv s : List UInt8) (n : Nat) (h : nRounds key.length ≠ 0) (hi : iv.length = 16) (hs : s.length = 16 * n) : Ret P (C ml) 162 [.s key, .s iv, .s s] (.i .i64 0) := by
  have c4 : ((iv.length : Int) != 16) = false := by simp; omega
  have c5 : (((s.length : Int)).tmod 16 != 0) = false := by rw [Int.tmod_eq_emod_of_nonneg (by omega)]; simp; omega
  have q16 : (16 : Int) ≠ 0 := by decide
  rcases key3 h with c1 | ⟨c1, c2 | ⟨c2, c3⟩⟩
  · refine hR Tryz.func162 ?_
    refine gF [.f, .f, .f] rfl (ret_of rfl ?_ trivial trivial)
    exact rfl
  · refine hR Tryz.func162 ?_
    refine gF [.t, .f, .f, .f] rfl (ret_of rfl ?_ trivial trivial)
    exact rfl
  · refine hR Tryz.func162 ?_
    refine gF [.t, .t, .f, .f, .f] rfl (ret_of rfl ?_ trivial trivial)
    exact rfl
theorem rEnc10 (key iv s : List UInt8) (n : Nat) (h : nRounds key.length ≠ 0) (hi : iv.length = 16) (hs : s.length = 16 * n) (hn2 : n ≤ 1000) : Ret P (C ml) 96 [.s key, .s iv, .s s] (.tup [.s (cbcE (encK key) iv s), .i .i64 0]) := by
  have k1 := rBad (ml := ml) key iv s n h hi hs
  have t2 := twoK h
  have hk : ∀ x : List UInt8, x.length = 16 → Ret P (C ml) 163 [.s key, .s x] (.tup [.s (encK key x), .i .i64 0]) := fun x hx => rEnc9 key x h hx
  have he : cbcE (encK key) iv s = catL (fun j => encAt (encK key) iv s (j + 1)) n := by unfold cbcE; rw [hs, show 16 * n / 16 = n by omega]
  rw [he]
  have hel := fun i (hin : i ≤ n) => encAt_length t2 hi hs i hin
  have hcl : ∀ i, i ≤ n → (catL (fun j => encAt (encK key) iv s (j + 1)) i).length = 16 * i := fun i hin => catL_length fun j hj => hel (j + 1) (by omega)
  have hes : ∀ i, encAt (encK key) iv s (i + 1) = encK key (xorL (blkL s i) (encAt (encK key) iv s i)) := fun i => rfl
  refine hR Tryz.func96 ?_
  refine gR [cc k1, .f] rfl ?_
  refine g_loop (fun i : Nat => [(0, .s key), (1, .s (encAt (encK key) iv s i)), (2, .s s), (9, .s (catL (fun j => encAt (encK key) iv s (j + 1)) i)), (10, .i .i64 ((16 * i : Nat) : Int))]) (fun _ => []) (fun i => i ≤ n) (fun i => n - i) 0 ⟨⟨rfl, rfl, rfl, rfl, rfl, trivial⟩, trivial, trivial⟩ (by omega) ?_
  intro i hin
  clear k1
  by_cases hlt : i < n
  · have c1 : decide (((16 * i : Nat) : Int) < (s.length : Int)) = true := decide_eq_true (by omega)
    have e1 : IntKind.i64.wrap (((16 * i : Nat) : Int) + 16) = ((16 * i + 16 : Nat) : Int) := by rw [w64 (by omega) (by omega)]; omega
    have ec : (s.take (IntKind.i64.wrap (((16 * i : Nat) : Int) + 16)).toNat).drop (((16 * i : Nat) : Int)).toNat = blkL s i := by rw [e1]; exact cut_blk s i _ rfl
    have p2 : ((16 * i : Nat) : Int) ≤ IntKind.i64.wrap (((16 * i : Nat) : Int) + 16) := by rw [e1]; omega
    have p3 : IntKind.i64.wrap (((16 * i : Nat) : Int) + 16) ≤ (s.length : Int) := by rw [e1]; omega
    have l1 := blkL_length hs hlt
    have l2 := hel i hin
    have l3 := hel (i + 1) (by omega)
    have l4 := hcl i hin
    have k3 := rXor (ml := ml) (blkL s i) (encAt (encK key) iv s i) (by omega) (by omega)
    have k4 := hk (xorL (blkL s i) (encAt (encK key) iv s i)) (by rw [xorL_length, l1, l2]; rfl)
    rw [← hes] at k4
    rw [← ec] at k3
    rw [show xorL (blkL s i) (encAt (encK key) iv s i) = xorL ((s.take (IntKind.i64.wrap (((16 * i : Nat) : Int) + 16)).toNat).drop (((16 * i : Nat) : Int)).toNat) (encAt (encK key) iv s i) by rw [ec]] at k4
    have et : catL (fun j => encAt (encK key) iv s (j + 1)) (i + 1) = catL (fun j => encAt (encK key) iv s (j + 1)) i ++ encAt (encK key) iv s (i + 1) := rfl
    have q4 : (catL (fun j => encAt (encK key) iv s (j + 1)) i).length + (encAt (encK key) iv s (i + 1)).length ≤ 9223372036854775807 := by omega
    clear ec hk hes hel hcl l1 l2 l3 l4
    generalize hx1 : catL (fun j => encAt (encK key) iv s (j + 1)) (i + 1) = c1x at *
    generalize catL (fun j => encAt (encK key) iv s (j + 1)) i = c0x at *
    generalize hx2 : encAt (encK key) iv s (i + 1) = e1x at *
    generalize encAt (encK key) iv s i = e0x at *
    generalize xorL _ e0x = xx at *
    refine gF [.t, cc k3, cc k4] rfl (rd_next (i + 1) (by omega) (by omega) ⟨rfl, congrArg T.s hx2.symm, rfl, ?_, ?_, trivial⟩ trivial trivial)
    · exact congrArg T.s (by rw [hx1, et])
    · exact congrArg (T.i .i64) (by rw [e1]; omega)
  · obtain rfl : i = n := by omega
    have c1 : decide (((16 * i : Nat) : Int) < (s.length : Int)) = false := decide_eq_false (by omega)
    generalize catL (fun j => encAt (encK key) iv s (j + 1)) i = o at *
    refine gF [.f] rfl (rd_exit rfl ?_)
    refine gF [] rfl (ret_of rfl ?_ trivial trivial)
    exact ⟨rfl, rfl, rfl⟩
theorem rDec10 (key iv s : List UInt8) (n : Nat) (h : nRounds key.length ≠ 0) (hi : iv.length = 16) (hs : s.length = 16 * n) (hn2 : n ≤ 1000) : Ret P (C ml) 103 [.s key, .s iv, .s s] (.tup [.s (cbcD (decK key) iv s), .i .i64 0]) := by
  have k1 := rBad (ml := ml) key iv s n h hi hs
  have k2 := rMany (ml := ml) key s n h hs hn2
  have t2 := twoK h
  have hdl : ∀ j, j < n → (decK key (blkL s j)).length = 16 := fun j hj => t2.d16 _ (blkL_length hs hj)
  have hal : (catL (fun j => decK key (blkL s j)) n).length = 16 * n := catL_length hdl
  have hab : ∀ j, j < n → blkL (catL (fun j => decK key (blkL s j)) n) j = decK key (blkL s j) := fun j hj => blkL_catL hdl j hj
  generalize catL (fun j => decK key (blkL s j)) n = all at *
  have he : cbcD (decK key) iv s = catL (fun j => xorL (decK key (blkL s j)) (aheadL iv s j)) n := by unfold cbcD; rw [hs, show 16 * n / 16 = n by omega]
  rw [he]
  have hvl : ∀ j, j < n → (aheadL iv s j).length = 16 := fun j hj => aheadL_length hi hs hj
  have hol : ∀ j, j < n → (xorL (decK key (blkL s j)) (aheadL iv s j)).length = 16 := fun j hj => by rw [xorL_length, hdl j hj, hvl j hj]; rfl
  have hcl : ∀ j, j ≤ n → (catL (fun j => xorL (decK key (blkL s j)) (aheadL iv s j)) j).length = 16 * j := fun j hj => catL_length fun i hi => hol i (by omega)
  refine hR Tryz.func103 ?_
  refine gR [cc k1, .f, cc k2] rfl ?_
  refine g_loop (fun j : Nat => [(1, .s (aheadL iv s j)), (2, .s s), (9, .s (catL (fun j => xorL (decK key (blkL s j)) (aheadL iv s j)) j)), (10, .s all), (12, .i .i64 ((16 * j : Nat) : Int))]) (fun _ => []) (fun j => j ≤ n) (fun j => n - j) 0 ⟨⟨rfl, rfl, rfl, rfl, rfl, trivial⟩, trivial, trivial⟩ (by omega) ?_
  intro j hj
  clear k1 k2
  by_cases hlt : j < n
  · have c1 : decide (((16 * j : Nat) : Int) < (s.length : Int)) = true := decide_eq_true (by omega)
    have e1 : IntKind.i64.wrap (((16 * j : Nat) : Int) + 16) = ((16 * j + 16 : Nat) : Int) := by rw [w64 (by omega) (by omega)]; omega
    have ec : (s.take (IntKind.i64.wrap (((16 * j : Nat) : Int) + 16)).toNat).drop (((16 * j : Nat) : Int)).toNat = blkL s j := by rw [e1]; exact cut_blk s j _ rfl
    have ea : (all.take (IntKind.i64.wrap (((16 * j : Nat) : Int) + 16)).toNat).drop (((16 * j : Nat) : Int)).toNat = decK key (blkL s j) := by rw [e1, ← hab j hlt]; exact cut_blk all j _ rfl
    have p2 : ((16 * j : Nat) : Int) ≤ IntKind.i64.wrap (((16 * j : Nat) : Int) + 16) := by rw [e1]; omega
    have p3 : IntKind.i64.wrap (((16 * j : Nat) : Int) + 16) ≤ (s.length : Int) := by rw [e1]; omega
    have p4 : IntKind.i64.wrap (((16 * j : Nat) : Int) + 16) ≤ (all.length : Int) := by rw [e1]; omega
    have l1 := hdl j hlt
    have l2 := hvl j hlt
    have l3 := hol j hlt
    have l4 := hcl j hj
    have k3 := rXor (ml := ml) (decK key (blkL s j)) (aheadL iv s j) (by omega) (by omega)
    have et : catL (fun j => xorL (decK key (blkL s j)) (aheadL iv s j)) (j + 1) = catL (fun j => xorL (decK key (blkL s j)) (aheadL iv s j)) j ++ xorL (decK key (blkL s j)) (aheadL iv s j) := rfl
    have ev : aheadL iv s (j + 1) = blkL s j := by unfold aheadL; rw [if_neg (by omega)]; rfl
    have q4 : (catL (fun j => xorL (decK key (blkL s j)) (aheadL iv s j)) j).length + (xorL (decK key (blkL s j)) (aheadL iv s j)).length ≤ 9223372036854775807 := by omega
    generalize xorL (decK key (blkL s j)) (aheadL iv s j) = xx at *
    rw [← ea] at k3
    clear ea hab hdl hal hvl hol hcl l1 l2 l3 l4
    generalize hx1 : catL (fun j => xorL (decK key (blkL s j)) (aheadL iv s j)) (j + 1) = c1x at *
    generalize catL (fun j => xorL (decK key (blkL s j)) (aheadL iv s j)) j = c0x at *
    generalize hx2 : aheadL iv s (j + 1) = v1 at *
    generalize aheadL iv s j = v0 at *
    refine gF [.t, cc k3] rfl (rd_next (j + 1) (by omega) (by omega) ⟨?_, rfl, ?_, rfl, ?_, trivial⟩ trivial trivial)
    · exact congrArg T.s (by rw [hx2, ev, ec])
    · exact congrArg T.s (by rw [hx1, et])
    · exact congrArg (T.i .i64) (by rw [e1]; omega)
  · obtain rfl : j = n := by omega
    have c1 : decide (((16 * j : Nat) : Int) < (s.length : Int)) = false := decide_eq_false (by omega)
    generalize catL (fun j => xorL (decK key (blkL s j)) (aheadL iv s j)) j = o at *
    refine gF [.f] rfl (rd_exit rfl ?_)
    refine gF [] rfl (ret_of rfl ?_ trivial trivial)
    exact ⟨rfl, rfl, rfl⟩
/-! ### Doubling -/
def dV (b : List UInt8) (m : Nat) : Nat := getN (b.drop (16 - m))
def dO (b : List UInt8) (m : Nat) : List UInt8 := List.replicate (16 - m) 0 ++ putL (2 * dV b m) m
theorem dV_suc (b : List UInt8) (hb : b.length = 16) (m : Nat) (hm : m < 16) : dV b (m + 1) = (b.getD (15 - m) 0).toNat * 256 ^ m + dV b m := by
  unfold dV
  rw [show 16 - (m + 1) = 15 - m by omega, List.drop_eq_getElem_cons (by omega), getN_cons, List.length_drop, show 15 - m + 1 = 16 - m by omega, show b.length - (16 - m) = m by omega, getD_at _ _ (by omega)]
theorem dV_lt (b : List UInt8) (hb : b.length = 16) (m : Nat) (hm : m ≤ 16) : dV b m < 256 ^ m := by
  have := getN_lt (b.drop (16 - m))
  rwa [List.length_drop, show b.length - (16 - m) = m by omega] at this
theorem d_div (b : List UInt8) (hb : b.length = 16) (m : Nat) (hm : m < 16) : 2 * dV b (m + 1) / 256 ^ m = 2 * (b.getD (15 - m) 0).toNat + 2 * dV b m / 256 ^ m := by
  have hp : 0 < 256 ^ m := Nat.pow_pos (by omega)
  rw [dV_suc b hb m hm, Nat.mul_add, ← Nat.mul_assoc, Nat.add_comm, Nat.add_mul_div_right _ _ hp, Nat.add_comm]
theorem d_car (b : List UInt8) (hb : b.length = 16) (m : Nat) (hm : m < 16) : 2 * dV b (m + 1) / 256 ^ (m + 1) = (2 * (b.getD (15 - m) 0).toNat + 2 * dV b m / 256 ^ m) / 256 := by
  rw [Nat.pow_succ, ← Nat.div_div_eq_div_mul, d_div b hb m hm]
theorem dO_suc (b : List UInt8) (hb : b.length = 16) (m : Nat) (hm : m < 16) : (dO b m).set (15 - m) (UInt8.ofNat (2 * (b.getD (15 - m) 0).toNat + 2 * dV b m / 256 ^ m)) = dO b (m + 1) := by
  have hp : putL (2 * dV b (m + 1)) m = putL (2 * dV b m) m := by
    rw [← putL_mod (2 * dV b (m + 1)) m m (Nat.le_refl _), ← putL_mod (2 * dV b m) m m (Nat.le_refl _), dV_suc b hb m hm, Nat.mul_add, ← Nat.mul_assoc, Nat.add_comm, Nat.add_mul_mod_self_right]
  unfold dO
  rw [putL, d_div b hb m hm, hp, show 16 - m = 15 - m + 1 by omega, List.replicate_succ', show 16 - (m + 1) = 15 - m by omega, List.append_assoc, List.set_append_right _ _ (by simp)]
  simp
theorem dbl_end (b : List UInt8) (hb : b.length = 16) : dO b 16 = putL (2 * getN b) 16 ∧ dV b 16 = getN b := by unfold dO dV; simp
theorem rDouble (b : List UInt8) (hb : b.length = 16) : Ret P (C ml) 239 [.s b] (.s (dbl b)) := by
  have c1 : ((b.length : Int) != 16) = false := by simp; omega
  have hz : (tin (C ml) 5).size = 1 := rfl
  have h0 : dO b 0 = List.replicate 16 0 := by unfold dO; simp [putL]
  refine hR Tryz.func239 ?_
  refine gR [.f] rfl ?_
  refine g_loop (fun m : Nat => [(0, .s b), (3, .p 3 0 0), (4, .i .i64 ((2 * dV b m / 256 ^ m : Nat) : Int)), (5, .i .i64 (15 - (m : Int)))]) (fun m => [(3, 0, .row true 1 (bytesT (dO b m)))]) (fun m => m ≤ 16) (fun m => 16 - m) 0 ⟨⟨rfl, ⟨rfl, rfl, rfl, rfl⟩, ?_, rfl, trivial⟩, ⟨⟨rfl, ?_, trivial⟩, trivial⟩, trivial⟩ (by omega) ?_
  · exact congrArg (T.i .i64) (by unfold dV; rw [show 16 - 0 = 16 from rfl, List.drop_of_length_le (by omega)]; rfl)
  · rw [h0]; rfl
  intro m hm
  have hlo : (dO b m).length = 16 := by unfold dO; simp [putL_length]; omega
  by_cases hlt : m < 16
  · have c2 : decide (15 - (m : Int) ≥ 0) = true := decide_eq_true (by omega)
    have hx := (b.getD (15 - m) 0).toNat_lt
    have hv := dV_lt b hb m (by omega)
    have hcy : 2 * dV b m / 256 ^ m ≤ 1 := by
      have : 2 * dV b m / 256 ^ m < 2 := (Nat.div_lt_iff_lt_mul (Nat.pow_pos (by omega))).2 (by omega)
      omega
    have es := dO_suc b hb m hlt
    have ek := d_car b hb m hlt
    have eb : bt b (15 - (m : Int)) = ((b.getD (15 - m) 0).toNat : Int) := by unfold bt; rw [show (15 - (m : Int)).toNat = 15 - m by omega]
    have q1 : 0 ≤ 15 - (m : Int) := by omega
    have q2 : 15 - (m : Int) < (b.length : Int) := by omega
    have q3 : 15 - (m : Int) < 16 := by omega
    generalize (b.getD (15 - m) 0).toNat = x at *
    generalize hcv : 2 * dV b m / 256 ^ m = cy at *
    have e1 : IntKind.i64.wrap (IntKind.i64.wrap (2 * IntKind.i64.wrap (bt b (15 - (m : Int)))) + (cy : Int)) = ((2 * x + cy : Nat) : Int) := by rw [eb, w64 (x := (x : Int)) (by omega) (by omega), w64 (x := 2 * (x : Int)) (by omega) (by omega), w64 (by omega) (by omega)]; omega
    have e2 : IntKind.u8.wrap ((IntKind.i64.wrap (IntKind.i64.wrap (2 * IntKind.i64.wrap (bt b (15 - (m : Int)))) + (cy : Int))).tmod 256) = ((UInt8.ofNat (2 * x + cy)).toNat : Int) := by rw [e1, Int.tmod_eq_emod_of_nonneg (by omega), wrap_u8]; simp [UInt8.toNat_ofNat']
    have e3 : IntKind.i64.wrap ((IntKind.i64.wrap (IntKind.i64.wrap (2 * IntKind.i64.wrap (bt b (15 - (m : Int)))) + (cy : Int))).tdiv 256) = (((2 * x + cy) / 256 : Nat) : Int) := by rw [e1, show (((2 * x + cy : Nat) : Int)).tdiv 256 = (((2 * x + cy) / 256 : Nat) : Int) from rfl, w64 (by omega) (by omega)]
    have q4 : 0 + (15 - (m : Int)).toNat * (tin (C ml) 5).size + (tin (C ml) 5).size ≤ (bytesT (dO b m)).length := by rw [hz, bytesT_length, hlo]; omega
    have z256 : (256 : Int) ≠ 0 := by decide
    refine gF [.t] rfl (rd_next (m + 1) (by omega) (by omega) ⟨rfl, ⟨rfl, rfl, rfl, rfl⟩, ?_, ?_, trivial⟩ ⟨⟨rfl, ?_, trivial⟩, trivial⟩ trivial)
    · exact congrArg (T.i .i64) (by rw [e3, ek])
    · exact congrArg (T.i .i64) (by rw [w64 (by omega) (by omega)]; simp; omega)
    · show (bytesT (dO b m)).set _ (.i .u8 _) = _
      rw [e2, ← es, show 0 + (15 - (m : Int)).toNat * (tin (C ml) 5).size = 15 - m by rw [hz]; omega]
      exact bytesT_set _ _ _
  · obtain rfl : m = 16 := by omega
    have c2 : decide (15 - ((16 : Nat) : Int) ≥ 0) = false := rfl
    obtain ⟨z1, z2⟩ := dbl_end b hb
    have hgl := getN_lt b
    rw [hb] at hgl
    have p16 : (256 : Nat) ^ 16 = 2 ^ 128 := by decide
    rw [z1, z2]
    rw [z1] at hlo
    unfold dbl
    have hw : ∀ w : List UInt8, w.length = 16 → List.take ((((16 : Nat) : Int).toNat - (0 : Int).toNat) * szOf 1) (List.drop (0 + (0 : Int).toNat * (tin (C ml) 5).size) (bytesT w)) = bytesT w := fun w h => List.take_of_length_le (by rw [List.length_drop, bytesT_length, h]; exact Nat.sub_le _ _)
    have hq : ∀ w : List UInt8, w.length = 16 → 0 + 16 * (tin (C ml) 5).size ≤ (bytesT w).length := fun w h => by rw [bytesT_length, h, hz]; decide
    have hr : ∀ w : List UInt8, w.length = 16 → (((16 : Nat) : Int).toNat - (0 : Int).toNat) = w.length := fun w h => by rw [h]; rfl
    by_cases hc : 2 ^ 127 ≤ getN b
    · have ecy : 2 * getN b / 256 ^ 16 = 1 := by rw [p16]; omega
      rw [if_pos hc, ecy]
      have l1 := getB (putL (2 * getN b) 16) 15 (0 + (15 : Int).toNat * (tin (C ml) 5).size) (by omega) (by rw [hz]; rfl)
      have hb2 := hw ((putL (2 * getN b) 16).set 15 ((putL (2 * getN b) 16).getD 15 0 ^^^ 135)) (by simpa using hlo)
      have hst : (bytesT (putL (2 * getN b) 16)).set (0 + (15 : Int).toNat * (tin (C ml) 5).size) (.i .u8 (bitsI .xor .u8 (bi ((putL (2 * getN b) 16).getD 15 0)) 135)) = bytesT ((putL (2 * getN b) 16).set 15 ((putL (2 * getN b) 16).getD 15 0 ^^^ 135)) := by
        rw [show (135 : Int) = bi 135 from rfl, b_xor, bytesT_set, hz]; rfl
      have hq2 := hq ((putL (2 * getN b) 16).set 15 ((putL (2 * getN b) 16).getD 15 0 ^^^ 135)) (by simpa using hlo)
      have hr2 := hr ((putL (2 * getN b) 16).set 15 ((putL (2 * getN b) 16).getD 15 0 ^^^ 135)) (by simpa using hlo)
      have q4 : 0 + (15 : Int).toNat * (tin (C ml) 5).size + (tin (C ml) 5).size ≤ (bytesT (putL (2 * getN b) 16)).length := by rw [hz, bytesT_length, hlo]; decide
      have hb3 : List.take ((((16 : Nat) : Int).toNat - (0 : Int).toNat) * szOf 1) (List.drop (0 + (0 : Int).toNat * (tin (C ml) 5).size) ((bytesT (putL (2 * getN b) 16)).set (0 + (15 : Int).toNat * (tin (C ml) 5).size) (.i .u8 (bitsI .xor .u8 (bi ((putL (2 * getN b) 16).getD 15 0)) 135)))) = bytesT ((putL (2 * getN b) 16).set 15 ((putL (2 * getN b) 16).getD 15 0 ^^^ 135)) := by rw [hst]; exact hb2
      have hq3 : 0 + 16 * (tin (C ml) 5).size ≤ ((bytesT (putL (2 * getN b) 16)).set (0 + (15 : Int).toNat * (tin (C ml) 5).size) (.i .u8 (bitsI .xor .u8 (bi ((putL (2 * getN b) 16).getD 15 0)) 135))).length := by rw [hst]; exact hq2
      clear hst hb2 hq2
      generalize (putL (2 * getN b) 16).set 15 ((putL (2 * getN b) 16).getD 15 0 ^^^ 135) = w2 at *
      generalize (putL (2 * getN b) 16).getD 15 0 = w15 at *
      generalize putL (2 * getN b) 16 = w at *
      have c3 : (((1 : Nat) : Int) == 1) = true := rfl
      refine gF [.f] rfl (rd_exit rfl ?_)
      refine g_fin tab_ok mixed 3000 [.t, ld1 l1, .l w2] rfl (by (simp only [AllR]; (repeat' first | exact l1 | exact q4 | exact hb3 | exact hq3 | exact hr2 | exact True.intro | (show (_ : Bool) = _; assumption) | omega | apply And.intro); all_goals first | (simp; done) | (simp; omega) | (simp_all; done) | exact Nat.le_of_ble_eq_true rfl | kernel_rfl)) (ret_of rfl ?_ trivial trivial)
      exact rfl
    · have ecy : 2 * getN b / 256 ^ 16 = 0 := by rw [p16]; omega
      rw [if_neg hc, ecy]
      have hb2 := hw (putL (2 * getN b) 16) hlo
      have hq2 := hq (putL (2 * getN b) 16) hlo
      have hr2 := hr (putL (2 * getN b) 16) hlo
      generalize putL (2 * getN b) 16 = w at *
      have c3 : (((0 : Nat) : Int) == 1) = false := rfl
      refine gF [.f] rfl (rd_exit rfl ?_)
      refine gF [.f, .l w] rfl (ret_of rfl ?_ trivial trivial)
      exact rfl
theorem rSubkeys (key : List UInt8) (h : nRounds key.length ≠ 0) : Ret P (C ml) 172 [.s key] (.tup [.s (dbl (encK key zero16)), .s (dbl (dbl (encK key zero16))), .i .i64 0]) := by
  have k1 : Ret P (C ml) 173 [.i .i64 16] (.s zero16) := rZeros (ml := ml) 16 (by decide)
  have k2 := rEnc9 (ml := ml) key zero16 h (by simp [zero16])
  have k3 := rDouble (ml := ml) (encK key zero16) ((twoK h).e16 _ (by simp [zero16]))
  have k4 := rDouble (ml := ml) (dbl (encK key zero16)) (dbl_length _)
  generalize encK key zero16 = l at *
  generalize dbl (dbl l) = d2 at *
  generalize dbl l = d1 at *
  generalize zero16 = z at *
  refine hR Tryz.func172 ?_
  refine gF [cc k1, cc k2, .f, cc k3, cc k3, cc k4] rfl (ret_of rfl ?_ trivial trivial)
  exact ⟨rfl, rfl, rfl, rfl⟩
theorem rTag (key s : List UInt8) (h : nRounds key.length ≠ 0) (hs : s.length ≤ 100000) : Ret P (C ml) 104 [.s key, .s s] (.tup [.s (tagL key s), .i .i64 0]) := by
  have k1 := rSubkeys (ml := ml) key h
  have k2 : Ret P (C ml) 173 [.i .i64 16] (.s zero16) := rZeros (ml := ml) 16 (by decide)
  have t2 := twoK h
  have hk : ∀ x : List UInt8, x.length = 16 → Ret P (C ml) 163 [.s key, .s x] (.tup [.s (encK key x), .i .i64 0]) := fun x hx => rEnc9 key x h hx
  have hd1 := dbl_length (encK key zero16)
  have hd2 := dbl_length (dbl (encK key zero16))
  unfold tagL tagE
  obtain ⟨n, hn⟩ : ∃ n, (s.length - 1) / 16 = n := ⟨_, rfl⟩
  rw [hn]
  have hcl : ∀ i, i ≤ n → (chain (encK key) s i).length = 16 := fun i hi => chain_length t2 (by omega)
  have hes : ∀ i, chain (encK key) s (i + 1) = encK key (xorL (chain (encK key) s i) (blkL s i)) := fun i => rfl
  have hz0 : chain (encK key) s 0 = zero16 := rfl
  generalize dbl (dbl (encK key zero16)) = d2 at *
  generalize dbl (encK key zero16) = d1 at *
  refine hR Tryz.func104 ?_
  refine gR [cc k1, .f, cc k2] rfl ?_
  refine g_loop (fun i : Nat => [(0, .s key), (1, .s (s.drop (16 * i))), (6, .s d1), (7, .s d2), (9, .s (chain (encK key) s i))]) (fun _ => []) (fun i => i ≤ n) (fun i => n - i) 0 ⟨⟨rfl, rfl, rfl, rfl, congrArg T.s hz0.symm, trivial⟩, trivial, trivial⟩ (by omega) ?_
  intro i hi
  clear k1 k2 hz0
  have hdl : (s.drop (16 * i)).length = s.length - 16 * i := List.length_drop
  by_cases hlt : i < n
  · have c1 : decide (((s.drop (16 * i)).length : Int) > 16) = true := decide_eq_true (by omega)
    have q1 : (16 : Int) ≤ ((s.drop (16 * i)).length : Int) := by omega
    have hbl : (blkL s i).length = 16 := by unfold blkL; rw [List.length_take]; omega
    have l2 := hcl i hi
    have k3 := rXor (ml := ml) (chain (encK key) s i) (blkL s i) (by omega) (by omega)
    have k4 := hk (xorL (chain (encK key) s i) (blkL s i)) (by rw [xorL_length, l2, hbl]; rfl)
    rw [← hes] at k4
    have ed : (s.drop (16 * i)).drop 16 = s.drop (16 * (i + 1)) := by rw [List.drop_drop]; congr 1
    change Ret P (C ml) _ [.s (chain (encK key) s i), .s ((s.drop (16 * i)).take 16)] _ at k3
    clear hk hes hcl hbl l2
    generalize xorL (chain (encK key) s i) (blkL s i) = xx at *
    generalize hx1 : chain (encK key) s (i + 1) = x1 at *
    generalize chain (encK key) s i = x0 at *
    generalize s.drop (16 * i) = t at *
    refine gF [.t, cc k3, cc k4] rfl (rd_next (i + 1) (by omega) (by omega) ⟨rfl, congrArg T.s ed, rfl, rfl, congrArg T.s hx1.symm, trivial⟩ trivial trivial)
  · obtain rfl : i = n := by omega
    have c1 : decide (((s.drop (16 * i)).length : Int) > 16) = false := decide_eq_false (by omega)
    have l2 := hcl i hi
    have hll := lastL_length (s := s.drop (16 * i)) (a := d1) (b := d2) (by omega) hd1 hd2
    have k3 := rXor (ml := ml) (chain (encK key) s i) (lastL (s.drop (16 * i)) d1 d2) (by omega) (by omega)
    have k4 := hk (xorL (chain (encK key) s i) (lastL (s.drop (16 * i)) d1 d2)) (by rw [xorL_length, l2, hll]; rfl)
    have k5 := rXor (ml := ml) (s.drop (16 * i)) d1 (by omega) (by omega)
    have k6 := rPad16 (ml := ml) (s.drop (16 * i) ++ [128]) (by simp; omega)
    clear hk hes hcl
    generalize encK key (xorL (chain (encK key) s i) (lastL (s.drop (16 * i)) d1 d2)) = o at *
    generalize xorL (chain (encK key) s i) (lastL (s.drop (16 * i)) d1 d2) = xx at *
    unfold lastL at k3
    generalize chain (encK key) s i = x0 at *
    generalize s.drop (16 * i) = t at *
    by_cases h16 : t.length = 16
    · have c2 : ((t.length : Int) == 16) = true := by simp; omega
      rw [if_pos h16] at k3
      generalize xorL t d1 = y at *
      refine gF [.f] rfl (rd_exit rfl ?_)
      refine gF [.t, cc k5, cc k3, cc k4] rfl (ret_of rfl ?_ trivial trivial)
      exact ⟨rfl, rfl, rfl⟩
    · have c2 : ((t.length : Int) == 16) = false := by simp; omega
      rw [if_neg h16] at k3
      have e : t ++ [128] ++ zeroL ((16 - (t ++ [128]).length % 16) % 16) = t ++ 128 :: List.replicate (15 - t.length) 0 := by
        rw [List.length_append, show (16 - (t.length + [(128 : UInt8)].length) % 16) % 16 = 15 - t.length by simp; omega]
        simp [zeroL]
      rw [e] at k6
      have k7 := rXor (ml := ml) (t ++ 128 :: List.replicate (15 - t.length) 0) d2 (by simp; omega) (by omega)
      have q4 : t.length + [(128 : UInt8)].length ≤ 9223372036854775807 := by simp; omega
      clear e
      generalize xorL (t ++ 128 :: List.replicate (15 - t.length) 0) d2 = y at *
      generalize t ++ 128 :: List.replicate (15 - t.length) 0 = v at *
      refine gF [.f] rfl (rd_exit rfl ?_)
      refine gF [.f, cc k6, cc k7, cc k3, cc k4] rfl (ret_of rfl ?_ trivial trivial)
      exact ⟨rfl, rfl, rfl⟩
/-! ### Deriving -/
theorem rRnds12 (n : Nat) (h0 : 1 ≤ n) (h : n ≤ 4080) : Ret P (C ml) 272 [.i .i64 n] (.i .i64 ((n + 15) / 16 : Nat)) := by
  have c2 : decide ((n : Int) < 1) = false := decide_eq_false (by omega)
  have c3 : decide ((n : Int) > 4080) = false := decide_eq_false (by omega)
  refine hR Tryz.func272 ?_
  refine gR [.f, .f] rfl ?_
  refine g_loop (fun i : Nat => [(0, .i .i64 n), (3, .i .i64 i)]) (fun _ => []) (fun i => i ≤ (n + 15) / 16) (fun i => (n + 15) / 16 - i) 0 ⟨⟨rfl, rfl, trivial⟩, trivial, trivial⟩ (by omega) ?_
  intro i hi
  have e : IntKind.i64.wrap (16 * (i : Int)) = 16 * i := w64 (by omega) (by omega)
  by_cases hc : 16 * i < n
  · have d1 : decide (IntKind.i64.wrap (16 * (i : Int)) < n) = true := decide_eq_true (by rw [e]; omega)
    clear e
    refine gF [.t] rfl (rd_next (i + 1) (by omega) (by omega) ⟨rfl, ?_, trivial⟩ trivial trivial)
    exact congrArg (T.i .i64) (by rw [w64 (by omega) (by omega)]; simp)
  · have d1 : decide (IntKind.i64.wrap (16 * (i : Int)) < n) = false := decide_eq_false (by rw [e]; omega)
    clear e
    refine gF [.f] rfl (rd_exit rfl ?_)
    refine gF [] rfl (ret_of rfl ?_ trivial trivial)
    exact congrArg (T.i .i64) (by omega)
theorem rCounter (key fixed : List UInt8) (n : Nat) (h : nRounds key.length ≠ 0) (h0 : 1 ≤ n) (h1 : n ≤ 4080) (hf : fixed.length ≤ 1000) : Ret P (C ml) 231 [.s key, .s fixed, .i .i64 n] (.tup [.s (kdfL key fixed n), .i .i64 0]) := by
  have k2 := rRnds12 (ml := ml) n h0 h1
  obtain ⟨r, hr⟩ : ∃ r, (n + 15) / 16 = r := ⟨_, rfl⟩
  rw [hr] at k2
  have hr1 : 1 ≤ r ∧ r ≤ 255 := by omega
  have hk : ∀ i, i < r → Ret P (C ml) 104 [.s key, .s ([UInt8.ofNat (i + 1)] ++ fixed)] (.tup [.s (tagL key (UInt8.ofNat (i + 1) :: fixed)), .i .i64 0]) := fun i hi => rTag key _ h (by simp; omega)
  have htl : ∀ i, (tagL key (UInt8.ofNat (i + 1) :: fixed)).length = 16 := fun i => tagL_length h _
  have hcl : ∀ i, (catL (fun i => tagL key (UInt8.ofNat (i + 1) :: fixed)) i).length = 16 * i := fun i => catL_length fun j hj => htl j
  have hkd : kdfL key fixed n = (catL (fun i => tagL key (UInt8.ofNat (i + 1) :: fixed)) r).take n := by unfold kdfL; rw [hr]
  rw [hkd]
  have c0 : ((r : Int) == 0) = false := by simp; omega
  refine hR Tryz.func231 ?_
  rcases key3 h with d1 | ⟨d1, d2 | ⟨d2, d3⟩⟩
  case' inl => refine gR [.f, cc k2, .f] rfl ?_
  case' inr.inl => refine gR [.t, .f, cc k2, .f] rfl ?_
  case' inr.inr => refine gR [.t, .t, .f, cc k2, .f] rfl ?_
  all_goals
    refine g_loop (fun i : Nat => [(0, .s key), (1, .s fixed), (2, .i .i64 n), (8, .s (catL (fun i => tagL key (UInt8.ofNat (i + 1) :: fixed)) i)), (9, .i .i64 ((i + 1 : Nat) : Int))]) (fun _ => []) (fun i => i ≤ r) (fun i => r - i) 0 ⟨⟨rfl, rfl, rfl, rfl, rfl, trivial⟩, trivial, trivial⟩ (by omega) ?_
    intro i hi
    have hl0 := hcl i
    by_cases hlt : i < r
    · have c1 : decide (((i + 1 : Nat) : Int) ≤ (r : Int)) = true := decide_eq_true (by omega)
      have k3 := hk i hlt
      have hl1 := htl i
      have hw : IntKind.u8.wrap ((i + 1 : Nat) : Int) = ((UInt8.ofNat (i + 1)).toNat : Int) := by rw [wrap_u8]; simp [UInt8.toNat_ofNat']
      have hbz : List.take (1 * szOf (tsz (C ml) 5)) (List.drop 0 [T.i .u8 (IntKind.u8.wrap ((i + 1 : Nat) : Int))]) = bytesT [UInt8.ofNat (i + 1)] := by rw [hw]; rfl
      have et : catL (fun i => tagL key (UInt8.ofNat (i + 1) :: fixed)) (i + 1) = catL (fun i => tagL key (UInt8.ofNat (i + 1) :: fixed)) i ++ tagL key (UInt8.ofNat (i + 1) :: fixed) := rfl
      have q4 : [UInt8.ofNat (i + 1)].length + fixed.length ≤ 9223372036854775807 := by simp; omega
      have q5 : (catL (fun i => tagL key (UInt8.ofNat (i + 1) :: fixed)) i).length + (tagL key (UInt8.ofNat (i + 1) :: fixed)).length ≤ 9223372036854775807 := by omega
      clear hk htl hcl hl0 hl1 hw
      generalize hx1 : catL (fun i => tagL key (UInt8.ofNat (i + 1) :: fixed)) (i + 1) = x1 at *
      generalize catL (fun i => tagL key (UInt8.ofNat (i + 1) :: fixed)) i = x0 at *
      generalize tagL key (UInt8.ofNat (i + 1) :: fixed) = y at *
      refine gF [cc k2, .t, ldb hbz, cc k3] rfl (rd_next (i + 1) (by omega) (by omega) ⟨rfl, rfl, rfl, ?_, ?_, trivial⟩ trivial trivial)
      · exact congrArg T.s (by rw [hx1, et])
      · exact congrArg (T.i .i64) (by rw [w64 (by omega) (by omega)]; omega)
    · obtain rfl : i = r := by omega
      have c1 : decide (((i + 1 : Nat) : Int) ≤ (i : Int)) = false := decide_eq_false (by omega)
      have q6 : (n : Int) ≤ ((catL (fun i => tagL key (UInt8.ofNat (i + 1) :: fixed)) i).length : Int) := by omega
      clear hk htl hcl hl0
      generalize catL (fun i => tagL key (UInt8.ofNat (i + 1) :: fixed)) i = x0 at *
      refine gF [cc k2, .f] rfl (rd_exit rfl ?_)
      refine gF [] rfl (ret_of rfl ?_ trivial trivial)
      exact ⟨rfl, rfl, rfl⟩
theorem rInput35 (p n : Nat) (hp : p < 2) (h : nRounds n ≠ 0) : Ret P (C ml) 232 [.i .i64 p, .i .i64 n] (.s (inL p n)) := by
  have hn := nR_pos h
  have k3 := rPut (ml := ml) p 2 (by omega)
  have k4 := rPut (ml := ml) (n / 8) 2 (by omega)
  have k5 := rPut (ml := ml) (8 * n) 2 (by omega)
  rw [if_neg (by omega), show (2 : Int).toNat = 2 from rfl] at k3 k4 k5
  have w3 : IntKind.u64.wrap (p : Int) = (p : Nat) := by rw [wrap_u64]; omega
  have w4 : IntKind.u64.wrap (IntKind.i64.wrap (((n : Int)).tdiv 8)) = (n / 8 : Nat) := by rw [show ((n : Int)).tdiv 8 = ((n / 8 : Nat) : Int) from rfl, w64 (by omega) (by omega), wrap_u64]; omega
  have w5 : IntKind.u64.wrap (IntKind.i64.wrap (8 * (n : Int))) = (8 * n : Nat) := by rw [w64 (by omega) (by omega), wrap_u64]; omega
  rw [← w3] at k3
  rw [← w4] at k4
  rw [← w5] at k5
  have hi : inL p n = putL p 2 ++ [0] ++ putL (n / 8) 2 ++ putL (8 * n) 2 := rfl
  rw [hi]
  have c1 : decide ((p : Int) < 0) = false := decide_eq_false (by omega)
  have c2 : decide ((p : Int) > 1) = false := decide_eq_false (by omega)
  have z8 : (8 : Int) ≠ 0 := by decide
  have l1 : (putL p 2).length = 2 := putL_length _ _
  have l2 : (putL (n / 8) 2).length = 2 := putL_length _ _
  have l3 : (putL (8 * n) 2).length = 2 := putL_length _ _
  have q1 : (putL p 2).length + [(0 : UInt8)].length ≤ 9223372036854775807 := by simp; omega
  have q2 : (putL p 2 ++ [0]).length + (putL (n / 8) 2).length ≤ 9223372036854775807 := by simp; omega
  have q3 : (putL p 2 ++ [0] ++ putL (n / 8) 2).length + (putL (8 * n) 2).length ≤ 9223372036854775807 := by simp; omega
  clear w3 w4 w5 hi hn
  rcases key3 h with d1 | ⟨d1, d2 | ⟨d2, d3⟩⟩
  all_goals
    clear h
    generalize putL p 2 = x1 at *
    generalize putL (n / 8) 2 = x2 at *
    generalize putL (8 * n) 2 = x3 at *
  · refine hR Tryz.func232 ?_
    refine gF [.f, .f, .f, cc k3, cc k4, cc k5] rfl (ret_of rfl ?_ trivial trivial)
    exact rfl
  · refine hR Tryz.func232 ?_
    refine gF [.f, .f, .t, .f, cc k3, cc k4, cc k5] rfl (ret_of rfl ?_ trivial trivial)
    exact rfl
  · refine hR Tryz.func232 ?_
    refine gF [.f, .f, .t, .t, .f, cc k3, cc k4, cc k5] rfl (ret_of rfl ?_ trivial trivial)
    exact rfl
theorem rKey35 (kek : List UInt8) (p : Nat) (hp : p < 2) (h : nRounds kek.length ≠ 0) : Ret P (C ml) 161 [.s kek, .i .i64 p] (.tup [.s (dKey kek p), .i .i64 0]) := by
  have hn := nR_pos h
  have k2 := rInput35 (ml := ml) p kek.length hp h
  have hl : (inL p kek.length).length = 7 := by simp [inL, putL2]
  have k3 := rCounter (ml := ml) kek (inL p kek.length) kek.length h (by omega) (by omega) (by omega)
  change Ret P (C ml) _ _ (.tup [.s (dKey kek p), _]) at k3
  have c1 : decide ((p : Int) < 0) = false := decide_eq_false (by omega)
  have c2 : decide ((p : Int) > 1) = false := decide_eq_false (by omega)
  generalize inL p kek.length = i at *
  generalize dKey kek p = d at *
  rcases key3 h with d1 | ⟨d1, d2 | ⟨d2, d3⟩⟩
  · refine hR Tryz.func161 ?_
    refine gF [.f, .f, .f, cc k2, cc k3] rfl (ret_of rfl ?_ trivial trivial)
    exact ⟨rfl, rfl, rfl⟩
  · refine hR Tryz.func161 ?_
    refine gF [.t, .f, .f, .f, cc k2, cc k3] rfl (ret_of rfl ?_ trivial trivial)
    exact ⟨rfl, rfl, rfl⟩
  · refine hR Tryz.func161 ?_
    refine gF [.t, .t, .f, .f, .f, cc k2, cc k3] rfl (ret_of rfl ?_ trivial trivial)
    exact ⟨rfl, rfl, rfl⟩
theorem rKeys35 (kek : List UInt8) (h : nRounds kek.length ≠ 0) : Ret P (C ml) 95 [.s kek] (.tup [.s (dKey kek 0), .s (dKey kek 1), .i .i64 0]) := by
  have k3 : Ret P (C ml) 161 [.s kek, .i .i64 0] (.tup [.s (dKey kek 0), .i .i64 0]) := rKey35 (ml := ml) kek 0 (by omega) h
  have k4 : Ret P (C ml) 161 [.s kek, .i .i64 1] (.tup [.s (dKey kek 1), .i .i64 0]) := rKey35 (ml := ml) kek 1 (by omega) h
  generalize dKey kek 0 = a at *
  generalize dKey kek 1 = b at *
  refine hR Tryz.func95 ?_
  refine gF [cc k3, cc k4] rfl (ret_of rfl ?_ trivial trivial)
  exact ⟨rfl, rfl, rfl, rfl⟩
end Go.Proofs.YtipomdmlkkifcaaGreatDoor.Vm
