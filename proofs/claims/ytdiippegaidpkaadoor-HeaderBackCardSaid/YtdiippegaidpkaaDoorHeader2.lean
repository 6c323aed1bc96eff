/- Contracts: header.Encode; the laws of layer 31. -/
import Derived.Test.YtdiippegaidpkaaDoorHeader
set_option linter.unusedVariables false
set_option linter.unusedSimpArgs false
set_option linter.unnecessarySimpa false
set_option maxRecDepth 100000
namespace Go.Proofs.YtdiippegaidpkaaDoor.Vm
open Go Go.Proofs Go.RowKit
variable {ml : Int}
theorem getD_at {α : Type} (l : List α) (i : Nat) (h : i < l.length) (d : α) : l.getD i d = l[i]'h := by simp [h]
theorem decDigits_le : ∀ (w n : Nat), (Lib.decDigits n).length ≤ w + 1 ↔ n < 10 ^ (w + 1)
  | 0, n => by
    by_cases h : n < 10
    · rw [decDigits_one n h]; simp [h]
    · rw [decDigits_snoc n (by omega), List.length_append]
      have := decDigits_head (n / 10)
      obtain ⟨c, l, e, _⟩ := this
      rw [e]; simp; omega
  | w + 1, n => by
    by_cases h : n < 10
    · rw [decDigits_one n h]
      have : 10 ^ 1 ≤ 10 ^ (w + 1 + 1) := Nat.pow_le_pow_right (by omega) (by omega)
      simp; omega
    · rw [decDigits_snoc n (by omega), List.length_append]
      have := decDigits_le w (n / 10)
      simp only [List.length_cons, List.length_nil]
      have e : 10 ^ (w + 1 + 1) = 10 ^ (w + 1) * 10 := by rw [Nat.pow_succ]
      omega
theorem decW_empty (n w : Int) (v : Nat) (hw : w = (v + 1 : Nat)) (hv : v + 1 ≤ 18) : decW n w = [] ↔ (n < 0 ∨ (10 : Int) ^ (v + 1) ≤ n) := by
  unfold decW
  by_cases h0 : n < 0
  · simp [h0]
  · obtain ⟨N, rfl⟩ : ∃ N : Nat, n = N := ⟨n.toNat, by omega⟩
    have := decDigits_le v N
    have e : ((10 ^ (v + 1) : Nat) : Int) = (10 : Int) ^ (v + 1) := by simp
    rw [if_neg (by omega)]
    rw [← e]
    obtain ⟨c, l, e1, _⟩ := decDigits_head N
    rw [Int.toNat_natCast]
    by_cases h1 : w < (Lib.decDigits N).length
    · rw [if_pos h1]; simp only [true_iff]; omega
    · rw [if_neg h1]
      rw [e1] at h1 this ⊢
      simp only [List.append_eq_nil_iff, reduceCtorEq, and_false, false_iff]
      omega
theorem decW4 (n : Int) : decW n 4 = [] ↔ (n < 0 ∨ 9999 < n) := by
  rw [decW_empty n 4 3 rfl (by omega)]; omega
theorem decW2 (n : Int) : decW n 2 = [] ↔ (n < 0 ∨ 99 < n) := by
  rw [decW_empty n 2 1 rfl (by omega)]; omega
def hParts (x : Hdr) : List (List UInt8) := [[68], decW x.n 4, x.h.u, x.l, x.h.m, x.h.v, x.h.e, decW x.k 2, [48, 48]]
def accP (l : List (List UInt8)) (i : Nat) : List UInt8 := (l.take i).flatten
theorem accP_succ (l : List (List UInt8)) (i : Nat) (h : i < l.length) : accP l (i + 1) = accP l i ++ l.getD i [] := by
  unfold accP
  rw [List.take_succ_eq_append_getElem h, List.flatten_append]
  simp [h]
theorem accP_len (l : List (List UInt8)) (B : Nat) (h : ∀ p ∈ l, p.length ≤ B) (i : Nat) : (accP l i).length ≤ B * i := by
  induction i with
  | zero => simp [accP]
  | succ i ih =>
    by_cases hi : i < l.length
    · rw [accP_succ l i hi, List.length_append]
      have : (l.getD i []).length ≤ B := by
        rw [show l.getD i [] = l[i] from by simp [hi]]
        exact h _ (List.getElem_mem hi)
      rw [Nat.mul_add]; omega
    · have : accP l (i + 1) = accP l i := by
        unfold accP
        rw [List.take_of_length_le (by omega), List.take_of_length_le (by omega)]
      rw [this, Nat.mul_add]; omega
/-- The heap of a loop that writes parts onto a builder. -/
def bHeap (b : Nat) (rest : Heap) (l : List (List UInt8)) : Nat → Heap
  | 0 => (b, oB 0 [.np, .nsl]) :: rest
  | i + 1 => (b, oB 0 [.p b 0 0, .ref 1000 0 0 (accP l (i + 1)).length]) :: (1000, oR 0 (accP l (i + 1))) :: rest
theorem pEncode (x : Hdr) (h1 : -9223372036854775808 ≤ x.n) (h2 : x.n ≤ 9223372036854775807) (h3 : -9223372036854775808 ≤ x.k) (h4 : x.k ≤ 9223372036854775807) (h5 : x.l.length ≤ 1000) (h6 : x.h.u.length ≤ 1000) (h7 : x.h.m.length ≤ 1000) (h8 : x.h.v.length ≤ 1000) (h9 : x.h.e.length ≤ 1000) :
    Ret P (C ml) 25 [.agg x.cells] (.tup [.s (hEnc x).1, .i .i64 (hEnc x).2]) := by
  refine hret_of tab_ok Tryd.func25 rfl rfl (by kernel_rfl) rfl ?_
  have k1 := pMost (ml := ml) x.l
  have k2 := pCheck (ml := ml) x.h x.l
  have k3 := dDec (ml := ml) x.n 4 h1 h2
  have k4 := dDec (ml := ml) x.k 2 h3 h4
  have l1 := decW_le x.n 4
  have l2 := decW_le x.k 2
  rcases Bool.eq_false_or_eq_true (decW x.n 4 == []) with c1 | c1
  · have d1 := c1; (try simp at d1)
    refine g_fin tab_ok mixed 3000 [cc k3, cc k4, .t] rfl (by (simp only [AllR]; (repeat' first | exact k1 | exact k2 | exact k3 | exact k4 | exact True.intro | (show (_ : Bool) = _; assumption) | omega | apply And.intro); all_goals first | (simp; done) | (simp; omega) | (simp_all; done) | exact Nat.le_of_ble_eq_true rfl | kernel_rfl)) (ret_of rfl ?_ trivial trivial)
    rw [hEnc, if_pos (by have := (decW4 x.n).1 d1; omega)]; ((repeat' first | rfl | exact True.intro | apply And.intro); all_goals (simp [tle, look]; try omega))
  · have d1 := c1; (try simp at d1)
    have a1 : ¬ (x.n < 0 ∨ 9999 < x.n) := fun h => d1 ((decW4 x.n).2 h)
    rcases Bool.eq_false_or_eq_true (decW x.k 2 == []) with c2 | c2
    · have d2 := c2; (try simp at d2)
      refine g_fin tab_ok mixed 3000 [cc k3, cc k4, .f, .t] rfl (by (simp only [AllR]; (repeat' first | exact k1 | exact k2 | exact k3 | exact k4 | exact True.intro | (show (_ : Bool) = _; assumption) | omega | apply And.intro); all_goals first | (simp; done) | (simp; omega) | (simp_all; done) | exact Nat.le_of_ble_eq_true rfl | kernel_rfl)) (ret_of rfl ?_ trivial trivial)
      rw [hEnc, if_pos (by have := (decW2 x.k).1 d2; omega)]; ((repeat' first | rfl | exact True.intro | apply And.intro); all_goals (simp [tle, look]; try omega))
    · have d2 := c2; (try simp at d2)
      have a2 : ¬ (x.k < 0 ∨ 99 < x.k) := fun h => d2 ((decW2 x.k).2 h)
      rcases Bool.eq_false_or_eq_true (kMost x.l == 0) with c3 | c3
      · have d3 := c3; (try simp at d3)
        refine g_fin tab_ok mixed 3000 [cc k3, cc k4, .f, .f, cc k1, .t] rfl (by (simp only [AllR]; (repeat' first | exact k1 | exact k2 | exact k3 | exact k4 | exact True.intro | (show (_ : Bool) = _; assumption) | omega | apply And.intro); all_goals first | (simp; done) | (simp; omega) | (simp_all; done) | exact Nat.le_of_ble_eq_true rfl | kernel_rfl)) (ret_of rfl ?_ trivial trivial)
        rw [hEnc, if_pos (by omega)]; ((repeat' first | rfl | exact True.intro | apply And.intro); all_goals (simp [tle, look]; try omega))
      · have d3 := c3; (try simp at d3)
        rw [hEnc, if_neg (by omega)]
        rcases Bool.eq_false_or_eq_true (tChk x.h x.l) with c4 | c4
        · rw [c4] at k2; simp only [if_true] at k2
          rw [if_pos c4]
          refine g_run tab_ok mixed 3000 [cc k3, cc k4, .f, .f, cc k1, .f, cc k2, .f] rfl (by (simp only [AllR]; (repeat' first | exact k1 | exact k2 | exact k3 | exact k4 | exact True.intro | (show (_ : Bool) = _; assumption) | omega | apply And.intro); all_goals first | (simp; done) | (simp; omega) | (simp_all; done) | exact Nat.le_of_ble_eq_true rfl | kernel_rfl)) ?_
          have hlen : ∀ p ∈ hParts x, p.length ≤ 1000 := by
            intro p hp
            simp only [hParts, List.mem_cons, List.not_mem_nil, or_false] at hp
            rcases hp with rfl | rfl | rfl | rfl | rfl | rfl | rfl | rfl | rfl <;> first | omega | decide
          have hp9 : (hParts x).length = 9 := rfl
          refine g_loop (fun i : Nat => [(7, .p 7 0 0), (52, .ref 52 0 0 9), (53, .i .i64 9), (54, .i .i64 i)]) (fun i => bHeap 7 [(52, 0, .row true 1 ((hParts x).map .s))] (hParts x) i) (fun i => i ≤ 9) (fun i => 9 - i) 0 ⟨?_, ?_, ?_⟩ (by omega) ?_
          · ((repeat' first | rfl | exact True.intro | apply And.intro); all_goals (simp [tle, look]; try omega))
          · ((repeat' first | rfl | exact True.intro | apply And.intro); all_goals (simp [tle, look]; try omega))
          · ((repeat' first | rfl | exact True.intro | apply And.intro); all_goals (simp [tle, look]; try omega))
          intro i hi
          by_cases hi9 : i < 9
          · match i, hi9, hi with
            | 0, _, _ =>
              have w0 : HRet P (C ml) 38 [.p 7 0 0, .s [68]] [(7, oB 0 [.np, .nsl])] (.tup [.i .i64 1, .nif]) [(7, oB 0 [.p 7 0 0, .ref 1000 0 0 1]), (1000, oR 0 [68])] := wsFresh 7 1000 (by decide) (by decide) [68] (by decide) (by decide)
              refine g_fin tab_ok mixed 3000 [.t, .a, ch w0] rfl (by (simp only [AllR]; (repeat' first | exact w0 | exact True.intro | (show (_ : Bool) = _; assumption) | omega | apply And.intro); all_goals first | (simp; done) | (simp; omega) | (simp_all; done) | exact Nat.le_of_ble_eq_true rfl | kernel_rfl)) (rd_next 1 (by omega) (by omega) ?_ ?_ ?_)
              · ((repeat' first | rfl | exact True.intro | apply And.intro); all_goals (simp [tle, look]; try omega))
              · ((repeat' first | rfl | exact True.intro | apply And.intro); all_goals (simp [tle, look]; try omega))
              · ((repeat' first | rfl | exact True.intro | apply And.intro); all_goals (simp [tle, look]; try omega))
            | j + 1, hj, _ =>
              have hr : ((hParts x).map T.s)[0 + ((j + 1 : Nat) : Int).toNat * (tin (C ml) 9).size]? = some (.s ((hParts x).getD (j + 1) [])) := by
                show ((hParts x).map T.s)[0 + (j + 1) * 1]? = _
                rw [Nat.mul_one, Nat.zero_add, List.getElem?_map, List.getElem?_eq_getElem (show j + 1 < (hParts x).length from hj)]
                simp [show j + 1 < (hParts x).length from hj]; try rfl
              have e := accP_succ (hParts x) (j + 1) hj
              have b1 := accP_len (hParts x) 1000 hlen (j + 1)
              have b2 : ((hParts x).getD (j + 1) []).length ≤ 1000 := by
                rw [getD_at _ _ (show j + 1 < (hParts x).length from hj)]
                exact hlen _ (List.getElem_mem hj)
              have w1 : HRet P (C ml) 38 [.p 7 0 0, .s ((hParts x).getD (j + 1) [])] [(7, oB 0 [.p 7 0 0, .ref 1000 0 0 (accP (hParts x) (j + 1)).length]), (1000, oR 0 (accP (hParts x) (j + 1)))] (.tup [.i .i64 ((hParts x).getD (j + 1) []).length, .nif])
                  [(7, oB 0 [.p 7 0 0, .ref 1000 1 0 ((accP (hParts x) (j + 1)).length + ((hParts x).getD (j + 1) []).length)]), (1000, oR 1 (accP (hParts x) (j + 1) ++ (hParts x).getD (j + 1) []))] := wsUsed 7 1000 (by decide) (by decide) (accP (hParts x) (j + 1)) ((hParts x).getD (j + 1) []) (by omega) (by omega)
              refine g_fin tab_ok mixed 3000 [.t, ld1 hr, ch w1] rfl (by (simp only [AllR]; (repeat' first | exact w1 | exact hr | exact True.intro | (show (_ : Bool) = _; assumption) | omega | apply And.intro); all_goals first | (simp; done) | (simp; omega) | (simp_all; done) | exact Nat.le_of_ble_eq_true rfl | kernel_rfl)) (rd_next (j + 2) (by omega) (by omega) ?_ ?_ ?_)
              · ((repeat' first | rfl | exact True.intro | apply And.intro); all_goals (simp [tle, look]; try omega))
              · simp only [bHeap, e, List.length_append]; ((repeat' first | rfl | exact True.intro | apply And.intro); all_goals (simp [tle, look]; try omega))
              · ((repeat' first | rfl | exact True.intro | apply And.intro); all_goals (simp [tle, look]; try omega))
          · obtain rfl : i = 9 := by omega
            have b1 := accP_len (hParts x) 1000 hlen 9
            have s1 : HRet P (C ml) 39 [.p 7 0 0] [(7, oB 0 [.p 7 0 0, .ref 1000 0 0 (accP (hParts x) 9).length]), (1000, oR 0 (accP (hParts x) 9))] (.s (accP (hParts x) 9)) [(7, 0, .dead), (1000, 0, .dead)] := bsUsed 7 1000 (by decide) (by decide) (accP (hParts x) 9) (by simp [accP, hParts]) (by omega)
            refine g_fin tab_ok mixed 3000 [.f] rfl (by (simp only [AllR]; (repeat' first | exact True.intro | (show (_ : Bool) = _; assumption) | omega | apply And.intro); all_goals first | (simp; done) | (simp; omega) | (simp_all; done) | exact Nat.le_of_ble_eq_true rfl | kernel_rfl)) (rd_exit rfl ?_)
            refine g_fin tab_ok mixed 3000 [ch s1] rfl (by (simp only [AllR]; (repeat' first | exact s1 | exact True.intro | (show (_ : Bool) = _; assumption) | omega | apply And.intro); all_goals first | (simp; done) | (simp; omega) | (simp_all; done) | exact Nat.le_of_ble_eq_true rfl | kernel_rfl)) (ret_of rfl ?_ trivial trivial)
            simp [tle, tleL, accP, hParts]
        · rw [c4] at k2; simp only [Bool.false_eq_true, if_false] at k2
          rw [if_neg (by rw [c4]; simp)]
          refine g_fin tab_ok mixed 3000 [cc k3, cc k4, .f, .f, cc k1, .f, cc k2, .t] rfl (by (simp only [AllR]; (repeat' first | exact k1 | exact k2 | exact k3 | exact k4 | exact True.intro | (show (_ : Bool) = _; assumption) | omega | apply And.intro); all_goals first | (simp; done) | (simp; omega) | (simp_all; done) | exact Nat.le_of_ble_eq_true rfl | kernel_rfl)) (ret_of rfl ?_ trivial trivial)
          ((repeat' first | rfl | exact True.intro | apply And.intro); all_goals (simp [tle, look]; try omega))
end Go.Proofs.YtdiippegaidpkaaDoor.Vm
