/- Contracts: clavigerref23.Letter, Size, Most; kind.table, Most. -/
import Derived.Test.YtdiippegaidpkaaDoorUndec
import Derived.Test.YtdiippegaidpkaaDoorVm21
set_option linter.unusedVariables false
set_option linter.unusedSimpArgs false
set_option linter.unnecessarySimpa false
set_option maxRecDepth 100000
namespace Go.Proofs.YtdiippegaidpkaaDoor.Vm
open Go Go.Proofs Go.RowKit
variable {ml : Int}
def kLetter (k : Int) : List UInt8 := if 1 ≤ k ∧ k ≤ 3 then [65] else if k = 4 ∨ k = 5 then [84] else if k = 6 ∨ k = 7 then [72] else if 8 ≤ k ∧ k ≤ 11 then [69] else []
def kSize (k : Int) : Int := if k = 1 then 16 else if k = 2 then 24 else if k = 3 then 32 else if k = 4 then 16 else if k = 5 then 24 else if k = 6 then 32 else if k = 7 then 64 else if k = 8 then 28 else if k = 9 then 32 else if k = 10 then 48 else if k = 11 then 66 else 0
def kName (k : Int) : List UInt8 := if k = 1 then [65, 69, 83, 45, 49, 50, 56] else if k = 2 then [65, 69, 83, 45, 49, 57, 50] else if k = 3 then [65, 69, 83, 45, 50, 53, 54] else if k = 4 then [84, 68, 69, 83, 45, 50] else if k = 5 then [84, 68, 69, 83, 45, 51] else if k = 6 then [72, 77, 65, 67, 45, 83, 72, 65, 50, 53, 54] else if k = 7 then [72, 77, 65, 67, 45, 83, 72, 65, 53, 49, 50] else if k = 8 then [69, 67, 45, 80, 50, 50, 52] else if k = 9 then [69, 67, 45, 80, 50, 53, 54] else if k = 10 then [69, 67, 45, 80, 51, 56, 52] else if k = 11 then [69, 67, 45, 80, 53, 50, 49] else []
def kArcs (k : Int) : List UInt8 := if k = 1 then [50, 46, 49, 54, 46, 56, 52, 48, 46, 49, 46, 49, 48, 49, 46, 51, 46, 52, 46, 49, 46, 49] else if k = 2 then [50, 46, 49, 54, 46, 56, 52, 48, 46, 49, 46, 49, 48, 49, 46, 51, 46, 52, 46, 49, 46, 50, 49] else if k = 3 then [50, 46, 49, 54, 46, 56, 52, 48, 46, 49, 46, 49, 48, 49, 46, 51, 46, 52, 46, 49, 46, 52, 49] else if k = 4 then [49, 46, 50, 46, 56, 52, 48, 46, 49, 49, 51, 53, 52, 57, 46, 51, 46, 55] else if k = 5 then [49, 46, 50, 46, 56, 52, 48, 46, 49, 49, 51, 53, 52, 57, 46, 51, 46, 55] else if k = 6 then [49, 46, 50, 46, 56, 52, 48, 46, 49, 49, 51, 53, 52, 57, 46, 50, 46, 57] else if k = 7 then [49, 46, 50, 46, 56, 52, 48, 46, 49, 49, 51, 53, 52, 57, 46, 50, 46, 49, 49] else if k = 8 then [49, 46, 50, 46, 56, 52, 48, 46, 49, 48, 48, 52, 53, 46, 50, 46, 49] else if k = 9 then [49, 46, 50, 46, 56, 52, 48, 46, 49, 48, 48, 52, 53, 46, 50, 46, 49] else if k = 10 then [49, 46, 50, 46, 56, 52, 48, 46, 49, 48, 48, 52, 53, 46, 50, 46, 49] else if k = 11 then [49, 46, 50, 46, 56, 52, 48, 46, 49, 48, 48, 52, 53, 46, 50, 46, 49] else []
def kCurve (k : Int) : Int := if 8 ≤ k ∧ k ≤ 11 then k - 7 else 0
theorem rLetter (k : Int) : Ret P (C ml) 58 [.i .i64 k] (.s (kLetter k)) := by
  refine hret_of tab_ok Tryd.func58 rfl rfl (by kernel_rfl) rfl ?_
  rcases Bool.eq_false_or_eq_true (decide (k ≥ 1)) with c1 | c1
  · have d1 := c1; (try simp at d1)
    rcases Bool.eq_false_or_eq_true (decide (k ≤ 3)) with c2 | c2
    · have d2 := c2; (try simp at d2)
      refine g_fin tab_ok mixed 3000 [.t, .t] rfl (by (simp only [AllR]; (repeat' first | exact True.intro | (show (_ : Bool) = _; assumption) | omega | apply And.intro); all_goals first | (simp; done) | (simp; omega) | (simp_all; done) | exact Nat.le_of_ble_eq_true rfl | kernel_rfl)) (ret_of rfl ?_ trivial trivial)
      simp [tle, kLetter]; grind
    · have d2 := c2; (try simp at d2)
      rcases Bool.eq_false_or_eq_true (k == 4) with c3 | c3
      · have d3 := c3; (try simp at d3)
        refine g_fin tab_ok mixed 3000 [.t, .f, .t] rfl (by (simp only [AllR]; (repeat' first | exact True.intro | (show (_ : Bool) = _; assumption) | omega | apply And.intro); all_goals first | (simp; done) | (simp; omega) | (simp_all; done) | exact Nat.le_of_ble_eq_true rfl | kernel_rfl)) (ret_of rfl ?_ trivial trivial)
        simp [tle, kLetter]; grind
      · have d3 := c3; (try simp at d3)
        rcases Bool.eq_false_or_eq_true (k == 5) with c4 | c4
        · have d4 := c4; (try simp at d4)
          refine g_fin tab_ok mixed 3000 [.t, .f, .f, .t] rfl (by (simp only [AllR]; (repeat' first | exact True.intro | (show (_ : Bool) = _; assumption) | omega | apply And.intro); all_goals first | (simp; done) | (simp; omega) | (simp_all; done) | exact Nat.le_of_ble_eq_true rfl | kernel_rfl)) (ret_of rfl ?_ trivial trivial)
          simp [tle, kLetter]; grind
        · have d4 := c4; (try simp at d4)
          rcases Bool.eq_false_or_eq_true (k == 6) with c5 | c5
          · have d5 := c5; (try simp at d5)
            refine g_fin tab_ok mixed 3000 [.t, .f, .f, .f, .t] rfl (by (simp only [AllR]; (repeat' first | exact True.intro | (show (_ : Bool) = _; assumption) | omega | apply And.intro); all_goals first | (simp; done) | (simp; omega) | (simp_all; done) | exact Nat.le_of_ble_eq_true rfl | kernel_rfl)) (ret_of rfl ?_ trivial trivial)
            simp [tle, kLetter]; grind
          · have d5 := c5; (try simp at d5)
            rcases Bool.eq_false_or_eq_true (k == 7) with c6 | c6
            · have d6 := c6; (try simp at d6)
              refine g_fin tab_ok mixed 3000 [.t, .f, .f, .f, .f, .t] rfl (by (simp only [AllR]; (repeat' first | exact True.intro | (show (_ : Bool) = _; assumption) | omega | apply And.intro); all_goals first | (simp; done) | (simp; omega) | (simp_all; done) | exact Nat.le_of_ble_eq_true rfl | kernel_rfl)) (ret_of rfl ?_ trivial trivial)
              simp [tle, kLetter]; grind
            · have d6 := c6; (try simp at d6)
              rcases Bool.eq_false_or_eq_true (decide (k ≤ 11)) with c7 | c7
              · have d7 := c7; (try simp at d7)
                refine g_fin tab_ok mixed 3000 [.t, .f, .f, .f, .f, .f, .t, .t] rfl (by (simp only [AllR]; (repeat' first | exact True.intro | (show (_ : Bool) = _; assumption) | omega | apply And.intro); all_goals first | (simp; done) | (simp; omega) | (simp_all; done) | exact Nat.le_of_ble_eq_true rfl | kernel_rfl)) (ret_of rfl ?_ trivial trivial)
                simp [tle, kLetter]; grind
              · have d7 := c7; (try simp at d7)
                refine g_fin tab_ok mixed 3000 [.t, .f, .f, .f, .f, .f, .t, .f] rfl (by (simp only [AllR]; (repeat' first | exact True.intro | (show (_ : Bool) = _; assumption) | omega | apply And.intro); all_goals first | (simp; done) | (simp; omega) | (simp_all; done) | exact Nat.le_of_ble_eq_true rfl | kernel_rfl)) (ret_of rfl ?_ trivial trivial)
                simp [tle, kLetter]; grind
  · have d1 := c1; (try simp at d1)
    refine g_fin tab_ok mixed 3000 [.f, .f, .f, .f, .f, .f] rfl (by (simp only [AllR]; (repeat' first | exact True.intro | (show (_ : Bool) = _; assumption) | omega | apply And.intro); all_goals first | (simp; done) | (simp; omega) | (simp_all; done) | exact Nat.le_of_ble_eq_true rfl | kernel_rfl)) (ret_of rfl ?_ trivial trivial)
    simp [tle, kLetter]; grind
theorem rSize (k : Int) : Ret P (C ml) 59 [.i .i64 k] (.i .i64 (kSize k)) := by
  refine hret_of tab_ok Tryd.func59 rfl rfl (by kernel_rfl) rfl ?_
  rcases Bool.eq_false_or_eq_true (k == 1) with c1 | c1
  · have d1 := c1; (try simp at d1)
    refine g_fin tab_ok mixed 3000 [.t] rfl (by (simp only [AllR]; (repeat' first | exact True.intro | (show (_ : Bool) = _; assumption) | omega | apply And.intro); all_goals first | (simp; done) | (simp; omega) | (simp_all; done) | exact Nat.le_of_ble_eq_true rfl | kernel_rfl)) (ret_of rfl ?_ trivial trivial)
    simp [tle, kSize]; grind
  · have d1 := c1; (try simp at d1)
    rcases Bool.eq_false_or_eq_true (k == 2) with c2 | c2
    · have d2 := c2; (try simp at d2)
      refine g_fin tab_ok mixed 3000 [.f, .t] rfl (by (simp only [AllR]; (repeat' first | exact True.intro | (show (_ : Bool) = _; assumption) | omega | apply And.intro); all_goals first | (simp; done) | (simp; omega) | (simp_all; done) | exact Nat.le_of_ble_eq_true rfl | kernel_rfl)) (ret_of rfl ?_ trivial trivial)
      simp [tle, kSize]; grind
    · have d2 := c2; (try simp at d2)
      rcases Bool.eq_false_or_eq_true (k == 3) with c3 | c3
      · have d3 := c3; (try simp at d3)
        refine g_fin tab_ok mixed 3000 [.f, .f, .t] rfl (by (simp only [AllR]; (repeat' first | exact True.intro | (show (_ : Bool) = _; assumption) | omega | apply And.intro); all_goals first | (simp; done) | (simp; omega) | (simp_all; done) | exact Nat.le_of_ble_eq_true rfl | kernel_rfl)) (ret_of rfl ?_ trivial trivial)
        simp [tle, kSize]; grind
      · have d3 := c3; (try simp at d3)
        rcases Bool.eq_false_or_eq_true (k == 4) with c4 | c4
        · have d4 := c4; (try simp at d4)
          refine g_fin tab_ok mixed 3000 [.f, .f, .f, .t] rfl (by (simp only [AllR]; (repeat' first | exact True.intro | (show (_ : Bool) = _; assumption) | omega | apply And.intro); all_goals first | (simp; done) | (simp; omega) | (simp_all; done) | exact Nat.le_of_ble_eq_true rfl | kernel_rfl)) (ret_of rfl ?_ trivial trivial)
          simp [tle, kSize]; grind
        · have d4 := c4; (try simp at d4)
          rcases Bool.eq_false_or_eq_true (k == 5) with c5 | c5
          · have d5 := c5; (try simp at d5)
            refine g_fin tab_ok mixed 3000 [.f, .f, .f, .f, .t] rfl (by (simp only [AllR]; (repeat' first | exact True.intro | (show (_ : Bool) = _; assumption) | omega | apply And.intro); all_goals first | (simp; done) | (simp; omega) | (simp_all; done) | exact Nat.le_of_ble_eq_true rfl | kernel_rfl)) (ret_of rfl ?_ trivial trivial)
            simp [tle, kSize]; grind
          · have d5 := c5; (try simp at d5)
            rcases Bool.eq_false_or_eq_true (k == 6) with c6 | c6
            · have d6 := c6; (try simp at d6)
              refine g_fin tab_ok mixed 3000 [.f, .f, .f, .f, .f, .t] rfl (by (simp only [AllR]; (repeat' first | exact True.intro | (show (_ : Bool) = _; assumption) | omega | apply And.intro); all_goals first | (simp; done) | (simp; omega) | (simp_all; done) | exact Nat.le_of_ble_eq_true rfl | kernel_rfl)) (ret_of rfl ?_ trivial trivial)
              simp [tle, kSize]; grind
            · have d6 := c6; (try simp at d6)
              rcases Bool.eq_false_or_eq_true (k == 7) with c7 | c7
              · have d7 := c7; (try simp at d7)
                refine g_fin tab_ok mixed 3000 [.f, .f, .f, .f, .f, .f, .t] rfl (by (simp only [AllR]; (repeat' first | exact True.intro | (show (_ : Bool) = _; assumption) | omega | apply And.intro); all_goals first | (simp; done) | (simp; omega) | (simp_all; done) | exact Nat.le_of_ble_eq_true rfl | kernel_rfl)) (ret_of rfl ?_ trivial trivial)
                simp [tle, kSize]; grind
              · have d7 := c7; (try simp at d7)
                rcases Bool.eq_false_or_eq_true (k == 8) with c8 | c8
                · have d8 := c8; (try simp at d8)
                  refine g_fin tab_ok mixed 3000 [.f, .f, .f, .f, .f, .f, .f, .t] rfl (by (simp only [AllR]; (repeat' first | exact True.intro | (show (_ : Bool) = _; assumption) | omega | apply And.intro); all_goals first | (simp; done) | (simp; omega) | (simp_all; done) | exact Nat.le_of_ble_eq_true rfl | kernel_rfl)) (ret_of rfl ?_ trivial trivial)
                  simp [tle, kSize]; grind
                · have d8 := c8; (try simp at d8)
                  rcases Bool.eq_false_or_eq_true (k == 9) with c9 | c9
                  · have d9 := c9; (try simp at d9)
                    refine g_fin tab_ok mixed 3000 [.f, .f, .f, .f, .f, .f, .f, .f, .t] rfl (by (simp only [AllR]; (repeat' first | exact True.intro | (show (_ : Bool) = _; assumption) | omega | apply And.intro); all_goals first | (simp; done) | (simp; omega) | (simp_all; done) | exact Nat.le_of_ble_eq_true rfl | kernel_rfl)) (ret_of rfl ?_ trivial trivial)
                    simp [tle, kSize]; grind
                  · have d9 := c9; (try simp at d9)
                    rcases Bool.eq_false_or_eq_true (k == 10) with c10 | c10
                    · have d10 := c10; (try simp at d10)
                      refine g_fin tab_ok mixed 3000 [.f, .f, .f, .f, .f, .f, .f, .f, .f, .t] rfl (by (simp only [AllR]; (repeat' first | exact True.intro | (show (_ : Bool) = _; assumption) | omega | apply And.intro); all_goals first | (simp; done) | (simp; omega) | (simp_all; done) | exact Nat.le_of_ble_eq_true rfl | kernel_rfl)) (ret_of rfl ?_ trivial trivial)
                      simp [tle, kSize]; grind
                    · have d10 := c10; (try simp at d10)
                      rcases Bool.eq_false_or_eq_true (k == 11) with c11 | c11
                      · have d11 := c11; (try simp at d11)
                        refine g_fin tab_ok mixed 3000 [.f, .f, .f, .f, .f, .f, .f, .f, .f, .f, .t] rfl (by (simp only [AllR]; (repeat' first | exact True.intro | (show (_ : Bool) = _; assumption) | omega | apply And.intro); all_goals first | (simp; done) | (simp; omega) | (simp_all; done) | exact Nat.le_of_ble_eq_true rfl | kernel_rfl)) (ret_of rfl ?_ trivial trivial)
                        simp [tle, kSize]; grind
                      · have d11 := c11; (try simp at d11)
                        refine g_fin tab_ok mixed 3000 [.f, .f, .f, .f, .f, .f, .f, .f, .f, .f, .f] rfl (by (simp only [AllR]; (repeat' first | exact True.intro | (show (_ : Bool) = _; assumption) | omega | apply And.intro); all_goals first | (simp; done) | (simp; omega) | (simp_all; done) | exact Nat.le_of_ble_eq_true rfl | kernel_rfl)) (ret_of rfl ?_ trivial trivial)
                        simp [tle, kSize]; grind
def kMostTo (l : List UInt8) : Nat → Int
  | 0 => 0
  | n + 1 => if kLetter (n + 1) = l ∧ kMostTo l n < kSize (n + 1) then kSize (n + 1) else kMostTo l n
def kMost (l : List UInt8) : Int := if l = [65] then 32 else if l = [84] then 24 else if l = [72] then 64 else if l = [69] then 66 else 0
theorem kMostTo_eq (l : List UInt8) : kMostTo l 11 = kMost l := by
  simp only [kMostTo, kLetter, kSize, kMost]
  grind
theorem rMost (l : List UInt8) : Ret P (C ml) 40 [.s l] (.i .i64 (kMost l)) := by
  refine hret_of tab_ok Tryd.func40 rfl rfl (by kernel_rfl) rfl ?_
  refine g_run tab_ok mixed 3000 [] rfl (by (simp only [AllR]; (repeat' first | exact True.intro | (show (_ : Bool) = _; assumption) | omega | apply And.intro); all_goals first | (simp; done) | (simp; omega) | (simp_all; done) | exact Nat.le_of_ble_eq_true rfl | kernel_rfl)) ?_
  refine g_loop (fun i : Nat => [(0, .s l), (3, .i .i64 (kMostTo l i)), (4, .i .i64 (i + 1 : Nat))]) (fun _ => []) (fun i => i ≤ 11) (fun i => 11 - i) 0 ⟨⟨rfl, rfl, rfl, trivial⟩, trivial, trivial⟩ (by omega) ?_
  intro i h1
  have k1 := rLetter (ml := ml) (i + 1 : Nat)
  have k2 := rSize (ml := ml) (i + 1 : Nat)
  rcases Bool.eq_false_or_eq_true (decide ((↑(i + 1) : Int) < 12)) with c1 | c1
  · have d1 := c1; (try simp at d1)
    rcases Bool.eq_false_or_eq_true (kLetter (↑(i + 1) : Int) == l) with c2 | c2
    · have d2 := c2; (try simp at d2)
      rcases Bool.eq_false_or_eq_true (decide (kSize (↑(i + 1) : Int) > kMostTo l i)) with c3 | c3
      · have d3 := c3; (try simp at d3)
        refine g_fin tab_ok mixed 3000 [.t, cc k1, .t, cc k2, .t, cc k2] rfl (by (simp only [AllR]; (repeat' first | exact k1 | exact k2 | exact True.intro | (show (_ : Bool) = _; assumption) | omega | apply And.intro); all_goals first | (simp; done) | (simp; omega) | (simp_all; done) | exact Nat.le_of_ble_eq_true rfl | kernel_rfl)) (rd_next (i + 1) (by omega) (by omega) ⟨rfl, ?_, ?_, trivial⟩ trivial trivial)
        all_goals (simp_all [tle, kMostTo, look]; try omega)
      · have d3 := c3; (try simp at d3)
        refine g_fin tab_ok mixed 3000 [.t, cc k1, .t, cc k2, .f] rfl (by (simp only [AllR]; (repeat' first | exact k1 | exact k2 | exact True.intro | (show (_ : Bool) = _; assumption) | omega | apply And.intro); all_goals first | (simp; done) | (simp; omega) | (simp_all; done) | exact Nat.le_of_ble_eq_true rfl | kernel_rfl)) (rd_next (i + 1) (by omega) (by omega) ⟨rfl, ?_, ?_, trivial⟩ trivial trivial)
        all_goals (simp_all [tle, kMostTo, look]; try omega)
    · have d2 := c2; (try simp at d2)
      refine g_fin tab_ok mixed 3000 [.t, cc k1, .f] rfl (by (simp only [AllR]; (repeat' first | exact k1 | exact k2 | exact True.intro | (show (_ : Bool) = _; assumption) | omega | apply And.intro); all_goals first | (simp; done) | (simp; omega) | (simp_all; done) | exact Nat.le_of_ble_eq_true rfl | kernel_rfl)) (rd_next (i + 1) (by omega) (by omega) ⟨rfl, ?_, ?_, trivial⟩ trivial trivial)
      all_goals (simp_all [tle, kMostTo, look]; try omega)
  · have d1 := c1; (try simp at d1)
    refine g_fin tab_ok mixed 3000 [.f] rfl (by (simp only [AllR]; (repeat' first | exact k1 | exact k2 | exact True.intro | (show (_ : Bool) = _; assumption) | omega | apply And.intro); all_goals first | (simp; done) | (simp; omega) | (simp_all; done) | exact Nat.le_of_ble_eq_true rfl | kernel_rfl)) (rd_exit rfl ?_)
    refine g_fin tab_ok mixed 3000 [] rfl (by (simp only [AllR]; (repeat' first | exact k1 | exact k2 | exact True.intro | (show (_ : Bool) = _; assumption) | omega | apply And.intro); all_goals first | (simp; done) | (simp; omega) | (simp_all; done) | exact Nat.le_of_ble_eq_true rfl | kernel_rfl)) (ret_of rfl ?_ trivial trivial)
    (have e : i = 11 := by omega); subst e; exact congrArg (T.i .i64) (kMostTo_eq l)
def kLine (k : Int) : List T := [.s (kName k), .i .i64 (kSize k), .s (kLetter k), .i .i64 (kCurve k), .s (kArcs k)]
def kRows : List T := (List.range 12).flatMap fun i => kLine (i : Nat)
theorem kRows_at (i : Nat) (h : i < 12) : (kRows.drop (i * 5)).take 5 = kLine i := by
  have : ∀ i : Fin 12, (kRows.drop (i.val * 5)).take 5 = kLine (i.val : Nat) := fun i => by
    match i with
    | 0 | 1 | 2 | 3 | 4 | 5 | 6 | 7 | 8 | 9 | 10 | 11 => rfl
  exact this ⟨i, h⟩
theorem kTable : Ret P (C ml) 52 [] (.sl 12 kRows) := by
  refine hret_of tab_ok Tryd.func52 rfl rfl (by kernel_rfl) rfl ?_
  refine g_end_frz 13 ?_
  refine g_fin tab_ok mixed 3000 [] rfl (by (simp only [AllR]; (repeat' first | exact True.intro | (show (_ : Bool) = _; assumption) | omega | apply And.intro); all_goals first | (simp; done) | (simp; omega) | (simp_all; done) | exact Nat.le_of_ble_eq_true rfl | kernel_rfl)) ⟨rfl, _, _, rfl, ret_of rfl ?_ trivial trivial⟩
  rfl
def kMost2 (l : List UInt8) : Nat → Int
  | 0 => 0
  | n + 1 => if kLetter (n : Nat) = l then maxI (kMost2 l n) (kSize (n : Nat)) else kMost2 l n
theorem kMost2_eq (l : List UInt8) : kMost2 l 12 = kMost l := by
  simp only [kMost2, kLetter, kSize, kMost, maxI]
  grind
theorem pMost (l : List UInt8) : Ret P (C ml) 36 [.s l] (.i .i64 (kMost l)) := by
  refine hret_of tab_ok Tryd.func36 rfl rfl (by kernel_rfl) rfl ?_
  have k0 := kTable (ml := ml)
  refine g_run tab_ok mixed 3000 [cc k0] rfl (by (simp only [AllR]; (repeat' first | exact k0 | exact True.intro | (show (_ : Bool) = _; assumption) | omega | apply And.intro); all_goals first | (simp; done) | (simp; omega) | (simp_all; done) | exact Nat.le_of_ble_eq_true rfl | kernel_rfl)) ?_
  refine g_loop (fun i : Nat => [(0, .s l), (3, .i .i64 (kMost2 l i)), (6, .sl 12 kRows), (7, .i .i64 12), (8, .i .i64 i)]) (fun _ => []) (fun i => i ≤ 12) (fun i => 12 - i) 0 ⟨⟨rfl, rfl, rfl, rfl, rfl, trivial⟩, trivial, trivial⟩ (by omega) ?_
  intro i h1
  by_cases hi : i < 12
  · have hr := kRows_at i hi
    rcases Bool.eq_false_or_eq_true (kLetter (↑i : Int) == l) with c1 | c1
    · have d1 := c1; (try simp at d1)
      refine g_fin tab_ok mixed 3000 [.t, ldv hr, .t] rfl (by (simp only [AllR]; (repeat' first | exact hr | exact True.intro | (show (_ : Bool) = _; assumption) | omega | apply And.intro); all_goals first | (simp; done) | (simp; omega) | (simp_all; done) | exact Nat.le_of_ble_eq_true rfl | kernel_rfl)) (rd_next (i + 1) (by omega) (by omega) ⟨rfl, ?_, rfl, rfl, ?_, trivial⟩ trivial trivial)
      all_goals (simp_all [tle, kMost2, look]; try omega)
    · have d1 := c1; (try simp at d1)
      refine g_fin tab_ok mixed 3000 [.t, ldv hr, .f] rfl (by (simp only [AllR]; (repeat' first | exact hr | exact True.intro | (show (_ : Bool) = _; assumption) | omega | apply And.intro); all_goals first | (simp; done) | (simp; omega) | (simp_all; done) | exact Nat.le_of_ble_eq_true rfl | kernel_rfl)) (rd_next (i + 1) (by omega) (by omega) ⟨rfl, ?_, rfl, rfl, ?_, trivial⟩ trivial trivial)
      all_goals (simp_all [tle, kMost2, look]; try omega)
  · refine g_fin tab_ok mixed 3000 [.f] rfl (by (simp only [AllR]; (repeat' first | exact True.intro | (show (_ : Bool) = _; assumption) | omega | apply And.intro); all_goals first | (simp; done) | (simp; omega) | (simp_all; done) | exact Nat.le_of_ble_eq_true rfl | kernel_rfl)) (rd_exit rfl ?_)
    refine g_fin tab_ok mixed 3000 [] rfl (by (simp only [AllR]; (repeat' first | exact True.intro | (show (_ : Bool) = _; assumption) | omega | apply And.intro); all_goals first | (simp; done) | (simp; omega) | (simp_all; done) | exact Nat.le_of_ble_eq_true rfl | kernel_rfl)) (ret_of rfl ?_ trivial trivial)
    (have e : i = 12 := by omega); subst e; exact congrArg (T.i .i64) (kMost2_eq l)
end Go.Proofs.YtdiippegaidpkaaDoor.Vm
