/- Texts of one proof, gathered: Kind Table. -/
import Derived.Test.YtipomdmlkkifcaaGreatDoorPart8
import Derived.Test.YtipomdmlkkifcaaGreatDoorPart3
import Derived.Test.YtipomdmlkkifcaaGreatDoorPart6
import Derived.Lib.IndexAny
set_option linter.unusedSimpArgs false
set_option linter.unusedVariables false
set_option linter.unnecessarySimpa false
/- Contracts: clavigerref23.Letter, Size, Most; kind.table, Most. -/
set_option maxRecDepth 100000
namespace Go.Proofs.YtipomdmlkkifcaaGreatDoor.Vm
open Go Go.Proofs Go.RowKit
variable {ml : Int}
def kLetter (k : Int) : List UInt8 := if 1 ≤ k ∧ k ≤ 3 then [65] else if k = 4 ∨ k = 5 then [84] else if k = 6 ∨ k = 7 then [72] else if 8 ≤ k ∧ k ≤ 11 then [69] else []
def kSize (k : Int) : Int := if k = 1 then 16 else if k = 2 then 24 else if k = 3 then 32 else if k = 4 then 16 else if k = 5 then 24 else if k = 6 then 32 else if k = 7 then 64 else if k = 8 then 28 else if k = 9 then 32 else if k = 10 then 48 else if k = 11 then 66 else 0
def kName (k : Int) : List UInt8 := if k = 1 then [65, 69, 83, 45, 49, 50, 56] else if k = 2 then [65, 69, 83, 45, 49, 57, 50] else if k = 3 then [65, 69, 83, 45, 50, 53, 54] else if k = 4 then [84, 68, 69, 83, 45, 50] else if k = 5 then [84, 68, 69, 83, 45, 51] else if k = 6 then [72, 77, 65, 67, 45, 83, 72, 65, 50, 53, 54] else if k = 7 then [72, 77, 65, 67, 45, 83, 72, 65, 53, 49, 50] else if k = 8 then [69, 67, 45, 80, 50, 50, 52] else if k = 9 then [69, 67, 45, 80, 50, 53, 54] else if k = 10 then [69, 67, 45, 80, 51, 56, 52] else if k = 11 then [69, 67, 45, 80, 53, 50, 49] else []
def kArcs (k : Int) : List UInt8 := if k = 1 then [50, 46, 49, 54, 46, 56, 52, 48, 46, 49, 46, 49, 48, 49, 46, 51, 46, 52, 46, 49, 46, 49] else if k = 2 then [50, 46, 49, 54, 46, 56, 52, 48, 46, 49, 46, 49, 48, 49, 46, 51, 46, 52, 46, 49, 46, 50, 49] else if k = 3 then [50, 46, 49, 54, 46, 56, 52, 48, 46, 49, 46, 49, 48, 49, 46, 51, 46, 52, 46, 49, 46, 52, 49] else if k = 4 then [49, 46, 50, 46, 56, 52, 48, 46, 49, 49, 51, 53, 52, 57, 46, 51, 46, 55] else if k = 5 then [49, 46, 50, 46, 56, 52, 48, 46, 49, 49, 51, 53, 52, 57, 46, 51, 46, 55] else if k = 6 then [49, 46, 50, 46, 56, 52, 48, 46, 49, 49, 51, 53, 52, 57, 46, 50, 46, 57] else if k = 7 then [49, 46, 50, 46, 56, 52, 48, 46, 49, 49, 51, 53, 52, 57, 46, 50, 46, 49, 49] else if k = 8 then [49, 46, 50, 46, 56, 52, 48, 46, 49, 48, 48, 52, 53, 46, 50, 46, 49] else if k = 9 then [49, 46, 50, 46, 56, 52, 48, 46, 49, 48, 48, 52, 53, 46, 50, 46, 49] else if k = 10 then [49, 46, 50, 46, 56, 52, 48, 46, 49, 48, 48, 52, 53, 46, 50, 46, 49] else if k = 11 then [49, 46, 50, 46, 56, 52, 48, 46, 49, 48, 48, 52, 53, 46, 50, 46, 49] else []
def kCurve (k : Int) : Int := if 8 ≤ k ∧ k ≤ 11 then k - 7 else 0
theorem rLetter (k : Int) : Ret P (C ml) 22 [.i .i64 k] (.s (kLetter k)) := by
  refine hR Tryz.func22 ?_
  rcases Bool.eq_false_or_eq_true (decide (k ≥ 1)) with c1 | c1
  · have d1 := c1; (try simp at d1)
    rcases Bool.eq_false_or_eq_true (decide (k ≤ 3)) with c2 | c2
    · have d2 := c2; (try simp at d2)
      refine gFs [.t, .t] rfl (ret_of rfl ?_ trivial trivial)
      simp [tle, kLetter]; grind
    · have d2 := c2; (try simp at d2)
      rcases Bool.eq_false_or_eq_true (k == 4) with c3 | c3
      · have d3 := c3; (try simp at d3)
        refine gFs [.t, .f, .t] rfl (ret_of rfl ?_ trivial trivial)
        simp [tle, kLetter]; grind
      · have d3 := c3; (try simp at d3)
        rcases Bool.eq_false_or_eq_true (k == 5) with c4 | c4
        · have d4 := c4; (try simp at d4)
          refine gFs [.t, .f, .f, .t] rfl (ret_of rfl ?_ trivial trivial)
          simp [tle, kLetter]; grind
        · have d4 := c4; (try simp at d4)
          rcases Bool.eq_false_or_eq_true (k == 6) with c5 | c5
          · have d5 := c5; (try simp at d5)
            refine gFs [.t, .f, .f, .f, .t] rfl (ret_of rfl ?_ trivial trivial)
            simp [tle, kLetter]; grind
          · have d5 := c5; (try simp at d5)
            rcases Bool.eq_false_or_eq_true (k == 7) with c6 | c6
            · have d6 := c6; (try simp at d6)
              refine gFs [.t, .f, .f, .f, .f, .t] rfl (ret_of rfl ?_ trivial trivial)
              simp [tle, kLetter]; grind
            · have d6 := c6; (try simp at d6)
              rcases Bool.eq_false_or_eq_true (decide (k ≤ 11)) with c7 | c7
              · have d7 := c7; (try simp at d7)
                refine gFs [.t, .f, .f, .f, .f, .f, .t, .t] rfl (ret_of rfl ?_ trivial trivial)
                simp [tle, kLetter]; grind
              · have d7 := c7; (try simp at d7)
                refine gFs [.t, .f, .f, .f, .f, .f, .t, .f] rfl (ret_of rfl ?_ trivial trivial)
                simp [tle, kLetter]; grind
  · have d1 := c1; (try simp at d1)
    refine gFs [.f, .f, .f, .f, .f, .f] rfl (ret_of rfl ?_ trivial trivial)
    simp [tle, kLetter]; grind
theorem rSize (k : Int) : Ret P (C ml) 62 [.i .i64 k] (.i .i64 (kSize k)) := by
  refine hR Tryz.func62 ?_
  rcases Bool.eq_false_or_eq_true (k == 1) with c1 | c1
  · have d1 := c1; (try simp at d1)
    refine gFs [.t] rfl (ret_of rfl ?_ trivial trivial)
    simp [tle, kSize]; grind
  · have d1 := c1; (try simp at d1)
    rcases Bool.eq_false_or_eq_true (k == 2) with c2 | c2
    · have d2 := c2; (try simp at d2)
      refine gFs [.f, .t] rfl (ret_of rfl ?_ trivial trivial)
      simp [tle, kSize]; grind
    · have d2 := c2; (try simp at d2)
      rcases Bool.eq_false_or_eq_true (k == 3) with c3 | c3
      · have d3 := c3; (try simp at d3)
        refine gFs [.f, .f, .t] rfl (ret_of rfl ?_ trivial trivial)
        simp [tle, kSize]; grind
      · have d3 := c3; (try simp at d3)
        rcases Bool.eq_false_or_eq_true (k == 4) with c4 | c4
        · have d4 := c4; (try simp at d4)
          refine gFs [.f, .f, .f, .t] rfl (ret_of rfl ?_ trivial trivial)
          simp [tle, kSize]; grind
        · have d4 := c4; (try simp at d4)
          rcases Bool.eq_false_or_eq_true (k == 5) with c5 | c5
          · have d5 := c5; (try simp at d5)
            refine gFs [.f, .f, .f, .f, .t] rfl (ret_of rfl ?_ trivial trivial)
            simp [tle, kSize]; grind
          · have d5 := c5; (try simp at d5)
            rcases Bool.eq_false_or_eq_true (k == 6) with c6 | c6
            · have d6 := c6; (try simp at d6)
              refine gFs [.f, .f, .f, .f, .f, .t] rfl (ret_of rfl ?_ trivial trivial)
              simp [tle, kSize]; grind
            · have d6 := c6; (try simp at d6)
              rcases Bool.eq_false_or_eq_true (k == 7) with c7 | c7
              · have d7 := c7; (try simp at d7)
                refine gFs [.f, .f, .f, .f, .f, .f, .t] rfl (ret_of rfl ?_ trivial trivial)
                simp [tle, kSize]; grind
              · have d7 := c7; (try simp at d7)
                rcases Bool.eq_false_or_eq_true (k == 8) with c8 | c8
                · have d8 := c8; (try simp at d8)
                  refine gFs [.f, .f, .f, .f, .f, .f, .f, .t] rfl (ret_of rfl ?_ trivial trivial)
                  simp [tle, kSize]; grind
                · have d8 := c8; (try simp at d8)
                  rcases Bool.eq_false_or_eq_true (k == 9) with c9 | c9
                  · have d9 := c9; (try simp at d9)
                    refine gFs [.f, .f, .f, .f, .f, .f, .f, .f, .t] rfl (ret_of rfl ?_ trivial trivial)
                    simp [tle, kSize]; grind
                  · have d9 := c9; (try simp at d9)
                    rcases Bool.eq_false_or_eq_true (k == 10) with c10 | c10
                    · have d10 := c10; (try simp at d10)
                      refine gFs [.f, .f, .f, .f, .f, .f, .f, .f, .f, .t] rfl (ret_of rfl ?_ trivial trivial)
                      simp [tle, kSize]; grind
                    · have d10 := c10; (try simp at d10)
                      rcases Bool.eq_false_or_eq_true (k == 11) with c11 | c11
                      · have d11 := c11; (try simp at d11)
                        refine gFs [.f, .f, .f, .f, .f, .f, .f, .f, .f, .f, .t] rfl (ret_of rfl ?_ trivial trivial)
                        simp [tle, kSize]; grind
                      · have d11 := c11; (try simp at d11)
                        refine gFs [.f, .f, .f, .f, .f, .f, .f, .f, .f, .f, .f] rfl (ret_of rfl ?_ trivial trivial)
                        simp [tle, kSize]; grind
def kMostTo (l : List UInt8) : Nat → Int
  | 0 => 0
  | n + 1 => if kLetter (n + 1) = l ∧ kMostTo l n < kSize (n + 1) then kSize (n + 1) else kMostTo l n
def kMost (l : List UInt8) : Int := if l = [65] then 32 else if l = [84] then 24 else if l = [72] then 64 else if l = [69] then 66 else 0
theorem kMostTo_eq (l : List UInt8) : kMostTo l 11 = kMost l := by
  simp only [kMostTo, kLetter, kSize, kMost]
  grind
theorem rMost (l : List UInt8) : Ret P (C ml) 90 [.s l] (.i .i64 (kMost l)) := by
  refine hR Tryz.func90 ?_
  refine gRs [] rfl ?_
  refine g_loop (fun i : Nat => [(0, .s l), (3, .i .i64 (kMostTo l i)), (4, .i .i64 (i + 1 : Nat))]) (fun _ => []) (fun i => i ≤ 11) (fun i => 11 - i) 0 ⟨⟨rfl, rfl, rfl, trivial⟩, trivial, trivial⟩ (by omega) ?_
  intro i h1
  have k1 := rLetter (ml := ml) (i + 1 : Nat)
  have k2 := rSize (ml := ml) (i + 1 : Nat)
  rcases Bool.eq_false_or_eq_true (decide ((↑(i + 1) : Int) < 12)) with c1 | c1
  · have d1 := c1; (try simp at d1)
    rcases Bool.eq_false_or_eq_true (kLetter (↑(i + 1) : Int) == l) with c2 | c2
    · have d2 := c2; (try simp at d2)
      rcases Bool.eq_false_or_eq_true (decide (kSize (↑(i + 1) : Int) > kMostTo l i)) with c3 | c3
      · have d3 := c3; (try simp at d3)
        refine gFs [.t, cc k1, .t, cc k2, .t, cc k2] rfl (rd_next (i + 1) (by omega) (by omega) ⟨rfl, ?_, ?_, trivial⟩ trivial trivial)
        all_goals (simp_all [tle, kMostTo, look]; try omega)
      · have d3 := c3; (try simp at d3)
        refine gFs [.t, cc k1, .t, cc k2, .f] rfl (rd_next (i + 1) (by omega) (by omega) ⟨rfl, ?_, ?_, trivial⟩ trivial trivial)
        all_goals (simp_all [tle, kMostTo, look]; try omega)
    · have d2 := c2; (try simp at d2)
      refine gFs [.t, cc k1, .f] rfl (rd_next (i + 1) (by omega) (by omega) ⟨rfl, ?_, ?_, trivial⟩ trivial trivial)
      all_goals (simp_all [tle, kMostTo, look]; try omega)
  · have d1 := c1; (try simp at d1)
    refine gFs [.f] rfl (rd_exit rfl ?_)
    refine gFs [] rfl (ret_of rfl ?_ trivial trivial)
    (have e : i = 11 := by omega); subst e; exact congrArg (T.i .i64) (kMostTo_eq l)
def kLine (k : Int) : List T := [.s (kName k), .i .i64 (kSize k), .s (kLetter k), .i .i64 (kCurve k), .s (kArcs k)]
def kRows : List T := (List.range 12).flatMap fun i => kLine (i : Nat)
theorem kRows_at (i : Nat) (h : i < 12) : (kRows.drop (i * 5)).take 5 = kLine i := by
  have : ∀ i : Fin 12, (kRows.drop (i.val * 5)).take 5 = kLine (i.val : Nat) := fun i => by
    match i with
    | 0 | 1 | 2 | 3 | 4 | 5 | 6 | 7 | 8 | 9 | 10 | 11 => rfl
  exact this ⟨i, h⟩
theorem kTable : Ret P (C ml) 175 [] (.sl 12 kRows) := by
  refine hR Tryz.func175 ?_
  refine g_end_frz 13 ?_
  refine gFs [] rfl ⟨rfl, _, _, rfl, ret_of rfl ?_ trivial trivial⟩
  rfl
def kMost2 (l : List UInt8) : Nat → Int
  | 0 => 0
  | n + 1 => if kLetter (n : Nat) = l then maxI (kMost2 l n) (kSize (n : Nat)) else kMost2 l n
theorem kMost2_eq (l : List UInt8) : kMost2 l 12 = kMost l := by
  simp only [kMost2, kLetter, kSize, kMost, maxI]
  grind
theorem pMost (l : List UInt8) : Ret P (C ml) 106 [.s l] (.i .i64 (kMost l)) := by
  refine hR Tryz.func106 ?_
  have k0 := kTable (ml := ml)
  refine gRs [cc k0] rfl ?_
  refine g_loop (fun i : Nat => [(0, .s l), (3, .i .i64 (kMost2 l i)), (6, .sl 12 kRows), (7, .i .i64 12), (8, .i .i64 i)]) (fun _ => []) (fun i => i ≤ 12) (fun i => 12 - i) 0 ⟨⟨rfl, rfl, rfl, rfl, rfl, trivial⟩, trivial, trivial⟩ (by omega) ?_
  intro i h1
  by_cases hi : i < 12
  · have hr := kRows_at i hi
    rcases Bool.eq_false_or_eq_true (kLetter (↑i : Int) == l) with c1 | c1
    · have d1 := c1; (try simp at d1)
      refine gFs [.t, ldv hr, .t] rfl (rd_next (i + 1) (by omega) (by omega) ⟨rfl, ?_, rfl, rfl, ?_, trivial⟩ trivial trivial)
      all_goals (simp_all [tle, kMost2, look]; try omega)
    · have d1 := c1; (try simp at d1)
      refine gFs [.t, ldv hr, .f] rfl (rd_next (i + 1) (by omega) (by omega) ⟨rfl, ?_, rfl, rfl, ?_, trivial⟩ trivial trivial)
      all_goals (simp_all [tle, kMost2, look]; try omega)
  · refine gFs [.f] rfl (rd_exit rfl ?_)
    refine gFs [] rfl (ret_of rfl ?_ trivial trivial)
    (have e : i = 12 := by omega); subst e; exact congrArg (T.i .i64) (kMost2_eq l)
end Go.Proofs.YtipomdmlkkifcaaGreatDoor.Vm
/- Contracts: clavigerref30 and the program's table: usages, modes, versions, exportabilities. -/
set_option maxRecDepth 100000
namespace Go.Proofs.YtipomdmlkkifcaaGreatDoor.Vm
open Go Go.Proofs Go.RowKit
variable {ml : Int}
theorem contains1 (s : List UInt8) (c : UInt8) : Ret P (C ml) 259 [.s s, .s [c]] (.b (s.contains c)) :=
  ret_of_calls (callable_of Tryz.func259 rfl rfl) fun ρ I w vals hg hm hv => by
    simp only [VRs, VR] at hv; obtain ⟨_, _, rfl, rfl, _, _, rfl, rfl, rfl⟩ := hv
    refine (Tryz.strings_Contains_one ⟨⟨s⟩⟩ c w).mono ?_
    rintro _ _ ⟨rfl, rfl⟩
    refine ⟨_, rfl, ?_, Below.refl _ _⟩
    simp only [PV]
    rw [Lib.contains_iff_indexByte]
theorem cutPrefix (s p : List UInt8) : Ret P (C ml) 211 [.s s, .s p] (.tup [.s (Lib.trimPrefix s p), .b (Lib.hasPrefix s p)]) :=
  ret_of_calls (callable_of Tryz.func211 rfl rfl) fun ρ I w vals hg hm hv => by
    simp only [VRs, VR] at hv; obtain ⟨_, _, rfl, rfl, _, _, rfl, rfl, rfl⟩ := hv
    refine (Tryz.strings_CutPrefix ⟨⟨s⟩⟩ ⟨⟨p⟩⟩ w).mono ?_
    rintro _ _ ⟨rfl, rfl⟩
    exact ⟨_, rfl, ⟨_, rfl, _, _, rfl, rfl, _, _, rfl, rfl, rfl⟩, Below.refl _ _⟩
def tOwn (u : List UInt8) : Bool := decide (u.length = 2 ∧ 49 ≤ bt u 0 ∧ bt u 0 ≤ 57 ∧ 48 ≤ bt u 1 ∧ bt u 1 ≤ 57)
def tLines : List (List UInt8 × List UInt8 × List UInt8) := [([66, 48], [65, 84], [78, 88]), ([68, 48], [65, 84], [66, 68, 69, 78]), ([68, 49], [69], [66, 68, 69, 78]), ([75, 48], [65, 84], [66, 68, 69, 78]), ([75, 49], [65, 84], [66, 68, 69, 78]), ([77, 51], [84], [67, 71, 78, 86]), ([77, 54], [65, 84], [67, 71, 78, 86]), ([77, 55], [72], [67, 71, 78, 86]), ([80, 48], [65, 84], [66, 68, 69, 78]), ([83, 48], [69], [78, 83, 84, 86])]
def tOf (u : List UInt8) : List UInt8 × List UInt8 × List UInt8 := match tLines.find? (u == ·.1) with
  | some l => l
  | none => if tOwn u then (u, [65, 69, 72, 84], [66, 67, 68, 69, 71, 78, 83, 84, 86, 88]) else ([], [], [])
def tIn (one some : List UInt8) : Bool := decide (one.length = 1) && some.contains (one.getD 0 0)
def tVer (v : List UInt8) : Bool := v == [48, 48] || tOwn v || decide (v.length = 2 ∧ bt v 0 = 99 ∧ 49 ≤ bt v 1 ∧ bt v 1 ≤ 57)
def tExp (e : List UInt8) : Bool := tIn e [69, 78, 83]
/-- A head's fields. -/
structure Hd where
  u : List UInt8
  m : List UInt8
  v : List UInt8
  e : List UInt8
def Hd.cells (h : Hd) : List T := [.s h.u, .s h.m, .s h.v, .s h.e]
def tChk (h : Hd) (l : List UInt8) : Bool := tIn l (tOf h.u).2.1 && tIn h.m (tOf h.u).2.2 && tVer h.v && tExp h.e
theorem rOwn (u : List UInt8) : Ret P (C ml) 113 [.s u] (.b (tOwn u)) := by
  refine hR Tryz.func113 ?_
  rcases Bool.eq_false_or_eq_true ((↑u.length : Int) == 2) with c1 | c1
  · have d1 := c1; (try simp at d1)
    rcases Bool.eq_false_or_eq_true (decide (bt u 0 ≥ 49)) with c2 | c2
    · have d2 := c2; (try simp at d2)
      rcases Bool.eq_false_or_eq_true (decide (bt u 0 ≤ 57)) with c3 | c3
      · have d3 := c3; (try simp at d3)
        rcases Bool.eq_false_or_eq_true (decide (bt u 1 ≥ 48)) with c4 | c4
        · have d4 := c4; (try simp at d4)
          refine gFs [.t, .t, .t, .t] rfl (ret_of rfl ?_ trivial trivial)
          first | exact .inl (congrArg T.b (by rw [Bool.eq_iff_iff]; first | (simp [tOwn]; done) | (simp [tOwn]; omega) | (simp_all [tOwn]; done) | (simp_all [tOwn]; omega))) | exact .inr (congrArg T.bl (by rw [Bool.eq_iff_iff]; first | (simp [tOwn]; done) | (simp [tOwn]; omega) | (simp_all [tOwn]; done) | (simp_all [tOwn]; omega)))
        · have d4 := c4; (try simp at d4)
          refine gFs [.t, .t, .t, .f] rfl (ret_of rfl ?_ trivial trivial)
          first | exact .inl (congrArg T.b (by rw [Bool.eq_iff_iff]; first | (simp [tOwn]; done) | (simp [tOwn]; omega) | (simp_all [tOwn]; done) | (simp_all [tOwn]; omega))) | exact .inr (congrArg T.bl (by rw [Bool.eq_iff_iff]; first | (simp [tOwn]; done) | (simp [tOwn]; omega) | (simp_all [tOwn]; done) | (simp_all [tOwn]; omega)))
      · have d3 := c3; (try simp at d3)
        refine gFs [.t, .t, .f] rfl (ret_of rfl ?_ trivial trivial)
        first | exact .inl (congrArg T.b (by rw [Bool.eq_iff_iff]; first | (simp [tOwn]; done) | (simp [tOwn]; omega) | (simp_all [tOwn]; done) | (simp_all [tOwn]; omega))) | exact .inr (congrArg T.bl (by rw [Bool.eq_iff_iff]; first | (simp [tOwn]; done) | (simp [tOwn]; omega) | (simp_all [tOwn]; done) | (simp_all [tOwn]; omega)))
    · have d2 := c2; (try simp at d2)
      refine gFs [.t, .f] rfl (ret_of rfl ?_ trivial trivial)
      first | exact .inl (congrArg T.b (by rw [Bool.eq_iff_iff]; first | (simp [tOwn]; done) | (simp [tOwn]; omega) | (simp_all [tOwn]; done) | (simp_all [tOwn]; omega))) | exact .inr (congrArg T.bl (by rw [Bool.eq_iff_iff]; first | (simp [tOwn]; done) | (simp [tOwn]; omega) | (simp_all [tOwn]; done) | (simp_all [tOwn]; omega)))
  · have d1 := c1; (try simp at d1)
    refine gFs [.f] rfl (ret_of rfl ?_ trivial trivial)
    first | exact .inl (congrArg T.b (by rw [Bool.eq_iff_iff]; first | (simp [tOwn]; done) | (simp [tOwn]; omega) | (simp_all [tOwn]; done) | (simp_all [tOwn]; omega))) | exact .inr (congrArg T.bl (by rw [Bool.eq_iff_iff]; first | (simp [tOwn]; done) | (simp [tOwn]; omega) | (simp_all [tOwn]; done) | (simp_all [tOwn]; omega)))
theorem rLetters (u : List UInt8) : Ret P (C ml) 111 [.s u] (.s (tOf u).2.1) := by
  refine hR Tryz.func111 ?_
  have k1 := rOwn (ml := ml) u
  rcases Bool.eq_false_or_eq_true (u == [66, 48]) with c1 | c1
  · have d1 := c1; (try simp at d1)
    refine gFs [.t, .t] rfl (ret_of rfl ?_ trivial trivial)
    first | (simp [tle, tOf, tLines, List.find?, c1]; done) | (simp_all [tle, tOf, tLines, List.find?]; done)
  · have d1 := c1; (try simp at d1)
    rcases Bool.eq_false_or_eq_true (u == [68, 48]) with c2 | c2
    · have d2 := c2; (try simp at d2)
      refine gFs [.f, .t, .t] rfl (ret_of rfl ?_ trivial trivial)
      first | (simp [tle, tOf, tLines, List.find?, c1, c2]; done) | (simp_all [tle, tOf, tLines, List.find?]; done)
    · have d2 := c2; (try simp at d2)
      rcases Bool.eq_false_or_eq_true (u == [75, 48]) with c3 | c3
      · have d3 := c3; (try simp at d3)
        refine gFs [.f, .f, .t, .t] rfl (ret_of rfl ?_ trivial trivial)
        first | (simp [tle, tOf, tLines, List.find?, c1, c2, c3]; done) | (simp_all [tle, tOf, tLines, List.find?]; done)
      · have d3 := c3; (try simp at d3)
        rcases Bool.eq_false_or_eq_true (u == [75, 49]) with c4 | c4
        · have d4 := c4; (try simp at d4)
          refine gFs [.f, .f, .f, .t, .t] rfl (ret_of rfl ?_ trivial trivial)
          first | (simp [tle, tOf, tLines, List.find?, c1, c2, c3, c4]; done) | (simp_all [tle, tOf, tLines, List.find?]; done)
        · have d4 := c4; (try simp at d4)
          rcases Bool.eq_false_or_eq_true (u == [77, 54]) with c5 | c5
          · have d5 := c5; (try simp at d5)
            refine gFs [.f, .f, .f, .f, .t, .t] rfl (ret_of rfl ?_ trivial trivial)
            first | (simp [tle, tOf, tLines, List.find?, c1, c2, c3, c4, c5]; done) | (simp_all [tle, tOf, tLines, List.find?]; done)
          · have d5 := c5; (try simp at d5)
            rcases Bool.eq_false_or_eq_true (u == [80, 48]) with c6 | c6
            · have d6 := c6; (try simp at d6)
              refine gFs [.f, .f, .f, .f, .f, .t] rfl (ret_of rfl ?_ trivial trivial)
              first | (simp [tle, tOf, tLines, List.find?, c1, c2, c3, c4, c5, c6]; done) | (simp_all [tle, tOf, tLines, List.find?]; done)
            · have d6 := c6; (try simp at d6)
              rcases Bool.eq_false_or_eq_true (u == [68, 49]) with c7 | c7
              · have d7 := c7; (try simp at d7)
                refine gFs [.f, .f, .f, .f, .f, .f, .t, .t] rfl (ret_of rfl ?_ trivial trivial)
                first | (simp [tle, tOf, tLines, List.find?, c1, c2, c3, c4, c5, c6, c7]; done) | (simp_all [tle, tOf, tLines, List.find?]; done)
              · have d7 := c7; (try simp at d7)
                rcases Bool.eq_false_or_eq_true (u == [83, 48]) with c8 | c8
                · have d8 := c8; (try simp at d8)
                  refine gFs [.f, .f, .f, .f, .f, .f, .f, .t] rfl (ret_of rfl ?_ trivial trivial)
                  first | (simp [tle, tOf, tLines, List.find?, c1, c2, c3, c4, c5, c6, c7, c8]; done) | (simp_all [tle, tOf, tLines, List.find?]; done)
                · have d8 := c8; (try simp at d8)
                  rcases Bool.eq_false_or_eq_true (u == [77, 51]) with c9 | c9
                  · have d9 := c9; (try simp at d9)
                    refine gFs [.f, .f, .f, .f, .f, .f, .f, .f, .t] rfl (ret_of rfl ?_ trivial trivial)
                    first | (simp [tle, tOf, tLines, List.find?, c1, c2, c3, c4, c5, c6, c7, c8, c9]; done) | (simp_all [tle, tOf, tLines, List.find?]; done)
                  · have d9 := c9; (try simp at d9)
                    rcases Bool.eq_false_or_eq_true (u == [77, 55]) with c10 | c10
                    · have d10 := c10; (try simp at d10)
                      refine gFs [.f, .f, .f, .f, .f, .f, .f, .f, .f, .t] rfl (ret_of rfl ?_ trivial trivial)
                      first | (simp [tle, tOf, tLines, List.find?, c1, c2, c3, c4, c5, c6, c7, c8, c9, c10]; done) | (simp_all [tle, tOf, tLines, List.find?]; done)
                    · have d10 := c10; (try simp at d10)
                      rcases Bool.eq_false_or_eq_true (tOwn u) with c11 | c11
                      · have d11 := c11; (try simp at d11)
                        refine gFs [.f, .f, .f, .f, .f, .f, .f, .f, .f, .f, cc k1, .t] rfl (ret_of rfl ?_ trivial trivial)
                        first | (simp [tle, tOf, tLines, List.find?, c1, c2, c3, c4, c5, c6, c7, c8, c9, c10, c11]; done) | (simp_all [tle, tOf, tLines, List.find?]; done)
                      · have d11 := c11; (try simp at d11)
                        refine gFs [.f, .f, .f, .f, .f, .f, .f, .f, .f, .f, cc k1, .f] rfl (ret_of rfl ?_ trivial trivial)
                        first | (simp [tle, tOf, tLines, List.find?, c1, c2, c3, c4, c5, c6, c7, c8, c9, c10, c11]; done) | (simp_all [tle, tOf, tLines, List.find?]; done)
theorem rModes (u : List UInt8) : Ret P (C ml) 112 [.s u] (.s (tOf u).2.2) := by
  refine hR Tryz.func112 ?_
  have k1 := rOwn (ml := ml) u
  rcases Bool.eq_false_or_eq_true (u == [66, 48]) with c1 | c1
  · have d1 := c1; (try simp at d1)
    refine gFs [.t] rfl (ret_of rfl ?_ trivial trivial)
    first | (simp [tle, tOf, tLines, List.find?, c1]; done) | (simp_all [tle, tOf, tLines, List.find?]; done)
  · have d1 := c1; (try simp at d1)
    rcases Bool.eq_false_or_eq_true (u == [68, 48]) with c2 | c2
    · have d2 := c2; (try simp at d2)
      refine gFs [.f, .t, .t] rfl (ret_of rfl ?_ trivial trivial)
      first | (simp [tle, tOf, tLines, List.find?, c1, c2]; done) | (simp_all [tle, tOf, tLines, List.find?]; done)
    · have d2 := c2; (try simp at d2)
      rcases Bool.eq_false_or_eq_true (u == [68, 49]) with c3 | c3
      · have d3 := c3; (try simp at d3)
        refine gFs [.f, .f, .t, .t] rfl (ret_of rfl ?_ trivial trivial)
        first | (simp [tle, tOf, tLines, List.find?, c1, c2, c3]; done) | (simp_all [tle, tOf, tLines, List.find?]; done)
      · have d3 := c3; (try simp at d3)
        rcases Bool.eq_false_or_eq_true (u == [75, 48]) with c4 | c4
        · have d4 := c4; (try simp at d4)
          refine gFs [.f, .f, .f, .t, .t] rfl (ret_of rfl ?_ trivial trivial)
          first | (simp [tle, tOf, tLines, List.find?, c1, c2, c3, c4]; done) | (simp_all [tle, tOf, tLines, List.find?]; done)
        · have d4 := c4; (try simp at d4)
          rcases Bool.eq_false_or_eq_true (u == [75, 49]) with c5 | c5
          · have d5 := c5; (try simp at d5)
            refine gFs [.f, .f, .f, .f, .t, .t] rfl (ret_of rfl ?_ trivial trivial)
            first | (simp [tle, tOf, tLines, List.find?, c1, c2, c3, c4, c5]; done) | (simp_all [tle, tOf, tLines, List.find?]; done)
          · have d5 := c5; (try simp at d5)
            rcases Bool.eq_false_or_eq_true (u == [80, 48]) with c6 | c6
            · have d6 := c6; (try simp at d6)
              refine gFs [.f, .f, .f, .f, .f, .t] rfl (ret_of rfl ?_ trivial trivial)
              first | (simp [tle, tOf, tLines, List.find?, c1, c2, c3, c4, c5, c6]; done) | (simp_all [tle, tOf, tLines, List.find?]; done)
            · have d6 := c6; (try simp at d6)
              rcases Bool.eq_false_or_eq_true (u == [77, 51]) with c7 | c7
              · have d7 := c7; (try simp at d7)
                refine gFs [.f, .f, .f, .f, .f, .f, .t, .t] rfl (ret_of rfl ?_ trivial trivial)
                first | (simp [tle, tOf, tLines, List.find?, c1, c2, c3, c4, c5, c6, c7]; done) | (simp_all [tle, tOf, tLines, List.find?]; done)
              · have d7 := c7; (try simp at d7)
                rcases Bool.eq_false_or_eq_true (u == [77, 54]) with c8 | c8
                · have d8 := c8; (try simp at d8)
                  refine gFs [.f, .f, .f, .f, .f, .f, .f, .t, .t] rfl (ret_of rfl ?_ trivial trivial)
                  first | (simp [tle, tOf, tLines, List.find?, c1, c2, c3, c4, c5, c6, c7, c8]; done) | (simp_all [tle, tOf, tLines, List.find?]; done)
                · have d8 := c8; (try simp at d8)
                  rcases Bool.eq_false_or_eq_true (u == [77, 55]) with c9 | c9
                  · have d9 := c9; (try simp at d9)
                    refine gFs [.f, .f, .f, .f, .f, .f, .f, .f, .t] rfl (ret_of rfl ?_ trivial trivial)
                    first | (simp [tle, tOf, tLines, List.find?, c1, c2, c3, c4, c5, c6, c7, c8, c9]; done) | (simp_all [tle, tOf, tLines, List.find?]; done)
                  · have d9 := c9; (try simp at d9)
                    rcases Bool.eq_false_or_eq_true (u == [83, 48]) with c10 | c10
                    · have d10 := c10; (try simp at d10)
                      refine gFs [.f, .f, .f, .f, .f, .f, .f, .f, .f, .t] rfl (ret_of rfl ?_ trivial trivial)
                      first | (simp [tle, tOf, tLines, List.find?, c1, c2, c3, c4, c5, c6, c7, c8, c9, c10]; done) | (simp_all [tle, tOf, tLines, List.find?]; done)
                    · have d10 := c10; (try simp at d10)
                      rcases Bool.eq_false_or_eq_true (tOwn u) with c11 | c11
                      · have d11 := c11; (try simp at d11)
                        refine gFs [.f, .f, .f, .f, .f, .f, .f, .f, .f, .f, cc k1, .t] rfl (ret_of rfl ?_ trivial trivial)
                        first | (simp [tle, tOf, tLines, List.find?, c1, c2, c3, c4, c5, c6, c7, c8, c9, c10, c11]; done) | (simp_all [tle, tOf, tLines, List.find?]; done)
                      · have d11 := c11; (try simp at d11)
                        refine gFs [.f, .f, .f, .f, .f, .f, .f, .f, .f, .f, cc k1, .f] rfl (ret_of rfl ?_ trivial trivial)
                        first | (simp [tle, tOf, tLines, List.find?, c1, c2, c3, c4, c5, c6, c7, c8, c9, c10, c11]; done) | (simp_all [tle, tOf, tLines, List.find?]; done)
theorem bt_iff (a b : List UInt8) (i j : Nat) : (bt a i == bt b j) = (a.getD i 0 == b.getD j 0) := by
  rw [bt_nat, bt_nat, Bool.eq_iff_iff]
  simp only [beq_iff_eq]
  constructor
  · intro h; exact UInt8.toNat_inj.1 (by omega)
  · intro h; rw [h]
theorem any_hit (l : List UInt8) (b : UInt8) (i : Nat) (h : i < l.length) (e : (l.getD i 0 == b) = true) : l.contains b = true := by
  simp only [beq_iff_eq] at e
  rw [List.contains_iff_mem, ← e]
  simp [h]
theorem any_step (l : List UInt8) (b : UInt8) (i : Nat) (h : i < l.length) : (l.take (i + 1)).contains b = ((l.take i).contains b || l.getD i 0 == b) := by
  rw [take_succ_getD l i h, List.contains_eq_any_beq, List.contains_eq_any_beq, List.any_append]
  simp [Bool.beq_comm]
theorem rIn (one some : List UInt8) (h : some.length ≤ 1000000) : Ret P (C ml) 110 [.s one, .s some] (.b (tIn one some)) := by
  refine hR Tryz.func110 ?_
  by_cases c0 : one.length = 1
  · refine gRs [.f] rfl ?_
    refine g_loop (fun i : Nat => [(0, .s one), (1, .s some), (5, .i .i64 i)]) (fun _ => []) (fun i => i ≤ some.length ∧ (some.take i).contains (one.getD 0 0) = false) (fun i => some.length - i) 0 ⟨⟨rfl, rfl, rfl, trivial⟩, trivial, trivial⟩ ⟨by omega, by simp⟩ ?_
    rintro i ⟨h1, h2⟩
    by_cases hi : i < some.length
    · have h3 := any_step some (one.getD 0 0) i hi
      rcases Bool.eq_false_or_eq_true (bt some (↑i : Int) == bt one 0) with c1 | c1
      · have d1 := c1; (try simp at d1)
        refine gFs [.t, .t] rfl (rd_ret (ret_of rfl ?_ trivial trivial))
        (rw [show bt one 0 = bt one ((0 : Nat) : Int) from rfl, bt_iff] at c1); (have h4 := any_hit some _ i hi c1); (have e : tIn one some = true := by simp only [tIn, c0, h4]; rfl); rw [e]; exact .inr rfl
      · have d1 := c1; (try simp at d1)
        refine gFs [.t, .f] rfl (rd_next (i + 1) ⟨by omega, ?_⟩ (by omega) ⟨rfl, rfl, ?_, trivial⟩ trivial trivial)
        all_goals first | (rw [show bt one 0 = bt one ((0 : Nat) : Int) from rfl, bt_iff] at c1; rw [h3, h2, c1]; rfl) | (simp [look, tle]; omega)
    · refine gFs [.f] rfl (rd_exit rfl ?_)
      refine gFs [] rfl (ret_of rfl ?_ trivial trivial)
      (rw [List.take_of_length_le (by omega)] at h2); (have e : tIn one some = false := by simp only [tIn, c0, h2]; rfl); rw [e]; exact .inr rfl
  · refine gFs [.t] rfl (ret_of rfl ?_ trivial trivial)
    simp [tle, tIn, c0]
theorem tOf_len (u : List UInt8) : (tOf u).2.1.length ≤ 1000000 ∧ (tOf u).2.2.length ≤ 1000000 := by
  unfold tOf
  split
  · rename_i l h
    have := List.mem_of_find?_eq_some h
    simp only [tLines, List.mem_cons, List.not_mem_nil, or_false] at this
    rcases this with rfl | rfl | rfl | rfl | rfl | rfl | rfl | rfl | rfl | rfl <;> exact ⟨by decide, by decide⟩
  · split <;> simp
theorem rUsage (u l : List UInt8) : Ret P (C ml) 58 [.s u, .s l] (.b (tIn l (tOf u).2.1)) := by
  refine hR Tryz.func58 ?_
  have k1 := rLetters (ml := ml) u
  have k2 := rIn (ml := ml) l (tOf u).2.1 (tOf_len u).1
  refine gFs [cc k1, cc k2] rfl (ret_of rfl ?_ trivial trivial)
  (first | exact .inl rfl | rfl | (simp [tle]; done) | (simp_all [tle, tleL]; done))
theorem rMode (u m : List UInt8) : Ret P (C ml) 59 [.s u, .s m] (.b (tIn m (tOf u).2.2)) := by
  refine hR Tryz.func59 ?_
  have k1 := rModes (ml := ml) u
  have k2 := rIn (ml := ml) m (tOf u).2.2 (tOf_len u).2
  refine gFs [cc k1, cc k2] rfl (ret_of rfl ?_ trivial trivial)
  (first | exact .inl rfl | rfl | (simp [tle]; done) | (simp_all [tle, tleL]; done))
theorem rVersion (v : List UInt8) : Ret P (C ml) 60 [.s v] (.b (tVer v)) := by
  refine hR Tryz.func60 ?_
  have k1 := rOwn (ml := ml) v
  rcases Bool.eq_false_or_eq_true (v == [48, 48]) with c1 | c1
  · have d1 := c1; (try simp at d1)
    refine gFs [.t] rfl (ret_of rfl ?_ trivial trivial)
    first | exact .inl (congrArg T.b (by rw [Bool.eq_iff_iff]; first | (simp [tVer, c1]; done) | (simp [tVer, c1]; omega) | (simp_all [tVer, c1]; done) | (simp_all [tVer, c1]; omega))) | exact .inr (congrArg T.bl (by rw [Bool.eq_iff_iff]; first | (simp [tVer, c1]; done) | (simp [tVer, c1]; omega) | (simp_all [tVer, c1]; done) | (simp_all [tVer, c1]; omega)))
  · have d1 := c1; (try simp at d1)
    rcases Bool.eq_false_or_eq_true (tOwn v) with c2 | c2
    · have d2 := c2; (try simp at d2)
      refine gFs [.f, cc k1, .t] rfl (ret_of rfl ?_ trivial trivial)
      first | exact .inl (congrArg T.b (by rw [Bool.eq_iff_iff]; first | (simp [tVer, c1, c2]; done) | (simp [tVer, c1, c2]; omega) | (simp_all [tVer, c1, c2]; done) | (simp_all [tVer, c1, c2]; omega))) | exact .inr (congrArg T.bl (by rw [Bool.eq_iff_iff]; first | (simp [tVer, c1, c2]; done) | (simp [tVer, c1, c2]; omega) | (simp_all [tVer, c1, c2]; done) | (simp_all [tVer, c1, c2]; omega)))
    · have d2 := c2; (try simp at d2)
      rcases Bool.eq_false_or_eq_true ((↑v.length : Int) == 2) with c3 | c3
      · have d3 := c3; (try simp at d3)
        rcases Bool.eq_false_or_eq_true (bt v 0 == 99) with c4 | c4
        · have d4 := c4; (try simp at d4)
          rcases Bool.eq_false_or_eq_true (decide (bt v 1 ≥ 49)) with c5 | c5
          · have d5 := c5; (try simp at d5)
            refine gFs [.f, cc k1, .f, .t, .t, .t] rfl (ret_of rfl ?_ trivial trivial)
            first | exact .inl (congrArg T.b (by rw [Bool.eq_iff_iff]; first | (simp [tVer, c1, c2, c3, c4, c5]; done) | (simp [tVer, c1, c2, c3, c4, c5]; omega) | (simp_all [tVer, c1, c2, c3, c4, c5]; done) | (simp_all [tVer, c1, c2, c3, c4, c5]; omega))) | exact .inr (congrArg T.bl (by rw [Bool.eq_iff_iff]; first | (simp [tVer, c1, c2, c3, c4, c5]; done) | (simp [tVer, c1, c2, c3, c4, c5]; omega) | (simp_all [tVer, c1, c2, c3, c4, c5]; done) | (simp_all [tVer, c1, c2, c3, c4, c5]; omega)))
          · have d5 := c5; (try simp at d5)
            refine gFs [.f, cc k1, .f, .t, .t, .f] rfl (ret_of rfl ?_ trivial trivial)
            first | exact .inl (congrArg T.b (by rw [Bool.eq_iff_iff]; first | (simp [tVer, c1, c2, c3, c4, c5]; done) | (simp [tVer, c1, c2, c3, c4, c5]; omega) | (simp_all [tVer, c1, c2, c3, c4, c5]; done) | (simp_all [tVer, c1, c2, c3, c4, c5]; omega))) | exact .inr (congrArg T.bl (by rw [Bool.eq_iff_iff]; first | (simp [tVer, c1, c2, c3, c4, c5]; done) | (simp [tVer, c1, c2, c3, c4, c5]; omega) | (simp_all [tVer, c1, c2, c3, c4, c5]; done) | (simp_all [tVer, c1, c2, c3, c4, c5]; omega)))
        · have d4 := c4; (try simp at d4)
          refine gFs [.f, cc k1, .f, .t, .f] rfl (ret_of rfl ?_ trivial trivial)
          first | exact .inl (congrArg T.b (by rw [Bool.eq_iff_iff]; first | (simp [tVer, c1, c2, c3, c4]; done) | (simp [tVer, c1, c2, c3, c4]; omega) | (simp_all [tVer, c1, c2, c3, c4]; done) | (simp_all [tVer, c1, c2, c3, c4]; omega))) | exact .inr (congrArg T.bl (by rw [Bool.eq_iff_iff]; first | (simp [tVer, c1, c2, c3, c4]; done) | (simp [tVer, c1, c2, c3, c4]; omega) | (simp_all [tVer, c1, c2, c3, c4]; done) | (simp_all [tVer, c1, c2, c3, c4]; omega)))
      · have d3 := c3; (try simp at d3)
        refine gFs [.f, cc k1, .f, .f] rfl (ret_of rfl ?_ trivial trivial)
        first | exact .inl (congrArg T.b (by rw [Bool.eq_iff_iff]; first | (simp [tVer, c1, c2, c3]; done) | (simp [tVer, c1, c2, c3]; omega) | (simp_all [tVer, c1, c2, c3]; done) | (simp_all [tVer, c1, c2, c3]; omega))) | exact .inr (congrArg T.bl (by rw [Bool.eq_iff_iff]; first | (simp [tVer, c1, c2, c3]; done) | (simp [tVer, c1, c2, c3]; omega) | (simp_all [tVer, c1, c2, c3]; done) | (simp_all [tVer, c1, c2, c3]; omega)))
theorem rExport (e : List UInt8) : Ret P (C ml) 61 [.s e] (.b (tExp e)) := by
  refine hR Tryz.func61 ?_
  have k1 := rIn (ml := ml) e [69, 78, 83] (by decide)
  refine gFs [cc k1] rfl (ret_of rfl ?_ trivial trivial)
  (first | exact .inl rfl | rfl | (simp [tle]; done) | (simp_all [tle, tleL]; done))
theorem rCheck (h : Hd) (l : List UInt8) : Ret P (C ml) 21 [.agg h.cells, .s l] (.i .i64 (if tChk h l then 0 else 12)) := by
  refine hR Tryz.func21 ?_
  have k1 := rUsage (ml := ml) h.u l
  have k2 := rMode (ml := ml) h.u h.m
  have k3 := rVersion (ml := ml) h.v
  have k4 := rExport (ml := ml) h.e
  rcases Bool.eq_false_or_eq_true (!tIn l (tOf h.u).snd.fst) with c1 | c1
  · have d1 := c1; (try simp at d1)
    refine gFs [cc k1, .t] rfl (ret_of rfl ?_ trivial trivial)
    simp_all [tle, tChk]
  · have d1 := c1; (try simp at d1)
    rcases Bool.eq_false_or_eq_true (!tIn h.m (tOf h.u).snd.snd) with c2 | c2
    · have d2 := c2; (try simp at d2)
      refine gFs [cc k1, .f, cc k2, .t] rfl (ret_of rfl ?_ trivial trivial)
      simp_all [tle, tChk]
    · have d2 := c2; (try simp at d2)
      rcases Bool.eq_false_or_eq_true (!tVer h.v) with c3 | c3
      · have d3 := c3; (try simp at d3)
        refine gFs [cc k1, .f, cc k2, .f, cc k3, .t] rfl (ret_of rfl ?_ trivial trivial)
        simp_all [tle, tChk]
      · have d3 := c3; (try simp at d3)
        rcases Bool.eq_false_or_eq_true (!tExp h.e) with c4 | c4
        · have d4 := c4; (try simp at d4)
          refine gFs [cc k1, .f, cc k2, .f, cc k3, .f, cc k4, .t] rfl (ret_of rfl ?_ trivial trivial)
          simp_all [tle, tChk]
        · have d4 := c4; (try simp at d4)
          refine gFs [cc k1, .f, cc k2, .f, cc k3, .f, cc k4, .f] rfl (ret_of rfl ?_ trivial trivial)
          simp_all [tle, tChk]
def tCells : List T := tLines.flatMap fun l => [.s l.1, .s l.2.1, .s l.2.2]
def tLine (i : Nat) : List UInt8 × List UInt8 × List UInt8 := tLines.getD i ([], [], [])
theorem tCells_at (i : Nat) (h : i < 10) : (tCells.drop (i * 3)).take 3 = [.s (tLine i).1, .s (tLine i).2.1, .s (tLine i).2.2] := by
  have : ∀ i : Fin 10, (tCells.drop (i.val * 3)).take 3 = [.s (tLine i).1, .s (tLine i).2.1, .s (tLine i).2.2] := fun i => by
    match i with
    | 0 | 1 | 2 | 3 | 4 | 5 | 6 | 7 | 8 | 9 => rfl
  exact this ⟨i, h⟩
theorem pLines : Ret P (C ml) 260 [] (.agg tCells) := by
  refine hR Tryz.func260 ?_
  refine gFs [] rfl (ret_of rfl ?_ trivial trivial)
  exact ⟨rfl, rfl⟩
theorem ge10 (a b : UInt8) : Op.bytesLess [a, b] [49, 48] = decide (a.toNat < 49 ∨ a.toNat = 49 ∧ b.toNat < 48) := by
  rw [Bool.eq_iff_iff]
  simp [Op.bytesLess, UInt8.lt_iff_toNat_lt, ← UInt8.toNat_inj]
theorem le99 (a b : UInt8) : (Op.bytesLess [a, b] [57, 57] || [a, b] == [57, 57]) = decide (a.toNat < 57 ∨ a.toNat = 57 ∧ b.toNat ≤ 57) := by
  rw [Bool.eq_iff_iff]
  simp [Op.bytesLess, UInt8.lt_iff_toNat_lt, ← UInt8.toNat_inj]
  omega
theorem two_spec (a b : UInt8) : tOwn [a, b] = decide (49 ≤ a.toNat ∧ a.toNat ≤ 57 ∧ 48 ≤ b.toNat ∧ b.toNat ≤ 57) := by
  have e0 : bt [a, b] 0 = (a.toNat : Int) := rfl
  have e1 : bt [a, b] 1 = (b.toNat : Int) := rfl
  rw [Bool.eq_iff_iff]
  simp only [tOwn, e0, e1]
  simp
  omega
theorem pTwo (u : List UInt8) : Ret P (C ml) 212 [.s u] (.b (tOwn u)) := by
  refine hR Tryz.func212 ?_
  by_cases c0 : u.length = 2
  · match u, c0 with
    | [a, b], _ =>
      rw [two_spec]
      have e0 : bt [a, b] 0 = (a.toNat : Int) := rfl
      have e1 : bt [a, b] 1 = (b.toNat : Int) := rfl
      rcases Bool.eq_false_or_eq_true (!Op.bytesLess [a, b] [49, 48]) with c1 | c1
      · have d1 := c1; (try simp at d1)
        rcases Bool.eq_false_or_eq_true (Op.bytesLess [a, b] [57, 57] || [a, b] == [57, 57]) with c2 | c2
        · have d2 := c2; (try simp at d2)
          rcases Bool.eq_false_or_eq_true (decide (bt [a, b] 1 ≥ 48)) with c3 | c3
          · have d3 := c3; (try simp at d3)
            refine gFs [.t, .t, .t, .t] rfl (ret_of rfl ?_ trivial trivial)
            (simp only [ge10, le99, e0, e1] at *); (first | exact .inl (congrArg T.b (by rw [Bool.eq_iff_iff]; simp at *; omega)) | exact .inr (congrArg T.bl (by rw [Bool.eq_iff_iff]; simp at *; omega)))
          · have d3 := c3; (try simp at d3)
            refine gFs [.t, .t, .t, .f] rfl (ret_of rfl ?_ trivial trivial)
            (simp only [ge10, le99, e0, e1] at *); (first | exact .inl (congrArg T.b (by rw [Bool.eq_iff_iff]; simp at *; omega)) | exact .inr (congrArg T.bl (by rw [Bool.eq_iff_iff]; simp at *; omega)))
        · have d2 := c2; (try simp at d2)
          refine gFs [.t, .t, .f] rfl (ret_of rfl ?_ trivial trivial)
          (simp only [ge10, le99, e0, e1] at *); (first | exact .inl (congrArg T.b (by rw [Bool.eq_iff_iff]; simp at *; omega)) | exact .inr (congrArg T.bl (by rw [Bool.eq_iff_iff]; simp at *; omega)))
      · have d1 := c1; (try simp at d1)
        refine gFs [.t, .f] rfl (ret_of rfl ?_ trivial trivial)
        (simp only [ge10, le99, e0, e1] at *); (first | exact .inl (congrArg T.b (by rw [Bool.eq_iff_iff]; simp at *; omega)) | exact .inr (congrArg T.bl (by rw [Bool.eq_iff_iff]; simp at *; omega)))
  · refine gFs [.f] rfl (ret_of rfl ?_ trivial trivial)
    simp [tle, tOwn, c0]
theorem tOf_hit (u : List UInt8) (i : Nat) (h : i < 10) (hp : ∀ j, j < i → ((tLine j).1 == u) = false) (e : ((tLine i).1 == u) = true) : tOf u = tLine i := by
  have hf : tLines.find? (u == ·.1) = some (tLine i) := by
    rw [List.find?_eq_some_iff_getElem]
    refine ⟨by rw [BEq.comm]; exact e, i, h, by simp only [tLine, List.getD, List.getElem?_eq_getElem (show i < tLines.length from h)]; rfl, fun j hj => ?_⟩
    have := hp j hj
    simp only [tLine, List.getD, List.getElem?_eq_getElem (show j < tLines.length from Nat.lt_trans hj h), Option.getD_some] at this
    show (!(u == (tLines[j]'(Nat.lt_trans hj h)).1)) = true
    rw [BEq.comm]; exact congrArg Bool.not this
  rw [tOf, hf]
theorem tOf_miss (u : List UInt8) (hp : ∀ j, j < 10 → ((tLine j).1 == u) = false) : tOf u = if tOwn u then (u, [65, 69, 72, 84], [66, 67, 68, 69, 71, 78, 83, 84, 86, 88]) else ([], [], []) := by
  have hf : tLines.find? (u == ·.1) = none := by
    rw [List.find?_eq_none]
    intro x hx
    obtain ⟨j, hj, rfl⟩ := List.getElem_of_mem hx
    have := hp j hj
    simp only [tLine, List.getD, List.getElem?_eq_getElem hj, Option.getD_some] at this
    rw [BEq.comm, this]; decide
  rw [tOf, hf]
theorem pOf (u : List UInt8) : Ret P (C ml) 210 [.s u] (.agg [.s (tOf u).1, .s (tOf u).2.1, .s (tOf u).2.2]) := by
  refine hR Tryz.func210 ?_
  have k0 := pLines (ml := ml)
  have k1 := pTwo (ml := ml) u
  refine gRs [cc k0] rfl ?_
  refine g_loop (fun i : Nat => [(0, .s u), (2, .p 2 0 0), (5, .agg tCells), (6, .i .i64 i)]) (fun _ => [(2, 0, .row false 0 [.s [], .s [], .s []])]) (fun i => i ≤ 10 ∧ ∀ j, j < i → ((tLine j).1 == u) = false) (fun i => 10 - i) 0 ⟨⟨rfl, ⟨rfl, rfl, rfl, rfl⟩, ⟨rfl, rfl⟩, rfl, trivial⟩, ⟨⟨rfl, rfl, rfl, rfl, rfl, rfl⟩, trivial⟩, trivial⟩ ⟨by omega, by omega⟩ ?_
  rintro i ⟨h1, h2⟩
  by_cases hi : i < 10
  · have hr := tCells_at i hi
    rcases Bool.eq_false_or_eq_true ((tLine i).fst == u) with c1 | c1
    · have d1 := c1; (try simp at d1)
      refine gFs [.t, ldv hr, .t] rfl (rd_ret (ret_of rfl ?_ trivial trivial))
      (rw [tOf_hit u i hi h2 c1]); exact ⟨rfl, rfl⟩
    · have d1 := c1; (try simp at d1)
      refine gFs [.t, ldv hr, .f] rfl (rd_next (i + 1) ⟨by omega, ?_⟩ (by omega) ⟨rfl, ⟨rfl, rfl, rfl, rfl⟩, ⟨rfl, rfl⟩, ?_, trivial⟩ ⟨⟨rfl, rfl, rfl, rfl, rfl, rfl⟩, trivial⟩ trivial)
      all_goals first | (intro j hj; rcases Nat.lt_succ_iff_lt_or_eq.1 hj with h | rfl; exact h2 j h; exact c1) | (simp [look, tle]; omega)
  · have h3 := tOf_miss u (fun j hj => h2 j (by omega))
    refine gFs [.f] rfl (rd_exit rfl ?_)
    rcases Bool.eq_false_or_eq_true (tOwn u) with c1 | c1
    · have d1 := c1; (try simp at d1)
      refine gFs [cc k1, .t] rfl (ret_of rfl ?_ trivial trivial)
      simp_all [tle, noRefL, noRef, both]
    · have d1 := c1; (try simp at d1)
      refine gFs [cc k1, .f] rfl (ret_of rfl ?_ trivial trivial)
      simp_all [tle, noRefL, noRef, both]
theorem pOne (s some : List UInt8) : Ret P (C ml) 209 [.s s, .s some] (.b (tIn s some)) := by
  refine hR Tryz.func209 ?_
  by_cases c0 : s.length = 1
  · match s, c0 with
    | [c], _ =>
      have k1 := contains1 (ml := ml) some c
      refine gFs [.t, cc k1] rfl (ret_of rfl ?_ trivial trivial)
      simp [tle, tIn]
  · refine gFs [.f] rfl (ret_of rfl ?_ trivial trivial)
    simp [tle, tIn, c0]
theorem pUsage (u l : List UInt8) : Ret P (C ml) 141 [.s u, .s l] (.b (tIn l (tOf u).2.1)) := by
  refine hR Tryz.func141 ?_
  have k1 := pOf (ml := ml) u
  have k2 := pOne (ml := ml) l (tOf u).2.1
  refine gFs [cc k1, cc k2] rfl (ret_of rfl ?_ trivial trivial)
  (first | exact .inl rfl | rfl | (simp [tle]; done) | (simp_all [tle, tleL]; done))
theorem pMode (u m : List UInt8) : Ret P (C ml) 142 [.s u, .s m] (.b (tIn m (tOf u).2.2)) := by
  refine hR Tryz.func142 ?_
  have k1 := pOf (ml := ml) u
  have k2 := pOne (ml := ml) m (tOf u).2.2
  refine gFs [cc k1, cc k2] rfl (ret_of rfl ?_ trivial trivial)
  (first | exact .inl rfl | rfl | (simp [tle]; done) | (simp_all [tle, tleL]; done))
theorem pExport (e : List UInt8) : Ret P (C ml) 144 [.s e] (.b (tExp e)) := by
  refine hR Tryz.func144 ?_
  have k1 := pOne (ml := ml) e [69, 78, 83]
  refine gFs [cc k1] rfl (ret_of rfl ?_ trivial trivial)
  (first | exact .inl rfl | rfl | (simp [tle]; done) | (simp_all [tle, tleL]; done))
theorem ver_c (v : List UInt8) : (Lib.hasPrefix v [99] && tIn (Lib.trimPrefix v [99]) [49, 50, 51, 52, 53, 54, 55, 56, 57]) = decide (v.length = 2 ∧ bt v 0 = 99 ∧ 49 ≤ bt v 1 ∧ bt v 1 ≤ 57) := by
  have hd : ∀ b : UInt8, List.contains [49, 50, 51, 52, 53, 54, 55, 56, 57] b = decide (49 ≤ (b.toNat : Int) ∧ (b.toNat : Int) ≤ 57) := fun b => by
    have : ∀ k : Fin 256, List.contains [49, 50, 51, 52, 53, 54, 55, 56, 57] (UInt8.ofNat k) = decide (49 ≤ ((UInt8.ofNat k).toNat : Int) ∧ ((UInt8.ofNat k).toNat : Int) ≤ 57) := by decide +kernel
    have k := this ⟨b.toNat, UInt8.toNat_lt b⟩
    simpa only [UInt8.ofNat_toNat] using k
  have h99 : ∀ a : UInt8, (99 : UInt8) = a ↔ (a.toNat : Int) = 99 := fun a => by
    rw [← UInt8.toNat_inj]; simp; omega
  match v with
  | [] => simp [Lib.hasPrefix, List.isPrefixOf]
  | [a] => by_cases h : (99 : UInt8) = a <;> simp [Lib.hasPrefix, Lib.trimPrefix, List.isPrefixOf, tIn, h]
  | [a, b] =>
    have e0 : bt [a, b] 0 = (a.toNat : Int) := rfl
    have e1 : bt [a, b] 1 = (b.toNat : Int) := rfl
    have e2 := hd b
    by_cases h : (99 : UInt8) = a
    · have h' := (h99 a).1 h
      rw [e0, e1]
      simp only [Lib.hasPrefix, Lib.trimPrefix, List.isPrefixOf, tIn, ← h, beq_self_eq_true, Bool.and_self, if_true, List.drop, List.length_cons, List.length_nil, List.getD_cons_zero, e2]
      simp
    · have h' : ¬ (a.toNat : Int) = 99 := fun x => h ((h99 a).2 x)
      simp [Lib.hasPrefix, List.isPrefixOf, h, e0, h']
  | a :: b :: c :: l => by_cases h : (99 : UInt8) = a <;> simp [Lib.hasPrefix, Lib.trimPrefix, List.isPrefixOf, tIn, h]
theorem pVersion (v : List UInt8) : Ret P (C ml) 143 [.s v] (.b (tVer v)) := by
  refine hR Tryz.func143 ?_
  have k0 := cutPrefix (ml := ml) v [99]
  have k1 := pTwo (ml := ml) v
  have k2 := pOne (ml := ml) (Lib.trimPrefix v [99]) [49, 50, 51, 52, 53, 54, 55, 56, 57]
  have k3 := ver_c v
  rcases Bool.eq_false_or_eq_true (v == [48, 48]) with c1 | c1
  · have d1 := c1; (try simp at d1)
    refine gFs [cc k0, .t] rfl (ret_of rfl ?_ trivial trivial)
    (simp only [tVer, ← k3]); (first | (simp [tle, c1]; done) | (simp_all [tle]; done))
  · have d1 := c1; (try simp at d1)
    rcases Bool.eq_false_or_eq_true (tOwn v) with c2 | c2
    · have d2 := c2; (try simp at d2)
      refine gFs [cc k0, .f, cc k1, .t] rfl (ret_of rfl ?_ trivial trivial)
      (simp only [tVer, ← k3]); (first | (simp [tle, c1, c2]; done) | (simp_all [tle]; done))
    · have d2 := c2; (try simp at d2)
      rcases Bool.eq_false_or_eq_true (Lib.hasPrefix v [99]) with c3 | c3
      · have d3 := c3; (try simp at d3)
        refine gFs [cc k0, .f, cc k1, .f, .t, cc k2] rfl (ret_of rfl ?_ trivial trivial)
        (simp only [tVer, ← k3]); (first | (simp [tle, c1, c2, c3]; done) | (simp_all [tle]; done))
      · have d3 := c3; (try simp at d3)
        refine gFs [cc k0, .f, cc k1, .f, .f] rfl (ret_of rfl ?_ trivial trivial)
        (simp only [tVer, ← k3]); (first | (simp [tle, c1, c2, c3]; done) | (simp_all [tle]; done))
theorem pCheck (h : Hd) (l : List UInt8) : Ret P (C ml) 80 [.agg h.cells, .s l] (.i .i64 (if tChk h l then 0 else 12)) := by
  refine hR Tryz.func80 ?_
  have k1 := pUsage (ml := ml) h.u l
  have k2 := pMode (ml := ml) h.u h.m
  have k3 := pVersion (ml := ml) h.v
  have k4 := pExport (ml := ml) h.e
  rcases Bool.eq_false_or_eq_true (tIn l (tOf h.u).snd.fst) with c1 | c1
  · have d1 := c1; (try simp at d1)
    rcases Bool.eq_false_or_eq_true (tIn h.m (tOf h.u).snd.snd) with c2 | c2
    · have d2 := c2; (try simp at d2)
      rcases Bool.eq_false_or_eq_true (tVer h.v) with c3 | c3
      · have d3 := c3; (try simp at d3)
        rcases Bool.eq_false_or_eq_true (tExp h.e) with c4 | c4
        · have d4 := c4; (try simp at d4)
          refine gFs [cc k1, .t, cc k2, .t, cc k3, .t, cc k4, .t] rfl (ret_of rfl ?_ trivial trivial)
          simp_all [tle, tChk]
        · have d4 := c4; (try simp at d4)
          refine gFs [cc k1, .t, cc k2, .t, cc k3, .t, cc k4, .f] rfl (ret_of rfl ?_ trivial trivial)
          simp_all [tle, tChk]
      · have d3 := c3; (try simp at d3)
        refine gFs [cc k1, .t, cc k2, .t, cc k3, .f] rfl (ret_of rfl ?_ trivial trivial)
        simp_all [tle, tChk]
    · have d2 := c2; (try simp at d2)
      refine gFs [cc k1, .t, cc k2, .f] rfl (ret_of rfl ?_ trivial trivial)
      simp_all [tle, tChk]
  · have d1 := c1; (try simp at d1)
    refine gFs [cc k1, .f] rfl (ret_of rfl ?_ trivial trivial)
    simp_all [tle, tChk]
end Go.Proofs.YtipomdmlkkifcaaGreatDoor.Vm
