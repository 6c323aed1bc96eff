/- Texts of one proof, gathered: Kind2 Kind3 Load Block BlockL. -/
import Derived.Test.YtipomdmlkkifcaaGreatDoorPart9
import Derived.Test.YtipomdmlkkifcaaGreatDoorPart8
import Derived.Test.YtipomdmlkkifcaaGreatDoorShelf
import Derived.Test.YtipomdmlkkifcaaGreatDoorPart3
import Derived.Test.YtipomdmlkkifcaaGreatDoorPart17
import Derived.Test.YtipomdmlkkifcaaGreatDoorPart22
import Derived.Test.YtipomdmlkkifcaaGreatDoorPart18
set_option linter.unusedSimpArgs false
set_option linter.unusedVariables false
set_option linter.unnecessarySimpa false
/- Contracts: strings.Trim, Compare; curve.line, Order, Scalar; kind.of, Size, Letter, Check, Of. -/
set_option maxRecDepth 100000
namespace Go.Proofs.YtipomdmlkkifcaaGreatDoor.Vm
open Go Go.Proofs Go.RowKit
variable {ml : Int}
/-! ### Texts -/
theorem sCompare (a b : List UInt8) : Ret P (C ml) 221 [.s a, .s b] (.i .i64 (Lib.compareBytes a b)) := by
  refine ret_of_calls (callable_of Tryz.func221 (by rfl) (by rfl)) fun ρ I w vals hg hI hv => ?_
  simp only [VRs, VR] at hv
  obtain ⟨_, _, rfl, rfl, _, _, rfl, rfl, rfl⟩ := hv
  refine (Tryz.strings_Compare ⟨⟨a⟩⟩ ⟨⟨b⟩⟩ w).mono ?_
  rintro _ _ ⟨rfl, rfl⟩
  exact ⟨_, rfl, rfl, Below.refl _ _⟩
theorem cmp_neg : ∀ a b : List UInt8, decide (Lib.compareBytes a b < 0) = Op.bytesLess a b
  | [], [] => rfl
  | [], _ :: _ => rfl
  | _ :: _, [] => rfl
  | x :: a, y :: b => by
    unfold Lib.compareBytes Op.bytesLess
    rw [← cmp_neg a b]
    by_cases h1 : x < y
    · simp [h1]
    · by_cases h2 : y < x
      · have : ¬ x = y := fun e => by subst e; exact h1 h2
        simp [h1, h2, this]
      · have : x = y := UInt8.le_antisymm (UInt8.not_lt.1 h2) (UInt8.not_lt.1 h1)
        subst this; simp [h1]
/-- Without the bytes 'c' at the end; at the beginning. -/
def trimR (c : UInt8) (s : List UInt8) : List UInt8 := (s.reverse.dropWhile (· == c)).reverse
theorem trimR_last (c : UInt8) (s : List UInt8) (x : UInt8) : trimR c (s ++ [x]) = if x = c then trimR c s else s ++ [x] := by
  unfold trimR
  rw [List.reverse_append]
  simp only [List.reverse_cons, List.reverse_nil, List.nil_append, List.singleton_append, List.dropWhile_cons, beq_iff_eq]
  split
  · rfl
  · simp
theorem trimRB (c : UInt8) (s : List UInt8) (hl : s.length ≤ 1000000) : Ret P (C ml) 265 [.s s, .i .u8 ((c.toNat : Int))] (.s (trimR c s)) := by
  refine hR Tryz.func265 ?_
  refine gR [] rfl ?_
  refine g_loop (fun t : List UInt8 => [(0, .s t), (1, .i .u8 ((c.toNat : Int)))]) (fun _ => []) (fun t => trimR c t = trimR c s ∧ t.length ≤ s.length) (fun t => t.length) s ⟨⟨rfl, rfl, trivial⟩, trivial, trivial⟩ ⟨rfl, Nat.le_refl _⟩ ?_
  rintro t ⟨h1, h2⟩
  rcases List.eq_nil_or_concat t with rfl | ⟨u, x, rfl⟩
  · refine gF [.f] rfl (rd_exit rfl ?_)
    refine gF [] rfl (ret_of rfl ?_ trivial trivial)
    rw [← h1]; rfl
  · rw [List.concat_eq_append] at *
    have hl2 : (u ++ [x]).length = u.length + 1 := by simp
    have w1 : IntKind.i64.wrap (((u ++ [x]).length : Int) - 1) = (u.length : Int) := by rw [w64 (by omega) (by omega)]; omega
    have hb : bt (u ++ [x]) (IntKind.i64.wrap (((u ++ [x]).length : Int) - 1)) = (x.toNat : Int) := by
      rw [w1]; simp [bt]
    have ht : (u ++ [x]).take (IntKind.i64.wrap (((u ++ [x]).length : Int) - 1)).toNat = u := by rw [w1]; simp
    have q1 : 0 ≤ IntKind.i64.wrap (((u ++ [x]).length : Int) - 1) := by rw [w1]; omega
    have q2 : IntKind.i64.wrap (((u ++ [x]).length : Int) - 1) < ((u ++ [x]).length : Int) := by rw [w1]; omega
    have q3 : IntKind.i64.wrap (((u ++ [x]).length : Int) - 1) ≤ ((u ++ [x]).length : Int) := by omega
    have c1 : decide (((u ++ [x]).length : Int) > 0) = true := decide_eq_true (by omega)
    have e1 := trimR_last c u x
    by_cases e : x = c
    · have c2 : (bt (u ++ [x]) (IntKind.i64.wrap (((u ++ [x]).length : Int) - 1)) == (c.toNat : Int)) = true := by rw [hb, e]; simp
      rw [if_pos e] at e1
      clear w1 hb
      refine gF [.t, .t] rfl (rd_next u ⟨e1.symm.trans h1, by omega⟩ (by omega) ⟨congrArg T.s ht, rfl, trivial⟩ trivial trivial)
    · have c2 : (bt (u ++ [x]) (IntKind.i64.wrap (((u ++ [x]).length : Int) - 1)) == (c.toNat : Int)) = false := by
        rw [hb]; simp only [beq_eq_false_iff_ne, ne_eq]; intro h; exact e (UInt8.toNat_inj.1 (by omega))
      rw [if_neg e] at e1
      clear w1 hb ht
      rw [← h1, e1]
      clear e1 h1
      generalize u ++ [x] = t at *
      refine gF [.t, .f] rfl (rd_exit rfl ?_)
      refine gF [] rfl (ret_of rfl ?_ trivial trivial)
      rfl
theorem trimLB (c : UInt8) (s : List UInt8) (hl : s.length ≤ 1000000) : Ret P (C ml) 187 [.s s, .i .u8 (c.toNat : Int)] (.s (s.dropWhile (· == c))) := by
  refine hR Tryz.func187 ?_
  refine gR [] rfl ?_
  refine g_loop (fun t : List UInt8 => [(0, .s t), (1, .i .u8 (c.toNat : Int))]) (fun _ => []) (fun t => t.dropWhile (· == c) = s.dropWhile (· == c) ∧ t.length ≤ s.length) (fun t => t.length) s ⟨⟨rfl, rfl, trivial⟩, trivial, trivial⟩ ⟨rfl, Nat.le_refl _⟩ ?_
  rintro t ⟨h1, h2⟩
  cases t with
  | nil =>
    refine gF [.f] rfl (rd_exit rfl ?_)
    refine gF [] rfl (ret_of rfl ?_ trivial trivial)
    rw [← h1]; rfl
  | cons x u =>
    have hl2 : (x :: u).length = u.length + 1 := rfl
    have hb : bt (x :: u) 0 = (x.toNat : Int) := rfl
    have c1 : decide (((x :: u).length : Int) > 0) = true := decide_eq_true (by omega)
    have q1 : (0 : Int) < ((x :: u).length : Int) := by omega
    have q2 : (1 : Int) ≤ ((x :: u).length : Int) := by omega
    by_cases e : x = c
    · have c2 : (bt (x :: u) 0 == (c.toNat : Int)) = true := by rw [hb, e]; simp
      rw [List.dropWhile_cons, if_pos (by simpa using e)] at h1
      refine gF [.t, .t] rfl (rd_next u ⟨h1, by omega⟩ (by omega) ⟨rfl, rfl, trivial⟩ trivial trivial)
    · have c2 : (bt (x :: u) 0 == (c.toNat : Int)) = false := by
        rw [hb]; simp only [beq_eq_false_iff_ne, ne_eq]; intro h; exact e (UInt8.toNat_inj.1 (by omega))
      rw [List.dropWhile_cons, if_neg (by simpa using e)] at h1
      rw [← h1]
      refine gF [.t, .f] rfl (rd_exit rfl ?_)
      refine gF [] rfl (ret_of rfl ?_ trivial trivial)
      rfl
def trim0 (s : List UInt8) : List UInt8 := (trimR 0 s).dropWhile (· == 0)
theorem trimR_len (c : UInt8) (s : List UInt8) : (trimR c s).length ≤ s.length := by
  unfold trimR
  rw [List.length_reverse]
  exact Nat.le_trans (List.dropWhile_suffix _).length_le (by simp)
theorem sTrim0 (s : List UInt8) (hl : s.length ≤ 1000000) : Ret P (C ml) 220 [.s s, .s [0]] (.s (trim0 s)) := by
  have k1 : Ret P (C ml) 265 [.s s, .i .u8 0] (.s (trimR 0 s)) := trimRB (ml := ml) 0 s hl
  have k2 : Ret P (C ml) 187 [.s (trimR 0 s), .i .u8 0] (.s (trim0 s)) := trimLB (ml := ml) 0 (trimR 0 s) (by have := trimR_len 0 s; omega)
  refine hR Tryz.func220 ?_
  by_cases h : s = []
  · subst h
    refine gF [.t] rfl (ret_of rfl ?_ trivial trivial)
    rfl
  · have c1 : (s == []) = false := by simpa using h
    generalize trim0 s = x at *
    generalize trimR 0 s = y at *
    refine gF [.f, .f, .t, .t, cc k1, cc k2] rfl (ret_of rfl ?_ trivial trivial)
    rfl
/-- Are some bytes not 0? -/
def someL (s : List UInt8) : Bool := s.any (· != 0)
theorem dropW_nil {p : UInt8 → Bool} : ∀ {l : List UInt8}, l.dropWhile p = [] ↔ ∀ x ∈ l, p x = true
  | [] => by simp
  | x :: l => by
    rw [List.dropWhile_cons]
    by_cases h : p x = true
    · rw [if_pos h, dropW_nil]; simp [h]
    · rw [if_neg h]; simp [h]
theorem takeW_mem {p : UInt8 → Bool} {x : UInt8} : ∀ {l : List UInt8}, x ∈ l.takeWhile p → p x = true
  | [], h => by simp at h
  | y :: l, h => by
    rw [List.takeWhile_cons] at h
    by_cases hy : p y = true
    · rw [if_pos hy] at h
      rcases List.mem_cons.1 h with rfl | h
      · exact hy
      · exact takeW_mem h
    · rw [if_neg hy] at h; simp at h
theorem trim0_some (s : List UInt8) : (!(trim0 s == [])) = someL s := by
  have h1 : trim0 s = [] ↔ ∀ x ∈ s, x = 0 := by
    unfold trim0
    rw [dropW_nil]
    have h2 : (∀ x ∈ trimR 0 s, (x == 0) = true) ↔ ∀ x ∈ s.reverse.dropWhile (· == (0 : UInt8)), (x == 0) = true := by
      unfold trimR; simp only [List.mem_reverse]
    rw [h2]
    constructor
    · intro h x hx
      have hx2 : x ∈ s.reverse.takeWhile (· == (0 : UInt8)) ++ s.reverse.dropWhile (· == (0 : UInt8)) := by rw [List.takeWhile_append_dropWhile]; simpa using hx
      rcases List.mem_append.1 hx2 with h3 | h3
      · have := takeW_mem h3; simpa using this
      · simpa using h x h3
    · intro h x hx
      have := (List.dropWhile_suffix (l := s.reverse) (· == (0 : UInt8))).subset hx
      simpa using h x (by simpa using this)
  rw [Bool.eq_iff_iff]
  unfold someL
  simp only [Bool.not_eq_true', beq_eq_false_iff_ne, ne_eq, List.any_eq_true, bne_iff_ne, h1]
  simp
/-! ### Curves -/
def cNam (no : Int) : List UInt8 := if no = 1 then [80, 45, 50, 50, 52] else if no = 2 then [80, 45, 50, 53, 54] else if no = 3 then [80, 45, 51, 56, 52] else if no = 4 then [80, 45, 53, 50, 49] else []
def cArc (no : Int) : List UInt8 := if no = 1 then [49, 46, 51, 46, 49, 51, 50, 46, 48, 46, 51, 51] else if no = 2 then [49, 46, 50, 46, 56, 52, 48, 46, 49, 48, 48, 52, 53, 46, 51, 46, 49, 46, 55] else if no = 3 then [49, 46, 51, 46, 49, 51, 50, 46, 48, 46, 51, 52] else if no = 4 then [49, 46, 51, 46, 49, 51, 50, 46, 48, 46, 51, 53] else []
def cOrd (no : Int) : List UInt8 := if no = 1 then [70, 70, 70, 70, 70, 70, 70, 70, 70, 70, 70, 70, 70, 70, 70, 70, 70, 70, 70, 70, 70, 70, 70, 70, 70, 70, 70, 70, 49, 54, 65, 50, 69, 48, 66, 56, 70, 48, 51, 69, 49, 51, 68, 68, 50, 57, 52, 53, 53, 67, 53, 67, 50, 65, 51, 68] else if no = 2 then [70, 70, 70, 70, 70, 70, 70, 70, 48, 48, 48, 48, 48, 48, 48, 48, 70, 70, 70, 70, 70, 70, 70, 70, 70, 70, 70, 70, 70, 70, 70, 70, 66, 67, 69, 54, 70, 65, 65, 68, 65, 55, 49, 55, 57, 69, 56, 52, 70, 51, 66, 57, 67, 65, 67, 50, 70, 67, 54, 51, 50, 53, 53, 49] else if no = 3 then [70, 70, 70, 70, 70, 70, 70, 70, 70, 70, 70, 70, 70, 70, 70, 70, 70, 70, 70, 70, 70, 70, 70, 70, 70, 70, 70, 70, 70, 70, 70, 70, 70, 70, 70, 70, 70, 70, 70, 70, 70, 70, 70, 70, 70, 70, 70, 70, 67, 55, 54, 51, 52, 68, 56, 49, 70, 52, 51, 55, 50, 68, 68, 70, 53, 56, 49, 65, 48, 68, 66, 50, 52, 56, 66, 48, 65, 55, 55, 65, 69, 67, 69, 67, 49, 57, 54, 65, 67, 67, 67, 53, 50, 57, 55, 51] else if no = 4 then [48, 49, 70, 70, 70, 70, 70, 70, 70, 70, 70, 70, 70, 70, 70, 70, 70, 70, 70, 70, 70, 70, 70, 70, 70, 70, 70, 70, 70, 70, 70, 70, 70, 70, 70, 70, 70, 70, 70, 70, 70, 70, 70, 70, 70, 70, 70, 70, 70, 70, 70, 70, 70, 70, 70, 70, 70, 70, 70, 70, 70, 70, 70, 70, 70, 70, 70, 65, 53, 49, 56, 54, 56, 55, 56, 51, 66, 70, 50, 70, 57, 54, 54, 66, 55, 70, 67, 67, 48, 49, 52, 56, 70, 55, 48, 57, 65, 53, 68, 48, 51, 66, 66, 53, 67, 57, 66, 56, 56, 57, 57, 67, 52, 55, 65, 69, 66, 66, 54, 70, 66, 55, 49, 69, 57, 49, 51, 56, 54, 52, 48, 57] else []
def cWid (no : Int) : Int := if no = 1 then 28 else if no = 2 then 32 else if no = 3 then 48 else if no = 4 then 66 else 0
def cLine (no : Int) : List T := [.s (cNam no), .s (cArc no), .s (cOrd no), .i .i64 (cWid no)]
theorem cTable : Ret P (C ml) 264 [] (.agg (cLine 1 ++ cLine 2 ++ cLine 3 ++ cLine 4)) := by
  refine hR Tryz.func264 ?_
  refine gF [] rfl (ret_of rfl ?_ trivial trivial)
  exact ⟨rfl, rfl⟩
theorem cLineP (no : Int) : Ret P (C ml) 219 [.i .i64 no] (.agg (cLine no)) := by
  have k1 := cTable (ml := ml)
  by_cases h : 1 ≤ no ∧ no ≤ 4
  · have : no = 1 ∨ no = 2 ∨ no = 3 ∨ no = 4 := by omega
    rcases this with rfl | rfl | rfl | rfl
    · have c1 : decide ((1 : Int) < 1) = false := rfl
      have c2 : decide ((1 : Int) > 4) = false := rfl
      refine hR Tryz.func219 ?_
      refine gF [cc k1, .f, .f, .a] rfl (ret_of rfl ?_ trivial trivial)
      exact ⟨rfl, rfl⟩
    · have c1 : decide ((2 : Int) < 1) = false := rfl
      have c2 : decide ((2 : Int) > 4) = false := rfl
      refine hR Tryz.func219 ?_
      refine gF [cc k1, .f, .f, .a] rfl (ret_of rfl ?_ trivial trivial)
      exact ⟨rfl, rfl⟩
    · have c1 : decide ((3 : Int) < 1) = false := rfl
      have c2 : decide ((3 : Int) > 4) = false := rfl
      refine hR Tryz.func219 ?_
      refine gF [cc k1, .f, .f, .a] rfl (ret_of rfl ?_ trivial trivial)
      exact ⟨rfl, rfl⟩
    · have c1 : decide ((4 : Int) < 1) = false := rfl
      have c2 : decide ((4 : Int) > 4) = false := rfl
      refine hR Tryz.func219 ?_
      refine gF [cc k1, .f, .f, .a] rfl (ret_of rfl ?_ trivial trivial)
      exact ⟨rfl, rfl⟩
  · have e : cLine no = [.s [], .s [], .s [], .i .i64 0] := by
      unfold cLine cNam cArc cOrd cWid
      rw [if_neg (by omega), if_neg (by omega), if_neg (by omega), if_neg (by omega), if_neg (by omega), if_neg (by omega), if_neg (by omega), if_neg (by omega), if_neg (by omega), if_neg (by omega), if_neg (by omega), if_neg (by omega), if_neg (by omega), if_neg (by omega), if_neg (by omega), if_neg (by omega)]
    rw [e]
    by_cases h1 : no < 1
    · have c1 : decide (no < 1) = true := decide_eq_true h1
      refine hR Tryz.func219 ?_
      refine gF [cc k1, .t] rfl (ret_of rfl ?_ trivial trivial)
      exact ⟨rfl, rfl⟩
    · have c1 : decide (no < 1) = false := decide_eq_false h1
      have c2 : decide (no > 4) = true := decide_eq_true (by omega)
      refine hR Tryz.func219 ?_
      refine gF [cc k1, .f, .t] rfl (ret_of rfl ?_ trivial trivial)
      exact ⟨rfl, rfl⟩
def ordL (no : Int) : List UInt8 := (unhexO (cOrd no)).getD []
theorem cOrd_len (no : Int) : (cOrd no).length ≤ 1000000 := by
  unfold cOrd
  by_cases h1 : no = 1
  · rw [if_pos h1]; decide
  rw [if_neg h1]
  by_cases h2 : no = 2
  · rw [if_pos h2]; decide
  rw [if_neg h2]
  by_cases h3 : no = 3
  · rw [if_pos h3]; decide
  rw [if_neg h3]
  by_cases h4 : no = 4
  · rw [if_pos h4]; decide
  rw [if_neg h4]; decide
theorem cOrder (no : Int) : Ret P (C ml) 222 [.i .i64 no] (.s (ordL no)) := by
  have k1 := cLineP (ml := ml) no
  have k2 := dUnhex (ml := ml) (cOrd no) (cOrd_len no)
  unfold ordL
  unfold cLine at k1
  generalize (unhexO (cOrd no)).isSome = b at *
  generalize (unhexO (cOrd no)).getD [] = o at *
  generalize cOrd no = d at *
  refine hR Tryz.func222 ?_
  refine gF [cc k1, cc k2] rfl (ret_of rfl ?_ trivial trivial)
  exact rfl
/-- May these bytes be a key of the curve? -/
def scalOk (no : Int) (s : List UInt8) : Bool := decide (cWid no ≠ 0 ∧ s.length = cWid no) && (someL s && Op.bytesLess s (ordL no))
theorem cScalar (no : Int) (s : List UInt8) (hl : s.length ≤ 1000000) : Ret P (C ml) 148 [.i .i64 no, .s s] (.b (scalOk no s)) := by
  have k1 := cLineP (ml := ml) no
  have k2 := cOrder (ml := ml) no
  have k3 := sTrim0 (ml := ml) s hl
  have k4 := sCompare (ml := ml) s (ordL no)
  have e1 := cmp_neg s (ordL no)
  have e2 := trim0_some s
  unfold scalOk
  unfold cLine at k1
  generalize ordL no = o at *
  generalize trim0 s = x at *
  generalize Lib.compareBytes s o = z at *
  generalize Op.bytesLess s o = bl at *
  generalize someL s = sm at *
  by_cases h1 : cWid no = 0
  · have c1 : (cWid no == 0) = true := by simpa using h1
    rw [decide_eq_false (by simp [h1])]
    refine hR Tryz.func148 ?_
    refine gF [cc k1, .t] rfl (ret_of rfl ?_ trivial trivial)
    exact .inr rfl
  · have c1 : (cWid no == 0) = false := by simpa using h1
    by_cases h2 : (s.length : Int) = cWid no
    · have c2 : ((s.length : Int) != cWid no) = false := by simpa using h2
      rw [decide_eq_true ⟨h1, h2⟩, Bool.true_and]
      cases sm with
      | true =>
        refine hR Tryz.func148 ?_
        refine gF [cc k1, .f, cc k1, .f, cc k3, .t, cc k2, cc k4] rfl (ret_of rfl ?_ trivial trivial)
        exact .inl (congrArg T.b (by rw [Bool.true_and, ← e1]))
      | false =>
        refine hR Tryz.func148 ?_
        refine gF [cc k1, .f, cc k1, .f, cc k3, .f] rfl (ret_of rfl ?_ trivial trivial)
        exact .inr rfl
    · have c2 : ((s.length : Int) != cWid no) = true := by simpa using h2
      rw [decide_eq_false (fun h => h2 h.2)]
      refine hR Tryz.func148 ?_
      refine gF [cc k1, .f, cc k1, .t] rfl (ret_of rfl ?_ trivial trivial)
      exact .inr rfl
/-! ### Kinds -/
theorem kLine_out (k : Int) (h : k < 0 ∨ k ≥ 12) : kLine k = kLine 0 := by
  unfold kLine kName kSize kLetter kCurve kArcs
  simp only [show ¬ (k = 1) by omega, show ¬ (k = 2) by omega, show ¬ (k = 3) by omega, show ¬ (k = 4) by omega, show ¬ (k = 5) by omega, show ¬ (k = 6) by omega, show ¬ (k = 7) by omega, show ¬ (k = 8) by omega, show ¬ (k = 9) by omega, show ¬ (k = 10) by omega, show ¬ (k = 11) by omega, show ¬ (1 ≤ k ∧ k ≤ 3) by omega, show ¬ (8 ≤ k ∧ k ≤ 11) by omega, if_false, or_self]
  rfl
theorem kOfP (k : Int) : Ret P (C ml) 107 [.i .i64 k] (.agg (kLine k)) := by
  have k1 := kTable (ml := ml)
  by_cases h : k < 0 ∨ k ≥ 12
  · have hr := kRows_at 0 (by omega)
    rw [kLine_out k h]
    by_cases h1 : k < 0
    · have c1 : decide (k < 0) = true := decide_eq_true h1
      refine hR Tryz.func107 ?_
      refine gF [cc k1, .t, ldv hr] rfl (ret_of rfl ?_ trivial trivial)
      exact ⟨rfl, rfl⟩
    · have c1 : decide (k < 0) = false := decide_eq_false h1
      have c2 : decide (k ≥ 12) = true := decide_eq_true (by omega)
      refine hR Tryz.func107 ?_
      refine gF [cc k1, .f, .t, ldv hr] rfl (ret_of rfl ?_ trivial trivial)
      exact ⟨rfl, rfl⟩
  · obtain ⟨i, rfl⟩ : ∃ i : Nat, k = i := ⟨k.toNat, by omega⟩
    have hr := kRows_at i (by omega)
    have c1 : decide ((i : Int) < 0) = false := decide_eq_false (by omega)
    have c2 : decide ((i : Int) ≥ 12) = false := decide_eq_false (by omega)
    refine hR Tryz.func107 ?_
    refine gF [cc k1, .f, .f, ldv hr] rfl (ret_of rfl ?_ trivial trivial)
    exact ⟨rfl, rfl⟩
theorem kSizeP (k : Int) : Ret P (C ml) 82 [.i .i64 k] (.i .i64 (kSize k)) := by
  have k1 := kOfP (ml := ml) k
  unfold kLine at k1
  refine hR Tryz.func82 ?_
  refine gF [cc k1] rfl (ret_of rfl ?_ trivial trivial)
  exact rfl
theorem kLetterP (k : Int) : Ret P (C ml) 54 [.i .i64 k] (.s (kLetter k)) := by
  have k1 := kOfP (ml := ml) k
  unfold kLine at k1
  refine hR Tryz.func54 ?_
  refine gF [cc k1] rfl (ret_of rfl ?_ trivial trivial)
  exact rfl
/-- What Check says of a key. -/
def kChk (k : Int) (key : List UInt8) : Int := if kSize k = 0 then 8 else if kSize k ≠ key.length then 9 else if 0 < kCurve k ∧ scalOk (kCurve k) key = false then 10 else 0
theorem kCheckP (k : Int) (key : List UInt8) (hl : key.length ≤ 1000000) : Ret P (C ml) 83 [.i .i64 k, .s key] (.i .i64 (kChk k key)) := by
  have k1 := kOfP (ml := ml) k
  have k2 := cScalar (ml := ml) (kCurve k) key hl
  unfold kLine at k1
  unfold kChk
  by_cases h1 : kSize k = 0
  · have c1 : (kSize k == 0) = true := by simpa using h1
    rw [if_pos h1]
    refine hR Tryz.func83 ?_
    refine gF [cc k1, .t] rfl (ret_of rfl ?_ trivial trivial)
    rfl
  · have c1 : (kSize k == 0) = false := by simpa using h1
    rw [if_neg h1]
    by_cases h2 : kSize k = key.length
    · have c2 : (kSize k != (key.length : Int)) = false := by simpa using h2
      rw [if_neg (by simpa using h2)]
      by_cases h3 : 0 < kCurve k
      · have c3 : decide (kCurve k > 0) = true := decide_eq_true h3
        cases h4 : scalOk (kCurve k) key with
        | true =>
          rw [h4] at k2
          rw [if_neg (by simp)]
          refine hR Tryz.func83 ?_
          refine gF [cc k1, .f, .f, .t, cc k2, .f] rfl (ret_of rfl ?_ trivial trivial)
          rfl
        | false =>
          rw [h4] at k2
          rw [if_pos ⟨h3, rfl⟩]
          refine hR Tryz.func83 ?_
          refine gF [cc k1, .f, .f, .t, cc k2, .t] rfl (ret_of rfl ?_ trivial trivial)
          rfl
      · have c3 : decide (kCurve k > 0) = false := decide_eq_false h3
        rw [if_neg (fun h => h3 h.1)]
        refine hR Tryz.func83 ?_
        refine gF [cc k1, .f, .f, .f] rfl (ret_of rfl ?_ trivial trivial)
        rfl
    · have c2 : (kSize k != (key.length : Int)) = true := by simpa using h2
      rw [if_pos h2]
      refine hR Tryz.func83 ?_
      refine gF [cc k1, .f, .t] rfl (ret_of rfl ?_ trivial trivial)
      exact rfl
end Go.Proofs.YtipomdmlkkifcaaGreatDoor.Vm
/- Contracts: kind.Of, with its closure. -/
set_option maxRecDepth 100000
namespace Go.Proofs.YtipomdmlkkifcaaGreatDoor.Vm
open Go Go.Proofs Go.RowKit
variable {ml : Int}
/-- The cells of what is asked for. -/
abbrev kCell (l : List UInt8) (n : Int) : Heap := [(2, 0, .row false (.cell 9) [.s l]), (3, 0, .row false (.cell 3) [.i .i64 n])]
abbrev kCell2 (l : List UInt8) (n : Int) : Heap := [(20, 0, .row false (.cell 9) [.s l]), (21, 0, .row false (.cell 3) [.i .i64 n])]
def kHit (l : List UInt8) (n : Int) (j : Nat) : Bool := kLetter j == l && kSize j == n
theorem kOf1x (l : List UInt8) (n : Int) (j : Nat) : HRet P (C ml) 170 [.agg (kLine j), .p 20 0 0, .p 21 0 0] (kCell2 l n) (.b (kHit l n j)) (kCell2 l n) := by
  unfold kLine kHit
  cases h : (kLetter j == l) with
  | true =>
    refine hR Tryz.func170 ?_
    refine gF [.t] rfl (ret_of rfl ?_ ?_ ?_)
    · exact .inl rfl
    · exact ⟨⟨rfl, rfl, rfl, rfl⟩, ⟨rfl, rfl, rfl, rfl⟩, trivial⟩
    · exact ⟨rfl, rfl, trivial⟩
  | false =>
    refine hR Tryz.func170 ?_
    refine gF [.f] rfl (ret_of rfl ?_ ?_ ?_)
    · exact .inr rfl
    · exact ⟨⟨rfl, rfl, rfl, rfl⟩, ⟨rfl, rfl, rfl, rfl⟩, trivial⟩
    · exact ⟨rfl, rfl, trivial⟩
theorem kOf1 (l : List UInt8) (n : Int) (j : Nat) : HRet P (C ml) 170 [.agg (kLine j), .p 2 0 0, .p 3 0 0] (kCell l n) (.b (kHit l n j)) (kCell l n) :=
  hret_ren 21 3 (hret_ren 20 2 (kOf1x l n j))
/-- The kind of a letter and a size; 0: there is none. -/
def kFind (l : List UInt8) (n : Int) : Int := if kHit l n 1 then 1 else if kHit l n 2 then 2 else if kHit l n 3 then 3 else if kHit l n 4 then 4 else if kHit l n 5 then 5 else if kHit l n 6 then 6 else if kHit l n 7 then 7 else if kHit l n 8 then 8 else if kHit l n 9 then 9 else if kHit l n 10 then 10 else if kHit l n 11 then 11 else 0
theorem kFind_hit {l : List UInt8} {n : Int} {i : Nat} (h0 : 0 < i) (hi : i < 12) (h : kHit l n i = true) (hb : ∀ j, 0 < j → j < i → kHit l n j = false) : kFind l n = i := by
  unfold kFind
  have : i = 1 ∨ i = 2 ∨ i = 3 ∨ i = 4 ∨ i = 5 ∨ i = 6 ∨ i = 7 ∨ i = 8 ∨ i = 9 ∨ i = 10 ∨ i = 11 := by omega
  rcases this with rfl | rfl | rfl | rfl | rfl | rfl | rfl | rfl | rfl | rfl | rfl <;> simp [h, hb]
theorem kFind_none {l : List UInt8} {n : Int} (hb : ∀ j, 0 < j → j < 12 → kHit l n j = false) : kFind l n = 0 := by
  unfold kFind; simp [hb]
theorem kFirst (l : List UInt8) (n : Int) : HRet P (C ml) 169 [.fn (.func 170) [] [.p 2 0 0, .p 3 0 0]] (kCell l n) (.tup [.i .i64 (kFind l n), .b (kFind l n != 0)]) (kCell l n) := by
  have k0 := kTable (ml := ml)
  refine hR Tryz.func169 ?_
  refine gR [cc k0] rfl ?_
  refine g_loop (fun i : Nat => [(0, .fn (.func 170) [] [.p 2 0 0, .p 3 0 0]), (6, .sl 12 kRows), (7, .i .i64 12), (8, .i .i64 i)]) (fun _ => kCell l n) (fun i => i ≤ 12 ∧ ∀ j, 0 < j → j < i → kHit l n j = false) (fun i => 12 - i) 0 ⟨⟨⟨rfl, rfl, ⟨rfl, rfl, rfl, rfl⟩, ⟨rfl, rfl, rfl, rfl⟩, rfl⟩, rfl, rfl, rfl, trivial⟩, ⟨⟨rfl, rfl, rfl, rfl⟩, ⟨rfl, rfl, rfl, rfl⟩, trivial⟩, rfl, rfl, trivial⟩ ⟨by omega, fun j h1 h2 => by omega⟩ ?_
  rintro i ⟨i1, i2⟩
  by_cases hi : i < 12
  · have hr := kRows_at i hi
    have c1 : decide ((i : Int) < 12) = true := decide_eq_true (by omega)
    by_cases h0 : 0 < i
    · have c2 : decide ((i : Int) > 0) = true := decide_eq_true (by omega)
      have k1 := kOf1 (ml := ml) l n i
      cases hm : kHit l n i with
      | true =>
        rw [hm] at k1
        rw [kFind_hit h0 hi hm i2]
        refine gF [.t, ldv hr, .t, ch k1, .t] rfl (rd_ret (ret_of rfl ?_ ?_ ?_))
        · refine ⟨rfl, .inr (congrArg T.bl ?_), rfl⟩
          simp; omega
        · exact ⟨⟨rfl, rfl, rfl, rfl⟩, ⟨rfl, rfl, rfl, rfl⟩, trivial⟩
        · exact ⟨rfl, rfl, trivial⟩
      | false =>
        rw [hm] at k1
        refine gF [.t, ldv hr, .t, ch k1, .f] rfl (rd_next (i + 1) ⟨by omega, fun j h1 h2 => ?_⟩ (by omega) ⟨⟨rfl, rfl, ⟨rfl, rfl, rfl, rfl⟩, ⟨rfl, rfl, rfl, rfl⟩, rfl⟩, rfl, rfl, ?_, trivial⟩ ⟨⟨rfl, rfl, rfl, rfl⟩, ⟨rfl, rfl, rfl, rfl⟩, trivial⟩ ⟨rfl, rfl, trivial⟩)
        · by_cases e : j = i
          · rw [e]; exact hm
          · exact i2 j h1 (by omega)
        · show T.i _ _ = T.i _ _
          rw [w64 (by omega) (by omega)]; simp
    · have c2 : decide ((i : Int) > 0) = false := decide_eq_false (by omega)
      refine gF [.t, ldv hr, .f] rfl (rd_next (i + 1) ⟨by omega, fun j h1 h2 => by omega⟩ (by omega) ⟨⟨rfl, rfl, ⟨rfl, rfl, rfl, rfl⟩, ⟨rfl, rfl, rfl, rfl⟩, rfl⟩, rfl, rfl, ?_, trivial⟩ ⟨⟨rfl, rfl, rfl, rfl⟩, ⟨rfl, rfl, rfl, rfl⟩, trivial⟩ ⟨rfl, rfl, trivial⟩)
      show T.i _ _ = T.i _ _
      rw [w64 (by omega) (by omega)]; simp
  · have ei : i = 12 := by omega
    subst ei
    rw [kFind_none i2]
    have c1 : decide (((12 : Nat) : Int) < 12) = false := rfl
    refine gF [.f] rfl (rd_exit rfl ?_)
    refine gF [] rfl (ret_of rfl ?_ ?_ ?_)
    · exact ⟨rfl, .inr rfl, rfl⟩
    · exact ⟨⟨rfl, rfl, rfl, rfl⟩, ⟨rfl, rfl, rfl, rfl⟩, trivial⟩
    · exact ⟨rfl, rfl, trivial⟩
theorem kOfL (l : List UInt8) (n : Int) : Ret P (C ml) 102 [.s l, .i .i64 n] (.tup [.i .i64 (kFind l n), .b (kFind l n != 0)]) := by
  have k1 := kFirst (ml := ml) l n
  generalize kFind l n = x at *
  refine hR Tryz.func102 ?_
  refine gF [ch k1] rfl (ret_of rfl ?_ trivial trivial)
  exact ⟨rfl, .inl rfl, rfl⟩
end Go.Proofs.YtipomdmlkkifcaaGreatDoor.Vm
/- Contracts: load.Total, Pads, Make, Take; what they give, there and back. -/
set_option maxRecDepth 100000
namespace Go.Proofs.YtipomdmlkkifcaaGreatDoor.Vm
open Go Go.Proofs Go.RowKit
variable {ml : Int}
/-- How many bytes a payload has; how many of them are pads. -/
def totL (l : List UInt8) : Int := if l = [65] then 48 else if l = [84] then 32 else if l = [72] then 80 else if l = [69] then 80 else 0
def padsL (k : Int) : Int := if kSize k = 0 then 0 else totL (kLetter k) - kSize k - 2
theorem totL_zero (l : List UInt8) : totL l = 0 ↔ kMost l = 0 := by
  unfold totL kMost
  grind
theorem totL_16 (l : List UInt8) : totL l % 16 = 0 ∧ 0 ≤ totL l ∧ totL l ≤ 80 := by
  unfold totL
  split
  · omega
  · split
    · omega
    · split
      · omega
      · split <;> omega
theorem lTot (l : List UInt8) : Ret P (C ml) 53 [.s l] (.i .i64 (totL l)) := by
  have k1 := pMost (ml := ml) l
  by_cases h1 : l = [65]
  · rw [show kMost l = 32 by rw [h1]; rfl] at k1
    rw [show totL l = 48 by rw [h1]; rfl]
    refine hR Tryz.func53 ?_
    have c1 : ((32 : Int) == 0) = false := rfl
    refine gF [cc k1, .f] rfl (ret_of rfl ?_ trivial trivial)
    exact congrArg (T.i .i64) (by kernel_rfl)
  by_cases h2 : l = [84]
  · rw [show kMost l = 24 by rw [h2]; rfl] at k1
    rw [show totL l = 32 by rw [h2]; rfl]
    refine hR Tryz.func53 ?_
    have c1 : ((24 : Int) == 0) = false := rfl
    refine gF [cc k1, .f] rfl (ret_of rfl ?_ trivial trivial)
    exact congrArg (T.i .i64) (by kernel_rfl)
  by_cases h3 : l = [72]
  · rw [show kMost l = 64 by rw [h3]; rfl] at k1
    rw [show totL l = 80 by rw [h3]; rfl]
    refine hR Tryz.func53 ?_
    have c1 : ((64 : Int) == 0) = false := rfl
    refine gF [cc k1, .f] rfl (ret_of rfl ?_ trivial trivial)
    exact congrArg (T.i .i64) (by kernel_rfl)
  by_cases h4 : l = [69]
  · rw [show kMost l = 66 by rw [h4]; rfl] at k1
    rw [show totL l = 80 by rw [h4]; rfl]
    refine hR Tryz.func53 ?_
    have c1 : ((66 : Int) == 0) = false := rfl
    refine gF [cc k1, .f] rfl (ret_of rfl ?_ trivial trivial)
    exact congrArg (T.i .i64) (by kernel_rfl)
  · rw [show kMost l = 0 by unfold kMost; rw [if_neg h1, if_neg h2, if_neg h3, if_neg h4]] at k1
    rw [show totL l = 0 by unfold totL; rw [if_neg h1, if_neg h2, if_neg h3, if_neg h4]]
    refine hR Tryz.func53 ?_
    have c1 : ((0 : Int) == 0) = true := rfl
    refine gF [cc k1, .t] rfl (ret_of rfl ?_ trivial trivial)
    exact rfl
theorem kSize_le (k : Int) : 0 ≤ kSize k ∧ kSize k ≤ 66 := by
  unfold kSize
  repeat' (first | omega | split)
theorem lPads (k : Int) : Ret P (C ml) 40 [.i .i64 k] (.i .i64 (padsL k)) := by
  have k1 := kSizeP (ml := ml) k
  have k2 := kLetterP (ml := ml) k
  have k3 := lTot (ml := ml) (kLetter k)
  have h1 := kSize_le k
  have h2 := totL_16 (kLetter k)
  unfold padsL
  by_cases h : kSize k = 0
  · rw [if_pos h]
    rw [h] at k1
    have c1 : ((0 : Int) == 0) = true := rfl
    refine hR Tryz.func40 ?_
    refine gF [cc k1, .t] rfl (ret_of rfl ?_ trivial trivial)
    exact rfl
  · rw [if_neg h]
    have c1 : (kSize k == 0) = false := by simpa using h
    have e : IntKind.i64.wrap (IntKind.i64.wrap (totL (kLetter k) - kSize k) - 2) = totL (kLetter k) - kSize k - 2 := by rw [w64 (x := totL (kLetter k) - kSize k) (by omega) (by omega), w64 (by omega) (by omega)]
    refine hR Tryz.func40 ?_
    refine gF [cc k1, .f, cc k2, cc k3] rfl (ret_of rfl ?_ trivial trivial)
    exact congrArg (T.i .i64) e
/-- A payload. -/
def payL (key pads : List UInt8) : List UInt8 := putL (8 * key.length) 2 ++ key ++ pads
theorem lMake (k : Int) (key pads : List UInt8) (hk : kChk k key = 0) (hp : pads.length = padsL k) : Ret P (C ml) 41 [.i .i64 k, .s key, .s pads] (.tup [.s (payL key pads), .i .i64 0]) := by
  have hs := kSize_le k
  have ht := totL_16 (kLetter k)
  have hkl : kSize k = key.length := by
    unfold kChk at hk
    split at hk
    · cases hk
    · split at hk
      · cases hk
      · rename_i h; omega
  have hpl : pads.length ≤ 80 := by unfold padsL at hp; split at hp <;> omega
  have k1 := kCheckP (ml := ml) k key (by omega)
  rw [hk] at k1
  have k2 := lPads (ml := ml) k
  rw [← hp] at k2
  have k3 := pPut (ml := ml) (8 * key.length) 2 (by omega)
  rw [if_neg (by omega), show (2 : Int).toNat = 2 from rfl] at k3
  have w1 : IntKind.u64.wrap (IntKind.i64.wrap ((key.length : Int) * 8)) = ((8 * key.length : Nat) : Int) := by rw [w64 (by omega) (by omega), wrap_u64]; omega
  rw [← w1] at k3
  have hpu : (putL (8 * key.length) 2).length = 2 := putL_length _ _
  have k4 := hret_ren 12 27 (oJoin3 (ml := ml) (putL (8 * key.length) 2) key pads (by simp [hpu]; omega))
  have k5 : HRet P (C ml) 84 [.ref 27 0 0 3] [(27, 0, .row true (.row 1 9) [.s (putL (8 * key.length) 2), .s key, .s pads])] (.s (payL key pads)) [(27, 0, .dead)] := k4
  clear k4 w1 hpu
  have c1 : ((pads.length : Int) != (pads.length : Int)) = false := by simp
  generalize payL key pads = x at *
  generalize putL (8 * key.length) 2 = y at *
  refine hR Tryz.func41 ?_
  refine gF [cc k1, .f, cc k2, .f, cc k3, ch k5] rfl (ret_of rfl ?_ trivial trivial)
  exact ⟨rfl, rfl, rfl⟩
/-- The bits of a payload's key. -/
def bitsL (p : List UInt8) : Nat := getN (p.take 2)
/-- A payload's parts; are they there? -/
def partL (l p : List UInt8) : List UInt8 × List UInt8 × Bool :=
  if totL l = 0 ∨ (p.length : Int) ≠ totL l then ([], [], false)
  else if bitsL p % 8 ≠ 0 ∨ bitsL p / 8 > p.length - 2 then ([], [], false)
  else ((p.drop 2).take (bitsL p / 8), (p.drop 2).drop (bitsL p / 8), true)
theorem lParted (l p : List UInt8) : Ret P (C ml) 101 [.s l, .s p] (.tup [.s (partL l p).1, .s (partL l p).2.1, .b (partL l p).2.2]) := by
  have k1 := lTot (ml := ml) l
  have ht := totL_16 l
  unfold partL
  by_cases h1 : totL l = 0
  · rw [h1] at k1
    rw [if_pos (.inl h1)]
    have c1 : ((0 : Int) == 0) = true := rfl
    refine hR Tryz.func101 ?_
    refine gF [cc k1, .t] rfl (ret_of rfl ?_ trivial trivial)
    exact ⟨rfl, rfl, .inr rfl, rfl⟩
  have c1 : (totL l == 0) = false := by simpa using h1
  by_cases h2 : (p.length : Int) = totL l
  · rw [if_neg (by omega)]
    have c2 : ((p.length : Int) != totL l) = false := by simpa using h2
    have hl2 : (p.take 2).length = 2 := by rw [List.length_take]; omega
    have k2 := pGet (ml := ml) (p.take 2) (by omega)
    rw [if_neg (by omega), decide_eq_true (show ¬ ((p.take 2).length = 0 ∨ (p.take 2).length > 8) by omega)] at k2
    change Ret P (C ml) _ _ (.tup [.i .u64 (bitsL p : Nat), _]) at k2
    have hb : bitsL p < 65536 := by have := getN_lt (p.take 2); rw [hl2] at this; exact this
    have hd : (p.drop 2).length = p.length - 2 := List.length_drop
    have e1 : bitsI .and .u64 (bitsL p : Int) 7 = ((bitsL p % 8 : Nat) : Int) := by
      have := bitsI_and .u64 (bitsL p) 7 (by simp; omega) (by decide)
      rw [show ((7 : Nat) : Int) = 7 from rfl] at this
      rw [this, show bitsL p &&& 7 = bitsL p % 8 from Nat.and_two_pow_sub_one_eq_mod (bitsL p) 3, wrap_u64]; omega
    have e2 : IntKind.i64.wrap (((bitsL p : Nat) : Int).fdiv (2 ^ (min (3 : Int).toNat IntKind.u64.bits))) = ((bitsL p / 8 : Nat) : Int) := by
      rw [show ((2 : Int) ^ (min (3 : Int).toNat IntKind.u64.bits)) = ((8 : Nat) : Int) from rfl, Int.fdiv_eq_ediv_of_nonneg _ (by omega), ← Int.natCast_ediv, w64 (by omega) (by omega)]
    by_cases h3 : bitsL p % 8 = 0
    · have c3 : (bitsI .and .u64 (bitsL p : Int) 7 != 0) = false := by rw [e1, h3]; rfl
      by_cases h4 : bitsL p / 8 > p.length - 2
      · have c4 : decide (IntKind.i64.wrap (((bitsL p : Nat) : Int).fdiv (2 ^ (min (3 : Int).toNat IntKind.u64.bits))) > ((p.drop 2).length : Int)) = true := decide_eq_true (by rw [e2, hd]; omega)
        rw [if_pos (.inr h4)]
        clear e1 e2
        refine hR Tryz.func101 ?_
        refine gF [cc k1, .f, .f, cc k2, .f, .t] rfl (ret_of rfl ?_ trivial trivial)
        exact ⟨rfl, rfl, .inr rfl, rfl⟩
      · have c4 : decide (IntKind.i64.wrap (((bitsL p : Nat) : Int).fdiv (2 ^ (min (3 : Int).toNat IntKind.u64.bits))) > ((p.drop 2).length : Int)) = false := decide_eq_false (by rw [e2, hd]; omega)
        rw [if_neg (by omega)]
        have q1 : 0 ≤ IntKind.i64.wrap (((bitsL p : Nat) : Int).fdiv (2 ^ (min (3 : Int).toNat IntKind.u64.bits))) := by rw [e2]; omega
        have q2 : IntKind.i64.wrap (((bitsL p : Nat) : Int).fdiv (2 ^ (min (3 : Int).toNat IntKind.u64.bits))) ≤ ((p.drop 2).length : Int) := by rw [e2, hd]; omega
        have e3 : (IntKind.i64.wrap (((bitsL p : Nat) : Int).fdiv (2 ^ (min (3 : Int).toNat IntKind.u64.bits)))).toNat = bitsL p / 8 := by rw [e2]; rfl
        clear e1 e2
        refine hR Tryz.func101 ?_
        refine gF [cc k1, .f, .f, cc k2, .f, .f] rfl (ret_of rfl ?_ trivial trivial)
        refine ⟨?_, ?_, .inr rfl, rfl⟩
        · exact congrArg T.s (by rw [e3]; rfl)
        · exact congrArg T.s (by rw [e3]; rfl)
    · have c3 : (bitsI .and .u64 (bitsL p : Int) 7 != 0) = true := by rw [e1]; simp; omega
      rw [if_pos (.inl h3)]
      clear e1 e2
      refine hR Tryz.func101 ?_
      refine gF [cc k1, .f, .f, cc k2, .t] rfl (ret_of rfl ?_ trivial trivial)
      exact ⟨rfl, rfl, .inr rfl, rfl⟩
  · rw [if_pos (.inr h2)]
    have c2 : ((p.length : Int) != totL l) = true := by simpa using h2
    refine hR Tryz.func101 ?_
    refine gF [cc k1, .f, .t] rfl (ret_of rfl ?_ trivial trivial)
    exact ⟨rfl, rfl, .inr rfl, rfl⟩
/-- What Take gives: the kind, the key, the pads, the error. -/
def takeL (l p : List UInt8) : Int × List UInt8 × List UInt8 × Int :=
  if (partL l p).2.2 = false then (0, [], [], 5)
  else if kFind l (partL l p).1.length = 0 then (0, [], [], 8)
  else if kChk (kFind l (partL l p).1.length) (partL l p).1 ≠ 0 then (0, [], [], kChk (kFind l (partL l p).1.length) (partL l p).1)
  else (kFind l (partL l p).1.length, (partL l p).1, (partL l p).2.1, 0)
theorem partL_le (l p : List UInt8) : (partL l p).1.length ≤ 80 := by
  have ht := totL_16 l
  unfold partL
  split
  · simp
  · split
    · simp
    · simp only [List.length_take, List.length_drop]; omega
theorem lTake (l p : List UInt8) : Ret P (C ml) 49 [.s l, .s p] (.tup [.i .i64 (takeL l p).1, .s (takeL l p).2.1, .s (takeL l p).2.2.1, .i .i64 (takeL l p).2.2.2]) := by
  have k1 := lParted (ml := ml) l p
  have hl := partL_le l p
  unfold takeL
  obtain ⟨⟨key, pads, ok⟩, hx⟩ : ∃ x, partL l p = x := ⟨_, rfl⟩
  rw [hx] at k1 hl ⊢
  simp only at k1 hl ⊢
  clear hx
  cases ok with
  | false =>
    rw [if_pos rfl]
    refine hR Tryz.func49 ?_
    refine gF [cc k1, .t] rfl (ret_of rfl ?_ trivial trivial)
    exact ⟨rfl, rfl, rfl, rfl, rfl⟩
  | true =>
    rw [if_neg (by simp)]
    have k2 := kOfL (ml := ml) l key.length
    have k3 := kCheckP (ml := ml) (kFind l key.length) key (by omega)
    generalize kFind l key.length = k at *
    by_cases h1 : k = 0
    · rw [if_pos h1]
      have c1 : (k != 0) = false := by simpa using h1
      rw [c1] at k2
      refine hR Tryz.func49 ?_
      refine gF [cc k1, .f, cc k2, .t] rfl (ret_of rfl ?_ trivial trivial)
      exact ⟨rfl, rfl, rfl, rfl, rfl⟩
    · rw [if_neg h1]
      have c1 : (k != 0) = true := by simpa using h1
      rw [c1] at k2
      generalize kChk k key = e at *
      by_cases h2 : e = 0
      · subst h2
        rw [if_neg (by simp)]
        have c2 : ((0 : Int) != 0) = false := rfl
        refine hR Tryz.func49 ?_
        refine gF [cc k1, .f, cc k2, .f, cc k3, .f] rfl (ret_of rfl ?_ trivial trivial)
        exact ⟨rfl, rfl, rfl, rfl, rfl⟩
      · rw [if_pos h2]
        have c2 : (e != 0) = true := by simpa using h2
        refine hR Tryz.func49 ?_
        refine gF [cc k1, .f, cc k2, .f, cc k3, .t] rfl (ret_of rfl ?_ trivial trivial)
        exact ⟨rfl, rfl, rfl, rfl, rfl⟩
end Go.Proofs.YtipomdmlkkifcaaGreatDoor.Vm
/- Contracts: record.Check; block.top, Export, Import, Size. -/
set_option maxRecDepth 100000
namespace Go.Proofs.YtipomdmlkkifcaaGreatDoor.Vm
open Go Go.Proofs Go.RowKit
variable {ml : Int}
structure Rc where
  k : Int
  y : List UInt8
  a : List Att
  h : Hd
def Rc.cells (r : Rc) : List T := [.i .i64 r.k, .s r.y, .sl r.a.length (attCells r.a), .s r.h.u, .s r.h.m, .s r.h.v, .s r.h.e]
def Rc.none : Rc := ⟨0, [], [], ⟨[], [], [], []⟩⟩
abbrev noneRc : List T := [.i .i64 0, .s [], .nsl, .s [], .s [], .s [], .s []]
def recChk (r : Rc) : Int := if kChk r.k r.y = 0 then atErr r.a else kChk r.k r.y
theorem bRCheck (r : Rc) (hy : r.y.length ≤ 1000000) (ha : r.a.length ≤ 100000) : Ret P (C ml) 79 [.agg r.cells] (.i .i64 (recChk r)) := by
  have k1 := kCheckP (ml := ml) r.k r.y hy
  have k2 := aCheck (ml := ml) r.a ha
  unfold recChk Rc.cells
  generalize kChk r.k r.y = e at *
  by_cases h : e = 0
  · subst h
    rw [if_pos rfl]
    have c1 : ((0 : Int) != 0) = false := rfl
    refine hR Tryz.func79 ?_
    refine gF [cc k1, .f, cc k2] rfl (ret_of rfl ?_ trivial trivial)
    exact rfl
  · rw [if_neg h]
    have c1 : (e != 0) = true := by simpa using h
    refine hR Tryz.func79 ?_
    refine gF [cc k1, .t] rfl (ret_of rfl ?_ trivial trivial)
    exact rfl
/-- A block's top. -/
def topB (r : Rc) : List UInt8 × Int := if recChk r = 0 then (if tChk r.h (kLetter r.k) = true then topL (kLetter r.k) r.h r.a (totL (kLetter r.k)) else ([], 12)) else ([], recChk r)
theorem kLetter_len (k : Int) : (kLetter k).length ≤ 1 := by unfold kLetter; grind
theorem bTop (r : Rc) (hy : r.y.length ≤ 1000000) (ha : r.a.length ≤ 100000) (hh : hdFine r.h = true) : Ret P (C ml) 39 [.agg r.cells] (.tup [.s (topB r).1, .i .i64 (topB r).2]) := by
  have k1 := kLetterP (ml := ml) r.k
  have k2 := bRCheck (ml := ml) r hy ha
  have k3 := pCheck (ml := ml) r.h (kLetter r.k)
  have k4 := lTot (ml := ml) (kLetter r.k)
  have k5 := pTop (ml := ml) (kLetter r.k) r.h r.a (totL (kLetter r.k)) (by have := kLetter_len r.k; omega) hh ha
  unfold topB
  unfold Hd.cells at k3 k5
  unfold Rc.cells at k2 ⊢
  generalize topL (kLetter r.k) r.h r.a (totL (kLetter r.k)) = t at *
  generalize totL (kLetter r.k) = n at *
  generalize recChk r = e at *
  by_cases h : e = 0
  · subst h
    rw [if_pos rfl]
    have c1 : ((0 : Int) != 0) = false := rfl
    cases ht : tChk r.h (kLetter r.k) with
    | true =>
      rw [if_pos rfl]
      rw [ht, if_pos rfl] at k3
      refine hR Tryz.func39 ?_
      refine gF [cc k1, cc k2, .f, cc k3, .f, cc k4, cc k5] rfl (ret_of rfl ?_ trivial trivial)
      exact ⟨rfl, rfl, rfl⟩
    | false =>
      rw [if_neg (by simp)]
      rw [ht, if_neg (by simp)] at k3
      have c2 : ((12 : Int) != 0) = true := rfl
      refine hR Tryz.func39 ?_
      refine gF [cc k1, cc k2, .f, cc k3, .t] rfl (ret_of rfl ?_ trivial trivial)
      exact ⟨rfl, rfl, rfl⟩
  · rw [if_neg h]
    have c1 : (e != 0) = true := by simpa using h
    refine hR Tryz.func39 ?_
    refine gF [cc k1, cc k2, .t] rfl (ret_of rfl ?_ trivial trivial)
    exact ⟨rfl, rfl, rfl⟩
/-- A key block; the error. -/
def expB (kek : List UInt8) (r : Rc) (pads : List UInt8) : List UInt8 × Int :=
  if nRounds kek.length = 0 then ([], 2)
  else if ((topB r).2 = 0 ∨ (topB r).2 = 4) ∧ (pads.length : Int) ≠ padsL r.k then ([], 13)
  else if (topB r).2 ≠ 0 then ([], (topB r).2)
  else ((topB r).1 ++ hexs (sealC kek (topB r).1 (payL r.y pads)) ++ hexs (tagB kek (topB r).1 (payL r.y pads)), 0)
theorem topB_ok {r : Rc} (h : (topB r).2 = 0) : kChk r.k r.y = 0 ∧ atErr r.a = 0 ∧ tChk r.h (kLetter r.k) = true ∧ topB r = topL (kLetter r.k) r.h r.a (totL (kLetter r.k)) := by
  unfold topB at h ⊢
  by_cases h1 : recChk r = 0
  · rw [if_pos h1] at h ⊢
    by_cases h2 : tChk r.h (kLetter r.k) = true
    · rw [if_pos h2]
      unfold recChk at h1
      by_cases h3 : kChk r.k r.y = 0
      · rw [if_pos h3] at h1; exact ⟨h3, h1, h2, rfl⟩
      · rw [if_neg h3] at h1; exact absurd h1 h3
    · rw [if_neg h2] at h; simp at h
  · rw [if_neg h1] at h; exact absurd h h1
theorem kChk_size {k : Int} {key : List UInt8} (h : kChk k key = 0) : kSize k = key.length ∧ kSize k ≠ 0 := by
  unfold kChk at h
  split at h
  · cases h
  · split at h
    · cases h
    · rename_i h1 h2; exact ⟨by omega, h1⟩
theorem topL_len {l : List UInt8} {h : Hd} {a : List Att} {n : Int} {s : List UInt8} (ht : topL l h a n = (s, 0)) : s.length ≤ 9999 := by
  obtain ⟨t1, t2, t3, t4, t5, t6, t7, t8, t9⟩ := topL_ok ht
  have hx := hEnc_ok (x := ⟨16 + ((packL (optsA a).1).1.length : Int) + 2 * n + 32, l, (packL (optsA a).1).2.1, h⟩) (by simp only; omega) (by simp only; omega) (by simp only; omega) (by have := (packL_le (optsA a).1).2; simp only; omega) t1 t5
  obtain ⟨q1, _⟩ := enc_dec _ [] hx
  rw [t9, List.length_append, q1]; omega
theorem pay_len {r : Rc} {pads : List UInt8} (h : (topB r).2 = 0) (hp : (pads.length : Int) = padsL r.k) : ∃ n : Nat, (payL r.y pads).length = 16 * n ∧ 1 ≤ n ∧ n ≤ 5 ∧ ((payL r.y pads).length : Int) = totL (kLetter r.k) := by
  obtain ⟨h1, h2, h3, h4⟩ := topB_ok h
  obtain ⟨h5, h6⟩ := kChk_size h1
  rw [h4] at h
  have ht : topL (kLetter r.k) r.h r.a (totL (kLetter r.k)) = ((topL (kLetter r.k) r.h r.a (totL (kLetter r.k))).1, 0) := by rw [← h]
  have hk := (topL_ok ht).2.1
  have hm := totL_16 (kLetter r.k)
  unfold padsL at hp
  rw [if_neg h6] at hp
  have hl : (payL r.y pads).length = 2 + r.y.length + pads.length := by unfold payL; simp [putL_length]; omega
  exact ⟨(payL r.y pads).length / 16, by omega, by omega, by omega, by omega⟩
theorem bExport (kek : List UInt8) (r : Rc) (pads : List UInt8) (hk : kek.length ≤ 1000000) (hy : r.y.length ≤ 1000000) (ha : r.a.length ≤ 100000) (hh : hdFine r.h = true) (hp : pads.length ≤ 1000000) :
    Ret P (C ml) 13 [.s kek, .agg r.cells, .s pads] (.tup [.s (expB kek r pads).1, .i .i64 (expB kek r pads).2]) := by
  have k1 := pRounds (ml := ml) kek.length (by omega)
  unfold expB
  by_cases h0 : nRounds kek.length = 0
  · rw [h0] at k1
    rw [if_pos h0]
    have k1 : Ret P (C ml) 38 [.i .i64 kek.length] (.i .i64 0) := k1
    have c1 : ((0 : Int) == 0) = true := rfl
    unfold Rc.cells
    refine hR Tryz.func13 ?_
    refine gF [cc k1, .t] rfl (ret_of rfl ?_ trivial trivial)
    exact ⟨rfl, rfl, rfl⟩
  rw [if_neg h0]
  have c1 : ((nRounds kek.length : Int) == 0) = false := by simp; omega
  have k2 := bTop (ml := ml) r hy ha hh
  have k3 := lPads (ml := ml) r.k
  by_cases h1 : (topB r).2 = 0
  · rw [h1] at k2
    have c2 : ((0 : Int) == 0) = true := rfl
    by_cases h2 : (pads.length : Int) = padsL r.k
    · rw [if_neg (fun h => h.2 h2), if_neg (by simp [h1])]
      obtain ⟨n, n1, n2, n3, n4⟩ := pay_len h1 h2
      obtain ⟨t1, t2, t3, t4⟩ := topB_ok h1
      have ht : topL (kLetter r.k) r.h r.a (totL (kLetter r.k)) = ((topB r).1, 0) := by rw [← t4, ← h1]
      have htl := topL_len ht
      have k4 := lMake (ml := ml) r.k r.y pads t1 h2
      have k5 := sSeal (ml := ml) kek (topB r).1 (payL r.y pads) n h0 n1 n2 (by omega) (by omega)
      have k6 := pJoin (ml := ml) (topB r).1 (sealC kek (topB r).1 (payL r.y pads)) (tagB kek (topB r).1 (payL r.y pads)) (by omega) (by rw [sealC_length h0 n1]; omega) (by rw [tagB_length h0]; omega)
      have c3 : ((pads.length : Int) != padsL r.k) = false := by simpa using h2
      have c4 : ((0 : Int) != 0) = false := rfl
      clear ht t4 t3 t2 t1 n4 n1 htl h1
      unfold Rc.cells at k2 ⊢
      generalize (topB r).1 ++ hexs (sealC kek (topB r).1 (payL r.y pads)) ++ hexs (tagB kek (topB r).1 (payL r.y pads)) = o at *
      generalize sealC kek (topB r).1 (payL r.y pads) = c at *
      generalize tagB kek (topB r).1 (payL r.y pads) = g at *
      generalize payL r.y pads = x at *
      generalize (topB r).1 = t at *
      generalize nRounds kek.length = rd at *
      generalize padsL r.k = pn at *
      refine hR Tryz.func13 ?_
      refine gF [cc k1, .f, cc k2, .t, cc k3, .f, .f, cc k4, cc k5, cc k6] rfl (ret_of rfl ?_ trivial trivial)
      exact ⟨rfl, rfl, rfl⟩
    · rw [if_pos ⟨.inl h1, h2⟩]
      have c3 : ((pads.length : Int) != padsL r.k) = true := by simpa using h2
      have c4 : ((13 : Int) != 0) = true := rfl
      unfold Rc.cells at k2 ⊢
      generalize (topB r).1 = t at *
      generalize nRounds kek.length = rd at *
      generalize padsL r.k = pn at *
      refine hR Tryz.func13 ?_
      refine gF [cc k1, .f, cc k2, .t, cc k3, .t, .t] rfl (ret_of rfl ?_ trivial trivial)
      exact ⟨rfl, rfl, rfl⟩
  · by_cases h4 : (topB r).2 = 4
    · rw [h4] at k2
      have c2 : ((4 : Int) == 0) = false := rfl
      have c2' : ((4 : Int) == 4) = true := rfl
      by_cases h2 : (pads.length : Int) = padsL r.k
      · rw [if_neg (fun h => h.2 h2), if_pos h1, h4]
        have c3 : ((pads.length : Int) != padsL r.k) = false := by simpa using h2
        have c4 : ((4 : Int) != 0) = true := rfl
        unfold Rc.cells at k2 ⊢
        generalize (topB r).1 = t at *
        generalize nRounds kek.length = rd at *
        generalize padsL r.k = pn at *
        refine hR Tryz.func13 ?_
        refine gF [cc k1, .f, cc k2, .f, .t, cc k3, .f, .t] rfl (ret_of rfl ?_ trivial trivial)
        exact ⟨rfl, rfl, rfl⟩
      · rw [if_pos ⟨.inr h4, h2⟩]
        have c3 : ((pads.length : Int) != padsL r.k) = true := by simpa using h2
        have c4 : ((13 : Int) != 0) = true := rfl
        unfold Rc.cells at k2 ⊢
        generalize (topB r).1 = t at *
        generalize nRounds kek.length = rd at *
        generalize padsL r.k = pn at *
        refine hR Tryz.func13 ?_
        refine gF [cc k1, .f, cc k2, .f, .t, cc k3, .t, .t] rfl (ret_of rfl ?_ trivial trivial)
        exact ⟨rfl, rfl, rfl⟩
    · rw [if_neg (fun h => by rcases h.1 with h | h; exact h1 h; exact h4 h), if_pos h1]
      have c2 : ((topB r).2 == 0) = false := by simpa using h1
      have c3 : ((topB r).2 == 4) = false := by simpa using h4
      have c4 : ((topB r).2 != 0) = true := by simpa using h1
      unfold Rc.cells at k2 ⊢
      generalize (topB r).1 = t at *
      generalize (topB r).2 = e at *
      generalize nRounds kek.length = rd at *
      refine hR Tryz.func13 ?_
      refine gF [cc k1, .f, cc k2, .f, .f, .t] rfl (ret_of rfl ?_ trivial trivial)
      exact ⟨rfl, rfl, rfl⟩
/-- A key block's record, its pads, the error. -/
def impB (kek b : List UInt8) : Rc × List UInt8 × Int :=
  if nRounds kek.length = 0 then (Rc.none, [], 2)
  else if (cutF b).2 ≠ 0 then (Rc.none, [], (cutF b).2)
  else if (openR kek (cutF b).1.t (cutF b).1.c (cutF b).1.g).2 ≠ 0 then (Rc.none, [], (openR kek (cutF b).1.t (cutF b).1.c (cutF b).1.g).2)
  else if (takeL (cutF b).1.l (openR kek (cutF b).1.t (cutF b).1.c (cutF b).1.g).1).2.2.2 ≠ 0 then (Rc.none, [], (takeL (cutF b).1.l (openR kek (cutF b).1.t (cutF b).1.c (cutF b).1.g).1).2.2.2)
  else (⟨(takeL (cutF b).1.l (openR kek (cutF b).1.t (cutF b).1.c (cutF b).1.g).1).1, (takeL (cutF b).1.l (openR kek (cutF b).1.t (cutF b).1.c (cutF b).1.g).1).2.1, (cutF b).1.a, (cutF b).1.h⟩, (takeL (cutF b).1.l (openR kek (cutF b).1.t (cutF b).1.c (cutF b).1.g).1).2.2.1, 0)
/-- The cells of a record, or of none. -/
def rcC (x : Rc × List UInt8 × Int) : List T := if x.2.2 = 0 then x.1.cells else noneRc
theorem cut_lens {b : List UInt8} {x : Fr} (h : cutF b = (x, 0)) : ∃ n : Nat, x.c.length = 16 * n ∧ 1 ≤ n ∧ n ≤ 1000 ∧ x.g.length = 16 ∧ x.t.length ≤ 9999 := by
  have hb := cut_back h
  have h2 := hb.2.2.2.2.2
  unfold cutF at h
  split at h
  · simp at h
  · split at h
    · simp at h
    · split at h
      · rename_i hc; simp only [Prod.mk.injEq] at h; exact absurd h.2 hc
      · split at h
        · simp at h
        · split at h
          · rename_i hc; simp only [Prod.mk.injEq] at h; exact absurd h.2 hc
          · split at h
            · rename_i hc; simp only [Prod.mk.injEq] at h; exact absurd h.2 hc
            · split at h
              · simp at h
              · rename_i c g hh
                simp only [Prod.mk.injEq, and_true] at h
                subst h
                obtain ⟨e1, e2, e3, e4⟩ := hexTail_ok hh
                simp only at h2 ⊢
                exact ⟨c.length / 16, by omega, by omega, by omega, e4, h2.1⟩
theorem bImport (kek b : List UInt8) (hk : kek.length ≤ 1000000) (hb : b.length ≤ 100000) : Ret P (C ml) 15 [.s kek, .s b] (.tup [.agg (rcC (impB kek b)), .s (impB kek b).2.1, .i .i64 (impB kek b).2.2]) := by
  have k1 := pRounds (ml := ml) kek.length (by omega)
  have k2 := pCutF0 (ml := ml) b hb
  unfold impB
  by_cases h0 : nRounds kek.length = 0
  · rw [h0] at k1
    rw [if_pos h0]
    have k1 : Ret P (C ml) 38 [.i .i64 kek.length] (.i .i64 0) := k1
    have c1 : ((0 : Int) == 0) = true := rfl
    refine hR Tryz.func15 ?_
    refine g_run tab_ok mixed 3000 [] rfl trivial ?_
    refine g_scope 1 ?_
    refine gF [cc k1, .t] rfl ⟨_, rfl, ?_⟩
    refine gF [] rfl (sp_ret (ret_of rfl ?_ trivial trivial))
    exact ⟨⟨rfl, rfl⟩, rfl, rfl, rfl⟩
  rw [if_neg h0]
  have c1 : ((nRounds kek.length : Int) == 0) = false := by simp; omega
  by_cases h1 : (cutF b).2 = 0
  · rw [if_neg (by simp [h1])]
    have hx : cutF b = ((cutF b).1, 0) := by rw [← h1]
    obtain ⟨n, n1, n2, n3, n4, n5⟩ := cut_lens hx
    rw [hx, frC_ok] at k2
    have k3 := oOpen (ml := ml) kek (cutF b).1.t (cutF b).1.c (cutF b).1.g n h0 n1 n2 n3 n4 (by omega)
    generalize openR kek (cutF b).1.t (cutF b).1.c (cutF b).1.g = op at *
    have k4 := lTake (ml := ml) (cutF b).1.l op.1
    generalize takeL (cutF b).1.l op.1 = tk at *
    clear hx n1 n4 n5 h1
    generalize (cutF b).1 = f at *
    obtain ⟨l, ⟨u, m, v, e⟩, a, t, c, g⟩ := f
    obtain ⟨x, e1⟩ := op
    obtain ⟨k, key, pads, e2⟩ := tk
    simp only [Fr.cells] at k2 k3 k4 ⊢
    generalize nRounds kek.length = rd at *
    have c2 : ((0 : Int) != 0) = false := rfl
    by_cases h2 : e1 = 0
    · subst h2
      rw [if_neg (by simp)]
      by_cases h3 : e2 = 0
      · subst h3
        rw [if_neg (by simp)]
        have c3 : ((0 : Int) == 0) = true := rfl
        show Ret P (C ml) _ _ (.tup [.agg [.i .i64 k, .s key, .sl a.length (attCells a), .s u, .s m, .s v, .s e], _, _])
        refine hR Tryz.func15 ?_
        refine g_run tab_ok mixed 3000 [] rfl trivial ?_
        refine g_scope 1 ?_
        refine gF [cc k1, .f, cc k2, .f, cc k3, .f, cc k4, .t] rfl (sp_ret (ret_of rfl ?_ trivial trivial))
        exact ⟨⟨rfl, rfl⟩, rfl, rfl, rfl⟩
      · rw [if_pos h3]
        have c3 : (e2 == 0) = false := by simpa using h3
        rw [show rcC (Rc.none, [], e2) = noneRc from if_neg h3]
        refine hR Tryz.func15 ?_
        refine g_run tab_ok mixed 3000 [] rfl trivial ?_
        refine g_scope 1 ?_
        refine gF [cc k1, .f, cc k2, .f, cc k3, .f, cc k4, .f] rfl (sp_ret (ret_of rfl ?_ trivial trivial))
        exact ⟨⟨rfl, rfl⟩, rfl, rfl, rfl⟩
    · rw [if_pos h2]
      have c3 : (e1 != 0) = true := by simpa using h2
      rw [show rcC (Rc.none, [], e1) = noneRc from if_neg h2]
      refine hR Tryz.func15 ?_
      refine g_run tab_ok mixed 3000 [] rfl trivial ?_
      refine g_scope 1 ?_
      refine gF [cc k1, .f, cc k2, .f, cc k3, .t] rfl ⟨_, rfl, ?_⟩
      refine gF [] rfl (sp_ret (ret_of rfl ?_ trivial trivial))
      exact ⟨⟨rfl, rfl⟩, rfl, rfl, rfl⟩
  · rw [if_pos h1]
    rw [show frC (cutF b) = noneCells from if_neg h1] at k2
    rw [show rcC (Rc.none, [], (cutF b).2) = noneRc from if_neg h1]
    have c3 : ((cutF b).2 != 0) = true := by simpa using h1
    generalize (cutF b).2 = e at *
    generalize nRounds kek.length = rd at *
    refine hR Tryz.func15 ?_
    refine g_run tab_ok mixed 3000 [] rfl trivial ?_
    refine g_scope 1 ?_
    refine gF [cc k1, .f, cc k2, .t] rfl ⟨_, rfl, ?_⟩
    refine gF [] rfl (sp_ret (ret_of rfl ?_ trivial trivial))
    exact ⟨⟨rfl, rfl⟩, rfl, rfl, rfl⟩
/-- How many signs a key block has. -/
def szB39 (r : Rc) : Int := if (topB r).2 = 0 then (topB r).1.length + 2 * totL (kLetter r.k) + 32 else 0
theorem bSize (r : Rc) (hy : r.y.length ≤ 1000000) (ha : r.a.length ≤ 100000) (hh : hdFine r.h = true) : Ret P (C ml) 18 [.agg r.cells] (.i .i64 (szB39 r)) := by
  have k2 := bTop (ml := ml) r hy ha hh
  have k3 := kLetterP (ml := ml) r.k
  have k4 := lTot (ml := ml) (kLetter r.k)
  have hm := totL_16 (kLetter r.k)
  unfold szB39
  by_cases h1 : (topB r).2 = 0
  · rw [if_pos h1]
    rw [h1] at k2
    obtain ⟨t1, t2, t3, t4⟩ := topB_ok h1
    have ht : topL (kLetter r.k) r.h r.a (totL (kLetter r.k)) = ((topB r).1, 0) := by rw [← t4, ← h1]
    have htl := topL_len ht
    have k5 := pJoin (ml := ml) (topB r).1 [] [] (by omega) (by simp) (by simp)
    rw [show (topB r).1 ++ hexs [] ++ hexs [] = (topB r).1 by simp [hexs]] at k5
    have c4 : ((0 : Int) != 0) = false := rfl
    clear ht t4 t3 t2 t1 h1
    unfold Rc.cells at k2 ⊢
    generalize (topB r).1 = t at *
    generalize totL (kLetter r.k) = n at *
    have e : IntKind.i64.wrap (IntKind.i64.wrap ((t.length : Int) + IntKind.i64.wrap (2 * n)) + 32) = (t.length : Int) + 2 * n + 32 := by rw [w64 (x := 2 * n) (by omega) (by omega), w64 (x := (t.length : Int) + 2 * n) (by omega) (by omega), w64 (by omega) (by omega)]
    refine hR Tryz.func18 ?_
    refine gF [cc k2, .f, cc k3, cc k4, cc k5] rfl (ret_of rfl ?_ trivial trivial)
    exact congrArg (T.i .i64) e
  · rw [if_neg h1]
    have c4 : ((topB r).2 != 0) = true := by simpa using h1
    unfold Rc.cells at k2 ⊢
    generalize (topB r).1 = t at *
    generalize (topB r).2 = e at *
    refine hR Tryz.func18 ?_
    refine gF [cc k2, .t] rfl (ret_of rfl ?_ trivial trivial)
    exact rfl
end Go.Proofs.YtipomdmlkkifcaaGreatDoor.Vm
/- Key blocks, there and back (plain). -/
set_option maxRecDepth 100000
namespace Go.Proofs.YtipomdmlkkifcaaGreatDoor.Vm
open Go Go.Proofs
theorem kFind_spec {l : List UInt8} {n k : Int} (h : kFind l n = k) (h0 : k ≠ 0) : kLetter k = l ∧ kSize k = n := by
  have hh : ∀ j : Nat, kHit l n j = true → kLetter j = l ∧ kSize j = n := fun j hj => by
    unfold kHit at hj
    rw [Bool.and_eq_true, beq_iff_eq, beq_iff_eq] at hj
    exact hj
  unfold kFind at h
  split at h
  · subst h; exact hh 1 (by assumption)
  split at h
  · subst h; exact hh 2 (by assumption)
  split at h
  · subst h; exact hh 3 (by assumption)
  split at h
  · subst h; exact hh 4 (by assumption)
  split at h
  · subst h; exact hh 5 (by assumption)
  split at h
  · subst h; exact hh 6 (by assumption)
  split at h
  · subst h; exact hh 7 (by assumption)
  split at h
  · subst h; exact hh 8 (by assumption)
  split at h
  · subst h; exact hh 9 (by assumption)
  split at h
  · subst h; exact hh 10 (by assumption)
  split at h
  · subst h; exact hh 11 (by assumption)
  · exact absurd h.symm h0
theorem kSize_dom {k : Int} (h : kSize k ≠ 0) : k = 1 ∨ k = 2 ∨ k = 3 ∨ k = 4 ∨ k = 5 ∨ k = 6 ∨ k = 7 ∨ k = 8 ∨ k = 9 ∨ k = 10 ∨ k = 11 := by
  by_cases hk : 1 ≤ k ∧ k ≤ 11
  · omega
  · refine absurd ?_ h
    unfold kSize
    simp only [show ¬ (k = 1) by omega, show ¬ (k = 2) by omega, show ¬ (k = 3) by omega, show ¬ (k = 4) by omega, show ¬ (k = 5) by omega, show ¬ (k = 6) by omega, show ¬ (k = 7) by omega, show ¬ (k = 8) by omega, show ¬ (k = 9) by omega, show ¬ (k = 10) by omega, show ¬ (k = 11) by omega, if_false]
theorem kFind_back {k : Int} (h : kSize k ≠ 0) : kFind (kLetter k) (kSize k) = k := by
  rcases kSize_dom h with rfl | rfl | rfl | rfl | rfl | rfl | rfl | rfl | rfl | rfl | rfl <;> decide
theorem kMost_ne {k : Int} (h : kSize k ≠ 0) : totL (kLetter k) ≠ 0 ∧ kSize k + 2 ≤ totL (kLetter k) := by
  rcases kSize_dom h with rfl | rfl | rfl | rfl | rfl | rfl | rfl | rfl | rfl | rfl | rfl <;> decide
theorem bits_put (n : Nat) (h : n < 65536) (r : List UInt8) : bitsL (putL n 2 ++ r) = n := by
  unfold bitsL
  rw [List.take_left' (putL_length n 2), putL2, getN_two]
  simp [UInt8.toNat_ofNat']
  omega
/-- What is loaded is taken. -/
theorem take_pay {k : Int} {y pads : List UInt8} (hk : kChk k y = 0) (hp : (pads.length : Int) = padsL k) : takeL (kLetter k) (payL y pads) = (k, y, pads, 0) := by
  obtain ⟨h1, h2⟩ := kChk_size hk
  obtain ⟨h3, h4⟩ := kMost_ne h2
  have hs := kSize_le k
  have hpl : (putL (8 * y.length) 2).length = 2 := putL_length _ _
  unfold padsL at hp
  rw [if_neg h2] at hp
  have hl : (payL y pads).length = 2 + y.length + pads.length := by unfold payL; simp [putL_length]; omega
  have hb : bitsL (payL y pads) = 8 * y.length := by unfold payL; rw [List.append_assoc]; exact bits_put _ (by omega) _
  have hd : (payL y pads).drop 2 = y ++ pads := by unfold payL; rw [List.append_assoc]; exact List.drop_left' hpl
  have hpart : partL (kLetter k) (payL y pads) = (y, pads, true) := by
    unfold partL
    rw [if_neg (by omega), hb, if_neg (by omega), hd, show 8 * y.length / 8 = y.length by omega, List.take_left, List.drop_left]
  unfold takeL
  rw [hpart]
  simp only
  rw [if_neg (by simp), ← h1, kFind_back h2, if_neg (by intro e; rw [e] at h2; exact h2 rfl), if_neg (by simp [hk])]
/-- What is taken, loaded again, is what it was. -/
theorem pay_take {l p y pads : List UInt8} {k : Int} (h : takeL l p = (k, y, pads, 0)) : kLetter k = l ∧ payL y pads = p ∧ kChk k y = 0 ∧ (pads.length : Int) = padsL k ∧ (p.length : Int) = totL l := by
  unfold takeL at h
  split at h
  · simp at h
  rename_i h1
  split at h
  · simp at h
  rename_i h2
  split at h
  · rename_i h3
    simp only [Prod.mk.injEq] at h
    exact absurd h.2.2.2 h3
  rename_i h3
  simp only [Prod.mk.injEq, and_true] at h
  obtain ⟨e1, e2, e3⟩ := h
  rw [e1] at h2 h3
  rw [e2] at e1 h3
  obtain ⟨s1, s2⟩ := kFind_spec e1 h2
  have hc : kChk k y = 0 := Classical.byContradiction h3
  have hpt : partL l p = (y, pads, true) := by
    rw [← e2, ← e3]
    have : (partL l p).2.2 = true := by simpa using h1
    rw [← this]
  unfold partL at hpt
  split at hpt
  · simp at hpt
  rename_i g1
  split at hpt
  · simp at hpt
  rename_i g2
  simp only [Prod.mk.injEq, and_true] at hpt
  obtain ⟨f1, f2⟩ := hpt
  have hm := totL_16 l
  have hpos : totL l ≠ 0 := fun e => g1 (.inl e)
  have hlen : (p.length : Int) = totL l := Classical.byContradiction fun e => g1 (.inr e)
  have hy : y.length = bitsL p / 8 := by rw [← f1, List.length_take, List.length_drop]; omega
  have hpd : pads.length = p.length - 2 - bitsL p / 8 := by rw [← f2, List.length_drop, List.length_drop]
  refine ⟨s1, ?_, hc, ?_, hlen⟩
  · unfold payL
    rw [hy, show 8 * (bitsL p / 8) = bitsL p by omega, List.append_assoc, ← f1, ← f2, List.take_append_drop]
    unfold bitsL
    match p, hlen with
    | a :: b :: r, _ => rw [show (a :: b :: r).take 2 = [a, b] from rfl, putL_getN2]; rfl
    | [], h => simp at h; omega
    | [_], h => simp at h; omega
  · unfold padsL
    rw [if_neg (kChk_size hc).2, s1, s2]
    omega
theorem atErr_ok {a : List Att} (h : atErr a = 0) : atOk a = true := by
  unfold atErr at h
  split at h
  · assumption
  · cases h
theorem optsA_ok {a : List Att} (h : (optsA a).2 = 0) : atErr a = 0 := by
  unfold optsA at h
  split at h
  · rename_i ho; exact if_pos ho
  · cases h
/-- What is exported is imported as it was, and has as many signs as is told. -/
theorem back39 {kek : List UInt8} {r : Rc} {pads : List UInt8} (h : (expB kek r pads).2 = 0) : impB kek (expB kek r pads).1 = (r, pads, 0) ∧ ((expB kek r pads).1.length : Int) = szB39 r := by
  unfold expB at h ⊢
  by_cases h0 : nRounds kek.length = 0
  · rw [if_pos h0] at h; cases h
  rw [if_neg h0] at h ⊢
  by_cases h1 : ((topB r).2 = 0 ∨ (topB r).2 = 4) ∧ (pads.length : Int) ≠ padsL r.k
  · rw [if_pos h1] at h; cases h
  rw [if_neg h1] at h ⊢
  by_cases h2 : (topB r).2 = 0
  · rw [if_neg (by simp [h2])] at h ⊢
    have hp : (pads.length : Int) = padsL r.k := Classical.byContradiction fun e => h1 ⟨.inl h2, e⟩
    obtain ⟨n, n1, n2, n3, n4⟩ := pay_len h2 hp
    obtain ⟨t1, t2, t3, t4⟩ := topB_ok h2
    have hcl := sealC_length h0 (top := (topB r).1) n1
    have hgl := tagB_length h0 (topB r).1 (payL r.y pads)
    have ht : topL (kLetter r.k) r.h r.a ((sealC kek (topB r).1 (payL r.y pads)).length : Nat) = ((topB r).1, 0) := by rw [hcl, ← n1, n4, ← t4, ← h2]
    have hc := cut_join ht hgl
    have ho : openR kek (topB r).1 (sealC kek (topB r).1 (payL r.y pads)) (tagB kek (topB r).1 (payL r.y pads)) = (payL r.y pads, 0) := by
      unfold openR
      rw [open_seal h0 n1, if_pos rfl]
    constructor
    · unfold impB
      rw [if_neg h0, hc]
      simp only
      rw [if_neg (by simp), ho]
      simp only
      rw [if_neg (by simp), take_pay t1 hp]
      simp only
      rw [if_neg (by simp)]
    · unfold szB39
      rw [if_pos h2, List.length_append, List.length_append, hexs_length, hexs_length, hcl, hgl]
      omega
  · rw [if_pos h2] at h; exact absurd h h2
/-- What is imported is right, and exported again is what it was. -/
theorem one39 {kek b : List UInt8} (h : (impB kek b).2.2 = 0) : expB kek (impB kek b).1 (impB kek b).2.1 = (b, 0) ∧ recChk (impB kek b).1 = 0 ∧ (impB kek b).1.y.length ≤ 100 ∧ (impB kek b).1.a.length ≤ 32 ∧ hdFine (impB kek b).1.h = true ∧ (impB kek b).2.1.length ≤ 100 := by
  unfold impB at h ⊢
  by_cases h0 : nRounds kek.length = 0
  · rw [if_pos h0] at h; cases h
  rw [if_neg h0] at h ⊢
  by_cases h1 : (cutF b).2 = 0
  · rw [if_neg (by simp [h1])] at h ⊢
    have hx : cutF b = ((cutF b).1, 0) := by rw [← h1]
    obtain ⟨n, n1, n2, n3, n4, n5⟩ := cut_lens hx
    obtain ⟨c1, c2, c3, c4, c5, c6, c7, c8⟩ := cut_back hx
    generalize (cutF b).1 = f at *
    by_cases h2 : (openR kek f.t f.c f.g).2 = 0
    · rw [if_neg (by simp [h2])] at h ⊢
      have ho : tagB kek f.t (openP kek f.c f.g) = f.g ∧ (openR kek f.t f.c f.g).1 = openP kek f.c f.g := by
        unfold openR at h2 ⊢
        split at h2
        · rename_i e; rw [if_pos e]; exact ⟨e, rfl⟩
        · cases h2
      obtain ⟨o1, o2⟩ := ho
      rw [o2] at h ⊢
      by_cases h3 : (takeL f.l (openP kek f.c f.g)).2.2.2 = 0
      · rw [if_neg (by simp [h3])]
        simp only
        obtain ⟨⟨k, y, pads, e⟩, hk⟩ : ∃ x, takeL f.l (openP kek f.c f.g) = x := ⟨_, rfl⟩
        rw [hk] at h3 ⊢
        simp only at h3 ⊢
        subst h3
        obtain ⟨p1, p2, p3, p4, p5⟩ := pay_take hk
        have hol := openP_length h0 n4 n1
        have hm := totL_16 f.l
        have ht := c2 (by omega)
        rw [show ((f.c.length : Nat) : Int) = totL f.l by omega] at ht
        obtain ⟨z1, z2, z3, z4, z5, z6, _⟩ := topL_ok ht
        have hr : recChk ⟨k, y, f.a, f.h⟩ = 0 := by unfold recChk; rw [if_pos p3]; exact optsA_ok z6
        have htop : topB ⟨k, y, f.a, f.h⟩ = (f.t, 0) := by
          unfold topB
          rw [if_pos hr]
          simp only
          rw [p1, if_pos z5, ht]
        have hs := seal_open h0 n4 n1 o1
        refine ⟨?_, hr, ?_, c5, c4, ?_⟩
        · unfold expB
          rw [if_neg h0, htop]
          simp only
          rw [if_neg (fun e => e.2 p4), if_neg (by simp), p2, hs, o1, c1]
        · have := (kChk_size p3).1; have := kSize_le k; omega
        · have := congrArg List.length p2
          unfold payL at this
          rw [List.length_append] at this
          omega
      · rw [if_pos h3] at h; exact absurd h h3
    · rw [if_pos h2] at h; exact absurd h h2
  · rw [if_pos h1] at h; exact absurd h h1
theorem topL_err {l : List UInt8} {h : Hd} {a : List Att} {n : Int} (hk : kMost l ≠ 0) (h1 : 16 ≤ n) (h2 : n ≤ 4096) (h3 : n % 16 = 0) (ht : tChk h l = true) (ha : atErr a = 0) : (topL l h a n).2 = 0 ∨ (topL l h a n).2 = 4 := by
  unfold topL
  rw [if_neg (by omega), if_pos ht]
  split
  · unfold optsA at *
    rw [if_pos (atErr_ok ha)] at *
    split
    · rename_i hx; rw [if_pos hx] at *; simp at *
    · split
      · exact .inr rfl
      · rename_i hx hy hz; rw [if_neg hy, if_neg hz] at hx; simp at hx
  · split
    · exact .inr rfl
    · exact .inl rfl
end Go.Proofs.YtipomdmlkkifcaaGreatDoor.Vm
