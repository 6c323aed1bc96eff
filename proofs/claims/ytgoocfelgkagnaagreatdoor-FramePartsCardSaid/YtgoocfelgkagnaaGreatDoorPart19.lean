/- Texts of one proof, gathered: Law34 Law34P. -/
import Derived.Test.YtgoocfelgkagnaaGreatDoorPart18
import Derived.Test.YtgoocfelgkagnaaGreatDoorPart4
/- Contracts: the laws of layer 34. -/
set_option linter.unusedVariables false
set_option linter.unusedSimpArgs false
set_option linter.unnecessarySimpa false
set_option maxRecDepth 100000
namespace Go.Proofs.YtgoocfelgkagnaaGreatDoor.Vm
open Go Go.Proofs Go.RowKit Go.Proofs.YtgoocfelgkagnaaGreatDoor.Flt
variable {ml : Int}
theorem VRs_nil {ρ : Place} {hl : Objs} {I : Mem} {ys : List T} : ∀ {xs : List T} {vs : List Value}, VRs ρ hl I (xs ++ .nsl :: ys) vs → VRs ρ hl I (xs ++ .sl 0 [] :: ys) vs
  | [], vs, h => by
    simp only [List.nil_append] at h ⊢
    unfold VRs at h ⊢
    obtain ⟨v, rs, rfl, h1, h2⟩ := h
    exact ⟨v, rs, rfl, nil_sl h1, h2⟩
  | x :: xs, vs, h => by
    simp only [List.cons_append] at h ⊢
    unfold VRs at h ⊢
    obtain ⟨v, rs, rfl, h1, h2⟩ := h
    exact ⟨v, rs, rfl, h1, VRs_nil h2⟩
/-- The cells of a list of attributes that is handed over. -/
theorem atts_of : ∀ {ts : List (List T)}, (∀ x ∈ ts, ∃ n s, x = [.i .i64 n, .s s]) → ∃ l : List Att, ts.flatten = attCells l ∧ l.length = ts.length
  | [], _ => ⟨[], rfl, rfl⟩
  | x :: ts, h => by
    obtain ⟨n, s, rfl⟩ := h x (by simp)
    obtain ⟨l, h1, h2⟩ := atts_of (ts := ts) fun y hy => h y (by simp [hy])
    exact ⟨(n, s) :: l, by rw [List.flatten_cons, h1]; rfl, by simp [h2]⟩
abbrev h34 : Hd := ⟨[75, 48], [66], [48, 48], [69]⟩
abbrev s34 : List UInt8 := [68, 48, 48, 56, 48, 75, 48, 65, 66, 48, 48, 69, 48, 48, 48, 48]
abbrev c34 : List UInt8 := [48, 49, 50, 51, 52, 53, 54, 55, 56, 57, 97, 98, 99, 100, 101, 102]
abbrev t34 : List UInt8 := [102, 101, 100, 99, 98, 97, 57, 56, 55, 54, 53, 52, 51, 50, 49, 48]
theorem top34 : topL [65] h34 [] 16 = (s34, 0) := by
  have e1 : optsA [] = ([], 0) := rfl
  have e2 : packL [] = ([], 0, 0) := by simp [packL, packOk, encAll, padL]
  unfold topL
  rw [if_neg (by decide), if_pos (by decide), e1]
  simp only
  rw [if_neg (by decide), e2]
  simp only
  rw [if_neg (by decide)]
  have e3 : hEnc ⟨80, [65], 0, h34⟩ = (s34, 0) := by
    rw [hEnc, if_neg (by decide), if_pos (by decide)]
    simp [decW, decDigits_one, decDigits_snoc 80 (by decide), h34, s34]
  show ((hEnc ⟨80, [65], 0, h34⟩).1 ++ [], (0 : Int)) = _
  rw [e3]; rfl
theorem cut34 : cutF (s34 ++ hexs c34 ++ hexs t34) = (⟨[65], h34, [], s34, c34, t34⟩, 0) := cut_join top34 rfl
abbrev b34 : List UInt8 := s34 ++ hexs c34 ++ hexs t34
theorem cutA34 : cutA b34 = ([], 0, 0) := by kernel_rfl
theorem cxeq (a b : Int) (ha : a.natAbs < 2 ^ 53) (hb : b.natAbs < 2 ^ 53) : (FloatKind.f64.format.order (nr a) (nr a) == some .eq && FloatKind.f64.format.order (nr b) (nr b) == some .eq) = true := by
  rw [(fcmp ha ha).1, (fcmp hb hb).1]; simp
theorem awake34 : Ret P (C ml) 18 [] (.b true) := by
  have k1 := pTop (ml := ml) [65] h34 [] 16 (by decide) (by decide) (by decide)
  rw [top34] at k1
  have k1 : Ret P (C ml) 19 [.s [65], .agg [.s [75, 48], .s [66], .s [48, 48], .s [69]], .nsl, .i .i64 16] (.tup [.s s34, .i .i64 0]) := ret_args (fun ρ I vals h => VRs_nil (xs := [.s [65], .agg h34.cells]) (ys := [.i .i64 16]) h) k1
  have k2 := pJoin (ml := ml) s34 c34 t34 (by decide) (by decide) (by decide)
  have k3 := pCutF0 (ml := ml) b34 (by decide)
  rw [cut34, frC_ok] at k3
  have k4 := pParts (ml := ml) b34 (by decide)
  have ep : ptT b34 = .sl 4 [xs 0 16, xs 16 16, xs 16 48, xs 48 80] := by
    unfold ptT
    rw [cut34, if_pos rfl, cutA34]; rfl
  rw [ep] at k4
  have k5 := spOf (ml := ml) 48 80 (by decide) (by decide) (by decide)
  have g0 : ([xs 0 16, xs 16 16, xs 16 48, xs 48 80] : List T)[3]? = some (xs 48 80) := rfl
  have g1 := cxeq 48 80 (by decide) (by decide)
  have g2 : ((b34.length : Int) == 80) = true := by decide
  have g3 : (s34 == [68, 48, 48, 56, 48, 75, 48, 65, 66, 48, 48, 69, 48, 48, 48, 48]) = true := rfl
  have g4 : (c34 == [48, 49, 50, 51, 52, 53, 54, 55, 56, 57, 97, 98, 99, 100, 101, 102]) = true := rfl
  have g5 : (t34 == [102, 101, 100, 99, 98, 97, 57, 56, 55, 54, 53, 52, 51, 50, 49, 48]) = true := rfl
  refine hret_of tab_ok Tryz.func18 rfl rfl (by kernel_rfl) rfl ?_
  refine g_fin tab_ok mixed 3000 [cc k1, cc k2, cc k3, cc k4, .t, .t, .t, .t, .t, .t, .t, .a, cc k5] rfl (by (simp only [AllR]; (repeat' first | exact k1 | exact k2 | exact k3 | exact k4 | exact k5 | exact g0 | exact g1 | exact True.intro | (show (_ : Bool) = _; assumption) | omega | apply And.intro); all_goals first | (simp; done) | (simp; omega) | exact Nat.le_of_ble_eq_true rfl | kernel_rfl)) (ret_of rfl ?_ trivial trivial)
  exact .inl (congrArg T.b g1)
theorem few_len {a : List Att} {n : Int} (h : few a n = true) : (a.length : Int) ≤ n := by
  unfold few at h
  rw [Bool.and_eq_true] at h
  exact of_decide_eq_true h.1
theorem frameTells34 (l : List UInt8) (h : Hd) (a : List Att) (n : Int) (b : List UInt8) :
    Ret P (C ml) 5 [.s l, .agg h.cells, .sl a.length (attCells a), .i .i64 n, .s b] (.b true) := by
  refine hret_of tab_ok Tryz.func5 rfl rfl (by kernel_rfl) rfl ?_
  have ka := awake34 (ml := ml)
  have k0 := plainHead (ml := ml) h
  have k1 := plainFew (ml := ml) a 60 (by decide)
  by_cases c1 : 20 < l.length
  · refine g_fin tab_ok mixed 3000 [.t, cc ka] rfl (by (simp only [AllR]; (repeat' first | exact ka | exact k0 | exact k1 | exact True.intro | (show (_ : Bool) = _; assumption) | omega | apply And.intro); all_goals first | (simp; done) | (simp; omega) | exact Nat.le_of_ble_eq_true rfl | kernel_rfl)) (ret_of rfl ?_ trivial trivial)
    (first | exact .inl rfl | rfl | (simp [tle]; done) | (simp_all [tle, tleL]; done))
  rcases Bool.eq_false_or_eq_true (hdFine h) with c2 | c2
  · rw [c2] at k0
    rcases Bool.eq_false_or_eq_true (few a 60) with c3 | c3
    · rw [c3] at k1
      have hal := few_len c3
      by_cases c4 : 12000 < b.length
      · refine g_fin tab_ok mixed 3000 [.f, cc k0, .f, cc k1, .f, .t, cc ka] rfl (by (simp only [AllR]; (repeat' first | exact ka | exact k0 | exact k1 | exact True.intro | (show (_ : Bool) = _; assumption) | omega | apply And.intro); all_goals first | (simp; done) | (simp; omega) | exact Nat.le_of_ble_eq_true rfl | kernel_rfl)) (ret_of rfl ?_ trivial trivial)
        (first | exact .inl rfl | rfl | (simp [tle]; done) | (simp_all [tle, tleL]; done))
      · have k2 := pTop (ml := ml) l h a n (by omega) c2 (by omega)
        have k3 := rTop (ml := ml) l h a n (by omega) c2 (by omega)
        have k4 := pCutF0 (ml := ml) b (by omega)
        have k5 := rCut0 (ml := ml) b (by omega)
        generalize (topL l h a n).1 = s at *
        generalize (topL l h a n).2 = er at *
        have b1 : (s == s) = true := beq_self_eq_true _
        have b2 : (er == er) = true := beq_self_eq_true _
        unfold frC at k4 k5
        by_cases e : (cutF b).2 = 0
        · have hx : cutF b = ((cutF b).1, 0) := by rw [← e]
          obtain ⟨_, _, _, _, q5, _⟩ := cut_back hx
          have k6 := sameX (ml := ml) (cutF b).1 (by omega)
          rw [if_pos e, e] at k4 k5
          refine g_fin tab_ok mixed 3000 [.f, cc k0, .f, cc k1, .f, .f, cc k2, cc k3, cc k4, cc k5, .t, .t, cc k6, .t, .t, cc ka] rfl (by (simp only [AllR]; (repeat' first | exact ka | exact k0 | exact k1 | exact k2 | exact k3 | exact k4 | exact k5 | exact k6 | exact True.intro | (show (_ : Bool) = _; assumption) | omega | apply And.intro); all_goals first | (simp; done) | (simp; omega) | exact Nat.le_of_ble_eq_true rfl | kernel_rfl)) (ret_of rfl ?_ trivial trivial)
          (first | exact .inl rfl | rfl | (simp [tle]; done) | (simp_all [tle, tleL]; done))
        · have k6 := sameNil (ml := ml)
          rw [if_neg e] at k4 k5
          generalize (cutF b).2 = e2 at *
          have b3 : (e2 == e2) = true := beq_self_eq_true _
          refine g_fin tab_ok mixed 3000 [.f, cc k0, .f, cc k1, .f, .f, cc k2, cc k3, cc k4, cc k5, .t, .t, cc k6, .t, .t, cc ka] rfl (by (simp only [AllR]; (repeat' first | exact ka | exact k0 | exact k1 | exact k2 | exact k3 | exact k4 | exact k5 | exact k6 | exact True.intro | (show (_ : Bool) = _; assumption) | omega | apply And.intro); all_goals first | (simp; done) | (simp; omega) | exact Nat.le_of_ble_eq_true rfl | kernel_rfl)) (ret_of rfl ?_ trivial trivial)
          (first | exact .inl rfl | rfl | (simp [tle]; done) | (simp_all [tle, tleL]; done))
    · rw [c3] at k1
      refine g_fin tab_ok mixed 3000 [.f, cc k0, .f, cc k1, .t, cc ka] rfl (by (simp only [AllR]; (repeat' first | exact ka | exact k0 | exact k1 | exact True.intro | (show (_ : Bool) = _; assumption) | omega | apply And.intro); all_goals first | (simp; done) | (simp; omega) | exact Nat.le_of_ble_eq_true rfl | kernel_rfl)) (ret_of rfl ?_ trivial trivial)
      (first | exact .inl rfl | rfl | (simp [tle]; done) | (simp_all [tle, tleL]; done))
  · rw [c2] at k0
    refine g_fin tab_ok mixed 3000 [.f, cc k0, .t, cc ka] rfl (by (simp only [AllR]; (repeat' first | exact ka | exact k0 | exact k1 | exact True.intro | (show (_ : Bool) = _; assumption) | omega | apply And.intro); all_goals first | (simp; done) | (simp; omega) | exact Nat.le_of_ble_eq_true rfl | kernel_rfl)) (ret_of rfl ?_ trivial trivial)
    (first | exact .inl rfl | rfl | (simp [tle]; done) | (simp_all [tle, tleL]; done))
theorem frameBack34 (l : List UInt8) (h : Hd) (a : List Att) (c g b : List UInt8) :
    Ret P (C ml) 6 [.s l, .agg h.cells, .sl a.length (attCells a), .s c, .s g, .s b] (.b true) := by
  refine hret_of tab_ok Tryz.func6 rfl rfl (by kernel_rfl) rfl ?_
  have ka := awake34 (ml := ml)
  have k0 := plainHead (ml := ml) h
  have k1 := plainFew (ml := ml) a 60 (by decide)
  by_cases c1 : 20 < l.length
  · refine g_fin tab_ok mixed 3000 [.t, cc ka] rfl (by (simp only [AllR]; (repeat' first | exact ka | exact k0 | exact k1 | exact True.intro | (show (_ : Bool) = _; assumption) | omega | apply And.intro); all_goals first | (simp; done) | (simp; omega) | exact Nat.le_of_ble_eq_true rfl | kernel_rfl)) (ret_of rfl ?_ trivial trivial)
    (first | exact .inl rfl | rfl | (simp [tle]; done) | (simp_all [tle, tleL]; done))
  rcases Bool.eq_false_or_eq_true (hdFine h) with c2 | c2
  · rw [c2] at k0
    rcases Bool.eq_false_or_eq_true (few a 60) with c3 | c3
    · rw [c3] at k1
      have hal := few_len c3
      by_cases c4 : 200 < c.length
      · refine g_fin tab_ok mixed 3000 [.f, cc k0, .f, cc k1, .f, .t, cc ka] rfl (by (simp only [AllR]; (repeat' first | exact ka | exact k0 | exact k1 | exact True.intro | (show (_ : Bool) = _; assumption) | omega | apply And.intro); all_goals first | (simp; done) | (simp; omega) | exact Nat.le_of_ble_eq_true rfl | kernel_rfl)) (ret_of rfl ?_ trivial trivial)
        (first | exact .inl rfl | rfl | (simp [tle]; done) | (simp_all [tle, tleL]; done))
      by_cases c5 : g.length = 16
      · have g5 : ((g.length : Int) != 16) = false := by simp; omega
        by_cases c6 : 3000 < b.length
        · refine g_fin tab_ok mixed 3000 [.f, cc k0, .f, cc k1, .f, .f, .f, .t, cc ka] rfl (by (simp only [AllR]; (repeat' first | exact ka | exact k0 | exact k1 | exact True.intro | (show (_ : Bool) = _; assumption) | omega | apply And.intro); all_goals first | (simp; done) | (simp; omega) | exact Nat.le_of_ble_eq_true rfl | kernel_rfl)) (ret_of rfl ?_ trivial trivial)
          (first | exact .inl rfl | rfl | (simp [tle]; done) | (simp_all [tle, tleL]; done))
        · have k2 := pTop (ml := ml) l h a c.length (by omega) c2 (by omega)
          have k4 := pCutF0 (ml := ml) b (by omega)
          have kn := sameNil (ml := ml)
          have kat := plainAttrs (ml := ml) a (by omega)
          have e1 : ∀ X Y : Operand, Says P .neq 34 X Y (.agg [.s h.u, .s h.m, .s h.v, .s h.e]) (.agg [.s h.u, .s h.m, .s h.v, .s h.e]) false := fun X Y => by
            have := (says_head (X := X) (Y := Y) h.u h.m h.v h.e h.u h.m h.v h.e).2
            rwa [show (!(h.u == h.u && (h.m == h.m && (h.v == h.v && h.e == h.e)))) = false by simp] at this
          unfold frC at k4
          have hsl : (topL l h a c.length).2 = 0 → (topL l h a c.length).1.length ≤ 9999 := fun ht => by
            have hc := cut_join (l := l) (h := h) (a := a) (s := (topL l h a c.length).1) (c := c) (g := g) (by rw [← ht]) c5
            have := cut_back hc
            exact this.2.2.2.2.2.1
          have hcj : (topL l h a c.length).2 = 0 → cutF ((topL l h a c.length).1 ++ hexs c ++ hexs g) = (⟨l, h, a, (topL l h a c.length).1, c, g⟩, 0) := fun ht => cut_join (by rw [← ht]) c5
          generalize (topL l h a c.length).1 = s at *
          generalize (topL l h a c.length).2 = er at *
          have n1 : (l != l) = false := by simp
          have n2 : (s != s) = false := by simp
          have n3 : (c != c) = false := by simp
          have n4 : (g != g) = false := by simp
          by_cases e : (cutF b).2 = 0
          · have hx : cutF b = ((cutF b).1, 0) := by rw [← e]
            obtain ⟨q1, q2, q3, q4, q5, q6, q7, q8⟩ := cut_back hx
            rw [if_pos e, e] at k4
            generalize (cutF b).1 = x at *
            have hxc : x.c.length ≤ 4096 := by
              have := congrArg List.length q1
              simp only [List.length_append, hexs_length] at this; omega
            have q2 := q2 hxc
            have k5 := pTop (ml := ml) x.l x.h x.a x.c.length (by omega) q4 (by omega)
            rw [q2] at k5
            have k6 := pJoin (ml := ml) x.t x.c x.g (by omega) (by omega) (by omega)
            rw [q1] at k6
            have n5 : (x.t == x.t) = true := beq_self_eq_true _
            have n6 : (b == b) = true := beq_self_eq_true _
            by_cases ht : er = 0
            · have hl := hsl ht
              have k7 := pJoin (ml := ml) s c g (by omega) (by omega) (by omega)
              have k8 := pCutF0 (ml := ml) (s ++ hexs c ++ hexs g) (by simp only [List.length_append, hexs_length]; omega)
              rw [hcj ht, frC_ok] at k8
              subst ht
              refine g_fin tab_ok mixed 3000 [.f, cc k0, .f, cc k1, .f, .f, .f, .f, cc k2, .t, cc k7, cc k8, .f, .f, sz (e1 (Operand.tmp 79) (Operand.tmp 80)), .f, cc kat, .f, .f, .f, .f, cc k4, .f, cc k5, .f, .t, .t, cc k6, .t, cc ka] rfl (by (simp only [AllR]; (repeat' first | exact ka | exact k0 | exact k1 | exact k2 | exact k4 | exact k5 | exact k6 | exact k7 | exact k8 | exact kat | exact e1 _ _ | exact True.intro | (show (_ : Bool) = _; assumption) | omega | apply And.intro); all_goals first | (simp; done) | (simp; omega) | exact Nat.le_of_ble_eq_true rfl | kernel_rfl)) (ret_of rfl ?_ trivial trivial)
              (first | exact .inl rfl | rfl | (simp [tle]; done) | (simp_all [tle, tleL]; done))
            · have ht1 : (er == 0) = false := by simpa using ht
              refine g_fin tab_ok mixed 3000 [.f, cc k0, .f, cc k1, .f, .f, .f, .f, cc k2, .f, cc k4, .f, cc k5, .f, .t, .t, cc k6, .t, cc ka] rfl (by (simp only [AllR]; (repeat' first | exact ka | exact k0 | exact k1 | exact k2 | exact k4 | exact k5 | exact k6 | exact True.intro | (show (_ : Bool) = _; assumption) | omega | apply And.intro); all_goals first | (simp; done) | (simp; omega) | exact Nat.le_of_ble_eq_true rfl | kernel_rfl)) (ret_of rfl ?_ trivial trivial)
              (first | exact .inl rfl | rfl | (simp [tle]; done) | (simp_all [tle, tleL]; done))
          · rw [if_neg e] at k4
            generalize (cutF b).2 = e2 at *
            have b3 : (e2 != 0) = true := by simpa using e
            by_cases ht : er = 0
            · have hl := hsl ht
              have k7 := pJoin (ml := ml) s c g (by omega) (by omega) (by omega)
              have k8 := pCutF0 (ml := ml) (s ++ hexs c ++ hexs g) (by simp only [List.length_append, hexs_length]; omega)
              rw [hcj ht, frC_ok] at k8
              subst ht
              refine g_fin tab_ok mixed 3000 [.f, cc k0, .f, cc k1, .f, .f, .f, .f, cc k2, .t, cc k7, cc k8, .f, .f, sz (e1 (Operand.tmp 79) (Operand.tmp 80)), .f, cc kat, .f, .f, .f, .f, cc k4, .t, cc kn, .t, cc ka] rfl (by (simp only [AllR]; (repeat' first | exact ka | exact k0 | exact k1 | exact k2 | exact k4 | exact kn | exact k7 | exact k8 | exact kat | exact e1 _ _ | exact True.intro | (show (_ : Bool) = _; assumption) | omega | apply And.intro); all_goals first | (simp; done) | (simp; omega) | exact Nat.le_of_ble_eq_true rfl | kernel_rfl)) (ret_of rfl ?_ trivial trivial)
              (first | exact .inl rfl | rfl | (simp [tle]; done) | (simp_all [tle, tleL]; done))
            · have ht1 : (er == 0) = false := by simpa using ht
              refine g_fin tab_ok mixed 3000 [.f, cc k0, .f, cc k1, .f, .f, .f, .f, cc k2, .f, cc k4, .t, cc kn, .t, cc ka] rfl (by (simp only [AllR]; (repeat' first | exact ka | exact k0 | exact k1 | exact k2 | exact k4 | exact kn | exact True.intro | (show (_ : Bool) = _; assumption) | omega | apply And.intro); all_goals first | (simp; done) | (simp; omega) | exact Nat.le_of_ble_eq_true rfl | kernel_rfl)) (ret_of rfl ?_ trivial trivial)
              (first | exact .inl rfl | rfl | (simp [tle]; done) | (simp_all [tle, tleL]; done))
      · have g5 : ((g.length : Int) != 16) = true := by simp; omega
        refine g_fin tab_ok mixed 3000 [.f, cc k0, .f, cc k1, .f, .f, .t, cc ka] rfl (by (simp only [AllR]; (repeat' first | exact ka | exact k0 | exact k1 | exact True.intro | (show (_ : Bool) = _; assumption) | omega | apply And.intro); all_goals first | (simp; done) | (simp; omega) | exact Nat.le_of_ble_eq_true rfl | kernel_rfl)) (ret_of rfl ?_ trivial trivial)
        (first | exact .inl rfl | rfl | (simp [tle]; done) | (simp_all [tle, tleL]; done))
    · rw [c3] at k1
      refine g_fin tab_ok mixed 3000 [.f, cc k0, .f, cc k1, .t, cc ka] rfl (by (simp only [AllR]; (repeat' first | exact ka | exact k0 | exact k1 | exact True.intro | (show (_ : Bool) = _; assumption) | omega | apply And.intro); all_goals first | (simp; done) | (simp; omega) | exact Nat.le_of_ble_eq_true rfl | kernel_rfl)) (ret_of rfl ?_ trivial trivial)
      (first | exact .inl rfl | rfl | (simp [tle]; done) | (simp_all [tle, tleL]; done))
  · rw [c2] at k0
    refine g_fin tab_ok mixed 3000 [.f, cc k0, .t, cc ka] rfl (by (simp only [AllR]; (repeat' first | exact ka | exact k0 | exact k1 | exact True.intro | (show (_ : Bool) = _; assumption) | omega | apply And.intro); all_goals first | (simp; done) | (simp; omega) | exact Nat.le_of_ble_eq_true rfl | kernel_rfl)) (ret_of rfl ?_ trivial trivial)
    (first | exact .inl rfl | rfl | (simp [tle]; done) | (simp_all [tle, tleL]; done))
end Go.Proofs.YtgoocfelgkagnaaGreatDoor.Vm
/- Contracts: the third law of layer 34. -/
set_option maxRecDepth 100000
namespace Go.Proofs.YtgoocfelgkagnaaGreatDoor.Vm
open Go Go.Proofs Go.RowKit Go.Proofs.YtgoocfelgkagnaaGreatDoor.Flt
variable {ml : Int}
/-- Where the parts of a key block end. -/
def cOf (a n : Nat) : Nat → Int
  | 0 => 0
  | 1 => 16
  | 2 => 16 + a
  | 3 => (n : Int) - 32
  | _ + 4 => n
theorem whOf_spans (a n : Nat) : whOf 0 a n = spans (cOf a n) := rfl
theorem frameParts34 (b : List UInt8) : Ret P (C ml) 7 [.s b] (.b true) := by
  refine hret_of tab_ok Tryz.func7 rfl rfl (by kernel_rfl) rfl ?_
  have ka := awake34 (ml := ml)
  by_cases c1 : 3000 < b.length
  · refine g_fin tab_ok mixed 3000 [.t, cc ka] rfl (by (simp only [AllR]; (repeat' first | exact ka | exact True.intro | (show (_ : Bool) = _; assumption) | omega | apply And.intro); all_goals first | (simp; done) | (simp; omega) | exact Nat.le_of_ble_eq_true rfl | kernel_rfl)) (ret_of rfl ?_ trivial trivial)
    (first | exact .inl rfl | rfl | (simp [tle]; done) | (simp_all [tle, tleL]; done))
  have k1 := rCut0 (ml := ml) b (by omega)
  have k2 := pParts (ml := ml) b (by omega)
  unfold frC at k1
  unfold ptT at k2
  by_cases e : (cutF b).2 = 0
  · obtain ⟨f1, f2, f3⟩ := cut_ok_len e
    rw [if_pos e, e] at k1
    rw [if_pos e, whOf_spans] at k2
    generalize (cutF b).1 = x at *
    generalize (cutA b).2.1 = a at *
    have hN : 16 + a + 64 ≤ b.length := f1
    have hp : (2 : Nat) ^ 53 = 9007199254740992 := rfl
    have hs : ∀ i, i < 5 → sp (cOf a b.length i) := fun i hi => by
      match i, hi with
      | 0, _ => exact ⟨by show (0 : Int) ≤ 0; decide, by show (0 : Int) ≤ 65552; decide⟩
      | 1, _ => exact ⟨by show (0 : Int) ≤ 16; decide, by show (16 : Int) ≤ 65552; decide⟩
      | 2, _ => exact ⟨by show (0 : Int) ≤ 16 + a; omega, by show (16 : Int) + a ≤ _; omega⟩
      | 3, _ => exact ⟨by show (0 : Int) ≤ (b.length : Int) - 32; omega, by show (b.length : Int) - 32 ≤ _; omega⟩
      | 4, _ => exact ⟨by show (0 : Int) ≤ (b.length : Int); omega, by show (b.length : Int) ≤ _; omega⟩
    have hm : ∀ i, i < 4 → cOf a b.length i ≤ cOf a b.length (i + 1) := fun i hi => by
      match i, hi with
      | 0, _ => show (0 : Int) ≤ 16; decide
      | 1, _ => show (16 : Int) ≤ 16 + a; omega
      | 2, _ => show (16 : Int) + a ≤ (b.length : Int) - 32; omega
      | 3, _ => show (b.length : Int) - 32 ≤ b.length; omega
    have s1 := spOf (ml := ml) 0 16 (by decide) (by decide) (by decide)
    have s2 := spCut (ml := ml) b 0 16 (by decide) (by decide) (by decide) (by omega) (by omega)
    have s3 := spCut (ml := ml) b 16 (16 + (a : Int)) (by decide) ⟨by omega, by omega⟩ (by omega) (by omega) (by omega)
    have s4 := spTo (ml := ml) ((b.length : Int) - 32) b.length ⟨by omega, by omega⟩ ⟨by omega, by omega⟩ (by omega)
    have s5 := spCount (ml := ml) (cOf a b.length) rfl hs hm
    have s5 : Ret P (C ml) 31 [.sl 4 (spans (cOf a b.length))] (xs 4 b.length) := s5
    have z1 : cutO b 0 (16 - 0) = b.take 16 := by unfold cutO; rw [if_neg (by omega)]; rfl
    have z2 : cutO b 16 (16 + (a : Int) - 16) = (b.drop 16).take a := by
      unfold cutO
      by_cases ha : a = 0
      · rw [if_pos (by omega), ha]; rfl
      · rw [if_neg (by omega), show (16 + (a : Int) - 16).toNat = a by omega]; rfl
    rw [z1] at s2
    rw [z2] at s3
    have z3 : (b.take 16 ++ (b.drop 16).take a != x.t) = false := by rw [f3, List.take_add]; simp
    have z4 : (b.take 16).length ≤ 16 := by rw [List.length_take]; omega
    have z5 : ((b.drop 16).take a).length ≤ 9999 := by rw [List.length_take]; omega
    have g0 : (spans (cOf a b.length))[0]? = some (xs 0 16) := rfl
    have g1 : (spans (cOf a b.length))[1]? = some (xs 16 (16 + (a : Int))) := rfl
    have g3 : (spans (cOf a b.length))[3]? = some (xs ((b.length : Int) - 32) b.length) := rfl
    have q1 : (!(FloatKind.f64.format.order (nr 0) (nr 0) == some .eq && FloatKind.f64.format.order (nr 16) (nr 16) == some .eq)) = false := by rw [cxeq 0 16 (by decide) (by decide)]; rfl
    have q2 : ((b.length : Int) != b.length) = false := by simp
    have q3 : (FloatKind.f64.format.order (nr 4) 4616189618054758400 == some .eq && FloatKind.f64.format.order (nr (b.length : Int)) (nr (b.length : Int)) == some .eq) = true := by rw [← nr4]; exact cxeq 4 b.length (by decide) (by omega)
    generalize b.take 16 = y1 at *
    generalize (b.drop 16).take a = y2 at *
    refine g_run tab_ok mixed 3000 [.f, cc k1, cc k2, .f, .f, .a, cc s1, .f, .a, cc s2, .a, cc s3, .f, .a, cc s4, .f] rfl (by (simp only [AllR]; (repeat' first | exact k1 | exact k2 | exact s1 | exact s2 | exact s3 | exact s4 | exact g0 | exact g1 | exact g3 | exact True.intro | (show (_ : Bool) = _; assumption) | omega | apply And.intro); all_goals first | (simp; done) | (simp; omega) | exact Nat.le_of_ble_eq_true rfl | kernel_rfl)) ?_
    refine g_loop (fun i : Nat => [(0, .s b), (5, .sl 4 (spans (cOf a b.length))), (6, .i .i64 i)]) (fun _ => []) (fun i => 1 ≤ i ∧ i ≤ 4) (fun i => 4 - i) 1 ⟨⟨rfl, rfl, rfl, trivial⟩, trivial, trivial⟩ ⟨by omega, by omega⟩ ?_
    rintro i ⟨i1, i2⟩
    by_cases hi : i < 4
    · obtain ⟨m, hm1⟩ : ∃ m, i = m + 1 := ⟨i - 1, by omega⟩
      have wi : IntKind.i64.wrap ((i : Int) - 1) = m := by rw [w64 (by omega) (by omega)]; omega
      have h2 : (spans (cOf a b.length))[i * 1]? = some (xs (cOf a b.length i) (cOf a b.length (i + 1))) := by rw [Nat.mul_one]; exact spans_at _ i hi
      have h3 : (spans (cOf a b.length))[(IntKind.i64.wrap ((i : Int) - 1)).toNat * 1]? = some (xs (cOf a b.length m) (cOf a b.length i)) := by rw [wi, Nat.mul_one, hm1]; exact spans_at _ m (by omega)
      have t1 := spFrom (ml := ml) (cOf a b.length i) (cOf a b.length (i + 1)) (hs i (by omega)) (hs (i + 1) (by omega)) (hm i hi)
      have t2 := spTo (ml := ml) (cOf a b.length m) (cOf a b.length i) (hs m (by omega)) (hs i (by omega)) (by rw [hm1]; exact hm m (by omega))
      have u1 : 0 ≤ IntKind.i64.wrap ((i : Int) - 1) ∧ IntKind.i64.wrap ((i : Int) - 1) < 4 := by rw [wi]; omega
      generalize cOf a b.length (i + 1) = v1 at *
      generalize cOf a b.length m = v0 at *
      generalize cOf a b.length i = v at *
      have q4 : (v != v) = false := by simp
      refine g_fin tab_ok mixed 3000 [.t, ld1 h2, cc t1, ld1 h3, cc t2, .f] rfl (by (simp only [AllR]; (repeat' first | exact t1 | exact t2 | exact h2 | exact h3 | exact u1 | exact True.intro | (show (_ : Bool) = _; assumption) | omega | apply And.intro); all_goals first | (simp; done) | (simp; omega) | exact Nat.le_of_ble_eq_true rfl | kernel_rfl)) (rd_next (i + 1) ⟨by omega, by omega⟩ (by omega) ⟨rfl, rfl, ?_, trivial⟩ trivial trivial)
      (simp [look, tle]; omega)
    · have ei : i = 4 := by omega
      subst ei
      refine g_fin tab_ok mixed 3000 [.f] rfl (by (simp only [AllR]; (repeat' first | exact True.intro | (show (_ : Bool) = _; assumption) | omega | apply And.intro); all_goals first | (simp; done) | (simp; omega) | exact Nat.le_of_ble_eq_true rfl | kernel_rfl)) (rd_exit rfl ?_)
      refine g_fin tab_ok mixed 3000 [cc s5, .t, cc ka] rfl (by (simp only [AllR]; (repeat' first | exact ka | exact s5 | exact True.intro | (show (_ : Bool) = _; assumption) | omega | apply And.intro); all_goals first | (simp; done) | (simp; omega) | exact Nat.le_of_ble_eq_true rfl | kernel_rfl)) (ret_of rfl ?_ trivial trivial)
      (first | exact .inl rfl | rfl | (simp [tle]; done) | (simp_all [tle, tleL]; done))
  · rw [if_neg e] at k1 k2
    have e1 : ((cutF b).2 != 0) = true := by simpa using e
    generalize (cutF b).2 = er at *
    refine g_fin tab_ok mixed 3000 [.f, cc k1, cc k2, .t, .t, cc ka] rfl (by (simp only [AllR]; (repeat' first | exact ka | exact k1 | exact k2 | exact True.intro | (show (_ : Bool) = _; assumption) | omega | apply And.intro); all_goals first | (simp; done) | (simp; omega) | exact Nat.le_of_ble_eq_true rfl | kernel_rfl)) (ret_of rfl ?_ trivial trivial)
    (first | exact .inl rfl | rfl | (simp [tle]; done) | (simp_all [tle, tleL]; done))
end Go.Proofs.YtgoocfelgkagnaaGreatDoor.Vm
