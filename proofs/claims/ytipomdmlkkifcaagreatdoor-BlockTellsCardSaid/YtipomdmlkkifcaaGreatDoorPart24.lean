/- Texts of one proof, gathered: Row3 Rec39 Law39 Law39B. -/
import Derived.Test.YtipomdmlkkifcaaGreatDoorPart4
import Derived.Test.YtipomdmlkkifcaaGreatDoorPart13
import Derived.Test.YtipomdmlkkifcaaGreatDoorPart23
set_option linter.unusedSimpArgs false
set_option linter.unusedVariables false
set_option linter.unnecessarySimpa false
/- What a struct looks like that is handed over and holds slices. -/
namespace Go.Proofs.YtipomdmlkkifcaaGreatDoor.Vm
open Go Go.Proofs Go.RowKit Go.ChangeShapes Go.WideShapes
/-- A slice that lies in plain memory. -/
def SpotOk (v : Value) : Prop := ∀ a len cap, v = .slice (some a) len cap → a.spot = none
theorem cell_spot {P : Program} {w : World} {r : Reach} {b : Nat} {u : TypeId} {v : Value} (h : Cell.okWide P w r b u v) : SpotOk v := by
  rintro a len cap rfl
  unfold Cell.okWide at h
  split at h
  all_goals first | (rename_i h2; cases h2; done) | skip
  unfold Cell.ok at h
  split at h
  all_goals first | (rename_i h2; cases h2; done) | exact h.elim | skip
  rename_i e a' len' cap' _ h2
  cases h2
  exact h.2.2.2.1
def Shape3 (P : Program) : Nat → TypeId → List T → Prop
  | 0, _, _ => False
  | n + 1, t, ts => match P.underlying t with
    | some .bool => ∃ b, ts = [.b b]
    | some (.int k) => ∃ x, ts = [.i k x] ∧ (Lit.int k x).wf = true
    | some .string => ∃ l, ts = [.s l] ∧ (l.length : Int) ≤ 9223372036854775807
    | some (.slice e) => ∃ xs : List (List T), ts = [.sl xs.length xs.flatten] ∧ ∀ x ∈ xs, Shape P 8 e x
    | some (.struct fs) => shapeF (Shape3 P n) fs.toList ts
    | _ => False
def flat3 (P : Program) : Nat → TypeId → Bool
  | 0, _ => false
  | n + 1, t => match P.underlying t with
    | some .bool => true
    | some (.int _) => true
    | some .string => true
    | some (.slice e) => flat P 8 e
    | some (.struct fs) => tiles P fs.toList 0 && Nat.beq (fs.toList.map fun f => P.cellsOf f.type).sum (P.cellsOf t) && fs.toList.all fun f => flat3 P n f.type
    | _ => false
section
variable {H : Type} {enc : TypeId × Value → H} {P : Program} {W : World} {sp : Nat → Bool} {held : Bool}
theorem slice_shape {t e : TypeId} {fu : Nat} {cs : List Value} {x : DataW H × List MemPlace} (ht : P.underlying t = some (.slice e)) (hd : DataW.trod enc P W 0 sp held fu t cs = some x) (hf : flat P 8 e = true) (hs : ∀ v ∈ cs, SpotOk v) :
    ∃ xs : List (List T), PVs W.cell? [.sl xs.length xs.flatten] cs ∧ ∀ x ∈ xs, Shape P 8 e x := by
  rcases Go.Deep.open_slice ht hd with ⟨rfl, _⟩ | ⟨a, len, cap, m, n, D, Pl, rfl, hb, hl, hm, hmm, _, hx⟩
  · exact ⟨[], ⟨_, _, rfl, ⟨none, 0, [], rfl, ⟨Nat.le_refl _, fun _ => rfl⟩, rfl, rfl, rfl⟩, rfl⟩, fun _ h => by simp at h⟩
  · have hs : a.spot = none := hs _ (by simp) a len cap rfl
    have hlm : len ≤ m := by rw [hmm]; split <;> omega
    have each : ∀ i, i < len → ∃ q : List T × List Value, q.2.length = P.cellsOf e ∧ (∀ j, j < P.cellsOf e → W.cell? ((a.add (i * P.cellsOf e)).add j) = q.2[j]?) ∧ PVs W.cell? q.1 q.2 ∧ Shape P 8 e q.1 := fun i hi => by
      obtain ⟨cs', h1, h2⟩ := hx i (by omega)
      obtain ⟨_, h3, h4⟩ := World.cells?_some h1
      obtain ⟨ts, h5, h6⟩ := trod_shape (I := W.cell?) (n := 8) h2 hf
      exact ⟨(ts, cs'), h3, h4, h5, h6⟩
    obtain ⟨q, hq⟩ := Go.Deep.choose_lt each
    refine ⟨(List.range len).map fun i => (q i).1, ?_, fun x hx => ?_⟩
    · have hlen : ((List.range len).map fun i => (q i).1).length = len := by simp
      rw [hlen]
      refine ⟨_, _, rfl, ⟨some a, cap, ((List.range len).map fun i => (q i).2).flatten, rfl, ⟨hl, fun h => by cases h⟩, PVs_flatten (by simp) fun i x y h1 h2 => ?_, hs, fun j v hj => ?_⟩, rfl⟩
      · rw [List.getElem?_map] at h1 h2
        cases hi : (List.range len)[i]? with
        | none => rw [hi] at h1; cases h1
        | some k =>
          rw [hi] at h1 h2
          simp only [Option.map_some, Option.some.injEq] at h1 h2
          subst h1; subst h2
          exact (hq k (List.mem_range.1 (List.mem_of_getElem? hi))).2.2.1
      · obtain ⟨i, r, h1, h2, rfl, h3⟩ := rows_at (fun i hi => (hq i hi).1) hj
        have := (hq i h1).2.1 r h2
        rw [Go.Deep.add_add, h3] at this
        try simp only [Nat.zero_add]
        rw [← this]
        obtain ⟨ab, ao, asp⟩ := a
        simp only at hs; subst hs
        simp only [Addr.add]
        split
        · rename_i h0; rw [h0, Nat.add_zero]
        · rfl
    · rw [List.mem_map] at hx
      obtain ⟨i, hi, rfl⟩ := hx
      exact (hq i (List.mem_range.1 hi)).2.2.2
set_option maxRecDepth 10000 in
theorem trod_shape3 : ∀ {n fuel : Nat} {t : TypeId} {d : DataW H} {p : List MemPlace} {cs : List Value}, DataW.trod enc P W 0 sp held fuel t cs = some (d, p) → flat3 P n t = true → (∀ v ∈ cs, SpotOk v) → ∃ ts, PVs W.cell? ts cs ∧ Shape3 P n t ts
  | 0, _, _, _, _, _, _, h, _ => by simp [flat3] at h
  | n + 1, fuel, t, d, p, cs, hd, h, hs => by
    unfold flat3 at h
    unfold Shape3
    split at h
    · rename_i ht
      cases fuel with
      | zero => simp [DataW.trod] at hd
      | succ m =>
        unfold DataW.trod at hd
        rw [ht] at hd
        split at hd <;> simp_all
        refine ⟨[.b _], ⟨_, _, rfl, rfl, rfl⟩, ?_⟩; simp
    · rename_i k ht
      obtain ⟨z, rfl, _, hw⟩ := DataW.trod_int ht hd
      exact ⟨[.i k z], ⟨_, _, rfl, rfl, rfl⟩, _, rfl, hw⟩
    · rename_i ht
      obtain ⟨⟨⟨s⟩⟩, rfl, _, hs⟩ := DataW.trod_string ht hd
      refine ⟨[.s s], ⟨_, _, rfl, rfl, rfl⟩, _, rfl, ?_⟩
      have h5 : s.length ≤ maxLen := hs
      have h6 : maxLen = 9223372036854775807 := rfl
      rw [h6] at h5
      omega
    · rename_i e ht
      obtain ⟨xs, h1, h2⟩ := slice_shape ht hd h hs
      exact ⟨_, h1, xs, rfl, h2⟩
    · rename_i fs ht
      simp only [Bool.and_eq_true, List.all_eq_true] at h
      obtain ⟨⟨h1, h2⟩, h3⟩ := h
      obtain ⟨xs, m, rfl, _, hl, hn, hf⟩ := DataW.trod_struct ht hd
      have := shape_fields (I := W.cell?) (P := P) (g := Shape3 P n) (cs := cs) (off := 0) h1 (by rw [hl, ← Nat.eq_of_beq_eq_true h2]; simp) fun i f hi => by
        have h4 := hf i f (by simpa using hi)
        have hlt : i < xs.length := by rw [hn]; have := (List.getElem?_eq_some_iff.1 hi).1; simpa using this
        rw [List.getElem?_eq_getElem hlt] at h4
        exact trod_shape3 (d := xs[i].1) (p := xs[i].2) h4 (h3 f (List.mem_of_getElem? hi)) fun v hv => hs v (List.mem_of_mem_drop (List.mem_of_mem_take hv))
      simpa using this
    · cases h
end
/-- A struct that is handed over. -/
theorem open_struct3 {H : Type} {enc : TypeId × Value → H} {P : Program} {W : World} {r : Reach} {b0 : Nat} {sp : Nat → Bool} {held : Bool} {t : TypeId} {fs : Array Field} {v : Value} {d : DataW H} {p : List MemPlace} (ht : P.underlying t = some (.struct fs))
    (hv : Value.okWide P W r b0 t v) (h : DataW.Trod enc P W 0 sp held t v d p) (hf : flat3 P 8 t = true) : ∃ cs ts, v = .agg ⟨cs⟩ ∧ PVs W.cell? ts cs ∧ Shape3 P 8 t ts := by
  have hv0 := hv
  simp only [Value.okWide, ht] at hv0
  obtain ⟨⟨cs⟩, rfl, _, hr⟩ := hv0
  obtain ⟨fu, hd⟩ := h
  obtain ⟨_, _, _, hc⟩ := hr
  obtain ⟨ts, h1, h2⟩ := trod_shape3 (n := 8) hd hf fun v hv => by
    obtain ⟨i, hi⟩ := List.getElem?_of_mem hv
    have hi2 : cs[i]? = some v := hi
    obtain ⟨u, _, hu⟩ := hc i v (by simpa using hi2)
    exact cell_spot hu
  exact ⟨cs, ts, rfl, h1, h2⟩
/-- The cells of a list of attributes that is handed over. -/
theorem atts_of3 : ∀ {ts : List (List T)}, (∀ x ∈ ts, ∃ n s, x = [.i .i64 n, .s s]) → ∃ l : List Att, ts.flatten = attCells l ∧ l.length = ts.length
  | [], _ => ⟨[], rfl, rfl⟩
  | x :: ts, h => by
    obtain ⟨n, s, rfl⟩ := h x (by simp)
    obtain ⟨l, h1, h2⟩ := atts_of3 (ts := ts) fun y hy => h y (by simp [hy])
    exact ⟨(n, s) :: l, by rw [List.flatten_cons, h1]; rfl, by simp [h2]⟩
end Go.Proofs.YtipomdmlkkifcaaGreatDoor.Vm
/- Contracts: clavigerref22.Width, Order, Scalar; clavigerref23.Curve, Check; clavigerref27.Check; clavigerref36.Total, Pads; clavigerplain.Alike, Nothing, Record. -/
set_option maxRecDepth 100000
namespace Go.Proofs.YtipomdmlkkifcaaGreatDoor.Vm
open Go Go.Proofs Go.RowKit
variable {ml : Int}
theorem rWidth (no : Int) : Ret P (C ml) 176 [.i .i64 no] (.i .i64 (cWid no)) := by
  refine hR Tryz.func176 ?_
  rcases Bool.eq_false_or_eq_true (no == 1) with c1 | c1
  · have d1 := c1; (try simp at d1)
    refine g_fin tab_ok mixed 3000 [.t] rfl (by (simp only [AllR]; (repeat' first | exact (ret_of rfl ?_ trivial trivial) | exact True.intro | (show (_ : Bool) = _; assumption) | omega | apply And.intro); all_goals first | (simp; done) | (simp; omega) | (simp_all; done) | exact Nat.le_of_ble_eq_true rfl | kernel_rfl)) (ret_of rfl ?_ trivial trivial)
    simp [tle, cWid]; grind
  · have d1 := c1; (try simp at d1)
    rcases Bool.eq_false_or_eq_true (no == 2) with c2 | c2
    · have d2 := c2; (try simp at d2)
      refine g_fin tab_ok mixed 3000 [.f, .t] rfl (by (simp only [AllR]; (repeat' first | exact (ret_of rfl ?_ trivial trivial) | exact True.intro | (show (_ : Bool) = _; assumption) | omega | apply And.intro); all_goals first | (simp; done) | (simp; omega) | (simp_all; done) | exact Nat.le_of_ble_eq_true rfl | kernel_rfl)) (ret_of rfl ?_ trivial trivial)
      simp [tle, cWid]; grind
    · have d2 := c2; (try simp at d2)
      rcases Bool.eq_false_or_eq_true (no == 3) with c3 | c3
      · have d3 := c3; (try simp at d3)
        refine g_fin tab_ok mixed 3000 [.f, .f, .t] rfl (by (simp only [AllR]; (repeat' first | exact (ret_of rfl ?_ trivial trivial) | exact True.intro | (show (_ : Bool) = _; assumption) | omega | apply And.intro); all_goals first | (simp; done) | (simp; omega) | (simp_all; done) | exact Nat.le_of_ble_eq_true rfl | kernel_rfl)) (ret_of rfl ?_ trivial trivial)
        simp [tle, cWid]; grind
      · have d3 := c3; (try simp at d3)
        rcases Bool.eq_false_or_eq_true (no == 4) with c4 | c4
        · have d4 := c4; (try simp at d4)
          refine g_fin tab_ok mixed 3000 [.f, .f, .f, .t] rfl (by (simp only [AllR]; (repeat' first | exact (ret_of rfl ?_ trivial trivial) | exact True.intro | (show (_ : Bool) = _; assumption) | omega | apply And.intro); all_goals first | (simp; done) | (simp; omega) | (simp_all; done) | exact Nat.le_of_ble_eq_true rfl | kernel_rfl)) (ret_of rfl ?_ trivial trivial)
          simp [tle, cWid]; grind
        · have d4 := c4; (try simp at d4)
          refine g_fin tab_ok mixed 3000 [.f, .f, .f, .f] rfl (by (simp only [AllR]; (repeat' first | exact (ret_of rfl ?_ trivial trivial) | exact True.intro | (show (_ : Bool) = _; assumption) | omega | apply And.intro); all_goals first | (simp; done) | (simp; omega) | (simp_all; done) | exact Nat.le_of_ble_eq_true rfl | kernel_rfl)) (ret_of rfl ?_ trivial trivial)
          simp [tle, cWid]; grind
theorem rOrder (no : Int) : Ret P (C ml) 177 [.i .i64 no] (.s (ordL no)) := by
  have k2 := unhex02 (ml := ml) (cOrd no) (cOrd_len no)
  unfold ordL
  generalize ho : (unhexO (cOrd no)).getD [] = o at *
  generalize (unhexO (cOrd no)).isSome = z at *
  clear ho
  unfold cOrd at k2
  by_cases h1 : no = 1
  · subst h1
    rw [if_pos rfl] at k2
    have c1 : ((1 : Int) == 1) = true := rfl
    refine hR Tryz.func177 ?_
    refine gF [.t, cc k2] rfl (ret_of rfl ?_ trivial trivial)
    exact rfl
  rw [if_neg h1] at k2
  have d1 : (no == 1) = false := by simpa using h1
  by_cases h2 : no = 2
  · rw [if_pos h2] at k2
    have c1 : (no == 2) = true := by simpa using h2
    refine hR Tryz.func177 ?_
    refine gF [.f, .t, cc k2] rfl (ret_of rfl ?_ trivial trivial)
    exact rfl
  rw [if_neg h2] at k2
  have d2 : (no == 2) = false := by simpa using h2
  by_cases h3 : no = 3
  · rw [if_pos h3] at k2
    have c1 : (no == 3) = true := by simpa using h3
    refine hR Tryz.func177 ?_
    refine gF [.f, .f, .t, cc k2] rfl (ret_of rfl ?_ trivial trivial)
    exact rfl
  rw [if_neg h3] at k2
  have d3 : (no == 3) = false := by simpa using h3
  by_cases h4 : no = 4
  · rw [if_pos h4] at k2
    have c1 : (no == 4) = true := by simpa using h4
    refine hR Tryz.func177 ?_
    refine gF [.f, .f, .f, .t, cc k2] rfl (ret_of rfl ?_ trivial trivial)
    exact rfl
  rw [if_neg h4] at k2
  have d4 : (no == 4) = false := by simpa using h4
  refine hR Tryz.func177 ?_
  refine gF [.f, .f, .f, .f, cc k2] rfl (ret_of rfl ?_ trivial trivial)
  exact rfl
theorem someL_take (s : List UInt8) (i : Nat) (h : i < s.length) : someL (s.take (i + 1)) = (someL (s.take i) || (s.getD i 0 != 0)) := by
  unfold someL
  rw [List.take_succ_eq_append_getElem h, List.any_append]
  simp [h]
theorem rScalar (no : Int) (s : List UInt8) (hl : s.length ≤ 1000000) : Ret P (C ml) 109 [.i .i64 no, .s s] (.b (scalOk no s)) := by
  have k1 := rWidth (ml := ml) no
  have k2 := rOrder (ml := ml) no
  unfold scalOk
  generalize ordL no = o at *
  by_cases h1 : cWid no = 0
  · have c1 : (cWid no == 0) = true := by simpa using h1
    rw [decide_eq_false (by simp [h1])]
    refine hR Tryz.func109 ?_
    refine gF [cc k1, .t] rfl (ret_of rfl ?_ trivial trivial)
    exact .inr rfl
  · have c1 : (cWid no == 0) = false := by simpa using h1
    by_cases h2 : (s.length : Int) = cWid no
    · have c2 : ((s.length : Int) != cWid no) = false := by simpa using h2
      rw [decide_eq_true ⟨h1, h2⟩, Bool.true_and]
      refine hR Tryz.func109 ?_
      refine gR [cc k1, .f, cc k1, .f] rfl ?_
      refine g_loop (fun i : Nat => [(0, .i .i64 no), (1, .s s), (5, .b (someL (s.take i))), (6, .i .i64 i)]) (fun _ => []) (fun i => i ≤ s.length) (fun i => s.length - i) 0 ⟨⟨rfl, rfl, .inr (congrArg T.bl (by simp [someL])), rfl, trivial⟩, trivial, trivial⟩ (by omega) ?_
      intro i hi
      clear k1 c1 c2
      by_cases h : i < s.length
      · have c1 : decide ((i : Int) < (s.length : Int)) = true := decide_eq_true (by omega)
        have et := someL_take s i h
        have hb : (bt s (i : Int) != 0) = (s.getD i 0 != 0) := by
          show (((s.getD i 0).toNat : Int) != 0) = _
          generalize s.getD i 0 = x
          rw [Bool.eq_iff_iff]
          simp only [bne_iff_ne, ne_eq]
          rw [← UInt8.toNat_inj]; simp
        have q1 : (i : Int) < (s.length : Int) := by omega
        cases hz : (s.getD i 0 != 0) with
        | true =>
          rw [hz] at hb et
          refine gF [.t, .t] rfl (rd_next (i + 1) (by omega) (by omega) ⟨rfl, rfl, .inr (congrArg T.bl ?_), ?_, trivial⟩ trivial trivial)
          · rw [et]; simp
          · show T.i _ _ = T.i _ _
            rw [w64 (by omega) (by omega)]; simp
        | false =>
          rw [hz] at hb et
          refine gF [.t, .f] rfl (rd_next (i + 1) (by omega) (by omega) ⟨rfl, rfl, .inl (congrArg T.b ?_), ?_, trivial⟩ trivial trivial)
          · rw [et]; simp
          · show T.i _ _ = T.i _ _
            rw [w64 (by omega) (by omega)]; simp
      · have e : i = s.length := by omega
        subst e
        have c1 : decide ((s.length : Int) < (s.length : Int)) = false := decide_eq_false (by omega)
        rw [List.take_of_length_le (Nat.le_refl _)]
        refine gF [.f] rfl (rd_exit rfl ?_)
        cases someL s with
        | true =>
          refine gF [.t, cc k2] rfl (ret_of rfl ?_ trivial trivial)
          exact .inl rfl
        | false =>
          refine gF [.f] rfl (ret_of rfl ?_ trivial trivial)
          exact .inr rfl
    · have c2 : ((s.length : Int) != cWid no) = true := by simpa using h2
      rw [decide_eq_false (fun h => h2 h.2)]
      refine hR Tryz.func109 ?_
      refine gF [cc k1, .f, cc k1, .t] rfl (ret_of rfl ?_ trivial trivial)
      exact .inr rfl
theorem rCurve (k : Int) : Ret P (C ml) 108 [.i .i64 k] (.i .i64 (kCurve k)) := by
  unfold kCurve
  by_cases h1 : k ≥ 8
  · have c1 : decide (k ≥ 8) = true := decide_eq_true h1
    by_cases h2 : k ≤ 11
    · have c2 : decide (k ≤ 11) = true := decide_eq_true h2
      rw [if_pos ⟨h1, h2⟩]
      refine hR Tryz.func108 ?_
      refine gF [.t, .t] rfl (ret_of rfl ?_ trivial trivial)
      exact congrArg (T.i .i64) (w64 (by omega) (by omega))
    · have c2 : decide (k ≤ 11) = false := decide_eq_false h2
      rw [if_neg (fun h => h2 h.2)]
      refine hR Tryz.func108 ?_
      refine gF [.t, .f] rfl (ret_of rfl ?_ trivial trivial)
      exact rfl
  · have c1 : decide (k ≥ 8) = false := decide_eq_false h1
    rw [if_neg (fun h => h1 h.1)]
    refine hR Tryz.func108 ?_
    refine gF [.f] rfl (ret_of rfl ?_ trivial trivial)
    exact rfl
theorem rCheck23 (k : Int) (key : List UInt8) (hl : key.length ≤ 1000000) : Ret P (C ml) 56 [.i .i64 k, .s key] (.i .i64 (kChk k key)) := by
  have k1 := rSize (ml := ml) k
  have k2 := rCurve (ml := ml) k
  have k3 := rScalar (ml := ml) (kCurve k) key hl
  unfold kChk
  by_cases h1 : kSize k = 0
  · have c1 : (kSize k == 0) = true := by simpa using h1
    rw [if_pos h1]
    refine hR Tryz.func56 ?_
    refine gF [cc k1, .t] rfl (ret_of rfl ?_ trivial trivial)
    exact rfl
  · have c1 : (kSize k == 0) = false := by simpa using h1
    rw [if_neg h1]
    by_cases h2 : kSize k = key.length
    · have c2 : ((key.length : Int) != kSize k) = false := by simpa using h2.symm
      rw [if_neg (by simpa using h2)]
      by_cases h3 : 0 < kCurve k
      · have c3 : decide (kCurve k > 0) = true := decide_eq_true h3
        cases h4 : scalOk (kCurve k) key with
        | true =>
          rw [h4] at k3
          rw [if_neg (by simp)]
          refine hR Tryz.func56 ?_
          refine gF [cc k1, .f, cc k1, .f, cc k2, .t, cc k2, cc k3, .f] rfl (ret_of rfl ?_ trivial trivial)
          exact rfl
        | false =>
          rw [h4] at k3
          rw [if_pos ⟨h3, rfl⟩]
          refine hR Tryz.func56 ?_
          refine gF [cc k1, .f, cc k1, .f, cc k2, .t, cc k2, cc k3, .t] rfl (ret_of rfl ?_ trivial trivial)
          exact rfl
      · have c3 : decide (kCurve k > 0) = false := decide_eq_false h3
        rw [if_neg (fun h => h3 h.1)]
        refine hR Tryz.func56 ?_
        refine gF [cc k1, .f, cc k1, .f, cc k2, .f] rfl (ret_of rfl ?_ trivial trivial)
        exact rfl
    · have c2 : ((key.length : Int) != kSize k) = true := by simp; exact fun e => h2 e.symm
      rw [if_pos h2]
      refine hR Tryz.func56 ?_
      refine gF [cc k1, .f, cc k1, .t] rfl (ret_of rfl ?_ trivial trivial)
      exact rfl
theorem rCheck27 (r : Rc) (hy : r.y.length ≤ 1000000) (ha : r.a.length ≤ 100000) : Ret P (C ml) 20 [.agg r.cells] (.i .i64 (recChk r)) := by
  have k1 := rCheck23 (ml := ml) r.k r.y hy
  have k2 := rACheck (ml := ml) r.a ha
  unfold recChk Rc.cells
  generalize kChk r.k r.y = e at *
  by_cases h : e = 0
  · subst h
    rw [if_pos rfl]
    have c1 : ((0 : Int) != 0) = false := rfl
    refine hR Tryz.func20 ?_
    refine gF [cc k1, .f, cc k2] rfl (ret_of rfl ?_ trivial trivial)
    exact rfl
  · rw [if_neg h]
    have c1 : (e != 0) = true := by simpa using h
    refine hR Tryz.func20 ?_
    refine gF [cc k1, .t] rfl (ret_of rfl ?_ trivial trivial)
    exact rfl
theorem alikeX (r : Rc) (ha : r.a.length ≤ 100000) : Ret P (C ml) 17 [.agg r.cells, .agg r.cells] (.b true) := by
  have k1 := plainAttrs (ml := ml) r.a ha
  have e1 : ∀ X Y : Operand, Says P .eql 31 X Y (.agg [.s r.h.u, .s r.h.m, .s r.h.v, .s r.h.e]) (.agg [.s r.h.u, .s r.h.m, .s r.h.v, .s r.h.e]) true := fun X Y => by
    have := (says_head (X := X) (Y := Y) r.h.u r.h.m r.h.v r.h.e r.h.u r.h.m r.h.v r.h.e).1
    rwa [show (r.h.u == r.h.u && (r.h.m == r.h.m && (r.h.v == r.h.v && r.h.e == r.h.e))) = true by simp] at this
  have b1 : (r.k == r.k) = true := beq_self_eq_true _
  have b2 : (r.y == r.y) = true := beq_self_eq_true _
  unfold Rc.cells
  refine hR Tryz.func17 ?_
  refine g_fin tab_ok mixed 3000 [.t, .t, sz (e1 (Operand.tmp 19) (Operand.tmp 21)), .t, cc k1] rfl (by (simp only [AllR]; (repeat' first | exact k1 | exact e1 _ _ | exact True.intro | (show (_ : Bool) = _; assumption) | omega | apply And.intro); all_goals first | (simp; done) | (simp; omega) | exact Nat.le_of_ble_eq_true rfl | kernel_rfl)) (ret_of rfl ?_ trivial trivial)
  exact .inl rfl
theorem alikeNil : Ret P (C ml) 17 [.agg noneRc, .agg noneRc] (.b true) := by
  have k1 := plainAttrsNil (ml := ml)
  have e1 : ∀ X Y : Operand, Says P .eql 31 X Y (.agg [.s [], .s [], .s [], .s []]) (.agg [.s [], .s [], .s [], .s []]) true := fun X Y => by
    have := (says_head (X := X) (Y := Y) [] [] [] [] [] [] [] []).1
    exact this
  have b1 : ((0 : Int) == 0) = true := rfl
  have b2 : (([] : List UInt8) == []) = true := rfl
  refine hR Tryz.func17 ?_
  refine g_fin tab_ok mixed 3000 [.t, .t, sz (e1 (Operand.tmp 19) (Operand.tmp 21)), .t, cc k1] rfl (by (simp only [AllR]; (repeat' first | exact k1 | exact e1 _ _ | exact True.intro | (show (_ : Bool) = _; assumption) | omega | apply And.intro); all_goals first | (simp; done) | (simp; omega) | exact Nat.le_of_ble_eq_true rfl | kernel_rfl)) (ret_of rfl ?_ trivial trivial)
  exact .inl rfl
end Go.Proofs.YtipomdmlkkifcaaGreatDoor.Vm
/- Contracts: layer 39's awake, BlockOne, BlockBack. -/
set_option maxRecDepth 100000
namespace Go.Proofs.YtipomdmlkkifcaaGreatDoor.Vm
open Go Go.Proofs Go.RowKit
variable {ml : Int}
theorem VRs_nil9 {ρ : Place} {hl : Objs} {I : Mem} {ys : List T} : ∀ {xs : List T} {vs : List Value}, VRs ρ hl I (xs ++ .nsl :: ys) vs → VRs ρ hl I (xs ++ .sl 0 [] :: ys) vs
  | [], vs, h => by
    simp only [List.nil_append] at h ⊢
    unfold VRs at h ⊢
    obtain ⟨v, rs, rfl, h1, h2⟩ := h
    exact ⟨v, rs, rfl, nil_sl h1, h2⟩
  | x :: xs, vs, h => by
    simp only [List.cons_append] at h ⊢
    unfold VRs at h ⊢
    obtain ⟨v, rs, rfl, h1, h2⟩ := h
    exact ⟨v, rs, rfl, h1, VRs_nil9 h2⟩
theorem agg_nil9 {ρ : Place} {hl : Objs} {I : Mem} {xs ys : List T} {v : Value} (h : VR ρ hl I (.agg (xs ++ .nsl :: ys)) v) : VR ρ hl I (.agg (xs ++ .sl 0 [] :: ys)) v := by
  unfold VR at h ⊢
  obtain ⟨vs, rfl, h⟩ := h
  exact ⟨vs, rfl, VRs_nil9 h⟩
abbrev h39 : Hd := ⟨[75, 48], [66], [48, 48], [69]⟩
abbrev s39 : List UInt8 := [68, 48, 49, 52, 52, 75, 48, 65, 66, 48, 48, 69, 48, 48, 48, 48]
abbrev y39 : List UInt8 := [48, 49, 50, 51, 52, 53, 54, 55, 56, 57, 97, 98, 99, 100, 101, 102]
abbrev k39 : List UInt8 := [102, 101, 100, 99, 98, 97, 57, 56, 55, 54, 53, 52, 51, 50, 49, 48]
abbrev p39 : List UInt8 := [80, 65, 68, 80, 65, 68, 80, 65, 68, 80, 65, 68, 80, 65, 68, 80, 65, 68, 80, 65, 68, 80, 65, 68, 80, 65, 68, 80, 65, 68]
abbrev r39 : Rc := ⟨1, y39, [], h39⟩
/-- The record, its attributes nil. -/
abbrev n39 : List T := [.i .i64 1, .s y39, .nsl, .s [75, 48], .s [66], .s [48, 48], .s [69]]
theorem n39_r {ρ : Place} {hl : Objs} {I : Mem} {v : Value} (h : VR ρ hl I (.agg n39) v) : VR ρ hl I (.agg r39.cells) v := agg_nil9 (xs := [.i .i64 1, .s y39]) (ys := [.s [75, 48], .s [66], .s [48, 48], .s [69]]) h
theorem top39 : topB r39 = (s39, 0) := by
  have e1 : optsA [] = ([], 0) := rfl
  have e2 : packL [] = ([], 0, 0) := by simp [packL, packOk, encAll, padL]
  have e3 : hEnc ⟨144, [65], 0, h39⟩ = (s39, 0) := by
    rw [hEnc, if_neg (by decide), if_pos (by decide)]
    simp [decW, decDigits_one, decDigits_snoc 144 (by decide), decDigits_snoc 14 (by decide), h39, s39]
  unfold topB
  rw [if_pos (by decide), if_pos (by decide)]
  show topL [65] h39 [] 48 = _
  unfold topL
  rw [if_neg (by decide), if_pos (by decide), e1]
  simp only
  rw [if_neg (by decide), e2]
  simp only
  rw [if_neg (by decide)]
  show ((hEnc ⟨144, [65], 0, h39⟩).1 ++ [], (0 : Int)) = _
  rw [e3]; rfl
theorem exp39 : ∃ b, expB k39 r39 p39 = (b, 0) ∧ b.length = 144 ∧ b.take 16 = s39 ∧ impB k39 b = (r39, p39, 0) ∧ szB39 r39 = 144 := by
  have h2 : (expB k39 r39 p39).2 = 0 := by
    unfold expB
    rw [if_neg (by decide), top39, if_neg (by decide)]
    rfl
  obtain ⟨b1, b2⟩ := back39 h2
  have hs : szB39 r39 = 144 := by unfold szB39; rw [top39]; rfl
  refine ⟨(expB k39 r39 p39).1, by rw [← h2], by omega, ?_, b1, hs⟩
  unfold expB
  rw [if_neg (by decide), top39, if_neg (by decide), if_neg (by simp)]
  rw [List.append_assoc]
  exact List.take_left' rfl
theorem full39 : Ret P (C ml) 37 [] (.agg n39) := by
  refine hR Tryz.func37 ?_
  refine gF [] rfl (ret_of rfl ?_ trivial trivial)
  exact ⟨rfl, rfl⟩
theorem awake39 : Ret P (C ml) 12 [] (.b true) := by
  obtain ⟨b, e1, e2, e3, e4, e5⟩ := exp39
  have k0 := full39 (ml := ml)
  have k1 := bExport (ml := ml) k39 r39 p39 (by decide) (by decide) (by decide) (by decide) (by decide)
  rw [e1] at k1
  have k1 : Ret P (C ml) 13 [.s k39, .agg n39, .s p39] (.tup [.s b, .i .i64 0]) := ret_args (fun ρ I vals h => by
    unfold VRs at h ⊢
    obtain ⟨v1, r1, rfl, h1, h⟩ := h
    unfold VRs at h
    obtain ⟨v2, r2, rfl, h2, h3⟩ := h
    refine ⟨v1, _, rfl, h1, ?_⟩
    unfold VRs
    exact ⟨v2, r2, rfl, n39_r h2, h3⟩) k1
  have k2 := bImport (ml := ml) k39 b (by decide) (by omega)
  rw [e4] at k2
  have k2 : Ret P (C ml) 15 [.s k39, .s b] (.tup [.agg r39.cells, .s p39, .i .i64 0]) := k2
  have k3 : Ret P (C ml) 17 [.agg r39.cells, .agg n39] (.b true) := ret_args (fun ρ I vals h => by
    unfold VRs at h ⊢
    obtain ⟨v1, r1, rfl, h1, h⟩ := h
    unfold VRs at h
    obtain ⟨v2, r2, rfl, h2, h3⟩ := h
    refine ⟨v1, _, rfl, h1, ?_⟩
    unfold VRs
    exact ⟨v2, r2, rfl, n39_r h2, h3⟩) (alikeX (ml := ml) r39 (by decide))
  have k4 := bSize (ml := ml) r39 (by decide) (by decide) (by decide)
  rw [e5] at k4
  have k4 : Ret P (C ml) 18 [.agg n39] (.i .i64 144) := ret_args (fun ρ I vals h => by
    unfold VRs at h ⊢
    obtain ⟨v1, r1, rfl, h1, h⟩ := h
    exact ⟨v1, r1, rfl, n39_r h1, h⟩) k4
  have c1 : ((b.length : Int) == 144) = true := by simp; omega
  have c2 : (b.take 16 == s39) = true := by rw [e3]; rfl
  have c3 : ((0 : Int) == 0) = true := rfl
  have c4 : (p39 == p39) = true := rfl
  have c5 : ((144 : Int) == 144) = true := rfl
  have q1 : (16 : Int) ≤ (b.length : Int) := by omega
  clear e1 e2 e3 e4 e5
  unfold Rc.cells at k2 k3
  refine hR Tryz.func12 ?_
  refine gF [cc k0, cc k1, cc k2, .t, .t, .t, cc k0, cc k3, .t, .t, .t, cc k0, cc k4] rfl (ret_of rfl ?_ trivial trivial)
  exact .inl rfl
end Go.Proofs.YtipomdmlkkifcaaGreatDoor.Vm
/- Contracts: layer 39's BlockBack. -/
set_option maxRecDepth 100000
namespace Go.Proofs.YtipomdmlkkifcaaGreatDoor.Vm
open Go Go.Proofs Go.RowKit
variable {ml : Int}
def recFine (r : Rc) : Bool := decide (r.y.length ≤ 100) && (few r.a 40 && hdFine r.h)
theorem plainRec (r : Rc) (hy : r.y.length ≤ 9223372036854775807) : Ret P (C ml) 11 [.agg r.cells] (.b (recFine r)) := by
  have k1 := plainFew (ml := ml) r.a 40 (by decide)
  have k2 := plainHead (ml := ml) r.h
  unfold recFine
  unfold Rc.cells
  unfold Hd.cells at k2
  by_cases h1 : r.y.length ≤ 100
  · have c1 : decide ((r.y.length : Int) ≤ 100) = true := decide_eq_true (by omega)
    rw [decide_eq_true h1, Bool.true_and]
    cases h2 : few r.a 40 with
    | true =>
      rw [h2] at k1
      refine hR Tryz.func11 ?_
      refine gF [.t, cc k1, .t, cc k2] rfl (ret_of rfl ?_ trivial trivial)
      exact .inl rfl
    | false =>
      rw [h2] at k1
      refine hR Tryz.func11 ?_
      refine gF [.t, cc k1, .f] rfl (ret_of rfl ?_ trivial trivial)
      exact .inr rfl
  · have c1 : decide ((r.y.length : Int) ≤ 100) = false := decide_eq_false (by omega)
    rw [decide_eq_false h1]
    refine hR Tryz.func11 ?_
    refine gF [.f] rfl (ret_of rfl ?_ trivial trivial)
    exact .inr rfl
theorem kMost_tot (l : List UInt8) (h : kMost l ≠ 0) : totL l - 14 ≤ kMost l + 2 ∧ kMost l + 2 ≤ totL l ∧ 0 < kMost l := by
  unfold kMost totL at *
  split at h
  · rename_i e; subst e; decide
  split at h
  · rename_i e; subst e; decide
  split at h
  · rename_i e; subst e; decide
  split at h
  · rename_i e; subst e; decide
  · exact absurd rfl h
theorem rTotal36 (l : List UInt8) : Ret P (C ml) 55 [.s l] (.i .i64 (totL l)) := by
  have k1 := rMost (ml := ml) l
  have ht := totL_16 l
  by_cases h : kMost l = 0
  · rw [(totL_zero l).2 h]
    have c1 : (kMost l == 0) = true := by simpa using h
    refine hR Tryz.func55 ?_
    refine gF [cc k1, .t] rfl (ret_of rfl ?_ trivial trivial)
    exact rfl
  · have c1 : (kMost l == 0) = false := by simpa using h
    obtain ⟨m1, m2, m3⟩ := kMost_tot l h
    generalize kMost l = m at *
    generalize totL l = t at *
    refine hR Tryz.func55 ?_
    refine gR [cc k1, .f] rfl ?_
    refine g_loop (fun n : Int => [(3, .i .i64 n)]) (fun _ => []) (fun n => t - 14 ≤ n ∧ n ≤ t) (fun n => (t - n).toNat) (m + 2) ⟨⟨congrArg (T.i .i64) (w64 (by omega) (by omega)), trivial⟩, trivial, trivial⟩ ⟨m1, m2⟩ ?_
    rintro n ⟨n1, n2⟩
    by_cases e : n = t
    · subst e
      have c2 : (n.tmod 16 != 0) = false := by rw [Int.tmod_eq_emod_of_nonneg (by omega)]; simp; omega
      refine gF [.f] rfl (rd_exit rfl ?_)
      refine gF [] rfl (ret_of rfl ?_ trivial trivial)
      exact rfl
    · have c2 : (n.tmod 16 != 0) = true := by rw [Int.tmod_eq_emod_of_nonneg (by omega)]; simp; omega
      refine gF [.t] rfl (rd_next (n + 1) ⟨by omega, by omega⟩ (by omega) ⟨congrArg (T.i .i64) (w64 (by omega) (by omega)), trivial⟩ trivial trivial)
theorem rPads36 (k : Int) : Ret P (C ml) 23 [.i .i64 k] (.i .i64 (padsL k)) := by
  have k1 := rSize (ml := ml) k
  have k2 := rLetter (ml := ml) k
  have k3 := rTotal36 (ml := ml) (kLetter k)
  have h1 := kSize_le k
  have h2 := totL_16 (kLetter k)
  unfold padsL
  by_cases h : kSize k = 0
  · rw [if_pos h]
    have c1 : (kSize k == 0) = true := by simpa using h
    refine hR Tryz.func23 ?_
    refine gF [cc k1, .t] rfl (ret_of rfl ?_ trivial trivial)
    exact rfl
  · rw [if_neg h]
    have c1 : (kSize k == 0) = false := by simpa using h
    have e : IntKind.i64.wrap (IntKind.i64.wrap (totL (kLetter k) - 2) - kSize k) = totL (kLetter k) - kSize k - 2 := by rw [w64 (x := totL (kLetter k) - 2) (by omega) (by omega), w64 (by omega) (by omega)]; omega
    refine hR Tryz.func23 ?_
    refine gF [cc k1, .f, cc k2, cc k3, cc k1] rfl (ret_of rfl ?_ trivial trivial)
    exact congrArg (T.i .i64) e
theorem nR_iff (n : Nat) : nRounds n ≠ 0 ↔ n = 16 ∨ n = 24 ∨ n = 32 := by
  refine ⟨nR_pos, ?_⟩
  rintro (rfl | rfl | rfl) <;> decide
theorem recFine_ok {r : Rc} (h : recFine r = true) : r.y.length ≤ 100 ∧ r.a.length ≤ 40 ∧ hdFine r.h = true := by
  unfold recFine at h
  rw [Bool.and_eq_true, Bool.and_eq_true] at h
  refine ⟨of_decide_eq_true h.1, ?_, h.2.2⟩
  have := h.2.1
  unfold few at this
  rw [Bool.and_eq_true] at this
  have := of_decide_eq_true this.1
  omega
end Go.Proofs.YtipomdmlkkifcaaGreatDoor.Vm
