/- The symbolic machine, part 8: slices, fields, elements; conversions; append; iterators. -/
import Derived.Test.YtdiippegaidpkaaDoorVm7
set_option linter.unusedVariables false
set_option linter.unusedSimpArgs false
namespace Go.Proofs.YtdiippegaidpkaaDoor.Vm
open Go
section
variable {P : Program} {C : Ctx} {E : Ent} {ρ : Place} {hf : Objs} {I : Mem} {w : World} {a : Act} {o : Oper}
theorem zeros_eq (n : Nat) (z : List T) : zeros n z = reps n z := by
  unfold zeros
  split
  · rename_i x
    induction n with
    | zero => rfl
    | succ n ih => simp [reps, List.replicate_succ, ← ih]
  · rfl
theorem plainL_append : ∀ {x y : List T}, plainL x = true → plainL y = true → plainL (x ++ y) = true
  | [], _, _, h => h
  | t :: x, y, h1, h2 => by
    simp only [plainL] at h1
    cases hb : plain t with
    | false => rw [hb] at h1; simp at h1
    | true => rw [hb] at h1; simp only [List.cons_append, plainL, hb]; exact plainL_append h1 h2
theorem plainL_reps {z : List T} (h : plainL z = true) : ∀ n, plainL (reps n z) = true
  | 0 => rfl
  | n + 1 => plainL_append h (plainL_reps h n)
theorem makeSlice_ok {t : TypeId} {l c : T} {L K : Operand} {r : AR} (hT : TabOk P C) (hs : HS ρ hf I w) (hx : Ext E.w0 E.own E.I0 ρ hf I w) (ho : o.op = .makeSlice t L K)
    (h : aMakeSlice C hf o.dst t l c = some r) (hq : ∀ p ∈ r.q, p) (hl : VR ρ hf I l (a.eval L)) (hc : VR ρ hf I c (a.eval K)) : Does P E hf ρ I o r.t r.d a w := by
  unfold aMakeSlice at h
  have hk := (hT t).1
  split at h
  · rename_i e k1 l1 k2 c1 hke; rw [hke] at hk
    obtain ⟨hu, ⟨ie, z, i1, i2, i3, i4, i5, i6, _⟩, _⟩ := hk
    split at h
    · rename_i hp
      obtain ⟨s, hd, h1, h2, h3⟩ := mkObj_inv h
      obtain ⟨b1, b2, b3, b4⟩ : _ ∧ _ ∧ _ ∧ _ := hq _ (by rw [h3]; exact List.mem_singleton.2 rfl)
      simp only [VR] at hl hc
      have hz : VRs ρ hf I (tin C e).zero z.cells.toList := PVs.vrs _ _ (gndL_pvs i5)
      have hrun := run_make (P := P) w t e ie z hu i1 i4 k1 k2 l1 c1 b1 b2 (by rw [i3, Int.mul_comm]; exact b3) (by omega)
      have hsz : (madeCells z.cells (c1.toNat * ie.size)).size = c1.toNat * (tin C e).size := by rw [size_madeCells, i2]
      have hle : l1.toNat ≤ c1.toNat := by omega
      rw [h1, h2, zeros_eq]
      refine new_does (w1 := w) (c := madeCells z.cells (c1.toNat * ie.size)) (e := e) (v := .slice (some ⟨w.heap.size, 0, none⟩) l1.toNat c1.toNat) fitS (.inl rfl) hs hx ?_ ?_ (fun _ => plainL_reps hp _) (VR_new_ref (by rw [hsz, szOf_tsz C]; exact Nat.le_refl _) hle)
      · rw [execOp, ho]; simp only [hl, hc, Sem.run_bind, hrun, Result.andThen_ok]; rfl
      · rw [reps_length, i6]
        rcases Nat.eq_zero_or_pos (tin C e).size with h0 | h0
        · have : (tin C e).zero = [] := List.length_eq_zero_iff.1 (by omega)
          rw [h0, this]; simp
          have : ∀ n, reps n ([] : List T) = [] := fun n => List.length_eq_zero_iff.1 (by rw [reps_length]; simp)
          rw [this]; rfl
        · have := (reps_rel (n := c1.toNat) hz i6 h0).take (l1.toNat * (tin C e).size)
          rw [i2]
          have e1 : (reps c1.toNat (tin C e).zero).take (l1.toNat * (tin C e).size) = reps l1.toNat (tin C e).zero := by
            apply List.ext_getElem?
            intro j
            rw [List.getElem?_take]
            split
            · rename_i hj
              rw [reps_get i6 h0 _ _ (Nat.lt_of_lt_of_le hj (Nat.mul_le_mul_right _ hle)), reps_get i6 h0 _ _ hj]
            · rename_i hj
              rw [List.getElem?_eq_none]; rw [reps_length, i6]; omega
          rw [e1] at this
          exact this
    · cases h
  · cases h
/-- A bound that was told or not. -/
theorem intOr_inv {x : Option T} {v : Option Value} {d n : Int} (h : intOr x d = some n) (hv : ∀ y, x = some y → ∃ u, v = some u ∧ VR ρ hf I y u) (hv' : x = none → v = none) :
    (v = none ∧ n = d) ∨ ∃ k, v = some (.int k n) := by
  unfold intOr at h
  split at h
  · simp only [Option.some.injEq] at h; exact .inl ⟨hv' rfl, h.symm⟩
  · simp only [Option.some.injEq] at h; subst h
    obtain ⟨u, rfl, hu⟩ := hv _ rfl
    simp only [VR] at hu; subst hu
    exact .inr ⟨_, rfl⟩
  · cases h
theorem slice_run {t e : TypeId} {inf : TypeInfo} (hu : P.underlying t = some (.slice e)) (hi : P.info? e = some inf) {b : Option Addr} {n cap : Nat} {vlo vhi : Option Value} {x y : Int}
    (hlo : (vlo = none ∧ x = 0) ∨ ∃ k, vlo = some (.int k x)) (hhi : (vhi = none ∧ y = (n : Int)) ∨ ∃ k, vhi = some (.int k y)) (h0 : 0 ≤ x) (h1 : x ≤ y) (h2 : y ≤ n) (h3 : n ≤ cap) :
    (Instr.sliceAt t (.slice b n cap) vlo vhi none).run P w = .ok (.slice (if cap = x.toNat then b else b.map (·.add (x.toNat * inf.size))) (y.toNat - x.toNat) (cap - x.toNat)) w := by
  have hs : (sizeOf e).run P w = .ok inf.size w := by simp [sizeOf, typeInfo, hi]
  have hxy : x ≤ (y.toNat : Int) := by omega
  have hyc : y ≤ (cap : Int) := by omega
  have hy0 : 0 ≤ y := by omega
  have hnn : (n : Int).toNat = n := by omega
  rcases hlo with ⟨rfl, rfl⟩ | ⟨k, rfl⟩ <;> rcases hhi with ⟨rfl, rfl⟩ | ⟨k', rfl⟩
  · simp [Instr.sliceAt, Instr.slice, run_underlying hu, Instr.sliceBounds, hs]
  · simp [Instr.sliceAt, Instr.slice, run_underlying hu, Instr.sliceBounds, hs, bound_run hy0 hyc]
  · simp [Instr.sliceAt, Instr.slice, run_underlying hu, Instr.sliceBounds, hs, bound_run h0 h1]
  · simp [Instr.sliceAt, Instr.slice, run_underlying hu, Instr.sliceBounds, hs, bound_run hy0 hyc, bound_run h0 hxy]
theorem sliceA_run {t e : TypeId} {m : Nat} {inf : TypeInfo} (hu : P.underlying t = some (.array m e)) (hi : P.info? e = some inf) {b : Addr} {vlo vhi : Option Value} {x y : Int}
    (hlo : (vlo = none ∧ x = 0) ∨ ∃ k, vlo = some (.int k x)) (hhi : (vhi = none ∧ y = (m : Int)) ∨ ∃ k, vhi = some (.int k y)) (h0 : 0 ≤ x) (h1 : x ≤ y) (h2 : y ≤ m) :
    (Instr.sliceAt t (.pointer (some b)) vlo vhi none).run P w = .ok (.slice (some (if m = x.toNat then b else b.add (x.toNat * inf.size))) (y.toNat - x.toNat) (m - x.toNat)) w := by
  have hs : (sizeOf e).run P w = .ok inf.size w := by simp [sizeOf, typeInfo, hi]
  have hxy : x ≤ (y.toNat : Int) := by omega
  have hy0 : 0 ≤ y := by omega
  rcases hlo with ⟨rfl, rfl⟩ | ⟨k, rfl⟩ <;> rcases hhi with ⟨rfl, rfl⟩ | ⟨k', rfl⟩
  · simp [Instr.sliceAt, Instr.sureAddr, run_underlying hu, Instr.sliceBounds, hs]
  · simp [Instr.sliceAt, Instr.sureAddr, run_underlying hu, Instr.sliceBounds, hs, bound_run hy0 h2]
  · simp [Instr.sliceAt, Instr.sureAddr, run_underlying hu, Instr.sliceBounds, hs, bound_run h0 h1]
  · simp [Instr.sliceAt, Instr.sureAddr, run_underlying hu, Instr.sliceBounds, hs, bound_run hy0 h2, bound_run h0 hxy]
theorem VR_ref_mk {id g off n cap b : Nat} {pu : Bool} {esz : Mk} {cs : List T} (hi : hf id = some (g, .row pu esz cs)) (h1 : b = off ∨ cap = 0) (h2 : b + cap * szOf esz ≤ (ρ id).2) (h3 : n ≤ cap) :
    VR ρ hf I (.ref id g off n) (.slice (some ⟨(ρ id).1, b, none⟩) n cap) := by
  simp only [VR]
  refine ⟨rfl, g, _, hi, Nat.le_refl _, fun _ pu' esz' cs' e => ?_⟩
  simp only [Obj.row.injEq] at e
  obtain ⟨_, rfl, _⟩ := e
  exact ⟨b, cap, rfl, h1, h2, h3⟩
theorem okz_inv {hl : Objs} {id g n : Nat} {t : T} {q : List Prop} {r : AR} (h : okz hl id g n t q = some r) : r.t = t ∧ r.d = [] ∧ r.q = q ∧ ∃ pu esz cs, hl id = some (g, .row pu esz cs) ∧ szOf esz = n := by
  unfold okz at h
  split at h
  · rename_i g' pu esz cs e
    split at h
    · rename_i h1 h2
      cases h
      exact ⟨rfl, rfl, rfl, pu, esz, cs, by rw [e, Nat.eq_of_beq_eq_true h1], Nat.eq_of_beq_eq_true h2⟩
    · cases h
  · cases h
theorem mul_room {b x cap sz m : Nat} (h1 : b + cap * sz ≤ m) (h2 : x ≤ cap) : b + x * sz + (cap - x) * sz ≤ m := by
  have : x * sz + (cap - x) * sz = cap * sz := by rw [← Nat.add_mul]; congr 1; omega
  omega
theorem Lies.part {I : Mem} {blk b off : Nat} {vs : List Value} (h : Lies I (some ⟨blk, b, none⟩) 0 vs) (n : Nat) : Lies I (some ⟨blk, b + off, none⟩) 0 ((vs.drop off).take n) := by
  refine ⟨rfl, fun j v hj => ?_⟩
  rw [List.getElem?_take] at hj
  split at hj
  · rw [List.getElem?_drop] at hj
    have := h.2 (off + j) v hj
    simpa [Nat.add_assoc] using this
  · simp at hj
theorem slice_ok {t : TypeId} {x : T} {vx : Value} {lo hi : Option T} {vlo vhi : Option Value} {r : AR} (hT : TabOk P C) (hs : HS ρ hf I w) (h : aSlice C hf t x lo hi = some r) (hq : ∀ p ∈ r.q, p)
    (hx : VR ρ hf I x vx) (hlo : ∀ x, lo = some x → ∃ v, vlo = some v ∧ VR ρ hf I x v) (hlo' : lo = none → vlo = none) (hhi : ∀ x, hi = some x → ∃ v, vhi = some v ∧ VR ρ hf I x v) (hhi' : hi = none → vhi = none) :
    Yv P ρ hf I r (Instr.sliceAt t vx vlo vhi none) w := by
  cases x with
  | s l => simp only [VR] at hx; subst hx; exact sliceS_ok hT h hq hlo hlo' hhi hhi'
  | ref id g off n =>
    unfold aSlice at h
    simp only at h
    have hk := (hT t).1
    split at h
    · rename_i e x y hke hl hh; rw [hke] at hk
      obtain ⟨hu, ⟨ie, z, i1, i2, _⟩, _⟩ := hk
      obtain ⟨h1, h2, h3, pu, esz, cs, hi', hez⟩ := okz_inv h
      obtain ⟨b1, b2, b3⟩ : _ ∧ _ ∧ _ := hq _ (by rw [h3]; exact List.mem_singleton.2 rfl)
      obtain ⟨b, cap, rfl, c1, c2, c3⟩ := VR_ref hx hi'
      rw [hez] at c2
      rw [Yv, h1]
      refine ⟨h2, _, slice_run (w := w) hu i1 (b := some ⟨(ρ id).1, b, none⟩) (intOr_inv hl hlo hlo') (intOr_inv hh hhi hhi') b1 b2 b3 c3, ?_⟩
      by_cases hc : cap = x.toNat
      · rw [if_pos hc]
        exact VR_ref_mk hi' (.inr (by omega)) (by rw [show cap - x.toNat = 0 by omega]; omega) (by omega)
      · rw [if_neg hc, Option.map_some, add_off, i2]
        have hb : b = off := c1.resolve_right (by omega)
        subst hb
        exact VR_ref_mk hi' (.inl rfl) (by rw [hez]; exact mul_room c2 (by omega)) (by omega)
    · cases h
  | sl n cs =>
    unfold aSlice at h
    simp only at h
    have hk := (hT t).1
    split at h
    · rename_i e x y hke hl hh; rw [hke] at hk
      obtain ⟨hu, ⟨ie, z, i1, i2, _⟩, _⟩ := hk
      obtain ⟨h1, h2, h3⟩ := okq_inv h
      obtain ⟨b1, b2, b3⟩ : _ ∧ _ ∧ _ := hq _ (by rw [h3]; exact List.mem_singleton.2 rfl)
      simp only [VR, PV] at hx
      obtain ⟨ad, cap, vs, rfl, p0, p1, p2⟩ := hx
      rw [Yv, h1]
      refine ⟨h2, _, slice_run (w := w) hu i1 (b := ad) (intOr_inv hl hlo hlo') (intOr_inv hh hhi hhi') b1 b2 b3 p0.1, ?_⟩
      simp only [VR, PV]
      have e1 : (cs.take (y.toNat * (tin C e).size)).drop (x.toNat * (tin C e).size) = (cs.drop (x.toNat * (tin C e).size)).take ((y.toNat * (tin C e).size) - (x.toNat * (tin C e).size)) := List.drop_take
      by_cases hc : cap = x.toNat
      · rw [if_pos hc]
        have : (cs.take (y.toNat * (tin C e).size)).drop (x.toNat * (tin C e).size) = [] := by
          rw [e1, show y.toNat = x.toNat by omega]; simp
        rw [this]
        refine ⟨ad, _, [], rfl, ⟨by omega, fun _ => by omega⟩, rfl, ?_⟩
        cases ad with
        | none => exact ⟨rfl, rfl⟩
        | some a => exact ⟨p2.1, fun j v hj => by simp at hj⟩
      · rw [if_neg hc]
        refine ⟨_, _, (vs.drop (x.toNat * (tin C e).size)).take ((y.toNat * (tin C e).size) - (x.toNat * (tin C e).size)), rfl, ⟨by omega, fun hn => ?_⟩, by rw [e1]; exact (p1.drop _).take _, ?_⟩
        · cases ad with
          | none => have := p0.2 rfl; omega
          | some a => simp at hn
        cases ad with
        | none => obtain ⟨rfl, _⟩ := p2; exact ⟨by simp, rfl⟩
        | some a =>
          obtain ⟨blk, b, sp⟩ := a
          obtain rfl : sp = none := p2.1
          rw [Option.map_some, add_off, i2]
          exact p2.part _
    · cases h
  | p id g off =>
    unfold aSlice at h
    simp only at h
    have hk := (hT t).1
    split at h
    · rename_i m e x hke hl; rw [hke] at hk
      obtain ⟨hu, ⟨ie, z, i1, i2, _⟩, _⟩ := hk
      split at h
      · rename_i y hh
        split at h
        · rename_i g' pu esz cs hi'
          split at h
          · rename_i e1 e2
            obtain rfl := Nat.eq_of_beq_eq_true e1
            have e2 := Nat.eq_of_beq_eq_true e2
            cases h
            obtain ⟨b1, b2, b3, b4⟩ : _ ∧ _ ∧ _ ∧ _ := hq _ (by simp; rfl)
            obtain rfl := VR_p hx hi'
            obtain ⟨c, ce, fz, q1, q2, q3, q4, q5, q6, q7⟩ := row_cells hs hi'
            refine ⟨rfl, _, sliceA_run (w := w) hu i1 (intOr_inv hl hlo hlo') (intOr_inv hh hhi hhi') b1 b2 b3, ?_⟩
            by_cases hc : m = x.toNat
            · rw [if_pos hc]
              exact VR_ref_mk hi' (.inr (by omega)) (by rw [show m - x.toNat = 0 by omega]; omega) (by omega)
            · rw [if_neg hc, add_off, i2]
              exact VR_ref_mk hi' (.inl rfl) (by rw [e2]; exact mul_room (by omega) (by omega)) (by omega)
          · cases h
        · cases h
      · cases h
    · cases h
  | _ => unfold aSlice at h; simp at h
theorem fields_get {fs : List Field} {xs : List (Nat × Nat × Bool)} (h : fs.map (fld P) = xs.map some) {j : Nat} {y : Nat × Nat × Bool} (hj : nth xs j = some y) :
    ∃ f inf d, fs[j]? = some f ∧ P.info? f.type = some inf ∧ P.underlying f.type = some d ∧ y = (f.offset, inf.size, isAggD d) := by
  rw [nth_eq] at hj
  have := congrArg (·[j]?) h
  simp only [List.getElem?_map, hj, Option.map_some] at this
  cases hf : fs[j]? with
  | none => rw [hf] at this; simp at this
  | some f =>
    rw [hf] at this
    simp only [Option.map_some, Option.some.injEq] at this
    unfold fld at this
    split at this
    · rename_i inf d h1 h2
      simp only [Option.some.injEq] at this
      exact ⟨f, inf, d, rfl, h1, h2, this.symm⟩
    · cases this
theorem fieldAddr_ok {t : TypeId} {x : T} {vx : Value} {f : Nat} {r : AR} (hT : TabOk P C) (h : aFieldAddr C hf t x f = some r) (hx : VR ρ hf I x vx) :
    Yv P ρ hf I r (Instr.fieldAt t vx f) w := by
  unfold aFieldAddr at h
  have hk := (hT t).1
  split at h
  · rename_i fs hke; rw [hke] at hk
    obtain ⟨fields, hu, hfs⟩ := hk
    split at h
    · rename_i off n ag hn
      obtain ⟨f', inf, d, g1, g2, g3, g4⟩ := fields_get hfs hn
      simp only [Prod.mk.injEq] at g4
      obtain ⟨rfl, g5, rfl⟩ := g4
      have hg : fields[f]? = some f' := by simpa using g1
      have hne : ¬ inf.size = 0 := by omega
      split at h
      · rename_i id g o
        obtain ⟨h1, h2, h3, pu, esz, cs, hi⟩ := oku_inv h
        obtain rfl := VR_p hx hi
        rw [Yv, h1]
        exact ⟨h2, .pointer (some ⟨(ρ id).1, o + f'.offset, none⟩), by simp [Instr.fieldAt, run_underlying hu, hg, Instr.sureAddr, fieldPlace, sizeOf, typeInfo, g2, hne, add_off], VR_p_mk hi⟩
      · rename_i cs o
        obtain ⟨h1, h2, h3⟩ := ok_inv h
        simp only [VR, PV] at hx
        obtain ⟨blk, b, vs, rfl, p1, p2⟩ := hx
        rw [Yv, h1]
        exact ⟨h2, .pointer (some ⟨blk, b + (o + f'.offset), none⟩), by simp [Instr.fieldAt, run_underlying hu, hg, Instr.sureAddr, fieldPlace, sizeOf, typeInfo, g2, hne, add_off, Nat.add_assoc],
          by simp only [VR, PV]; exact ⟨blk, b, vs, rfl, p1, p2⟩⟩
      · cases h
    · cases h
  · cases h
/-- A part of a struct or an array. -/
theorem part_run {t : TypeId} {inf : TypeInfo} {d : TypeDesc} {cs : List T} {vs : List Value} {off n : Nat} {or : Or} {u : List Nat} {r : AR} (h1 : P.info? t = some inf) (h2 : P.underlying t = some d)
    (hn : inf.size = n) (h0 : 0 < n) (h : readAt cs off n (isAggD d) or u = some r) (hq : ∀ p ∈ r.q, p) (hv : VRs ρ hf I cs vs) :
    r.d = [] ∧ ∃ v, (part t ⟨vs⟩ off).run P w = .ok v w ∧ VR ρ hf I r.t v := by
  obtain ⟨a1, a2, a3⟩ := readAt_inv h hq h0
  refine ⟨a1, ?_⟩
  have hagg : (isAgg t).run P w = .ok (isAggD d) w := by
    simp only [isAgg, Sem.run_bind, run_underlying h2, Result.andThen_ok]
    cases d <;> simp [isAggD]
  have hsize : (sizeOf t).run P w = .ok n w := by simp [sizeOf, typeInfo, h1, hn]
  cases hg : isAggD d with
  | false =>
    obtain ⟨v, hv1, hv2⟩ := hv.get _ _ (a2 hg)
    rw [hg] at hagg
    exact ⟨v, by simp [part, hagg, hv1], hv2⟩
  | true =>
    obtain ⟨e, hle⟩ := a3 hg
    rw [hg] at hagg
    refine ⟨.agg ((vs.drop off).take n).toArray, ?_, by rw [e]; exact ⟨_, rfl, (hv.drop off).take _⟩⟩
    simp only [part, Sem.run_bind, hagg, Result.andThen_ok, if_true, hsize, Sem.run_pure]
    congr 2
    apply Array.ext'
    simp
theorem field_ok {t : TypeId} {x : T} {vx : Value} {f : Nat} {r : AR} (hT : TabOk P C) (h : aField C t x f = some r) (hq : ∀ p ∈ r.q, p) (hx : VR ρ hf I x vx) :
    Yv P ρ hf I r (Instr.field t vx f) w := by
  unfold aField at h
  have hk := (hT t).1
  split at h
  · rename_i fs cs hke; rw [hke] at hk
    obtain ⟨fields, hu, hfs⟩ := hk
    split at h
    · rename_i off n ag hn
      obtain ⟨f', inf, d, g1, g2, g3, g4⟩ := fields_get hfs hn
      simp only [Prod.mk.injEq] at g4
      obtain ⟨rfl, g5, rfl⟩ := g4
      have hg : fields[f]? = some f' := by simpa using g1
      simp only [VR] at hx
      obtain ⟨vs, rfl, hv⟩ := hx
      obtain ⟨a1, v, a2, a3⟩ := part_run (w := w) g2 g3 g5.symm (Nat.succ_pos _) h hq hv
      exact ⟨a1, v, by simp [Instr.field, run_underlying hu, hg, asAgg, a2], a3⟩
    · cases h
  · cases h
theorem indexAddr_ok {t : TypeId} {x i : T} {vx vi : Value} {r : AR} (hT : TabOk P C) (h : aIndexAddr C hf t x i = some r) (hq : ∀ p ∈ r.q, p) (hx : VR ρ hf I x vx) (hi : VR ρ hf I i vi) :
    Yv P ρ hf I r (Instr.indexAt t vx vi) w := by
  unfold aIndexAddr at h
  have hk := (hT t).1
  split at h
  · rename_i n e id g off k j hke; rw [hke] at hk
    obtain ⟨hu, ⟨ie, z, i1, i2, _⟩, _⟩ := hk
    obtain ⟨h1, h2, h3, pu, esz, cs, hi'⟩ := oku_inv h
    obtain ⟨b1, b2⟩ : _ ∧ _ := hq _ (by rw [h3]; exact List.mem_singleton.2 rfl)
    obtain rfl := VR_p hx hi'
    simp only [VR] at hi; subst hi
    rw [Yv, h1]
    have hs : (sizeOf e).run P w = .ok (tin C e).size w := by simp [sizeOf, typeInfo, i1, i2]
    exact ⟨h2, .pointer (some ⟨(ρ id).1, off + j.toNat * (tin C e).size, none⟩), by simp [Instr.indexAt, asIntOf, run_underlying hu, Instr.sureAddr, b1, b2, hs, add_off], VR_p_mk hi'⟩
  · rename_i n e cs off k j hke; rw [hke] at hk
    obtain ⟨hu, ⟨ie, z, i1, i2, _⟩, _⟩ := hk
    obtain ⟨h1, h2, h3⟩ := okq_inv h
    obtain ⟨b1, b2⟩ : _ ∧ _ := hq _ (by rw [h3]; exact List.mem_singleton.2 rfl)
    simp only [VR, PV] at hx hi; subst hi
    obtain ⟨blk, b, vs, rfl, p1, p2⟩ := hx
    rw [Yv, h1]
    have hs : (sizeOf e).run P w = .ok (tin C e).size w := by simp [sizeOf, typeInfo, i1, i2]
    exact ⟨h2, .pointer (some ⟨blk, b + (off + j.toNat * (tin C e).size), none⟩), by simp [Instr.indexAt, asIntOf, run_underlying hu, Instr.sureAddr, b1, b2, hs, add_off, Nat.add_assoc],
      by simp only [VR, PV]; exact ⟨blk, b, vs, rfl, p1, p2⟩⟩
  · rename_i e id g off n k j hke; rw [hke] at hk
    obtain ⟨hu, ⟨ie, z, i1, i2, _⟩, _⟩ := hk
    obtain ⟨h1, h2, h3, pu, esz, cs, hi'⟩ := oku_inv h
    obtain ⟨b1, b2⟩ : _ ∧ _ := hq _ (by rw [h3]; exact List.mem_singleton.2 rfl)
    obtain ⟨b, cap, rfl, c1, c2, c3⟩ := VR_ref hx hi'
    have hb : b = off := c1.resolve_right (by omega)
    subst hb
    simp only [VR] at hi; subst hi
    rw [Yv, h1]
    have hs : (sizeOf e).run P w = .ok (tin C e).size w := by simp [sizeOf, typeInfo, i1, i2]
    exact ⟨h2, .pointer (some ⟨(ρ id).1, b + j.toNat * (tin C e).size, none⟩), by simp [Instr.indexAt, asIntOf, run_underlying hu, Instr.sureAddr, b1, b2, hs, add_off], VR_p_mk hi'⟩
  · rename_i e n cs k j hke; rw [hke] at hk
    obtain ⟨hu, ⟨ie, z, i1, i2, _⟩, _⟩ := hk
    obtain ⟨h1, h2, h3⟩ := okq_inv h
    obtain ⟨b1, b2⟩ : _ ∧ _ := hq _ (by rw [h3]; exact List.mem_singleton.2 rfl)
    simp only [VR, PV] at hx hi; subst hi
    obtain ⟨ad, cap, vs, rfl, p0, p1, p2⟩ := hx
    rw [Yv, h1]
    have hs : (sizeOf e).run P w = .ok (tin C e).size w := by simp [sizeOf, typeInfo, i1, i2]
    cases ad with
    | none => have := p0.2 rfl; omega
    | some ad =>
      obtain ⟨blk, b, sp⟩ := ad
      obtain rfl : sp = none := p2.1
      exact ⟨h2, .pointer (some ⟨blk, b + j.toNat * (tin C e).size, none⟩), by simp [Instr.indexAt, asIntOf, run_underlying hu, Instr.sureAddr, b1, b2, hs, add_off],
        by simp only [VR, PV]; exact ⟨blk, b, vs, rfl, p1, p2⟩⟩
  · cases h
theorem index_ok {t : TypeId} {x i : T} {vx vi : Value} {or : Or} {r : AR} (hT : TabOk P C) (h : aIndex C t x i or = some r) (hq : ∀ p ∈ r.q, p) (hx : VR ρ hf I x vx) (hi : VR ρ hf I i vi) :
    Yv P ρ hf I r (Instr.index t vx vi) w := by
  unfold aIndex at h
  have hk := (hT t).1
  split at h
  · rename_i l k j hke; rw [hke] at hk
    obtain ⟨h1, h2, h3⟩ := okq_inv h
    obtain ⟨b1, b2⟩ : _ ∧ _ := hq _ (by rw [h3]; exact List.mem_singleton.2 rfl)
    simp only [VR] at hx hi; subst hx; subst hi
    rw [Yv, h1]
    have hlt : j.toNat < l.length := by omega
    have he : (ByteArray.mk ⟨l⟩)[j.toNat]? = some l[j.toNat] := by
      rw [getElem?_pos (c := ByteArray.mk ⟨l⟩) (i := j.toNat) (h := hlt)]; rfl
    refine ⟨h2, .int .u8 (l[j.toNat].toNat : Int), by simp [Instr.index, asIntOf, run_underlying hk, b1, he], ?_⟩
    simp only [VR, bt, List.getD_eq_getElem?_getD, List.getElem?_eq_getElem hlt, Option.getD_some]
  · rename_i n e cs k j hke; rw [hke] at hk
    obtain ⟨hu, ⟨ie, z, i1, i2, i3, i4, i5, i6, _⟩, d, hd, ha⟩ := hk
    split at h
    · cases h
    rename_i hsz0
    unfold addq at h
    split at h
    · rename_i t' d' u' qs hr
      cases h
      obtain ⟨b1, b2⟩ : 0 ≤ j ∧ j < n := hq _ (by simp)
      simp only [VR] at hx hi; subst hi
      obtain ⟨vs, rfl, hv⟩ := hx
      have h0 : 0 < (tin C e).size := Nat.pos_of_ne_zero fun e0 => by rw [e0] at hsz0; simp at hsz0
      rw [← ha] at hr
      obtain ⟨a1, v, a2, a3⟩ := part_run (w := w) i1 hd i2 h0 hr (fun p hp => hq p (by simp [hp])) hv
      have hs : (sizeOf e).run P w = .ok (tin C e).size w := by simp [sizeOf, typeInfo, i1, i2]
      exact ⟨a1, v, by simp [Instr.index, asIntOf, run_underlying hu, b1, b2, hs, a2], a3⟩
    · cases h
  · cases h
end
end Go.Proofs.YtdiippegaidpkaaDoor.Vm
