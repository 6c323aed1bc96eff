/- The symbolic machine, part 7: new memory; parts of memory. -/
import Derived.Test.YtdiippegaidpkaaDoorVm6
import Derived.Laws.Tables
import Derived.Laws.MakeOwn
import Derived.Laws.RangeString
set_option linter.unusedVariables false
set_option linter.unusedSimpArgs false
namespace Go.Proofs.YtdiippegaidpkaaDoor.Vm
open Go
theorem mkObj_inv {hl : Objs} {d : Option Nat} {o : Obj} {K : Nat → Nat → T} {q : List Prop} {r : AR} (h : mkObj hl d o K q = some r) :
    ∃ s, d = some s ∧ r.t = K s (newG hl s) ∧ r.d = [(s, newG hl s, o)] ∧ r.q = q := by
  unfold mkObj at h
  split at h
  · cases h; exact ⟨_, rfl, rfl, rfl, rfl⟩
  · cases h
section
variable {P : Program} {C : Ctx} {E : Ent} {ρ : Place} {hf : Objs} {I : Mem} {w : World} {a : Act} {o : Oper}
theorem thaw0 {n : Nat} : Thawed (0, 0) n := fun o _ h => by have := h.2; simp at this
theorem szOf_tsz (C : Ctx) (e : TypeId) : szOf (tsz C e) = (tin C e).size := rfl
theorem fitM {s n m : Nat} {e : TypeId} {fz : Nat × Nat} (hz : Thawed fz m) : Fit (.row s e) n m e fz := ⟨hz, fun t he => (by cases he), fun t s' he => (by cases he; rfl)⟩
theorem fitS {C : Ctx} {n m : Nat} {e : TypeId} : Fit (tsz C e) n m e (0, 0) := fitM thaw0
theorem fitL {s n m : Nat} {e : TypeId} {fz : Nat × Nat} (hz : Thawed fz m) : Fit (.sz s) n m e fz := ⟨hz, fun t he => (by cases he), fun t s' he => (by cases he)⟩
theorem fit1 {C : Ctx} {t n m : Nat} (h : m = n) : Fit (eszOf C t) n m t (0, 0) := by
  cases hk : (tin C t).k with
  | arr k e' => simp only [eszOf, hk]; exact fitL thaw0
  | _ => simp only [eszOf, hk]; exact ⟨thaw0, fun t' he => ⟨(Mk.cell.inj he), h⟩, fun t' s he => (by cases he)⟩
theorem szOf_amark (e : Nat) (esz : Mk) : szOf (amark e esz) = szOf esz := by
  cases esz with
  | sz n => rfl
  | cell t => rfl
  | row n e' => simp only [amark]; cases Nat.beq e' e <;> rfl
theorem fit_in {esz : Mk} {n m n' m' : Nat} {e ce : TypeId} {fz fz' : Nat × Nat} (h : Fit esz n m ce fz) (hz : Thawed fz' m') : Fit (amark e esz) n' m' ce fz' := by
  cases esz with
  | sz n => exact fitL hz
  | cell t => exact fitL hz
  | row n e' =>
    obtain rfl := h.2.2 e' n rfl
    simp only [amark]
    cases Nat.beq ce e with
    | true => exact fitM hz
    | false => exact fitL hz
theorem fit_new {esz : Mk} {n m : Nat} {e : TypeId} {fz : Nat × Nat} (hz : Thawed fz m) : Fit (amark e esz) n m e fz := by
  cases esz with
  | sz n => exact fitL hz
  | cell t => exact fitL hz
  | row n e' =>
    simp only [amark]
    cases hb : Nat.beq e' e with
    | true => obtain rfl := Nat.eq_of_beq_eq_true hb; exact fitM hz
    | false => exact fitL hz
/-- An operation that makes one row. -/
theorem new_does {s : Nat} {w1 : World} {c : Array Value} {e : TypeId} {pu : Bool} {esz : Mk} {cs : List T} {v : Value} {t : T} {fz : Nat × Nat} (hfz : Fit esz cs.length c.size e fz) (hw : w1 = w ∨ w1 = w.drew)
    (hs : HS ρ hf I w) (hx : Ext E.w0 E.own E.I0 ρ hf I w) (hr : (execOp a.eval o).run P w = .ok (.value v) (w1.alloc (.cells c e fz)))
    (hc : VRs ρ hf I cs (c.toList.take cs.length)) (hp : pu = true → plainL cs = true)
    (hv : VR (made ρ w1 s c.size) (updH hf [(s, newG hf s, .row pu esz cs)]) I t v) : Does P E hf ρ I o t [(s, newG hf s, .row pu esz cs)] a w := by
  have hs1 : HS ρ hf I w1 := by rcases hw with rfl | rfl; exact hs; exact hs.drew
  have hx1 : Ext E.w0 E.own E.I0 ρ hf I w1 := by rcases hw with rfl | rfl; exact hx; exact hx.drew
  exact ⟨_, v, made ρ w1 s c.size, I, _, hr, .inl rfl, MLe.refl _, made_HLe (fun _ _ => newG_lt), alloc_HS hs1 (fun _ _ => newG_lt) (row_OR hfz (fun _ _ => newG_lt) hc (fun h => plainL_pvs (hp h) hc)), alloc_Ext hx1, hv⟩
theorem VR_new_p {s n : Nat} {w1 : World} {pu : Bool} {esz : Mk} {cs : List T} :
    VR (made ρ w1 s n) (updH hf [(s, newG hf s, .row pu esz cs)]) I (.p s (newG hf s) 0) (.pointer (some ⟨w1.heap.size, 0, none⟩)) := by
  have := VR_p_mk (ρ := made ρ w1 s n) (I := I) (hf := updH hf [(s, newG hf s, .row pu esz cs)]) (id := s) (g := newG hf s) (off := 0) (pu := pu) (esz := esz) (cs := cs) (by rw [updH_one, if_pos rfl])
  simpa [made] using this
theorem VR_new_ref {s n m cap : Nat} {w1 : World} {pu : Bool} {esz : Mk} {cs : List T} (h1 : cap * szOf esz ≤ n) (h2 : m ≤ cap) :
    VR (made ρ w1 s n) (updH hf [(s, newG hf s, .row pu esz cs)]) I (.ref s (newG hf s) 0 m) (.slice (some ⟨w1.heap.size, 0, none⟩) m cap) := by
  simp only [VR]
  refine ⟨rfl, newG hf s, _, by rw [updH_one, if_pos rfl], Nat.le_refl _, fun _ pu' esz' cs' e => ?_⟩
  simp only [Obj.row.injEq] at e
  obtain ⟨_, rfl, _⟩ := e
  exact ⟨0, cap, by simp [made], .inl rfl, by simpa [made] using h1, h2⟩
theorem size_of {t : TypeId} (hT : TabOk P C) (hsz : Nat.beq (tin C t).size 0 = false) : SizeOk P t (tin C t) :=
  ((hT t).2.resolve_left (fun e => by rw [e] at hsz; simp at hsz)).1
theorem zero_run {t : TypeId} {ti : TI} (h : SizeOk P t ti) : ∃ z, (zeroValue t).run P w = .ok z w ∧ VRs ρ hf I ti.zero z.cells.toList ∧ z.cells.size = ti.size ∧ ti.zero.length = ti.size := by
  obtain ⟨inf, z, h1, h2, h3, h4, h5, h6⟩ := h
  have hv : VRs ρ hf I ti.zero z.cells.toList := PVs.vrs _ _ (gndL_pvs h5)
  obtain ⟨h6, _⟩ := h6
  refine ⟨z, by simp [zeroValue, typeInfo, h1, h4], hv, ?_, h6⟩
  have := hv.length; rw [Array.length_toList] at this; omega
theorem both_inv {x y : Bool} (h : both x y = true) : y = true := by cases x <;> simp_all [both]
theorem take_self {c : Array Value} {cs : List T} (h : VRs ρ hf I cs c.toList) : VRs ρ hf I cs (c.toList.take cs.length) := by
  rw [List.take_of_length_le (by have := h.length; omega)]; exact h
theorem alloc_ok {e : TypeId} {r : AR} (hT : TabOk P C) (hs : HS ρ hf I w) (hx : Ext E.w0 E.own E.I0 ρ hf I w) (ho : o.op = .alloc e) (hsz : Nat.beq (tin C e).size 0 = false) {b : Bool}
    (h : mkObj hf o.dst (.row (both b (plainL (tin C e).zero)) (eszOf C e) (tin C e).zero) (fun d g => .p d g 0) [] = some r) : Does P E hf ρ I o r.t r.d a w := by
  obtain ⟨s, hd, h1, h2, h3⟩ := mkObj_inv h
  obtain ⟨z, z1, z2, z3, z4⟩ := zero_run (w := w) (ρ := ρ) (hf := hf) (I := I) (size_of hT hsz)
  rw [h1, h2]
  refine new_does (w1 := w) (c := z.cells) (e := e) (v := .pointer (some ⟨w.heap.size, 0, none⟩)) (fit1 (by rw [z3, z4])) (.inl rfl) hs hx ?_ (take_self z2) both_inv VR_new_p
  rw [execOp, ho]; simp [Instr.alloc, z1, newVar, newRow]
theorem box_ok {e : TypeId} {x : T} {X : Operand} {r : AR} (hT : TabOk P C) (hs : HS ρ hf I w) (hx : Ext E.w0 E.own E.I0 ρ hf I w) (ho : o.op = .box e X) {b : Bool} (hc : cellyL (cellsT x) = true)
    (h : mkObj hf o.dst (.row (both b (plainL (cellsT x))) (eszOf C e) (cellsT x)) (fun d g => .p d g 0) [] = some r) (hv : VR ρ hf I x (a.eval X)) : Does P E hf ρ I o r.t r.d a w := by
  obtain ⟨s, hd, h1, h2, h3⟩ := mkObj_inv h
  rw [h1, h2]
  refine new_does (w1 := w) (c := (a.eval X).cells) (e := e) (v := .pointer (some ⟨w.heap.size, 0, none⟩)) (fit1 (by have := (cells_of hc hv).length; rw [Array.length_toList] at this; exact this)) (.inl rfl) hs hx ?_ (take_self (cells_of hc hv)) both_inv VR_new_p
  rw [execOp, ho]; simp [Instr.box, newVar, newRow]

/-! ### Parts laid together -/
theorem foldl_set : ∀ (l : List Value) (k off : Nat) (cells : Array Value), off + k + l.length ≤ cells.size →
    ((l.zipIdx k).foldl (fun cs (x : Value × Nat) => cs.setIfInBounds (off + x.2) x.1) cells).toList = cells.toList.take (off + k) ++ l ++ cells.toList.drop (off + k + l.length)
  | [], k, off, cells, _ => by simp
  | v :: l, k, off, cells, h => by
    simp only [List.length_cons] at h
    rw [List.zipIdx_cons, List.foldl_cons, foldl_set l (k + 1) off _ (by simp; omega)]
    simp only [Array.toList_setIfInBounds]
    rw [← Nat.add_assoc, List.take_set, List.drop_set, if_pos (by omega), List.length_cons, show off + k + (l.length + 1) = off + k + 1 + l.length from by omega]
    congr 1
    have : (cells.toList.take (off + k + 1)).set (off + k) v = cells.toList.take (off + k) ++ [v] := by
      rw [List.set_eq_take_append_cons_drop, if_pos (by rw [List.length_take]; simp; omega)]
      rw [List.take_take, List.drop_take]; simp
    rw [this]; simp
theorem fill_run {place : Nat → Option (Nat × Nat)} : ∀ {ps : List (Nat × T)} {vs : List (Nat × Value)} {cs cs' : List T} {cells : Array Value}, fillT place ps cs = some cs' → VRs ρ hf I cs cells.toList →
    vs.map Prod.fst = ps.map Prod.fst → VRs ρ hf I (ps.map Prod.snd) (vs.map Prod.snd) → ∃ cells', Instr.fill place cells vs = some cells' ∧ VRs ρ hf I cs' cells'.toList
  | [], vs, cs, cs', cells, h, hv, h1, _ => by
    have : vs = [] := by simpa using h1
    subst this
    simp only [fillT, Option.some.injEq] at h; subst h
    exact ⟨cells, rfl, hv⟩
  | (j, x) :: ps, [], cs, cs', cells, h, hv, h1, _ => by simp at h1
  | (j, x) :: ps, (j', v) :: vs, cs, cs', cells, h, hv, h1, h2 => by
    simp only [List.map_cons, List.cons.injEq] at h1
    obtain ⟨rfl, h1⟩ := h1
    simp only [List.map_cons, VRs, List.cons.injEq] at h2
    obtain ⟨_, _, ⟨rfl, rfl⟩, h3, h4⟩ := h2
    unfold fillT at h
    split at h
    · rename_i off n hp
      split at h
      · rename_i hn hc
        have hn' := Nat.eq_of_beq_eq_true hn
        split at h
        · rename_i hle
          rw [forceL_eq] at h
          have hle' := Nat.le_of_ble_eq_true hle
          have hcv := cells_of hc h3
          have hl1 := hcv.length
          have hl2 := hv.length
          rw [Array.length_toList] at hl1 hl2
          have hf1 := foldl_set v.cells.toList 0 off cells (by rw [Array.length_toList]; omega)
          have hnew : VRs ρ hf I (Vm.splice cs off (cellsT x)) (v.cells.zipIdx.foldl (fun cs (c, j) => cs.setIfInBounds (off + j) c) cells).toList := by
            have e : (v.cells.zipIdx.foldl (fun cs (c, j) => cs.setIfInBounds (off + j) c) cells) = ((v.cells.toList.zipIdx 0).foldl (fun cs (x : Value × Nat) => cs.setIfInBounds (off + x.2) x.1) cells) := by
              rw [← Array.foldl_toList]; simp
            rw [e, hf1]
            simpa using hv.splice hcv (by omega)
          obtain ⟨cells', f1, f2⟩ := fill_run h hnew h1 h4
          refine ⟨cells', ?_, f2⟩
          simp only [Instr.fill, hp]
          rw [if_neg (by simp; omega)]
          exact f1
        · cases h
      · cases h
    · cases h
theorem parts_rel {ps : Array (Nat × Operand)} {ev : Operand → T} (hev : ∀ x, VR ρ hf I (ev x) (a.eval x)) :
    ((ps.map fun (i, x) => (i, a.eval x)).toList.map Prod.fst = (ps.toList.map fun x => (x.1, ev x.2)).map Prod.fst) ∧
    VRs ρ hf I ((ps.toList.map fun x => (x.1, ev x.2)).map Prod.snd) ((ps.map fun (i, x) => (i, a.eval x)).toList.map Prod.snd) := by
  rw [Array.toList_map]
  refine ⟨by simp, ?_⟩
  rw [List.map_map, List.map_map]
  exact VRs.map _ _ (fun x => hev x.2) ps.toList
theorem places_of : ∀ {fs : List Field} {xs : List (Nat × Nat × Bool)}, fs.map (fld P) = xs.map some →
    fs.mapM (fun f => (P.info? f.type).map fun i => (f.offset, i.size)) = some (xs.map fun x => (x.1, x.2.1))
  | [], [], _ => rfl
  | f :: fs, x :: xs, h => by
    simp only [List.map_cons, List.cons.injEq] at h
    obtain ⟨h1, h2⟩ := h
    have ih := places_of h2
    unfold fld at h1
    split at h1
    · rename_i inf d hi hd
      simp only [Option.some.injEq] at h1; subst h1
      simp [List.mapM_cons, hi, ih]
    · cases h1
  | [], _ :: _, h => by simp at h
  | _ :: _, [], h => by simp at h
theorem build_ok {t : TypeId} {ps : Array (Nat × Operand)} {ev : Operand → T} {r : AR} (hT : TabOk P C) (hev : ∀ x, VR ρ hf I (ev x) (a.eval x))
    (h : aBuild C t (ps.toList.map fun x => (x.1, ev x.2)) = some r) : Yv P ρ hf I r (Instr.build t (ps.map fun (i, x) => (i, a.eval x))) w := by
  unfold aBuild at h
  split at h
  · cases h
  · rename_i hsz
    obtain ⟨inf, z, h1, h2, h3, h4, h5, h6⟩ := size_of hT hsz
    have hz : VRs ρ hf I (tin C t).zero z.cells.toList := PVs.vrs _ _ (gndL_pvs h5)
    obtain ⟨p1, p2⟩ := parts_rel (ps := ps) hev
    have hk := (hT t).1
    split at h
    · rename_i fs e; rw [e] at hk
      obtain ⟨fields, hu, hfs⟩ := hk
      split at h
      · rename_i cs hfill
        rw [forceL_eq] at h
        obtain ⟨r1, r2, r3⟩ := ok_inv h
        obtain ⟨cells', f1, f2⟩ := fill_run hfill hz p1 p2
        refine ⟨r2, .agg cells', ?_, by rw [r1]; exact ⟨_, rfl, f2⟩⟩
        refine run_build w t _ _ ?_
        unfold Program.built
        rw [h1, hu]; simp only [h4, places_of hfs]
        rw [← f1]; congr 1; funext j
        rw [List.getElem?_toArray, List.getElem?_map, nth_eq]
        cases fs[j]? <;> rfl
      · cases h
    · rename_i n e hke; rw [hke] at hk
      obtain ⟨hu, ⟨ie, ze, i1, i2, _⟩, _⟩ := hk
      split at h
      · rename_i cs hfill
        rw [forceL_eq] at h
        obtain ⟨r1, r2, r3⟩ := ok_inv h
        obtain ⟨cells', f1, f2⟩ := fill_run hfill hz p1 p2
        refine ⟨r2, .agg cells', ?_, by rw [r1]; exact ⟨_, rfl, f2⟩⟩
        refine run_build w t _ _ ?_
        unfold Program.built
        rw [h1, hu]; simp only [h4, i1, i2]
        exact f1
      · cases h
    · cases h
theorem reps_length {z : List T} : ∀ n, (reps n z).length = n * z.length
  | 0 => by simp [reps]
  | n + 1 => by simp [reps, reps_length n, Nat.add_mul, Nat.add_comm]
theorem reps_get {z : List T} {k : Nat} (hz : z.length = k) (hk : 0 < k) : ∀ (n j : Nat), j < n * k → (reps n z)[j]? = z[j % k]?
  | 0, j, h => by simp at h
  | n + 1, j, h => by
    simp only [reps, List.getElem?_append]
    split
    · rename_i hj; rw [Nat.mod_eq_of_lt (by omega)]
    · rename_i hj
      have e : (n + 1) * k = n * k + k := by rw [Nat.add_mul, Nat.one_mul]
      rw [hz, reps_get hz hk n (j - k) (by omega)]
      rw [Nat.mod_eq_sub_mod (show j ≥ k by omega)]
theorem run_buildSlice (w : World) (t e : TypeId) (len : Nat) (parts : Array (Nat × Value)) (cells : Array Value) (ie : TypeInfo) (z : Value)
    (hu : P.underlying t = some (.slice e)) (hie : P.info? e = some ie) (hz : ie.zero = some z) (hsmall : ¬ len * ie.size > 2 ^ 24) (hpos : ¬ len * ie.size = 0)
    (h : Instr.fill (fun i => some (i * ie.size, ie.size)) ((Array.range (len * ie.size)).map (z.cells[· % z.cells.size]!)) parts.toList = some cells) :
    (Instr.buildSlice t len parts).run P w = .ok (.slice (some ⟨w.heap.size, 0, none⟩) len len) (w.alloc (.cells cells e)) := by
  simp [Instr.buildSlice, run_underlying hu, sizeOf, typeInfo, zeroValue, hie, hz, hsmall, hpos, h, newRow]
/-- Zero cells, again and again. -/
theorem reps_rel {z : List T} {zs : Array Value} {k n : Nat} (hv : VRs ρ hf I z zs.toList) (hk : z.length = k) (h0 : 0 < k) :
    VRs ρ hf I (reps n z) ((Array.range (n * k)).map (zs[· % zs.size]!)).toList := by
  have hl := hv.length
  rw [Array.length_toList] at hl
  refine VRs.of_get (by simp [reps_length, hk]) fun j t v e1 e2 => ?_
  have hj : j < n * k := by
    have := (List.getElem?_eq_some_iff.1 e1).1; rwa [reps_length, hk] at this
  rw [reps_get hk h0 n j hj] at e1
  have hlt : j % k < zs.size := by rw [hl, hk]; exact Nat.mod_lt _ h0
  refine hv.at e1 ?_
  simp only [Array.toList_map, List.getElem?_map, Array.getElem?_toList] at e2
  rw [Array.getElem?_range, if_pos hj] at e2
  simp only [Option.map_some, Option.some.injEq] at e2
  rw [← e2, hl, hk]
  rw [Array.getElem?_toList, Array.getElem!_eq_getD, Array.getD_eq_getD_getElem?, Array.getElem?_eq_getElem hlt]; rfl
theorem buildSlice_ok {t : TypeId} {n : Nat} {ps : Array (Nat × Operand)} {ev : Operand → T} {r : AR} (hT : TabOk P C) (hs : HS ρ hf I w) (hx : Ext E.w0 E.own E.I0 ρ hf I w) (ho : o.op = .buildSlice t n ps)
    (hev : ∀ x, VR ρ hf I (ev x) (a.eval x)) (h : aBuildSlice C hf o.dst t n (ps.toList.map fun x => (x.1, ev x.2)) = some r) : Does P E hf ρ I o r.t r.d a w := by
  unfold aBuildSlice at h
  have hk := (hT t).1
  split at h
  · rename_i e hke; rw [hke] at hk
    obtain ⟨hu, ⟨ie, z, i1, i2, i3, i4, i5, i6, _⟩, _⟩ := hk
    split at h
    · rename_i hle hne
      have hle' := Nat.le_of_ble_eq_true hle
      have hne' : ¬ n * (tin C e).size = 0 := fun e0 => by rw [e0] at hne; simp at hne
      have hpos : 0 < (tin C e).size := Nat.pos_of_ne_zero fun e0 => hne' (by rw [e0]; simp)
      have hz : VRs ρ hf I (tin C e).zero z.cells.toList := PVs.vrs _ _ (gndL_pvs i5)
      obtain ⟨p1, p2⟩ := parts_rel (ps := ps) hev
      split at h
      · rename_i cs hfill
        rw [forceL_eq] at h
        obtain ⟨s, hd, h1, h2, h3⟩ := mkObj_inv h
        obtain ⟨cells', f1, f2⟩ := fill_run hfill (reps_rel (n := n) hz i6 hpos) p1 p2
        rw [← i2] at f1
        have hcells : cells'.size = n * (tin C e).size := by
          have := f2.length; rw [Array.length_toList] at this
          have hcs : cs.length = n * (tin C e).size := by
            have : ∀ {place : Nat → Option (Nat × Nat)} {ps : List (Nat × T)} {c1 c2 : List T}, fillT place ps c1 = some c2 → c2.length = c1.length := by
              intro place ps
              induction ps with
              | nil => intro c1 c2 h; simp only [fillT, Option.some.injEq] at h; rw [h]
              | cons x ps ih =>
                intro c1 c2 h
                unfold fillT at h
                split at h
                · split at h
                  · rename_i hb _
                    split at h
                    · rename_i hl
                      rw [forceL_eq] at h
                      have := Nat.le_of_ble_eq_true hl
                      have := Nat.eq_of_beq_eq_true hb
                      rw [ih h, splice_length (by omega)]
                    · cases h
                  · cases h
                · cases h
            rw [this hfill, reps_length, i6]
          omega
        rw [h1, h2]
        refine new_does (w1 := w) (c := cells') (e := e) (v := .slice (some ⟨w.heap.size, 0, none⟩) n n) fitS (.inl rfl) hs hx ?_ (take_self f2) (fun e => e) (VR_new_ref (by rw [hcells, szOf_tsz C]; exact Nat.le_refl _) (Nat.le_refl _))
        rw [execOp, ho]
        simp only [Sem.run_bind, run_buildSlice w t e n _ cells' ie z hu i1 i4 (by rw [i2]; omega) (by rw [i2]; exact hne') f1, Result.andThen_ok]
        rfl
      · cases h
    · cases h
  · cases h
end
end Go.Proofs.YtdiippegaidpkaaDoor.Vm
