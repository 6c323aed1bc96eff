/- The symbolic machine, part 6: the operations on memory. -/
import Derived.Test.YtdiippegaidpkaaDoorVm5
set_option linter.unusedVariables false
set_option linter.unusedSimpArgs false
namespace Go.Proofs.YtdiippegaidpkaaDoor.Vm
open Go
theorem celly_one {ρ : Place} {hf : Objs} {I : Mem} {t : T} {v : Value} (hc : celly t = true) (hv : VR ρ hf I t v) : v.oneCell' = true := by
  cases t <;> simp only [celly, Bool.false_eq_true] at hc
  all_goals simp only [VR, PV] at hv
  all_goals first
    | (subst hv; rfl)
    | exact hv.1
    | (obtain ⟨_, _, _, rfl, _⟩ := hv; rfl)
    | (obtain ⟨_, _, rfl, _⟩ := hv; rfl)
    | (obtain ⟨_, rfl, _⟩ := hv; rfl)
theorem cellyL_one {ρ : Place} {hf : Objs} {I : Mem} : ∀ {ts : List T} {vs : List Value}, cellyL ts = true → VRs ρ hf I ts vs → ∀ v ∈ vs, v.oneCell' = true
  | [], _, _, hv, v, hm => by simp only [VRs] at hv; subst hv; simp at hm
  | t :: ts, _, hc, hv, u, hm => by
    simp only [VRs] at hv
    obtain ⟨v, r, rfl, h1, h2⟩ := hv
    simp only [cellyL] at hc
    cases hb : celly t with
    | false => rw [hb] at hc; simp at hc
    | true =>
      rw [hb] at hc
      rcases List.mem_cons.1 hm with rfl | hm
      · exact celly_one hb h1
      · exact cellyL_one hc h2 u hm
theorem plain_celly {t : T} (h : plain t = true) : celly t = true := by cases t <;> simp_all [plain, celly]
theorem plainL_celly : ∀ {ts : List T}, plainL ts = true → cellyL ts = true
  | [], _ => rfl
  | t :: ts, h => by
    simp only [plainL] at h
    cases hb : plain t with
    | false => rw [hb] at h; simp at h
    | true => rw [hb] at h; simp only [cellyL, plain_celly hb, plainL_celly h]
theorem cells_one {v : Value} (h : v.oneCell' = true) : v.cells = #[v] := by cases v <;> simp_all [Value.oneCell', Value.cells]
theorem cells_of {ρ : Place} {hf : Objs} {I : Mem} {x : T} {v : Value} (hc : cellyL (cellsT x) = true) (hv : VR ρ hf I x v) : VRs ρ hf I (cellsT x) v.cells.toList := by
  cases x with
  | agg cs => simp only [VR] at hv; obtain ⟨vs, rfl, h⟩ := hv; exact h
  | _ =>
    simp only [cellsT, cellyL] at hc ⊢
    first
      | (simp only [celly, Bool.false_eq_true] at hc; done)
      | (rw [cells_one (celly_one (t := _) rfl hv)]; exact ⟨v, [], rfl, hv, rfl⟩)

/-! ### Reading -/
theorem readAt_inv {cs : List T} {off n : Nat} {agg : Bool} {or : Or} {u : List Nat} {r : AR} (h : readAt cs off n agg or u = some r) (hq : ∀ p ∈ r.q, p) (hn : 0 < n) :
    r.d = [] ∧ (agg = false → cs[off]? = some r.t) ∧ (agg = true → r.t = .agg ((cs.drop off).take n) ∧ off + n ≤ cs.length) := by
  unfold readAt at h
  split at h
  · split at h
    · split at h
      · rename_i hb
        rw [forceL_eq] at h; cases h
        exact ⟨rfl, fun e => by simp at e, fun _ => ⟨rfl, Nat.le_of_ble_eq_true hb⟩⟩
      · cases h
    · split at h
      · rename_i y l hd
        rw [force_eq] at h; cases h
        refine ⟨rfl, fun _ => ?_, fun e => by simp at e⟩
        have := List.getElem?_drop (xs := cs) (i := off) (j := 0)
        rw [hd] at this; simpa using this.symm
      · cases h
  · rename_i ys
    split at h
    · rename_i hl
      have hl' := Nat.eq_of_beq_eq_true hl
      split at h
      · cases h
        have e : (cs.drop off).take n = ys := hq _ (by simp)
        refine ⟨rfl, fun e => by simp at e, fun _ => ⟨by rw [e], ?_⟩⟩
        have := congrArg List.length e
        rw [List.length_take, List.length_drop, hl'] at this
        omega
      · cases h
        exact ⟨rfl, fun _ => hq _ (by simp), fun e => by simp at e⟩
      · cases h
    · cases h
  · cases h
theorem add_off (b o n : Nat) : Addr.add ⟨b, o, none⟩ n = ⟨b, o + n, none⟩ := Addr.add_lit b o n
theorem ble_length {off n : Nat} {cs : List T} {vals : List Value} {ρ : Place} {hf : Objs} {I : Mem} (hv : VRs ρ hf I cs vals) : vals.length = cs.length := hv.length
/-- A variable of a known size is read out of cells that lie in a row. -/
theorem loadVar_run {P : Program} {C : Ctx} {ρ : Place} {hf : Objs} {I : Mem} {w : World} {t : TypeId} {cs : List T} {vals : List Value} {blk b off : Nat} {or : Or} {u : List Nat} {r : AR}
    (hT : TabOk P C) (hsz : Nat.beq (tin C t).size 0 = false) (h : readAt cs off (tin C t).size (tin C t).agg or u = some r) (hq : ∀ p ∈ r.q, p)
    (hv : VRs ρ hf I cs vals) (hm : ∀ j v, vals[j]? = some v → w.cell? ⟨blk, b + j, none⟩ = some v) :
    r.d = [] ∧ ∃ v, (loadVar t ⟨blk, b + off, none⟩).run P w = .ok v w ∧ VR ρ hf I r.t v := by
  have hk := (hT t).2.resolve_left (fun e => by rw [e] at hsz; simp at hsz)
  obtain ⟨⟨inf, z, hi, hs, _⟩, d, hd, ha⟩ := hk
  obtain ⟨h1, h2, h3⟩ := readAt_inv h hq (Nat.pos_of_ne_zero fun e => by rw [e] at hsz; simp at hsz)
  refine ⟨h1, ?_⟩
  have hagg : (isAgg t).run P w = .ok (tin C t).agg w := by
    rw [← ha]
    simp only [isAgg, Sem.run_bind, run_underlying hd, Result.andThen_ok]
    cases d <;> simp [isAggD]
  have hsize : (sizeOf t).run P w = .ok (tin C t).size w := by
    rw [run_sizeOf w hi]; simp [Program.cellsOf, hi, hs]
  cases hg : (tin C t).agg with
  | false =>
    obtain ⟨v, hv1, hv2⟩ := hv.get _ _ (h2 hg)
    refine ⟨v, ?_, hv2⟩
    rw [hg] at hagg
    have := hm _ _ hv1
    simp [loadVar, hagg, this]
  | true =>
    obtain ⟨e, hle⟩ := h3 hg
    rw [hg] at hagg
    have hl : (loadCells ⟨blk, b + off, none⟩ ((vals.drop off).take (tin C t).size).length).run P w = .ok ((vals.drop off).take (tin C t).size).toArray w := by
      refine run_loadCells_list w _ _ fun j v hj => ?_
      rw [add_off]
      rw [List.getElem?_take] at hj
      split at hj
      · rw [List.getElem?_drop] at hj; rw [Nat.add_assoc]; exact hm _ _ hj
      · simp at hj
    have hlen : ((vals.drop off).take (tin C t).size).length = (tin C t).size := by
      rw [List.length_take, List.length_drop, hv.length]; omega
    rw [hlen] at hl
    refine ⟨.agg ((vals.drop off).take (tin C t).size).toArray, by simp [loadVar, hagg, hsize, hl], ?_⟩
    rw [e]; exact ⟨_, rfl, (hv.drop off).take _⟩
theorem cell_of {w : World} {blk : Nat} {c : Array Value} {e : TypeId} {fz : Nat × Nat} (h : w.heap[blk]? = some (.cells c e fz)) (j : Nat) : w.cell? ⟨blk, j, none⟩ = c[j]? := by
  simp [World.cell?, h]
/-- The cells of a row. -/
theorem row_cells {ρ : Place} {hf : Objs} {I : Mem} {w : World} {id g : Nat} {pu : Bool} {esz : Mk} {cs : List T} (hs : HS ρ hf I w) (hi : hf id = some (g, .row pu esz cs)) :
    ∃ c e fz, w.heap[(ρ id).1]? = some (.cells c e fz) ∧ c.size = (ρ id).2 ∧ Fit esz cs.length c.size e fz ∧ VRs ρ hf I cs (c.toList.take cs.length) ∧ cs.length ≤ c.size ∧
      (∀ j v, (c.toList.take cs.length)[j]? = some v → w.cell? ⟨(ρ id).1, j, none⟩ = some v) ∧ (pu = true → PVs I cs (c.toList.take cs.length)) := by
  obtain ⟨c, e, fz, h1, h2, h3, h4⟩ := hs.obj _ _ _ hi
  have h5 : VRs ρ hf I cs (c.toList.take cs.length) := by
    cases pu with
    | true => exact PVs.vrs _ _ h4
    | false => exact h4
  refine ⟨c, e, fz, h1, h2, h3, h5, ?_, fun j v hj => ?_, fun hp => by subst hp; exact h4⟩
  · have := h5.length; rw [List.length_take] at this; simp at this; omega
  · rw [cell_of h1]
    rw [List.getElem?_take] at hj
    split at hj
    · simpa using hj
    · simp at hj
theorem load_ok {P : Program} {C : Ctx} {ρ : Place} {hf : Objs} {I : Mem} {w : World} {t : TypeId} {x : T} {vx : Value} {or : Or} {r : AR} (hT : TabOk P C) (hs : HS ρ hf I w)
    (h : aLoad C hf t x or = some r) (hq : ∀ p ∈ r.q, p) (hx : VR ρ hf I x vx) : Yv P ρ hf I r (Instr.loadAt t vx) w := by
  unfold aLoad at h
  split at h
  · cases h
  · rename_i hsz
    split at h
    · split at h
      · rename_i id g off g' pu esz cs hi
        split at h
        · rename_i hg; obtain rfl := Nat.eq_of_beq_eq_true hg
          obtain rfl := VR_p hx hi
          obtain ⟨c, e, fz, _, _, _, h5, _, h6, _⟩ := row_cells hs hi
          obtain ⟨a1, v, a2, a3⟩ := loadVar_run (b := 0) hT hsz h hq h5 (fun j v hj => by rw [Nat.zero_add]; exact h6 j v hj)
          rw [Nat.zero_add] at a2
          exact ⟨a1, v, by simpa [Instr.loadAt, Instr.sureAddr] using a2, a3⟩
        · cases h
      · cases h
    · simp only [VR, PV] at hx
      obtain ⟨blk, b, vs, rfl, h5, h6⟩ := hx
      obtain ⟨a1, v, a2, a3⟩ := loadVar_run (b := b) hT hsz h hq (PVs.vrs (ρ := ρ) (h := hf) _ _ h5) (fun j v hj => hs.mem _ _ (h6.2 j v hj))
      exact ⟨a1, v, by simpa [Instr.loadAt, Instr.sureAddr] using a2, a3⟩
    · cases h

/-! ### Writing -/
theorem storeCells_run {P : Program} {blk off : Nat} {e : TypeId} {fz : Nat × Nat} : ∀ (vs : List Value) (i : Nat) (w : World) (c : Array Value), w.heap[blk]? = some (.cells c e fz) → Thawed fz c.size →
    off + i + vs.length ≤ c.size → (∀ v ∈ vs, v.oneCell' = true) →
    ∃ w' c', (storeCells ⟨blk, off, none⟩ vs i).run P w = .ok () w' ∧ w'.os = w.os ∧ w'.tape = w.tape ∧ w'.output = w.output ∧ w'.heap.size = w.heap.size ∧
      (∀ b, b ≠ blk → w'.heap[b]? = w.heap[b]?) ∧ w'.heap[blk]? = some (.cells c' e fz) ∧ c'.size = c.size ∧
      c'.toList = c.toList.take (off + i) ++ vs ++ c.toList.drop (off + i + vs.length) := by
  intro vs
  induction vs with
  | nil =>
    intro i w c h _ _ _
    exact ⟨w, c, by simp [storeCells], rfl, rfl, rfl, rfl, fun _ _ => rfl, h, rfl, by simp⟩
  | cons v vs ih =>
    intro i w c h hz hl ho
    simp only [List.length_cons] at hl
    have hcell : w.cell? ⟨blk, off + i, none⟩ = c[off + i]? := cell_of h _
    have hsome : c[off + i]? = some c[off + i] := by simp
    have hfz : w.frozen? ⟨blk, off + i, none⟩ = false := by
      have := hz (off + i) (by omega)
      simp only [World.frozen?, h]
      by_cases h1 : fz.1 ≤ off + i <;> by_cases h2 : off + i < fz.2 <;> simp [h1, h2] <;> omega
    have hs1 : (store ((⟨blk, off, none⟩ : Addr).add i) v).run P w = .ok () (w.setCell ⟨blk, off + i, none⟩ v) := by
      rw [add_off, run_store P w _ v .plain (ho v (by simp)), hcell, hsome]; simp [hfz]
    have hb : (w.setCell ⟨blk, off + i, none⟩ v).heap[blk]? = some (.cells (c.setIfInBounds (off + i) v) e fz) := by
      simp [World.setCell, Array.getElem?_modify, h]
    obtain ⟨w', c', r1, r2, r3, r4, r5, r6, r7, r8, r9⟩ := ih (i + 1) (w.setCell ⟨blk, off + i, none⟩ v) (c.setIfInBounds (off + i) v) hb (by simpa using hz) (by simp; omega) (fun v hv => ho v (by simp [hv]))
    refine ⟨w', c', ?_, r2, r3, r4, r5.trans (by simp [World.setCell]), fun b hb' => (r6 b hb').trans ?_, r7, by simpa using r8, ?_⟩
    · simp only [storeCells, Sem.run_bind, hs1, Result.andThen_ok]; exact r1
    · simp [World.setCell, Array.getElem?_modify, Ne.symm hb']
    · rw [r9]
      have e1 : (c.setIfInBounds (off + i) v).toList = c.toList.set (off + i) v := by simp
      rw [e1, ← Nat.add_assoc, List.take_set, List.drop_set]
      rw [if_pos (by omega)]
      rw [List.length_cons, show off + i + (vs.length + 1) = off + i + 1 + vs.length from by omega]
      congr 1
      have : (c.toList.take (off + i + 1)).set (off + i) v = c.toList.take (off + i) ++ [v] := by
        rw [List.set_eq_take_append_cons_drop, if_pos (by rw [List.length_take]; simp; omega)]
        rw [List.take_take, List.drop_take]; simp
      rw [this]; simp
theorem toList_take_splice {α : Type} (l : List α) (off : Nat) (xs : List α) (n : Nat) (h : off + xs.length ≤ n) : (l.take off ++ xs ++ l.drop (off + xs.length)).take n = (l.take n).take off ++ xs ++ (l.take n).drop (off + xs.length) := by
  by_cases hl : off ≤ l.length
  · have e1 : (l.take off).length = off := by rw [List.length_take]; omega
    rw [List.take_append, List.take_append, List.take_take, List.length_append, e1, List.drop_take, List.take_take]
    rw [Nat.min_eq_right (show off ≤ n by omega), Nat.min_eq_left (show off ≤ n by omega), List.take_of_length_le (show xs.length ≤ n - off by omega)]
  · have e1 : l.take off = l := List.take_of_length_le (by omega)
    have e2 : l.drop (off + xs.length) = [] := List.drop_eq_nil_of_le (by omega)
    rw [e1, e2, List.append_nil, List.take_append, List.take_of_length_le (show l.length ≤ n by omega), List.take_of_length_le (show xs.length ≤ n - l.length by omega), e1, e2, List.append_nil]
theorem VRs.splice {ρ : Place} {hf : Objs} {I : Mem} {cs xs : List T} {vals ys : List Value} {off : Nat} (h1 : VRs ρ hf I cs vals) (h2 : VRs ρ hf I xs ys) (hl : off + xs.length ≤ cs.length) :
    VRs ρ hf I (Vm.splice cs off xs) (vals.take off ++ ys ++ vals.drop (off + ys.length)) := by
  rw [splice_eq _ _ _ hl, h2.length]
  exact ((h1.take off).append h2).append (h1.drop _)
theorem PVs.splice {I : Mem} {cs xs : List T} {vals ys : List Value} {off : Nat} (h1 : PVs I cs vals) (h2 : PVs I xs ys) (hl : off + xs.length ≤ cs.length) :
    PVs I (Vm.splice cs off xs) (vals.take off ++ ys ++ vals.drop (off + ys.length)) := by
  rw [splice_eq _ _ _ hl, h2.length]
  exact ((h1.take off).append h2).append (h1.drop _)
theorem splice_length {cs xs : List T} {off : Nat} (hl : off + xs.length ≤ cs.length) : (Vm.splice cs off xs).length = cs.length := by
  rw [splice_eq _ _ _ hl]; simp; omega
/-- Cells written into a row: the world behind it, and the object. -/
theorem write_row {P : Program} {ρ : Place} {hf : Objs} {I : Mem} {w : World} {id g off : Nat} {pu pu' : Bool} {esz : Mk} {cs xs : List T} {ys : List Value} {w0 : World} {own : Nat → Prop} {I0 : Mem}
    (hs : HS ρ hf I w) (hx : Ext w0 own I0 ρ hf I w) (hi : hf id = some (g, .row pu esz cs)) (hl : off + xs.length ≤ cs.length) (hv : VRs ρ hf I xs ys) (ho : ∀ v ∈ ys, v.oneCell' = true)
    (hp : pu' = true → pu = true ∧ plainL xs = true) :
    ∃ w', (storeCells ⟨(ρ id).1, off, none⟩ ys).run P w = .ok () w' ∧ HLe ρ hf ρ (updH hf [(id, g, .row pu' esz (Vm.splice cs off xs))]) ∧
      HS ρ (updH hf [(id, g, .row pu' esz (Vm.splice cs off xs))]) I w' ∧ Ext w0 own I0 ρ (updH hf [(id, g, .row pu' esz (Vm.splice cs off xs))]) I w' := by
  obtain ⟨c, e, fz, h1, h2, h3, h4, h5, h6, h7⟩ := row_cells hs hi
  have hyl := hv.length
  obtain ⟨w', c', r1, r2, r3, r4, r5, r6, r7, r8, r9⟩ := storeCells_run (P := P) (off := off) ys 0 w c h1 h3.1 (by omega) ho
  have hle : HLe ρ hf ρ (updH hf [(id, g, .row pu' esz (Vm.splice cs off xs))]) := same_HLe hi
  refine ⟨w', r1, hle, write_HS hs hi trivial r6 hle ?_, write_Ext hx hi trivial r2 r3 r4 r5 r6 g⟩
  refine ⟨c', e, fz, r7, r8.trans h2, by rw [r8, splice_length hl]; exact h3, ?_⟩
  rw [splice_length hl, r9, Nat.add_zero, toList_take_splice _ _ _ _ (by omega)]
  cases pu' with
  | true =>
    obtain ⟨rfl, hp2⟩ := hp rfl
    exact (h7 rfl).splice (plainL_pvs hp2 hv) hl
  | false => exact VRs.mono (MLe.refl _) hle _ _ (h4.splice hv hl)
theorem store_ok {P : Program} {C : Ctx} {E : Ent} {ρ : Place} {hf : Objs} {I : Mem} {w : World} {a : Act} {o : Oper} {t : TypeId} {x y : T} {X Y : Operand} {r : AR} (hT : TabOk P C) (hs : HS ρ hf I w)
    (hext : Ext E.w0 E.own E.I0 ρ hf I w) (ho : o.op = .store t X Y) (h : aStore C hf t x y = some r) (hq : ∀ p ∈ r.q, p) (hx : VR ρ hf I x (a.eval X)) (hy : VR ρ hf I y (a.eval Y)) :
    Does P E hf ρ I o r.t r.d a w := by
  unfold aStore at h
  split at h
  · cases h
  · rename_i hsz
    split at h
    · rename_i id g off
      split at h
      · rename_i g' pu esz cs hi
        split at h
        · rename_i hg; obtain rfl := Nat.eq_of_beq_eq_true hg
          split at h
          · rename_i hlen
            have hlen' := Nat.eq_of_beq_eq_true hlen
            have hk := (hT t).2.resolve_left (fun e => by rw [e] at hsz; simp at hsz)
            obtain ⟨⟨inf, z, hinf, hsi, _⟩, _⟩ := hk
            have hsize : (sizeOf t).run P w = .ok (tin C t).size w := by rw [run_sizeOf w hinf]; simp [Program.cellsOf, hinf, hsi]
            have key : ∀ pu' : Bool, cellyL (cellsT y) = true → off + (cellsT y).length ≤ cs.length → (pu' = true → pu = true ∧ plainL (cellsT y) = true) →
                Does P E hf ρ I o .top [(id, g, .row pu' esz (Vm.splice cs off (cellsT y)))] a w := by
              intro pu' hc hl hp
              have hv := cells_of hc hy
              obtain ⟨w', r1, r2, r3, r4⟩ := write_row (P := P) (pu' := pu') hs hext hi hl hv (cellyL_one hc hv) hp
              have hsz2 : (a.eval Y).cells.size = (tin C t).size := by
                have := hv.length; rw [Array.length_toList] at this; omega
              refine ⟨.skip, undef, ρ, I, w', ?_, .inr ⟨rfl, rfl⟩, MLe.refl _, r2, r3, r4, by simp [VR]⟩
              rw [execOp, ho]
              simp only [VR_p hx hi, Instr.storeAt, Instr.sureAddr, storeVar, Sem.run_bind, Sem.run_pure, Result.andThen_ok, hsize, hsz2, ne_eq, not_true_eq_false, if_false, r1]
            split at h
            · split at h
              · rename_i hp
                cases h
                have hle : off + (tin C t).size ≤ cs.length := hq _ (by simp)
                exact key true (plainL_celly hp) (by omega) fun _ => ⟨rfl, hp⟩
              · cases h
            · split at h
              · rename_i hc hle
                rw [forceL_eq] at h; cases h
                exact key false hc (by have := Nat.le_of_ble_eq_true hle; omega) (fun e => by simp at e)
              · cases h
          · cases h
        · cases h
      · cases h
    · cases h
end Go.Proofs.YtdiippegaidpkaaDoor.Vm
