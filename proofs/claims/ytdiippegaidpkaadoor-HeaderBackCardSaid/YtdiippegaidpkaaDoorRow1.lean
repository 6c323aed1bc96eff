/- What an argument looks like, out of what is read of it. -/
import Derived.Test.YtdiippegaidpkaaDoorRow0
set_option linter.unnecessarySimpa false
set_option linter.unusedVariables false
set_option linter.unusedSimpArgs false
namespace Go.Proofs.YtdiippegaidpkaaDoor.Vm
open Go Go.Proofs Go.RowKit Go.ChangeShapes Go.WideShapes
def shapeF (g : TypeId → List T → Prop) : List Field → List T → Prop
  | [], ts => ts = []
  | f :: fs, ts => ∃ a b, ts = a ++ b ∧ g f.type a ∧ shapeF g fs b
/-- The cells of a value of a type. -/
def Shape (P : Program) : Nat → TypeId → List T → Prop
  | 0, _, _ => False
  | n + 1, t, ts => match P.underlying t with
    | some .bool => ∃ b, ts = [.b b]
    | some (.int k) => ∃ x, ts = [.i k x] ∧ (Lit.int k x).wf = true
    | some .string => ∃ l, ts = [.s l] ∧ (l.length : Int) ≤ 9223372036854775807
    | some (.struct fs) => shapeF (Shape P n) fs.toList ts
    | _ => False
/-- The types of which it speaks. -/
def flat (P : Program) : Nat → TypeId → Bool
  | 0, _ => false
  | n + 1, t => match P.underlying t with
    | some .bool => true
    | some (.int _) => true
    | some .string => true
    | some (.struct fs) => tiles P fs.toList 0 && Nat.beq (fs.toList.map fun f => P.cellsOf f.type).sum (P.cellsOf t) && fs.toList.all fun f => flat P n f.type
    | _ => false
theorem shape_fields {I : Mem} {P : Program} {g : TypeId → List T → Prop} : ∀ {fs : List Field} {cs : List Value} {off : Nat}, tiles P fs off = true → cs.length = off + (fs.map fun f => P.cellsOf f.type).sum →
    (∀ (i : Nat) (f : Field), fs[i]? = some f → ∃ a, PVs I a ((cs.drop f.offset).take (P.cellsOf f.type)) ∧ g f.type a) → ∃ ts, PVs I ts (cs.drop off) ∧ shapeF g fs ts
  | [], cs, off, _, hl, _ => ⟨[], by rw [List.drop_of_length_le (by simp at hl; omega)]; exact rfl, rfl⟩
  | f :: fs, cs, off, ht, hl, hp => by
    simp only [tiles, Bool.and_eq_true] at ht
    obtain ⟨h1, h2⟩ := ht
    have h1 := Nat.eq_of_beq_eq_true h1
    obtain ⟨a, pa, ga⟩ := hp 0 f rfl
    rw [h1] at pa
    obtain ⟨b, pb, gb⟩ := shape_fields (I := I) (cs := cs) h2 (by simp only [List.map_cons, List.sum_cons] at hl; omega) fun i f' hi => hp (i + 1) f' (by simpa using hi)
    refine ⟨a ++ b, ?_, a, b, rfl, ga, gb⟩
    have := PVs_append pa pb
    rw [← List.drop_drop, List.take_append_drop] at this
    exact this
section
variable {H : Type} {enc : TypeId × Value → H} {P : Program} {w : World} {base : Nat} {sp : Nat → Bool} {held : Bool}
set_option maxRecDepth 10000 in
theorem trod_shape {I : Mem} : ∀ {n fuel : Nat} {t : TypeId} {d : DataW H} {p : List MemPlace} {cs : List Value}, DataW.trod enc P w base sp held fuel t cs = some (d, p) → flat P n t = true → ∃ ts, PVs I ts cs ∧ Shape P n t ts
  | 0, _, _, _, _, _, _, h => by simp [flat] at h
  | n + 1, fuel, t, d, p, cs, hd, h => by
    unfold flat at h
    unfold Shape
    split at h
    · rename_i ht
      cases fuel with
      | zero => simp [DataW.trod] at hd
      | succ m =>
        unfold DataW.trod at hd
        rw [ht] at hd
        split at hd <;> simp_all
        refine ⟨[.b _], ⟨_, _, rfl, rfl, rfl⟩, ?_⟩; simp
    · rename_i k ht
      obtain ⟨z, rfl, _, hw⟩ := DataW.trod_int ht hd
      exact ⟨[.i k z], ⟨_, _, rfl, rfl, rfl⟩, _, rfl, hw⟩
    · rename_i ht
      obtain ⟨⟨⟨s⟩⟩, rfl, _, hs⟩ := DataW.trod_string ht hd
      refine ⟨[.s s], ⟨_, _, rfl, rfl, rfl⟩, _, rfl, ?_⟩
      have h5 : s.length ≤ maxLen := hs
      have h6 : maxLen = 9223372036854775807 := rfl
      rw [h6] at h5
      omega
    · rename_i fs ht
      simp only [Bool.and_eq_true, List.all_eq_true] at h
      obtain ⟨⟨h1, h2⟩, h3⟩ := h
      obtain ⟨xs, m, rfl, _, hl, hn, hf⟩ := DataW.trod_struct ht hd
      have := shape_fields (I := I) (P := P) (g := Shape P n) (cs := cs) (off := 0) h1 (by rw [hl, ← Nat.eq_of_beq_eq_true h2]; simp) fun i f hi => by
        have h4 := hf i f (by simpa using hi)
        have hlt : i < xs.length := by rw [hn]; have := (List.getElem?_eq_some_iff.1 hi).1; simpa using this
        rw [List.getElem?_eq_getElem hlt] at h4
        exact trod_shape (d := xs[i].1) (p := xs[i].2) h4 (h3 f (List.mem_of_getElem? hi))
      simpa using this
    · cases h
end
/-- A struct that is handed over. -/
theorem open_struct {H : Type} {enc : TypeId × Value → H} {P : Program} {W : World} {r : Reach} {b0 : Nat} {sp : Nat → Bool} {held : Bool} {t : TypeId} {fs : Array Field} {v : Value} {d : DataW H} {p : List MemPlace} (ht : P.underlying t = some (.struct fs))
    (hv : Value.okWide P W r b0 t v) (h : DataW.Trod enc P W 0 sp held t v d p) (hf : flat P 8 t = true) : ∃ cs ts, v = .agg ⟨cs⟩ ∧ PVs W.cell? ts cs ∧ Shape P 8 t ts := by
  obtain ⟨⟨cs⟩, rfl, _⟩ := okWide_struct ht hv
  obtain ⟨fu, hd⟩ := h
  obtain ⟨ts, h1, h2⟩ := trod_shape (I := W.cell?) (n := 8) hd hf
  exact ⟨cs, ts, rfl, h1, h2⟩
/-- Nothing of what was read lies in new memory. -/
theorem trod_old {H : Type} {enc : TypeId × Value → H} {P : Program} {W : World} {sp : Nat → Bool} {held : Bool} {t : TypeId} {v : Value} {d : DataW H} {p : List MemPlace} (h : DataW.Trod enc P W 0 sp held t v d p) : ∀ x ∈ p, x.block < W.heap.size := by
  obtain ⟨m, hm⟩ := h; exact DataW.trod_lt m _ _ _ hm
end Go.Proofs.YtdiippegaidpkaaDoor.Vm
