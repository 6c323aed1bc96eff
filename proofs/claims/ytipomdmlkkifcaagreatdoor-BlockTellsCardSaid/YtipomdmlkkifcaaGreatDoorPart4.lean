/- Texts of one proof, gathered: Row0 Row1 Row2. -/
import Derived.Test.YtipomdmlkkifcaaGreatDoorPart3
import Derived.ProofKit
import Derived.Below
import Derived.LaidLaws
import Derived.LaidMore
import Derived.LaidOnce
import Derived.OpenShut
import Derived.ShutString
import Derived.SizedLaws
import Derived.ChangeMaps5
import Derived.Shelf.Vars
import Derived.Stop.LaidErr
import Derived.Deep.Slices
set_option linter.unusedSimpArgs false
set_option linter.unusedVariables false
set_option linter.unnecessarySimpa false
/- What the rows give the machine: data that a variable holds, as abstract values; a contract of the machine's, told of worlds; the wrap for a law's row. -/
namespace Go.Proofs.YtipomdmlkkifcaaGreatDoor.Vm
open Go Go.Proofs Go.RowKit Go.ChangeShapes

/-! ### Data as abstract values -/
section
variable {H : Type}
/-- The fields of a struct, one behind the other, without gaps. -/
def tiles (P : Program) : List Field → Nat → Bool
  | [], _ => true
  | f :: fs, off => Nat.beq f.offset off && tiles P fs (off + P.cellsOf f.type)
def catO : List (Option (List T)) → Option (List T)
  | [] => some []
  | some x :: l => match catO l with | some y => some (x ++ y) | none => none
  | none :: _ => none
def zipO (g : TypeId → DataW H → Option (List T)) : List Field → List (DataW H) → List (Option (List T))
  | f :: fs, d :: ds => g f.type d :: zipO g fs ds
  | [], [] => []
  | _, _ => [none]
/-- The cells of a datum of a type. -/
def toT (P : Program) : Nat → TypeId → DataW H → Option (List T)
  | 0, _, _ => none
  | n + 1, t, d => match P.underlying t, d with
    | some .bool, .lit (.bool b) => some [.bl b]
    | some (.int k), .lit (.int _ x) => some [.i k x]
    | some .string, .lit (.string l) => some [.s l]
    | some (.pointer _), .nil => some [.np]
    | some (.slice _), .nil => some [.nsl]
    | some (.struct fs), .agg ds => match tiles P fs.toList 0 && Nat.beq (fs.toList.map fun f => P.cellsOf f.type).sum (P.cellsOf t) with
      | true => catO (zipO (toT P n) fs.toList ds)
      | false => none
    | some (.array m e), .agg ds => match Nat.beq (m * P.cellsOf e) (P.cellsOf t) with
      | true => catO (ds.map (toT P n e))
      | false => none
    | _, _ => none
end
theorem PVs_append {I : Mem} : ∀ {ts us : List T} {vs ws : List Value}, PVs I ts vs → PVs I us ws → PVs I (ts ++ us) (vs ++ ws)
  | [], us, vs, ws, h1, h2 => by simp only [PVs] at h1; subst h1; exact h2
  | t :: ts, us, vs, ws, h1, h2 => by
    simp only [PVs] at h1
    obtain ⟨v, r, rfl, a, b⟩ := h1
    simp only [List.cons_append, PVs]
    exact ⟨v, r ++ ws, rfl, a, PVs_append b h2⟩
/-- Rows of cells, laid one behind the other. -/
theorem PVs_parts {I : Mem} {k : Nat} : ∀ {l : List (Option (List T))} {ts : List T} {cs : List Value}, catO l = some ts → cs.length = l.length * k →
    (∀ i x, l[i]? = some (some x) → PVs I x ((cs.drop (i * k)).take k)) → PVs I ts cs
  | [], ts, cs, h, hl, _ => by
    simp only [catO, Option.some.injEq] at h; subst h
    simp only [List.length_nil, Nat.zero_mul, List.length_eq_zero_iff] at hl
    subst hl; exact rfl
  | none :: l, ts, cs, h, _, _ => by simp [catO] at h
  | some x :: l, ts, cs, h, hl, hp => by
    simp only [catO] at h
    cases hc : catO l with
    | none => rw [hc] at h; cases h
    | some y =>
      rw [hc] at h
      simp only [Option.some.injEq] at h; subst h
      have h0 := hp 0 x rfl
      simp only [Nat.zero_mul, List.drop_zero] at h0
      have hr := PVs_parts (I := I) (k := k) (cs := cs.drop k) hc (by rw [List.length_drop, hl, List.length_cons, Nat.add_mul, Nat.one_mul, Nat.add_sub_cancel]) fun i x' hi => by
        have := hp (i + 1) x' (by simpa using hi)
        rw [List.drop_drop, show k + i * k = (i + 1) * k from by rw [Nat.add_mul, Nat.one_mul, Nat.add_comm]]
        exact this
      have := PVs_append h0 hr
      rwa [List.take_append_drop] at this
theorem PVs_fields {I : Mem} {P : Program} {H : Type} {g : TypeId → DataW H → Option (List T)} : ∀ {fs : List Field} {ds : List (DataW H)} {ts : List T} {cs : List Value} {off : Nat}, catO (zipO g fs ds) = some ts → tiles P fs off = true →
    cs.length = off + (fs.map fun f => P.cellsOf f.type).sum → (∀ (i : Nat) (f : Field) (d : DataW H) (x : List T), fs[i]? = some f → ds[i]? = some d → g f.type d = some x → PVs I x ((cs.drop f.offset).take (P.cellsOf f.type))) → PVs I ts (cs.drop off)
  | [], [], ts, cs, off, h, _, hl, _ => by
    simp only [zipO, catO, Option.some.injEq] at h; subst h
    rw [List.drop_of_length_le (by simp at hl; omega)]; exact rfl
  | [], _ :: _, ts, cs, off, h, _, _, _ => by simp [zipO, catO] at h
  | _ :: _, [], ts, cs, off, h, _, _, _ => by simp [zipO, catO] at h
  | f :: fs, d :: ds, ts, cs, off, h, ht, hl, hp => by
    simp only [zipO] at h
    simp only [tiles, Bool.and_eq_true] at ht
    obtain ⟨h1, h2⟩ := ht
    have h1 := Nat.eq_of_beq_eq_true h1
    cases hg : g f.type d with
    | none => rw [hg] at h; simp [catO] at h
    | some x =>
      rw [hg] at h
      simp only [catO] at h
      cases hc : catO (zipO g fs ds) with
      | none => rw [hc] at h; cases h
      | some y =>
        rw [hc] at h
        simp only [Option.some.injEq] at h; subst h
        have h0 := hp 0 f d x rfl rfl hg
        rw [h1] at h0
        have hr := PVs_fields (I := I) (P := P) (cs := cs) hc h2 (by simp only [List.map_cons, List.sum_cons] at hl; omega) fun i f' d' x' a b c => hp (i + 1) f' d' x' (by simpa using a) (by simpa using b) c
        have := PVs_append h0 hr
        rw [← List.drop_drop, List.take_append_drop] at this
        exact this
section
variable {H : Type} {enc : TypeId × Value → H} {P : Program} {w : World} {base : Nat} {sp : Nat → Bool} {held : Bool}
/-- WHAT IS READ OUT OF CELLS, AS ABSTRACT VALUES. -/
theorem trod_PVs {I : Mem} : ∀ {n fuel : Nat} {t : TypeId} {d : DataW H} {p : List MemPlace} {cs : List Value} {ts : List T}, DataW.trod enc P w base sp held fuel t cs = some (d, p) → toT P n t d = some ts → PVs I ts cs
  | 0, _, _, _, _, _, _, _, h => by simp [toT] at h
  | n + 1, fuel, t, d, p, cs, ts, hd, h => by
    unfold toT at h
    split at h
    · rename_i b ht
      simp only [Option.some.injEq] at h; subst h
      cases fuel with
      | zero => simp [DataW.trod] at hd
      | succ m =>
        unfold DataW.trod at hd
        rw [ht] at hd
        split at hd <;> simp_all [PVs, PV]
    · rename_i k k' x ht
      simp only [Option.some.injEq] at h; subst h
      obtain ⟨z, rfl, e, _⟩ := DataW.trod_int ht hd
      simp only [Prod.mk.injEq, DataW.lit.injEq, Lit.int.injEq] at e
      obtain ⟨⟨rfl, rfl⟩, _⟩ := e
      simp [PVs, PV]
    · rename_i l ht
      simp only [Option.some.injEq] at h; subst h
      obtain ⟨s, rfl, e, _⟩ := DataW.trod_string ht hd
      simp only [Prod.mk.injEq, DataW.lit.injEq, Lit.string.injEq] at e
      obtain ⟨rfl, _⟩ := e
      simp only [PVs, PV]
      exact ⟨_, _, rfl, rfl, rfl⟩
    · rename_i e ht
      simp only [Option.some.injEq] at h; subst h
      cases fuel with
      | zero => simp [DataW.trod] at hd
      | succ m =>
        unfold DataW.trod at hd
        rw [ht] at hd
        split at hd <;> simp_all [PVs, PV]
        rw [Option.bind_eq_some_iff] at hd
        obtain ⟨y, _, hh⟩ := hd
        simp [Option.map_eq_some_iff] at hh
    · rename_i e ht
      simp only [Option.some.injEq] at h; subst h
      cases fuel with
      | zero => simp [DataW.trod] at hd
      | succ m =>
        unfold DataW.trod at hd
        rw [ht] at hd
        split at hd <;> simp_all [PVs, PV]
        obtain ⟨_, hd⟩ := hd
        rw [Option.bind_eq_some_iff] at hd
        obtain ⟨y, _, hh⟩ := hd
        simp [Option.map_eq_some_iff] at hh
    · rename_i fs ds ht
      split at h
      · rename_i hc
        simp only [Bool.and_eq_true] at hc
        obtain ⟨h1, h2⟩ := hc
        obtain ⟨xs, m, rfl, e, hl, hn, hf⟩ := DataW.trod_struct ht hd
        simp only [Prod.mk.injEq, DataW.agg.injEq] at e
        obtain ⟨rfl, _⟩ := e
        have := PVs_fields (I := I) (P := P) (cs := cs) (off := 0) h h1 (by rw [hl, ← Nat.eq_of_beq_eq_true h2]; simp) fun i f d x a b c => by
          have h3 := hf i f (by simpa using a)
          rw [List.getElem?_map] at b
          cases hx : xs[i]? with
          | none => rw [hx] at b; cases b
          | some y =>
            rw [hx] at b h3
            simp only [Option.map_some, Option.some.injEq] at b
            subst b
            exact trod_PVs h3 c
        simpa using this
      · cases h
    · rename_i k e ds ht
      split at h
      · rename_i hc
        obtain ⟨xs, m, rfl, e', hl, hn, hf⟩ := DataW.trod_array ht hd
        simp only [Prod.mk.injEq, DataW.agg.injEq] at e'
        obtain ⟨rfl, _⟩ := e'
        refine PVs_parts (k := P.cellsOf e) h (by rw [hl, ← Nat.eq_of_beq_eq_true hc]; simp [hn]) fun i x hi => ?_
        rw [List.getElem?_map, List.getElem?_map] at hi
        cases hx : xs[i]? with
        | none => rw [hx] at hi; cases hi
        | some y =>
          rw [hx] at hi
          simp only [Option.map_some, Option.some.injEq] at hi
          have hlt : i < k := by rw [← hn]; exact (List.getElem?_eq_some_iff.1 hx).1
          have h3 := hf i hlt
          rw [hx] at h3
          exact trod_PVs h3 hi
      · cases h
    · cases h
/-- A listed variable. -/
theorem laid_glob {nm : String} {d : DataW Unit} {r : List (String × DataW Unit)} {g t : Nat} {n : Nat} {ts : List T} (h : laidMet P ((nm, d) :: r) w) (hg : P.globalNamed nm = some g) (ht : (P.globals[g]?).map (·.type) = some t)
    (hd : toT P n t d = some ts) : PV (w.cell?) (.rp ts 0) (.pointer (some ⟨g, 0, none⟩)) := by
  obtain ⟨ps, ⟨g0, t0, cs0, f0, p0, q0, hg0, ht0, hv0, hd0, _, e0⟩, _, hrows⟩ := h
  obtain rfl := Option.some.inj (hg.symm.trans hg0)
  obtain rfl := Option.some.inj (ht.symm.trans ht0)
  have hp := trod_PVs (I := w.cell?) hd0 hd
  simp only [PV]
  refine ⟨g, 0, cs0.toList, by simp, hp, ?_⟩
  simp only [Lies]
  refine ⟨trivial, fun j v hj => ?_⟩
  have := World.var?_cell hg hv0 j
  rw [Nat.zero_add, this]
  simpa using hj
/-- A listed error of errors.New's make. -/
theorem laid_err {nm ty : String} {text : List UInt8} {r : List (String × DataW Unit)} {g ti tp te ts : Nat} {ms : Array (String × TypeId)} {f : Field} (h : laidMet P ((nm, .iface ty (.ptr (.agg [.lit (.string text)]))) :: r) w)
    (hg : P.globalNamed nm = some g) (ht : (P.globals[g]?).map (·.type) = some ti) (hi : P.underlying ti = some (.interface ms)) (hrow : ∀ u, P.typeName? 3 u = some ty → u = tp)
    (hp : P.underlying tp = some (.pointer te)) (he : P.underlying te = some (.struct #[f])) (hft : f.type = ts) (hfo : f.offset = 0) (hs : P.underlying ts = some .string) (hc : P.cellsOf te = 1) (hcs : P.cellsOf ts = 1) :
    PV (w.cell?) (.rp [.ifc tp (.rp [.s text] 0)] 0) (.pointer (some ⟨g, 0, none⟩)) := by
  obtain ⟨a, s, hv, hca, hst, _⟩ := laid_sentinel h hg ht hi hrow hp he hft hfo hs hc hcs
  have c0 := World.var?_cell hg hv 0
  have hsp : a.spot = none := by
    cases hx : a.spot with
    | none => rfl
    | some y =>
      unfold World.cell? at hca
      split at hca
      · rw [hx] at hca; simp at hca
      · cases hca
  simp only [PV, PVs, Lies]
  obtain ⟨ab, ao, asp⟩ := a
  simp only at hsp; subst hsp
  subst hst
  refine ⟨g, 0, _, by simp, ⟨_, _, rfl, ⟨_, rfl, ⟨ab, ao, _, rfl, ⟨_, _, rfl, rfl, rfl⟩, trivial, fun j v hj => ?_⟩⟩, rfl⟩, trivial, fun j v hj => ?_⟩
  · cases j with
    | zero => simp only [List.getElem?_cons_zero, Option.some.injEq] at hj; subst hj; simpa using hca
    | succ j => simp at hj
  · cases j with
    | zero =>
      simp only [List.getElem?_cons_zero, Option.some.injEq] at hj; subst hj
      simpa using c0
    | succ j => simp at hj
end
/-- A CONTRACT OF THE MACHINE's, told of worlds: nothing that was there is turned. -/
theorem calls_of_ret {C : Ctx} {f : FuncId} {args : List T} {r : T} (h : Ret P C f args r) {w : World} {vals : List Value} (hg : GlobOk C w.cell?) (hv : PVs w.cell? args vals) :
    Calls P f ⟨vals⟩ w fun e w' => ∃ v I' ρ', e = .returned v ∧ VR ρ' (hlook []) I' r v ∧ Below w.heap.size w w' := by
  refine (h.2 (fun _ => (0, 0)) w.cell? w vals hg ⟨fun a v h => h, fun id g o h => by simp [hlook] at h, fun id id' g o g' o' h => by simp [hlook] at h, fun a v id g o _ h => by simp [hlook] at h⟩ (PVs.vrs _ _ hv)).mono ?_
  rintro e w' ⟨v, r', ρ', hout, I', rfl, h1, h2, h3, h4, rfl, rfl⟩
  exact ⟨v, I', ρ', rfl, h1, h3.os, h3.tape, h3.output, h3.size, fun k hk => h3.blk k hk fun ⟨id, g, o, h, _⟩ => by simp [hlook] at h⟩
/-- THE WRAP: a law's row with listed variables; the contract is handed the reach and the world's shape. -/
theorem returns_law {H : Type} {enc : TypeId × Value → H} {a : Assume} {C : Checked} {os : Os} {f : FuncId} {fn : Func} {s : ChangeSpec} {conds : List PathCond} {apart fresh handsOn again : Bool} {X : World → Array Value → Prop}
    (hX : ∀ (w w' : World) (args : Array Value), w.heap = w'.heap → X w args → X w' args)
    (own : ownKnob C.prog.godebug = none) (started : os.Started) (noInit : C.prog.inits.idxOf? f = none) (hfn : C.prog.funcs[f]? = some fn)
    (witness : ∃ (w : World) (tape : Tape) (i : Input), w.os = os ∧ (w.forCall tape i).Shaped C.prog ∧ i.vars = [] ∧ Input.okWide C.prog (w.forCall tape i) .any w.heap.size f i ∧
      ((s.pre enc C.prog fn conds apart (w.forCall tape i).memory i.args ∧ X (w.forCall tape i).memory i.args) ∧ sizedMet enc C.prog fn (OpenSpec.ofChange s) apart (w.forCall tape i).memory i.args) ∧ a.holds C.prog (lone (Frame.enter C.prog f i.args .normal) [] (w.forCall tape i)))
    (contract : ∀ (W : World) (base : Nat) (args : Array Value) (ds gs : List (DataW H)) (before : List MemPlace),
      (∀ (j : Nat) t v, fn.params[j]? = some t → args[j]? = some v → Value.okWide C.prog W .any base t v) →
      DataW.Whole enc C.prog fn.params.toList s.vars apart W args.toList ds gs before →
      (DataW.weightsEach C.prog (fn.params.toList ++ s.plain.varTypes C.prog) (ds ++ gs)).all (· ≤ reachBytes) = true → X W args → W.ShapedOpen C.prog →
      Calls C.prog f args W fun e W' => ∃ v, e = .returned v ∧ s.post enc C.prog fn apart fresh handsOn again W args v W') :
    ReturnsInHanded a C os f .any (fun w args => (s.pre enc C.prog fn conds apart w args ∧ X w args) ∧ sizedMet enc C.prog fn (OpenSpec.ofChange s) apart w args) (s.post enc C.prog fn apart fresh handsOn again) := by
  refine returnsInHanded_of_calls own started noInit witness ?_
  intro w tape i _ hsh _ hok hpre hholds
  obtain ⟨_, _, _, fn', hfn', _, _, _, _, hval⟩ := hok
  have e : fn' = fn := Option.some.inj (hfn'.symm.trans hfn)
  subst e
  obtain ⟨⟨⟨ds, gs, before, hw, hc⟩, hx⟩, hz⟩ := hpre
  have hw' := DataW.Whole.of_heap (w' := w.forCall tape i) (by rfl) hw
  refine (contract (w.forCall tape i) w.heap.size i.args ds gs before hval hw' (hz.weights hw) (hX _ _ _ (by rfl) hx) hsh).mono fun e W' ⟨v, he, hp⟩ => ?_
  subst he
  exact ChangeSpec.post_blind hp
theorem look_cases (l : List (Nat × T)) (g : Nat) : look l g = .top ∨ ∃ t, (g, t) ∈ l ∧ look l g = t := by
  induction l with
  | nil => exact .inl rfl
  | cons x l ih =>
    obtain ⟨r, v⟩ := x
    simp only [look]
    cases hb : Nat.beq r g with
    | true => obtain rfl := Nat.eq_of_beq_eq_true hb; exact .inr ⟨v, by simp, rfl⟩
    | false =>
      rcases ih with h | ⟨t, h1, h2⟩
      · exact .inl h
      · exact .inr ⟨t, List.mem_cons_of_mem _ h1, h2⟩
theorem globOk_of {C : Ctx} {I : Mem} (h : ∀ x ∈ C.glob, PV I x.2 (.pointer (some ⟨x.1, 0, none⟩))) : GlobOk C I := fun g => by
  rcases look_cases C.glob g with h0 | ⟨t, h1, h2⟩
  · exact .inl h0
  · rw [h2]; exact .inr (h _ h1)
end Go.Proofs.YtipomdmlkkifcaaGreatDoor.Vm
/- What an argument looks like, out of what is read of it. -/
namespace Go.Proofs.YtipomdmlkkifcaaGreatDoor.Vm
open Go Go.Proofs Go.RowKit Go.ChangeShapes Go.WideShapes
def shapeF (g : TypeId → List T → Prop) : List Field → List T → Prop
  | [], ts => ts = []
  | f :: fs, ts => ∃ a b, ts = a ++ b ∧ g f.type a ∧ shapeF g fs b
/-- The cells of a value of a type. -/
def Shape (P : Program) : Nat → TypeId → List T → Prop
  | 0, _, _ => False
  | n + 1, t, ts => match P.underlying t with
    | some .bool => ∃ b, ts = [.b b]
    | some (.int k) => ∃ x, ts = [.i k x] ∧ (Lit.int k x).wf = true
    | some .string => ∃ l, ts = [.s l] ∧ (l.length : Int) ≤ 9223372036854775807
    | some (.struct fs) => shapeF (Shape P n) fs.toList ts
    | _ => False
/-- The types of which it speaks. -/
def flat (P : Program) : Nat → TypeId → Bool
  | 0, _ => false
  | n + 1, t => match P.underlying t with
    | some .bool => true
    | some (.int _) => true
    | some .string => true
    | some (.struct fs) => tiles P fs.toList 0 && Nat.beq (fs.toList.map fun f => P.cellsOf f.type).sum (P.cellsOf t) && fs.toList.all fun f => flat P n f.type
    | _ => false
theorem shape_fields {I : Mem} {P : Program} {g : TypeId → List T → Prop} : ∀ {fs : List Field} {cs : List Value} {off : Nat}, tiles P fs off = true → cs.length = off + (fs.map fun f => P.cellsOf f.type).sum →
    (∀ (i : Nat) (f : Field), fs[i]? = some f → ∃ a, PVs I a ((cs.drop f.offset).take (P.cellsOf f.type)) ∧ g f.type a) → ∃ ts, PVs I ts (cs.drop off) ∧ shapeF g fs ts
  | [], cs, off, _, hl, _ => ⟨[], by rw [List.drop_of_length_le (by simp at hl; omega)]; exact rfl, rfl⟩
  | f :: fs, cs, off, ht, hl, hp => by
    simp only [tiles, Bool.and_eq_true] at ht
    obtain ⟨h1, h2⟩ := ht
    have h1 := Nat.eq_of_beq_eq_true h1
    obtain ⟨a, pa, ga⟩ := hp 0 f rfl
    rw [h1] at pa
    obtain ⟨b, pb, gb⟩ := shape_fields (I := I) (cs := cs) h2 (by simp only [List.map_cons, List.sum_cons] at hl; omega) fun i f' hi => hp (i + 1) f' (by simpa using hi)
    refine ⟨a ++ b, ?_, a, b, rfl, ga, gb⟩
    have := PVs_append pa pb
    rw [← List.drop_drop, List.take_append_drop] at this
    exact this
section
variable {H : Type} {enc : TypeId × Value → H} {P : Program} {w : World} {base : Nat} {sp : Nat → Bool} {held : Bool}
set_option maxRecDepth 10000 in
theorem trod_shape {I : Mem} : ∀ {n fuel : Nat} {t : TypeId} {d : DataW H} {p : List MemPlace} {cs : List Value}, DataW.trod enc P w base sp held fuel t cs = some (d, p) → flat P n t = true → ∃ ts, PVs I ts cs ∧ Shape P n t ts
  | 0, _, _, _, _, _, _, h => by simp [flat] at h
  | n + 1, fuel, t, d, p, cs, hd, h => by
    unfold flat at h
    unfold Shape
    split at h
    · rename_i ht
      cases fuel with
      | zero => simp [DataW.trod] at hd
      | succ m =>
        unfold DataW.trod at hd
        rw [ht] at hd
        split at hd <;> simp_all
        refine ⟨[.b _], ⟨_, _, rfl, rfl, rfl⟩, ?_⟩; simp
    · rename_i k ht
      obtain ⟨z, rfl, _, hw⟩ := DataW.trod_int ht hd
      exact ⟨[.i k z], ⟨_, _, rfl, rfl, rfl⟩, _, rfl, hw⟩
    · rename_i ht
      obtain ⟨⟨⟨s⟩⟩, rfl, _, hs⟩ := DataW.trod_string ht hd
      refine ⟨[.s s], ⟨_, _, rfl, rfl, rfl⟩, _, rfl, ?_⟩
      have h5 : s.length ≤ maxLen := hs
      have h6 : maxLen = 9223372036854775807 := rfl
      rw [h6] at h5
      omega
    · rename_i fs ht
      simp only [Bool.and_eq_true, List.all_eq_true] at h
      obtain ⟨⟨h1, h2⟩, h3⟩ := h
      obtain ⟨xs, m, rfl, _, hl, hn, hf⟩ := DataW.trod_struct ht hd
      have := shape_fields (I := I) (P := P) (g := Shape P n) (cs := cs) (off := 0) h1 (by rw [hl, ← Nat.eq_of_beq_eq_true h2]; simp) fun i f hi => by
        have h4 := hf i f (by simpa using hi)
        have hlt : i < xs.length := by rw [hn]; have := (List.getElem?_eq_some_iff.1 hi).1; simpa using this
        rw [List.getElem?_eq_getElem hlt] at h4
        exact trod_shape (d := xs[i].1) (p := xs[i].2) h4 (h3 f (List.mem_of_getElem? hi))
      simpa using this
    · cases h
end
/-- Nothing of what was read lies in new memory. -/
theorem trod_old {H : Type} {enc : TypeId × Value → H} {P : Program} {W : World} {sp : Nat → Bool} {held : Bool} {t : TypeId} {v : Value} {d : DataW H} {p : List MemPlace} (h : DataW.Trod enc P W 0 sp held t v d p) : ∀ x ∈ p, x.block < W.heap.size := by
  obtain ⟨m, hm⟩ := h; exact DataW.trod_lt m _ _ _ hm
end Go.Proofs.YtipomdmlkkifcaaGreatDoor.Vm
/- What a slice looks like that is handed over, out of what is read of it. -/
namespace Go.Proofs.YtipomdmlkkifcaaGreatDoor.Vm
open Go Go.Proofs Go.RowKit Go.ChangeShapes Go.WideShapes
theorem PVs_flatten {I : Mem} : ∀ {ts : List (List T)} {vs : List (List Value)}, ts.length = vs.length → (∀ (i : Nat) x y, ts[i]? = some x → vs[i]? = some y → PVs I x y) → PVs I ts.flatten vs.flatten
  | [], [], _, _ => rfl
  | [], _ :: _, h, _ => by simp at h
  | _ :: _, [], h, _ => by simp at h
  | x :: ts, y :: vs, h, hp => by
    rw [List.flatten_cons, List.flatten_cons]
    exact PVs_append (hp 0 x y rfl rfl) (PVs_flatten (by simpa using h) fun i a b ha hb => hp (i + 1) a b (by simpa using ha) (by simpa using hb))
/-- Rows of a width, one behind the other, by place. -/
theorem rows_at {α : Type} {k : Nat} : ∀ {n : Nat} {f : Nat → List α} {j : Nat} {v : α}, (∀ i, i < n → (f i).length = k) → ((List.range n).map f).flatten[j]? = some v → ∃ i r, i < n ∧ r < k ∧ j = i * k + r ∧ (f i)[r]? = some v
  | 0, f, j, v, _, h => by simp at h
  | n + 1, f, j, v, hk, h => by
    rw [List.range_succ, List.map_append, List.flatten_append] at h
    have hl : ((List.range n).map f).flatten.length = n * k := by
      rw [List.length_flatten, List.map_map]
      have : (List.range n).map (List.length ∘ f) = (List.range n).map fun _ => k := List.map_congr_left fun i hi => hk i (by have := List.mem_range.1 hi; omega)
      rw [this]
      have : ∀ n, ((List.range n).map fun _ => k).sum = n * k := fun n => by
        induction n with
        | zero => simp
        | succ n ih => rw [List.range_succ, List.map_append, List.sum_append, ih, Nat.add_mul]; simp
      exact this n
    by_cases hj : j < n * k
    · rw [List.getElem?_append_left (by omega)] at h
      obtain ⟨i, r, h1, h2, h3, h4⟩ := rows_at (n := n) (f := f) (k := k) (fun i hi => hk i (by omega)) h
      exact ⟨i, r, by omega, h2, h3, h4⟩
    · rw [List.getElem?_append_right (by omega), hl] at h
      simp only [List.map_cons, List.map_nil, List.flatten_cons, List.flatten_nil, List.append_nil] at h
      have := (List.getElem?_eq_some_iff.1 h).1
      rw [hk n (by omega)] at this
      exact ⟨n, j - n * k, by omega, this, by omega, h⟩
end Go.Proofs.YtipomdmlkkifcaaGreatDoor.Vm
