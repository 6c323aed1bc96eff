/- The symbolic machine, part 4: the state's relation; lists of values; memory written and made. -/
import Derived.Test.YtdiippegaidpkaaDoorVm3
import Derived.Laws.AppendOwn
import Derived.Laws.BytesString
import Derived.ChangeKeysEq
namespace Go.Proofs.YtdiippegaidpkaaDoor.Vm
open Go

/-! ### Lists of values -/
section
variable {ρ : Place} {h : Objs} {I : Mem}
theorem VRs.length : ∀ {ts : List T} {vs : List Value}, VRs ρ h I ts vs → vs.length = ts.length
  | [], _, hv => by simp only [VRs] at hv; subst hv; rfl
  | t :: ts, _, hv => by
    simp only [VRs] at hv
    obtain ⟨v, r, rfl, _, h2⟩ := hv
    simp [VRs.length h2]
theorem PVs.length {ts : List T} {vs : List Value} (hv : PVs I ts vs) : vs.length = ts.length := VRs.length (ρ := fun _ => (0, 0)) (h := fun _ => none) (PVs.vrs _ _ hv)
theorem VRs.get : ∀ {ts : List T} {vs : List Value}, VRs ρ h I ts vs → ∀ (j : Nat) (t : T), ts[j]? = some t → ∃ v, vs[j]? = some v ∧ VR ρ h I t v
  | [], _, _, j, t, hj => by simp at hj
  | t :: ts, _, hv, j, u, hj => by
    simp only [VRs] at hv
    obtain ⟨v, r, rfl, h1, h2⟩ := hv
    cases j with
    | zero => simp at hj; subst hj; exact ⟨v, rfl, h1⟩
    | succ j => simp at hj; simpa using VRs.get h2 j u hj
theorem VRs.of_get : ∀ {ts : List T} {vs : List Value}, vs.length = ts.length → (∀ (j : Nat) (t : T) (v : Value), ts[j]? = some t → vs[j]? = some v → VR ρ h I t v) → VRs ρ h I ts vs
  | [], vs, hl, _ => by simp [VRs]; exact List.length_eq_zero_iff.1 hl
  | t :: ts, [], hl, _ => by simp at hl
  | t :: ts, v :: vs, hl, hg => ⟨v, vs, rfl, hg 0 t v rfl rfl, VRs.of_get (by simpa using hl) fun j t' v' h1 h2 => hg (j + 1) t' v' (by simpa using h1) (by simpa using h2)⟩
theorem PVs.of_get : ∀ {ts : List T} {vs : List Value}, vs.length = ts.length → (∀ (j : Nat) (t : T) (v : Value), ts[j]? = some t → vs[j]? = some v → PV I t v) → PVs I ts vs
  | [], vs, hl, _ => by simp [PVs]; exact List.length_eq_zero_iff.1 hl
  | t :: ts, [], hl, _ => by simp at hl
  | t :: ts, v :: vs, hl, hg => ⟨v, vs, rfl, hg 0 t v rfl rfl, PVs.of_get (by simpa using hl) fun j t' v' h1 h2 => hg (j + 1) t' v' (by simpa using h1) (by simpa using h2)⟩
theorem PVs.get : ∀ {ts : List T} {vs : List Value}, PVs I ts vs → ∀ (j : Nat) (t : T), ts[j]? = some t → ∃ v, vs[j]? = some v ∧ PV I t v
  | [], _, _, j, t, hj => by simp at hj
  | t :: ts, _, hv, j, u, hj => by
    simp only [PVs] at hv
    obtain ⟨v, r, rfl, h1, h2⟩ := hv
    cases j with
    | zero => simp at hj; subst hj; exact ⟨v, rfl, h1⟩
    | succ j => simp at hj; simpa using PVs.get h2 j u hj
theorem VRs.at {ts : List T} {vs : List Value} (hv : VRs ρ h I ts vs) {j : Nat} {t : T} {v : Value} (h1 : ts[j]? = some t) (h2 : vs[j]? = some v) : VR ρ h I t v := by
  obtain ⟨v', e, r⟩ := hv.get j t h1; rw [e] at h2; obtain rfl := Option.some.inj h2; exact r
theorem PVs.at {ts : List T} {vs : List Value} (hv : PVs I ts vs) {j : Nat} {t : T} {v : Value} (h1 : ts[j]? = some t) (h2 : vs[j]? = some v) : PV I t v := by
  obtain ⟨v', e, r⟩ := hv.get j t h1; rw [e] at h2; obtain rfl := Option.some.inj h2; exact r
theorem VRs.append {ts us : List T} {vs ws : List Value} (h1 : VRs ρ h I ts vs) (h2 : VRs ρ h I us ws) : VRs ρ h I (ts ++ us) (vs ++ ws) := by
  refine VRs.of_get (by simp [h1.length, h2.length]) fun j t v e1 e2 => ?_
  rw [List.getElem?_append] at e1 e2
  rw [h1.length] at e2
  split at e1
  · rename_i hl; rw [if_pos hl] at e2; exact h1.at e1 e2
  · rename_i hl; rw [if_neg hl] at e2; exact h2.at e1 e2
theorem PVs.append {ts us : List T} {vs ws : List Value} (h1 : PVs I ts vs) (h2 : PVs I us ws) : PVs I (ts ++ us) (vs ++ ws) := by
  refine PVs.of_get (by simp [h1.length, h2.length]) fun j t v e1 e2 => ?_
  rw [List.getElem?_append] at e1 e2
  rw [h1.length] at e2
  split at e1
  · rename_i hl; rw [if_pos hl] at e2; exact h1.at e1 e2
  · rename_i hl; rw [if_neg hl] at e2; exact h2.at e1 e2
theorem VRs.take {ts : List T} {vs : List Value} (h1 : VRs ρ h I ts vs) (n : Nat) : VRs ρ h I (ts.take n) (vs.take n) := by
  refine VRs.of_get (by simp [h1.length]) fun j t v e1 e2 => ?_
  rw [List.getElem?_take] at e1 e2
  split at e1
  · rename_i hl; rw [if_pos hl] at e2; exact h1.at e1 e2
  · simp at e1
theorem VRs.drop {ts : List T} {vs : List Value} (h1 : VRs ρ h I ts vs) (n : Nat) : VRs ρ h I (ts.drop n) (vs.drop n) := by
  refine VRs.of_get (by simp [h1.length]) fun j t v e1 e2 => ?_
  rw [List.getElem?_drop] at e1 e2
  exact h1.at e1 e2
theorem PVs.take {ts : List T} {vs : List Value} (h1 : PVs I ts vs) (n : Nat) : PVs I (ts.take n) (vs.take n) := by
  refine PVs.of_get (by simp [h1.length]) fun j t v e1 e2 => ?_
  rw [List.getElem?_take] at e1 e2
  split at e1
  · rename_i hl; rw [if_pos hl] at e2; exact h1.at e1 e2
  · simp at e1
theorem PVs.drop {ts : List T} {vs : List Value} (h1 : PVs I ts vs) (n : Nat) : PVs I (ts.drop n) (vs.drop n) := by
  refine PVs.of_get (by simp [h1.length]) fun j t v e1 e2 => ?_
  rw [List.getElem?_drop] at e1 e2
  exact h1.at e1 e2
theorem VRs.map {α : Type} (f : α → T) (g : α → Value) (hf : ∀ x, VR ρ h I (f x) (g x)) : ∀ l : List α, VRs ρ h I (l.map f) (l.map g)
  | [] => by simp [VRs]
  | x :: l => ⟨_, _, rfl, hf x, VRs.map f g hf l⟩
theorem splice_eq (cs : List T) (off : Nat) (xs : List T) (hl : off + xs.length ≤ cs.length) : splice cs off xs = cs.take off ++ xs ++ cs.drop (off + xs.length) := by
  unfold splice
  split
  · rename_i x
    simp only [List.length_cons, List.length_nil] at hl ⊢
    rw [List.set_eq_take_append_cons_drop, if_pos (by omega)]
    simp
  · rfl
end

/-! ### The state -/
def DR (ρ : Place) (h : Objs) (I : Mem) : Ds → List Deferred → Prop
  | [], l => l = []
  | (f, x, c) :: ds, l => ∃ xs cs r, l = { target := .fn (.func f) ⟨cs⟩, args := ⟨xs⟩ } :: r ∧ VRs ρ h I x xs ∧ VRs ρ h I c cs ∧ DR ρ h I ds r
theorem DR.mono {ρ ρ' : Place} {h h' : Objs} {I I' : Mem} (hI : MLe I I') (hh : HLe ρ h ρ' h') : ∀ {ds : Ds} {l : List Deferred}, DR ρ h I ds l → DR ρ' h' I' ds l
  | [], _, hd => hd
  | (f, x, c) :: ds, _, hd => by
    simp only [DR] at hd ⊢
    obtain ⟨xs, cs, r, e, h1, h2, h3⟩ := hd
    exact ⟨xs, cs, r, e, VRs.mono hI hh _ _ h1, VRs.mono hI hh _ _ h2, DR.mono hI hh h3⟩
/-- A call's begin. -/
structure Ent where
  w0 : World
  own : Nat → Prop
  I0 : Mem
  p0 : Place
  h0 : Objs
  nt : Nat
structure SR (C : Ctx) (E : Ent) (ef : Nat → T) (hf : Objs) (ds : Ds) (ρ : Place) (I : Mem) (a : Act) (w : World) : Prop where
  glob : GlobOk C I
  hs : HS ρ hf I w
  ext : Ext E.w0 E.own E.I0 ρ hf I w
  hle : HLe E.p0 E.h0 ρ hf
  env : ∀ n, VR ρ hf I (ef n) (a.tmps.getD n undef)
  sz : a.tmps.size = E.nt
  dfs : DR ρ hf I ds a.defers
theorem GlobOk.mono {C : Ctx} {I I' : Mem} (hI : MLe I I') (h : GlobOk C I) : GlobOk C I' := fun g => (h g).imp id (PV.mono hI _ _)
theorem put_getD (a : Act) (dst : Option Nat) (v : Value) (n nt : Nat) (hs : a.tmps.size = nt) (hd : ∀ d, dst = some d → d < nt) :
    (a.put dst v).tmps.getD n undef = match dst with | some d => if d = n then v else a.tmps.getD n undef | none => a.tmps.getD n undef := by
  cases dst with
  | none => rfl
  | some d =>
    have hlt := hd d rfl
    simp only [Act.put, Array.getD_eq_getD_getElem?, Array.getElem?_setIfInBounds]
    by_cases h : d = n
    · subst h; simp [hs, hlt]
    · simp [h]
/-- What an operation must show: it runs, and its value, its objects and what it knows are right. -/
def Does (P : Program) (E : Ent) (hf : Objs) (ρ : Place) (I : Mem) (o : Oper) (t : T) (d : Heap) (a : Act) (w : World) : Prop :=
  ∃ nx v ρ' I' w', (execOp a.eval o).run P w = .ok nx w' ∧ (nx = .value v ∨ (nx = .skip ∧ v = undef)) ∧ MLe I I' ∧ HLe ρ hf ρ' (updH hf d) ∧
    HS ρ' (updH hf d) I' w' ∧ Ext E.w0 E.own E.I0 ρ' (updH hf d) I' w' ∧ VR ρ' (updH hf d) I' t v
theorem SR.step {C : Ctx} {E : Ent} {ef : Nat → T} {hf hf' : Objs} {ds : Ds} {ρ ρ' : Place} {I I' : Mem} {a : Act} {w w' : World} {dst : Option Nat} {t : T} {v : Value}
    (sr : SR C E ef hf ds ρ I a w) (hd : ∀ d, dst = some d → d < E.nt) (hI : MLe I I') (hh : HLe ρ hf ρ' hf') (hs : HS ρ' hf' I' w')
    (hx : Ext E.w0 E.own E.I0 ρ' hf' I' w') (hv : VR ρ' hf' I' t v) : SR C E (updF ef dst t) hf' ds ρ' I' (a.put dst v) w' := by
  refine ⟨sr.glob.mono hI, hs, hx, sr.hle.trans hh, fun n => ?_, ?_, ?_⟩
  · rw [put_getD a dst v n E.nt sr.sz hd]
    cases dst with
    | none => exact VR.mono hI hh _ _ (sr.env n)
    | some d =>
      simp only [updF]
      by_cases h : d = n
      · rw [if_pos h, if_pos h]; exact hv
      · rw [if_neg h, if_neg h]; exact VR.mono hI hh _ _ (sr.env n)
  · cases dst <;> simp [Act.put, sr.sz]
  · have : (a.put dst v).defers = a.defers := by cases dst <;> rfl
    rw [this]; exact sr.dfs.mono hI hh
/-- An operation that leaves the world as it is. -/
theorem Does.pure {P : Program} {C : Ctx} {E : Ent} {ef : Nat → T} {hf : Objs} {ds : Ds} {ρ : Place} {I : Mem} {o : Oper} {t : T} {a : Act} {w : World} (v : Value)
    (sr : SR C E ef hf ds ρ I a w) (hr : (execOp a.eval o).run P w = .ok (.value v) w) (hv : VR ρ hf I t v) : Does P E hf ρ I o t [] a w :=
  ⟨_, v, ρ, I, w, hr, .inl rfl, MLe.refl _, HLe.refl _ _, sr.hs, sr.ext, hv⟩
theorem VR_const (ρ : Place) (h : Objs) (I : Mem) (v : Value) : VR ρ h I (ofConst v) v := by
  unfold ofConst
  split <;> simp [VR]
theorem VR_opd {C : Ctx} {E : Ent} {ef : Nat → T} {hf : Objs} {ds : Ds} {ρ : Place} {I : Mem} {a : Act} {w : World} (sr : SR C E ef hf ds ρ I a w) (x : Operand) :
    VR ρ hf I (opdF C ef x) (a.eval x) := by
  cases x with
  | tmp t => exact sr.env t
  | const v => exact VR_const _ _ _ v
  | global g =>
    rcases sr.glob g with h | h
    · simp [opdF, h, VR]
    · exact PV.vr _ _ h
  | func f => simp [opdF, VR, Act.eval, VRs]

/-! ### New memory -/
theorem live_lt {ρ : Place} {hf : Objs} {I : Mem} {w : World} {id : Nat} {o : Obj} (ho : OR ρ hf I w id o) (hl : o.live) : (ρ id).1 < w.heap.size := by
  cases o with
  | dead => exact hl.elim
  | row pu esz cs => obtain ⟨c, e, fz, hh, _⟩ := ho; exact (Array.getElem?_eq_some_iff.1 hh).1
  | it l pos => exact (Array.getElem?_eq_some_iff.1 ho).1
/-- The object that was made. -/
def made (ρ : Place) (w : World) (id n : Nat) : Place := fun m => if m = id then (w.heap.size, n) else ρ m
theorem made_HLe {ρ : Place} {hf : Objs} {w : World} {id g n : Nat} {o : Obj} (hg : ∀ g0 o0, hf id = some (g0, o0) → g0 < g) :
    HLe ρ hf (made ρ w id n) (updH hf [(id, g, o)]) := by
  intro m g1 o1 h1
  rw [updH_one]
  by_cases h : id = m
  · subst h; rw [if_pos rfl]; exact ⟨g, o, rfl, Nat.le_of_lt (hg _ _ h1), fun e => by have := hg _ _ h1; omega⟩
  · rw [if_neg h]
    exact ⟨g1, o1, h1, Nat.le_refl _, fun _ hd => ⟨by simp [made, Ne.symm h], hd, fun pu s cs e => ⟨pu, s, cs, e, rfl⟩⟩⟩
theorem OR.keep {ρ ρ' : Place} {hf hf' : Objs} {I I' : Mem} {w w' : World} {id : Nat} {o : Obj} (hI : MLe I I') (hh : HLe ρ hf ρ' hf') (hp : ρ' id = ρ id)
    (hb : w'.heap[(ρ id).1]? = w.heap[(ρ id).1]?) (ho : OR ρ hf I w id o) : OR ρ' hf' I' w' id o := by
  cases o with
  | dead => trivial
  | row pu esz cs =>
    obtain ⟨c, e, fz, h1, h2, h3, h4⟩ := ho
    refine ⟨c, e, fz, by rw [hp, hb]; exact h1, by rw [hp]; exact h2, h3, ?_⟩
    cases pu with
    | true => exact PVs.mono hI _ _ h4
    | false => exact VRs.mono hI hh _ _ h4
  | it l pos => show w'.heap[(ρ' id).1]? = _; rw [hp, hb]; exact ho
theorem newG_lt {hf : Objs} {d g0 : Nat} {o0 : Obj} (h : hf d = some (g0, o0)) : g0 < newG hf d := by simp [newG, h]
/-- A new block, whatever it is. -/
theorem alloc_HS {ρ : Place} {hf : Objs} {I : Mem} {w : World} {id g n : Nat} {o : Obj} {ob : Go.Obj} (hs : HS ρ hf I w) (hg : ∀ g0 o0, hf id = some (g0, o0) → g0 < g)
    (ho : OR (made ρ w id n) (updH hf [(id, g, o)]) I (w.alloc ob) id o) : HS (made ρ w id n) (updH hf [(id, g, o)]) I (w.alloc ob) := by
  have hle := made_HLe (ρ := ρ) (hf := hf) (w := w) (id := id) (g := g) (n := n) (o := o) hg
  have hlt : ∀ {m g1 o1}, hf m = some (g1, o1) → o1.live → (ρ m).1 < w.heap.size := fun h1 hl => live_lt (hs.obj _ _ _ h1) hl
  have hmem : ∀ {a v}, I a = some v → a.block < w.heap.size := fun h => World.block_lt_of_cell? _ _ (hs.mem _ _ h)
  refine ⟨fun a v h => ?_, fun m g1 o1 h1 => ?_, fun m m' g1 o1 g2 o2 h1 h2 l1 l2 hne => ?_, fun a v m g1 o1 h h1 l1 => ?_⟩
  · rw [World.cell?_alloc_lt _ _ _ (hmem h)]; exact hs.mem _ _ h
  · rw [updH_one] at h1
    by_cases h : id = m
    · subst h; rw [if_pos rfl] at h1; simp only [Option.some.injEq, Prod.mk.injEq] at h1; obtain ⟨_, rfl⟩ := h1; exact ho
    · rw [if_neg h] at h1
      by_cases hd : o1.live
      · exact (hs.obj _ _ _ h1).keep (MLe.refl _) hle (by simp [made, Ne.symm h]) (RowKit.Below.heap_alloc _ _ _ (hlt h1 hd))
      · cases o1 with
        | dead => trivial
        | row => exact absurd trivial hd
        | it => exact absurd trivial hd
  · rw [updH_one] at h1 h2
    by_cases h : id = m
    · subst h
      rw [if_neg hne] at h2
      simp only [made, if_pos, if_neg (Ne.symm hne)]
      exact Nat.ne_of_gt (hlt h2 l2)
    · rw [if_neg h] at h1
      by_cases h' : id = m'
      · subst h'
        simp only [made, if_pos, if_neg hne]
        exact Nat.ne_of_lt (hlt h1 l1)
      · rw [if_neg h'] at h2
        simp only [made, if_neg (Ne.symm h), if_neg (Ne.symm h')]
        exact hs.inj _ _ _ _ _ _ h1 h2 l1 l2 hne
  · rw [updH_one] at h1
    by_cases h' : id = m
    · subst h'; simp only [made, if_pos]; exact Nat.ne_of_lt (hmem h)
    · rw [if_neg h'] at h1
      simp only [made, if_neg (Ne.symm h')]
      exact hs.dis _ _ _ _ _ h h1 l1
theorem alloc_Ext {w0 : World} {own : Nat → Prop} {I0 : Mem} {ρ : Place} {hf : Objs} {I : Mem} {w : World} {id g n : Nat} {o : Obj} {ob : Go.Obj}
    (hx : Ext w0 own I0 ρ hf I w) : Ext w0 own I0 (made ρ w id n) (updH hf [(id, g, o)]) I (w.alloc ob) := by
  refine ⟨hx.os, hx.tape, hx.output, ?_, fun b hb hn => ?_, hx.sub, hx.new, fun m g1 o1 h1 l1 => ?_⟩
  · rw [World.size_alloc]; exact Nat.le_succ_of_le hx.size
  · rw [RowKit.Below.heap_alloc _ _ _ (Nat.lt_of_lt_of_le hb hx.size)]; exact hx.blk b hb hn
  · rw [updH_one] at h1
    by_cases h : id = m
    · subst h; left; simp only [made, if_pos]; exact hx.size
    · rw [if_neg h] at h1; simp only [made, if_neg (Ne.symm h)]; exact hx.own _ _ _ h1 l1
theorem HS.drew {ρ : Place} {hf : Objs} {I : Mem} {w : World} (hs : HS ρ hf I w) : HS ρ hf I w.drew := ⟨hs.mem, fun id g o h => by
  have := hs.obj id g o h
  cases o <;> exact this, hs.inj, hs.dis⟩
theorem Ext.drew {w0 : World} {own : Nat → Prop} {I0 : Mem} {ρ : Place} {hf : Objs} {I : Mem} {w : World} (hx : Ext w0 own I0 ρ hf I w) : Ext w0 own I0 ρ hf I w.drew :=
  ⟨hx.os, hx.tape, hx.output, hx.size, hx.blk, hx.sub, hx.new, hx.own⟩
/-- A new row of cells. -/
theorem row_OR {ρ : Place} {hf : Objs} {I : Mem} {w : World} {id g : Nat} {pu : Bool} {esz : Mk} {cs : List T} {c : Array Value} {e : TypeId} {fz : Nat × Nat} (hfz : Fit esz cs.length c.size e fz)
    (hg : ∀ g0 o0, hf id = some (g0, o0) → g0 < g) (hc : VRs ρ hf I cs (c.toList.take cs.length)) (hp : pu = true → PVs I cs (c.toList.take cs.length)) :
    OR (made ρ w id c.size) (updH hf [(id, g, .row pu esz cs)]) I (w.alloc (.cells c e fz)) id (.row pu esz cs) := by
  refine ⟨c, e, fz, ?_, by simp [made], hfz, ?_⟩
  · simp only [made, if_pos]; show (w.heap.push _)[w.heap.size]? = _; simp
  · cases pu with
    | true => exact hp rfl
    | false => exact VRs.mono (MLe.refl _) (made_HLe hg) _ _ hc

/-! ### Memory written -/
/-- One object turned, at its place: what stands in its block is new. -/
theorem write_HS {ρ : Place} {hf : Objs} {I : Mem} {w w' : World} {id g0 g : Nat} {o0 o : Obj} (hs : HS ρ hf I w) (hi : hf id = some (g0, o0)) (hl : o0.live)
    (hb : ∀ b, b ≠ (ρ id).1 → w'.heap[b]? = w.heap[b]?) (hh : HLe ρ hf ρ (updH hf [(id, g, o)]))
    (ho : OR ρ (updH hf [(id, g, o)]) I w' id o) : HS ρ (updH hf [(id, g, o)]) I w' := by
  refine ⟨fun a v h => ?_, fun m g1 o1 h1 => ?_, fun m m' g1 o1 g2 o2 h1 h2 l1 l2 hne => ?_, fun a v m g1 o1 h h1 l1 => ?_⟩
  · have := hb a.block (hs.dis _ _ _ _ _ h hi hl)
    rw [← hs.mem _ _ h]; simp only [World.cell?, this]
  · rw [updH_one] at h1
    by_cases h : id = m
    · subst h; rw [if_pos rfl] at h1; simp only [Option.some.injEq, Prod.mk.injEq] at h1; obtain ⟨_, rfl⟩ := h1; exact ho
    · rw [if_neg h] at h1
      by_cases hd : o1.live
      · exact (hs.obj _ _ _ h1).keep (MLe.refl _) hh rfl (hb _ (hs.inj _ _ _ _ _ _ h1 hi hd hl (Ne.symm h)))
      · cases o1 with
        | dead => trivial
        | row => exact absurd trivial hd
        | it => exact absurd trivial hd
  · have f1 : ∃ g1 o1, hf m = some (g1, o1) ∧ o1.live := by
      rw [updH_one] at h1
      by_cases h : id = m
      · subst h; exact ⟨_, _, hi, hl⟩
      · rw [if_neg h] at h1; exact ⟨_, _, h1, l1⟩
    have f2 : ∃ g1 o1, hf m' = some (g1, o1) ∧ o1.live := by
      rw [updH_one] at h2
      by_cases h : id = m'
      · subst h; exact ⟨_, _, hi, hl⟩
      · rw [if_neg h] at h2; exact ⟨_, _, h2, l2⟩
    obtain ⟨_, _, a1, b1⟩ := f1
    obtain ⟨_, _, a2, b2⟩ := f2
    exact hs.inj _ _ _ _ _ _ a1 a2 b1 b2 hne
  · rw [updH_one] at h1
    by_cases h' : id = m
    · subst h'; exact hs.dis _ _ _ _ _ h hi hl
    · rw [if_neg h'] at h1; exact hs.dis _ _ _ _ _ h h1 l1
theorem write_Ext {w0 : World} {own : Nat → Prop} {I0 : Mem} {ρ : Place} {hf : Objs} {I : Mem} {w w' : World} {id g : Nat} {o0 o : Obj} (hx : Ext w0 own I0 ρ hf I w)
    (hi : hf id = some (g, o0)) (hl : o0.live) (hos : w'.os = w.os) (ht : w'.tape = w.tape) (hout : w'.output = w.output) (hsz : w'.heap.size = w.heap.size)
    (hb : ∀ b, b ≠ (ρ id).1 → w'.heap[b]? = w.heap[b]?) (g' : Nat) : Ext w0 own I0 ρ (updH hf [(id, g', o)]) I w' := by
  refine ⟨hos.trans hx.os, ht.trans hx.tape, hout.trans hx.output, hsz ▸ hx.size, fun b hlt hn => ?_, hx.sub, hx.new, fun m g1 o1 h1 l1 => ?_⟩
  · have hne : b ≠ (ρ id).1 := fun e => by
      rcases hx.own _ _ _ hi hl with h | h
      · omega
      · exact hn (e ▸ h)
    rw [hb b hne]; exact hx.blk b hlt hn
  · rw [updH_one] at h1
    by_cases h : id = m
    · subst h; exact hx.own _ _ _ hi hl
    · rw [if_neg h] at h1; exact hx.own _ _ _ h1 l1
theorem same_HLe {ρ : Place} {hf : Objs} {id g : Nat} {pu pu' : Bool} {esz : Mk} {cs cs' : List T} (hi : hf id = some (g, .row pu esz cs)) :
    HLe ρ hf ρ (updH hf [(id, g, .row pu' esz cs')]) := by
  intro m g1 o1 h1
  rw [updH_one]
  by_cases h : id = m
  · subst h; rw [if_pos rfl]; rw [hi] at h1; simp only [Option.some.injEq, Prod.mk.injEq] at h1; obtain ⟨rfl, rfl⟩ := h1
    exact ⟨g, _, rfl, Nat.le_refl _, fun _ _ => ⟨rfl, by simp, fun pu1 esz1 cs1 e => by
      simp only [Obj.row.injEq] at e; obtain ⟨_, rfl, _⟩ := e; exact ⟨pu, esz, cs, rfl, rfl⟩⟩⟩
  · rw [if_neg h]; exact ⟨g1, o1, h1, Nat.le_refl _, fun _ hd => ⟨rfl, hd, fun pu s cs e => ⟨pu, s, cs, e, rfl⟩⟩⟩
end Go.Proofs.YtdiippegaidpkaaDoor.Vm
