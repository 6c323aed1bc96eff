/- The symbolic machine, part 3: the table of types; what is known stays known; the lemmas on values. -/
import Derived.Test.YtdiippegaidpkaaDoorVm2
namespace Go.Proofs.YtdiippegaidpkaaDoor.Vm
open Go

/-! ### The table of types -/
def isAggD : TypeDesc → Bool
  | .struct _ | .array _ _ => true
  | _ => false
def gndB : T → Value → Bool
  | .bl x, .bool y => x == y
  | .i k n, .int k' m => ikN k == ikN k' && n == m
  | .fl k x, .float k' y => fkN k == fkN k' && x == y
  | .cx k x y, .complex k' z u => fkN k == fkN k' && x == z && y == u
  | .s [], .string ⟨⟨[]⟩⟩ => true
  | .np, .pointer none => true
  | .nsl, .slice none 0 0 => true
  | .nfn, .nilFunc => true
  | .nif, .nilIface => true
  | _, _ => false
def gndL : List T → List Value → Bool
  | [], [] => true
  | t :: ts, v :: vs => gndB t v && gndL ts vs
  | _, _ => false
def SizeOk (P : Program) (t : TypeId) (ti : TI) : Prop :=
  ∃ inf z, P.info? t = some inf ∧ inf.size = ti.size ∧ inf.bytes = ti.bytes ∧ inf.zero = some z ∧ gndL ti.zero z.cells.toList = true ∧ ti.zero.length = ti.size ∧ ti.size < szB
def fld (P : Program) (f : Field) : Option (Nat × Nat × Bool) := match P.info? f.type, P.underlying f.type with
  | some inf, some d => some (f.offset, inf.size, isAggD d)
  | _, _ => none
def KindOk (P : Program) (C : Ctx) (t : TypeId) : TK → Prop
  | .other => True
  | .bool => P.underlying t = some .bool
  | .int k => P.underlying t = some (.int k)
  | .fl k => P.underlying t = some (.float k)
  | .cx k => P.underlying t = some (.complex k)
  | .str => P.underlying t = some .string
  | .slice e => P.underlying t = some (.slice e) ∧ SizeOk P e (tin C e) ∧ ∃ d, P.underlying e = some d ∧ isAggD d = (tin C e).agg
  | .arr n e => P.underlying t = some (.array n e) ∧ SizeOk P e (tin C e) ∧ ∃ d, P.underlying e = some d ∧ isAggD d = (tin C e).agg
  | .struct fs => ∃ fields, P.underlying t = some (.struct fields) ∧ fields.toList.map (fld P) = fs.map some
  | .ptr e => P.underlying t = some (.pointer e)
  | .func => ∃ a b c, P.underlying t = some (.func a b c)
def TIok (P : Program) (C : Ctx) (t : TypeId) (ti : TI) : Prop :=
  KindOk P C t ti.k ∧ (ti.size = 0 ∨ (SizeOk P t ti ∧ ∃ d, P.underlying t = some d ∧ isAggD d = ti.agg))
def TabOk (P : Program) (C : Ctx) : Prop := ∀ t, TIok P C t (tin C t)

def sizeB (P : Program) (t : TypeId) (ti : TI) : Bool := match P.info? t with
  | some inf => match inf.zero with
    | some z => Nat.beq inf.size ti.size && Nat.beq inf.bytes ti.bytes && gndL ti.zero z.cells.toList && Nat.beq ti.zero.length ti.size && Nat.blt ti.size szB
    | none => false
  | none => false
theorem sizeB_ok {P : Program} {t : TypeId} {ti : TI} (h : sizeB P t ti = true) : SizeOk P t ti := by
  unfold sizeB at h
  cases hi : P.info? t with
  | none => rw [hi] at h; simp at h
  | some inf =>
    rw [hi] at h
    cases hz : inf.zero with
    | none => simp [hz] at h
    | some z => simp [hz] at h; exact ⟨inf, z, hi, h.1.1.1.1, h.1.1.1.2, hz, h.1.1.2, h.1.2, by simpa [Nat.blt_eq] using h.2⟩
def aggB (P : Program) (t : TypeId) (b : Bool) : Bool := match P.underlying t with
  | some d => beqB (isAggD d) b
  | none => false
theorem beqB_eq {x y : Bool} (h : beqB x y = true) : x = y := by cases x <;> cases y <;> simp_all [beqB]
theorem aggB_ok {P : Program} {t : TypeId} {b : Bool} (h : aggB P t b = true) : ∃ d, P.underlying t = some d ∧ isAggD d = b := by
  unfold aggB at h
  cases hu : P.underlying t with
  | none => rw [hu] at h; simp at h
  | some d => rw [hu] at h; exact ⟨d, rfl, beqB_eq h⟩
theorem ikN_inj {k k' : IntKind} (h : ikN k = ikN k') : k = k' := by cases k <;> cases k' <;> simp_all [ikN]
theorem fkN_inj {k k' : FloatKind} (h : fkN k = fkN k') : k = k' := by cases k <;> cases k' <;> simp_all [fkN]
def eqO (a : Option (Nat × Nat × Bool)) (b : Nat × Nat × Bool) : Bool := match a, b with
  | some (x, y, z), (x', y', z') => Nat.beq x x' && Nat.beq y y' && beqB z z'
  | none, _ => false
def fldsB (P : Program) : List Field → List (Nat × Nat × Bool) → Bool
  | [], [] => true
  | f :: fs, x :: xs => eqO (fld P f) x && fldsB P fs xs
  | _, _ => false
theorem fldsB_ok {P : Program} : ∀ {fs : List Field} {xs : List (Nat × Nat × Bool)}, fldsB P fs xs = true → fs.map (fld P) = xs.map some
  | [], [], _ => rfl
  | f :: fs, x :: xs, h => by
    simp only [fldsB, Bool.and_eq_true] at h
    obtain ⟨h1, h2⟩ := h
    obtain ⟨a, b, c⟩ := x
    cases hf : fld P f with
    | none => rw [hf] at h1; simp [eqO] at h1
    | some y =>
      obtain ⟨a', b', c'⟩ := y
      rw [hf] at h1; simp [eqO] at h1
      simp [hf, fldsB_ok h2, h1.1.1, h1.1.2, beqB_eq h1.2]
  | [], _ :: _, h => by simp [fldsB] at h
  | _ :: _, [], h => by simp [fldsB] at h
def kindB (P : Program) (C : Ctx) (t : TypeId) (k : TK) : Bool := match k, P.underlying t with
  | .other, _ => true
  | .bool, some .bool => true
  | .int k, some (.int k') => Nat.beq (ikN k) (ikN k')
  | .fl k, some (.float k') => Nat.beq (fkN k) (fkN k')
  | .cx k, some (.complex k') => Nat.beq (fkN k) (fkN k')
  | .str, some .string => true
  | .slice e, some (.slice e') => Nat.beq e e' && sizeB P e (tin C e) && aggB P e (tin C e).agg
  | .arr n e, some (.array n' e') => Nat.beq n n' && Nat.beq e e' && sizeB P e (tin C e) && aggB P e (tin C e).agg
  | .struct fs, some (.struct fields) => fldsB P fields.toList fs
  | .ptr e, some (.pointer e') => Nat.beq e e'
  | .func, some (.func _ _ _) => true
  | _, _ => false
theorem kindB_ok {P : Program} {C : Ctx} {t : TypeId} {k : TK} (h : kindB P C t k = true) : KindOk P C t k := by
  unfold kindB at h
  split at h <;> (try simp only [Bool.and_eq_true, Nat.beq_eq] at h) <;> (try simp only [KindOk]) <;> first
    | assumption
    | (obtain rfl := ikN_inj h; assumption)
    | (obtain rfl := fkN_inj h; assumption)
    | (obtain ⟨⟨⟨rfl, rfl⟩, h2⟩, h3⟩ := h; exact ⟨by assumption, sizeB_ok h2, aggB_ok h3⟩)
    | (obtain ⟨⟨rfl, h2⟩, h3⟩ := h; exact ⟨by assumption, sizeB_ok h2, aggB_ok h3⟩)
    | exact ⟨_, by assumption, fldsB_ok h⟩
    | (subst h; assumption)
    | exact ⟨_, _, _, by assumption⟩
    | trivial
def tiB (P : Program) (C : Ctx) (t : TypeId) (ti : TI) : Bool := kindB P C t ti.k && sizeB P t ti && aggB P t ti.agg
def tabB (P : Program) (C : Ctx) : Tab → Bool
  | .leaf n t => tiB P C n t
  | .node _ l r => tabB P C l && tabB P C r
theorem get_ok {P : Program} {C : Ctx} : ∀ {tb : Tab}, tabB P C tb = true → ∀ t, TIok P C t (tb.get t)
  | .leaf m ti, h, t => by
    simp only [Tab.get]
    cases hm : Nat.beq m t with
    | false => exact ⟨trivial, .inl rfl⟩
    | true =>
      obtain rfl := Nat.eq_of_beq_eq_true hm
      simp only [tabB, tiB, Bool.and_eq_true] at h
      exact ⟨kindB_ok h.1.1, .inr ⟨sizeB_ok h.1.2, aggB_ok h.2⟩⟩
  | .node m l r, h, t => by
    simp only [tabB, Bool.and_eq_true] at h
    simp only [Tab.get]
    cases Nat.blt t m with
    | true => exact get_ok h.1 t
    | false => exact get_ok h.2 t
theorem tabOk_of {P : Program} {C : Ctx} (h : tabB P C C.ty = true) : TabOk P C := fun t => get_ok h t

/-! ### Updates -/
def updF (ef : Nat → T) (dst : Option Nat) (t : T) : Nat → T := match dst with
  | some d => fun n => if d = n then t else ef n
  | none => ef
def updH (hf : Objs) (d : Heap) : Objs := fun n => match hlook d n with
  | some x => some x
  | none => hf n
theorem look_cons (d : Nat) (t : T) (e : Env) : look ((d, t) :: e) = updF (look e) (some d) t := by
  funext n
  simp only [look, updF]
  by_cases h : d = n
  · subst h; simp
  · rw [if_neg h]; cases hb : Nat.beq d n with
    | true => exact absurd (Nat.eq_of_beq_eq_true hb) h
    | false => rfl
theorem hlook_append (d h : Heap) : hlook (d ++ h) = updH (hlook h) d := by
  funext n
  induction d with
  | nil => rfl
  | cons x d ih =>
    obtain ⟨m, g, o⟩ := x
    simp only [List.cons_append, hlook, updH]
    cases Nat.beq m n with
    | true => rfl
    | false => simpa [updH] using ih
theorem updH_nil (hf : Objs) : updH hf [] = hf := rfl
theorem hlook_one (id g : Nat) (o : Obj) (n : Nat) : hlook [(id, g, o)] n = if id = n then some (g, o) else none := by
  simp only [hlook]
  by_cases h : id = n
  · subst h; simp
  · rw [if_neg h]; cases hb : Nat.beq id n with
    | true => exact absurd (Nat.eq_of_beq_eq_true hb) h
    | false => rfl
theorem updH_one (hf : Objs) (id g : Nat) (o : Obj) (n : Nat) : updH hf [(id, g, o)] n = if id = n then some (g, o) else hf n := by
  simp only [updH, hlook_one]
  by_cases h : id = n
  · rw [if_pos h, if_pos h]
  · rw [if_neg h, if_neg h]
theorem force_eq {α : Type} (v : T) (K : T → α) : force v K = K v := by cases v <;> rfl
theorem forceL_eq {α : Type} (l : List T) (K : List T → α) : forceL l K = K l := by
  induction l generalizing K with
  | nil => rfl
  | cons x l ih => simp only [forceL, force_eq, ih]
theorem pushAll_eq {α β : Type} (d h : List α) (K : List α → β) : pushAll d h K = K (d ++ h) := by
  induction d generalizing K with
  | nil => rfl
  | cons x d ih => simp only [pushAll, ih, List.cons_append]
theorem evL_eq {α : Type} (ev : Operand → T) (l : List Operand) (K : List T → α) : evL ev l K = K (l.map ev) := by
  induction l generalizing K with
  | nil => rfl
  | cons x l ih => simp only [evL, force_eq, ih, List.map_cons]
theorem evP_eq {α : Type} (ev : Operand → T) (l : List (Nat × Operand)) (K : List (Nat × T) → α) : evP ev l K = K (l.map fun x => (x.1, ev x.2)) := by
  induction l generalizing K with
  | nil => rfl
  | cons x l ih => obtain ⟨j, x⟩ := x; simp only [evP, force_eq, ih, List.map_cons]
theorem nth_eq {α : Type} : ∀ (l : List α) (n : Nat), nth l n = l[n]?
  | [], _ => by simp [nth]
  | _ :: _, 0 => rfl
  | _ :: l, n + 1 => by simp [nth, nth_eq l n]

/-! ### What is known stays known -/
def MLe (I I' : Mem) : Prop := ∀ a v, I a = some v → I' a = some v
theorem MLe.refl (I : Mem) : MLe I I := fun _ _ h => h
theorem Lies.mono {I I' : Mem} (h : MLe I I') {a : Option Addr} {off : Nat} {vs : List Value} (hl : Lies I a off vs) : Lies I' a off vs := by
  cases a with
  | none => exact hl
  | some a => exact ⟨hl.1, fun j v hj => h _ _ (hl.2 j v hj)⟩
mutual
theorem PV.mono {I I' : Mem} (h : MLe I I') : ∀ (t : T) (v : Value), PV I t v → PV I' t v
  | .top, _, hv => hv
  | .b _, _, hv => hv
  | .bl _, _, hv => hv
  | .i _ _, _, hv => hv
  | .fl _ _, _, hv => hv
  | .cx _ _ _, _, hv => hv
  | .s _, _, hv => hv
  | .agg cs, v, hv => by
    simp only [PV] at hv ⊢
    obtain ⟨vs, e, h1⟩ := hv
    exact ⟨vs, e, PVs.mono h cs vs h1⟩
  | .tup cs, v, hv => by
    simp only [PV] at hv ⊢
    obtain ⟨vs, e, h1⟩ := hv
    exact ⟨vs, e, PVs.mono h cs vs h1⟩
  | .sl n cs, v, hv => by
    simp only [PV] at hv ⊢
    obtain ⟨a, cap, vs, e, h0, h1, h2⟩ := hv
    exact ⟨a, cap, vs, e, h0, PVs.mono h cs vs h1, h2.mono h⟩
  | .nsl, _, hv => hv
  | .rp cs off, v, hv => by
    simp only [PV] at hv ⊢
    obtain ⟨a, b, vs, e, h1, h2⟩ := hv
    exact ⟨a, b, vs, e, PVs.mono h cs vs h1, h2.mono h⟩
  | .np, _, hv => hv
  | .fn f x c, v, hv => by
    simp only [PV] at hv ⊢
    obtain ⟨xs, cs, e, h1, h2⟩ := hv
    exact ⟨xs, cs, e, PVs.mono h x xs h1, PVs.mono h c cs h2⟩
  | .nfn, _, hv => hv
  | .ifc t x, v, hv => by
    simp only [PV] at hv ⊢
    obtain ⟨y, e, h1⟩ := hv
    exact ⟨y, e, PV.mono h x y h1⟩
  | .nif, _, hv => hv
  | .ref .., _, hv => hv
  | .p .., _, hv => hv
theorem PVs.mono {I I' : Mem} (h : MLe I I') : ∀ (ts : List T) (vs : List Value), PVs I ts vs → PVs I' ts vs
  | [], _, hv => hv
  | t :: ts, vs, hv => by
    simp only [PVs] at hv ⊢
    obtain ⟨v, r, e, h1, h2⟩ := hv
    exact ⟨v, r, e, PV.mono h t v h1, PVs.mono h ts r h2⟩
end
theorem HLe.trans {ρ ρ' ρ'' : Place} {h h' h'' : Objs} (h1 : HLe ρ h ρ' h') (h2 : HLe ρ' h' ρ'' h'') : HLe ρ h ρ'' h'' := by
  intro id g o e
  obtain ⟨g', o', e', l1, k1⟩ := h1 id g o e
  obtain ⟨g'', o'', e'', l2, k2⟩ := h2 id g' o' e'
  refine ⟨g'', o'', e'', Nat.le_trans l1 l2, fun hg hd => ?_⟩
  obtain ⟨a1, a2, a3⟩ := k2 (by omega) hd
  obtain ⟨b1, b2, b3⟩ := k1 (by omega) a2
  refine ⟨a1.trans b1, b2, fun pu esz cs e => ?_⟩
  obtain ⟨pu', s', cs', e1, e2⟩ := a3 _ _ _ e
  obtain ⟨pu2, s2, cs2, e3, e4⟩ := b3 _ _ _ e1
  exact ⟨pu2, s2, cs2, e3, e4.trans e2⟩
theorem HLe.refl (ρ : Place) (h : Objs) : HLe ρ h ρ h := fun _ g o e => ⟨g, o, e, Nat.le_refl _, fun _ hd => ⟨rfl, hd, fun pu s cs e => ⟨pu, s, cs, e, rfl⟩⟩⟩
mutual
theorem VR.mono {ρ ρ' : Place} {h h' : Objs} {I I' : Mem} (hI : MLe I I') (hh : HLe ρ h ρ' h') : ∀ (t : T) (v : Value), VR ρ h I t v → VR ρ' h' I' t v
  | .top, _, _ => by simp [VR]
  | .b _, _, hv => by simpa [VR] using hv
  | .bl _, _, hv => by simpa [VR] using hv
  | .i _ _, _, hv => by simpa [VR] using hv
  | .fl _ _, _, hv => by simpa [VR] using hv
  | .cx _ _ _, _, hv => by simpa [VR] using hv
  | .s _, _, hv => by simpa [VR] using hv
  | .agg cs, v, hv => by
    simp only [VR] at hv ⊢
    obtain ⟨vs, e, h1⟩ := hv
    exact ⟨vs, e, VRs.mono hI hh cs vs h1⟩
  | .tup cs, v, hv => by
    simp only [VR] at hv ⊢
    obtain ⟨vs, e, h1⟩ := hv
    exact ⟨vs, e, VRs.mono hI hh cs vs h1⟩
  | .sl n cs, v, hv => by simp only [VR] at hv ⊢; exact PV.mono hI _ _ hv
  | .nsl, _, hv => by simpa [VR] using hv
  | .rp cs off, v, hv => by simp only [VR] at hv ⊢; exact PV.mono hI _ _ hv
  | .np, _, hv => by simpa [VR] using hv
  | .fn f x c, v, hv => by
    simp only [VR] at hv ⊢
    obtain ⟨xs, cs, e, h1, h2⟩ := hv
    exact ⟨xs, cs, e, VRs.mono hI hh x xs h1, VRs.mono hI hh c cs h2⟩
  | .nfn, _, hv => by simpa [VR] using hv
  | .ifc t x, v, hv => by
    simp only [VR] at hv ⊢
    obtain ⟨y, e, h1⟩ := hv
    exact ⟨y, e, VR.mono hI hh x y h1⟩
  | .nif, _, hv => by simpa [VR] using hv
  | .ref id g off n, v, hv => by
    simp only [VR] at hv ⊢
    obtain ⟨hone, g1, o1, e1, hle, hr⟩ := hv
    obtain ⟨g2, o2, e2, hle2, h2⟩ := hh _ _ _ e1
    refine ⟨hone, g2, o2, e2, Nat.le_trans hle hle2, fun hg pu esz cs ho => ?_⟩
    have hg1 : g = g1 := by omega
    obtain ⟨hp, _, hk⟩ := h2 (by omega) (by rw [ho]; simp)
    obtain ⟨pu', s', cs', ho1, hs'⟩ := hk _ _ _ ho
    rw [← hs']
    rw [hp]
    exact hr hg1 _ _ _ ho1
  | .p id g off, v, hv => by
    simp only [VR] at hv ⊢
    obtain ⟨hone, g1, o1, e1, hle, hr⟩ := hv
    obtain ⟨g2, o2, e2, hle2, h2⟩ := hh _ _ _ e1
    refine ⟨hone, g2, o2, e2, Nat.le_trans hle hle2, fun hg ho => ?_⟩
    obtain ⟨hp, hl, _⟩ := h2 (by omega) ho
    rw [hp]
    exact hr (by omega) hl
theorem VRs.mono {ρ ρ' : Place} {h h' : Objs} {I I' : Mem} (hI : MLe I I') (hh : HLe ρ h ρ' h') : ∀ (ts : List T) (vs : List Value), VRs ρ h I ts vs → VRs ρ' h' I' ts vs
  | [], _, hv => by simpa [VRs] using hv
  | t :: ts, vs, hv => by
    simp only [VRs] at hv ⊢
    obtain ⟨v, r, e, h1, h2⟩ := hv
    exact ⟨v, r, e, VR.mono hI hh t v h1, VRs.mono hI hh ts r h2⟩
end
mutual
theorem PV.vr {ρ : Place} {h : Objs} {I : Mem} : ∀ (t : T) (v : Value), PV I t v → VR ρ h I t v
  | .top, _, hv => by simp [PV] at hv
  | .b _, _, hv => by simpa [VR, PV] using hv
  | .bl _, _, hv => by simpa [VR, PV] using hv
  | .i _ _, _, hv => by simpa [VR, PV] using hv
  | .fl _ _, _, hv => by simpa [VR, PV] using hv
  | .cx _ _ _, _, hv => by simpa [VR, PV] using hv
  | .s _, _, hv => by simpa [VR, PV] using hv
  | .agg cs, v, hv => by
    simp only [VR, PV] at hv ⊢
    obtain ⟨vs, e, h1⟩ := hv
    exact ⟨vs, e, PVs.vrs cs vs h1⟩
  | .tup cs, v, hv => by
    simp only [VR, PV] at hv ⊢
    obtain ⟨vs, e, h1⟩ := hv
    exact ⟨vs, e, PVs.vrs cs vs h1⟩
  | .sl n cs, v, hv => by simpa only [VR] using hv
  | .nsl, _, hv => by simpa [VR, PV] using hv
  | .rp cs off, v, hv => by simpa only [VR] using hv
  | .np, _, hv => by simpa [VR, PV] using hv
  | .fn f x c, v, hv => by
    simp only [VR, PV] at hv ⊢
    obtain ⟨xs, cs, e, h1, h2⟩ := hv
    exact ⟨xs, cs, e, PVs.vrs x xs h1, PVs.vrs c cs h2⟩
  | .nfn, _, hv => by simpa [VR, PV] using hv
  | .ifc t x, v, hv => by
    simp only [VR, PV] at hv ⊢
    obtain ⟨y, e, h1⟩ := hv
    exact ⟨y, e, PV.vr x y h1⟩
  | .nif, _, hv => by simpa [VR, PV] using hv
  | .ref .., _, hv => by simp [PV] at hv
  | .p .., _, hv => by simp [PV] at hv
theorem PVs.vrs {ρ : Place} {h : Objs} {I : Mem} : ∀ (ts : List T) (vs : List Value), PVs I ts vs → VRs ρ h I ts vs
  | [], _, hv => by simpa [VRs, PVs] using hv
  | t :: ts, vs, hv => by
    simp only [VRs, PVs] at hv ⊢
    obtain ⟨v, r, e, h1, h2⟩ := hv
    exact ⟨v, r, e, PV.vr t v h1, PVs.vrs ts r h2⟩
end
theorem plain_pv {ρ : Place} {h : Objs} {I : Mem} {t : T} {v : Value} (hp : plain t = true) (hv : VR ρ h I t v) : PV I t v := by
  cases t <;> simp_all [plain, VR, PV]
theorem plainL_pvs {ρ : Place} {h : Objs} {I : Mem} : ∀ {ts : List T} {vs : List Value}, plainL ts = true → VRs ρ h I ts vs → PVs I ts vs
  | [], _, _, hv => by simpa [VRs, PVs] using hv
  | t :: ts, vs, hp, hv => by
    simp only [VRs, PVs] at hv ⊢
    obtain ⟨v, r, e, h1, h2⟩ := hv
    simp only [plainL] at hp
    cases hb : plain t with
    | false => rw [hb] at hp; simp at hp
    | true => rw [hb] at hp; exact ⟨v, r, e, plain_pv hb h1, plainL_pvs hp h2⟩
theorem gndB_pv {I : Mem} {t : T} {v : Value} (h : gndB t v = true) : PV I t v := by
  unfold gndB at h
  split at h <;> simp at h <;> simp only [PV]
  · rw [h]
  · obtain ⟨h1, rfl⟩ := h; rw [ikN_inj h1]
  · obtain ⟨h1, rfl⟩ := h; rw [fkN_inj h1]
  · obtain ⟨⟨h1, rfl⟩, rfl⟩ := h; rw [fkN_inj h1]
theorem gndL_pvs {I : Mem} : ∀ {ts : List T} {vs : List Value}, gndL ts vs = true → PVs I ts vs
  | [], [], _ => by simp [PVs]
  | t :: ts, v :: vs, h => by
    simp only [gndL, Bool.and_eq_true] at h
    exact ⟨v, vs, rfl, gndB_pv h.1, gndL_pvs h.2⟩
  | [], _ :: _, h => by simp [gndL] at h
  | _ :: _, [], h => by simp [gndL] at h
end Go.Proofs.YtdiippegaidpkaaDoor.Vm
