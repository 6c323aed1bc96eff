/- The symbolic machine, part 17: states made weaker; loops; scopes with labels. -/
import Derived.Test.YtdiippegaidpkaaDoorVm16
import Derived.ScopeJumps
set_option linter.unusedVariables false
set_option linter.unusedSimpArgs false
set_option linter.unnecessarySimpa false
namespace Go.Proofs.YtdiippegaidpkaaDoor.Vm
open Go
mutual
/-- No reference to an object. -/
def noRef : T → Bool
  | .ref .. => false
  | .p .. => false
  | .agg cs => noRefL cs
  | .tup cs => noRefL cs
  | .fn _ x c => both (noRefL x) (noRefL c)
  | .ifc _ v => noRef v
  | _ => true
def noRefL : List T → Bool
  | [] => true
  | t :: ts => both (noRef t) (noRefL ts)
end
def curA (h : Heap) (id g : Nat) : Bool := match hlook h id with
  | some (_, .dead) => false
  | some (g', _) => Nat.beq g g'
  | none => false
mutual
/-- 'The second value says no more than the first.' -/
def tle (h h' : Heap) : T → T → Prop
  | t, .top => True
  | t, .ref id' g' off' n' => match t with
    | .ref id g off n => id = id' ∧ off = off' ∧ n = n' ∧ cur (hlook h) id g = true ∧ cur (hlook h') id' g' = true
    | _ => False
  | t, .p id' g' off' => match t with
    | .p id g off => id = id' ∧ off = off' ∧ curA h id g = true ∧ curA h' id' g' = true
    | _ => False
  | t, .fn f' x' c' => match t with
    | .fn f x c => f = f' ∧ tleL h h' x x' ∧ tleL h h' c c'
    | _ => False
  | t, .tup cs' => match t with
    | .tup cs => tleL h h' cs cs'
    | _ => False
  | t, .agg cs' => t = .agg cs' ∧ noRefL cs' = true
  | t, .ifc ty v => t = .ifc ty v ∧ noRef v = true
  | t, .b x => t = .b x ∨ t = .bl x
  | t, t' => t = t'
def tleL (h h' : Heap) : List T → List T → Prop
  | ts, [] => ts = []
  | ts, t' :: ts' => match ts with
    | t :: ts => tle h h' t t' ∧ tleL h h' ts ts'
    | [] => False
end
/-- The second mark says no more than the first. -/
def eszLE (a b : Mk) : Prop := match b with
  | .sz n => szOf a = n
  | .row n e => a = .row n e
  | .cell t => a = .cell t
theorem eszLE_sz {a b : Mk} (h : eszLE a b) : szOf a = szOf b := by
  cases b with
  | sz n => exact h
  | row n e => rw [show a = _ from h]
  | cell t => rw [show a = _ from h]
theorem eszLE_fit {a b : Mk} {n m : Nat} {e : TypeId} {fz : Nat × Nat} (hf : Fit a n m e fz) (h : eszLE a b) : Fit b n m e fz := by
  cases b with
  | sz n => exact fitL hf.1
  | row n e => rw [← show a = _ from h]; exact hf
  | cell t => rw [← show a = _ from h]; exact hf
def ole (h h' : Heap) : Obj → Obj → Prop
  | _, .dead => True
  | .row pu esz cs, .row true esz' cs' => eszLE esz esz' ∧ cs = cs' ∧ (if pu then True else plainL cs = true)
  | .row pu esz cs, .row false esz' cs' => pu = false ∧ eszLE esz esz' ∧ tleL h h' cs cs'
  | .it l p, .it l' p' => l = l' ∧ p = p'
  | _, _ => False
def envLE (h h' : Heap) (e : Env) : Env → Prop
  | [] => True
  | (r, t) :: l => tle h h' (look e r) t ∧ envLE h h' e l
def heapLE (h h' : Heap) : Heap → Prop
  | [] => True
  | (id, _, o) :: l => (match hlook h id with
    | some (_, o0) => ole h h' o0 o
    | none => False) ∧ heapLE h h' l
def keepLE (h h' : Heap) : List Nat → Prop
  | [] => True
  | id :: l => (match hlook h id, hlook h' id with
    | some (g, _), some (g', _) => g = g'
    | none, _ => True
    | some _, none => False) ∧ keepLE h h' l
/-- The second state says no more than the first. -/
def LE (kp : List Nat) (e : Env) (h : Heap) (e' : Env) (h' : Heap) : Prop := envLE h h' e e' ∧ heapLE h h' h' ∧ keepLE h h' kp
section
variable {P : Program} {C : Ctx} {nt : Nat} {kp : List Nat} {Φ : APost} {ρ : Place} {I : Mem} {h h' : Heap}
mutual
theorem noRef_VR {hf hf' : Objs} : ∀ (t : T) (v : Value), noRef t = true → VR ρ hf I t v → VR ρ hf' I t v
  | .top, _, _, _ => by simp [VR]
  | .b _, _, _, hv => by simpa [VR] using hv
  | .bl _, _, _, hv => by simpa [VR] using hv
  | .i _ _, _, _, hv => by simpa [VR] using hv
  | .fl _ _, _, _, hv => by simpa [VR] using hv
  | .cx _ _ _, _, _, hv => by simpa [VR] using hv
  | .s _, _, _, hv => by simpa [VR] using hv
  | .agg cs, v, ho, hv => by
    simp only [VR] at hv ⊢
    obtain ⟨vs, e, h1⟩ := hv
    simp only [noRef] at ho
    exact ⟨vs, e, noRefL_VRs cs vs ho h1⟩
  | .tup cs, v, ho, hv => by
    simp only [VR] at hv ⊢
    obtain ⟨vs, e, h1⟩ := hv
    simp only [noRef] at ho
    exact ⟨vs, e, noRefL_VRs cs vs ho h1⟩
  | .sl n cs, v, _, hv => by simpa only [VR] using hv
  | .nsl, _, _, hv => by simpa [VR] using hv
  | .rp cs off, v, _, hv => by simpa only [VR] using hv
  | .np, _, _, hv => by simpa [VR] using hv
  | .fn f x c, v, ho, hv => by
    simp only [VR] at hv ⊢
    obtain ⟨xs, cs, e, h1, h2⟩ := hv
    simp only [noRef] at ho
    exact ⟨xs, cs, e, noRefL_VRs x xs (both_left ho) h1, noRefL_VRs c cs (both_inv ho) h2⟩
  | .nfn, _, _, hv => by simpa [VR] using hv
  | .ifc t x, v, ho, hv => by
    simp only [VR] at hv ⊢
    obtain ⟨y, e, h1⟩ := hv
    simp only [noRef] at ho
    exact ⟨y, e, noRef_VR x y ho h1⟩
  | .nif, _, _, hv => by simpa [VR] using hv
  | .ref .., _, ho, _ => by simp [noRef] at ho
  | .p .., _, ho, _ => by simp [noRef] at ho
theorem noRefL_VRs {hf hf' : Objs} : ∀ (ts : List T) (vs : List Value), noRefL ts = true → VRs ρ hf I ts vs → VRs ρ hf' I ts vs
  | [], _, _, hv => by simpa [VRs] using hv
  | t :: ts, vs, ho, hv => by
    simp only [VRs] at hv ⊢
    obtain ⟨v, r, e, h1, h2⟩ := hv
    simp only [noRefL] at ho
    exact ⟨v, r, e, noRef_VR t v (both_left ho) h1, noRefL_VRs ts r (both_inv ho) h2⟩
end
/-- What the weaker heap says of an object the stronger one says, too. -/
def HLE (h h' : Heap) : Prop := ∀ id g o, hlook h' id = some (g, o) → ∃ g0 o0, hlook h id = some (g0, o0) ∧ ole h h' o0 o
theorem heapLE_get : ∀ {l : Heap}, heapLE h h' l → ∀ id g o, hlook l id = some (g, o) → ∃ g0 o0, hlook h id = some (g0, o0) ∧ ole h h' o0 o
  | [], _, id, g, o, hl => by simp [hlook] at hl
  | (m, g1, o1) :: l, hle, id, g, o, hl => by
    obtain ⟨h1, h2⟩ := hle
    simp only [hlook] at hl
    cases hb : Nat.beq m id with
    | true =>
      rw [hb] at hl
      obtain rfl := Nat.eq_of_beq_eq_true hb
      simp only [Option.some.injEq, Prod.mk.injEq] at hl
      obtain ⟨_, rfl⟩ := hl
      split at h1
      · rename_i g0 o0 e; exact ⟨g0, o0, e, h1⟩
      · exact h1.elim
    | false => rw [hb] at hl; exact heapLE_get h2 id g o hl
theorem ole_live {o o' : Obj} (h0 : ole h h' o o') (hl : o'.live) : o.live := by
  cases o' <;> cases o <;> simp_all [ole, Obj.live]
theorem curA_inv {id g : Nat} (h0 : curA h id g = true) : ∃ o, hlook h id = some (g, o) ∧ o ≠ .dead := by
  unfold curA at h0
  split at h0
  · simp at h0
  · rename_i g' o hne e; exact ⟨o, by rw [e, Nat.eq_of_beq_eq_true h0], fun e' => by subst e'; simp_all⟩
  · simp at h0
mutual
theorem tle_VR (hh : HLE h h') : ∀ (t' : T) (t : T) (v : Value), tle h h' t t' → VR ρ (hlook h) I t v → VR ρ (hlook h') I t' v
  | .top, _, _, _, _ => by simp [VR]
  | .ref id' g' off' n', t, v, hl, hv => by
    cases t <;> simp only [tle] at hl
    · rename_i id g off n
      obtain ⟨rfl, rfl, rfl, h1, h2⟩ := hl
      obtain ⟨pu, esz, cs, e1⟩ := cur_inv h1
      obtain ⟨pu', esz', cs', e2⟩ := cur_inv h2
      obtain ⟨g0, o0, e3, h3⟩ := hh _ _ _ e2
      rw [e1] at e3; simp only [Option.some.injEq, Prod.mk.injEq] at e3; obtain ⟨rfl, rfl⟩ := e3
      have hez : szOf esz' = szOf esz := by cases pu' <;> simp only [ole] at h3 <;> first | exact (eszLE_sz h3.1).symm | exact (eszLE_sz h3.2.1).symm
      obtain ⟨b, cap, rfl, c1, c2, c3⟩ := VR_ref hv e1
      exact VR_ref_mk e2 c1 (by rw [hez]; exact c2) c3
  | .p id' g' off', t, v, hl, hv => by
    cases t <;> simp only [tle] at hl
    · rename_i id g off
      obtain ⟨rfl, rfl, h1, h2⟩ := hl
      obtain ⟨o, e1, d1⟩ := curA_inv h1
      obtain ⟨o', e2, d2⟩ := curA_inv h2
      simp only [VR] at hv ⊢
      obtain ⟨k1, g1, o1, e3, k2, k3⟩ := hv
      rw [e1] at e3; simp only [Option.some.injEq, Prod.mk.injEq] at e3; obtain ⟨rfl, rfl⟩ := e3
      exact ⟨k1, g', o', e2, Nat.le_refl _, fun _ _ => k3 rfl d1⟩
  | .fn f' x' c', t, v, hl, hv => by
    cases t <;> simp only [tle] at hl
    · rename_i f x c
      obtain ⟨rfl, h1, h2⟩ := hl
      simp only [VR] at hv ⊢
      obtain ⟨xs, cs, e, k1, k2⟩ := hv
      exact ⟨xs, cs, e, tleL_VRs hh _ _ _ h1 k1, tleL_VRs hh _ _ _ h2 k2⟩
  | .tup cs', t, v, hl, hv => by
    cases t <;> simp only [tle] at hl
    · simp only [VR] at hv ⊢
      obtain ⟨vs, e, k1⟩ := hv
      exact ⟨vs, e, tleL_VRs hh _ _ _ hl k1⟩
  | .agg cs', t, v, hl, hv => by
    simp only [tle] at hl
    obtain ⟨rfl, h1⟩ := hl
    exact noRef_VR _ _ (by simpa [noRef] using h1) hv
  | .ifc ty x, t, v, hl, hv => by
    simp only [tle] at hl
    obtain ⟨rfl, h1⟩ := hl
    exact noRef_VR _ _ (by simpa [noRef] using h1) hv
  | .b x, t, v, hl, hv => by
    simp only [tle] at hl
    rcases hl with rfl | rfl
    · exact noRef_VR _ _ rfl hv
    · simpa [VR] using hv
  | .bl x, t, v, hl, hv => by simp only [tle] at hl; subst hl; exact noRef_VR _ _ rfl hv
  | .i k n, t, v, hl, hv => by simp only [tle] at hl; subst hl; exact noRef_VR _ _ rfl hv
  | .fl k x, t, v, hl, hv => by simp only [tle] at hl; subst hl; exact noRef_VR _ _ rfl hv
  | .cx k x y, t, v, hl, hv => by simp only [tle] at hl; subst hl; exact noRef_VR _ _ rfl hv
  | .s l, t, v, hl, hv => by simp only [tle] at hl; subst hl; exact noRef_VR _ _ rfl hv
  | .sl n cs, t, v, hl, hv => by simp only [tle] at hl; subst hl; exact noRef_VR _ _ rfl hv
  | .nsl, t, v, hl, hv => by simp only [tle] at hl; subst hl; exact noRef_VR _ _ rfl hv
  | .rp cs o, t, v, hl, hv => by simp only [tle] at hl; subst hl; exact noRef_VR _ _ rfl hv
  | .np, t, v, hl, hv => by simp only [tle] at hl; subst hl; exact noRef_VR _ _ rfl hv
  | .nfn, t, v, hl, hv => by simp only [tle] at hl; subst hl; exact noRef_VR _ _ rfl hv
  | .nif, t, v, hl, hv => by simp only [tle] at hl; subst hl; exact noRef_VR _ _ rfl hv
theorem tleL_VRs (hh : HLE h h') : ∀ (ts' : List T) (ts : List T) (vs : List Value), tleL h h' ts ts' → VRs ρ (hlook h) I ts vs → VRs ρ (hlook h') I ts' vs
  | [], ts, vs, hl, hv => by simp only [tleL] at hl; subst hl; simpa [VRs] using hv
  | t' :: ts', ts, vs, hl, hv => by
    cases ts <;> simp only [tleL] at hl
    · simp only [VRs] at hv ⊢
      obtain ⟨v, r, e, k1, k2⟩ := hv
      exact ⟨v, r, e, tle_VR hh _ _ _ hl.1 k1, tleL_VRs hh _ _ _ hl.2 k2⟩
end
theorem envLE_get {e : Env} : ∀ {e' : Env}, envLE h h' e e' → ∀ n, look e' n = .top ∨ tle h h' (look e n) (look e' n)
  | [], _, n => .inl rfl
  | (r, t) :: l, hl, n => by
    obtain ⟨h1, h2⟩ := hl
    simp only [look]
    cases hb : Nat.beq r n with
    | true =>
      obtain rfl := Nat.eq_of_beq_eq_true hb
      exact .inr h1
    | false => exact envLE_get h2 n
theorem keepLE_get : ∀ {kp : List Nat}, keepLE h h' kp → ∀ id ∈ kp, ∀ g o, hlook h id = some (g, o) → ∃ o', hlook h' id = some (g, o')
  | [], _, id, hm, _, _, _ => by simp at hm
  | m :: kp, hl, id, hm, g, o, hk => by
    obtain ⟨h1, h2⟩ := hl
    rcases List.mem_cons.1 hm with rfl | hm
    · rw [hk] at h1
      split at h1
      · rename_i e1 e2
        simp only [Option.some.injEq, Prod.mk.injEq] at e1
        obtain ⟨rfl, rfl⟩ := e1
        subst h1
        exact ⟨_, e2⟩
      · rename_i e; cases e
      · exact h1.elim
    · exact keepLE_get h2 id hm g o hk
theorem LE.sr {E : Ent} {e e' : Env} {a : Act} {w : World} (hle : LE kp e h e' h') (hkp : ∀ id x, E.h0 id = some x → id ∈ kp) (sr : SR C E (look e) (hlook h) [] ρ I a w) :
    SR C E (look e') (hlook h') [] ρ I a w := by
  obtain ⟨h1, h2, h3⟩ := hle
  have hh : HLE h h' := heapLE_get h2
  refine ⟨sr.glob, ⟨sr.hs.mem, fun id g o ho => ?_, fun id id' g o g' o' ho ho' l l' hne => ?_, fun ad v id g o ha ho l => ?_⟩, ⟨sr.ext.os, sr.ext.tape, sr.ext.output, sr.ext.size, sr.ext.blk, sr.ext.sub, sr.ext.new, fun id g o ho l => ?_⟩, fun id g o ho => ?_, fun n => ?_, sr.sz, sr.dfs⟩
  · obtain ⟨g0, o0, e1, k1⟩ := hh _ _ _ ho
    have hob := sr.hs.obj _ _ _ e1
    cases o with
    | dead => trivial
    | it l p =>
      cases o0 <;> simp only [ole] at k1
      obtain ⟨rfl, rfl⟩ := k1
      exact hob
    | row pu esz cs =>
      cases o0 with
      | dead => cases pu <;> simp [ole] at k1
      | it l p => cases pu <;> simp [ole] at k1
      | row pu0 esz0 cs0 =>
        obtain ⟨c, ce, fz, q1, q2, q3, q4⟩ := hob
        cases pu with
        | true =>
          simp only [ole] at k1
          obtain ⟨kz, rfl, k2⟩ := k1
          refine ⟨c, ce, fz, q1, q2, eszLE_fit q3 kz, ?_⟩
          cases pu0 with
          | true => exact q4
          | false => exact plainL_pvs (by simpa using k2) q4
        | false =>
          simp only [ole] at k1
          obtain ⟨rfl, kz, k2⟩ := k1
          have q5 := tleL_VRs hh _ _ _ k2 q4
          have hl1 := q5.length
          have hl2 := VRs.length q4
          have hl := hl2.symm.trans hl1
          exact ⟨c, ce, fz, q1, q2, by rw [← hl]; exact eszLE_fit q3 kz, by show VRs _ _ _ _ (c.toList.take cs.length); rw [← hl]; exact q5⟩
  · obtain ⟨_, _, e1, k1⟩ := hh _ _ _ ho
    obtain ⟨_, _, e2, k2⟩ := hh _ _ _ ho'
    exact sr.hs.inj _ _ _ _ _ _ e1 e2 (ole_live k1 l) (ole_live k2 l') hne
  · obtain ⟨_, _, e1, k1⟩ := hh _ _ _ ho
    exact sr.hs.dis _ _ _ _ _ ha e1 (ole_live k1 l)
  · obtain ⟨_, _, e1, k1⟩ := hh _ _ _ ho
    exact sr.ext.own _ _ _ e1 (ole_live k1 l)
  · obtain ⟨g1, o1, e1, l1, k1⟩ := sr.hle id g o ho
    obtain ⟨o2, e2⟩ := keepLE_get h3 id (hkp _ _ ho) g1 o1 e1
    obtain ⟨g3, o3, e3, k3⟩ := hh _ _ _ e2
    rw [e1] at e3; simp only [Option.some.injEq, Prod.mk.injEq] at e3; obtain ⟨rfl, rfl⟩ := e3
    refine ⟨g1, o2, e2, l1, fun hg hd => ?_⟩
    have hd1 : o1 ≠ .dead := by
      have hlive : o2.live := by cases o2 <;> first | exact absurd rfl hd | trivial
      have := ole_live k3 hlive
      intro e; subst e; exact this
    obtain ⟨a1, a2, a3⟩ := k1 hg hd1
    refine ⟨a1, a2, fun pu esz cs e => ?_⟩
    subst e
    cases o1 with
    | dead => exact absurd rfl hd1
    | it l p => cases pu <;> simp [ole] at k3
    | row pu1 esz1 cs1 =>
      have hz : szOf esz1 = szOf esz := by cases pu <;> simp only [ole] at k3 <;> first | exact eszLE_sz k3.1 | exact eszLE_sz k3.2.1
      obtain ⟨pu2, s2, cs2, e3, e4⟩ := a3 _ _ _ rfl
      exact ⟨pu2, s2, cs2, e3, e4.trans hz⟩
  · rcases envLE_get h1 n with h4 | h4
    · rw [h4]; simp [VR]
    · exact tle_VR hh _ _ _ h4 (sr.env n)
/-- A weaker state. -/
theorem g_weak {k : List Item} {e e' : Env} (hle : LE kp e h e' h') (g : G P C nt kp Φ k e' h' []) : G P C nt kp Φ k e h [] :=
  fun hk E ρ I a w hE hp sr => g hk E ρ I a w hE hp (hle.sr hp sr)

/-! ### Loops -/
/-- What an exit out of a loop's body leads to. -/
def KG (P : Program) (C : Ctx) (nt : Nat) (kp : List Nat) (Φ : APost) (k : List Item) : APost
  | .exit id, e, h, ds => match unwind id k with
    | some k' => G P C nt kp Φ k' e h ds
    | none => Φ (.exit id) e h ds
  | .ret, e, h, ds => Φ .ret e h ds
  | .goto l, e, h, ds => Φ (.goto l) e h ds
  | _, _, _, _ => False
theorem KG_KK {E : Ent} {k : List Item} {x : Exit} {a : Act} {w : World} (hk : kOk k) (hE : E.nt = nt) (hp : ∀ id y, E.h0 id = some y → id ∈ kp) (hq : Post C E (KG P C nt kp Φ k) x a w) :
    x ≠ .normal ∧ KK P (Post C E Φ) k x a w := by
  obtain ⟨e, h, ds, ρ, I, sr, hx⟩ := hq
  cases x with
  | exit id =>
    refine ⟨by simp, ?_⟩
    simp only [KG] at hx
    split at hx
    · rename_i k' hu; exact KK_exit hu (hx (unwind_ok hu hk) E ρ I a w hE hp sr)
    · rename_i hu; exact KK_exit_none hu ⟨e, h, ds, ρ, I, sr, hx⟩
  | ret => exact ⟨by simp, KK_ret ⟨e, h, ds, ρ, I, sr, hx⟩⟩
  | goto l => exact ⟨by simp, KK_goto ⟨e, h, ds, ρ, I, sr, hx⟩⟩
  | normal => exact hx.elim
  | panic c => exact hx.elim
  | outgrown => exact hx.elim
/-- What a round must come to. -/
def Round {α : Type} (P : Program) (C : Ctx) (nt : Nat) (kp : List Nat) (Φ : APost) (k : List Item) (emb : α → Env) (hp : α → Heap) (pre : α → Prop) (μ : α → Nat) (x : α) : APost
  | .normal, e, h, ds => ds = [] ∧ ∃ y, pre y ∧ μ y < μ x ∧ LE kp e h (emb y) (hp y)
  | ex, e, h, ds => KG P C nt kp Φ k ex e h ds
/-- A LOOP: at every round's head the state is 'emb x', 'hp x' for some 'x' of which 'pre' holds, and 'μ' falls. -/
theorem g_loop {α : Type} (emb : α → Env) (hp : α → Heap) (pre : α → Prop) (μ : α → Nat) (x0 : α) {c : Code} {k : List Item} {e : Env} {h : Heap} (h0 : LE kp e h (emb x0) (hp x0)) (hpre : pre x0)
    (round : ∀ x, pre x → G P C nt kp (Round P C nt kp Φ k emb hp pre μ x) [.code c] (emb x) (hp x) []) : G P C nt kp Φ (.code (.loop c) :: k) e h [] := by
  intro hk E ρ I a w hE hkp sr
  have hc : kOk [.code c] := fun d hd => by
    rcases List.mem_cons.1 hd with e | hd
    · cases e; exact hk.head
    · simp at hd
  refine wp_loop_ghost (fun n a w => ∃ x ρ I, pre x ∧ μ x = n ∧ SR C E (look (emb x)) (hlook (hp x)) [] ρ I a w) (μ x0) ⟨x0, ρ, I, hpre, rfl, h0.sr hkp sr⟩ ?_
  rintro n a w ⟨x, ρ, I, hx, rfl, sr⟩
  have := round x hx hc E ρ I a w hE hkp sr
  refine wp_mono (show c.wp P (Exit.then (fun a w => Post C E (Round P C nt kp Φ k emb hp pre μ x) .normal a w) (Post C E (Round P C nt kp Φ k emb hp pre μ x))) a w from wp_mono this fun ex a w hq => by cases ex <;> exact hq) ?_
  intro ex a w hq
  have hother : ex ≠ .normal → Post C E (Round P C nt kp Φ k emb hp pre μ x) ex a w → KK P (Post C E Φ) k ex a w := by
    rintro hne ⟨e', h', ds', ρ', I', sr', hr⟩
    have hr' : KG P C nt kp Φ k ex e' h' ds' := by
      cases ex <;> first | exact absurd rfl hne | exact hr
    exact (KG_KK hk.tail hE hkp ⟨e', h', ds', ρ', I', sr', hr'⟩).2
  cases ex with
  | normal =>
    obtain ⟨e', h', ds', ρ', I', sr', rfl, y, hy, hlt, hle⟩ := hq
    exact ⟨μ y, hlt, y, ρ', I', hy, rfl, hle.sr hkp sr'⟩
  | exit id => exact hother (by simp) hq
  | goto l => exact hother (by simp) hq
  | ret => exact hother (by simp) hq
  | panic ch => exact hother (by simp) hq
  | outgrown => exact hother (by simp) hq

/-! ### Scopes with labels -/
/-- What an end of a scope's code leads to: by a goto, to the code behind the label, 'n' jumps at most. -/
def SP (P : Program) (C : Ctx) (nt : Nat) (kp : List Nat) (Φ : APost) (k : List Item) (c : Code) : Nat → APost
  | n, .normal, e, h, ds => G P C nt kp Φ k e h ds
  | 0, .goto _, _, _, _ => False
  | n + 1, .goto l, e, h, ds => ∃ rest, findLabel c l = some rest ∧ G P C nt kp (SP P C nt kp Φ k c n) [.code rest] e h ds
  | n, ex, e, h, ds => KG P C nt kp Φ k ex e h ds
theorem findLabel_ok : ∀ {c : Code} {l : Nat} {rest : Code}, findLabel c l = some rest → cOk c = true → cOk rest = true
  | .seq x y, l, rest, h, hc => by
    simp only [findLabel] at h
    split at h
    · rename_i r hr
      simp only [Option.some.injEq] at h; subst h
      have h1 := findLabel_ok hr (both_left hc)
      simp only [cOk, h1]; exact both_inv hc
    · exact findLabel_ok h (both_inv hc)
  | .label m, l, rest, h, hc => by
    simp only [findLabel] at h
    split at h
    · simp only [Option.some.injEq] at h; subst h; rfl
    · cases h
  | .skip, l, rest, h, hc => by simp [findLabel] at h
  | .region .., l, rest, h, hc => by simp [findLabel] at h
  | .cond .., l, rest, h, hc => by simp [findLabel] at h
  | .block .., l, rest, h, hc => by simp [findLabel] at h
  | .loop .., l, rest, h, hc => by simp [findLabel] at h
  | .rangeFunc .., l, rest, h, hc => by simp [findLabel] at h
  | .exit .., l, rest, h, hc => by simp [findLabel] at h
  | .scope .., l, rest, h, hc => by simp [findLabel] at h
  | .goto .., l, rest, h, hc => by simp [findLabel] at h
  | .ret, l, rest, h, hc => by simp [findLabel] at h
  | .refuse .., l, rest, h, hc => by simp [findLabel] at h
theorem kOk_one {c : Code} (h : cOk c = true) : kOk [.code c] := fun d hd => by
  rcases List.mem_cons.1 hd with e | hd
  · cases e; exact h
  · simp at hd
theorem scope_step {Q : Exit → Act → World → Prop} {c : Code} {S : Nat → Exit → Act → World → Prop} (hS : ∀ n x a w, S n x a w → (∃ l, x = .goto l ∧ ∃ m rest, n = m + 1 ∧ findLabel c l = some rest ∧ rest.wp P (S m) a w) ∨ ((∀ l, x ≠ .goto l) ∧ Q x a w) ∨ (∃ l, x = .goto l ∧ findLabel c l = none ∧ Q x a w)) :
    ∀ (n : Nat) (b : Frame) (k : List Item) (cs : List Frame) (m : Machine) (x : Exit) (a : Act) (w : World), S n x a w → ∀ (k : List Go.Item), Arrives P m b (.inScope c :: k) cs x a w →
      ∃ e a' w', Q e a' w' ∧ Arrives P m b k cs e a' w' := by
  intro n
  induction n with
  | zero =>
    intro b _ cs m x a w hs k harr
    rcases hS 0 x a w hs with ⟨l, _, m', rest, hm, _⟩ | ⟨hne, hq⟩ | ⟨l, rfl, hnone, hq⟩
    · omega
    · refine ⟨x, a, w, hq, ?_⟩
      cases x with
      | normal => exact Steps.trans harr (.one step_inScope)
      | exit id => exact fun k' hk => harr k' (by simp [exitTo, hk])
      | goto l => exact absurd rfl (hne l)
      | ret => exact harr
      | panic ch => exact harr
      | outgrown => exact harr
    · exact ⟨_, a, w, hq, fun k' hk => harr k' (by simp [gotoIn, hnone, hk])⟩
  | succ n ih =>
    intro b q cs m x a w hs k harr
    rcases hS (n + 1) x a w hs with ⟨l, rfl, m', rest, hm, hf, hw⟩ | ⟨hne, hq⟩ | ⟨l, rfl, hnone, hq⟩
    · obtain rfl : m' = n := by omega
      have hg : gotoIn l (.inScope c :: k) = some (.code rest :: .inScope c :: k) := by simp [gotoIn, hf]
      obtain ⟨e2, a2, w2, hq2, harr2⟩ := hw b (.inScope c :: k) cs
      exact ih b q cs m e2 a2 w2 hq2 k (.of_steps (harr _ hg) harr2)
    · refine ⟨x, a, w, hq, ?_⟩
      cases x with
      | normal => exact Steps.trans harr (.one step_inScope)
      | exit id => exact fun k' hk => harr k' (by simp [exitTo, hk])
      | goto l => exact absurd rfl (hne l)
      | ret => exact harr
      | panic ch => exact harr
      | outgrown => exact harr
    · exact ⟨_, a, w, hq, fun k' hk => harr k' (by simp [gotoIn, hnone, hk])⟩
/-- A SCOPE, with at most 'n' jumps. -/
theorem g_scope (n : Nat) {c : Code} {k : List Item} {e : Env} {h : Heap} {ds : Ds} (g : G P C nt kp (SP P C nt kp Φ k c n) [.code c] e h ds) : G P C nt kp Φ (.code (.scope c) :: k) e h ds := by
  intro hk E ρ I a w hE hp sr
  have hc : cOk c = true := hk.head
  have hw := g (kOk_one hc) E ρ I a w hE hp sr
  intro b k' cs
  obtain ⟨x, a1, w1, hq, harr⟩ := hw b (.inScope c :: k') cs
  have hq' : Post C E (SP P C nt kp Φ k c n) x a1 w1 := by cases x <;> exact hq
  have := scope_step (P := P) (Q := KK P (Post C E Φ) k) (c := c) (S := fun n => Post C E (SP P C nt kp Φ k c n)) (fun n x a w hs => by
    obtain ⟨e, h, ds, ρ, I, sr, hx⟩ := hs
    cases x with
    | normal => exact .inr (.inl ⟨by simp, (show G P C nt kp Φ k e h ds from by cases n <;> exact hx) hk.tail E ρ I a w hE hp sr⟩)
    | goto l =>
      cases n with
      | zero => exact hx.elim
      | succ m =>
        obtain ⟨rest, hf, g⟩ := hx
        refine .inl ⟨l, rfl, m, rest, rfl, hf, wp_mono (g (kOk_one (findLabel_ok hf hc)) E ρ I a w hE hp sr) fun ex a w hq => by cases ex <;> exact hq⟩
    | exit id => exact .inr (.inl ⟨by simp, (KG_KK hk.tail hE hp ⟨e, h, ds, ρ, I, sr, by cases n <;> exact hx⟩).2⟩)
    | ret => exact .inr (.inl ⟨by simp, (KG_KK hk.tail hE hp ⟨e, h, ds, ρ, I, sr, by cases n <;> exact hx⟩).2⟩)
    | panic ch => exact .inr (.inl ⟨by simp, (KG_KK hk.tail hE hp ⟨e, h, ds, ρ, I, sr, by cases n <;> exact hx⟩).2⟩)
    | outgrown => exact .inr (.inl ⟨by simp, (KG_KK hk.tail hE hp ⟨e, h, ds, ρ, I, sr, by cases n <;> exact hx⟩).2⟩)) n b [] cs _ x a1 w1 hq' k' harr
  obtain ⟨e2, a2, w2, hq2, harr2⟩ := this
  exact ⟨e2, a2, w2, hq2, .of_steps (.one step_scope) harr2⟩
end
end Go.Proofs.YtdiippegaidpkaaDoor.Vm
