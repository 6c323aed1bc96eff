/- The symbolic machine, part 22: a contract under other names of its objects. -/
import Derived.Test.YtdiippegaidpkaaDoorVm21
set_option linter.unnecessarySimpa false
set_option linter.unusedVariables false
set_option linter.unusedSimpArgs false
namespace Go.Proofs.YtdiippegaidpkaaDoor.Vm
open Go Go.Proofs
/-- Two names changed for one another. -/
def sw (a b x : Nat) : Nat := match Nat.beq x a with | true => b | false => match Nat.beq x b with | true => a | false => x
theorem sw_if (a b x : Nat) : sw a b x = if x = a then b else if x = b then a else x := by
  unfold sw
  cases h : Nat.beq x a with
  | true => rw [if_pos (Nat.eq_of_beq_eq_true h)]
  | false =>
    rw [if_neg (fun e => by subst e; simp at h)]
    cases h' : Nat.beq x b with
    | true => rw [if_pos (Nat.eq_of_beq_eq_true h')]
    | false => rw [if_neg (fun e => by subst e; simp at h')]
theorem sw_sw (a b x : Nat) : sw a b (sw a b x) = x := by
  simp only [sw_if]
  by_cases h1 : x = a <;> by_cases h2 : x = b <;> simp_all
theorem sw_inj {a b x y : Nat} (h : sw a b x = sw a b y) : x = y := by rw [← sw_sw a b x, h, sw_sw]
mutual
def renT (a b : Nat) : T → T
  | .ref id g off n => .ref (sw a b id) g off n
  | .p id g off => .p (sw a b id) g off
  | .agg cs => .agg (renL a b cs)
  | .tup cs => .tup (renL a b cs)
  | .fn f x c => .fn f (renL a b x) (renL a b c)
  | .ifc t v => .ifc t (renT a b v)
  | .sl n cs => .sl n cs
  | .rp cs o => .rp cs o
  | .top => .top | .b x => .b x | .bl x => .bl x | .i k n => .i k n | .fl k x => .fl k x | .cx k x y => .cx k x y | .s l => .s l | .nsl => .nsl | .np => .np | .nfn => .nfn | .nif => .nif
def renL (a b : Nat) : List T → List T
  | [] => []
  | t :: l => renT a b t :: renL a b l
end
def renO (a b : Nat) : Obj → Obj
  | .dead => .dead
  | .row pu esz cs => .row pu esz (renL a b cs)
  | .it l p => .it l p
def renH (a b : Nat) : Heap → Heap
  | [] => []
  | (id, g, o) :: h => (sw a b id, g, renO a b o) :: renH a b h
section
variable {a b : Nat} {I : Mem} {ρ : Place}
theorem hlook_ren (a b : Nat) : ∀ (h : Heap) (x : Nat), hlook (renH a b h) (sw a b x) = (hlook h x).map fun y => (y.1, renO a b y.2)
  | [], x => rfl
  | (id, g, o) :: h, x => by
    simp only [renH, hlook]
    cases e : Nat.beq id x with
    | true =>
      obtain rfl := Nat.eq_of_beq_eq_true e
      simp
    | false =>
      have : Nat.beq (sw a b id) (sw a b x) = false := by
        cases h' : Nat.beq (sw a b id) (sw a b x) with
        | false => rfl
        | true =>
          have := sw_inj (Nat.eq_of_beq_eq_true h')
          subst this
          simp at e
      rw [this]
      exact hlook_ren a b h x
theorem hlook_ren' (a b : Nat) (h : Heap) (x : Nat) : hlook (renH a b h) x = (hlook h (sw a b x)).map fun y => (y.1, renO a b y.2) := by
  have := hlook_ren a b h (sw a b x)
  rwa [sw_sw] at this
mutual
theorem PV_ren : ∀ (t : T) (v : Value), PV I (renT a b t) v ↔ PV I t v
  | .ref .., v => by simp only [renT, PV]
  | .p .., v => by simp only [renT, PV]
  | .agg cs, v => by simp only [renT, PV]; exact exists_congr fun vs => and_congr_right fun _ => PVs_ren cs vs
  | .tup cs, v => by simp only [renT, PV]; exact exists_congr fun vs => and_congr_right fun _ => PVs_ren cs vs
  | .fn f x c, v => by simp only [renT, PV]; exact exists_congr fun xs => exists_congr fun cs => and_congr_right fun _ => and_congr (PVs_ren x xs) (PVs_ren c cs)
  | .ifc t x, v => by simp only [renT, PV]; exact exists_congr fun y => and_congr_right fun _ => PV_ren x y
  | .sl .., v => Iff.rfl
  | .rp .., v => Iff.rfl
  | .top, v => Iff.rfl
  | .b _, v => Iff.rfl
  | .bl _, v => Iff.rfl
  | .i .., v => Iff.rfl
  | .fl .., v => Iff.rfl
  | .cx .., v => Iff.rfl
  | .s _, v => Iff.rfl
  | .nsl, v => Iff.rfl
  | .np, v => Iff.rfl
  | .nfn, v => Iff.rfl
  | .nif, v => Iff.rfl
theorem PVs_ren : ∀ (ts : List T) (vs : List Value), PVs I (renL a b ts) vs ↔ PVs I ts vs
  | [], vs => Iff.rfl
  | t :: ts, vs => by simp only [renL, PVs]; exact exists_congr fun v => exists_congr fun r => and_congr_right fun _ => and_congr (PV_ren t v) (PVs_ren ts r)
end
mutual
theorem VR_ren (h : Heap) : ∀ (t : T) (v : Value), VR ρ (hlook (renH a b h)) I (renT a b t) v ↔ VR (fun x => ρ (sw a b x)) (hlook h) I t v
  | .ref id g off n, v => by
    simp only [renT, VR, hlook_ren]
    refine and_congr_right fun _ => ?_
    constructor
    · rintro ⟨g', o, e, h1, h2⟩
      cases hh : hlook h id with
      | none => rw [hh] at e; cases e
      | some y =>
        rw [hh] at e
        simp only [Option.map_some, Option.some.injEq, Prod.mk.injEq] at e
        obtain ⟨rfl, rfl⟩ := e
        refine ⟨_, _, rfl, h1, fun hg pu esz cs ho => ?_⟩
        exact h2 hg pu esz (renL a b cs) (by rw [ho]; rfl)
    · rintro ⟨g', o, e, h1, h2⟩
      refine ⟨g', renO a b o, by rw [e]; rfl, h1, fun hg pu esz cs ho => ?_⟩
      cases o with
      | row pu' esz' cs' =>
        simp only [renO, Obj.row.injEq] at ho
        obtain ⟨rfl, rfl, rfl⟩ := ho
        exact h2 hg _ _ _ rfl
      | dead => cases ho
      | it => cases ho
  | .p id g off, v => by
    simp only [renT, VR, hlook_ren]
    refine and_congr_right fun _ => ?_
    constructor
    · rintro ⟨g', o, e, h1, h2⟩
      cases hh : hlook h id with
      | none => rw [hh] at e; cases e
      | some y =>
        rw [hh] at e
        simp only [Option.map_some, Option.some.injEq, Prod.mk.injEq] at e
        obtain ⟨rfl, rfl⟩ := e
        refine ⟨_, _, rfl, h1, fun hg ho => h2 hg ?_⟩
        intro e'
        apply ho
        cases hy : y.2 with
        | dead => rfl
        | row => rw [hy] at e'; cases e'
        | it => rw [hy] at e'; cases e'
    · rintro ⟨g', o, e, h1, h2⟩
      refine ⟨g', renO a b o, by rw [e]; rfl, h1, fun hg ho => h2 hg ?_⟩
      rintro rfl
      exact ho rfl
  | .agg cs, v => by simp only [renT, VR]; exact exists_congr fun vs => and_congr_right fun _ => VRs_ren h cs vs
  | .tup cs, v => by simp only [renT, VR]; exact exists_congr fun vs => and_congr_right fun _ => VRs_ren h cs vs
  | .fn f x c, v => by simp only [renT, VR]; exact exists_congr fun xs => exists_congr fun cs => and_congr_right fun _ => and_congr (VRs_ren h x xs) (VRs_ren h c cs)
  | .ifc t x, v => by simp only [renT, VR]; exact exists_congr fun y => and_congr_right fun _ => VR_ren h x y
  | .sl .., v => Iff.rfl
  | .rp .., v => Iff.rfl
  | .top, v => Iff.rfl
  | .b _, v => Iff.rfl
  | .bl _, v => Iff.rfl
  | .i .., v => Iff.rfl
  | .fl .., v => Iff.rfl
  | .cx .., v => Iff.rfl
  | .s _, v => Iff.rfl
  | .nsl, v => Iff.rfl
  | .np, v => Iff.rfl
  | .nfn, v => Iff.rfl
  | .nif, v => Iff.rfl
theorem VRs_ren (h : Heap) : ∀ (ts : List T) (vs : List Value), VRs ρ (hlook (renH a b h)) I (renL a b ts) vs ↔ VRs (fun x => ρ (sw a b x)) (hlook h) I ts vs
  | [], vs => Iff.rfl
  | t :: ts, vs => by simp only [renL, VRs]; exact exists_congr fun v => exists_congr fun r => and_congr_right fun _ => and_congr (VR_ren h t v) (VRs_ren h ts r)
end
theorem renL_len : ∀ l : List T, (renL a b l).length = l.length
  | [] => rfl
  | t :: l => by simp [renL, renL_len l]
theorem OR_ren (h : Heap) (w : World) (id : Nat) (o : Obj) : OR ρ (hlook (renH a b h)) I w (sw a b id) (renO a b o) ↔ OR (fun x => ρ (sw a b x)) (hlook h) I w id o := by
  cases o with
  | dead => exact Iff.rfl
  | it => exact Iff.rfl
  | row pu esz cs =>
    simp only [renO, OR, renL_len]
    refine exists_congr fun c => exists_congr fun e => exists_congr fun fz => and_congr_right fun _ => and_congr_right fun _ => and_congr_right fun _ => ?_
    cases pu with
    | true => simp only [if_true]; exact PVs_ren _ _
    | false => simp only [Bool.false_eq_true, if_false]; exact VRs_ren h _ _
theorem live_ren (o : Obj) : (renO a b o).live ↔ o.live := by cases o <;> exact Iff.rfl
theorem HS_ren (h : Heap) (w : World) : HS ρ (hlook (renH a b h)) I w ↔ HS (fun x => ρ (sw a b x)) (hlook h) I w := by
  constructor
  · intro hs
    refine ⟨hs.mem, fun id g o e => ?_, fun id id' g o g' o' e e' l l' hne => ?_, fun x v id g o hI e l => ?_⟩
    · exact (OR_ren h w id o).1 (hs.obj (sw a b id) g (renO a b o) (by rw [hlook_ren, e]; rfl))
    · exact hs.inj (sw a b id) (sw a b id') g (renO a b o) g' (renO a b o') (by rw [hlook_ren, e]; rfl) (by rw [hlook_ren, e']; rfl) ((live_ren o).2 l) ((live_ren o').2 l') fun e => hne (sw_inj e)
    · exact hs.dis x v (sw a b id) g (renO a b o) hI (by rw [hlook_ren, e]; rfl) ((live_ren o).2 l)
  · intro hs
    have back : ∀ id g o, hlook (renH a b h) id = some (g, o) → ∃ o0, hlook h (sw a b id) = some (g, o0) ∧ o = renO a b o0 := fun id g o e => by
      rw [hlook_ren'] at e
      cases hh : hlook h (sw a b id) with
      | none => rw [hh] at e; cases e
      | some y =>
        rw [hh] at e
        simp only [Option.map_some, Option.some.injEq, Prod.mk.injEq] at e
        obtain ⟨rfl, rfl⟩ := e
        exact ⟨_, rfl, rfl⟩
    refine ⟨hs.mem, fun id g o e => ?_, fun id id' g o g' o' e e' l l' hne => ?_, fun x v id g o hI e l => ?_⟩
    · obtain ⟨o0, e1, rfl⟩ := back _ _ _ e
      have := (OR_ren (ρ := ρ) (I := I) h w (sw a b id) o0).2 (hs.obj _ _ _ e1)
      rwa [sw_sw] at this
    · obtain ⟨o0, e1, rfl⟩ := back _ _ _ e
      obtain ⟨o1, e2, rfl⟩ := back _ _ _ e'
      have := hs.inj _ _ _ _ _ _ e1 e2 ((live_ren _).1 l) ((live_ren _).1 l') fun e => hne (sw_inj e)
      simpa only [sw_sw] using this
    · obtain ⟨o0, e1, rfl⟩ := back _ _ _ e
      have := hs.dis x v _ _ _ hI e1 ((live_ren _).1 l)
      simpa only [sw_sw] using this
/-- A CONTRACT UNDER OTHER NAMES. -/
theorem hret_ren {P : Program} {C : Ctx} {f : FuncId} {args : List T} {hin hout : Heap} {r : T} (a b : Nat) (h : HRet P C f args hin r hout) : HRet P C f (renL a b args) (renH a b hin) (renT a b r) (renH a b hout) := by
  refine ⟨h.1, fun ρ I w vals hg hs hv => ?_⟩
  refine (h.2 (fun x => ρ (sw a b x)) I w vals hg ((HS_ren hin w).1 hs) ((VRs_ren hin args vals).1 hv)).mono ?_
  rintro e w' ⟨v, r', ρ', hout', I', rfl, h1, h2, h3, h4, rfl, rfl⟩
  have e0 : (fun x => (fun y => ρ' (sw a b y)) (sw a b x)) = ρ' := by funext x; simp only [sw_sw]
  have ow : ∀ k, owned ρ (hlook (renH a b hin)) k ↔ owned (fun x => ρ (sw a b x)) (hlook hin) k := fun k => by
    constructor
    · rintro ⟨id, g, o, e, l, rfl⟩
      rw [hlook_ren'] at e
      cases hh : hlook hin (sw a b id) with
      | none => rw [hh] at e; cases e
      | some y =>
        rw [hh] at e
        simp only [Option.map_some, Option.some.injEq, Prod.mk.injEq] at e
        obtain ⟨rfl, rfl⟩ := e
        exact ⟨sw a b id, _, _, hh, (live_ren _).1 l, by simp only [sw_sw]⟩
    · rintro ⟨id, g, o, e, l, rfl⟩
      exact ⟨sw a b id, g, renO a b o, by rw [hlook_ren, e]; rfl, (live_ren _).2 l, rfl⟩
  refine ⟨v, _, fun x => ρ' (sw a b x), _, I', rfl, (VR_ren hout' r' v).2 (by rw [e0]; exact h1), (HS_ren hout' w').2 (by rw [e0]; exact h2), ?_, ?_, rfl, rfl⟩
  · refine ⟨h3.os, h3.tape, h3.output, h3.size, fun k hk hn => h3.blk k hk fun hx => hn ((ow k).2 hx), h3.sub, fun x v hx => ?_, fun id g o e l => ?_⟩
    · rcases h3.new x v hx with y | y | y
      · exact .inl y
      · exact .inr (.inl y)
      · exact .inr (.inr ((ow _).2 y))
    · rw [hlook_ren'] at e
      cases hh : hlook hout' (sw a b id) with
      | none => rw [hh] at e; cases e
      | some y =>
        rw [hh] at e
        simp only [Option.map_some, Option.some.injEq, Prod.mk.injEq] at e
        obtain ⟨rfl, rfl⟩ := e
        rcases h3.own _ _ _ hh ((live_ren _).1 l) with z | z
        · exact .inl z
        · exact .inr ((ow _).2 z)
  · intro id g o e
    rw [hlook_ren'] at e
    cases hh : hlook hin (sw a b id) with
    | none => rw [hh] at e; cases e
    | some y =>
      rw [hh] at e
      simp only [Option.map_some, Option.some.injEq, Prod.mk.injEq] at e
      obtain ⟨rfl, rfl⟩ := e
      obtain ⟨g', o', e1, e2, e3⟩ := h4 _ _ _ hh
      refine ⟨g', renO a b o', by rw [hlook_ren', e1]; rfl, e2, fun hg hd => ?_⟩
      obtain ⟨k1, k2, k3⟩ := e3 hg fun x => hd (by rw [x]; rfl)
      refine ⟨by simpa only [sw_sw] using k1, fun x => k2 ?_, fun pu esz cs hx => ?_⟩
      · cases hy : y.2 with
        | dead => rfl
        | row => rw [hy] at x; cases x
        | it => rw [hy] at x; cases x
      · cases ho : o' with
        | row pu' esz' cs' =>
          rw [ho] at hx
          simp only [renO, Obj.row.injEq] at hx
          obtain ⟨rfl, rfl, _⟩ := hx
          obtain ⟨pu2, s2, cs2, h5, h6⟩ := k3 _ _ _ ho
          exact ⟨pu2, s2, renL a b cs2, by rw [h5]; rfl, h6⟩
        | dead => rw [ho] at hx; cases hx
        | it => rw [ho] at hx; cases hx
end
end Go.Proofs.YtdiippegaidpkaaDoor.Vm
