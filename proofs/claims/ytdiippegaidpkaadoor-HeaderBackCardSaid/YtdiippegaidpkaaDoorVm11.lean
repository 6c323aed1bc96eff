/- The symbolic machine, part 11: calls by contract; every operation is right. -/
import Derived.Test.YtdiippegaidpkaaDoorVm10
set_option linter.unusedVariables false
set_option linter.unusedSimpArgs false
namespace Go.Proofs.YtdiippegaidpkaaDoor.Vm
open Go
theorem memb_eq {n : Nat} : ∀ {l : List Nat}, memb n l = true ↔ n ∈ l
  | [] => by simp [memb]
  | m :: l => by
    simp only [memb, List.mem_cons]
    cases hb : Nat.beq m n with
    | true => simp [(Nat.eq_of_beq_eq_true hb).symm]
    | false =>
      simp only [memb_eq (l := l)]
      have : n ≠ m := fun e => by subst e; simp at hb
      simp [this]
theorem restrict_look {hl : Objs} : ∀ {use : List Nat} {id : Nat} {x : Nat × Obj}, hlook (restrict hl use) id = some x → id ∈ use ∧ hl id = some x
  | [], id, x, h => by simp [restrict, hlook] at h
  | m :: use, id, x, h => by
    unfold restrict at h
    split at h
    · rename_i g o e
      simp only [hlook] at h
      split at h
      · rename_i hb
        obtain rfl := Nat.eq_of_beq_eq_true hb
        simp only [Option.some.injEq] at h; subst h
        exact ⟨by simp, e⟩
      · obtain ⟨h1, h2⟩ := restrict_look h; exact ⟨by simp [h1], h2⟩
    · obtain ⟨h1, h2⟩ := restrict_look h; exact ⟨by simp [h1], h2⟩
theorem look_restrict {hl : Objs} : ∀ {use : List Nat} {id : Nat} {x : Nat × Obj}, id ∈ use → hl id = some x → hlook (restrict hl use) id = some x
  | [], id, x, h, _ => by simp at h
  | m :: use, id, x, h, hx => by
    unfold restrict
    split
    · rename_i g o e
      simp only [hlook]
      split
      · rename_i hb
        obtain rfl := Nat.eq_of_beq_eq_true hb
        rw [← hx, e]
      · rename_i hb
        refine look_restrict ((List.mem_cons.1 h).resolve_left fun e' => ?_) hx
        subst e'; simp at hb
    · rename_i e
      refine look_restrict ((List.mem_cons.1 h).resolve_left fun e' => ?_) hx
      subst e'; rw [e] at hx; cases hx
section
variable {P : Program} {C : Ctx} {E : Ent} {ρ : Place} {hf : Objs} {I : Mem} {w : World} {a : Act} {o : Oper}
mutual
theorem VR_sub {use : List Nat} : ∀ (t : T) (v : Value), okIds use t = true → VR ρ hf I t v → VR ρ (hlook (restrict hf use)) I t v
  | .top, _, _, _ => by simp [VR]
  | .b _, _, _, hv => by simpa [VR] using hv
  | .bl _, _, _, hv => by simpa [VR] using hv
  | .i _ _, _, _, hv => by simpa [VR] using hv
  | .fl _ _, _, _, hv => by simpa [VR] using hv
  | .cx _ _ _, _, _, hv => by simpa [VR] using hv
  | .s _, _, _, hv => by simpa [VR] using hv
  | .agg cs, v, ho, hv => by
    simp only [VR] at hv ⊢
    obtain ⟨vs, e, h1⟩ := hv
    simp only [okIds] at ho
    exact ⟨vs, e, VRs_sub cs vs ho h1⟩
  | .tup cs, v, ho, hv => by
    simp only [VR] at hv ⊢
    obtain ⟨vs, e, h1⟩ := hv
    simp only [okIds] at ho
    exact ⟨vs, e, VRs_sub cs vs ho h1⟩
  | .sl n cs, v, _, hv => by simpa only [VR] using hv
  | .nsl, _, _, hv => by simpa [VR] using hv
  | .rp cs off, v, _, hv => by simpa only [VR] using hv
  | .np, _, _, hv => by simpa [VR] using hv
  | .fn f x c, v, ho, hv => by
    simp only [VR] at hv ⊢
    obtain ⟨xs, cs, e, h1, h2⟩ := hv
    simp only [okIds] at ho
    cases hb : okIds.okIdsL use x with
    | false => rw [hb] at ho; simp at ho
    | true => rw [hb] at ho; exact ⟨xs, cs, e, VRs_sub x xs hb h1, VRs_sub c cs ho h2⟩
  | .nfn, _, _, hv => by simpa [VR] using hv
  | .ifc t x, v, ho, hv => by
    simp only [VR] at hv ⊢
    obtain ⟨y, e, h1⟩ := hv
    simp only [okIds] at ho
    exact ⟨y, e, VR_sub x y ho h1⟩
  | .nif, _, _, hv => by simpa [VR] using hv
  | .ref id g off n, v, ho, hv => by
    simp only [VR] at hv ⊢
    simp only [okIds] at ho
    obtain ⟨h1, g', ob, e, h2⟩ := hv
    exact ⟨h1, g', ob, look_restrict (memb_eq.1 ho) e, h2⟩
  | .p id g off, v, ho, hv => by
    simp only [VR] at hv ⊢
    simp only [okIds] at ho
    obtain ⟨h1, g', ob, e, h2⟩ := hv
    exact ⟨h1, g', ob, look_restrict (memb_eq.1 ho) e, h2⟩
theorem VRs_sub {use : List Nat} : ∀ (ts : List T) (vs : List Value), okIds.okIdsL use ts = true → VRs ρ hf I ts vs → VRs ρ (hlook (restrict hf use)) I ts vs
  | [], _, _, hv => by simpa [VRs] using hv
  | t :: ts, vs, ho, hv => by
    simp only [VRs] at hv ⊢
    obtain ⟨v, r, e, h1, h2⟩ := hv
    simp only [okIds.okIdsL] at ho
    cases hb : okIds use t with
    | false => rw [hb] at ho; simp at ho
    | true => rw [hb] at ho; exact ⟨v, r, e, VR_sub t v hb h1, VRs_sub ts r ho h2⟩
end
theorem closed_get {use : List Nat} : ∀ {h : Heap} {id g : Nat} {esz : Mk} {cs : List T}, closedH use h = true → hlook h id = some (g, .row false esz cs) → okIds.okIdsL use cs = true
  | [], _, _, _, _, _, h => by simp [hlook] at h
  | (m, g0, o0) :: l, id, g, esz, cs, hc, h => by
    simp only [hlook] at h
    split at h
    · simp only [Option.some.injEq, Prod.mk.injEq] at h
      obtain ⟨_, rfl⟩ := h
      simp only [closedH] at hc
      cases hb : okIds.okIdsL use cs with
      | true => rfl
      | false => rw [hb] at hc; simp at hc
    · refine closed_get (h := l) ?_ h
      unfold closedH at hc
      split at hc
      · rename_i heq; simp at heq
      · rename_i e; simp only [List.cons.injEq] at e
        obtain ⟨_, rfl⟩ := e
        split at hc
        · exact hc
        · cases hc
      · rename_i e; simp only [List.cons.injEq] at e
        obtain ⟨_, rfl⟩ := e
        exact hc
theorem HS.sub {use : List Nat} (hs : HS ρ hf I w) (hc : closedH use (restrict hf use) = true) : HS ρ (hlook (restrict hf use)) I w := by
  refine ⟨hs.mem, fun id g ob h => ?_, fun id id' g ob g' ob' h h' l l' hne => hs.inj _ _ _ _ _ _ (restrict_look h).2 (restrict_look h').2 l l' hne, fun ad v id g ob h h' l => hs.dis _ _ _ _ _ h (restrict_look h').2 l⟩
  have h0 := hs.obj _ _ _ (restrict_look h).2
  cases ob with
  | dead => trivial
  | it l pos => exact h0
  | row pu esz cs =>
    obtain ⟨c, e, fz, h1, h2, h3, h4⟩ := h0
    refine ⟨c, e, fz, h1, h2, h3, ?_⟩
    cases pu with
    | true => exact h4
    | false => exact VRs_sub _ _ (closed_get hc h) h4
theorem has_look : ∀ {h : Heap} {id : Nat}, has id h = true ↔ ∃ x, hlook h id = some x
  | [], id => by simp [has, hlook]
  | (m, g, ob) :: h, id => by
    simp only [has, hlook]
    cases Nat.beq m id with
    | true => simp
    | false => exact has_look
theorem covers_mem {out : Heap} : ∀ {use : List Nat}, covers out use = true → ∀ id ∈ use, ∃ x, hlook out id = some x
  | [], _, id, h => by simp at h
  | m :: use, hc, id, h => by
    simp only [covers] at hc
    cases hb : has m out with
    | false => rw [hb] at hc; simp at hc
    | true =>
      rw [hb] at hc
      rcases List.mem_cons.1 h with rfl | h
      · exact has_look.1 hb
      · exact covers_mem hc id h
theorem fits_get {hl : Objs} {use : List Nat} : ∀ {out : Heap} {id g : Nat} {ob : Obj} {g0 : Nat} {o0 : Obj}, fits hl use out = true → hlook out id = some (g, ob) → hl id = some (g0, o0) →
    (id ∈ use ∧ g0 ≤ g) ∨ g0 < g
  | [], id, g, ob, g0, o0, _, h, _ => by simp [hlook] at h
  | (m, g1, o1) :: out, id, g, ob, g0, o0, hfit, h, hi => by
    unfold fits at hfit
    simp only [hlook] at h
    cases hb : Nat.beq m id with
    | true =>
      rw [hb] at h
      simp only [Option.some.injEq, Prod.mk.injEq] at h
      obtain ⟨rfl, rfl⟩ := h
      obtain rfl := Nat.eq_of_beq_eq_true hb
      rw [hi] at hfit
      simp only at hfit
      cases hm : memb m use with
      | true =>
        rw [hm] at hfit
        simp only at hfit
        cases hle : Nat.ble g0 g1 with
        | true => exact .inl ⟨memb_eq.1 hm, Nat.le_of_ble_eq_true hle⟩
        | false => rw [hle] at hfit; simp at hfit
      | false =>
        rw [hm] at hfit
        simp only at hfit
        cases hlt : Nat.blt g0 g1 with
        | true => exact .inr (Nat.le_of_ble_eq_true hlt)
        | false => rw [hlt] at hfit; simp at hfit
    | false =>
      rw [hb] at h
      refine fits_get (out := out) ?_ h hi
      split at hfit
      · exact hfit
      · split at hfit
        · split at hfit
          · exact hfit
          · cases hfit
        · split at hfit
          · exact hfit
          · cases hfit
theorem apps_eq {α : Type} : ∀ (x l : List T) (K : List T → α), apps x l K = K (x ++ l)
  | [], l, K => rfl
  | t :: x, l, K => by simp only [apps, apps_eq x l, List.cons_append]
theorem apps'_eq {α : Type} : ∀ (x l : List Nat) (K : List Nat → α), aCall.apps' x l K = K (x ++ l)
  | [], l, K => rfl
  | t :: x, l, K => by simp only [aCall.apps', apps'_eq x l, List.cons_append]
/-- Where the objects lie behind a call. -/
def merged (ρ ρ' : Place) (out : Heap) : Place := fun id => match hlook out id with
  | some _ => ρ' id
  | none => ρ id
theorem merged_in {ρ' : Place} {out : Heap} {id : Nat} {x : Nat × Obj} (h : hlook out id = some x) : merged ρ ρ' out id = ρ' id := by simp [merged, h]
theorem merged_out {ρ' : Place} {out : Heap} {id : Nat} (h : hlook out id = none) : merged ρ ρ' out id = ρ id := by simp [merged, h]
theorem updH_in {out : Heap} {id : Nat} {x : Nat × Obj} (h : hlook out id = some x) : updH hf out id = some x := by simp [updH, h]
theorem updH_out {out : Heap} {id : Nat} (h : hlook out id = none) : updH hf out id = hf id := by simp [updH, h]
/-- A call by contract, in the caller's state. -/
theorem call_sound {ef : Nat → T} {ds : Ds} {f : FuncId} {args : List T} {vals : List Value} {use : List Nat} {out : Heap} {r : T} (sr : SR C E ef hf ds ρ I a w)
    (hfit : fits hf use out = true) (hcov : covers out use = true) (hok : okIds.okIdsL use args = true) (hcl : closedH use (restrict hf use) = true)
    (hret : HRet P C f args (restrict hf use) r out) (hv : VRs ρ hf I args vals) :
    Calls P f ⟨vals⟩ w fun e w' => ∃ v ρ' I', e = .returned v ∧ MLe I I' ∧ HLe ρ hf ρ' (updH hf out) ∧ HS ρ' (updH hf out) I' w' ∧ Ext E.w0 E.own E.I0 ρ' (updH hf out) I' w' ∧ VR ρ' (updH hf out) I' r v := by
  refine (hret.2 ρ I w vals sr.glob (sr.hs.sub hcl) (VRs_sub _ _ hok hv)).mono ?_
  rintro e w' ⟨v, r', ρ', hout, I', rfl, hvr, hs', hx', hle', rfl, rfl⟩
  have hlt : ∀ {m g1 o1}, hf m = some (g1, o1) → o1.live → (ρ m).1 < w.heap.size := fun h1 hl => live_lt (sr.hs.obj _ _ _ h1) hl
  have hMI : MLe I I' := hx'.sub
  -- an object of the call's own is none of the others
  have hnot : ∀ {m g1 o1}, hf m = some (g1, o1) → o1.live → hlook hout m = none → ¬ owned ρ (hlook (restrict hf use)) (ρ m).1 := by
    rintro m g1 o1 h1 l1 hn ⟨m', g2, o2, h2, l2, e⟩
    obtain ⟨hm', h2'⟩ := restrict_look h2
    obtain ⟨x, hx⟩ := covers_mem hcov m' hm'
    have hne : m' ≠ m := fun e => by subst e; rw [hn] at hx; cases hx
    exact sr.hs.inj _ _ _ _ _ _ h2' h1 l2 l1 hne e
  have hnotIn : ∀ {b}, owned ρ (hlook (restrict hf use)) b → E.w0.heap.size ≤ b ∨ E.own b := by
    rintro b ⟨m, g1, o1, h1, l1, rfl⟩
    exact sr.ext.own _ _ _ (restrict_look h1).2 l1
  have hHLe : HLe ρ hf (merged ρ ρ' hout) (updH hf hout) := by
    intro id g ob h
    cases ho : hlook hout id with
    | none => rw [updH_out ho, merged_out ho]; exact ⟨g, ob, h, Nat.le_refl _, fun _ hd => ⟨rfl, hd, fun pu s cs e => ⟨pu, s, cs, e, rfl⟩⟩⟩
    | some x =>
      obtain ⟨g', o'⟩ := x
      rw [updH_in ho, merged_in ho]
      rcases fits_get hfit ho h with ⟨hu, hg⟩ | hg
      · obtain ⟨g2, o2, e2, l2, k2⟩ := hle' _ _ _ (look_restrict hu h)
        rw [ho] at e2; simp only [Option.some.injEq, Prod.mk.injEq] at e2; obtain ⟨rfl, rfl⟩ := e2
        exact ⟨_, _, rfl, l2, k2⟩
      · exact ⟨_, _, rfl, Nat.le_of_lt hg, fun e => by omega⟩
  have hHLe2 : HLe ρ' (hlook hout) (merged ρ ρ' hout) (updH hf hout) := by
    intro id g ob h
    exact ⟨g, ob, updH_in h, Nat.le_refl _, fun _ hd => ⟨merged_in h, hd, fun pu s cs e => ⟨pu, s, cs, e, rfl⟩⟩⟩
  have hHS : HS (merged ρ ρ' hout) (updH hf hout) I' w' := by
    refine ⟨hs'.mem, fun id g ob h => ?_, fun id id' g ob g' ob' h h' l l' hne => ?_, fun ad v id g ob h h' l => ?_⟩
    · cases ho : hlook hout id with
      | some x =>
        rw [updH_in ho] at h
        obtain rfl := Option.some.inj h
        exact (hs'.obj _ _ _ ho).keep (MLe.refl _) hHLe2 (merged_in ho) rfl
      | none =>
        rw [updH_out ho] at h
        by_cases hl : ob.live
        · exact (sr.hs.obj _ _ _ h).keep hMI hHLe (merged_out ho) (hx'.blk _ (hlt h hl) (hnot h hl ho))
        · cases ob with
          | dead => trivial
          | row => exact absurd trivial hl
          | it => exact absurd trivial hl
    · cases ho : hlook hout id with
      | some x =>
        rw [updH_in ho] at h
        obtain rfl := Option.some.inj h
        rw [merged_in ho]
        cases ho' : hlook hout id' with
        | some x' =>
          rw [updH_in ho'] at h'
          obtain rfl := Option.some.inj h'
          rw [merged_in ho']
          exact hs'.inj _ _ _ _ _ _ ho ho' l l' hne
        | none =>
          rw [updH_out ho'] at h'
          rw [merged_out ho']
          intro e
          rcases hx'.own _ _ _ ho l with h1 | h1
          · have := hlt h' l'; omega
          · exact hnot h' l' ho' (e ▸ h1)
      | none =>
        rw [updH_out ho] at h
        rw [merged_out ho]
        cases ho' : hlook hout id' with
        | some x' =>
          rw [updH_in ho'] at h'
          obtain rfl := Option.some.inj h'
          rw [merged_in ho']
          intro e
          rcases hx'.own _ _ _ ho' l' with h1 | h1
          · have := hlt h l; omega
          · exact hnot h l ho (e ▸ h1)
        | none =>
          rw [updH_out ho'] at h'
          rw [merged_out ho']
          exact sr.hs.inj _ _ _ _ _ _ h h' l l' hne
    · cases ho : hlook hout id with
      | some x =>
        rw [updH_in ho] at h'
        obtain rfl := Option.some.inj h'
        rw [merged_in ho]
        exact hs'.dis _ _ _ _ _ h ho l
      | none =>
        rw [updH_out ho] at h'
        rw [merged_out ho]
        intro e
        rcases hx'.new _ _ h with h1 | h1 | h1
        · exact sr.hs.dis _ _ _ _ _ h1 h' l e
        · have := hlt h' l; omega
        · exact hnot h' l ho (e ▸ h1)
  refine ⟨v, merged ρ ρ' hout, I', rfl, hMI, hHLe, hHS, ?_, VR.mono (MLe.refl _) hHLe2 _ _ hvr⟩
  refine ⟨hx'.os.trans sr.ext.os, hx'.tape.trans sr.ext.tape, hx'.output.trans sr.ext.output, Nat.le_trans sr.ext.size hx'.size, fun b hb hn => ?_, fun ad v h => hMI _ _ (sr.ext.sub _ _ h), fun ad v h => ?_, fun id g ob h l => ?_⟩
  · rw [hx'.blk b (Nat.lt_of_lt_of_le hb sr.ext.size) fun ho => ?_]
    · exact sr.ext.blk b hb hn
    · rcases hnotIn ho with h1 | h1
      · omega
      · exact hn h1
  · rcases hx'.new _ _ h with h1 | h1 | h1
    · exact sr.ext.new _ _ h1
    · exact .inr (.inl (Nat.le_trans sr.ext.size h1))
    · exact .inr (hnotIn h1)
  · cases ho : hlook hout id with
    | some x =>
      rw [updH_in ho] at h
      obtain rfl := Option.some.inj h
      rw [merged_in ho]
      rcases hx'.own _ _ _ ho l with h1 | h1
      · exact .inl (Nat.le_trans sr.ext.size h1)
      · exact hnotIn h1
    | none =>
      rw [updH_out ho] at h
      rw [merged_out ho]
      exact sr.ext.own _ _ _ h l
theorem callFunc_run {f : FuncId} {args : Array Value} (h : Callable P f) : (callFunc f args).run P w = .ok (.enter f args) w := by
  obtain ⟨fn, h1, h2, h3⟩ := h
  have h2' : ¬ fn.name = "runtime.NumGoroutine" := by simpa using h2
  have h3' : ¬ fn.body = none := fun e => by rw [e] at h3; simp at h3
  simp [callFunc, h1, h2', h3']
/-- EVERY OPERATION: what it does here it does in Go's model. -/
theorem aop_sound {ef : Nat → T} {ds : Ds} {or : Or} {r : AR} {next : Act → World → Prop} {Q : Exit → Act → World → Prop} (hT : TabOk P C) (sr : SR C E ef hf ds ρ I a w)
    (h : aop P C o (opdF C ef) hf or = some r) (hq : ∀ p ∈ r.q, p) (hd : ∀ d, o.dst = some d → d < E.nt)
    (hn : ∀ ρ' I' v w', SR C E (updF ef o.dst r.t) (updH hf r.d) ds ρ' I' (a.put o.dst v) w' → next (a.put o.dst v) w') : o.wp P a w next Q := by
  have hev : ∀ x, VR ρ hf I (opdF C ef x) (a.eval x) := fun x => VR_opd sr x
  -- a value, or an effect
  have hD : Does P E hf ρ I o r.t r.d a w → o.wp P a w next Q := by
    rintro ⟨nx, v, ρ', I', w', h1, h2, h3, h4, h5, h6, h7⟩
    have := hn ρ' I' v w' (sr.step hd h3 h4 h5 h6 h7)
    unfold Oper.wp
    rw [h1]
    rcases h2 with rfl | ⟨rfl, rfl⟩ <;> exact this
  have hY : ∀ {s : Sem Value}, execOp a.eval o = (do pure (.value (← s))) → Yv P ρ hf I r s w → o.wp P a w next Q := by
    rintro s he ⟨h1, v, h2, h3⟩
    refine hD ?_
    rw [h1]
    refine Does.pure v sr ?_ h3
    rw [he]; simp [h2]
  have hV : ∀ {t : T} {v : Value}, execOp a.eval o = pure (.value v) → r.t = t → r.d = [] → VR ρ hf I t v → o.wp P a w next Q := by
    rintro t v he ht hd' hv
    refine hD ?_
    rw [hd', ht]
    exact Does.pure v sr (by rw [he]; simp) hv
  unfold aop at h
  split at h
  · rename_i X ho
    rw [force_eq] at h; obtain ⟨h1, h2, h3⟩ := ok_inv h
    exact hV (by rw [execOp, ho]) h1 h2 (hev X)
  · rename_i X ho
    rw [force_eq] at h; obtain ⟨h1, h2, h3⟩ := ok_inv h
    exact hV (by rw [execOp, ho]) h1 h2 (hev X)
  · rename_i X Y Z ho
    simp only [force_eq] at h
    refine hD ?_
    obtain ⟨h1, v, h2, h3⟩ := pick_ok (P := P) (w := w) h hq (hev X) (hev Y) (hev Z)
    rw [h1]
    refine Does.pure v sr ?_ h3
    rw [execOp, ho]
    simp only [Sem.run_bind, Sem.run_pure] at h2 ⊢
    cases hb : (asBool (a.eval X)).run P w with
    | ok b w2 => rw [hb] at h2; simp only [Result.andThen_ok, Result.ok.injEq] at h2 ⊢; exact ⟨by rw [h2.1], h2.2⟩
    | halt x w2 => rw [hb] at h2; simp at h2
  · rename_i e ho
    split at h
    · cases h
    · rename_i hsz
      rw [forceL_eq] at h
      exact hD (alloc_ok hT sr.hs sr.ext ho hsz h)
  · rename_i e X ho
    rw [force_eq] at h
    split at h
    · rename_i hsz hc
      exact hD (box_ok hT sr.hs sr.ext ho hc h (hev X))
    · cases h
  · rename_i t ps ho
    rw [evP_eq] at h
    exact hY (s := Instr.build t (ps.map fun (i, x) => (i, a.eval x))) (by rw [execOp, ho]) (build_ok hT hev h)
  · rename_i t n ps ho
    rw [evP_eq] at h
    exact hD (buildSlice_ok hT sr.hs sr.ext ho hev h)
  · rename_i t X ho
    rw [force_eq] at h
    exact hY (s := Instr.loadAt t (a.eval X)) (by rw [execOp, ho]) (load_ok hT sr.hs h hq (hev X))
  · rename_i t X Y ho
    simp only [force_eq] at h
    exact hD (store_ok hT sr.hs sr.ext ho h hq (hev X) (hev Y))
  · rename_i X ho
    rw [force_eq] at h
    have hx := hev X
    split at h
    · rename_i id g off e; rw [e] at hx
      obtain ⟨h1, h2, h3, pu, esz, cs, hi⟩ := oku_inv h
      have hv := VR_p hx hi
      exact hV (v := a.eval X) (by rw [execOp, ho]; simp only [hv]) h1 h2 hx
    · rename_i cs off e; rw [e] at hx
      obtain ⟨h1, h2, h3⟩ := ok_inv h
      have hx' := hx
      simp only [VR, PV] at hx'
      obtain ⟨blk, b, vs, hv, _⟩ := hx'
      exact hV (v := a.eval X) (by rw [execOp, ho]; simp only [hv]) h1 h2 hx
    · rename_i f x c e; rw [e] at hx
      obtain ⟨h1, h2, h3⟩ := ok_inv h
      have hx' := hx
      simp only [VR] at hx'
      obtain ⟨xs, cs, hv, _⟩ := hx'
      exact hV (v := a.eval X) (by rw [execOp, ho]; simp only [hv]) h1 h2 hx
    · cases h
  · rename_i op t X Y yt ho
    simp only [force_eq] at h
    exact hY (s := do eqGuard op t X Y (a.eval X) (a.eval Y); binOp op t (a.eval X) (a.eval Y)) (by rw [execOp, ho]) (bin_ok hT h hq (hev X) (hev Y))
  · rename_i op t X ho
    rw [force_eq] at h
    exact hY (s := Op.unary op (a.eval X)) (by rw [execOp, ho]) (un_ok h (hev X))
  · rename_i s d X ho
    rw [force_eq] at h
    rcases convert_ok (a := a) (o := o) hT sr.hs sr.ext ho h hq (hev X) with h1 | h1
    · exact hY (s := convert s d (a.eval X)) (by rw [execOp, ho]) h1
    · exact hD h1
  · rename_i t X ho
    rw [force_eq] at h
    have hk := (hT t).1
    split at h
    · cases h
    · rename_i hne
      obtain ⟨h1, h2, h3⟩ := ok_inv h
      have hkn : known (tin C t).k = true := by
        cases e : (tin C t).k <;> first | rfl | exact absurd e hne
      refine hY (s := Instr.makeInterface t (a.eval X)) (by rw [execOp, ho]) ?_
      rw [Yv, h1]
      refine ⟨h2, .iface t (a.eval X), ?_, by simp only [VR]; exact ⟨_, rfl, hev X⟩⟩
      cases e : (tin C t).k <;> rw [e] at hk <;> first
        | exact absurd e hne
        | simp [Instr.makeInterface, run_underlying hk]
        | simp [Instr.makeInterface, run_underlying hk.1]
        | (obtain ⟨_, hk, _⟩ := hk; simp [Instr.makeInterface, run_underlying hk])
        | (obtain ⟨_, _, _, hk⟩ := hk; simp [Instr.makeInterface, run_underlying hk])
  · rename_i f x c ho
    simp only [evL_eq] at h
    obtain ⟨h1, h2, h3⟩ := ok_inv h
    refine hV (v := .func f (x.map a.eval) (c.map a.eval)) (by rw [execOp, ho]; rfl) h1 h2 ?_
    simp only [VR]
    exact ⟨(x.map a.eval).toList, (c.map a.eval).toList, rfl, by rw [Array.toList_map]; exact VRs.map _ _ hev _, by rw [Array.toList_map]; exact VRs.map _ _ hev _⟩
  · rename_i t L K ho
    simp only [force_eq] at h
    exact hD (makeSlice_ok hT sr.hs sr.ext ho h hq (hev L) (hev K))
  · rename_i t X lo hi ho
    rw [force_eq] at h
    have hgo : ∀ {lo' hi' : Option T} {vlo vhi : Option Value}, aSlice C hf t (opdF C ef X) lo' hi' = some r → (∀ x, lo' = some x → ∃ v, vlo = some v ∧ VR ρ hf I x v) → (lo' = none → vlo = none) →
        (∀ x, hi' = some x → ∃ v, vhi = some v ∧ VR ρ hf I x v) → (hi' = none → vhi = none) → lo.map a.eval = vlo → hi.map a.eval = vhi → o.wp P a w next Q := by
      intro lo' hi' vlo vhi h a1 a2 a3 a4 e1 e2
      exact hY (s := Instr.sliceAt t (a.eval X) vlo vhi none) (by rw [execOp, ho]; simp only [e1, e2]; rfl) (slice_ok hT sr.hs h hq (hev X) a1 a2 a3 a4)
    split at h
    · exact hgo h (by simp) (fun _ => rfl) (by simp) (fun _ => rfl) rfl rfl
    · rename_i A
      rw [force_eq] at h
      exact hgo h (by intro x e; simp only [Option.some.injEq] at e; subst e; exact ⟨_, rfl, hev A⟩) (by simp) (by simp) (fun _ => rfl) rfl rfl
    · rename_i B
      rw [force_eq] at h
      exact hgo h (by simp) (fun _ => rfl) (by intro x e; simp only [Option.some.injEq] at e; subst e; exact ⟨_, rfl, hev B⟩) (by simp) rfl rfl
    · rename_i A B
      simp only [force_eq] at h
      exact hgo h (by intro x e; simp only [Option.some.injEq] at e; subst e; exact ⟨_, rfl, hev A⟩) (by simp) (by intro x e; simp only [Option.some.injEq] at e; subst e; exact ⟨_, rfl, hev B⟩) (by simp) rfl rfl
  · rename_i t X f ho
    rw [force_eq] at h
    exact hY (s := Instr.fieldAt t (a.eval X) f) (by rw [execOp, ho]) (fieldAddr_ok hT h (hev X))
  · rename_i t X f ho
    rw [force_eq] at h
    exact hY (s := Instr.field t (a.eval X) f) (by rw [execOp, ho]) (field_ok hT h hq (hev X))
  · rename_i t X J ho
    simp only [force_eq] at h
    exact hY (s := Instr.indexAt t (a.eval X) (a.eval J)) (by rw [execOp, ho]) (indexAddr_ok hT h hq (hev X) (hev J))
  · rename_i t X J ho
    simp only [force_eq] at h
    exact hY (s := Instr.index t (a.eval X) (a.eval J)) (by rw [execOp, ho]) (index_ok hT h hq (hev X) (hev J))
  · rename_i t X ho
    rw [force_eq] at h
    have hk := (hT t).1
    have hx := hev X
    split at h
    · rename_i l hke e
      rw [hke] at hk; rw [e] at hx
      simp only [VR] at hx
      exact hD (range_ok sr.hs sr.ext hk ho h hx)
    · cases h
  · rename_i X ho
    rw [force_eq] at h
    exact hD (next_ok sr.hs sr.ext ho h hq (hev X))
  · rename_i X n ho
    rw [force_eq] at h
    have hx := hev X
    split at h
    · rename_i cs e; rw [e] at hx
      simp only [VR] at hx
      obtain ⟨vs, hv, hvs⟩ := hx
      split at h
      · rename_i y hy
        rw [force_eq] at h
        obtain ⟨h1, h2, h3⟩ := ok_inv h
        rw [nth_eq] at hy
        obtain ⟨v, hv1, hv2⟩ := hvs.get _ _ hy
        refine hY (s := Instr.extract (a.eval X) n) (by rw [execOp, ho]) ?_
        rw [Yv, h1, hv]
        exact ⟨h2, v, by simp [Instr.extract, hv1], hv2⟩
      · cases h
    · cases h
  · rename_i b args ats ho
    simp only [evL_eq] at h
    exact hD (builtin_ok hT sr.hs sr.ext ho hev h hq)
  · rename_i F args ats ho
    simp only [force_eq, evL_eq] at h
    have hx := hev F
    unfold aCall at h
    split at h
    · rename_i f x c r' use out e
      rw [e] at hx
      simp only [VR] at hx
      obtain ⟨xs, cs, hv, hxs, hcs⟩ := hx
      simp only [apps_eq, apps'_eq] at h
      split at h
      · rename_i f1 f2 f3 f4
        cases h
        have hret := hq _ (List.mem_singleton.2 rfl)
        have hargs : VRs ρ hf I (x ++ (args.toList.map (opdF C ef) ++ c)) (xs ++ ((args.map a.eval).toList ++ cs)) := by
          rw [Array.toList_map]; exact hxs.append ((VRs.map _ _ hev _).append hcs)
        have hcall := call_sound sr f1 f2 f3 f4 hret hargs
        unfold Oper.wp
        have he : (execOp a.eval o).run P w = .ok (.enter f ⟨xs ++ ((args.map a.eval).toList ++ cs)⟩) w := by
          rw [execOp, ho]
          simp only [resolve, hv, Deferred.ofValue, invoke, Sem.run_bind, Sem.run_pure, Result.andThen_ok]
          rw [callFunc_run hret.1]
          congr 2
          apply Array.ext'
          simp
        rw [he]
        refine hcall.mono ?_
        rintro e' w' ⟨v, ρ', I', rfl, k1, k2, k3, k4, k5⟩
        exact hn ρ' I' v w' (sr.step hd k1 k2 k3 k4 k5)
      · cases h
    · cases h
  · cases h
end
end Go.Proofs.YtdiippegaidpkaaDoor.Vm
