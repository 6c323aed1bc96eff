/- The symbolic machine, part 10: iterators, built-in functions, calls; all operations. -/
import Derived.Test.YtdiippegaidpkaaDoorVm9
set_option linter.unusedVariables false
set_option linter.unusedSimpArgs false
namespace Go.Proofs.YtdiippegaidpkaaDoor.Vm
open Go
section
variable {P : Program} {C : Ctx} {E : Ent} {ρ : Place} {hf : Objs} {I : Mem} {w : World} {a : Act} {o : Oper}
theorem range_ok {t : TypeId} {l : List UInt8} {X : Operand} {r : AR} (hs : HS ρ hf I w) (hx : Ext E.w0 E.own E.I0 ρ hf I w) (hu : P.underlying t = some .string) (ho : o.op = .range t X)
    (h : mkObj hf o.dst (.it l 0) (fun d g => .p d g 0) [] = some r) (hv : a.eval X = .string ⟨⟨l⟩⟩) : Does P E hf ρ I o r.t r.d a w := by
  obtain ⟨s, hd, h1, h2, h3⟩ := mkObj_inv h
  rw [h1, h2]
  refine ⟨_, .pointer (some ⟨w.heap.size, 0, none⟩), made ρ w s 0, I, w.alloc (.stringIter ⟨⟨l⟩⟩ 0), ?_, .inl rfl, MLe.refl _, made_HLe (fun _ _ => newG_lt), alloc_HS hs (fun _ _ => newG_lt) ?_, alloc_Ext hx, ?_⟩
  · rw [execOp, ho]; simp [Instr.range, hv, run_underlying hu]
  · show (w.alloc _).heap[(made ρ w s 0 s).1]? = _
    simp only [made, if_pos, heap_alloc_new]
  · simp only [VR]
    exact ⟨rfl, newG hf s, _, by rw [updH_one, if_pos rfl], Nat.le_refl _, fun _ _ => by simp [made]⟩
theorem next_ok {x : T} {X : Operand} {or : Or} {r : AR} (hs : HS ρ hf I w) (hx : Ext E.w0 E.own E.I0 ρ hf I w) (ho : o.op = .next X true)
    (h : aNext hf x or = some r) (hq : ∀ p ∈ r.q, p) (hv : VR ρ hf I x (a.eval X)) : Does P E hf ρ I o r.t r.d a w := by
  unfold aNext at h
  split at h
  · rename_i id g
    split at h
    · rename_i g' l pos hi
      simp only [VR] at hv
      obtain ⟨_, g1, o1, e1, hle, hr⟩ := hv
      rw [hi] at e1; simp only [Option.some.injEq, Prod.mk.injEq] at e1; obtain ⟨rfl, rfl⟩ := e1
      have hob : w.heap[(ρ id).1]? = some (.stringIter ⟨⟨l⟩⟩ pos) := hs.obj _ _ _ hi
      split at h
      · rename_i hg
        obtain rfl := Nat.eq_of_beq_eq_true hg
        have hval := hr rfl (by simp)
        cases h
        have hlt : pos < l.length := of_decide_eq_true (hq _ (by simp))
        have hle2 : HLe ρ hf ρ (updH hf [(id, g, .it l (pos + (Utf8.decode ⟨⟨l⟩⟩ pos).2))]) := by
          intro m g1 o1 h1
          rw [updH_one]
          by_cases hm : id = m
          · subst hm; rw [if_pos rfl]; rw [hi] at h1; simp only [Option.some.injEq, Prod.mk.injEq] at h1; obtain ⟨rfl, rfl⟩ := h1
            exact ⟨g, _, rfl, Nat.le_refl _, fun _ _ => ⟨rfl, by simp, fun pu1 esz1 cs1 e => by simp at e⟩⟩
          · rw [if_neg hm]; exact ⟨g1, o1, h1, Nat.le_refl _, fun _ hd => ⟨rfl, hd, fun pu s cs e => ⟨pu, s, cs, e, rfl⟩⟩⟩
        have hb : ∀ b, b ≠ (ρ id).1 → ({ w with heap := w.heap.setIfInBounds (ρ id).1 (.stringIter ⟨⟨l⟩⟩ (pos + (Utf8.decode ⟨⟨l⟩⟩ pos).2)) } : World).heap[b]? = w.heap[b]? := fun b hb => by
          show (w.heap.setIfInBounds _ _)[b]? = _
          rw [Array.getElem?_setIfInBounds, if_neg (Ne.symm hb)]
        have hlt2 : (ρ id).1 < w.heap.size := (Array.getElem?_eq_some_iff.1 hob).1
        refine ⟨_, .tuple #[.bool true, goInt pos, .int .i32 (Utf8.decode ⟨⟨l⟩⟩ pos).1], ρ, I, { w with heap := w.heap.setIfInBounds (ρ id).1 (.stringIter ⟨⟨l⟩⟩ (pos + (Utf8.decode ⟨⟨l⟩⟩ pos).2)) }, ?_, .inl rfl, MLe.refl _, hle2,
          write_HS hs hi trivial hb hle2 ?_, write_Ext (w' := { w with heap := w.heap.setIfInBounds (ρ id).1 (.stringIter ⟨⟨l⟩⟩ (pos + (Utf8.decode ⟨⟨l⟩⟩ pos).2)) }) hx hi trivial rfl rfl rfl (by simp) hb g, ?_⟩
        · rw [execOp, ho]
          simp only [hval, Instr.next, getObj, setObj, Sem.run_bind, Sem.run, hob, Result.andThen_ok, size_mk, hlt, if_true]
          simp [Sem.run, hob]
        · show (w.heap.setIfInBounds _ _)[_]? = _
          rw [Array.getElem?_setIfInBounds, if_pos rfl, if_pos hlt2]
        · simp [VR, VRs, goInt]
      · rename_i hg
        obtain rfl := Nat.eq_of_beq_eq_true hg
        have hval := hr rfl (by simp)
        cases h
        have hlt : ¬ pos < l.length := of_decide_eq_false (hq _ (by simp))
        refine ⟨_, .tuple #[.bool false], ρ, I, w, ?_, .inl rfl, MLe.refl _, HLe.refl _ _, hs, hx, by simp [VR, VRs]⟩
        rw [execOp, ho]
        simp only [hval, Instr.next, getObj, Sem.run_bind, Sem.run, hob, Result.andThen_ok, size_mk, hlt, if_false]
        simp
      · cases h
    · cases h
  · cases h
theorem pick_ok {c x y : T} {X Y Z : Operand} {or : Or} {r : AR} (h : aPick c x y or = some r) (hq : ∀ p ∈ r.q, p) (hc : VR ρ hf I c (a.eval X)) (hx : VR ρ hf I x (a.eval Y)) (hy : VR ρ hf I y (a.eval Z)) :
    Yv P ρ hf I r (do pure (if ← asBool (a.eval X) then a.eval Y else a.eval Z)) w := by
  unfold aPick at h
  split at h
  · obtain ⟨h1, h2, h3⟩ := ok_inv h; simp only [VR] at hc; rw [Yv, h1, hc]; exact ⟨h2, a.eval Y, by simp [asBool], hx⟩
  · obtain ⟨h1, h2, h3⟩ := ok_inv h; simp only [VR] at hc; rw [Yv, h1, hc]; exact ⟨h2, a.eval Z, by simp [asBool], hy⟩
  · rename_i z
    simp only [VR] at hc
    split at h
    · obtain ⟨h1, h2, h3⟩ := okq_inv h
      have hz : z = true := hq _ (by rw [h3]; simp)
      rw [Yv, h1, hc, hz]; exact ⟨h2, a.eval Y, by simp [asBool], hx⟩
    · obtain ⟨h1, h2, h3⟩ := okq_inv h
      have hz : z = false := hq _ (by rw [h3]; simp)
      rw [Yv, h1, hc, hz]; exact ⟨h2, a.eval Z, by simp [asBool], hy⟩
    · cases h
  · cases h
theorem VRs_one {t : T} {vs : List Value} (h : VRs ρ hf I [t] vs) : ∃ v, vs = [v] ∧ VR ρ hf I t v := by
  simp only [VRs] at h; obtain ⟨v, r, rfl, h1, rfl⟩ := h; exact ⟨v, rfl, h1⟩
theorem VRs_two {t u : T} {vs : List Value} (h : VRs ρ hf I [t, u] vs) : ∃ v x, vs = [v, x] ∧ VR ρ hf I t v ∧ VR ρ hf I u x := by
  simp only [VRs] at h; obtain ⟨v, r, rfl, h1, x, r', rfl, h2, rfl⟩ := h; exact ⟨v, x, rfl, h1, h2⟩
/-- A call of a built-in function, run. -/
theorem builtin_run {b : Builtin} {args : Array Operand} {ats : Array TypeId} {s : Sem Value} (ho : o.op = .call ⟨.builtin b, args, ats⟩)
    (hb : builtin b ats o.type (args.map fun | .const _ => true | _ => false) (args.map a.eval) = (do pure (.value (← s)))) {v : Value} {w' : World} (hs : s.run P w = .ok v w') :
    (execOp a.eval o).run P w = .ok (.value v) w' := by
  rw [execOp, ho]
  simp only [resolve, invoke, Sem.run_bind, Sem.run_pure, Result.andThen_ok]
  refine (congrArg (fun s => Sem.run P s w) hb).trans ?_
  simp only [Sem.run_bind, hs, Result.andThen_ok, Sem.run_pure]
theorem builtin_ok {b : Builtin} {args : Array Operand} {ats : Array TypeId} {ev : Operand → T} {r : AR} (hT : TabOk P C) (hs : HS ρ hf I w) (hx : Ext E.w0 E.own E.I0 ρ hf I w) (ho : o.op = .call ⟨.builtin b, args, ats⟩)
    (hev : ∀ x, VR ρ hf I (ev x) (a.eval x)) (h : aBuiltin C hf o.dst b ats.toList (args.toList.map ev) = some r) (hq : ∀ p ∈ r.q, p) : Does P E hf ρ I o r.t r.d a w := by
  have hargs : VRs ρ hf I (args.toList.map ev) (args.map a.eval).toList := by rw [Array.toList_map]; exact VRs.map _ _ hev _
  have dn : ∀ {s : Sem Value}, builtin b ats o.type (args.map fun | .const _ => true | _ => false) (args.map a.eval) = (do pure (.value (← s))) → Yv P ρ hf I r s w → Does P E hf ρ I o r.t r.d a w := by
    rintro s hb ⟨h1, v, h2, h3⟩
    rw [h1]
    exact ⟨_, v, ρ, I, w, builtin_run ho hb h2, .inl rfl, MLe.refl _, HLe.refl _ _, hs, hx, h3⟩
  generalize hA : args.map a.eval = A at *
  generalize hL : args.toList.map ev = L at *
  generalize hT' : ats.toList = TS at *
  have hats : ats = ⟨TS⟩ := by rw [← hT']
  unfold aBuiltin at h
  split at h
  · rename_i t rest x
    obtain ⟨vx, e1, hvx⟩ := VRs_one hargs
    have hA' : A = #[vx] := Array.ext' e1
    have hk := (hT t).1
    refine dn (s := Builtin.len_ ats o.type A) rfl ?_
    rw [hats, hA']
    have hl1 : ∀ ty : TypeId, Builtin.len_ ⟨t :: rest⟩ ty #[vx] = Builtin.len_ #[t] ty #[vx] := fun ty => by simp [Builtin.len_]
    rw [hl1]
    split at h
    · rename_i n e hke; rw [hke] at hk
      obtain ⟨h1, h2, h3⟩ := ok_inv h
      rw [Yv, h1]; exact ⟨h2, _, by simp [Builtin.len_, run_underlying hk.1]; rfl, by simp [VR, goInt]⟩
    · rename_i hke; rw [hke] at hk
      split at h
      · rename_i l
        obtain ⟨h1, h2, h3⟩ := ok_inv h
        simp only [VR] at hvx; subst hvx
        rw [Yv, h1]; exact ⟨h2, _, by simp [Builtin.len_, run_underlying hk, size_mk]; rfl, by simp [VR, goInt]⟩
      · cases h
    · rename_i e hke; rw [hke] at hk
      exact len_ok hk.1 h hvx
    · rename_i e hke; rw [hke] at hk
      split at h
      · rename_i n e' hke'
        have hk' := (hT e).1
        rw [hke'] at hk'
        obtain ⟨h1, h2, h3⟩ := ok_inv h
        rw [Yv, h1]; exact ⟨h2, _, by simp [Builtin.len_, run_underlying hk, run_underlying hk'.1]; rfl, by simp [VR, goInt]⟩
      · cases h
    · cases h
  · rename_i t t2 d s
    obtain ⟨vd, vs, e1, hvd, hvs⟩ := VRs_two hargs
    have hA' : A = #[vd, vs] := Array.ext' e1
    have hk2 := (hT t2).1
    have key : ∀ d2, P.underlying t2 = some d2 → notInt d2 → aAppend C hf o.dst t d s = some r → Does P E hf ρ I o r.t r.d a w := by
      intro d2 hu2 hd2 h
      refine append_ok (t := t) (t2 := t2) (ty := o.type) hT hs hx hu2 hd2 (fun v w' hr => ?_) rfl h hq hvd hvs
      refine builtin_run ho ?_ hr
      rw [hA, hA', hats]; rfl
    split at h
    · rename_i e hke; rw [hke] at hk2; exact key _ hk2.1 (.inr ⟨_, rfl⟩) h
    · rename_i hke; rw [hke] at hk2; exact key _ hk2 (.inl rfl) h
    · cases h
  · rename_i k x l
    simp only [VRs] at hargs
    obtain ⟨v, rr, e1, hv, hl⟩ := hargs
    simp only [VR] at hv; subst hv
    split at h
    · rename_i z hz
      obtain ⟨h1, h2, h3⟩ := ok_inv h
      refine dn (s := Builtin.min_ ats o.type A) rfl ?_
      rw [Yv, h1]
      exact ⟨h2, _, by rw [Builtin.min_, e1]; exact minI_run hz hl, by simp [VR]⟩
    · cases h
  · rename_i k x l
    simp only [VRs] at hargs
    obtain ⟨v, rr, e1, hv, hl⟩ := hargs
    simp only [VR] at hv; subst hv
    split at h
    · rename_i z hz
      obtain ⟨h1, h2, h3⟩ := ok_inv h
      refine dn (s := Builtin.max_ ats o.type A) rfl ?_
      rw [Yv, h1]
      exact ⟨h2, _, by rw [Builtin.max_, e1]; exact maxI_run hz hl, by simp [VR]⟩
    · cases h
  · rename_i k x k' y
    obtain ⟨v1, v2, e1, hv1, hv2⟩ := VRs_two hargs
    have hA' : A = #[v1, v2] := Array.ext' e1
    simp only [VR] at hv1 hv2
    split at h
    · rename_i hb
      obtain rfl := fkN_inj (Nat.eq_of_beq_eq_true hb)
      obtain ⟨h1, h2, h3⟩ := ok_inv h
      refine dn (s := Builtin.complex_ ats o.type A) rfl ?_
      rw [Yv, h1, hA', hv1, hv2]
      exact ⟨h2, .complex k x y, by show Sem.run P (if k = k then pure (Value.complex k x y) else _) w = _; simp, by simp [VR]⟩
    · cases h
  · rename_i k x y
    obtain ⟨v1, e1, hv1⟩ := VRs_one hargs
    have hA' : A = #[v1] := Array.ext' e1
    simp only [VR] at hv1
    obtain ⟨h1, h2, h3⟩ := ok_inv h
    refine dn (s := Builtin.real_ ats o.type A) rfl ?_
    rw [Yv, h1, hA', hv1]
    exact ⟨h2, .float k x, rfl, by simp [VR]⟩
  · rename_i k x y
    obtain ⟨v1, e1, hv1⟩ := VRs_one hargs
    have hA' : A = #[v1] := Array.ext' e1
    simp only [VR] at hv1
    obtain ⟨h1, h2, h3⟩ := ok_inv h
    refine dn (s := Builtin.imag_ ats o.type A) rfl ?_
    rw [Yv, h1, hA', hv1]
    exact ⟨h2, .float k y, rfl, by simp [VR]⟩
  · cases h
end
end Go.Proofs.YtdiippegaidpkaaDoor.Vm
