/- The symbolic machine, part 15: the function 'rops' is right. -/
import Derived.Test.YtdiippegaidpkaaDoorVm14
set_option linter.unusedVariables false
set_option linter.unusedSimpArgs false
set_option linter.unnecessarySimpa false
namespace Go.Proofs.YtdiippegaidpkaaDoor.Vm
open Go
abbrev Holds (obs : List Prop) : Prop := ∀ p ∈ obs, p
def KInv (kn : Known) (obs : List Prop) (e : Env) : Prop := ∀ d g, klook kn d = some g → ∃ x, look e d = .b x ∧ (Holds obs → x = g)
theorem klook_kdel {d d' : Nat} {g : Bool} : ∀ {kn : Known}, klook (kdel d kn) d' = some g → d' ≠ d ∧ klook kn d' = some g
  | [], h => by simp [kdel, klook] at h
  | (m, b) :: kn, h => by
    simp only [kdel] at h
    cases hb : Nat.beq m d with
    | true =>
      rw [hb] at h
      obtain ⟨h1, h2⟩ := klook_kdel h
      obtain rfl := Nat.eq_of_beq_eq_true hb
      refine ⟨h1, ?_⟩
      simp only [klook]
      cases hc : Nat.beq m d' with
      | true => exact absurd (Nat.eq_of_beq_eq_true hc).symm h1
      | false => exact h2
    | false =>
      rw [hb] at h
      simp only [klook] at h ⊢
      cases hc : Nat.beq m d' with
      | true =>
        rw [hc] at h
        obtain rfl := Nat.eq_of_beq_eq_true hc
        refine ⟨fun e => ?_, h⟩
        subst e; simp at hb
      | false => rw [hc] at h; exact klook_kdel h
theorem KInv.put {kn : Known} {obs : List Prop} {e : Env} (h : KInv kn obs e) (d : Nat) (t : T) : KInv (kdel d kn) obs ((d, t) :: e) := by
  intro d' g hk
  obtain ⟨h1, h2⟩ := klook_kdel hk
  obtain ⟨x, h3, h4⟩ := h d' g h2
  refine ⟨x, ?_, h4⟩
  rw [look_cons]; simp only [updF]; rw [if_neg (Ne.symm h1)]; exact h3
theorem KInv.more {kn : Known} {obs obs' : List Prop} {e : Env} (h : KInv kn obs e) (ho : Holds obs' → Holds obs) : KInv kn obs' e := fun d g hk => by
  obtain ⟨x, h1, h2⟩ := h d g hk
  exact ⟨x, h1, fun h => h2 (ho h)⟩
theorem KInv.nil (obs : List Prop) (e : Env) : KInv [] obs e := fun d g h => by simp [klook] at h
theorem guard_yes {all : List Oper} {o : Oper} {e : Env} (h : guardOf all o e = .yes) : GuardIs all o (look e) true := by
  unfold guardOf at h
  unfold GuardIs
  split at h
  · rename_i hg; rw [hg]
  · rename_i j want hg; rw [hg]
    simp only
    split at h
    · rename_i oj hj
      split at h
      · rename_i d hd
        split at h
        · rename_i g hl
          split at h
          · rename_i hb
            exact ⟨oj, d, by rw [← nth_eq]; exact hj, hd, .inl ⟨g, .inl hl, by rw [beqB_eq hb]; simp⟩⟩
          · cases h
        · cases h
        · cases h
        · cases h
      · cases h
    · cases h
theorem beqB_false {x y : Bool} (h : beqB x y = false) : (x == y) = false := by cases x <;> cases y <;> simp_all [beqB]
theorem guard_no {all : List Oper} {o : Oper} {e : Env} (h : guardOf all o e = .no) : GuardIs all o (look e) false := by
  unfold guardOf at h
  unfold GuardIs
  split at h
  · cases h
  · rename_i j want hg; rw [hg]
    simp only
    split at h
    · rename_i oj hj
      split at h
      · rename_i d hd
        split at h
        · rename_i g hl
          split at h
          · cases h
          · rename_i hb
            exact ⟨oj, d, by rw [← nth_eq]; exact hj, hd, .inl ⟨g, .inl hl, (beqB_false hb).symm⟩⟩
        · cases h
        · rename_i hl
          exact ⟨oj, d, by rw [← nth_eq]; exact hj, hd, .inr ⟨hl, trivial⟩⟩
        · cases h
      · cases h
    · cases h
theorem guard_sym {all : List Oper} {o : Oper} {e : Env} {d : Nat} {x want : Bool} (h : guardOf all o e = .sym d x want) : look e d = .b x ∧ ∀ b, b = (x == want) → GuardIs all o (look e) b := by
  unfold guardOf at h
  unfold GuardIs
  split at h
  · cases h
  · rename_i j want' hg; rw [hg]
    simp only
    split at h
    · rename_i oj hj
      split at h
      · rename_i d' hd
        split at h
        · split at h <;> cases h
        · rename_i y hl
          simp only [GD.sym.injEq] at h
          obtain ⟨rfl, rfl, rfl⟩ := h
          exact ⟨hl, fun b hb => ⟨oj, d', by rw [← nth_eq]; exact hj, hd, .inl ⟨y, .inr hl, hb⟩⟩⟩
        · cases h
        · cases h
      · cases h
    · cases h
def recOf (r : TRec) : Rec := ⟨r.u, ids r.d⟩
theorem opd_look (C : Ctx) (e : Env) : opd C e = opdF C (look e) := by funext x; cases x <;> rfl
/-- What the rest of a region has done. -/
def Done (P : Program) (C : Ctx) (nt : Nat) (all : List Oper) (Fine : Res → Prop) (K : Env → Heap → List Or → List Prop → List Rec → Res) (rest : List Oper) (e : Env) (h : Heap) (obs : List Prop) (rs : List Rec) : Prop :=
  Holds obs ∧ ∃ trs e' h' ors' obs', trs.map TRec.o = rest ∧ Tr P C nt all trs (look e, hlook h) ∧ applyR trs (look e, hlook h) = (look e', hlook h') ∧ Fine (K e' h' ors' obs' (trs.reverse.map recOf ++ rs))
theorem Done.cons {P : Program} {C : Ctx} {nt : Nat} {all : List Oper} {Fine : Res → Prop} {K : Env → Heap → List Or → List Prop → List Rec → Res} {rest : List Oper} {e e1 : Env} {h h1 : Heap} {obs obs1 : List Prop} {rs : List Rec}
    (r : TRec) (hobs : Holds obs1 → Holds obs) (hst : Holds obs1 → StepAt P C nt all r (look e, hlook h)) (he : r.app (look e, hlook h) = (look e1, hlook h1))
    (hd : Done P C nt all Fine K rest e1 h1 obs1 (recOf r :: rs)) : Done P C nt all Fine K (r.o :: rest) e h obs rs := by
  obtain ⟨ho, trs, e', h', ors', obs', a1, a2, a3, a4⟩ := hd
  refine ⟨hobs ho, r :: trs, e', h', ors', obs', by simp [a1], ⟨hst ho, by rw [he]; exact a2⟩, ?_, ?_⟩
  · show applyR trs (r.app (look e, hlook h)) = _
    rw [he]; exact a3
  · simpa using a4
theorem rops_done {P : Program} {C : Ctx} {nt : Nat} {all : List Oper} {r0 : Res} {Fine : Res → Prop} {K : Env → Heap → List Or → List Prop → List Rec → Res} (hbad : ¬ Fine .bad)
    (hK : ∀ e h ors obs rs, Fine (K e h ors obs rs) → Holds obs) :
    ∀ (rest : List Oper) (e : Env) (h : Heap) (kn : Known) (ors : List Or) (obs : List Prop) (rs : List Rec), KInv kn obs e → Fine (rops P C nt all r0 rest e h kn ors obs rs K) →
    Fine r0 ∨ Done P C nt all Fine K rest e h obs rs
  | [], e, h, kn, ors, obs, rs, _, hf => by
    simp only [rops] at hf
    exact .inr ⟨hK _ _ _ _ _ hf, [], e, h, ors, obs, rfl, trivial, rfl, by simpa using hf⟩
  | o :: rest, e, h, kn, ors, obs, rs, hkn, hf => by
    have hskip : ∀ (kn : Known) (ors : List Or) (obs1 : List Prop), KInv kn obs1 e → (Holds obs1 → Holds obs) → (Holds obs1 → GuardIs all o (look e) false) →
        Fine (match o.dst with
          | some d => match Nat.blt d nt with
            | true => rops P C nt all r0 rest ((d, .tup []) :: e) h (kdel d kn) ors obs1 (⟨[], []⟩ :: rs) K
            | false => .bad
          | none => rops P C nt all r0 rest e h kn ors obs1 (⟨[], []⟩ :: rs) K) → Fine r0 ∨ Done P C nt all Fine K (o :: rest) e h obs rs := by
      intro kn ors obs1 hkn ho hg hf
      cases hd : o.dst with
      | none =>
        rw [hd] at hf
        simp only at hf
        refine (rops_done hbad hK rest e h kn ors obs1 _ hkn hf).imp id fun hh => ?_
        refine Done.cons ⟨o, false, .tup [], [], []⟩ ho (fun hob => ⟨fun d e => (by rw [hd] at e; cases e), hg hob, fun e => (by simp at e), fun _ => ⟨rfl, rfl, rfl⟩⟩) ?_ hh
        simp [TRec.app, updF, hd, updH_nil]
      | some d =>
        rw [hd] at hf
        simp only at hf
        cases hb : Nat.blt d nt with
        | false => rw [hb] at hf; exact absurd hf hbad
        | true =>
          rw [hb] at hf
          refine (rops_done hbad hK rest _ h _ ors obs1 _ (hkn.put d (.tup [])) hf).imp id fun hh => ?_
          refine Done.cons ⟨o, false, .tup [], [], []⟩ ho (fun hob => ⟨fun d' e => (by rw [hd] at e; cases e; exact Nat.le_of_ble_eq_true hb), hg hob, fun e => (by simp at e), fun _ => ⟨rfl, rfl, rfl⟩⟩) ?_ hh
          simp only [TRec.app, hd, look_cons, updH_nil]
    have hexec : ∀ (kn : Known) (ors : List Or) (obs1 : List Prop), KInv kn obs1 e → (Holds obs1 → Holds obs) → (Holds obs1 → GuardIs all o (look e) true) →
        Fine (match orOf C o (opd C e) (hlook h) kn ors with
          | none => r0
          | some (or, ors) => match aop P C o (opd C e) (hlook h) or with
            | none => .bad
            | some ⟨t, d, u, q⟩ => pushAll q obs1 fun obs => pushAll d h fun h' => match o.dst with
              | some s => match Nat.blt s nt with
                | true => force t fun t => rops P C nt all r0 rest ((s, t) :: e) h' (kdel s kn) ors obs (⟨u, ids d⟩ :: rs) K
                | false => .bad
              | none => rops P C nt all r0 rest e h' kn ors obs (⟨u, ids d⟩ :: rs) K) → Fine r0 ∨ Done P C nt all Fine K (o :: rest) e h obs rs := by
      intro kn ors obs1 hkn ho hg hf
      split at hf
      · exact .inl hf
      · rename_i or ors' hor
        split at hf
        · exact absurd hf hbad
        · rename_i t d u q hop
          simp only [pushAll_eq] at hf
          have hq1 : Holds (q ++ obs1) → Holds obs1 := fun hh p hp => hh p (List.mem_append_right _ hp)
          have hq2 : Holds (q ++ obs1) → Holds q := fun hh p hp => hh p (List.mem_append_left _ hp)
          cases hd : o.dst with
          | none =>
            rw [hd] at hf
            simp only at hf
            refine (rops_done hbad hK rest e (d ++ h) kn ors' (q ++ obs1) _ (hkn.more hq1) hf).imp id fun hh => ?_
            refine Done.cons ⟨o, true, t, d, u⟩ (fun hh => ho (hq1 hh)) (fun hob => ⟨fun d e => (by rw [hd] at e; cases e), hg (hq1 hob), fun _ => ⟨or, q, by rw [← opd_look]; exact hop, hq2 hob⟩, fun e => (by simp at e)⟩) ?_ hh
            simp [TRec.app, updF, hd, hlook_append]
          | some s =>
            rw [hd] at hf
            simp only at hf
            cases hb : Nat.blt s nt with
            | false => rw [hb] at hf; exact absurd hf hbad
            | true =>
              rw [hb] at hf
              simp only [force_eq] at hf
              refine (rops_done hbad hK rest _ (d ++ h) _ ors' (q ++ obs1) _ ((hkn.put s t).more hq1) hf).imp id fun hh => ?_
              refine Done.cons ⟨o, true, t, d, u⟩ (fun hh => ho (hq1 hh)) (fun hob => ⟨fun d' e => (by rw [hd] at e; cases e; exact Nat.le_of_ble_eq_true hb), hg (hq1 hob), fun _ => ⟨or, q, by rw [← opd_look]; exact hop, hq2 hob⟩, fun e => (by simp at e)⟩) ?_ hh
              simp only [TRec.app, hd, look_cons, hlook_append]
    simp only [rops] at hf
    split at hf
    · rename_i hg
      exact hexec kn ors obs hkn id (fun _ => guard_yes hg) hf
    · rename_i hg
      exact hskip kn ors obs hkn id (fun _ => guard_no hg) hf
    · rename_i d x want hg
      obtain ⟨hx, hgd⟩ := guard_sym hg
      have hnew : ∀ b : Bool, KInv ((d, b) :: kn) ((x = b) :: obs) e := by
        intro b d' g hk
        simp only [klook] at hk
        cases hb : Nat.beq d d' with
        | true =>
          rw [hb] at hk
          obtain rfl := Nat.eq_of_beq_eq_true hb
          simp only [Option.some.injEq] at hk; subst hk
          exact ⟨x, hx, fun hh => hh _ (by simp)⟩
        | false =>
          rw [hb] at hk
          obtain ⟨y, h1, h2⟩ := hkn d' g hk
          exact ⟨y, h1, fun hh => h2 fun p hp => hh p (by simp [hp])⟩
      have hmore : ∀ b : Bool, Holds ((x = b) :: obs) → Holds obs := fun b hh p hp => hh p (by simp [hp])
      split at hf
      · rename_i g hk
        obtain ⟨y, h1, h2⟩ := hkn d g hk
        rw [hx] at h1; simp only [T.b.injEq] at h1; subst h1
        split at hf
        · rename_i hb
          exact hexec kn _ obs hkn id (fun hh => hgd true (by rw [h2 hh, beqB_eq hb]; simp)) hf
        · rename_i hb
          exact hskip kn _ obs hkn id (fun hh => hgd false (by rw [h2 hh, beqB_false hb])) hf
      · split at hf
        · exact hexec _ _ _ (hnew true) (hmore true) (fun hh => hgd true (by rw [show x = true from hh _ (by simp)]; rfl)) hf
        · exact hskip _ _ _ (hnew true) (hmore true) (fun hh => hgd false (by rw [show x = true from hh _ (by simp)]; rfl)) hf
      · split at hf
        · exact hexec _ _ _ (hnew false) (hmore false) (fun hh => hgd true (by rw [show x = false from hh _ (by simp)]; rfl)) hf
        · exact hskip _ _ _ (hnew false) (hmore false) (fun hh => hgd false (by rw [show x = false from hh _ (by simp)]; rfl)) hf
      · exact .inl hf
    · exact absurd hf hbad
end Go.Proofs.YtdiippegaidpkaaDoor.Vm
