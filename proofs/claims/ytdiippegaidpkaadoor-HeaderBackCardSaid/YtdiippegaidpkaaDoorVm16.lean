/- The symbolic machine, part 16: the machine is right: what it tells of a function's code holds of Go's model. -/
import Derived.Test.YtdiippegaidpkaaDoorVm15
set_option linter.unusedVariables false
set_option linter.unusedSimpArgs false
set_option linter.unnecessarySimpa false
namespace Go.Proofs.YtdiippegaidpkaaDoor.Vm
open Go
/-- What must hold where a stack is entered by an exit. -/
def KK (P : Program) (Q : Exit → Act → World → Prop) : List Item → Exit → Act → World → Prop
  | [] => Q
  | .code c :: k => Exit.then (fun a w => c.wp P (KK P Q k) a w) (KK P Q k)
  | .blk id :: k => Exit.inBlock id (KK P Q k)
abbrev APost := Exit → Env → Heap → Ds → Prop
def Post (C : Ctx) (E : Ent) (Φ : APost) : Exit → Act → World → Prop := fun x a w => ∃ e h ds ρ I, SR C E (look e) (hlook h) ds ρ I a w ∧ Φ x e h ds
def kOk (k : List Item) : Prop := ∀ c, Item.code c ∈ k → cOk c = true
/-- From this abstract state on, the stack 'k' comes to an end of which 'Φ' holds. 'kp': the objects that the call was given. -/
def G (P : Program) (C : Ctx) (nt : Nat) (kp : List Nat) (Φ : APost) (k : List Item) (e : Env) (h : Heap) (ds : Ds) : Prop :=
  kOk k → ∀ E ρ I a w, E.nt = nt → (∀ id x, E.h0 id = some x → id ∈ kp) → SR C E (look e) (hlook h) ds ρ I a w → KK P (Post C E Φ) k .normal a w
def Fine (P : Program) (C : Ctx) (nt : Nat) (kp : List Nat) (Φ : APost) : Res → Prop
  | .cut k e h ds obs => Holds obs ∧ G P C nt kp Φ k e h ds
  | .fin x e h ds obs => Holds obs ∧ Φ x e h ds
  | .bad => False
section
variable {P : Program} {C : Ctx} {nt : Nat} {kp : List Nat} {Φ : APost}
theorem kOk.tail {i : Item} {k : List Item} (h : kOk (i :: k)) : kOk k := fun c hc => h c (List.mem_cons_of_mem _ hc)
theorem kOk.head {c : Code} {k : List Item} (h : kOk (.code c :: k)) : cOk c = true := h c (by simp)
theorem kOk.cons {c : Code} {k : List Item} (hc : cOk c = true) (h : kOk k) : kOk (.code c :: k) := fun d hd => by
  rcases List.mem_cons.1 hd with e | hd
  · cases e; exact hc
  · exact h d hd
theorem both_left {x y : Bool} (h : both x y = true) : x = true := by cases x <;> simp_all [both]
theorem KK_ret {Q : Exit → Act → World → Prop} : ∀ {k : List Item} {a : Act} {w : World}, Q .ret a w → KK P Q k .ret a w
  | [], _, _, h => h
  | .code c :: k, _, _, h => KK_ret (k := k) h
  | .blk id :: k, _, _, h => KK_ret (k := k) h
theorem KK_goto {Q : Exit → Act → World → Prop} {l : Nat} : ∀ {k : List Item} {a : Act} {w : World}, Q (.goto l) a w → KK P Q k (.goto l) a w
  | [], _, _, h => h
  | .code c :: k, _, _, h => KK_goto (k := k) h
  | .blk id :: k, _, _, h => KK_goto (k := k) h
theorem KK_exit {Q : Exit → Act → World → Prop} {id : Nat} : ∀ {k k' : List Item} {a : Act} {w : World}, unwind id k = some k' → KK P Q k' .normal a w → KK P Q k (.exit id) a w
  | [], _, _, _, h, _ => by simp [unwind] at h
  | .code c :: k, _, _, _, h, hk => KK_exit (k := k) (by simpa [unwind] using h) hk
  | .blk j :: k, k', a, w, h, hk => by
    simp only [unwind] at h
    show Exit.inBlock j (KK P Q k) (.exit id) a w
    simp only [Exit.inBlock]
    cases hb : Nat.beq j id with
    | true =>
      rw [hb] at h
      obtain rfl := Nat.eq_of_beq_eq_true hb
      simp only [Option.some.injEq] at h; subst h
      rw [if_pos rfl]; exact hk
    | false =>
      rw [hb] at h
      rw [if_neg (fun e => by subst e; simp at hb)]
      exact KK_exit h hk
theorem KK_exit_none {Q : Exit → Act → World → Prop} {id : Nat} : ∀ {k : List Item} {a : Act} {w : World}, unwind id k = none → Q (.exit id) a w → KK P Q k (.exit id) a w
  | [], _, _, _, hq => hq
  | .code c :: k, _, _, h, hq => KK_exit_none (k := k) (by simpa [unwind] using h) hq
  | .blk j :: k, a, w, h, hq => by
    simp only [unwind] at h
    show Exit.inBlock j (KK P Q k) (.exit id) a w
    simp only [Exit.inBlock]
    cases hb : Nat.beq j id with
    | true => rw [hb] at h; simp at h
    | false =>
      rw [hb] at h
      rw [if_neg (fun e => by subst e; simp at hb)]
      exact KK_exit_none h hq
theorem unwind_ok {id : Nat} : ∀ {k k' : List Item}, unwind id k = some k' → kOk k → kOk k'
  | [], _, h, _ => by simp [unwind] at h
  | .code c :: k, _, h, hk => unwind_ok (k := k) (by simpa [unwind] using h) hk.tail
  | .blk j :: k, k', h, hk => by
    simp only [unwind] at h
    cases hb : Nat.beq j id with
    | true => rw [hb] at h; simp only [Option.some.injEq] at h; subst h; exact hk.tail
    | false => rw [hb] at h; exact unwind_ok h hk.tail
theorem chkOne_apart {b : Nat} {r : Rec} : ∀ {l : List Rec} {n : Nat}, apartOne r l = true → chkOne b r l n = true
  | [], _, _ => rfl
  | s :: l, n, h => by
    simp only [apartOne] at h
    simp only [chkOne]
    cases ha : apartH s r with
    | true => rw [ha] at h; exact chkOne_apart h
    | false => rw [ha] at h; simp at h
theorem chkAll_apart {b : List Nat} : ∀ {l : List Rec}, apartAll l = true → l.length ≤ b.length → chkAll b l = true
  | [], _, _ => rfl
  | r :: l, h, hl => by
    simp only [apartAll] at h
    cases ha : apartOne r l with
    | false => rw [ha] at h; simp at h
    | true =>
      rw [ha] at h
      simp only [chkAll]
      have hlt : l.length < b.length := by simp at hl; omega
      rw [nth_eq, List.getElem?_eq_getElem hlt]
      simp only [chkOne_apart ha]
      exact chkAll_apart h (by omega)
theorem run_fine (hT : TabOk P C) (hm : P.follows .mixedOrders = true) : ∀ (n : Nat) (k : List Item) (e : Env) (h : Heap) (ds : Ds) (ors : List Or) (obs : List Prop),
    Fine P C nt kp Φ (run P C nt n k e h ds ors obs) → Holds obs ∧ G P C nt kp Φ k e h ds
  | 0, k, e, h, ds, ors, obs, hf => by simp only [run] at hf; exact hf
  | n + 1, [], e, h, ds, ors, obs, hf => by
    simp only [run] at hf
    exact ⟨hf.1, fun _ E ρ I a w _ _ sr => ⟨e, h, ds, ρ, I, sr, hf.2⟩⟩
  | n + 1, .blk id :: k, e, h, ds, ors, obs, hf => by
    simp only [run] at hf
    obtain ⟨h1, h2⟩ := run_fine hT hm n k e h ds ors obs hf
    exact ⟨h1, fun hk E ρ I a w hE hp sr => h2 hk.tail E ρ I a w hE hp sr⟩
  | n + 1, .code c :: k, e, h, ds, ors, obs, hf => by
    cases c with
    | skip =>
      simp only [run] at hf
      obtain ⟨h1, h2⟩ := run_fine hT hm n k e h ds ors obs hf
      exact ⟨h1, fun hk E ρ I a w hE hp sr => wp_skip (h2 hk.tail E ρ I a w hE hp sr)⟩
    | label l =>
      simp only [run] at hf
      obtain ⟨h1, h2⟩ := run_fine hT hm n k e h ds ors obs hf
      exact ⟨h1, fun hk E ρ I a w hE hp sr => wp_label (h2 hk.tail E ρ I a w hE hp sr)⟩
    | seq x y =>
      simp only [run] at hf
      obtain ⟨h1, h2⟩ := run_fine hT hm n _ e h ds ors obs hf
      refine ⟨h1, fun hk E ρ I a w hE hp sr => wp_seq (h2 (kOk.cons ?_ (kOk.cons ?_ hk.tail)) E ρ I a w hE hp sr)⟩
      · exact both_left hk.head
      · exact both_inv hk.head
    | region id ops draw =>
      cases draw with
      | false =>
        simp only [run] at hf
        have hK : ∀ e h ors obs (rs : List Rec), Fine P C nt kp Φ (run P C nt n k e h ds ors obs) → Holds obs := fun e h ors obs _ hh => (run_fine hT hm n k e h ds ors obs hh).1
        rcases rops_done (Fine := Fine P C nt kp Φ) (K := fun e h ors obs _ => run P C nt n k e h ds ors obs) (fun hb => hb) hK ops.toList e h [] ors obs [] (KInv.nil _ _) hf with h0 | ⟨hob, trs, e', h', ors', obs', a1, a2, a3, a4⟩
        · exact h0
        · refine ⟨hob, fun hk E ρ I a w hE hp sr => ?_⟩
          obtain ⟨_, g⟩ := run_fine hT hm n k e' h' ds ors' obs' a4
          subst hE
          have := text_wp (ds := ds) (Q := KK P (Post C E Φ) k) (ops := ops) hT rfl trs (look e, hlook h) ρ I a w a2 sr (fun ρ' I' a' w' sr' => by
            rw [a3] at sr'; exact g hk.tail E ρ' I' a' w' rfl hp sr')
          rw [a1] at this
          exact wp_region_list this
      | true =>
        simp only [run] at hf
        have hK : ∀ e h ors obs (rs : List Rec), Fine P C nt kp Φ (match apartAll rs with | true => run P C nt n k e h ds ors obs | false => run P C nt n k e h ds ors ((chkAll (befores ops.toList []) rs = true) :: obs)) → Holds obs := fun e h ors obs rs hh => by
          split at hh
          · exact (run_fine hT hm n k e h ds ors obs hh).1
          · exact fun p hp => (run_fine hT hm n k e h ds ors _ hh).1 p (by simp [hp])
        rcases rops_done (Fine := Fine P C nt kp Φ) (K := fun e h ors obs rs => match apartAll rs with | true => run P C nt n k e h ds ors obs | false => run P C nt n k e h ds ors ((chkAll (befores ops.toList []) rs = true) :: obs)) (fun hb => hb) hK ops.toList e h [] ors obs [] (KInv.nil _ _) hf with h0 | ⟨hob, trs, e', h', ors', obs', a1, a2, a3, a4⟩
        · exact h0
        · refine ⟨hob, fun hk E ρ I a w hE hp sr => ?_⟩
          simp only at a4
          have key : ∀ obs2, chkAll (befores ops.toList []) (trs.reverse.map recOf) = true → Fine P C nt kp Φ (run P C nt n k e' h' ds ors' obs2) → KK P (Post C E Φ) (.code (.region id ops true) :: k) .normal a w := fun obs2 hchk a4 => by
            obtain ⟨_, g⟩ := run_fine hT hm n k e' h' ds ors' obs2 a4
            subst hE
            refine draw_wp hm hT a1 a2 hk.head ?_ sr fun ρ' I' a' w' sr' => ?_
            · have e1 : recOf = fun r => (⟨r.u, ids r.d⟩ : Rec) := rfl
              rw [← e1]; exact hchk
            · rw [a3] at sr'; exact g hk.tail E ρ' I' a' w' rfl hp sr'
          split at a4
          · rename_i hap
            refine key _ (chkAll_apart (by simpa using hap) ?_) a4
            have l1 := congrArg List.length a1
            obtain ⟨B, hB, hBl, _⟩ := befores_spec ops.toList []
            have l2 : ops.toList.length = ops.size := Array.length_toList
            rw [hB]; simp at l1 ⊢; omega
          · have h1 := (run_fine hT hm n k e' h' ds ors' _ a4).1 _ (List.mem_cons_self ..)
            exact key _ (by simpa using h1) a4
    | cond c x y =>
      simp only [run] at hf
      have hc : ∀ {E : Ent} {ρ : Place} {I : Mem} {a : Act} {w : World}, SR C E (look e) (hlook h) ds ρ I a w → VR ρ (hlook h) I (opd C e c) (a.eval c) := fun sr => by rw [opd_look]; exact VR_opd sr c
      split at hf
      · rename_i hcv
        obtain ⟨h1, h2⟩ := run_fine hT hm n _ e h ds _ obs hf
        refine ⟨h1, fun hk E ρ I a w hE hp sr => ?_⟩
        have := hc sr; rw [hcv] at this; simp only [VR] at this
        exact wp_cond this (h2 (kOk.cons (both_left hk.head) hk.tail) E ρ I a w hE hp sr)
      · rename_i hcv
        obtain ⟨h1, h2⟩ := run_fine hT hm n _ e h ds _ obs hf
        refine ⟨h1, fun hk E ρ I a w hE hp sr => ?_⟩
        have := hc sr; rw [hcv] at this; simp only [VR] at this
        exact wp_cond this (h2 (kOk.cons (both_inv hk.head) hk.tail) E ρ I a w hE hp sr)
      · rename_i z ors' hcv
        obtain ⟨h1, h2⟩ := run_fine hT hm n _ e h ds _ _ hf
        refine ⟨fun p hp => h1 p (by simp [hp]), fun hk E ρ I a w hE hp sr => ?_⟩
        have := hc sr; rw [hcv] at this; simp only [VR] at this
        rw [show z = true from h1 _ (by simp)] at this
        exact wp_cond this (h2 (kOk.cons (both_left hk.head) hk.tail) E ρ I a w hE hp sr)
      · rename_i z ors' hcv
        obtain ⟨h1, h2⟩ := run_fine hT hm n _ e h ds _ _ hf
        refine ⟨fun p hp => h1 p (by simp [hp]), fun hk E ρ I a w hE hp sr => ?_⟩
        have := hc sr; rw [hcv] at this; simp only [VR] at this
        rw [show z = false from h1 _ (by simp)] at this
        exact wp_cond this (h2 (kOk.cons (both_inv hk.head) hk.tail) E ρ I a w hE hp sr)
      · exact hf
    | block id c =>
      simp only [run] at hf
      obtain ⟨h1, h2⟩ := run_fine hT hm n _ e h ds ors obs hf
      refine ⟨h1, fun hk E ρ I a w hE hp sr => wp_block (h2 (kOk.cons hk.head fun d hd => ?_) E ρ I a w hE hp sr)⟩
      rcases List.mem_cons.1 hd with e | hd
      · cases e
      · exact hk.tail d hd
    | exit id =>
      simp only [run] at hf
      split at hf
      · rename_i k' hu
        obtain ⟨h1, h2⟩ := run_fine hT hm n _ e h ds ors obs hf
        exact ⟨h1, fun hk E ρ I a w hE hp sr => wp_exit (KK_exit hu (h2 (unwind_ok hu hk.tail) E ρ I a w hE hp sr))⟩
      · rename_i hu
        exact ⟨hf.1, fun hk E ρ I a w hE hp sr => wp_exit (KK_exit_none hu ⟨e, h, ds, ρ, I, sr, hf.2⟩)⟩
    | goto l =>
      simp only [run] at hf
      exact ⟨hf.1, fun hk E ρ I a w hE hp sr => wp_goto (KK_goto ⟨e, h, ds, ρ, I, sr, hf.2⟩)⟩
    | ret =>
      simp only [run] at hf
      exact ⟨hf.1, fun hk E ρ I a w hE hp sr => wp_ret (KK_ret ⟨e, h, ds, ρ, I, sr, hf.2⟩)⟩
    | loop c => simp only [run] at hf; exact hf
    | scope c => simp only [run] at hf; exact hf
    | rangeFunc f ps x y => simp only [run] at hf; exact hf
    | refuse why => simp only [run] at hf; exact hf

/-! ### The rules -/
/-- All that is to be shown, first things first. -/
@[reducible] def AllR : List Prop → Prop → Prop
  | [], q => q
  | p :: l, q => AllR l (p ∧ q)
theorem AllR_holds : ∀ {l : List Prop} {q : Prop}, AllR l q → Holds l ∧ q
  | [], q, h => ⟨fun p hp => by simp at hp, h⟩
  | p :: l, q, h => by
    obtain ⟨h1, h2, h3⟩ := AllR_holds (l := l) h
    exact ⟨fun x hx => by rcases List.mem_cons.1 hx with rfl | hx; exact h2; exact h1 x hx, h3⟩
/-- The machine, up to where it stops. -/
theorem g_run {k k' : List Item} {e e' : Env} {h h' : Heap} {ds ds' : Ds} {obs : List Prop} (hT : TabOk P C) (hm : P.follows .mixedOrders = true) (n : Nat) (ors : List Or)
    (hr : run P C nt n k e h ds ors [] = .cut k' e' h' ds' obs) (ho : AllR obs True) (g : G P C nt kp Φ k' e' h' ds') : G P C nt kp Φ k e h ds :=
  (run_fine hT hm n k e h ds ors [] (by rw [hr]; exact ⟨(AllR_holds ho).1, g⟩)).2
/-- The machine, to the end. -/
theorem g_fin {k : List Item} {x : Exit} {e e' : Env} {h h' : Heap} {ds ds' : Ds} {obs : List Prop} (hT : TabOk P C) (hm : P.follows .mixedOrders = true) (n : Nat) (ors : List Or)
    (hr : run P C nt n k e h ds ors [] = .fin x e' h' ds' obs) (ho : AllR obs True) (g : Φ x e' h' ds') : G P C nt kp Φ k e h ds :=
  (run_fine hT hm n k e h ds ors [] (by rw [hr]; exact ⟨(AllR_holds ho).1, g⟩)).2
end
end Go.Proofs.YtdiippegaidpkaaDoor.Vm
