/- The symbolic machine, part 14: every order; what the machine's function on regions has done. -/
import Derived.Test.YtdiippegaidpkaaDoorVm13
set_option linter.unusedVariables false
set_option linter.unusedSimpArgs false
set_option linter.unnecessarySimpa false
namespace Go.Proofs.YtdiippegaidpkaaDoor.Vm
open Go
theorem countP_set : ∀ (l : List Bool) (i : Nat), l[i]? = some false → ((l.set i true).countP (!·)) + 1 = l.countP (!·)
  | [], i, h => by simp at h
  | b :: l, 0, h => by simp at h; subst h; simp
  | b :: l, i + 1, h => by
    simp only [List.getElem?_cons_succ] at h
    have := countP_set l i h
    simp only [List.set_cons_succ, List.countP_cons]
    omega
theorem countP_zero : ∀ {l : List Bool}, l.countP (!·) = 0 → ∀ i, i < l.length → l[i]? = some true
  | [], _, i, h => by simp at h
  | b :: l, h, i, hi => by
    simp only [List.countP_cons] at h
    cases i with
    | zero => cases b with
      | true => rfl
      | false => simp at h
    | succ i => simpa using countP_zero (l := l) (by omega) i (by simpa using hi)
theorem countP_pos : ∀ {l : List Bool}, 0 < l.countP (!·) → ∃ i : Nat, l[i]? = some false ∧ ∀ j : Nat, j < i → l[j]? = some true
  | [], h => by simp at h
  | b :: l, h => by
    cases b with
    | false => exact ⟨0, rfl, by simp⟩
    | true =>
      simp only [List.countP_cons] at h
      obtain ⟨i, h1, h2⟩ := countP_pos (l := l) (by simpa using h)
      refine ⟨i + 1, by simpa using h1, fun j hj => ?_⟩
      cases j with
      | zero => rfl
      | succ j => simpa using h2 j (by omega)
/-- A region whose order is drawn: the text's own run tells what every order does. -/
theorem any_wp {P : Program} {C : Ctx} {E : Ent} {ops : Array Oper} {all : List Oper} {ds : Ds} {rs : List TRec} {s0 : AS} {Q : Exit → Act → World → Prop} (hT : TabOk P C) (hall : ops.toList = all) (hrs : rs.map TRec.o = all)
    (htr : Tr P C E.nt all rs s0) (hedge : ∀ i o, all[i]? = some o → ∀ e ∈ o.after.toList, Region.binds .any e = true → e.on < i)
    (hind : ∀ i r, rs[i]? = some r → ∀ j x, j < i → rs[j]? = some x → Indep ops x r ∨ ((nth (befores all []) i).getD 0).testBit j = true)
    (hsym : ∀ x r : TRec, Indep ops x r → Indep ops r x)
    (hQ : ∀ ρ' I' a' w', SR C E (applyR rs s0).1 (applyR rs s0).2 ds ρ' I' a' w' → Q .normal a' w') :
    ∀ (fuel : Nat) (listed : Array Bool) (ρ : Place) (I : Mem) (a : Act) (w : World), listed.size = ops.size → listed.toList.countP (!·) = fuel →
      (∀ i o, all[i]? = some o → listed.getD i false = true → ∀ e ∈ o.after.toList, Region.binds .any e = true → listed.getD e.on false = true) →
      SR C E (applyR (sel (fun k => listed.getD k false) rs 0) s0).1 (applyR (sel (fun k => listed.getD k false) rs 0) s0).2 ds ρ I a w →
      wpAny P .any ops Q fuel listed a w := by
  have hlen : rs.length = ops.size := by rw [← Array.length_toList, hall, ← hrs, List.length_map]
  have hgetD : ∀ (listed : Array Bool) (k : Nat), listed.size = ops.size → k < ops.size → ∀ b d, listed.toList[k]? = some b → listed.getD k d = b := by
    intro listed k hs hk b d h
    rw [Array.getElem?_toList] at h
    rw [Array.getD_eq_getD_getElem?, h]; rfl
  intro fuel
  induction fuel with
  | zero =>
    intro listed ρ I a w hs hc hcl sr
    have hlist : ∀ k, k < ops.size → listed.getD k false = true := fun k hk => hgetD listed k hs hk _ _ (countP_zero hc k (by rw [Array.length_toList, hs]; exact hk))
    refine ⟨?_, ?_⟩
    · refine List.eq_nil_iff_forall_not_mem.2 fun j hj => ?_
      obtain ⟨h1, o, h2, _⟩ := mem_ready.1 hj
      have hlt : j < ops.size := (Array.getElem?_eq_some_iff.1 h2).1
      have := hgetD listed j hs hlt true true (countP_zero hc j (by rw [Array.length_toList, hs]; exact hlt))
      rw [this] at h1; cases h1
    · rw [sel_all (fun j _ hj => hlist j (by rw [hlen] at hj; omega))] at sr
      exact hQ _ _ _ _ sr
  | succ fuel ih =>
    intro listed ρ I a w hs hc hcl sr
    refine ⟨fun hr => ?_, fun i hi => ?_⟩
    · exfalso
      obtain ⟨i, h1, h2⟩ := countP_pos (l := listed.toList) (by omega)
      have hlt : i < ops.size := by have := (List.getElem?_eq_some_iff.1 h1).1; rw [Array.length_toList] at this; omega
      have : i ∈ Region.ready .any ops listed := by
        refine mem_ready.2 ⟨hgetD listed i hs hlt _ _ h1, ops[i], by simp, fun e he hb => ?_⟩
        have hon : e.on < i := hedge i ops[i] (by rw [← hall]; simp) e (by simpa using he) hb
        exact hgetD listed e.on hs (by omega) _ _ (h2 _ hon)
      rw [hr] at this; cases this
    · obtain ⟨h1, o, h2, h3⟩ := mem_ready.1 hi
      have hlt : i < ops.size := (Array.getElem?_eq_some_iff.1 h2).1
      have hr : rs[i]? = some rs[i] := by simp
      have hro : rs[i].o = o := by
        have : all[i]? = some o := by rw [← hall, Array.getElem?_toList]; exact h2
        rw [← hrs, List.getElem?_map, hr] at this; simpa using this
      have hlf : listed.getD i false = false := by
        rw [Array.getD_eq_getD_getElem?] at h1 ⊢
        have : i < listed.size := by omega
        simp [this] at h1 ⊢; exact h1
      let L : Nat → Bool := fun k => listed.getD k false
      let L' : Nat → Bool := fun k => (listed.setIfInBounds i true).getD k false
      have hL' : ∀ k, L' k = if k = i then true else L k := by
        intro k
        show (listed.setIfInBounds i true).getD k false = _
        by_cases hk : k = i
        · subst hk; rw [if_pos rfl, Array.getD_eq_getD_getElem?]; have : k < listed.size := by omega
          simp [this]
        · rw [if_neg hk, getD_set_ne false (Ne.symm hk)]
      have hao : all[i]? = some o := by rw [← hall, Array.getElem?_toList]; exact h2
      have hready : ∀ e ∈ o.after.toList, Region.binds .any e = true → L e.on = true := fun e he hb => h3 e (by simpa using he) hb
      have hcl' : ∀ i o, all[i]? = some o → L i = true → ∀ e ∈ o.after.toList, Region.binds .any e = true → L e.on = true := hcl
      -- the text's run, cut at this operation
      have hcut : rs = rs.take i ++ rs[i] :: rs.drop (i + 1) := by
        rw [← List.drop_eq_getElem_cons (by omega), List.take_append_drop]
      have hst : StepAt P C E.nt all rs[i] (applyR (rs.take i) s0) := by
        rw [hcut] at htr; exact htr.at
      have hpre : ∀ j x, (rs.take i)[j]? = some x → L (0 + j) = false → Indep ops x rs[i] := by
        intro j x hj hl
        rw [List.getElem?_take] at hj
        split at hj
        · rename_i hji
          rcases hind i _ hr j x hji hj with h | h
          · exact h
          · have := bits_listed hedge hcl' i o hao hready j h
            rw [Nat.zero_add] at hl; rw [hl] at this; cases this
        · cases hj
      have hpost : ∀ x ∈ sel L (rs.drop (i + 1)) (i + 1), Indep ops rs[i] x := by
        intro x hx
        obtain ⟨j, hj, hl⟩ := mem_sel hx
        rw [List.getElem?_drop] at hj
        have hbig : all[i + 1 + j]? = some x.o := by rw [← hrs, List.getElem?_map, hj]; rfl
        rcases hind (i + 1 + j) x hj i _ (by omega) hr with h | h
        · exact h
        · have := bits_listed hedge hcl' (i + 1 + j) x.o hbig (fun e he hb => hcl _ _ hbig hl e he hb) i h
          rw [show L i = false from hlf] at this; cases this
      have hselL : sel L rs 0 = sel L (rs.take i) 0 ++ sel L (rs.drop (i + 1)) (i + 1) := by
        conv => lhs; rw [hcut]
        rw [sel_append]
        have e1 : (rs.take i).length = i := by rw [List.length_take]; omega
        rw [e1, Nat.zero_add]
        simp only [sel]
        rw [if_neg (by rw [show L i = false from hlf]; simp)]
      have hselL' : sel L' rs 0 = sel L (rs.take i) 0 ++ rs[i] :: sel L (rs.drop (i + 1)) (i + 1) := by
        conv => lhs; rw [hcut]
        rw [sel_append]
        have e1 : (rs.take i).length = i := by rw [List.length_take]; omega
        rw [e1, Nat.zero_add]
        simp only [sel]
        rw [if_pos (by rw [hL', if_pos rfl])]
        rw [sel_congr (L := L') (L' := L) fun j h1 h2 => by rw [hL', if_neg (by omega)], sel_congr (L := L') (L' := L) (a := rs.drop (i + 1)) fun j h1 h2 => by rw [hL', if_neg (by omega)]]
      have hag : Agree ops rs[i] (applyR (rs.take i) s0) (applyR (sel L rs 0) s0) := by
        rw [hselL, applyR_append]
        refine (agree_sel (rs.take i) 0 s0 s0 (Agree.refl _) hpre).trans ?_
        have := agree_post (r := rs[i]) (ops := ops) (sel L (rs.drop (i + 1)) (i + 1)) (applyR (sel L (rs.take i) 0) s0) hpost
        exact ⟨fun d hd => (this.1 d hd).symm, fun d hd => (this.2 d hd).symm⟩
      have hst' := hst.agree hall hag
      have happ : rs[i].app (applyR (sel L rs 0) s0) = applyR (sel L' rs 0) s0 := by
        rw [hselL, hselL', applyR_append, applyR_append]
        show _ = applyR (sel L (rs.drop (i + 1)) (i + 1)) (rs[i].app (applyR (sel L (rs.take i) 0) s0))
        rw [comm_post _ _ hpost]
      have hwp := step_wp (K := wpAny P .any ops Q fuel (listed.setIfInBounds i true)) (Q := Q) hT hall sr hst' fun ρ' I' a' w' sr' => by
        refine ih (listed.setIfInBounds i true) ρ' I' a' w' (by simpa using hs) ?_ ?_ ?_
        · have hlt' : i < listed.size := by omega
          have := countP_set listed.toList i (by
            rw [Array.getElem?_toList]
            rw [Array.getD_eq_getD_getElem?] at hlf
            simp [hlt'] at hlf ⊢; exact hlf)
          rw [Array.toList_setIfInBounds]; omega
        · intro k ok hk hlk e he hb
          have hk' : (if k = i then true else L k) = true := by rw [← hL']; exact hlk
          have : L e.on = true := by
            by_cases hki : k = i
            · subst hki; rw [hao] at hk; cases hk; exact hready e he hb
            · rw [if_neg hki] at hk'; exact hcl k ok hk hk' e he hb
          show L' e.on = true
          rw [hL', this]; simp
        · show SR C E (applyR (sel L' rs 0) s0).1 (applyR (sel L' rs 0) s0).2 ds ρ' I' a' w'
          rw [← happ]; exact sr'
      unfold wpOp
      rw [h2]
      simp only
      rw [hro] at hwp
      split
      · rename_i hw; rw [if_pos hw] at hwp; exact .inl hwp
      · rename_i hw; rw [if_neg hw] at hwp; exact hwp
theorem apart_symm {ops : Array Oper} {x y : Oper} (h : Oper.apart ops x y = true) : Oper.apart ops y x = true := by
  obtain ⟨a1, a2, a3⟩ := Oper.apart_spec h
  unfold Oper.apart
  cases hx : x.dst with
  | none =>
    cases hy : y.dst with
    | none => rfl
    | some e => simp; exact a3 e hy
  | some d =>
    cases hy : y.dst with
    | none => simp; exact a1 d hx
    | some e =>
      have h1 := a1 d hx
      have h2 := a2 d hx
      have h3 := a3 e hy
      rw [hy] at h2
      simp at h2
      simp [h1, h3]
      exact fun e' => h2 e'.symm
theorem meet_of {l m : List Nat} (h : ∀ x ∈ l, x ∉ m) : meet l m = false := by
  induction l with
  | nil => rfl
  | cons y l ih =>
    simp only [meet]
    cases hb : memb y m with
    | true => exact absurd (memb_eq.1 hb) (h y (by simp))
    | false => exact ih fun x hx => h x (by simp [hx])
theorem apartH_symm {x y : Rec} (h : apartH x y = true) : apartH y x = true := by
  obtain ⟨a1, a2, a3⟩ := apartH_spec h
  unfold apartH
  rw [meet_of a3, meet_of (fun i hi hm => a2 i hm hi), meet_of a1]
theorem Indep.symm {ops : Array Oper} {x y : TRec} (h : Indep ops x y) : Indep ops y x := ⟨apart_symm h.1, apartH_symm h.2⟩
/-- The drawn region, whole. -/
theorem draw_wp {P : Program} {C : Ctx} {E : Ent} {ops : Array Oper} {id : Nat} {ds : Ds} {rs : List TRec} {s0 : AS} {Q : Exit → Act → World → Prop} {ρ : Place} {I : Mem} {a : Act} {w : World} (hm : P.follows .mixedOrders = true)
    (hT : TabOk P C) (hrs : rs.map TRec.o = ops.toList) (htr : Tr P C E.nt ops.toList rs s0) (hst : rgOk ops = true) (hdy : chkAll (befores ops.toList []) (rs.reverse.map fun r => ⟨r.u, ids r.d⟩) = true)
    (sr : SR C E s0.1 s0.2 ds ρ I a w) (hQ : ∀ ρ' I' a' w', SR C E (applyR rs s0).1 (applyR rs s0).2 ds ρ' I' a' w' → Q .normal a' w') : (Code.region id ops true).wp P Q a w := by
  have hst' : rgOkFrom ops (befores ops.toList []) [] ops.toList 0 = true := both_inv hst
  have hsta := rgOkFrom_ok (ops := ops) (bs := befores ops.toList []) (l := ops.toList) (pre := []) hst'
  simp only [List.length_nil, Nat.zero_add, List.nil_append] at hsta
  refine wp_region_any hm (any_wp hT rfl hrs htr (fun i o ho => (hsta i o ho).1) (fun i r hr j x hj hx => ?_) (fun _ _ h => h.symm) hQ _ _ ρ I a _ (by simp) (by simp [List.countP_replicate]) ?_ ?_)
  · have hro : ops.toList[i]? = some r.o := by rw [← hrs, List.getElem?_map, hr]; rfl
    have hxo : ops.toList[j]? = some x.o := by rw [← hrs, List.getElem?_map, hx]; rfl
    have h1 := (hsta i r.o hro).2 j x.o hj hxo
    have h2 := chkAll_ok hdy i ⟨r.u, ids r.d⟩ (by rw [← List.map_reverse, List.reverse_reverse, List.getElem?_map, hr]; rfl) j ⟨x.u, ids x.d⟩ hj (by rw [← List.map_reverse, List.reverse_reverse, List.getElem?_map, hx]; rfl)
    rcases h1 with h1 | h1
    · rcases h2 with h2 | h2
      · exact .inl ⟨h1, h2⟩
      · exact .inr h2
    · exact .inr h1
  · intro i o ho hl
    simp [Array.getD_eq_getD_getElem?, Array.getElem?_replicate] at hl
    exact absurd hl (by split <;> simp)
  · have : sel (fun k => (Array.replicate ops.size false).getD k false) rs 0 = [] := by
      have : ∀ (l : List TRec) (k : Nat), sel (fun k => (Array.replicate ops.size false).getD k false) l k = [] := by
        intro l
        induction l with
        | nil => intro k; rfl
        | cons r l ih =>
          intro k
          simp only [sel]
          rw [if_neg (by simp [Array.getD_eq_getD_getElem?, Array.getElem?_replicate]; split <;> simp)]
          exact ih _
      exact this rs 0
    rw [this]
    exact ⟨sr.glob, sr.hs.drew, sr.ext.drew, sr.hle, sr.env, sr.sz, sr.dfs⟩
end Go.Proofs.YtdiippegaidpkaaDoor.Vm
