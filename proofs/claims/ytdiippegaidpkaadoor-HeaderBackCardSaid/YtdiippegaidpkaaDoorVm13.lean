/- The symbolic machine, part 13: a region whose order is drawn. -/
import Derived.Test.YtdiippegaidpkaaDoorVm12
set_option linter.unusedVariables false
set_option linter.unusedSimpArgs false
set_option linter.unnecessarySimpa false
namespace Go.Proofs.YtdiippegaidpkaaDoor.Vm
open Go
theorem looks_op {ops : Array Oper} {o : Oper} {d : Nat} (h : Operand.tmp d ∈ o.op.operands) : d ∈ o.looksAt ops := by
  unfold Oper.looksAt
  refine List.mem_append_left _ (List.mem_filterMap.2 ⟨.tmp d, by simpa using h, rfl⟩)
theorem looks_guard {ops : Array Oper} {o oj : Oper} {j d : Nat} {want : Bool} (hg : o.guard = some (j, want)) (hj : ops[j]? = some oj) (hd : oj.dst = some d) : d ∈ o.looksAt ops := by
  unfold Oper.looksAt
  refine List.mem_append_right _ ?_
  rw [hg]; simp [hj, hd]
section
variable {P : Program} {C : Ctx} {nt : Nat} {all : List Oper} {ops : Array Oper}
theorem StepAt.agree {r : TRec} {s s' : AS} (hall : ops.toList = all) (h : StepAt P C nt all r s) (ha : Agree ops r s s') : StepAt P C nt all r s' := by
  obtain ⟨h1, h2, h3, h4⟩ := h
  refine ⟨h1, ?_, fun hex => ?_, h4⟩
  · unfold GuardIs at h2 ⊢
    cases hg : r.o.guard with
    | none => rw [hg] at h2; exact h2
    | some x =>
      obtain ⟨j, want⟩ := x
      rw [hg] at h2
      simp only at h2 ⊢
      obtain ⟨oj, d, e1, e2, e3⟩ := h2
      have hd := ha.1 d (looks_guard hg (by rw [← Array.getElem?_toList, hall]; exact e1) e2)
      exact ⟨oj, d, e1, e2, by rw [← hd]; exact e3⟩
  · obtain ⟨or, q, e1, e2⟩ := h3 hex
    refine ⟨or, q, aop_ag e1 (fun x hx => ?_) (fun i hi => ha.2 i hi), e2⟩
    cases x with
    | tmp d => exact ha.1 d (looks_op hx)
    | _ => rfl
theorem Agree.refl {r : TRec} (s : AS) : Agree ops r s s := ⟨fun _ _ => rfl, fun _ _ => rfl⟩
theorem Agree.trans {r : TRec} {s s' s'' : AS} (h : Agree ops r s s') (h' : Agree ops r s' s'') : Agree ops r s s'' := ⟨fun d hd => (h.1 d hd).trans (h'.1 d hd), fun d hd => (h.2 d hd).trans (h'.2 d hd)⟩
theorem Agree.app {r x : TRec} {s s' : AS} (h : Agree ops r s s') : Agree ops r (x.app s) (x.app s') := by
  refine ⟨fun d hd => ?_, fun id hid => ?_⟩
  · simp only [TRec.app, updF]
    cases x.o.dst with
    | none => exact h.1 d hd
    | some e => by_cases he : e = d <;> simp [he, h.1 d hd]
  · simp only [TRec.app, updH]
    cases hlook x.d id with
    | some y => rfl
    | none => exact h.2 id hid
theorem Indep.skip {r x : TRec} (h : Indep ops x r) (s : AS) : Agree ops r (x.app s) s := by
  obtain ⟨h1, h2⟩ := h
  obtain ⟨a1, a2, a3⟩ := Oper.apart_spec h1
  obtain ⟨b1, b2, b3⟩ := apartH_spec h2
  refine ⟨fun d hd => ?_, fun id hid => ?_⟩
  · simp only [TRec.app, updF]
    cases hx : x.o.dst with
    | none => rfl
    | some e =>
      have : e ≠ d := fun e' => a1 e hx (e' ▸ hd)
      simp [this]
  · simp only [TRec.app, updH]
    rw [ids_look (fun hm => b1 id hm hid)]
theorem Indep.skip' {r x : TRec} (h : Indep ops r x) (s : AS) : Agree ops r (x.app s) s := by
  obtain ⟨h1, h2⟩ := h
  obtain ⟨a1, a2, a3⟩ := Oper.apart_spec h1
  obtain ⟨b1, b2, b3⟩ := apartH_spec h2
  refine ⟨fun d hd => ?_, fun id hid => ?_⟩
  · simp only [TRec.app, updF]
    cases hx : x.o.dst with
    | none => rfl
    | some e =>
      have : e ≠ d := fun e' => a3 e hx (e' ▸ hd)
      simp [this]
  · simp only [TRec.app, updH]
    rw [ids_look (fun hm => b3 id hm hid)]
theorem Indep.comm {r x : TRec} (h : Indep ops r x) (s : AS) : x.app (r.app s) = r.app (x.app s) := by
  obtain ⟨h1, h2⟩ := h
  obtain ⟨a1, a2, a3⟩ := Oper.apart_spec h1
  obtain ⟨b1, b2, b3⟩ := apartH_spec h2
  simp only [TRec.app, Prod.mk.injEq]
  constructor
  · funext n
    cases hr : r.o.dst with
    | none => cases hx : x.o.dst <;> simp [updF]
    | some d =>
      cases hx : x.o.dst with
      | none => simp [updF]
      | some e =>
        have : d ≠ e := fun e' => a2 d hr (e' ▸ hx)
        simp only [updF]
        by_cases h1 : e = n
        · subst h1; simp [this]
        · simp [h1]
  · funext n
    simp only [updH]
    cases hx : hlook x.d n with
    | none => rfl
    | some y =>
      have : hlook r.d n = none := ids_look fun hm => b2 n hm (look_ids hx)
      rw [this]
/-- The records of what is listed. -/
def sel (L : Nat → Bool) : List TRec → Nat → List TRec
  | [], _ => []
  | r :: rs, k => if L k then r :: sel L rs (k + 1) else sel L rs (k + 1)
theorem sel_append (L : Nat → Bool) : ∀ (a b : List TRec) (k : Nat), sel L (a ++ b) k = sel L a k ++ sel L b (k + a.length)
  | [], b, k => rfl
  | r :: a, b, k => by
    simp only [List.cons_append, sel, sel_append L a b (k + 1), List.length_cons]
    rw [show k + 1 + a.length = k + (a.length + 1) by omega]
    split <;> rfl
theorem sel_congr {L L' : Nat → Bool} : ∀ {a : List TRec} {k : Nat}, (∀ j, k ≤ j → j < k + a.length → L j = L' j) → sel L a k = sel L' a k
  | [], k, _ => rfl
  | r :: a, k, h => by
    simp only [List.length_cons] at h
    simp only [sel, h k (Nat.le_refl _) (by omega), sel_congr (a := a) (k := k + 1) fun j h1 h2 => h j (by omega) (by omega)]
theorem sel_all {L : Nat → Bool} : ∀ {a : List TRec} {k : Nat}, (∀ j, k ≤ j → j < k + a.length → L j = true) → sel L a k = a
  | [], k, _ => rfl
  | r :: a, k, h => by
    simp only [List.length_cons] at h
    simp only [sel, h k (Nat.le_refl _) (by omega), if_true, sel_all (a := a) (k := k + 1) fun j h1 h2 => h j (by omega) (by omega)]
theorem applyR_append (a b : List TRec) (s : AS) : applyR (a ++ b) s = applyR b (applyR a s) := by simp [applyR, List.foldl_append]
theorem agree_sel {r : TRec} {L : Nat → Bool} : ∀ (pre : List TRec) (k : Nat) (s s' : AS), Agree ops r s s' → (∀ j x, pre[j]? = some x → L (k + j) = false → Indep ops x r) →
    Agree ops r (applyR pre s) (applyR (sel L pre k) s')
  | [], k, s, s', h, _ => h
  | x :: pre, k, s, s', h, hi => by
    have hi' : ∀ j y, pre[j]? = some y → L (k + 1 + j) = false → Indep ops y r := fun j y hj hl => hi (j + 1) y (by simpa using hj) (by rw [← hl]; congr 1; omega)
    simp only [sel]
    cases hL : L k with
    | true => exact agree_sel pre (k + 1) _ _ h.app hi'
    | false => exact agree_sel pre (k + 1) _ _ (((hi 0 x rfl hL).skip s).trans h) hi'
theorem agree_post {r : TRec} : ∀ (l : List TRec) (s : AS), (∀ x ∈ l, Indep ops r x) → Agree ops r (applyR l s) s
  | [], s, _ => Agree.refl s
  | x :: l, s, h => (agree_post l (x.app s) fun y hy => h y (by simp [hy])).trans ((h x (by simp)).skip' s)
theorem comm_post {r : TRec} : ∀ (l : List TRec) (s : AS), (∀ x ∈ l, Indep ops r x) → applyR l (r.app s) = r.app (applyR l s)
  | [], s, _ => rfl
  | x :: l, s, h => by
    show applyR l (x.app (r.app s)) = r.app (applyR l (x.app s))
    rw [(h x (by simp)).comm s]
    exact comm_post l (x.app s) fun y hy => h y (by simp [hy])
theorem Tr.at : ∀ {pre : List TRec} {r : TRec} {post : List TRec} {s : AS}, Tr P C nt all (pre ++ r :: post) s → StepAt P C nt all r (applyR pre s)
  | [], r, post, s, h => h.1
  | x :: pre, r, post, s, h => Tr.at (pre := pre) h.2
theorem mem_sel {L : Nat → Bool} : ∀ {a : List TRec} {k : Nat} {x : TRec}, x ∈ sel L a k → ∃ j, a[j]? = some x ∧ L (k + j) = true
  | [], k, x, h => by simp [sel] at h
  | r :: a, k, x, h => by
    simp only [sel] at h
    split at h
    · rename_i hL
      rcases List.mem_cons.1 h with rfl | h
      · exact ⟨0, rfl, hL⟩
      · obtain ⟨j, h1, h2⟩ := mem_sel h
        exact ⟨j + 1, by simpa using h1, by rw [← h2]; congr 1; omega⟩
    · obtain ⟨j, h1, h2⟩ := mem_sel h
      exact ⟨j + 1, by simpa using h1, by rw [← h2]; congr 1; omega⟩

/-! ### What stands ahead -/
theorem bitsOf_spec {acc : List Nat} : ∀ {es : List Edge} {s j : Nat}, (bitsOf acc es s).testBit j = true →
    s.testBit j = true ∨ ∃ e ∈ es, Region.binds .any e = true ∧ (e.on = j ∨ ((nth acc e.on).getD 0).testBit j = true)
  | [], s, j, h => .inl h
  | e :: es, s, j, h => by
    simp only [bitsOf] at h
    rcases bitsOf_spec h with h1 | ⟨e', he, hb, hc⟩
    · cases hb : Region.binds .any e with
      | false => rw [hb] at h1; exact .inl h1
      | true =>
        rw [hb] at h1
        simp only [Nat.testBit_or, Bool.or_eq_true] at h1
        rcases h1 with (h1 | h1) | h1
        · exact .inl h1
        · rw [Nat.testBit_two_pow] at h1
          exact .inr ⟨e, by simp, hb, .inl (by simpa using h1)⟩
        · exact .inr ⟨e, by simp, hb, .inr h1⟩
    · exact .inr ⟨e', by simp [he], hb, hc⟩
theorem befores_spec : ∀ (l : List Oper) (acc : List Nat), ∃ B, befores l acc = acc ++ B ∧ B.length = l.length ∧
    ∀ i o, l[i]? = some o → B[i]? = some (bitsOf (acc ++ B.take i) o.after.toList 0)
  | [], acc => ⟨[], by simp [befores], rfl, by simp⟩
  | o :: l, acc => by
    obtain ⟨B, h1, h2, h3⟩ := befores_spec l (acc ++ [bitsOf acc o.after.toList 0])
    refine ⟨bitsOf acc o.after.toList 0 :: B, by rw [befores, h1]; simp, by simp [h2], fun i x hx => ?_⟩
    cases i with
    | zero => simp at hx; subst hx; simp
    | succ i =>
      simp only [List.getElem?_cons_succ] at hx ⊢
      rw [h3 i x hx]; simp
/-- What the bits name is listed with it. -/
theorem bits_listed {l : List Oper} {L : Nat → Bool} (hedge : ∀ i o, l[i]? = some o → ∀ e ∈ o.after.toList, Region.binds .any e = true → e.on < i)
    (hcl : ∀ i o, l[i]? = some o → L i = true → ∀ e ∈ o.after.toList, Region.binds .any e = true → L e.on = true) :
    ∀ (i : Nat) (o : Oper), l[i]? = some o → (∀ e ∈ o.after.toList, Region.binds .any e = true → L e.on = true) → ∀ j, (((nth (befores l []) i).getD 0).testBit j = true) → L j = true := by
  obtain ⟨B, h1, h2, h3⟩ := befores_spec l []
  simp only [List.nil_append] at h1 h3
  rw [h1]
  intro i
  induction i using Nat.strongRecOn with
  | _ i ih =>
    intro o ho hready j hj
    rw [nth_eq, h3 i o ho, Option.getD_some] at hj
    rcases bitsOf_spec hj with h | ⟨e, he, hb, hc⟩
    · simp at h
    · rcases hc with rfl | hc
      · exact hready e he hb
      · have hlt := hedge i o ho e he hb
        have hlen : i < l.length := (List.getElem?_eq_some_iff.1 ho).1
        have hoe : l[e.on]? = some l[e.on] := by simp
        have hL := hready e he hb
        refine ih e.on hlt l[e.on] hoe (fun e' he' hb' => hcl _ _ hoe hL e' he' hb') j ?_
        rw [nth_eq] at hc ⊢
        rwa [List.getElem?_take, if_pos hlt] at hc

/-! ### The checks -/
theorem edgesB_ok {i : Nat} : ∀ {es : List Edge}, edgesB i es = true → ∀ e ∈ es, Region.binds .any e = true → e.on < i
  | [], _, e, he, _ => by simp at he
  | x :: es, h, e, he, hb => by
    simp only [edgesB] at h
    cases hx : Region.binds .any x with
    | true =>
      rw [hx] at h
      simp only at h
      cases hlt : Nat.blt x.on i with
      | false => rw [hlt] at h; simp at h
      | true =>
        rw [hlt] at h
        rcases List.mem_cons.1 he with rfl | he
        · exact Nat.le_of_ble_eq_true hlt
        · exact edgesB_ok h e he hb
    | false =>
      rw [hx] at h
      rcases List.mem_cons.1 he with rfl | he
      · rw [hb] at hx; cases hx
      · exact edgesB_ok h e he hb
theorem pairsB_ok {o : Oper} {b : Nat} : ∀ {l : List Oper} {k : Nat}, pairsB ops o b l k = true → ∀ j x, l[j]? = some x → Oper.apart ops x o = true ∨ b.testBit (k + j) = true
  | [], _, _, j, x, hx => by simp at hx
  | y :: l, k, h, j, x, hx => by
    simp only [pairsB] at h
    cases j with
    | zero =>
      simp at hx; subst hx
      cases ha : Oper.apart ops y o with
      | true => exact .inl rfl
      | false =>
        rw [ha] at h
        simp only at h
        cases hb : Nat.testBit b k with
        | true => exact .inr (by simpa using hb)
        | false => rw [hb] at h; simp at h
    | succ j =>
      simp only [List.getElem?_cons_succ] at hx
      have h' : pairsB ops o b l (k + 1) = true := by
        cases ha : Oper.apart ops y o with
        | true => rw [ha] at h; exact h
        | false =>
          rw [ha] at h
          simp only at h
          cases hb : Nat.testBit b k with
          | true => rw [hb] at h; exact h
          | false => rw [hb] at h; simp at h
      have := pairsB_ok h' j x hx
      rwa [show k + 1 + j = k + (j + 1) by omega] at this
theorem rgOkFrom_ok {bs : List Nat} : ∀ {l pre : List Oper}, rgOkFrom ops bs pre l pre.length = true → ∀ i o, l[i]? = some o →
    (∀ e ∈ o.after.toList, Region.binds .any e = true → e.on < pre.length + i) ∧
    ∀ j x, j < pre.length + i → (pre ++ l)[j]? = some x → Oper.apart ops x o = true ∨ ((nth bs (pre.length + i)).getD 0).testBit j = true
  | [], pre, _, i, o, ho => by simp at ho
  | y :: l, pre, h, i, o, ho => by
    simp only [rgOkFrom] at h
    split at h
    · rename_i h1 h2
      cases i with
      | zero =>
        simp at ho; subst ho
        refine ⟨by simpa using edgesB_ok h1, fun j x hj hx => ?_⟩
        rw [List.getElem?_append_left (by omega)] at hx
        have := pairsB_ok h2 j x hx
        simpa using this
      | succ i =>
        simp only [List.getElem?_cons_succ] at ho
        have h' : rgOkFrom ops bs (pre ++ [y]) l (pre ++ [y]).length = true := by simpa using h
        obtain ⟨a1, a2⟩ := rgOkFrom_ok h' i o ho
        have el : (pre ++ [y]).length + i = pre.length + (i + 1) := by simp; omega
        rw [el] at a1 a2
        refine ⟨a1, fun j x hj hx => a2 j x hj ?_⟩
        simpa using hx
    · cases h
theorem chkOne_ok {b : Nat} {r : Rec} : ∀ {l : List Rec} {n : Nat}, n + 1 = l.length ∨ l = [] → chkOne b r l n = true → ∀ j x, l[j]? = some x → apartH x r = true ∨ b.testBit (n - j) = true
  | [], _, _, _, j, x, hx => by simp at hx
  | s :: l, n, hn, h, j, x, hx => by
    simp only [chkOne] at h
    have hn' : n = l.length := by rcases hn with hn | hn; simpa using hn; simp at hn
    have h' : (apartH s r = true ∨ b.testBit n = true) ∧ chkOne b r l (n - 1) = true := by
      cases ha : apartH s r with
      | true => rw [ha] at h; exact ⟨.inl rfl, h⟩
      | false =>
        rw [ha] at h
        simp only at h
        cases hb : Nat.testBit b n with
        | true => rw [hb] at h; exact ⟨.inr rfl, h⟩
        | false => rw [hb] at h; simp at h
    cases j with
    | zero => simp at hx; subst hx; simpa using h'.1
    | succ j =>
      simp only [List.getElem?_cons_succ] at hx
      have hl : 0 < l.length := by
        rcases l with _ | ⟨_, _⟩
        · simp at hx
        · simp
      have := chkOne_ok (l := l) (n := n - 1) (.inl (by omega)) h'.2 j x hx
      rwa [show n - 1 - j = n - (j + 1) by omega] at this
theorem chkAll_ok {b : List Nat} : ∀ {l : List Rec}, chkAll b l = true → ∀ i r, l.reverse[i]? = some r → ∀ j x, j < i → l.reverse[j]? = some x → apartH x r = true ∨ ((nth b i).getD 0).testBit j = true
  | [], _, i, r, hr => by simp at hr
  | y :: l, h, i, r, hr => by
    simp only [chkAll] at h
    split at h
    · rename_i m hm
      split at h
      · rename_i h1
        intro j x hj hx
        simp only [List.reverse_cons] at hr hx
        by_cases hi : i < l.length
        · rw [List.getElem?_append_left (by simpa using hi)] at hr
          rw [List.getElem?_append_left (by simp; omega)] at hx
          exact chkAll_ok h i r hr j x hj hx
        · have hi' : i = l.length := by
            have := (List.getElem?_eq_some_iff.1 hr).1; simp at this; omega
          subst hi'
          rw [List.getElem?_append_right (by simp)] at hr
          simp at hr; subst hr
          rw [List.getElem?_append_left (by simp; omega)] at hx
          rw [hm, Option.getD_some]
          rw [List.getElem?_reverse (by omega)] at hx
          have := chkOne_ok (l := l) (n := l.length - 1) (by rcases l with _ | _ <;> simp) h1 _ _ hx
          rwa [show l.length - 1 - (l.length - 1 - j) = j by omega] at this
      · cases h
    · cases h
end
end Go.Proofs.YtdiippegaidpkaaDoor.Vm
