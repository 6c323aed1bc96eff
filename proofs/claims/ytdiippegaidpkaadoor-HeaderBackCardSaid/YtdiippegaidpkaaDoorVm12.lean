/- The symbolic machine, part 12: regions: what the machine did in the order of the text holds in every order that Go may take. -/
import Derived.Test.YtdiippegaidpkaaDoorVm11
set_option linter.unusedVariables false
set_option linter.unusedSimpArgs false
namespace Go.Proofs.YtdiippegaidpkaaDoor.Vm
open Go
/-- What a guard says. -/
def GuardIs (all : List Oper) (o : Oper) (ef : Nat → T) (b : Bool) : Prop := match o.guard with
  | none => b = true
  | some (j, want) => ∃ oj d, all[j]? = some oj ∧ oj.dst = some d ∧ ((∃ x, (ef d = .bl x ∨ ef d = .b x) ∧ b = (x == want)) ∨ (ef d = .tup [] ∧ b = false))
/-- What one operation has done. -/
structure TRec where
  o : Oper
  ex : Bool
  t : T
  d : Heap
  u : List Nat
abbrev AS := (Nat → T) × Objs
def TRec.app (r : TRec) (s : AS) : AS := (updF s.1 r.o.dst r.t, updH s.2 r.d)
/-- The operation does this in this state. -/
def StepAt (P : Program) (C : Ctx) (nt : Nat) (all : List Oper) (r : TRec) (s : AS) : Prop :=
  (∀ d, r.o.dst = some d → d < nt) ∧ GuardIs all r.o s.1 r.ex ∧
  (r.ex = true → ∃ or q, aop P C r.o (opdF C s.1) s.2 or = some ⟨r.t, r.d, r.u, q⟩ ∧ ∀ p ∈ q, p) ∧ (r.ex = false → r.t = .tup [] ∧ r.d = [] ∧ r.u = [])
/-- A run in the order of the text. -/
def Tr (P : Program) (C : Ctx) (nt : Nat) (all : List Oper) : List TRec → AS → Prop
  | [], _ => True
  | r :: rs, s => StepAt P C nt all r s ∧ Tr P C nt all rs (r.app s)
def applyR (rs : List TRec) (s : AS) : AS := rs.foldl (fun s r => r.app s) s
theorem wanted_of {all : List Oper} {ops : Array Oper} {o : Oper} {ef : Nat → T} {b : Bool} {C : Ctx} {E : Ent} {hf : Objs} {ds : Ds} {ρ : Place} {I : Mem} {a : Act} {w : World} (hall : ops.toList = all)
    (sr : SR C E ef hf ds ρ I a w) (hg : GuardIs all o ef b) : Region.wanted o (yielded ops a.tmps) = b := by
  unfold GuardIs at hg
  unfold Region.wanted
  cases hgo : o.guard with
  | none => rw [hgo] at hg; simp only at hg ⊢; exact hg.symm
  | some x =>
    obtain ⟨j, want⟩ := x
    rw [hgo] at hg
    simp only at hg ⊢
    obtain ⟨oj, d, h1, h2, h3⟩ := hg
    have hj : ops[j]? = some oj := by rw [← Array.getElem?_toList, hall]; exact h1
    rcases h3 with ⟨x, h3, h4⟩ | ⟨h3, h4⟩
    rotate_left
    · have hv : a.tmps.getD d undef = .tuple #[] := by
        have := sr.env d
        rw [h3] at this
        simp only [VR, VRs] at this
        obtain ⟨vs, e, rfl⟩ := this
        exact e
      have hy : yielded ops a.tmps j = none := by
        unfold yielded
        rw [hj, Option.bind_some, h2, Option.bind_some]
        rw [Array.getD_eq_getD_getElem?] at hv
        cases hx : a.tmps[d]? with
        | none => rfl
        | some y => rw [hx] at hv; simp at hv; rw [hv]
      rw [hy, h4]; rfl
    have hv : a.tmps.getD d undef = .bool x := by
      have := sr.env d
      rcases h3 with h3 | h3 <;> (rw [h3] at this; simpa [VR] using this)
    have hd : a.tmps[d]? = some (.bool x) := by
      rw [Array.getD_eq_getD_getElem?] at hv
      cases hx : a.tmps[d]? with
      | none => rw [hx] at hv; simp [undef] at hv
      | some y => rw [hx] at hv; simp at hv; rw [hv]
    have hy : yielded ops a.tmps j = some x := by
      unfold yielded
      rw [hj, Option.bind_some, h2, Option.bind_some, hd]
    rw [hy, h4]
    cases x <;> cases want <;> rfl
/-- One operation, of whatever place in the region. -/
theorem step_wp {P : Program} {C : Ctx} {E : Ent} {all : List Oper} {ops : Array Oper} {r : TRec} {s : AS} {ds : Ds} {ρ : Place} {I : Mem} {a : Act} {w : World} {K : Act → World → Prop} {Q : Exit → Act → World → Prop}
    (hT : TabOk P C) (hall : ops.toList = all) (sr : SR C E s.1 s.2 ds ρ I a w) (hst : StepAt P C E.nt all r s)
    (hK : ∀ ρ' I' a' w', SR C E (r.app s).1 (r.app s).2 ds ρ' I' a' w' → K a' w') :
    if Region.wanted r.o (yielded ops a.tmps) then r.o.wp P a w K Q else K (a.put r.o.dst undef) w := by
  obtain ⟨h1, h2, h3, h4⟩ := hst
  rw [wanted_of hall sr h2]
  cases hex : r.ex with
  | true =>
    obtain ⟨or, q, h5, h6⟩ := h3 hex
    rw [if_pos rfl]
    exact aop_sound hT sr h5 h6 h1 fun ρ' I' v w' sr' => hK _ _ _ _ sr'
  | false =>
    obtain ⟨e1, e2, e3⟩ := h4 hex
    rw [if_neg (by simp)]
    refine hK ρ I _ w ?_
    have := sr.step (dst := r.o.dst) (t := .tup []) (v := undef) (hf' := s.2) h1 (MLe.refl _) (HLe.refl _ _) sr.hs sr.ext (by simp [VR, VRs, undef])
    simp only [TRec.app, e1, e2, updH_nil]
    exact this
/-- THE ORDER OF THE TEXT. -/
theorem text_wp {P : Program} {C : Ctx} {E : Ent} {all : List Oper} {ops : Array Oper} {ds : Ds} {Q : Exit → Act → World → Prop} (hT : TabOk P C) (hall : ops.toList = all) :
    ∀ (rs : List TRec) (s : AS) (ρ : Place) (I : Mem) (a : Act) (w : World), Tr P C E.nt all rs s → SR C E s.1 s.2 ds ρ I a w →
    (∀ ρ' I' a' w', SR C E (applyR rs s).1 (applyR rs s).2 ds ρ' I' a' w' → Q .normal a' w') → wpList P ops Q (rs.map TRec.o) a w
  | [], s, ρ, I, a, w, _, sr, hQ => hQ _ _ _ _ sr
  | r :: rs, s, ρ, I, a, w, ht, sr, hQ => by
    simp only [List.map_cons]
    refine wpList_step fun K hK => ?_
    refine step_wp hT hall sr ht.1 fun ρ' I' a' w' sr' => hK _ _ (text_wp hT hall rs _ ρ' I' a' w' ht.2 sr' ?_)
    intro ρ2 I2 a2 w2 sr2
    exact hQ _ _ _ _ sr2

/-! ### Any order -/
/-- Two records whose variables and objects are apart. -/
def Indep (ops : Array Oper) (x y : TRec) : Prop := Oper.apart ops x.o y.o = true ∧ apartH ⟨x.u, ids x.d⟩ ⟨y.u, ids y.d⟩ = true
theorem meet_false {l m : List Nat} (h : meet l m = false) : ∀ x ∈ l, x ∉ m := by
  induction l with
  | nil => simp
  | cons y l ih =>
    simp only [meet] at h
    cases hb : memb y m with
    | true => rw [hb] at h; simp at h
    | false =>
      rw [hb] at h
      intro x hx
      rcases List.mem_cons.1 hx with rfl | hx
      · intro hm; rw [memb_eq.2 hm] at hb; simp at hb
      · exact ih h x hx
theorem apartH_spec {x y : Rec} (h : apartH x y = true) : (∀ i ∈ x.d, i ∉ y.u) ∧ (∀ i ∈ x.d, i ∉ y.d) ∧ (∀ i ∈ y.d, i ∉ x.u) := by
  unfold apartH at h
  split at h
  · cases h
  · rename_i h1
    split at h
    · cases h
    · rename_i h2
      split at h
      · cases h
      · rename_i h3
        exact ⟨meet_false h1, meet_false h2, meet_false h3⟩
theorem ids_look : ∀ {d : Heap} {id : Nat}, id ∉ ids d → hlook d id = none
  | [], _, _ => rfl
  | (m, g, o) :: d, id, h => by
    simp only [ids, List.mem_cons, not_or] at h
    simp only [hlook]
    cases hb : Nat.beq m id with
    | true => exact absurd (Nat.eq_of_beq_eq_true hb).symm h.1
    | false => exact ids_look h.2
theorem look_ids {d : Heap} {id : Nat} {x : Nat × Obj} (h : hlook d id = some x) : id ∈ ids d := by
  rcases Decidable.em (id ∈ ids d) with h' | h'
  · exact h'
  · rw [ids_look h'] at h; cases h
/-- Two states that agree where an operation looks. -/
def Agree (ops : Array Oper) (r : TRec) (s s' : AS) : Prop :=
  (∀ d, d ∈ r.o.looksAt ops → s.1 d = s'.1 d) ∧ (∀ id, id ∈ r.u → s.2 id = s'.2 id)

section
variable {P : Program} {C : Ctx} {hl hl' : Objs} {r : AR}
abbrev Ag (hl hl' : Objs) (r : AR) : Prop := ∀ i ∈ r.u, hl i = hl' i
theorem mkObj_ag {d : Option Nat} {o : Obj} {K : Nat → Nat → T} {q : List Prop} (h : mkObj hl d o K q = some r) (ha : Ag hl hl' r) : mkObj hl' d o K q = some r := by
  unfold mkObj at h ⊢
  split at h
  · rename_i d
    cases h
    have : newG hl' d = newG hl d := by simp only [newG, ha d (by simp)]
    simp only [this]
  · cases h
theorem oku_ag {id g : Nat} {t : T} {q : List Prop} (h : oku hl id g t q = some r) (ha : Ag hl hl' r) : oku hl' id g t q = some r := by
  unfold oku at h ⊢
  split at h
  · rename_i hc
    cases h
    have : cur hl' id g = cur hl id g := by simp only [cur, ha id (by simp)]
    rw [this, hc]
  · cases h
theorem okz_ag {id g n : Nat} {t : T} {q : List Prop} (h : okz hl id g n t q = some r) (ha : Ag hl hl' r) : okz hl' id g n t q = some r := by
  unfold okz at h ⊢
  split at h
  · rename_i g' pu esz cs e
    split at h
    · rename_i h1 h2
      cases h
      rw [← ha id (by simp), e]
      simp only [h1, h2]
    · cases h
  · cases h
theorem readAt_u {cs : List T} {off n : Nat} {agg : Bool} {or : Or} {u : List Nat} (h : readAt cs off n agg or u = some r) : r.u = u := by
  unfold readAt at h
  split at h
  · split at h
    · split at h
      · rw [forceL_eq] at h; cases h; rfl
      · cases h
    · split at h
      · rw [force_eq] at h; cases h; rfl
      · cases h
  · split at h
    · split at h
      · cases h; rfl
      · cases h; rfl
      · cases h
    · cases h
  · cases h
theorem load_ag {t : Nat} {a : T} {or : Or} (h : aLoad C hl t a or = some r) (ha : Ag hl hl' r) : aLoad C hl' t a or = some r := by
  unfold aLoad at h ⊢
  split at h
  · cases h
  · split at h
    · rename_i id g off
      split at h
      · rename_i g' pu esz cs e
        split at h
        · rename_i hg
          have hu := readAt_u h
          rw [← ha id (by rw [hu]; simp), e]
          simp only [hg]; exact h
        · cases h
      · cases h
    · exact h
    · cases h
theorem store_ag {t : Nat} {a x : T} (h : aStore C hl t a x = some r) (ha : Ag hl hl' r) : aStore C hl' t a x = some r := by
  unfold aStore at h ⊢
  split at h
  · cases h
  · split at h
    · rename_i id g off
      split at h
      · rename_i g' pu esz cs e
        have key : hl id = hl' id := by
          split at h
          · split at h
            · split at h
              · split at h
                · cases h; exact ha id (by simp)
                · cases h
              · split at h
                · rw [forceL_eq] at h; cases h; exact ha id (by simp)
                · cases h
            · cases h
          · cases h
        rw [← key, e]; exact h
      · cases h
    · cases h
theorem cellsOf_ag {x : T} {n : Nat} {xs : List T} {u : List Nat} (h : cellsOf hl x = some (n, xs, u)) (ha : ∀ i ∈ u, hl i = hl' i) : cellsOf hl' x = some (n, xs, u) := by
  unfold cellsOf at h ⊢
  split at h
  · rename_i id g off m
    split at h
    · rename_i g' pu esz cs e
      split at h
      · rename_i hg
        simp only [Option.some.injEq, Prod.mk.injEq] at h
        obtain ⟨rfl, rfl, rfl⟩ := h
        rw [← ha id (by simp), e]; simp only [hg]
      · cases h
    · cases h
  · exact h
  · exact h
  · cases h
theorem slice_ag {t : Nat} {x : T} {lo hi : Option T} (h : aSlice C hl t x lo hi = some r) (ha : Ag hl hl' r) : aSlice C hl' t x lo hi = some r := by
  unfold aSlice at h ⊢
  split at h
  · exact h
  · split at h
    · exact okz_ag h ha
    · cases h
  · exact h
  · rename_i id g off
    split at h
    · split at h
      · split at h
        · rename_i g' pu esz cs e
          split at h
          · rename_i h1 h2
            cases h
            rw [← ha id (by simp), e]; simp only [h1, h2]
          · cases h
        · cases h
      · cases h
    · cases h
  · cases h
theorem fieldAddr_ag {t : Nat} {x : T} {f : Nat} (h : aFieldAddr C hl t x f = some r) (ha : Ag hl hl' r) : aFieldAddr C hl' t x f = some r := by
  unfold aFieldAddr at h ⊢
  split at h
  · split at h
    · split at h
      · exact oku_ag h ha
      · exact h
      · cases h
    · cases h
  · cases h
theorem indexAddr_ag {t : Nat} {x i : T} (h : aIndexAddr C hl t x i = some r) (ha : Ag hl hl' r) : aIndexAddr C hl' t x i = some r := by
  unfold aIndexAddr at h ⊢
  split at h
  · exact oku_ag h ha
  · exact h
  · exact oku_ag h ha
  · exact h
  · cases h
theorem buildSlice_ag {d : Option Nat} {t n : Nat} {ps : List (Nat × T)} (h : aBuildSlice C hl d t n ps = some r) (ha : Ag hl hl' r) : aBuildSlice C hl' d t n ps = some r := by
  unfold aBuildSlice at h ⊢
  split at h
  · split at h
    · split at h
      · rw [forceL_eq] at h ⊢; exact mkObj_ag h ha
      · cases h
    · cases h
  · cases h
theorem makeSlice_ag {d : Option Nat} {t : Nat} {l c : T} (h : aMakeSlice C hl d t l c = some r) (ha : Ag hl hl' r) : aMakeSlice C hl' d t l c = some r := by
  unfold aMakeSlice at h ⊢
  split at h
  · split at h
    · exact mkObj_ag h ha
    · cases h
  · cases h
theorem convert_ag {dst : Option Nat} {s d : Nat} {x : T} {or : Or} (h : aConvert C hl dst s d x or = some r) (ha : Ag hl hl' r) : aConvert C hl' dst s d x or = some r := by
  unfold aConvert at h ⊢
  split at h
  · cases h
  · rename_i hk
    split at h
    · exact h
    · exact h
    · exact h
    · exact h
    · split at h
      · exact mkObj_ag h ha
      · cases h
    · split at h
      · split at h
        · split at h
          · rename_i n cs u hc
            rw [cellsOf_ag hc (by cases h; exact ha)]; exact h
          · cases h
        · cases h
      · cases h
    · cases h
theorem append_ag {dst : Option Nat} {t : Nat} {d s : T} (h : aAppend C hl dst t d s = some r) (ha : Ag hl hl' r) : aAppend C hl' dst t d s = some r := by
  unfold aAppend at h ⊢
  split at h
  · rename_i e hk
    split at h
    · cases h
    · rename_i m xs u hnew
      have hnew' : (∀ i ∈ u, hl i = hl' i) → srcOf hl' s = some (m, xs, u) := by
        intro hu
        unfold srcOf at hnew ⊢
        split at hnew
        · exact hnew
        · exact cellsOf_ag hnew hu
      split at h
      · rename_i id g n
        split at h
        · rename_i g' pu esz cs e'
          split at h
          · rename_i h1 h2 h3
            cases h
            rw [hnew' (fun i hi => ha i (by simp [hi]))]
            simp only
            rw [← ha id (by simp), e']
            simp only [h1, h2, h3]
          · cases h
        · cases h
      · split at h
        · rename_i rr
          cases h
          rw [hnew' (fun i hi => ha i (by simp [hi]))]
          simp only
          have : newG hl' rr = newG hl rr := by simp only [newG, ha rr (by simp)]
          rw [this]
        · cases h
      · cases h
  · cases h
theorem len_ag {x : T} (h : aLen hl x = some r) (ha : Ag hl hl' r) : aLen hl' x = some r := by
  unfold aLen at h ⊢
  split at h
  · exact oku_ag h ha
  · exact h
  · exact h
  · cases h
theorem builtin_ag {dst : Option Nat} {b : Builtin} {ats : List Nat} {args : List T} (h : aBuiltin C hl dst b ats args = some r) (ha : Ag hl hl' r) : aBuiltin C hl' dst b ats args = some r := by
  unfold aBuiltin at h ⊢
  split at h
  · split at h
    · exact h
    · exact h
    · exact len_ag h ha
    · exact h
    · cases h
  · split at h
    · exact append_ag h ha
    · exact append_ag h ha
    · cases h
  · exact h
  · exact h
  · exact h
  · exact h
  · exact h
  · cases h
theorem bin_ag {op : BinOp} {k : TK} {x y : T} {or : Or} {sq : Bool → Prop} (h : bin hl op k x y or sq = some r) (ha : Ag hl hl' r) : bin hl' op k x y or sq = some r := by
  unfold bin at h ⊢
  split at h <;> first
    | exact h
    | (split at h <;> first | exact oku_ag h ha | exact h)
theorem next_ag {x : T} {or : Or} (h : aNext hl x or = some r) (ha : Ag hl hl' r) : aNext hl' x or = some r := by
  unfold aNext at h ⊢
  split at h
  · rename_i id g
    split at h
    · rename_i g' l pos e
      split at h
      · rename_i hg
        cases h; rw [← ha id (by simp), e]; simp only [hg]
      · rename_i hg
        cases h; rw [← ha id (by simp), e]; simp only [hg]
      · cases h
    · cases h
  · cases h
theorem restrict_ag : ∀ {use : List Nat}, (∀ i ∈ use, hl i = hl' i) → restrict hl' use = restrict hl use
  | [], _ => rfl
  | id :: use, h => by
    simp only [restrict, h id (by simp), restrict_ag (use := use) fun i hi => h i (by simp [hi])]
theorem fits_ag {use : List Nat} : ∀ {out : Heap}, (∀ i ∈ ids out, hl i = hl' i) → fits hl' use out = fits hl use out
  | [], _ => rfl
  | (id, g, o) :: out, h => by
    have ih := fits_ag (use := use) (out := out) fun i hi => h i (by simp [ids, hi])
    simp only [fits, h id (by simp [ids]), ih]
theorem call_ag {f : T} {args : List T} {or : Or} (h : aCall P C hl f args or = some r) (ha : Ag hl hl' r) : aCall P C hl' f args or = some r := by
  unfold aCall at h ⊢
  split at h
  · rename_i f x c r' use out
    simp only [apps_eq, apps'_eq] at h ⊢
    split at h
    · rename_i h1 h2 h3 h4
      cases h
      rw [restrict_ag (hl := hl) (fun i hi => ha i (by simp [hi])), fits_ag (hl := hl) (fun i hi => ha i (by simp [hi]))]
      simp only [h1, h2, h3, h4]
    · cases h
  · cases h
/-- An operation sees its operands and the objects that it tells. -/
theorem aop_ag {o : Oper} {ev ev' : Operand → T} {or : Or} (h : aop P C o ev hl or = some r) (hev : ∀ x ∈ o.op.operands, ev x = ev' x) (ha : Ag hl hl' r) : aop P C o ev' hl' or = some r := by
  have hl1 : ∀ {l : Array Operand}, (∀ x ∈ l, ev x = ev' x) → l.toList.map ev' = l.toList.map ev := fun h => List.map_congr_left fun x hx => (h x (by simpa using hx)).symm
  unfold aop at h ⊢
  split at h
  · rename_i X ho; rw [ho] at hev; simp only [force_eq] at h ⊢; rw [← hev X (by simp [Op.operands])]; exact h
  · rename_i X ho; rw [ho] at hev; simp only [force_eq] at h ⊢; rw [← hev X (by simp [Op.operands])]; exact h
  · rename_i X Y Z ho; rw [ho] at hev; simp only [force_eq] at h ⊢; rw [← hev X (by simp [Op.operands])]; rw [← hev Y (by simp [Op.operands])]; rw [← hev Z (by simp [Op.operands])]; exact h
  · rename_i e ho
    split at h
    · cases h
    · rename_i hsz; rw [forceL_eq] at h ⊢; exact mkObj_ag h ha
  · rename_i e X ho; rw [ho] at hev; simp only [force_eq] at h ⊢; rw [← hev X (by simp [Op.operands])]
    split at h
    · exact mkObj_ag h ha
    · cases h
  · rename_i t ps ho; rw [ho] at hev; simp only [evP_eq] at h ⊢
    have e : ps.toList.map (fun x => (x.1, ev' x.2)) = ps.toList.map (fun x => (x.1, ev x.2)) := List.map_congr_left fun x hx => by rw [hev x.2 (by simp only [Op.operands]; simp; exact ⟨x.1, by simpa using hx⟩)]
    rw [e]; exact h
  · rename_i t n ps ho; rw [ho] at hev; simp only [evP_eq] at h ⊢
    have e : ps.toList.map (fun x => (x.1, ev' x.2)) = ps.toList.map (fun x => (x.1, ev x.2)) := List.map_congr_left fun x hx => by rw [hev x.2 (by simp only [Op.operands]; simp; exact ⟨x.1, by simpa using hx⟩)]
    rw [e]; exact buildSlice_ag h ha
  · rename_i t X ho; rw [ho] at hev; simp only [force_eq] at h ⊢; rw [← hev X (by simp [Op.operands])]; exact load_ag h ha
  · rename_i t X Y ho; rw [ho] at hev; simp only [force_eq] at h ⊢; rw [← hev X (by simp [Op.operands])]; rw [← hev Y (by simp [Op.operands])]; exact store_ag h ha
  · rename_i X ho; rw [ho] at hev; simp only [force_eq] at h ⊢; rw [← hev X (by simp [Op.operands])]
    split at h
    · exact oku_ag h ha
    · exact h
    · exact h
    · cases h
  · rename_i op t X Y yt ho; rw [ho] at hev; simp only [force_eq] at h ⊢; rw [← hev X (by simp [Op.operands])]; rw [← hev Y (by simp [Op.operands])]; exact bin_ag h ha
  · rename_i op t X ho; rw [ho] at hev; simp only [force_eq] at h ⊢; rw [← hev X (by simp [Op.operands])]; exact h
  · rename_i s d X ho; rw [ho] at hev; simp only [force_eq] at h ⊢; rw [← hev X (by simp [Op.operands])]; exact convert_ag h ha
  · rename_i t X ho; rw [ho] at hev; simp only [force_eq] at h ⊢; rw [← hev X (by simp [Op.operands])]; exact h
  · rename_i f x c ho; rw [ho] at hev; simp only [evL_eq] at h ⊢
    rw [hl1 (l := x) fun y hy => hev y (by simp [Op.operands, hy]), hl1 (l := c) fun y hy => hev y (by simp [Op.operands, hy])]; exact h
  · rename_i t L K ho; rw [ho] at hev; simp only [force_eq] at h ⊢; rw [← hev L (by simp [Op.operands])]; rw [← hev K (by simp [Op.operands])]; exact makeSlice_ag h ha
  · rename_i t X lo hi ho; rw [ho] at hev; simp only [force_eq] at h ⊢; rw [← hev X (by simp [Op.operands])]
    split at h
    · exact slice_ag h ha
    · rename_i A; rw [← hev A (by simp [Op.operands])]; exact slice_ag h ha
    · rename_i B; rw [← hev B (by simp [Op.operands])]; exact slice_ag h ha
    · rename_i A B; rw [← hev A (by simp [Op.operands]), ← hev B (by simp [Op.operands])]; exact slice_ag h ha
  · rename_i t X f ho; rw [ho] at hev; simp only [force_eq] at h ⊢; rw [← hev X (by simp [Op.operands])]; exact fieldAddr_ag h ha
  · rename_i t X f ho; rw [ho] at hev; simp only [force_eq] at h ⊢; rw [← hev X (by simp [Op.operands])]; exact h
  · rename_i t X J ho; rw [ho] at hev; simp only [force_eq] at h ⊢; rw [← hev X (by simp [Op.operands])]; rw [← hev J (by simp [Op.operands])]; exact indexAddr_ag h ha
  · rename_i t X J ho; rw [ho] at hev; simp only [force_eq] at h ⊢; rw [← hev X (by simp [Op.operands])]; rw [← hev J (by simp [Op.operands])]; exact h
  · rename_i t X ho; rw [ho] at hev; simp only [force_eq] at h ⊢; rw [← hev X (by simp [Op.operands])]
    split at h
    · exact mkObj_ag h ha
    · cases h
  · rename_i X ho; rw [ho] at hev; simp only [force_eq] at h ⊢; rw [← hev X (by simp [Op.operands])]; exact next_ag h ha
  · rename_i X n ho; rw [ho] at hev; simp only [force_eq] at h ⊢; rw [← hev X (by simp [Op.operands])]; exact h
  · rename_i b args ats ho; rw [ho] at hev; simp only [evL_eq] at h ⊢
    rw [hl1 (l := args) fun y hy => hev y (by simp [Op.operands, Call.operands, hy])]; exact builtin_ag h ha
  · rename_i F args ats ho; rw [ho] at hev; simp only [force_eq, evL_eq] at h ⊢
    rw [← hev F (by simp [Op.operands, Call.operands]), hl1 (l := args) fun y hy => hev y (by simp [Op.operands, Call.operands, hy])]; exact call_ag h ha
  · cases h
end
end Go.Proofs.YtdiippegaidpkaaDoor.Vm
