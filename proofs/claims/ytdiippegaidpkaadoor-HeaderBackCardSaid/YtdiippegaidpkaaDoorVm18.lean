/- The symbolic machine, part 18: objects that are written no more; a function's contract out of its code. -/
import Derived.Test.YtdiippegaidpkaaDoorVm17
set_option linter.unusedVariables false
set_option linter.unusedSimpArgs false
set_option linter.unnecessarySimpa false
namespace Go.Proofs.YtdiippegaidpkaaDoor.Vm
open Go

/-! ### An object that is written no more -/
mutual
def frzT (id g : Nat) (esz : Mk) (cs : List T) : T → T
  | .ref id' g' off n => match Nat.beq id' id with
    | true => match Nat.beq g' g with
      | true => match off with
        | 0 => .sl n (cs.take (n * szOf esz))
        | off => .sl n ((cs.drop off).take (n * szOf esz))
      | false => .top
    | false => .ref id' g' off n
  | .p id' g' off => match Nat.beq id' id with
    | true => match Nat.beq g' g with
      | true => .rp cs off
      | false => .top
    | false => .p id' g' off
  | .agg l => .agg (frzL id g esz cs l)
  | .tup l => .tup (frzL id g esz cs l)
  | .fn f x c => .fn f (frzL id g esz cs x) (frzL id g esz cs c)
  | .ifc t v => .ifc t (frzT id g esz cs v)
  | t => t
def frzL (id g : Nat) (esz : Mk) (cs : List T) : List T → List T
  | [] => []
  | t :: l => frzT id g esz cs t :: frzL id g esz cs l
end
def frzE {α : Type} (id g : Nat) (esz : Mk) (cs : List T) : Env → (Env → α) → α
  | [], K => K []
  | (r, t) :: e, K => force (frzT id g esz cs t) fun t => frzE id g esz cs e fun e => K ((r, t) :: e)
def frzH {α : Type} (id g : Nat) (esz : Mk) (cs : List T) : Heap → (Heap → α) → α
  | [], K => K []
  | (m, g', .row false s l) :: h, K => forceL (frzL id g esz cs l) fun l => frzH id g esz cs h fun h => K ((m, g', .row false s l) :: h)
  | x :: h, K => frzH id g esz cs h fun h => K (x :: h)
def frz (id : Nat) (e : Env) (h : Heap) : Option (Env × Heap) := match hlook h id with
  | some (g, .row pu esz cs) => match (match pu with | true => true | false => plainL cs) with
    | true => frzE id g esz cs e fun e => frzH id g esz cs h fun h => some (e, (id, g, .dead) :: h)
    | false => none
  | _ => none
section
variable {P : Program} {C : Ctx} {nt : Nat} {kp : List Nat} {Φ : APost} {ρ : Place} {I : Mem} {h : Heap}
theorem frzE_eq {α : Type} (id g : Nat) (esz : Mk) (cs : List T) : ∀ (e : Env) (K : Env → α), frzE id g esz cs e K = K (e.map fun x => (x.1, frzT id g esz cs x.2))
  | [], K => rfl
  | (r, t) :: e, K => by simp only [frzE, force_eq, frzE_eq id g esz cs e, List.map_cons]
def frzO (id g : Nat) (esz : Mk) (cs : List T) : Obj → Obj
  | .row false s l => .row false s (frzL id g esz cs l)
  | o => o
theorem frzH_eq {α : Type} (id g : Nat) (esz : Mk) (cs : List T) : ∀ (h : Heap) (K : Heap → α), frzH id g esz cs h K = K (h.map fun x => (x.1, x.2.1, frzO id g esz cs x.2.2))
  | [], K => rfl
  | (m, g', o) :: h, K => by
    cases o with
    | dead => simp only [frzH, frzH_eq id g esz cs h, List.map_cons, frzO]
    | it l p => simp only [frzH, frzH_eq id g esz cs h, List.map_cons, frzO]
    | row pu s l =>
      cases pu with
      | true => simp only [frzH, frzH_eq id g esz cs h, List.map_cons, frzO]
      | false => simp only [frzH, forceL_eq, frzH_eq id g esz cs h, List.map_cons, frzO]
theorem look_map (f : T → T) (hf : f .top = .top) : ∀ (e : Env) (n : Nat), look (e.map fun x => (x.1, f x.2)) n = f (look e n)
  | [], n => by simp [look, hf]
  | (r, t) :: e, n => by
    simp only [List.map_cons, look]
    cases Nat.beq r n with
    | true => rfl
    | false => exact look_map f hf e n
theorem hlook_map (f : Obj → Obj) : ∀ (h : Heap) (n : Nat), hlook (h.map fun x => (x.1, x.2.1, f x.2.2)) n = (hlook h n).map fun x => (x.1, f x.2)
  | [], n => rfl
  | (m, g, o) :: h, n => by
    simp only [List.map_cons, hlook]
    cases Nat.beq m n with
    | true => rfl
    | false => exact hlook_map f h n
mutual
theorem frzT_VR {hf hf' : Objs} {I I' : Mem} {id g : Nat} {esz : Mk} {cs : List T} (hI : MLe I I') (hold : ∀ m, m ≠ id → ∀ g o, hf m = some (g, o) → ∃ o', hf' m = some (g, o') ∧ (o' ≠ .dead → o ≠ .dead) ∧ ∀ pu esz cs, o' = .row pu esz cs → ∃ pu' cs', o = .row pu' esz cs')
    (hrow : ∀ off n v, VR ρ hf I (.ref id g off n) v → PV I' (.sl n ((cs.drop off).take (n * szOf esz))) v) (hptr : ∀ off v, VR ρ hf I (.p id g off) v → PV I' (.rp cs off) v) :
    ∀ (t : T) (v : Value), VR ρ hf I t v → VR ρ hf' I' (frzT id g esz cs t) v
  | .top, _, _ => by simp [frzT, VR]
  | .b _, _, hv => by simpa [frzT, VR] using hv
  | .bl _, _, hv => by simpa [frzT, VR] using hv
  | .i _ _, _, hv => by simpa [frzT, VR] using hv
  | .fl _ _, _, hv => by simpa [frzT, VR] using hv
  | .cx _ _ _, _, hv => by simpa [frzT, VR] using hv
  | .s _, _, hv => by simpa [frzT, VR] using hv
  | .agg l, v, hv => by
    simp only [frzT, VR] at hv ⊢
    obtain ⟨vs, e, h1⟩ := hv
    exact ⟨vs, e, frzL_VRs hI hold hrow hptr l vs h1⟩
  | .tup l, v, hv => by
    simp only [frzT, VR] at hv ⊢
    obtain ⟨vs, e, h1⟩ := hv
    exact ⟨vs, e, frzL_VRs hI hold hrow hptr l vs h1⟩
  | .sl n cs, v, hv => by simp only [frzT, VR] at hv ⊢; exact PV.mono hI _ _ hv
  | .nsl, _, hv => by simpa [frzT, VR] using hv
  | .rp cs off, v, hv => by simp only [frzT, VR] at hv ⊢; exact PV.mono hI _ _ hv
  | .np, _, hv => by simpa [frzT, VR] using hv
  | .fn f x c, v, hv => by
    simp only [frzT, VR] at hv ⊢
    obtain ⟨xs, cs, e, h1, h2⟩ := hv
    exact ⟨xs, cs, e, frzL_VRs hI hold hrow hptr x xs h1, frzL_VRs hI hold hrow hptr c cs h2⟩
  | .nfn, _, hv => by simpa [frzT, VR] using hv
  | .ifc t x, v, hv => by
    simp only [frzT, VR] at hv ⊢
    obtain ⟨y, e, h1⟩ := hv
    exact ⟨y, e, frzT_VR hI hold hrow hptr x y h1⟩
  | .nif, _, hv => by simpa [frzT, VR] using hv
  | .ref id' g' off n, v, hv => by
    simp only [frzT]
    cases hb : Nat.beq id' id with
    | true =>
      obtain rfl := Nat.eq_of_beq_eq_true hb
      cases hg : Nat.beq g' g with
      | true =>
        obtain rfl := Nat.eq_of_beq_eq_true hg
        have := PV.vr (ρ := ρ) (h := hf') _ _ (hrow off n v hv)
        cases off with
        | zero => simpa using this
        | succ off => exact this
      | false => simp [VR]
    | false =>
      have hne : id' ≠ id := fun e => by subst e; simp at hb
      simp only [VR] at hv ⊢
      obtain ⟨h1, g1, o1, e1, h2, h3⟩ := hv
      obtain ⟨o', e2, k1, k2⟩ := hold id' hne _ _ e1
      refine ⟨h1, g1, o', e2, h2, fun hg pu s l e => ?_⟩
      obtain ⟨pu', cs', e3⟩ := k2 _ _ _ e
      exact h3 hg _ _ _ e3
  | .p id' g' off, v, hv => by
    simp only [frzT]
    cases hb : Nat.beq id' id with
    | true =>
      obtain rfl := Nat.eq_of_beq_eq_true hb
      cases hg : Nat.beq g' g with
      | true =>
        obtain rfl := Nat.eq_of_beq_eq_true hg
        exact PV.vr (ρ := ρ) (h := hf') _ _ (hptr off v hv)
      | false => simp [VR]
    | false =>
      have hne : id' ≠ id := fun e => by subst e; simp at hb
      simp only [VR] at hv ⊢
      obtain ⟨h1, g1, o1, e1, h2, h3⟩ := hv
      obtain ⟨o', e2, k1, k2⟩ := hold id' hne _ _ e1
      exact ⟨h1, g1, o', e2, h2, fun hg hd => h3 hg (k1 hd)⟩
theorem frzL_VRs {hf hf' : Objs} {I I' : Mem} {id g : Nat} {esz : Mk} {cs : List T} (hI : MLe I I') (hold : ∀ m, m ≠ id → ∀ g o, hf m = some (g, o) → ∃ o', hf' m = some (g, o') ∧ (o' ≠ .dead → o ≠ .dead) ∧ ∀ pu esz cs, o' = .row pu esz cs → ∃ pu' cs', o = .row pu' esz cs')
    (hrow : ∀ off n v, VR ρ hf I (.ref id g off n) v → PV I' (.sl n ((cs.drop off).take (n * szOf esz))) v) (hptr : ∀ off v, VR ρ hf I (.p id g off) v → PV I' (.rp cs off) v) :
    ∀ (ts : List T) (vs : List Value), VRs ρ hf I ts vs → VRs ρ hf' I' (frzL id g esz cs ts) vs
  | [], _, hv => by simpa [frzL, VRs] using hv
  | t :: ts, vs, hv => by
    simp only [frzL, VRs] at hv ⊢
    obtain ⟨v, r, e, h1, h2⟩ := hv
    exact ⟨v, r, e, frzT_VR hI hold hrow hptr t v h1, frzL_VRs hI hold hrow hptr ts r h2⟩
end
theorem frzL_length {id g : Nat} {esz : Mk} {cs : List T} : ∀ l : List T, (frzL id g esz cs l).length = l.length
  | [] => rfl
  | t :: l => by simp [frzL, frzL_length l]
/-- An object that is written no more: what refers to it holds its cells for good. -/
theorem frz_sr {E : Ent} {e e' : Env} {h' : Heap} {id : Nat} {a : Act} {w : World} (hz : frz id e h = some (e', h')) (sr : SR C E (look e) (hlook h) [] ρ I a w) :
    ∃ I', SR C E (look e') (hlook h') [] ρ I' a w := by
  unfold frz at hz
  split at hz
  · rename_i g pu esz cs hi
    split at hz
    · rename_i hp
      rw [frzE_eq, frzH_eq] at hz
      simp only [Option.some.injEq, Prod.mk.injEq] at hz
      obtain ⟨rfl, rfl⟩ := hz
      obtain ⟨c, ce, fz, q1, q2, q3, q4, q5, q6, q7⟩ := row_cells sr.hs hi
      have hpv : PVs I cs (c.toList.take cs.length) := by
        cases pu with
        | true => exact q7 rfl
        | false => exact plainL_pvs hp q4
      let I' : Mem := fun a => if a.block = (ρ id).1 ∧ a.spot = none ∧ a.off < cs.length then c[a.off]? else I a
      have hI : MLe I I' := fun ad v hv => by
        show (if _ then _ else _) = _
        rw [if_neg (fun hh => sr.hs.dis _ _ _ _ _ hv hi trivial hh.1)]; exact hv
      have hin : ∀ j v, (c.toList.take cs.length)[j]? = some v → I' ⟨(ρ id).1, j, none⟩ = some v := by
        intro j v hj
        rw [List.getElem?_take] at hj
        split at hj
        · rename_i hlt
          show (if _ then _ else _) = _
          rw [if_pos ⟨rfl, rfl, hlt⟩]; simpa using hj
        · cases hj
      have hpv' := PVs.mono hI _ _ hpv
      have hnew : ∀ m, hlook ((id, g, Obj.dead) :: h.map fun x => (x.1, x.2.1, frzO id g esz cs x.2.2)) m = if m = id then some (g, .dead) else (hlook h m).map fun x => (x.1, frzO id g esz cs x.2) := by
        intro m
        simp only [hlook]
        by_cases hm : m = id
        · subst hm; simp
        · rw [if_neg hm, ← hlook_map]
          cases hb : Nat.beq id m with
          | true => exact absurd (Nat.eq_of_beq_eq_true hb).symm hm
          | false => rfl
      have hold : ∀ m, m ≠ id → ∀ g1 o, hlook h m = some (g1, o) → ∃ o', hlook ((id, g, Obj.dead) :: h.map fun x => (x.1, x.2.1, frzO id g esz cs x.2.2)) m = some (g1, o') ∧ (o' ≠ .dead → o ≠ .dead) ∧ ∀ pu esz cs, o' = .row pu esz cs → ∃ pu' cs', o = .row pu' esz cs' := by
        intro m hm g1 o ho
        refine ⟨frzO id g esz cs o, by rw [hnew, if_neg hm, ho]; rfl, ?_, ?_⟩
        · cases o with
          | dead => simp [frzO]
          | it => simp
          | row => simp
        · intro pu' s l e
          cases o with
          | dead => simp [frzO] at e
          | it => simp [frzO] at e
          | row pu1 s1 l1 =>
            cases pu1 with
            | true => simp only [frzO, Obj.row.injEq] at e; obtain ⟨_, rfl, _⟩ := e; exact ⟨_, _, rfl⟩
            | false => simp only [frzO, Obj.row.injEq] at e; obtain ⟨_, rfl, _⟩ := e; exact ⟨_, _, rfl⟩
      have hrow : ∀ off n v, VR ρ (hlook h) I (.ref id g off n) v → PV I' (.sl n ((cs.drop off).take (n * szOf esz))) v := by
        intro off n v hv
        obtain ⟨b, cap, rfl, c1, c2, c3⟩ := VR_ref hv hi
        simp only [PV]
        refine ⟨_, _, ((c.toList.take cs.length).drop off).take (n * szOf esz), rfl, ⟨c3, by simp⟩, (hpv'.drop _).take _, rfl, fun j v hj => ?_⟩
        rw [List.getElem?_take] at hj
        split at hj
        · rename_i hlt
          have hb : b = off := c1.resolve_right (fun e0 => by
            have : n = 0 := by omega
            rw [this] at hlt; simp at hlt)
          subst hb
          rw [List.getElem?_drop] at hj
          exact hin _ _ hj
        · cases hj
      have hptr : ∀ off v, VR ρ (hlook h) I (.p id g off) v → PV I' (.rp cs off) v := by
        intro off v hv
        obtain rfl := VR_p hv hi
        simp only [PV]
        exact ⟨(ρ id).1, 0, c.toList.take cs.length, by simp, hpv', rfl, fun j v hj => by rw [Nat.zero_add]; exact hin j v hj⟩
      refine ⟨I', sr.glob.mono hI, ⟨fun ad v hv => ?_, fun m g1 o ho => ?_, fun m m' g1 o1 g2 o2 ho ho' l l' hne => ?_, fun ad v m g1 o ha ho l => ?_⟩,
        ⟨sr.ext.os, sr.ext.tape, sr.ext.output, sr.ext.size, sr.ext.blk, fun ad v hv => hI _ _ (sr.ext.sub _ _ hv), fun ad v hv => ?_, fun m g1 o ho l => ?_⟩, fun m g1 o ho => ?_, fun n => ?_, sr.sz, sr.dfs⟩
      · change (if _ then _ else _) = _ at hv
        split at hv
        · rename_i hh
          obtain ⟨blk, off, sp⟩ := ad
          obtain ⟨e1, e2, e3⟩ := hh
          simp only at e1 e2 e3
          subst e2
          rw [e1, cell_of q1]; exact hv
        · exact sr.hs.mem _ _ hv
      · rw [hnew] at ho
        by_cases hm : m = id
        · rw [if_pos hm] at ho; simp only [Option.some.injEq, Prod.mk.injEq] at ho; obtain ⟨_, rfl⟩ := ho; trivial
        · rw [if_neg hm] at ho
          cases hx : hlook h m with
          | none => rw [hx] at ho; cases ho
          | some x =>
            rw [hx] at ho
            simp only [Option.map_some, Option.some.injEq, Prod.mk.injEq] at ho
            obtain ⟨rfl, rfl⟩ := ho
            obtain ⟨g1, o⟩ := x
            have hob := sr.hs.obj _ _ _ hx
            cases o with
            | dead => trivial
            | it l p => exact hob
            | row pu1 s1 l1 =>
              obtain ⟨c', ce', fz', r1, r2, r3, r4⟩ := hob
              cases pu1 with
              | true => exact ⟨c', ce', fz', r1, r2, r3, PVs.mono hI _ _ r4⟩
              | false =>
                refine ⟨c', ce', fz', r1, r2, by rw [frzL_length]; exact r3, ?_⟩
                rw [frzL_length]
                exact frzL_VRs hI hold hrow hptr _ _ r4
      · have f : ∀ {m g1 o1}, hlook ((id, g, Obj.dead) :: h.map fun x => (x.1, x.2.1, frzO id g esz cs x.2.2)) m = some (g1, o1) → o1.live → m ≠ id ∧ ∃ g0 o0, hlook h m = some (g0, o0) ∧ o0.live := by
          intro m g1 o1 ho l
          rw [hnew] at ho
          by_cases hm : m = id
          · rw [if_pos hm] at ho; simp only [Option.some.injEq, Prod.mk.injEq] at ho; obtain ⟨_, rfl⟩ := ho; exact l.elim
          · rw [if_neg hm] at ho
            cases hx : hlook h m with
            | none => rw [hx] at ho; cases ho
            | some x =>
              rw [hx] at ho
              simp only [Option.map_some, Option.some.injEq, Prod.mk.injEq] at ho
              obtain ⟨_, rfl⟩ := ho
              refine ⟨hm, x.1, x.2, rfl, ?_⟩
              cases hx2 : x.2 <;> rw [hx2] at l <;> first | exact l | trivial
        obtain ⟨_, _, _, a1, b1⟩ := f ho l
        obtain ⟨_, _, _, a2, b2⟩ := f ho' l'
        exact sr.hs.inj _ _ _ _ _ _ a1 a2 b1 b2 hne
      · rw [hnew] at ho
        by_cases hm : m = id
        · rw [if_pos hm] at ho; simp only [Option.some.injEq, Prod.mk.injEq] at ho; obtain ⟨_, rfl⟩ := ho; exact l.elim
        · rw [if_neg hm] at ho
          cases hx : hlook h m with
          | none => rw [hx] at ho; cases ho
          | some x =>
            rw [hx] at ho
            simp only [Option.map_some, Option.some.injEq, Prod.mk.injEq] at ho
            obtain ⟨_, rfl⟩ := ho
            have hl0 : x.2.live := by cases hx2 : x.2 <;> rw [hx2] at l <;> first | exact l | trivial
            change (if _ then _ else _) = _ at ha
            split at ha
            · rename_i hh
              rw [hh.1]; exact sr.hs.inj _ _ _ _ _ _ hi hx trivial hl0 (Ne.symm hm)
            · exact sr.hs.dis _ _ _ _ _ ha hx hl0
      · change (if _ then _ else _) = _ at hv
        split at hv
        · rename_i hh
          rw [hh.1]; exact .inr (sr.ext.own _ _ _ hi trivial)
        · exact sr.ext.new _ _ hv
      · rw [hnew] at ho
        by_cases hm : m = id
        · rw [if_pos hm] at ho; simp only [Option.some.injEq, Prod.mk.injEq] at ho; obtain ⟨_, rfl⟩ := ho; exact l.elim
        · rw [if_neg hm] at ho
          cases hx : hlook h m with
          | none => rw [hx] at ho; cases ho
          | some x =>
            rw [hx] at ho
            simp only [Option.map_some, Option.some.injEq, Prod.mk.injEq] at ho
            obtain ⟨_, rfl⟩ := ho
            have hl0 : x.2.live := by cases hx2 : x.2 <;> rw [hx2] at l <;> first | exact l | trivial
            exact sr.ext.own _ _ _ hx hl0
      · obtain ⟨g2, o2, e2, l2, k2⟩ := sr.hle m g1 o ho
        by_cases hm : m = id
        · subst hm
          rw [hi] at e2; simp only [Option.some.injEq, Prod.mk.injEq] at e2; obtain ⟨rfl, rfl⟩ := e2
          exact ⟨g, .dead, by rw [hnew, if_pos rfl], l2, fun _ hd => absurd rfl hd⟩
        · obtain ⟨o3, e3, k3, k4⟩ := hold m hm _ _ e2
          refine ⟨g2, o3, e3, l2, fun hg hd => ?_⟩
          obtain ⟨a1, a2, a3⟩ := k2 hg (k3 hd)
          exact ⟨a1, a2, fun pu s l e => by obtain ⟨pu', cs', e4⟩ := k4 _ _ _ e; exact a3 _ _ _ e4⟩
      · rw [look_map (frzT id g esz cs) (by simp [frzT])]
        exact frzT_VR hI hold hrow hptr _ _ (sr.env n)
    · cases hz
  · cases hz
theorem g_frz {k : List Item} {e e' : Env} {h' : Heap} (id : Nat) (hz : frz id e h = some (e', h')) (g : G P C nt kp Φ k e' h' []) : G P C nt kp Φ k e h [] :=
  fun hk E ρ I a w hE hp sr => let ⟨I', sr'⟩ := frz_sr hz sr; g hk E ρ I' a w hE hp sr'

/-! ### Contracts -/
def resV (C : Ctx) (e : Env) (h : Heap) : ResultVar → Option T
  | .tmp t => some (look e t)
  | .cell a t => match aLoad C (hlook h) t (look e a) .a with
    | some ⟨r, _, _, []⟩ => some r
    | _ => none
def resL (C : Ctx) (e : Env) (h : Heap) : List ResultVar → Option (List T)
  | [] => some []
  | x :: l => match resV C e h x, resL C e h l with
    | some t, some ts => some (t :: ts)
    | _, _ => none
def resT (C : Ctx) (e : Env) (h : Heap) (rs : List ResultVar) : Option T := match resL C e h rs with
  | some [t] => some t
  | some ts => some (.tup ts)
  | none => none
theorem resV_run {E : Ent} {e : Env} {ds : Ds} {a : Act} {w : World} (hT : TabOk P C) (sr : SR C E (look e) (hlook h) ds ρ I a w) {x : ResultVar} {t : T} (hr : resV C e h x = some t) :
    ∃ v, ((match x with | .tmp t => pure (a.tmps.getD t undef) | .cell p t => do loadVar t (← asAddr (a.tmps.getD p undef)) : Sem Value)).run P w = .ok v w ∧ VR ρ (hlook h) I t v := by
  cases x with
  | tmp s => simp only [resV, Option.some.injEq] at hr; subst hr; exact ⟨_, rfl, sr.env s⟩
  | cell p ty =>
    simp only [resV] at hr
    split at hr
    · rename_i r d u heq
      simp only [Option.some.injEq] at hr; subst hr
      obtain ⟨h1, v, h2, h3⟩ := load_ok (w := w) hT sr.hs heq (fun p hp => by simp at hp) (sr.env p)
      refine ⟨v, ?_, h3⟩
      unfold Instr.loadAt Instr.sureAddr at h2
      cases hv : a.tmps.getD p undef with
      | pointer ad => 
        cases ad with
        | some ad =>
          rw [hv] at h2
          show Sem.run P (do loadVar ty (← asAddr (a.tmps.getD p undef))) w = _
          rw [hv]
          simp only [Sem.run_bind, Sem.run_pure, Result.andThen_ok] at h2
          simp only [asAddr, Sem.run_bind, Sem.run_pure, Result.andThen_ok]
          exact h2
        | none => rw [hv] at h2; simp at h2
      | _ => rw [hv] at h2; simp at h2
    · cases hr
theorem resL_run {E : Ent} {e : Env} {ds : Ds} {a : Act} {w : World} (hT : TabOk P C) (sr : SR C E (look e) (hlook h) ds ρ I a w) : ∀ {l : List ResultVar} {ts : List T}, resL C e h l = some ts →
    ∃ vs, (l.mapM (fun x => (match x with | .tmp t => pure (a.tmps.getD t undef) | .cell p t => do loadVar t (← asAddr (a.tmps.getD p undef)) : Sem Value))).run P w = .ok vs w ∧ VRs ρ (hlook h) I ts vs
  | [], ts, hr => by simp only [resL, Option.some.injEq] at hr; subst hr; exact ⟨[], by simp, rfl⟩
  | x :: l, ts, hr => by
    simp only [resL] at hr
    split at hr
    · rename_i t ts' h1 h2
      simp only [Option.some.injEq] at hr; subst hr
      obtain ⟨v, a1, a2⟩ := resV_run hT sr h1
      obtain ⟨vs, b1, b2⟩ := resL_run hT sr h2
      refine ⟨v :: vs, ?_, v, vs, rfl, a2, b2⟩
      rw [List.mapM_cons]
      simp only [Sem.run_bind, a1, Result.andThen_ok, b1, Sem.run_pure]
    · cases hr
theorem resT_run {E : Ent} {e : Env} {ds : Ds} {a : Act} {w : World} {fn : Func} (hT : TabOk P C) (sr : SR C E (look e) (hlook h) ds ρ I a w) {t : T} (hr : resT C e h fn.results.toList = some t) :
    ∃ v, (results fn a.tmps).run P w = .ok v w ∧ VR ρ (hlook h) I t v := by
  unfold resT at hr
  have key : ∀ {ts : List T}, resL C e h fn.results.toList = some ts → ∃ vs, (results fn a.tmps).run P w = .ok (if h : (⟨vs⟩ : Array Value).size = 1 then (⟨vs⟩ : Array Value)[0] else .tuple ⟨vs⟩) w ∧ VRs ρ (hlook h) I ts vs := by
    intro ts h1
    obtain ⟨vs, a1, a2⟩ := resL_run hT sr h1
    refine ⟨vs, ?_, a2⟩
    unfold results
    rw [Array.mapM_eq_mapM_toList]
    simp only [Sem.run_bind, Sem.run_map]
    exact (congrArg (fun r : Result (List Value) => Result.andThen (Result.andThen r (fun a w' => .ok a.toArray w')) (fun vs w' => Sem.run P (pure (if h : vs.size = 1 then vs[0] else .tuple vs)) w')) a1).trans (by simp)
  split at hr
  · rename_i t' h1
    simp only [Option.some.injEq] at hr; subst hr
    obtain ⟨vs, a1, a2⟩ := key h1
    obtain ⟨v, rfl, hv⟩ := VRs_one a2
    exact ⟨v, by simpa using a1, hv⟩
  · rename_i ts hne h1
    simp only [Option.some.injEq] at hr; subst hr
    obtain ⟨vs, a1, a2⟩ := key h1
    have hl := a2.length
    have : ¬ (⟨vs⟩ : Array Value).size = 1 := fun e1 => by
      have : ts.length = 1 := by rw [← hl]; exact e1
      obtain ⟨t, rfl⟩ := List.length_eq_one_iff.1 this
      exact hne t rfl
    rw [dif_neg this] at a1
    exact ⟨_, a1, ⟨vs, rfl, a2⟩⟩
  · cases hr
def enumA : List T → Nat → Env
  | [], _ => []
  | t :: l, n => (n, t) :: enumA l (n + 1)
theorem enumA_look : ∀ (l : List T) (k n : Nat), look (enumA l k) n = if k ≤ n then (l[n - k]?).getD .top else .top
  | [], k, n => by simp [enumA, look]
  | t :: l, k, n => by
    simp only [enumA, look]
    cases hb : Nat.beq k n with
    | true => obtain rfl := Nat.eq_of_beq_eq_true hb; simp
    | false =>
      have hne : k ≠ n := fun e => by subst e; simp at hb
      simp only [enumA_look l (k + 1) n]
      by_cases hk : k + 1 ≤ n
      · rw [if_pos hk, if_pos (by omega), show n - k = (n - (k + 1)) + 1 by omega, List.getElem?_cons_succ]
      · rw [if_neg hk]
        by_cases hk' : k ≤ n
        · omega
        · rw [if_neg hk']
/-- The end of a function: its result, and the objects that it leaves. -/
def RetP (C : Ctx) (rs : Array ResultVar) (kp : List Nat) (r : T) (hout : Heap) : APost := fun x e h ds =>
  (match x with | .ret => True | .normal => True | _ => False) ∧ ds = [] ∧ (match resT C e h rs.toList with | some t => tle h hout t r | none => False) ∧ heapLE h hout hout ∧ keepLE h hout kp
/-- A CONTRACT out of a function's code. -/
theorem hret_of {f : FuncId} {fn : Func} {c : Code} {args : List T} {hin hout : Heap} {r : T} (hT : TabOk P C) (hf : P.funcs[f]? = some fn) (hb : fn.body = some c) (hnm : (fn.name == "runtime.NumGoroutine") = false) (hc : cOk c = true)
    (hlen : Nat.ble args.length fn.ntmps = true) (g : G P C fn.ntmps (ids hin) (RetP C fn.results (ids hin) r hout) [.code c] (enumA args 0) hin []) : HRet P C f args hin r hout := by
  refine ⟨⟨fn, hf, hnm, by rw [hb]; rfl⟩, fun ρ I w vals hglob hs hv => ?_⟩
  have hvl := hv.length
  have hle : args.length ≤ fn.ntmps := Nat.le_of_ble_eq_true hlen
  refine calls_of_wp hf hb ?_
  have hsr : SR C ⟨w, owned ρ (hlook hin), I, ρ, hlook hin, fn.ntmps⟩ (look (enumA args 0)) (hlook hin) [] ρ I { tmps := ⟨vals⟩ ++ Array.replicate (fn.ntmps - (⟨vals⟩ : Array Value).size) undef, defers := [] } w := by
    refine ⟨hglob, hs, ⟨rfl, rfl, rfl, Nat.le_refl _, fun _ _ _ => rfl, fun _ _ h => h, fun _ _ h => .inl h, fun id g o h l => .inr ⟨id, g, o, h, l, rfl⟩⟩, HLe.refl _ _, fun n => ?_, ?_, rfl⟩
    · rw [enumA_look]
      simp only [Nat.zero_le, if_true, Nat.sub_zero]
      cases hn : args[n]? with
      | none => simp [VR]
      | some t =>
        obtain ⟨v, e1, e2⟩ := hv.get _ _ hn
        have hlt : n < vals.length := (List.getElem?_eq_some_iff.1 e1).1
        have : (({ toList := vals } ++ Array.replicate (fn.ntmps - ({ toList := vals } : Array Value).size) undef : Array Value)).getD n undef = v := by
          rw [Array.getD_eq_getD_getElem?, Array.getElem?_append_left (by simpa using hlt)]
          simp [e1]
        rw [this]; exact e2
    · simp; omega
  refine wp_mono (g (kOk_one hc) ⟨w, owned ρ (hlook hin), I, ρ, hlook hin, fn.ntmps⟩ ρ I _ w rfl (fun id x hx => look_ids hx) hsr) ?_
  intro x a w' hq
  have hq' : Post C ⟨w, owned ρ (hlook hin), I, ρ, hlook hin, fn.ntmps⟩ (RetP C fn.results (ids hin) r hout) x a w' := by cases x <;> exact hq
  obtain ⟨e, h, ds, ρ', I', sr, h1, rfl, h2, h3, h4⟩ := hq'
  split at h2
  · rename_i t ht
    obtain ⟨v, r1, r2⟩ := resT_run hT sr ht
    have hle' : LE (ids hin) [(0, t)] h [(0, r)] hout := ⟨⟨h2, trivial⟩, h3, h4⟩
    have hsr2 : SR C ⟨w, owned ρ (hlook hin), I, ρ, hlook hin, fn.ntmps⟩ (look []) (hlook hout) [] ρ' I' a w' := LE.sr (kp := ids hin) (e := e) (e' := []) ⟨trivial, h3, h4⟩ (fun id x hx => look_ids hx) sr
    have hfin : ∃ v, (results fn a.tmps).run P w' = .ok v w' ∧ ∃ v' r' ρ'' hout' I'', Ending.returned v = .returned v' ∧ VR ρ'' (hlook hout') I'' r' v' ∧ HS ρ'' (hlook hout') I'' w' ∧
        Ext w (owned ρ (hlook hin)) I ρ'' (hlook hout') I'' w' ∧ HLe ρ (hlook hin) ρ'' (hlook hout') ∧ r' = r ∧ hout' = hout :=
      ⟨v, r1, v, r, ρ', hout, I', rfl, tle_VR (heapLE_get h3) _ _ _ h2 r2, hsr2.hs, hsr2.ext, hsr2.hle, rfl, rfl⟩
    cases x with
    | normal => exact ⟨sr.dfs, hfin⟩
    | ret => exact ⟨sr.dfs, hfin⟩
    | exit id => exact h1.elim
    | goto l => exact h1.elim
    | panic ch => exact h1.elim
    | outgrown => exact h1.elim
  · exact h2.elim
end
end Go.Proofs.YtdiippegaidpkaaDoor.Vm
