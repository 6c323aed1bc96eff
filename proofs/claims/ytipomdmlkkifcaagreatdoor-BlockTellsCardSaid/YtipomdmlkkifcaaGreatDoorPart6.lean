/- Texts of one proof, gathered: Builder Builder2. -/
import Derived.Test.YtipomdmlkkifcaaGreatDoorPart5
import Derived.Test.YtipomdmlkkifcaaGreatDoorPart3
import Derived.Shelf.Strings.Builder1
import Derived.Shelf.RegionOpenPlain
import Derived.WalkKit
set_option linter.unusedSimpArgs false
set_option linter.unusedVariables false
set_option linter.unnecessarySimpa false
/- Contracts: strings.Builder: copyCheck, WriteString, String; strings.Contains, CutPrefix. -/
set_option maxRecDepth 100000
namespace Go.Proofs.YtipomdmlkkifcaaGreatDoor.Vm
open Go Go.Proofs Go.RowKit Go.Shelf
variable {ml : Int}
abbrev bT : Nat := 102
theorem lays240 : Lays.n240 P Tryz.lays165_ren := { Tryz.lays165 with }
/-- What a pointer to an object of a type looks like. -/
theorem obj_of {ρ : Place} {I : Mem} {w : World} {h : Heap} {id g : Nat} {t : TypeId} {cs : List T} (hs : HS ρ (hlook h) I w) (hi : hlook h id = some (g, .row false (.cell t) cs)) :
    ∃ c fz, w.heap[(ρ id).1]? = some (.cells c t fz) ∧ c.size = cs.length ∧ c.size = (ρ id).2 ∧ Thawed fz c.size ∧ VRs ρ (hlook h) I cs c.toList := by
  obtain ⟨c, e, fz, h1, h2, h3, h4⟩ := hs.obj _ _ _ hi
  obtain ⟨rfl, h5⟩ := h3.2.1 _ rfl
  refine ⟨c, fz, h1, h5, h2, h3.1, ?_⟩
  simp only [Bool.false_eq_true, if_false] at h4
  rwa [List.take_of_length_le (by rw [Array.length_toList]; omega)] at h4
theorem copyCheck_used (b g : Nat) (c : T) (rest : Heap) : HRet P (C ml) 133 [.p b g 0] ((b, g, .row false (.cell bT) [.p b g 0, c]) :: rest) (.tup []) ((b, g, .row false (.cell bT) [.p b g 0, c]) :: rest) := by
  refine ⟨callable_of Tryz.func133 rfl rfl, fun ρ I w vals hg hs hv => ?_⟩
  have hl : hlook ((b, g, Obj.row false (.cell bT) [.p b g 0, c]) :: rest) b = some (g, .row false (.cell bT) [.p b g 0, c]) := by simp [hlook]
  obtain ⟨v, _, rfl, hv, rfl⟩ := hv
  obtain rfl := VR_p hv hl
  obtain ⟨cc, fz, h1, h2, h3, h4, h5⟩ := obj_of hs hl
  have h0 : w.cell? ⟨(ρ b).1, 0, none⟩ = some (.pointer (some ⟨(ρ b).1, 0, none⟩)) := by
    simp only [VRs] at h5
    obtain ⟨x, _, e, hx, y, _, rfl, hy, rfl⟩ := h5
    obtain rfl := VR_p hx hl
    rw [cell_of h1, ← Array.getElem?_toList, e]; rfl
  refine (Any.Builder_copyCheck_used lays240 Tryz.Builder_Extra_165.toX72 (ρ b).1 w h0).mono ?_
  rintro e w' ⟨rfl, rfl⟩
  exact ⟨_, .tup [], ρ, _, I, rfl, by simp only [VR, VRs]; exact ⟨_, rfl, rfl⟩, hs, Ext.refl, HLe.refl _ _, rfl, rfl⟩
theorem copyCheck_fresh (b g : Nat) (c : T) : HRet P (C ml) 133 [.p b g 0] [(b, g, .row false (.cell bT) [.np, c])] (.tup []) [(b, g, .row false (.cell bT) [.p b g 0, c])] := by
  refine ⟨callable_of Tryz.func133 rfl rfl, fun ρ I w vals hg hs hv => ?_⟩
  have hl : hlook [(b, g, Obj.row false (.cell bT) [.np, c])] b = some (g, .row false (.cell bT) [.np, c]) := by simp [hlook]
  obtain ⟨v, _, rfl, hv, rfl⟩ := hv
  obtain rfl := VR_p hv hl
  obtain ⟨cc, fz, h1, h2, h3, h4, h5⟩ := obj_of hs hl
  have h2' : cc.size = 2 := h2
  have h0 : w.cell? ⟨(ρ b).1, 0, none⟩ = some (.pointer none) := by
    simp only [VRs] at h5
    obtain ⟨x, _, e, hx, y, _, rfl, hy, rfl⟩ := h5
    have hx : x = .pointer none := hx
    subst hx
    rw [cell_of h1, ← Array.getElem?_toList, e]; rfl
  have hsh : w.shape? (ρ b).1 = some (bT, 2) := by simp [World.shape?, h1, h2']
  have hfz : w.frozen? ⟨(ρ b).1, 0, none⟩ = false := by
    have := h4 0 (by omega)
    simp only [World.frozen?, h1]
    simpa using this
  refine (Any.Builder_copyCheck_fresh lays240 Tryz.Builder_Extra_165.toX72 (ρ b).1 w h0 hsh hfz).mono ?_
  rintro e w' ⟨rfl, rfl⟩
  have hup : hlook [(b, g, Obj.row false (.cell bT) [.p b g 0, c])] = updH (hlook [(b, g, Obj.row false (.cell bT) [.np, c])]) [(b, g, Obj.row false (.cell bT) [.p b g 0, c])] := by
    funext n
    rw [updH_one]
    simp only [hlook]
    by_cases e : b = n
    · subst e; simp
    · rw [if_neg e]
      cases hb : Nat.beq b n with
      | true => exact absurd (Nat.eq_of_beq_eq_true hb) e
      | false => rfl
  have hle : HLe ρ (hlook [(b, g, Obj.row false (.cell bT) [.np, c])]) ρ (updH (hlook [(b, g, Obj.row false (.cell bT) [.np, c])]) [(b, g, Obj.row false (.cell bT) [.p b g 0, c])]) := same_HLe hl
  have hb : ∀ k, k ≠ (ρ b).1 → (w.setCell ⟨(ρ b).1, 0, none⟩ (.pointer (some ⟨(ρ b).1, 0, none⟩))).heap[k]? = w.heap[k]? := fun k hk => by
    simp only [World.setCell, Array.getElem?_modify]
    rw [if_neg (Ne.symm hk)]
  have hme : (w.setCell ⟨(ρ b).1, 0, none⟩ (.pointer (some ⟨(ρ b).1, 0, none⟩))).heap[(ρ b).1]? = some (.cells (cc.setIfInBounds 0 (.pointer (some ⟨(ρ b).1, 0, none⟩))) bT fz) := by
    simp only [World.setCell, Array.getElem?_modify, if_pos, h1]
    rfl
  refine ⟨_, .tup [], ρ, _, I, rfl, by simp only [VR, VRs]; exact ⟨_, rfl, rfl⟩, ?_, ?_, ?_, rfl, rfl⟩
  · rw [hup]
    refine write_HS hs hl trivial hb hle ⟨_, bT, fz, hme, by simp [h3], ⟨by simpa using h4, fun t ht => ⟨Mk.cell.inj ht, by simpa using h2'⟩, fun t s ht => by cases ht⟩, ?_⟩
    simp only [Bool.false_eq_true, if_false]
    simp only [VRs] at h5 ⊢
    obtain ⟨x, _, e, hx, y, _, rfl, hy, rfl⟩ := h5
    refine ⟨.pointer (some ⟨(ρ b).1, 0, none⟩), [y], ?_, VR_p_mk (by rw [updH_one, if_pos rfl]), y, [], rfl, VR.mono (MLe.refl _) hle _ _ hy, rfl⟩
    rw [Array.toList_setIfInBounds, e]; rfl
  · rw [hup]
    exact write_Ext (w := w) (w' := w.setCell ⟨(ρ b).1, 0, none⟩ (.pointer (some ⟨(ρ b).1, 0, none⟩))) (ρ := ρ) Ext.refl hl trivial rfl rfl rfl (by simp [World.setCell]) hb g
  · rw [hup]; exact hle
abbrev oB (g : Nat) (cs : List T) : Nat × Obj := (g, .row false (.cell bT) cs)
abbrev oR (g : Nat) (l : List UInt8) : Nat × Obj := (g, .row true (.row 1 5) (bytesT l))
theorem bytesT_plain' (l : List UInt8) : plainL (bytesT l) = true := bytesT_plain l
theorem bytesT_len (l : List UInt8) : (bytesT l).length = l.length := by simp [bytesT]
theorem bytesT_app (l m : List UInt8) : bytesT l ++ bytesT m = bytesT (l ++ m) := by simp [bytesT]
/-- WriteString at a builder that has no bytes yet. -/
theorem writeString_fresh (s : List UInt8) (h1 : s ≠ []) (h2 : s.length ≤ 100000000) : HRet P (C ml) 71 [.p 100 0 0, .s s] [(100, oB 0 [.np, .nsl])] (.tup [.i .i64 s.length, .nif]) [(100, oB 0 [.p 100 0 0, .ref 14 0 0 s.length]), (14, oR 0 s)] := by
  refine hR Tryz.func71 ?_
  have k1 := copyCheck_fresh (ml := ml) 100 0 .nsl
  have h3 : 0 < s.length := List.length_pos_iff.2 h1
  have h4 := bytesT_len s
  have z1 : (tin (C ml) 5).size = 1 := rfl
  have z2 : (tin (C ml) 5).bytes = 1 := rfl
  have h5 : 0 < s.length ∧ s.length * (tin (C ml) 5).size = (bytesT s).length ∧ s.length * (tin (C ml) 5).bytes ≤ 140737488355328 ∧ s.length ≤ 140737488355328 := by rw [z1, z2, h4]; omega
  refine gFs [ch k1] rfl (ret_of rfl ?_ ?_ ?_)
  · exact ⟨rfl, rfl, rfl⟩
  · exact ⟨⟨rfl, rfl, ⟨rfl, rfl, rfl, rfl⟩, ⟨rfl, rfl, rfl, rfl, rfl⟩, rfl⟩, ⟨rfl, rfl, by simp [bytesT_plain']⟩, trivial⟩
  · exact ⟨rfl, trivial⟩
/-- WriteString at a builder that has some. -/
theorem writeString_used (l s : List UInt8) (h2 : l.length ≤ 100000000) (h3 : s.length ≤ 100000000) : HRet P (C ml) 71 [.p 100 0 0, .s s] [(100, oB 0 [.p 100 0 0, .ref 14 0 0 l.length]), (14, oR 0 l)] (.tup [.i .i64 s.length, .nif])
    [(100, oB 0 [.p 100 0 0, .ref 14 1 0 (l.length + s.length)]), (14, oR 1 (l ++ s))] := by
  refine hR Tryz.func71 ?_
  have k1 := copyCheck_used (ml := ml) 100 0 (.ref 14 0 0 l.length) [(14, oR 0 l)]
  have z1 : (tin (C ml) 5).size = 1 := rfl
  have z2 : (tin (C ml) 5).bytes = 1 := rfl
  have b1 := bytesT_len l
  have b2 := bytesT_len s
  have b3 := bytesT_plain' s
  have h5 : l.length * 1 = (bytesT l).length ∧ s.length * 1 = (bytesT s).length ∧ (l.length + s.length) * (tin (C ml) 5).bytes ≤ 140737488355328 ∧ l.length + s.length ≤ 140737488355328 ∧ (if true = true then plainL (bytesT s) else cellyL (bytesT s)) = true := by rw [z2, b1, b2, b3]; simp; omega
  refine gFs [ch k1] rfl (ret_of rfl ?_ ?_ ?_)
  · exact ⟨rfl, rfl, rfl⟩
  · exact ⟨⟨rfl, rfl, ⟨rfl, rfl, rfl, rfl⟩, ⟨rfl, rfl, rfl, rfl, rfl⟩, rfl⟩, ⟨rfl, bytesT_app l s, trivial⟩, trivial⟩
  · exact ⟨rfl, rfl, trivial⟩
set_option maxHeartbeats 2000000 in
/-- String at a builder with some bytes, told of worlds: they are frozen, and no more. -/
theorem string_calls (ρ : Go.Shelf.Ren) (L : Lays.n169 P ρ) (X : Builder.Extra P ρ) (l : List UInt8) (h0 : l ≠ []) (b g n cap : Nat) (p : Value) (cc : Array Value) (fz fz' : Nat × Nat) (w : World) (hbk : w.heap[b]? = some (.cells #[p, .slice (some ⟨g, 0, none⟩) l.length cap] (ρ.t 72) fz))
    (hg : w.heap[g]? = some (.cells cc (ρ.t 5) fz')) (hl : l.length ≤ cc.size) (hcap : cap ≠ 0) (hlim : l.length ≤ 100000000) (hc : ∀ (j : Nat) (x : UInt8), l[j]? = some x → cc[j]? = some (.int .u8 x.toNat)) :
    Calls P (ρ.f 169) #[.pointer (some ⟨b, 0, none⟩)] w fun e w' => e = .returned (.string ⟨l.toArray⟩) ∧ w' = w.drew.freeze ⟨g, 0, none⟩ l.length := by
  have hl0 : l.length ≠ 0 := by simpa using h0
  have c1 : w.drew.cell? ⟨b, 1, none⟩ = some (.slice (some ⟨g, 0, none⟩) l.length cap) := by
    have : w.drew.heap[b]? = some (.cells #[p, .slice (some ⟨g, 0, none⟩) l.length cap] (ρ.t 72) fz) := hbk
    rw [Lib.cell_of_heap this]; rfl
  have hSD : (Builtin.unsafeSliceData_ #[(ρ.t 37)] (ρ.t 127) #[.slice (some ⟨g, 0, none⟩) l.length cap]).run P w.drew = .ok (.pointer (some ⟨g, 0, none⟩)) w.drew :=
    Lib.run_unsafeSliceData_row _ _ _ _ _ _ hcap
  have hUS : (Builtin.unsafeString_ #[(ρ.t 127), (ρ.t 3)] (ρ.t 9) #[.pointer (some ⟨g, 0, none⟩), .int .i64 l.length]).run P w.drew = .ok (.string ⟨l.toArray⟩) (w.drew.freeze ⟨g, 0, none⟩ l.length) := by
    have hg' : w.drew.heap[g]? = some (.cells cc (ρ.t 5) fz') := hg
    refine Lib.run_unsafeString_row w.drew (ρ.t 127) (ρ.t 3) (ρ.t 9) (ρ.t 5) L.t127 X.cellsByte g cc.size (by simp [World.shape?, hg']) l h0 hl (by omega) ?_
    intro j x hx
    have := hc j x hx
    rw [show (⟨g, 0, none⟩ : Addr).add j = ⟨g, j, none⟩ from by rw [add_off, Nat.zero_add], Lib.cell_of_heap hg']
    exact this
  have mixed := L.mixed
  have t72 := L.t72; have a72 := L.a72; have z72 := L.z72; have v72 := L.v72; have u72 := run_underlying L.t72
  have t70 := L.t70; have a70 := L.a70; have z70 := L.z70; have v70 := L.v70; have u70 := run_underlying L.t70
  have t37 := L.t37; have a37 := L.a37; have z37 := L.z37; have v37 := L.v37; have u37 := run_underlying L.t37
  have t127 := L.t127; have a127 := L.a127; have z127 := L.z127; have v127 := L.v127; have u127 := run_underlying L.t127
  have t3 := L.t3; have a3 := L.a3; have z3 := L.z3; have v3 := L.v3; have u3 := run_underlying L.t3
  have t9 := L.t9; have a9 := L.a9; have z9 := L.z9; have v9 := L.v9; have u9 := run_underlying L.t9
  have t5 := X.t5; have a5 := X.a5; have z5 := X.z5; have v5 := X.v5; have u5 := run_underlying X.t5
  go_enter L.f169, Body.n169_ntmps ρ
  go_wp2
  go_region_o
  all_goals (go_wp2; go_ret; exact ⟨rfl, rfl⟩)
theorem builderStringG (q : Nat) (l : List UInt8) (h0 : l ≠ []) (hlim : l.length ≤ 100000000) : HRet P (C ml) 72 [.p 100 0 0] [(100, oB 0 [.p 100 0 0, .ref 14 q 0 l.length]), (14, oR q l)] (.s l) [(100, 0, .dead), (14, q, .dead)] := by
  refine ⟨callable_of Tryz.func72 rfl rfl, fun ρ I w vals hg hs hv => ?_⟩
  have hl1 : hlook [(100, oB 0 [.p 100 0 0, .ref 14 q 0 l.length]), (14, oR q l)] 100 = some (oB 0 [.p 100 0 0, .ref 14 q 0 l.length]) := rfl
  have hl2 : hlook [(100, oB 0 [.p 100 0 0, .ref 14 q 0 l.length]), (14, oR q l)] 14 = some (oR q l) := rfl
  obtain ⟨v, _, rfl, hv, rfl⟩ := hv
  obtain rfl := VR_p hv hl1
  obtain ⟨cc, fz, h1, h2, h3, h4, h5⟩ := obj_of hs hl1
  have hpos : 0 < l.length := List.length_pos_iff.2 h0
  simp only [VRs] at h5
  obtain ⟨x, _, e, hx, y, _, rfl, hy, rfl⟩ := h5
  obtain rfl := VR_p hx hl1
  obtain ⟨b, cap, rfl, c1, c2, c3⟩ := VR_ref hy hl2
  have hcap : cap ≠ 0 := by omega
  obtain rfl := c1.resolve_right hcap
  obtain ⟨c, ty, fz', q1, q2, q3, q4⟩ := hs.obj _ _ _ hl2
  obtain rfl := q3.2.2 _ _ rfl
  have q4 : PVs I (bytesT l) (c.toList.take (bytesT l).length) := q4
  rw [bytesT_len] at q4
  have hcs : l.length ≤ c.size := by
    rw [show szOf (.row 1 5) = 1 from rfl] at c2
    omega
  have hcc : cc = #[.pointer (some ⟨(ρ 100).1, 0, none⟩), .slice (some ⟨(ρ 14).1, 0, none⟩) l.length cap] := by
    cases cc; simp at e; subst e; rfl
  subst hcc
  have hcell : ∀ (j : Nat) (x : UInt8), l[j]? = some x → c[j]? = some (.int .u8 x.toNat) := fun j x hj => by
    obtain ⟨v, e1, e2⟩ := (PVs.vrs (ρ := ρ) (h := hlook []) _ _ q4).get j (.i .u8 (x.toNat : Int)) (by simp [bytesT, hj])
    have e2 : v = .int .u8 (x.toNat : Int) := e2
    subst e2
    rw [List.getElem?_take] at e1
    split at e1
    · simpa using e1
    · cases e1
  refine (string_calls Tryz.lays169_ren Tryz.lays169 Tryz.Builder_Extra_169 l h0 (ρ 100).1 (ρ 14).1 l.length cap _ c fz fz' w h1 q1 hcs hcap hlim hcell).mono ?_
  rintro e w' ⟨rfl, rfl⟩
  have hheap : ∀ k, k ≠ (ρ 14).1 → (w.drew.freeze ⟨(ρ 14).1, 0, none⟩ l.length).heap[k]? = w.heap[k]? := fun k hk => by
    simp only [World.freeze, World.drew]
    rw [if_neg (by omega)]
    simp only [Array.getElem?_modify]
    rw [if_neg (Ne.symm hk)]
  have hsize : (w.drew.freeze ⟨(ρ 14).1, 0, none⟩ l.length).heap.size = w.heap.size := by
    simp only [World.freeze, World.drew]
    rw [if_neg (by omega)]
    simp
  have hdead : ∀ id g o, hlook [(100, 0, Obj.dead), (14, q, Obj.dead)] id = some (g, o) → o = .dead := fun id g o h => by
    simp only [hlook] at h
    split at h
    · simp only [Option.some.injEq, Prod.mk.injEq] at h; exact h.2.symm
    · split at h
      · simp only [Option.some.injEq, Prod.mk.injEq] at h; exact h.2.symm
      · cases h
  have hin : ∀ id g o, hlook [(100, oB 0 [.p 100 0 0, .ref 14 q 0 l.length]), (14, oR q l)] id = some (g, o) → hlook [(100, 0, Obj.dead), (14, q, Obj.dead)] id = some (g, .dead) := fun id g o h => by
    simp only [hlook, oB, oR] at h ⊢
    split at h
    · rename_i e; simp only [Option.some.injEq, Prod.mk.injEq] at h; simp [e, h.1]
    · rename_i e
      split at h
      · rename_i e'; simp only [Option.some.injEq, Prod.mk.injEq] at h; simp [e, e', h.1]
      · cases h
  have hframe : (w.drew.freeze ⟨(ρ 14).1, 0, none⟩ l.length).os = w.os ∧ (w.drew.freeze ⟨(ρ 14).1, 0, none⟩ l.length).tape = w.tape ∧ (w.drew.freeze ⟨(ρ 14).1, 0, none⟩ l.length).output = w.output := by
    simp only [World.freeze, World.drew]
    rw [if_neg (by omega)]
    exact ⟨rfl, rfl, rfl⟩
  refine ⟨_, .s l, ρ, _, I, rfl, by simp [VR], ⟨fun a v h => ?_, fun id g o h => ?_, fun id id' g o g' o' h h' l l' => ?_, fun a v id g o _ h l => ?_⟩, ⟨hframe.1, hframe.2.1, hframe.2.2, by rw [hsize]; exact Nat.le_refl _, fun k hk hn => ?_, fun _ _ h => h, fun _ _ h => .inl h, fun id g o h l => ?_⟩, fun id g o h => ?_, rfl, rfl⟩
  · have hne := hs.dis a v 14 _ _ h hl2 trivial
    have := hheap a.block hne
    rw [← hs.mem a v h]; simp only [World.cell?, this]
  · rw [hdead _ _ _ h]; trivial
  · rw [hdead _ _ _ h] at l; exact l.elim
  · rw [hdead _ _ _ h] at l; exact l.elim
  · exact hheap k fun e => hn ⟨14, _, _, hl2, trivial, e.symm⟩
  · rw [hdead _ _ _ h] at l; exact l.elim
  · have h' := hin _ _ _ h
    exact ⟨_, .dead, h', Nat.le_refl _, fun _ hd => absurd rfl hd⟩
theorem builderString (l : List UInt8) (h0 : l ≠ []) (hlim : l.length ≤ 100000000) : HRet P (C ml) 72 [.p 100 0 0] [(100, oB 0 [.p 100 0 0, .ref 14 0 0 l.length]), (14, oR 0 l)] (.s l) [(100, 0, .dead), (14, 0, .dead)] := builderStringG 0 l h0 hlim
theorem renL_bytesT (a b : Nat) : ∀ l : List UInt8, renL a b (bytesT l) = bytesT l
  | [] => rfl
  | c :: l => by
    have := renL_bytesT a b l
    simp only [bytesT, List.map_cons, renL, renT] at this ⊢
    rw [this]
section
variable (b d : Nat) (h1 : d ≠ 100) (h2 : d ≠ b)
include h1 h2
theorem wsFresh (s : List UInt8) (hs : s ≠ []) (hl : s.length ≤ 100000000) : HRet P (C ml) 71 [.p b 0 0, .s s] [(b, oB 0 [.np, .nsl])] (.tup [.i .i64 s.length, .nif]) [(b, oB 0 [.p b 0 0, .ref d 0 0 s.length]), (d, oR 0 s)] := by
  have := hret_ren 100 b (hret_ren 14 d (writeString_fresh (ml := ml) s hs hl))
  simpa [renL, renH, renT, renO, oB, oR, renL_bytesT, sw_if, h1, h2, Ne.symm h1] using this
theorem wsUsed (l s : List UInt8) (hl : l.length ≤ 100000000) (hs : s.length ≤ 100000000) : HRet P (C ml) 71 [.p b 0 0, .s s] [(b, oB 0 [.p b 0 0, .ref d 0 0 l.length]), (d, oR 0 l)] (.tup [.i .i64 s.length, .nif])
    [(b, oB 0 [.p b 0 0, .ref d 1 0 (l.length + s.length)]), (d, oR 1 (l ++ s))] := by
  have := hret_ren 100 b (hret_ren 14 d (writeString_used (ml := ml) l s hl hs))
  simpa [renL, renH, renT, renO, oB, oR, renL_bytesT, sw_if, h1, h2, Ne.symm h1] using this
theorem bsUsedG (q : Nat) (l : List UInt8) (h0 : l ≠ []) (hl : l.length ≤ 100000000) : HRet P (C ml) 72 [.p b 0 0] [(b, oB 0 [.p b 0 0, .ref d q 0 l.length]), (d, oR q l)] (.s l) [(b, 0, .dead), (d, q, .dead)] := by
  have := hret_ren 100 b (hret_ren 14 d (builderStringG (ml := ml) q l h0 hl))
  simpa [renL, renH, renT, renO, oB, oR, renL_bytesT, sw_if, h1, h2, Ne.symm h1] using this
theorem bsUsed (l : List UInt8) (h0 : l ≠ []) (hl : l.length ≤ 100000000) : HRet P (C ml) 72 [.p b 0 0] [(b, oB 0 [.p b 0 0, .ref d 0 0 l.length]), (d, oR 0 l)] (.s l) [(b, 0, .dead), (d, 0, .dead)] := by
  have := hret_ren 100 b (hret_ren 14 d (builderString (ml := ml) l h0 hl))
  simpa [renL, renH, renT, renO, oB, oR, renL_bytesT, sw_if, h1, h2, Ne.symm h1] using this
end
end Go.Proofs.YtipomdmlkkifcaaGreatDoor.Vm
/- Contracts: strings.Builder: Len; String of one that has no bytes. -/
namespace Go.Proofs.YtipomdmlkkifcaaGreatDoor.Vm
open Go Go.Proofs Go.RowKit Go.Shelf
variable {ml : Int}
theorem builderLen0 (l : List UInt8) : HRet P (C ml) 117 [.p 100 0 0] [(100, oB 0 [.p 100 0 0, .ref 14 0 0 l.length]), (14, oR 0 l)] (.i .i64 l.length) [(100, oB 0 [.p 100 0 0, .ref 14 0 0 l.length]), (14, oR 0 l)] := by
  refine hR Tryz.func117 ?_
  refine gFs [] rfl (ret_of rfl ?_ ?_ ?_)
  · exact rfl
  · exact ⟨⟨rfl, rfl, ⟨rfl, rfl, rfl, rfl⟩, ⟨rfl, rfl, rfl, rfl, rfl⟩, rfl⟩, ⟨rfl, rfl, by simp [bytesT_plain']⟩, trivial⟩
  · exact ⟨rfl, rfl, trivial⟩
theorem builderLen1 (l : List UInt8) : HRet P (C ml) 117 [.p 100 0 0] [(100, oB 0 [.p 100 0 0, .ref 14 1 0 l.length]), (14, oR 1 l)] (.i .i64 l.length) [(100, oB 0 [.p 100 0 0, .ref 14 1 0 l.length]), (14, oR 1 l)] := by
  refine hR Tryz.func117 ?_
  refine gFs [] rfl (ret_of rfl ?_ ?_ ?_)
  · exact rfl
  · exact ⟨⟨rfl, rfl, ⟨rfl, rfl, rfl, rfl⟩, ⟨rfl, rfl, rfl, rfl, rfl⟩, rfl⟩, ⟨rfl, rfl, by simp [bytesT_plain']⟩, trivial⟩
  · exact ⟨rfl, rfl, trivial⟩
theorem builderLenF : HRet P (C ml) 117 [.p 100 0 0] [(100, oB 0 [.np, .nsl])] (.i .i64 0) [(100, oB 0 [.np, .nsl])] := by
  refine hR Tryz.func117 ?_
  refine gFs [] rfl (ret_of rfl ?_ ?_ ?_)
  · exact rfl
  · exact ⟨⟨rfl, rfl, rfl, rfl, rfl⟩, trivial⟩
  · exact ⟨rfl, trivial⟩
set_option maxHeartbeats 2000000 in
set_option maxRecDepth 100000 in
/-- String at a builder without bytes, told of worlds. -/
theorem string_nil_calls (ρ : Go.Shelf.Ren) (L : Lays.n169 P ρ) (X : Builder.Extra P ρ) (b : Nat) (p : Value) (fz : Nat × Nat) (w : World) (hbk : w.heap[b]? = some (.cells #[p, .slice none 0 0] (ρ.t 72) fz)) :
    Calls P (ρ.f 169) #[.pointer (some ⟨b, 0, none⟩)] w fun e w' => e = .returned (.string ⟨#[]⟩) ∧ w' = w.drew := by
  have hUS := Any.unsafeString_none L X
  have c1 : w.drew.cell? ⟨b, 1, none⟩ = some (.slice none 0 0) := by
    have : w.drew.heap[b]? = some (.cells #[p, .slice none 0 0] (ρ.t 72) fz) := hbk
    rw [Lib.cell_of_heap this]; rfl
  have hSD : (Builtin.unsafeSliceData_ #[(ρ.t 37)] (ρ.t 127) #[.slice none 0 0]).run P w.drew = .ok (.pointer none) w.drew := rfl
  have mixed := L.mixed
  have t72 := L.t72; have a72 := L.a72; have z72 := L.z72; have v72 := L.v72; have u72 := run_underlying L.t72
  have t70 := L.t70; have a70 := L.a70; have z70 := L.z70; have v70 := L.v70; have u70 := run_underlying L.t70
  have t37 := L.t37; have a37 := L.a37; have z37 := L.z37; have v37 := L.v37; have u37 := run_underlying L.t37
  have t127 := L.t127; have a127 := L.a127; have z127 := L.z127; have v127 := L.v127; have u127 := run_underlying L.t127
  have t3 := L.t3; have a3 := L.a3; have z3 := L.z3; have v3 := L.v3; have u3 := run_underlying L.t3
  have t9 := L.t9; have a9 := L.a9; have z9 := L.z9; have v9 := L.v9; have u9 := run_underlying L.t9
  have t5 := X.t5; have a5 := X.a5; have z5 := X.z5; have v5 := X.v5; have u5 := run_underlying X.t5
  go_enter L.f169, Body.n169_ntmps ρ
  go_wp2
  go_region_o
  all_goals (go_wp2; go_ret; exact ⟨rfl, rfl⟩)
theorem builderStringF : HRet P (C ml) 72 [.p 100 0 0] [(100, oB 0 [.np, .nsl])] (.s []) [(100, oB 0 [.np, .nsl])] := by
  refine ⟨callable_of Tryz.func72 rfl rfl, fun ρ I w vals hg hs hv => ?_⟩
  have hl1 : hlook [(100, oB 0 [.np, .nsl])] 100 = some (oB 0 [.np, .nsl]) := rfl
  obtain ⟨v, _, rfl, hv, rfl⟩ := hv
  obtain rfl := VR_p hv hl1
  obtain ⟨cc, fz, h1, h2, h3, h4, h5⟩ := obj_of hs hl1
  simp only [VRs] at h5
  obtain ⟨x, _, e, hx, y, _, rfl, hy, rfl⟩ := h5
  have hy : y = .slice none 0 0 := hy
  subst hy
  have hcc : cc = #[x, .slice none 0 0] := by
    cases cc; simp at e; subst e; rfl
  subst hcc
  refine (string_nil_calls Tryz.lays169_ren Tryz.lays169 Tryz.Builder_Extra_169 (ρ 100).1 x fz w h1).mono ?_
  rintro e w' ⟨rfl, rfl⟩
  exact ⟨_, .s [], ρ, _, I, rfl, by simp [VR], ⟨fun a v h => hs.mem a v h, fun id g o h => hs.obj id g o h, hs.inj, hs.dis⟩, ⟨rfl, rfl, rfl, Nat.le_refl _, fun _ _ _ => rfl, fun _ _ h => h, fun _ _ h => .inl h, fun id g o h l => .inr ⟨id, g, o, h, l, rfl⟩⟩, HLe.refl _ _, rfl, rfl⟩
section
variable (b d : Nat) (h1 : d ≠ 100) (h2 : d ≠ b)
include h1 h2
theorem bLen0 (l : List UInt8) : HRet P (C ml) 117 [.p b 0 0] [(b, oB 0 [.p b 0 0, .ref d 0 0 l.length]), (d, oR 0 l)] (.i .i64 l.length) [(b, oB 0 [.p b 0 0, .ref d 0 0 l.length]), (d, oR 0 l)] := by
  have := hret_ren 100 b (hret_ren 14 d (builderLen0 (ml := ml) l))
  simpa [renL, renH, renT, renO, oB, oR, renL_bytesT, sw_if, h1, h2, Ne.symm h1] using this
theorem bLen1 (l : List UInt8) : HRet P (C ml) 117 [.p b 0 0] [(b, oB 0 [.p b 0 0, .ref d 1 0 l.length]), (d, oR 1 l)] (.i .i64 l.length) [(b, oB 0 [.p b 0 0, .ref d 1 0 l.length]), (d, oR 1 l)] := by
  have := hret_ren 100 b (hret_ren 14 d (builderLen1 (ml := ml) l))
  simpa [renL, renH, renT, renO, oB, oR, renL_bytesT, sw_if, h1, h2, Ne.symm h1] using this
end
theorem bLenF (b : Nat) : HRet P (C ml) 117 [.p b 0 0] [(b, oB 0 [.np, .nsl])] (.i .i64 0) [(b, oB 0 [.np, .nsl])] := by
  have := hret_ren 100 b (builderLenF (ml := ml))
  simpa [renL, renH, renT, renO, oB, sw_if] using this
theorem bsFresh (b : Nat) : HRet P (C ml) 72 [.p b 0 0] [(b, oB 0 [.np, .nsl])] (.s []) [(b, oB 0 [.np, .nsl])] := by
  have := hret_ren 100 b (builderStringF (ml := ml))
  simpa [renL, renH, renT, renO, oB, sw_if] using this
end Go.Proofs.YtipomdmlkkifcaaGreatDoor.Vm
