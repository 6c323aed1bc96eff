/- Texts of one proof, gathered: Sbox AesT AesE AesF AesD. -/
import Derived.Test.YtipomdmlkkifcaaGreatDoorPart19
set_option linter.unusedSimpArgs false
set_option linter.unusedVariables false
set_option linter.unnecessarySimpa false
/- Contracts: sbox.Table, aes.ready. -/
set_option maxRecDepth 100000
namespace Go.Proofs.YtipomdmlkkifcaaGreatDoor.Vm
open Go Go.Proofs Go.RowKit
variable {ml : Int}
theorem tabAt_length : ∀ i, (tabAt i).1.length = 256
  | 0 => by simp [tabAt]
  | i + 1 => by rw [tabAt]; simp [tabAt_length i]
theorem bytesT_set (l : List UInt8) (i : Nat) (x : UInt8) : (bytesT l).set i (.i .u8 (bi x)) = bytesT (l.set i x) := by
  simp [bytesT, List.map_set]
theorem sTable : Ret P (C ml) 270 [] (.s subR) := by
  have k1 : Ret P (C ml) 308 [.i .u8 3] (.i .u8 (bi (gInv 3))) := fInv (ml := ml) 3
  refine hR Tryz.func270 ?_
  refine gR [cc k1] rfl ?_
  refine g_loop (fun i : Nat => [(1, .p 1 0 0), (2, .i .u8 (bi (gInv 3))), (3, .i .u8 (bi (tabAt i).2.1)), (4, .i .u8 (bi (tabAt i).2.2)), (6, .i .i64 i)]) (fun i => [(1, 0, .row true 1 (bytesT (tabAt i).1))]) (fun i => i ≤ 255) (fun i => 255 - i) 0 ⟨⟨⟨rfl, rfl, rfl, rfl⟩, rfl, rfl, rfl, rfl, trivial⟩, ⟨⟨rfl, rfl, trivial⟩, trivial⟩, trivial⟩ (by omega) ?_
  intro i hi
  by_cases h : i < 255
  · have hl := tabAt_length i
    have e : tabAt (i + 1) = ((tabAt i).1.set (tabAt i).2.1.toNat (gMix (tabAt i).2.2), gMul (tabAt i).2.1 3, gMul (tabAt i).2.2 (gInv 3)) := rfl
    generalize tabAt i = t at *
    obtain ⟨c, p, q⟩ := t
    dsimp only at *
    have k2 := sMixed (ml := ml) q
    have k3 : Ret P (C ml) 310 [.i .u8 (bi p), .i .u8 3] (.i .u8 (bi (gMul p 3))) := fMul (ml := ml) p 3
    have k4 := fMul (ml := ml) q (gInv 3)
    have hp := p.toNat_lt
    have p2 : 0 + (bi p).toNat * (tin (C ml) 5).size + (tin (C ml) 5).size ≤ (bytesT c).length := by show 0 + (bi p).toNat * 1 + 1 ≤ _; rw [bytesT_length, hl]; simp [bi]; omega
    have p0 : 0 ≤ bi p := by simp [bi]
    have p1 : bi p < ((256 : Nat) : Int) := by show (p.toNat : Int) < _; omega
    have q1 : (bytesT c).length = 256 := by rw [bytesT_length, hl]
    refine gF [.t, cc k2, cc k3, cc k4] rfl (rd_next (i + 1) (by omega) (by omega) ⟨⟨rfl, rfl, rfl, rfl⟩, rfl, ?_, ?_, ?_, trivial⟩ ⟨⟨rfl, ?_, trivial⟩, trivial⟩ trivial)
    · show _ = T.i .u8 (bi (tabAt (i + 1)).2.1)
      rw [e]; rfl
    · show _ = T.i .u8 (bi (tabAt (i + 1)).2.2)
      rw [e]; rfl
    · show T.i _ _ = T.i _ _
      rw [w64 (by omega) (by omega)]; simp
    · show (bytesT c).set _ (.i .u8 (bi (gMix q))) = bytesT (tabAt (i + 1)).1
      rw [e, bytesT_set, show 0 + (bi p).toNat * (tin (C ml) 5).size = p.toNat by show 0 + (bi p).toNat * 1 = _; simp [bi]]
  · have e : i = 255 := by omega
    subst e
    have hb : List.take ((((256 : Nat) : Int).toNat - Int.toNat 0) * szOf (1 : Mk)) (List.drop (0 + Int.toNat 0 * (tin (C ml) 5).size) (splice (bytesT (tabAt 255).fst) (0 + Int.toNat 0 * (tin (C ml) 5).size) (cellsT (T.i IntKind.u8 99)))) = bytesT subR := by
      have h1 : sbox = subR := by simpa using sbox_same
      rw [← h1]
      show List.take 256 ((bytesT (tabAt 255).1).set 0 (.i .u8 (bi 99))) = _
      rw [bytesT_set, List.take_of_length_le (by rw [bytesT_length, List.length_set, tabAt_length]; exact Nat.le_refl _)]; rfl
    have hl : (bytesT (tabAt 255).fst).length = 256 := by rw [bytesT_length, tabAt_length]
    have c1 : decide (((255 : Nat) : Int) < 255) = false := by decide
    refine gF [.f] rfl (rd_exit rfl ?_)
    refine gF [ldb hb] rfl (ret_of rfl ?_ trivial trivial)
    rfl
end Go.Proofs.YtipomdmlkkifcaaGreatDoor.Vm
/- The cipher's tables: plain, and contracts: aes.ready. -/
set_option maxRecDepth 100000
namespace Go.Proofs.YtipomdmlkkifcaaGreatDoor.Vm
open Go Go.Proofs Go.RowKit
variable {ml : Int}
/-- One round of the tables' making. -/
def tStep (l : List UInt8) (i : Nat) : List UInt8 :=
  let b := UInt8.ofNat i
  ((((((l.set i (sb b)).set (256 + (sb b).toNat) b).set (512 + i) (gTw b)).set (768 + i) (g9 b)).set (1024 + i) (g11 b)).set (1280 + i) (g13 b)).set (1536 + i) (g14 b)
def tB : Nat → List UInt8
  | 0 => List.replicate 1792 0
  | i + 1 => tStep (tB i) i
theorem tB_length : ∀ i, (tB i).length = 1792
  | 0 => by simp [tB]
  | i + 1 => by simp [tB, tStep, tB_length i]
/-- What lies in the tables. -/
def TabsAt (l : List UInt8) (x : UInt8) : Prop := l[x.toNat]? = some (sb x) ∧ l[256 + (sb x).toNat]? = some x ∧ l[512 + x.toNat]? = some (gTw x) ∧ l[768 + x.toNat]? = some (g9 x) ∧ l[1024 + x.toNat]? = some (g11 x) ∧ l[1280 + x.toNat]? = some (g13 x) ∧ l[1536 + x.toNat]? = some (g14 x)
theorem sb_inj {x y : UInt8} (h : sb x = sb y) : x = y := by rw [← bk_sb x, h, bk_sb]
theorem tB_at : ∀ i, i ≤ 256 → ∀ x : UInt8, x.toNat < i → TabsAt (tB i) x
  | 0, _, x, h => absurd h (by omega)
  | i + 1, hi, x, h => by
    have hl := tB_length i
    have hx := x.toNat_lt
    have hs := (sb x).toNat_lt
    have hb : (UInt8.ofNat i).toNat = i := by simp; omega
    have hs2 := (sb (UInt8.ofNat i)).toNat_lt
    by_cases e : x.toNat = i
    · have ex : UInt8.ofNat i = x := UInt8.toNat_inj.1 (by rw [hb, e])
      subst e
      unfold tB tStep TabsAt
      dsimp only
      rw [ex]
      generalize tB x.toNat = l at *
      refine ⟨?_, ?_, ?_, ?_, ?_, ?_, ?_⟩
      all_goals (repeat (rw [List.getElem?_set_ne (by omega)])); rw [List.getElem?_set_self (by (try simp only [List.length_set]); omega)]
    · have ih := tB_at i (by omega) x (by omega)
      have hne : (sb (UInt8.ofNat i)).toNat ≠ (sb x).toNat := fun h => e (by have := sb_inj (UInt8.toNat_inj.1 h); rw [← this, hb])
      unfold tB tStep
      unfold TabsAt at ih ⊢
      dsimp only
      obtain ⟨a1, a2, a3, a4, a5, a6, a7⟩ := ih
      refine ⟨?_, ?_, ?_, ?_, ?_, ?_, ?_⟩
      all_goals (repeat (rw [List.getElem?_set_ne (by omega)])); assumption
abbrev oT (ml : Int) (k : Nat) (n : Int) : Nat := 0 + k + n.toNat * (tin (C ml) 5).size
abbrev spT (cs : List T) (o : Nat) (x : Int) : List T := splice cs o (cellsT (T.i IntKind.u8 x))
abbrev cA (ml : Int) (l : List UInt8) (i : Nat) (b : UInt8) : List T := spT (spT (spT (bytesT l) (oT ml 0 i) (bt subR i)) (oT ml 256 (bt subR i)) (IntKind.u8.wrap i)) (oT ml 512 i) (bi (gTw b))
theorem spT_self (cs : List T) (o : Nat) (x : Int) (h : o < cs.length) : (spT cs o x)[o]? = some (T.i .u8 x) := by
  show (cs.set o _)[o]? = _
  rw [List.getElem?_set_self h]
theorem spT_ne (cs : List T) (o p : Nat) (x : Int) (h : o ≠ p) : (spT cs o x)[p]? = cs[p]? := by
  show (cs.set o _)[p]? = _
  rw [List.getElem?_set_ne h]
theorem spT_len (cs : List T) (o : Nat) (x : Int) : (spT cs o x).length = cs.length := List.length_set
theorem bt_sb (x : UInt8) : bt subR (bi x) = bi (sb x) := by simp [bt, bi, sb]
set_option maxHeartbeats 1000000 in
theorem aReady : Ret P (C ml) 224 [] (.rp (bytesT (tB 256)) 0) := by
  have k1 := sTable (ml := ml)
  refine hR Tryz.func224 ?_
  refine g_end_frz 8 ?_
  refine gR [cc k1] rfl ?_
  refine g_loop (fun i : Nat => [(1, .p 8 0 0), (2, .s subR), (10, .i .i64 i)]) (fun i => [(8, 0, .row true (.cell 265) (bytesT (tB i)))]) (fun i => i ≤ 256) (fun i => 256 - i) 0 ⟨⟨⟨rfl, rfl, rfl, rfl⟩, rfl, rfl, trivial⟩, ⟨⟨rfl, (by kernel_rfl), (show plainL _ = true by kernel_rfl)⟩, trivial⟩, trivial⟩ (by omega) ?_
  intro i hi
  by_cases h : i < 256
  · have hl := tB_length i
    have hb : IntKind.u8.wrap (i : Int) = bi (UInt8.ofNat i) := by rw [wrap_u8]; simp [bi]
    have hs : bt subR (i : Int) = bi (sb (UInt8.ofNat i)) := by
      have : (UInt8.ofNat i).toNat = i := by simp; omega
      rw [← bt_sb]; simp [bi, this]
    have e : tB (i + 1) = tStep (tB i) i := rfl
    generalize hB : UInt8.ofNat i = b at *
    generalize tB i = l at *
    have z2 := (sb b).toNat_lt
    have k2 : Ret P (C ml) 271 [.i .u8 (IntKind.u8.wrap (i : Int))] (.i .u8 (bi (gTw b))) := by rw [hb]; exact fTwice b
    have k3 := fTwice (ml := ml) (gTw b)
    have k4 := fTwice (ml := ml) (gTw (gTw b))
    have c1 : decide ((i : Int) < 256) = true := decide_eq_true (by omega)
    have hsl : subR.length = 256 := by decide +kernel
    have hz : (tin (C ml) 5).size = 1 := rfl
    have g0 : ∀ k, oT ml k i = k + i := fun k => by show 0 + k + ((i : Int)).toNat * 1 = _; omega
    have x9 : bitsI .xor .u8 (bi (gTw (gTw (gTw b)))) (IntKind.u8.wrap (i : Int)) = bi (g9 b) := by rw [hb, b_xor]; rfl
    have x11 : bitsI .xor .u8 (bitsI .xor .u8 (bi (gTw (gTw (gTw b)))) (bi (gTw b))) (IntKind.u8.wrap (i : Int)) = bi (g11 b) := by rw [hb, b_xor, b_xor]; rfl
    have x13 : bitsI .xor .u8 (bitsI .xor .u8 (bi (gTw (gTw (gTw b)))) (bi (gTw (gTw b)))) (IntKind.u8.wrap (i : Int)) = bi (g13 b) := by rw [hb, b_xor, b_xor]; rfl
    have x14 : bitsI .xor .u8 (bitsI .xor .u8 (bi (gTw (gTw (gTw b)))) (bi (gTw (gTw b)))) (bi (gTw b)) = bi (g14 b) := by rw [b_xor, b_xor]; rfl
    have lA : (cA ml l i b).length = 1792 := by rw [cA, spT_len, spT_len, spT_len, bytesT_length, hl]
    have h1 : (cA ml l i b)[oT ml 512 i]? = some (T.i .u8 (bi (gTw b))) := spT_self _ _ _ (by rw [spT_len, spT_len, bytesT_length, hl, g0]; omega)
    have h2 : (spT (cA ml l i b) (oT ml 768 i) (bitsI .xor .u8 (bi (gTw (gTw (gTw b)))) (IntKind.u8.wrap (i : Int))))[oT ml 512 i]? = some (T.i .u8 (bi (gTw b))) := by rw [spT_ne _ _ _ _ (by rw [g0, g0]; omega), h1]
    have h3 : (spT (spT (spT (cA ml l i b) (oT ml 768 i) (bitsI .xor .u8 (bi (gTw (gTw (gTw b)))) (IntKind.u8.wrap (i : Int)))) (oT ml 1024 i) (bitsI .xor .u8 (bitsI .xor .u8 (bi (gTw (gTw (gTw b)))) (bi (gTw b))) (IntKind.u8.wrap (i : Int)))) (oT ml 1280 i) (bitsI .xor .u8 (bitsI .xor .u8 (bi (gTw (gTw (gTw b)))) (bi (gTw (gTw b)))) (IntKind.u8.wrap (i : Int))))[oT ml 512 i]? = some (T.i .u8 (bi (gTw b))) := by
      rw [spT_ne _ _ _ _ (by rw [g0, g0]; omega), spT_ne _ _ _ _ (by rw [g0, g0]; omega), h2]
    refine g_fin tab_ok mixed 3000 [.t, cc k2, ld1 h1, cc k3, cc k4, ld1 h2, ld1 h3] rfl (by simp only [AllR]; (repeat' first | assumption | exact True.intro | apply And.intro); all_goals (try simp only [hsl, hs, hz, splice, cellsT, List.length_set, bytesT_length, hl, bi, Int.toNat_natCast]); first | omega | kernel_rfl) (rd_next (i + 1) (by omega) (by omega) ⟨⟨rfl, rfl, rfl, rfl⟩, rfl, ?_, trivial⟩ ⟨⟨rfl, ?_, trivial⟩, trivial⟩ trivial)
    · show T.i _ _ = T.i _ _
      rw [w64 (by omega) (by omega)]; simp
    · show spT (spT (spT (spT (cA ml l i b) (oT ml 768 i) (bitsI .xor .u8 (bi (gTw (gTw (gTw b)))) (IntKind.u8.wrap (i : Int)))) (oT ml 1024 i) (bitsI .xor .u8 (bitsI .xor .u8 (bi (gTw (gTw (gTw b)))) (bi (gTw b))) (IntKind.u8.wrap (i : Int)))) (oT ml 1280 i) (bitsI .xor .u8 (bitsI .xor .u8 (bi (gTw (gTw (gTw b)))) (bi (gTw (gTw b)))) (IntKind.u8.wrap (i : Int)))) (oT ml 1536 i) (bitsI .xor .u8 (bitsI .xor .u8 (bi (gTw (gTw (gTw b)))) (bi (gTw (gTw b)))) (bi (gTw b))) = bytesT (tB (i + 1))
      have g1 : oT ml 256 (bt subR (i : Int)) = 256 + (sb b).toNat := by rw [hs]; show 0 + 256 + (bi (sb b)).toNat * 1 = _; simp [bi]
      rw [x9, x11, x13, x14, cA, g1, g0, g0, g0, g0, g0, g0, hs, hb, e, tStep, hB]
      simp only [← bytesT_set]
      rw [Nat.zero_add]
      rfl
  · have e : i = 256 := by omega
    subst e
    have c1 : decide (((256 : Nat) : Int) < 256) = false := by decide
    refine gF [.f] rfl (rd_exit rfl ?_)
    refine gF [] rfl ⟨rfl, _, _, rfl, ret_of rfl ?_ trivial trivial⟩
    rfl
end Go.Proofs.YtipomdmlkkifcaaGreatDoor.Vm
/- Contracts: aes.add, (*Cipher).may, Encrypt. -/
set_option maxRecDepth 100000
namespace Go.Proofs.YtipomdmlkkifcaaGreatDoor.Vm
open Go Go.Proofs Go.RowKit
variable {ml : Int}
theorem byte_lt (x : UInt8) : bi x < ((256 : Nat) : Int) := by have := x.toNat_lt; show (x.toNat : Int) < _; omega
theorem byte_le (x : UInt8) : 0 ≤ bi x := by show 0 ≤ (x.toNat : Int); omega
section
variable {nt : Nat} {kp : List Nat} {Φ : APost} {k k' : List Item} {x : Exit} {e e' : Env} {h h' : Heap} {ds ds' : Ds} {obs : List Prop}
theorem gFb (ors : List Or) (hr : run P (C ml) nt 3000 k e h ds ors [] = .fin x e' h' ds' obs) (g : Φ x e' h' ds') (ho : AllR obs True := by (simp only [AllR]; (repeat' first | with_reducible assumption | with_reducible exact True.intro | with_reducible exact byte_lt _ | with_reducible exact byte_le _ | (show (_ : Bool) = _; with_reducible assumption) | omega | with_reducible apply And.intro); all_goals first | assumption | (simp; done) | (simp; omega) | exact Nat.le_of_ble_eq_true rfl | kernel_rfl)) : G P (C ml) nt kp Φ k e h ds := g_fin tab_ok mixed 3000 ors hr ho g
theorem gRb (ors : List Or) (hr : run P (C ml) nt 3000 k e h ds ors [] = .cut k' e' h' ds' obs) (g : G P (C ml) nt kp Φ k' e' h' ds') (ho : AllR obs True := by (simp only [AllR]; (repeat' first | with_reducible assumption | with_reducible exact True.intro | with_reducible exact byte_lt _ | with_reducible exact byte_le _ | (show (_ : Bool) = _; with_reducible assumption) | omega | with_reducible apply And.intro); all_goals first | assumption | (simp; done) | (simp; omega) | exact Nat.le_of_ble_eq_true rfl | kernel_rfl)) : G P (C ml) nt kp Φ k e h ds := g_run tab_ok mixed 3000 ors hr ho g
end
theorem renL_bytes (a b : Nat) : ∀ l : List UInt8, renL a b (bytesT l) = bytesT l
  | [] => rfl
  | x :: l => congrArg (T.i .u8 (bi x) :: ·) (renL_bytes a b l)
def addM (s k : List UInt8) (i : Nat) : List UInt8 := xorL (s.take i) k ++ s.drop i
theorem addM_at : ∀ (i : Nat) (s k : List UInt8), i < s.length → i < k.length → (addM s k i)[i]? = some (s.getD i 0) ∧ (addM s k i).set i (s.getD i 0 ^^^ k.getD i 0) = addM s k (i + 1)
  | 0, x :: s, y :: k, _, _ => by simp [addM, xorL]
  | i + 1, x :: s, y :: k, h, h' => by
    have := addM_at i s k (by simpa using h) (by simpa using h')
    simpa [addM, xorL] using this
  | 0, [], _, h, _ => by simp at h
  | i + 1, [], _, h, _ => by simp at h
  | 0, _, [], _, h => by simp at h
  | i + 1, _, [], _, h => by simp at h
theorem addM_length (s k : List UInt8) (i : Nat) (hs : s.length = 16) (hk : k.length = 16) : (addM s k i).length = 16 := by
  unfold addM; rw [List.length_append, xorL_length, List.length_take, List.length_drop]; omega
abbrev oB16 (id : Nat) (s : List UInt8) : Heap := [(id, 0, .row true 1 (bytesT s))]
theorem bytesT_get (l : List UInt8) (i : Nat) (x : UInt8) (h : l[i]? = some x) : (bytesT l)[i]? = some (.i .u8 (bi x)) := by
  simp [bytesT, List.getElem?_map, h]
theorem bt_bi (l : List UInt8) (i : Nat) : bt l (i : Int) = bi (l.getD i 0) := by simp [bt, bi]
theorem aAdd (s k : List UInt8) (hs : s.length = 16) (hk : k.length = 16) : HRet P (C ml) 228 [.p 107 0 0, .s k] (oB16 107 s) (.tup []) (oB16 107 (xorL s k)) := by
  refine hR Tryz.func228 ?_
  refine gR [] rfl ?_
  refine g_loop (fun i : Nat => [(0, .p 107 0 0), (1, .s k), (5, .i .i64 i)]) (fun i => oB16 107 (addM s k i)) (fun i => i ≤ 16) (fun i => 16 - i) 0 ⟨⟨⟨rfl, rfl, rfl, rfl⟩, rfl, rfl, trivial⟩, ⟨⟨rfl, rfl, trivial⟩, trivial⟩, ⟨rfl, trivial⟩⟩ (by omega) ?_
  intro i hi
  by_cases h : i < 16
  · obtain ⟨a1, a2⟩ := addM_at i s k (by omega) (by omega)
    have hl := addM_length s k i hs hk
    have hz : (tin (C ml) 5).size = 1 := rfl
    have h1 : (bytesT (addM s k i))[0 + ((i : Int)).toNat * (tin (C ml) 5).size]? = some (.i .u8 (bi (s.getD i 0))) := by
      rw [show 0 + ((i : Int)).toNat * (tin (C ml) 5).size = i by rw [hz]; omega]; exact bytesT_get _ _ _ a1
    have q1 : 0 + ((i : Int)).toNat * (tin (C ml) 5).size + (tin (C ml) 5).size ≤ (bytesT (addM s k i)).length := by rw [hz, bytesT_length]; omega
    refine gF [.t, ld1 h1] rfl (rd_next (i + 1) (by omega) (by omega) ⟨⟨rfl, rfl, rfl, rfl⟩, rfl, ?_, trivial⟩ ⟨⟨rfl, ?_, trivial⟩, trivial⟩ ⟨rfl, trivial⟩)
    · show T.i _ _ = T.i _ _
      rw [w64 (by omega) (by omega)]; simp
    · show (bytesT (addM s k i)).set _ (.i .u8 (bitsI .xor .u8 (bi (s.getD i 0)) (bt k i))) = bytesT (addM s k (i + 1))
      rw [bt_bi, b_xor, bytesT_set, ← a2, show 0 + ((i : Int)).toNat * (tin (C ml) 5).size = i by rw [hz]; omega]
  · have e : i = 16 := by omega
    subst e
    have e1 : addM s k 16 = xorL s k := by unfold addM; rw [List.take_of_length_le (by omega), List.drop_of_length_le (by omega), List.append_nil]
    rw [e1]
    have c1 : decide (((16 : Nat) : Int) < 16) = false := by decide
    refine gF [.f] rfl (rd_exit rfl ?_)
    refine gF [] rfl (ret_of rfl ?_ ?_ ?_)
    · exact rfl
    · exact ⟨⟨rfl, rfl, trivial⟩, trivial⟩
    · exact ⟨rfl, trivial⟩
theorem aAdd7 (s k : List UInt8) (hs : s.length = 16) (hk : k.length = 16) : HRet P (C ml) 228 [.p 7 0 0, .s k] (oB16 7 s) (.tup []) (oB16 7 (xorL s k)) := by
  have := hret_ren 107 7 (aAdd (ml := ml) s k hs hk)
  simpa only [renL, renH, renT, renO, renL_bytes, show sw 107 7 107 = 7 from rfl] using this
theorem aAdd8 (s k : List UInt8) (hs : s.length = 16) (hk : k.length = 16) : HRet P (C ml) 228 [.p 8 0 0, .s k] (oB16 8 s) (.tup []) (oB16 8 (xorL s k)) := by
  have := hret_ren 107 8 (aAdd (ml := ml) s k hs hk)
  simpa only [renL, renH, renT, renO, renL_bytes, show sw 107 8 107 = 8 from rfl] using this
/-- A cipher, made ready. -/
abbrev cph (n : Nat) (ks : List (List UInt8)) (tb : List T) : T := .rp [.i .i64 n, .sl ks.length (ks.map .s), .rp tb 0] 0
theorem aMay (n : Nat) (ks : List (List UInt8)) (tb : List T) (s : List UInt8) : Ret P (C ml) 227 [cph n ks tb, .s s] (.i .i64 (if s.length = 16 then 0 else 4)) := by
  refine hR Tryz.func227 ?_
  by_cases h : s.length = 16
  · rw [if_pos h]
    have c1 : ((s.length : Int) != 16) = false := by simp; omega
    refine gF [.a, .f] rfl (ret_of rfl ?_ trivial trivial)
    rfl
  · rw [if_neg h]
    have c1 : ((s.length : Int) != 16) = true := by simp; omega
    refine gF [.a, .t] rfl (ret_of rfl ?_ trivial trivial)
    rfl
end Go.Proofs.YtipomdmlkkifcaaGreatDoor.Vm
/- Contracts: (*Cipher).Encrypt. -/
set_option maxRecDepth 100000
namespace Go.Proofs.YtipomdmlkkifcaaGreatDoor.Vm
open Go Go.Proofs Go.RowKit
variable {ml : Int}
theorem strL_at (l : List (List UInt8)) (i : Nat) (h : i < l.length) : (l.map T.s)[i * 1]? = some (.s (l.getD i [])) := by
  rw [Nat.mul_one, List.getElem?_map, List.getElem?_eq_getElem h, List.getD_eq_getElem?_getD, List.getElem?_eq_getElem h]; rfl
/-- Where a cipher's tables lie. -/
structure TabsT (tb : List T) : Prop where
  len : tb.length = 1792
  sub : ∀ x : UInt8, tb[0 + 0 + (bi x).toNat * 1]? = some (.i .u8 (bi (sb x)))
  back : ∀ x : UInt8, tb[0 + 256 + (bi x).toNat * 1]? = some (.i .u8 (bi (bk x)))
  tw : ∀ x y : UInt8, tb[0 + 512 + (bitsI .xor .u8 (bi x) (bi y)).toNat * 1]? = some (.i .u8 (bi (gTw (x ^^^ y))))
  m9 : ∀ x : UInt8, tb[0 + 768 + (bi x).toNat * 1]? = some (.i .u8 (bi (g9 x)))
  m11 : ∀ x : UInt8, tb[0 + 1024 + (bi x).toNat * 1]? = some (.i .u8 (bi (g11 x)))
  m13 : ∀ x : UInt8, tb[0 + 1280 + (bi x).toNat * 1]? = some (.i .u8 (bi (g13 x)))
  m14 : ∀ x : UInt8, tb[0 + 1536 + (bi x).toNat * 1]? = some (.i .u8 (bi (g14 x)))
theorem tabsT : TabsT (bytesT (tB 256)) := by
  have e : ∀ (k : Nat) (x : UInt8), 0 + k + (bi x).toNat * 1 = k + x.toNat := fun k x => by simp [bi]
  have h : ∀ x : UInt8, TabsAt (tB 256) x := fun x => tB_at 256 (Nat.le_refl _) x x.toNat_lt
  refine ⟨by rw [bytesT_length, tB_length], fun x => ?_, fun x => ?_, fun x y => ?_, fun x => ?_, fun x => ?_, fun x => ?_, fun x => ?_⟩
  · rw [e, Nat.zero_add]; exact bytesT_get _ _ _ (h x).1
  · have := (h (bk x)).2.1
    rw [sb_bk] at this
    rw [e]; exact bytesT_get _ _ _ this
  · rw [b_xor, e]; exact bytesT_get _ _ _ (h (x ^^^ y)).2.2.1
  · rw [e]; exact bytesT_get _ _ _ (h x).2.2.2.1
  · rw [e]; exact bytesT_get _ _ _ (h x).2.2.2.2.1
  · rw [e]; exact bytesT_get _ _ _ (h x).2.2.2.2.2.1
  · rw [e]; exact bytesT_get _ _ _ (h x).2.2.2.2.2.2
/-- A list of which so many have become another's. -/
def setM (V t : List UInt8) (k : Nat) : List UInt8 := V.take k ++ t.drop k
theorem setM_length {V t : List UInt8} {k : Nat} (h : V.length = t.length) : (setM V t k).length = t.length := by
  unfold setM; rw [List.length_append, List.length_take, List.length_drop]; omega
theorem setM_set : ∀ {V t : List UInt8} {k : Nat}, V.length = t.length → k < t.length → (setM V t k).set k (V.getD k 0) = setM V t (k + 1)
  | x :: V, y :: t, 0, _, _ => by simp [setM]
  | x :: V, y :: t, k + 1, h, h' => by
    have := setM_set (V := V) (t := t) (k := k) (by simpa using h) (by simpa using h')
    simpa [setM] using this
  | [], _ :: _, _, h, _ => by simp at h
  | _, [], _, _, h' => by simp at h'
theorem setM_all {V t : List UInt8} (h : V.length = t.length) : setM V t t.length = V := by
  unfold setM; rw [List.drop_length, List.append_nil, List.take_of_length_le (by omega)]
theorem getD_get (l : List UInt8) (i : Nat) (h : i < l.length) : l[i]? = some (l.getD i 0) := by
  rw [List.getD_eq_getElem?_getD, List.getElem?_eq_getElem h]; rfl
theorem rangeD (f : Nat → UInt8) (k : Nat) (h : k < 16) : ((List.range 16).map f).getD k 0 = f k := by
  rw [List.getD_eq_getElem?_getD, List.getElem?_map, List.getElem?_range h]; rfl
theorem shL_getD (l : List UInt8) (hl : l.length = 16) (k : Nat) (h : k < 16) : (shL (l.map sb)).getD k 0 = sb (l.getD (5 * k % 16) 0) := by
  unfold shL
  rw [rangeD _ _ h, List.getD_eq_getElem?_getD, List.getD_eq_getElem?_getD, List.getElem?_map, List.getElem?_eq_getElem (by omega)]; rfl
theorem getB (l : List UInt8) (i o : Nat) (h : i < l.length) (e : o = i) : (bytesT l)[o]? = some (.i .u8 (bi (l.getD i 0))) := by
  subst e; exact bytesT_get _ _ _ (getD_get l o h)
theorem mixD (V : List UInt8) (K q : Nat) (h4 : K % 4 = 0) (hK : K ≤ 12) (hq : q < 4) : (mixL V).getD (K + q) 0 =
    V.getD (K + q) 0 ^^^ (V.getD K 0 ^^^ V.getD (K + 1) 0 ^^^ V.getD (K + 2) 0 ^^^ V.getD (K + 3) 0) ^^^ gTw (V.getD (K + q) 0 ^^^ V.getD (K + (q + 1) % 4) 0) := by
  unfold mixL mix4
  rw [rangeD _ _ (by omega)]
  rw [show (K + q) / 4 * 4 = K by omega, show (K + q) % 4 = q by omega, show (K + q + 1) % 4 = (q + 1) % 4 by omega, show (K + q + 2) % 4 = (q + 2) % 4 by omega, show (K + q + 3) % 4 = (q + 3) % 4 by omega]
  obtain rfl | rfl | rfl | rfl : q = 0 ∨ q = 1 ∨ q = 2 ∨ q = 3 := by omega
  all_goals
    simp only [Nat.zero_add, Nat.add_zero, show 1 % 4 = 1 from rfl, show 2 % 4 = 2 from rfl, show 3 % 4 = 3 from rfl, show (1 + 1) % 4 = 2 from rfl, show (1 + 2) % 4 = 3 from rfl, show (1 + 3) % 4 = 0 from rfl, show (2 + 1) % 4 = 3 from rfl, show (2 + 2) % 4 = 0 from rfl, show (2 + 3) % 4 = 1 from rfl, show (3 + 1) % 4 = 0 from rfl, show (3 + 2) % 4 = 1 from rfl, show (3 + 3) % 4 = 2 from rfl]
    generalize V.getD K 0 = a, V.getD (K + 1) 0 = b, V.getD (K + 2) 0 = c, V.getD (K + 3) 0 = d
    simp only [gTw_xor, g3, id]
    generalize gTw a = a1, gTw b = b1, gTw c = c1, gTw d = d1
    simp only [xac1, xac2, xac3, x_self, x_cancel, UInt8.xor_zero, UInt8.zero_xor]
set_option maxHeartbeats 1000000 in
theorem aesE (n : Nat) (ks : List (List UInt8)) (tb : List T) (s : List UInt8) (hk : keysOk ks) (hn : ks.length ≤ 15) (ht : TabsT tb) (hs : s.length = 16) : Ret P (C ml) 154 [cph n ks tb, .s s] (.tup [.s (fwd ks s), .i .i64 0]) := by
  have hk2 := hk.1
  have k1 := aMay (ml := ml) n ks tb s
  rw [if_pos hs] at k1
  have hks : ∀ i, i < ks.length → (ks.map T.s)[i * 1]? = some (.s (ks.getD i [])) := fun i h => strL_at ks i h
  have hlen := hk.2
  have a0 := aAdd7 (ml := ml) s (ks.getD 0 []) hs (hlen 0 (by omega))
  have h0 : (ks.map T.s)[Int.toNat 0 * (tin (C ml) 9).size]? = some (.s (ks.getD 0 [])) := hks 0 (by omega)
  have e0 : fwdAt ks s 0 = xorL s (ks.getD 0 []) := rfl
  obtain ⟨x0, x1, x2, x3, x4, x5, x6, x7, x8, x9, x10, x11, x12, x13, x14, x15, e⟩ := len16 hs
  rw [e] at k1 a0 ⊢
  have k2 := a0
  refine hR Tryz.func154 ?_
  refine gR [cc k1, .f, .a, ld1 h0, ch k2, .a] rfl ?_
  refine g_loop (fun x : Nat × List UInt8 => [(0, cph n ks tb), (7, .p 7 0 0), (8, .p 8 0 0), (9, .i .i64 (ks.length - 1 : Nat)), (10, .i .i64 (x.1 + 1 : Nat))]) (fun x => [(7, 0, .row true 1 (bytesT (fwdAt ks s x.1))), (8, 0, .row true 1 (bytesT x.2))])
    (fun x => x.1 + 1 ≤ ks.length - 1 ∧ x.2.length = 16) (fun x => ks.length - x.1) (0, List.replicate 16 0) ⟨⟨rfl, ⟨rfl, rfl, rfl, rfl⟩, ⟨rfl, rfl, rfl, rfl⟩, ?_, rfl, trivial⟩, ⟨⟨rfl, ?_, trivial⟩, ⟨rfl, rfl, trivial⟩, trivial⟩, trivial⟩ ⟨by omega, rfl⟩ ?_
  · show T.i _ _ = T.i _ _
    rw [w64 (by omega) (by omega)]; congr 1; omega
  · rw [e0, e]
  rintro ⟨j, t⟩ ⟨hj, ht16⟩
  dsimp only at *
  have hsub := ht.sub
  have htw := ht.tw
  have hz : (tin (C ml) 5).size = 1 := rfl
  have hst := fwdAt_length hk hs (i := j) (by omega)
  have en : fwdAt ks s (j + 1) = doL (fwdAt ks s j) (ks.getD (j + 1) []) (j + 1 == ks.length - 1) := rfl
  generalize fwdAt ks s j = st at *
  have hV := shL_length (st.map sb)
  have hVd := shL_getD st hst
  generalize hVe : shL (st.map sb) = V at *
  refine gRb [] rfl ?_
  refine g_loop (fun k : Nat => [(0, cph n ks tb), (7, .p 7 0 0), (8, .p 8 0 0), (9, .i .i64 (ks.length - 1 : Nat)), (10, .i .i64 (j + 1 : Nat)), (39, .i .i64 k)]) (fun k => [(7, 0, .row true 1 (bytesT st)), (8, 0, .row true 1 (bytesT (setM V t k)))]) (fun k => k ≤ 16) (fun k => 16 - k) 0 ⟨⟨rfl, ⟨rfl, rfl, rfl, rfl⟩, ⟨rfl, rfl, rfl, rfl⟩, rfl, rfl, rfl, trivial⟩, ⟨⟨rfl, rfl, trivial⟩, ⟨rfl, rfl, trivial⟩, trivial⟩, trivial⟩ (by omega) ?_
  intro k hk16
  by_cases hkl : k < 16
  · have c1 : decide ((k : Int) < 16) = true := decide_eq_true (by omega)
    have o1 : (IntKind.i64.wrap (5 * (k : Int))).tmod 16 = ((5 * k % 16 : Nat) : Int) := by rw [w64 (by omega) (by omega), Int.tmod_eq_emod_of_nonneg (by omega)]; omega
    have b1 : 0 ≤ (IntKind.i64.wrap (5 * (k : Int))).tmod 16 := by rw [o1]; omega
    have b2 : (IntKind.i64.wrap (5 * (k : Int))).tmod 16 < ((16 : Nat) : Int) := by rw [o1]; omega
    have h1 : (bytesT st)[0 + ((IntKind.i64.wrap (5 * (k : Int))).tmod 16).toNat * (tin (C ml) 5).size]? = some (.i .u8 (bi (st.getD (5 * k % 16) 0))) := getB st _ _ (by omega) (by rw [o1, hz]; omega)
    have h2 := hsub (st.getD (5 * k % 16) 0)
    have e1 := hVd k hkl
    have e2 := setM_set (V := V) (t := t) (k := k) (by omega) (by omega)
    have q1 : 0 + ((k : Int)).toNat * (tin (C ml) 5).size + (tin (C ml) 5).size ≤ (bytesT (setM V t k)).length := by rw [hz, bytesT_length, setM_length (by omega)]; omega
    rw [e1] at e2
    clear o1 e1
    generalize st.getD (5 * k % 16) 0 = y at *
    refine gFb [.t, .a, ld1 h1, ld1 h2] rfl (rd_next (k + 1) (by omega) (by omega) ⟨rfl, ⟨rfl, rfl, rfl, rfl⟩, ⟨rfl, rfl, rfl, rfl⟩, rfl, rfl, ?_, trivial⟩ ⟨⟨rfl, rfl, trivial⟩, ⟨rfl, ?_, trivial⟩, trivial⟩ trivial)
    · show T.i _ _ = T.i _ _
      rw [w64 (by omega) (by omega)]; simp
    · show (bytesT (setM V t k)).set _ (.i .u8 (bi (sb y))) = bytesT (setM V t (k + 1))
      rw [bytesT_set, ← e2, show 0 + ((k : Int)).toNat * (tin (C ml) 5).size = k by rw [hz]; omega]
  have e16 : k = 16 := by omega
  subst e16
  rw [show setM V t 16 = V by rw [← ht16]; exact setM_all (by omega)]
  have c0 : decide (((16 : Nat) : Int) < 16) = false := by decide
  refine gFb [.f] rfl (rd_exit rfl ?_)
  by_cases hL : j + 1 = ks.length - 1
  · have c1 : (((j + 1 : Nat) : Int) == ((ks.length - 1 : Nat) : Int)) = true := by simp; omega
    have a8 := aAdd8 (ml := ml) V (ks.getD (ks.length - 1) []) hV (hlen _ (by omega))
    have h9 : (ks.map T.s)[(((ks.length - 1 : Nat) : Int)).toNat * (tin (C ml) 9).size]? = some (.s (ks.getD (ks.length - 1) [])) := hks (ks.length - 1) (by omega)
    have q1 : ((ks.length - 1 : Nat) : Int) < (ks.length : Int) := by omega
    have ef : fwd ks s = xorL V (ks.getD (ks.length - 1) []) := by
      have : fwd ks s = fwdAt ks s (j + 1) := by rw [hL]; rfl
      rw [this, en, hL]; simp [doL, hVe]
    rw [e] at ef
    rw [ef]
    have hw : (xorL V (ks.getD (ks.length - 1) [])).length = 16 := by rw [xorL_length, hV, hlen _ (by omega)]; rfl
    generalize xorL V (ks.getD (ks.length - 1) []) = w at *
    have hb : List.take ((((16 : Nat) : Int).toNat - Int.toNat 0) * szOf (1 : Mk)) (List.drop (0 + Int.toNat 0 * (tin (C ml) 5).size) (bytesT w)) = bytesT w := List.take_of_length_le (by show _ ≤ 16; rw [List.length_drop, bytesT_length]; omega)
    have q2 : 0 + 16 * (tin (C ml) 5).size ≤ (bytesT w).length := by rw [hz, bytesT_length]; omega
    refine gFb [.t] rfl (rd_exit rfl ?_)
    refine gFb [.a, ld1 h9, ch a8, ldb hb] rfl (ret_of rfl ?_ trivial trivial)
    exact ⟨rfl, rfl, rfl⟩
  have c1 : (((j + 1 : Nat) : Int) == ((ks.length - 1 : Nat) : Int)) = false := by simp; omega
  have hM := mixL_length V
  have hMd := mixD V
  have ed : doL st (ks.getD (j + 1) []) (j + 1 == ks.length - 1) = xorL (mixL V) (ks.getD (j + 1) []) := by
    rw [show (j + 1 == ks.length - 1) = false by simpa using hL]; simp [doL, hVe]
  rw [ed] at en
  generalize mixL V = M at *
  refine gRb [.f] rfl ?_
  refine g_loop (fun K : Nat => [(0, cph n ks tb), (7, .p 7 0 0), (8, .p 8 0 0), (9, .i .i64 (ks.length - 1 : Nat)), (10, .i .i64 (j + 1 : Nat)), (12, .i .i64 K)]) (fun K => [(7, 0, .row true 1 (bytesT (setM M st K))), (8, 0, .row true 1 (bytesT V))]) (fun K => K ≤ 16 ∧ K % 4 = 0) (fun K => 16 - K) 0 ⟨⟨rfl, ⟨rfl, rfl, rfl, rfl⟩, ⟨rfl, rfl, rfl, rfl⟩, rfl, rfl, rfl, trivial⟩, ⟨⟨rfl, rfl, trivial⟩, ⟨rfl, rfl, trivial⟩, trivial⟩, trivial⟩ (by omega) ?_
  rintro K ⟨hK, h4⟩
  by_cases hK16 : K < 16
  · have c2 : decide ((K : Int) < 16) = true := decide_eq_true (by omega)
    have w1 : IntKind.i64.wrap ((K : Int) + 1) = ((K + 1 : Nat) : Int) := w64 (by omega) (by omega)
    have w2 : IntKind.i64.wrap ((K : Int) + 2) = ((K + 2 : Nat) : Int) := w64 (by omega) (by omega)
    have w3 : IntKind.i64.wrap ((K : Int) + 3) = ((K + 3 : Nat) : Int) := w64 (by omega) (by omega)
    have l0 : (bytesT V)[0 + ((K : Int)).toNat * (tin (C ml) 5).size]? = some (.i .u8 (bi (V.getD K 0))) := getB V _ _ (by omega) (by rw [hz]; omega)
    have l1 : (bytesT V)[0 + (IntKind.i64.wrap ((K : Int) + 1)).toNat * (tin (C ml) 5).size]? = some (.i .u8 (bi (V.getD (K + 1) 0))) := getB V _ _ (by omega) (by rw [w1, hz]; omega)
    have l2 : (bytesT V)[0 + (IntKind.i64.wrap ((K : Int) + 2)).toNat * (tin (C ml) 5).size]? = some (.i .u8 (bi (V.getD (K + 2) 0))) := getB V _ _ (by omega) (by rw [w2, hz]; omega)
    have l3 : (bytesT V)[0 + (IntKind.i64.wrap ((K : Int) + 3)).toNat * (tin (C ml) 5).size]? = some (.i .u8 (bi (V.getD (K + 3) 0))) := getB V _ _ (by omega) (by rw [w3, hz]; omega)
    have b1 : 0 ≤ IntKind.i64.wrap ((K : Int) + 1) ∧ IntKind.i64.wrap ((K : Int) + 1) < ((16 : Nat) : Int) := by rw [w1]; omega
    have b2 : 0 ≤ IntKind.i64.wrap ((K : Int) + 2) ∧ IntKind.i64.wrap ((K : Int) + 2) < ((16 : Nat) : Int) := by rw [w2]; omega
    have b3 : 0 ≤ IntKind.i64.wrap ((K : Int) + 3) ∧ IntKind.i64.wrap ((K : Int) + 3) < ((16 : Nat) : Int) := by rw [w3]; omega
    obtain ⟨b11, b12⟩ := b1
    obtain ⟨b21, b22⟩ := b2
    obtain ⟨b31, b32⟩ := b3
    refine gRb [.t, ld1 l0, ld1 l1, ld1 l2, ld1 l3] rfl ?_
    have hall : bitsI .xor .u8 (bitsI .xor .u8 (bitsI .xor .u8 (bi (V.getD K 0)) (bi (V.getD (K + 1) 0))) (bi (V.getD (K + 2) 0))) (bi (V.getD (K + 3) 0)) = bi (V.getD K 0 ^^^ V.getD (K + 1) 0 ^^^ V.getD (K + 2) 0 ^^^ V.getD (K + 3) 0) := by rw [b_xor, b_xor, b_xor]
    have hMq : ∀ q, q < 4 → M.getD (K + q) 0 = V.getD (K + q) 0 ^^^ (V.getD K 0 ^^^ V.getD (K + 1) 0 ^^^ V.getD (K + 2) 0 ^^^ V.getD (K + 3) 0) ^^^ gTw (V.getD (K + q) 0 ^^^ V.getD (K + (q + 1) % 4) 0) := fun q hq => hMd K q h4 (by omega) hq
    clear l0 l1 l2 l3 b11 b12 b21 b22 b31 b32
    generalize V.getD K 0 ^^^ V.getD (K + 1) 0 ^^^ V.getD (K + 2) 0 ^^^ V.getD (K + 3) 0 = al at *
    refine g_loop (fun q : Nat => [(0, cph n ks tb), (7, .p 7 0 0), (8, .p 8 0 0), (9, .i .i64 (ks.length - 1 : Nat)), (10, .i .i64 (j + 1 : Nat)), (12, .i .i64 K), (13, .i .u8 (bi al)), (83, .i .i64 q)]) (fun q => [(7, 0, .row true 1 (bytesT (setM M st (K + q)))), (8, 0, .row true 1 (bytesT V))]) (fun q => q ≤ 4) (fun q => 4 - q) 0 ⟨⟨rfl, ⟨rfl, rfl, rfl, rfl⟩, ⟨rfl, rfl, rfl, rfl⟩, rfl, rfl, rfl, ?_, rfl, trivial⟩, ⟨⟨rfl, rfl, trivial⟩, ⟨rfl, rfl, trivial⟩, trivial⟩, trivial⟩ (by omega) ?_
    · exact congrArg (T.i _) hall
    intro q hq4
    by_cases hq : q < 4
    · have c3 : decide ((q : Int) < 4) = true := decide_eq_true (by omega)
      have wq : IntKind.i64.wrap ((K : Int) + (q : Int)) = ((K + q : Nat) : Int) := w64 (by omega) (by omega)
      have wm : (IntKind.i64.wrap ((q : Int) + 1)).tmod 4 = (((q + 1) % 4 : Nat) : Int) := by rw [w64 (by omega) (by omega), Int.tmod_eq_emod_of_nonneg (by omega)]; omega
      have wr : IntKind.i64.wrap ((K : Int) + (IntKind.i64.wrap ((q : Int) + 1)).tmod 4) = ((K + (q + 1) % 4 : Nat) : Int) := by rw [wm, w64 (by omega) (by omega)]; omega
      have l0 : (bytesT V)[0 + (IntKind.i64.wrap ((K : Int) + (q : Int))).toNat * (tin (C ml) 5).size]? = some (.i .u8 (bi (V.getD (K + q) 0))) := getB V _ _ (by omega) (by rw [wq, hz]; omega)
      have l1 : (bytesT V)[0 + (IntKind.i64.wrap ((K : Int) + (IntKind.i64.wrap ((q : Int) + 1)).tmod 4)).toNat * (tin (C ml) 5).size]? = some (.i .u8 (bi (V.getD (K + (q + 1) % 4) 0))) := getB V _ _ (by omega) (by rw [wr, hz]; omega)
      have b1 : 0 ≤ IntKind.i64.wrap ((K : Int) + (q : Int)) := by rw [wq]; omega
      have b2 : IntKind.i64.wrap ((K : Int) + (q : Int)) < ((16 : Nat) : Int) := by rw [wq]; omega
      have b3 : 0 ≤ IntKind.i64.wrap ((K : Int) + (IntKind.i64.wrap ((q : Int) + 1)).tmod 4) := by rw [wr]; omega
      have b4 : IntKind.i64.wrap ((K : Int) + (IntKind.i64.wrap ((q : Int) + 1)).tmod 4) < ((16 : Nat) : Int) := by rw [wr]; omega
      have q1 : 0 + (IntKind.i64.wrap ((K : Int) + (q : Int))).toNat * (tin (C ml) 5).size + (tin (C ml) 5).size ≤ (bytesT (setM M st (K + q))).length := by rw [wq, hz, bytesT_length, setM_length (by omega)]; omega
      have o1 : 0 + (IntKind.i64.wrap ((K : Int) + (q : Int))).toNat * (tin (C ml) 5).size = K + q := by rw [wq, hz]; omega
      have e2 := setM_set (V := M) (t := st) (k := K + q) (by omega) (by omega)
      rw [hMq q hq] at e2
      have h2 := htw (V.getD (K + q) 0) (V.getD (K + (q + 1) % 4) 0)
      clear wq wm wr
      generalize V.getD (K + q) 0 = y at *
      generalize V.getD (K + (q + 1) % 4) 0 = z at *
      have x1 : 0 ≤ bitsI .xor .u8 (bi y) (bi z) := by rw [b_xor]; exact byte_le _
      have x2 : bitsI .xor .u8 (bi y) (bi z) < ((256 : Nat) : Int) := by rw [b_xor]; exact byte_lt _
      refine gFb [.t, ld1 l0, .a, ld1 l0, ld1 l1, ld1 h2] rfl (rd_next (q + 1) (by omega) (by omega) ⟨rfl, ⟨rfl, rfl, rfl, rfl⟩, ⟨rfl, rfl, rfl, rfl⟩, rfl, rfl, rfl, rfl, ?_, trivial⟩ ⟨⟨rfl, ?_, trivial⟩, ⟨rfl, rfl, trivial⟩, trivial⟩ trivial)
      · show T.i _ _ = T.i _ _
        rw [w64 (by omega) (by omega)]; simp
      · show (bytesT (setM M st (K + q))).set _ (.i .u8 (bitsI .xor .u8 (bitsI .xor .u8 (bi y) (bi al)) (bi (gTw (y ^^^ z))))) = bytesT (setM M st (K + (q + 1)))
        rw [b_xor, b_xor, bytesT_set, o1, e2]; rfl
    have eq4 : q = 4 := by omega
    subst eq4
    have c3 : decide (((4 : Nat) : Int) < 4) = false := by decide
    refine gFb [.f] rfl (rd_exit rfl ?_)
    refine gFb [] rfl (rd_next (K + 4) ⟨by omega, by omega⟩ (by omega) ⟨rfl, ⟨rfl, rfl, rfl, rfl⟩, ⟨rfl, rfl, rfl, rfl⟩, rfl, rfl, ?_, trivial⟩ ⟨⟨rfl, rfl, trivial⟩, ⟨rfl, rfl, trivial⟩, trivial⟩ trivial)
    · show T.i _ _ = T.i _ _
      rw [w64 (by omega) (by omega)]; simp
  have eK : K = 16 := by omega
  subst eK
  rw [show setM M st 16 = M by rw [← hst]; exact setM_all (by omega)]
  have c2 : decide (((16 : Nat) : Int) < 16) = false := by decide
  have a7 := aAdd7 (ml := ml) M (ks.getD (j + 1) []) hM (hlen _ (by omega))
  have h9 : (ks.map T.s)[(((j + 1 : Nat) : Int)).toNat * (tin (C ml) 9).size]? = some (.s (ks.getD (j + 1) [])) := hks (j + 1) (by omega)
  refine gFb [.f] rfl (rd_exit rfl ?_)
  refine gFb [.a, ld1 h9, ch a7] rfl (rd_next (j + 1, V) ⟨by show j + 1 + 1 ≤ _; omega, hV⟩ (by show ks.length - (j + 1) < ks.length - j; omega) ⟨rfl, ⟨rfl, rfl, rfl, rfl⟩, ⟨rfl, rfl, rfl, rfl⟩, rfl, ?_, trivial⟩ ⟨⟨rfl, ?_, trivial⟩, ⟨rfl, rfl, trivial⟩, trivial⟩ trivial)
  · show T.i _ _ = T.i _ _
    rw [w64 (by omega) (by omega)]; simp
  · show bytesT _ = bytesT (fwdAt ks s (j + 1))
    rw [en]
end Go.Proofs.YtipomdmlkkifcaaGreatDoor.Vm
/- Contracts: (*Cipher).Decrypt. -/
set_option maxRecDepth 100000
namespace Go.Proofs.YtipomdmlkkifcaaGreatDoor.Vm
open Go Go.Proofs Go.RowKit
variable {ml : Int}
theorem sp_rt {P : Program} {C : Ctx} {nt : Nat} {kp : List Nat} {Φ : APost} {k : List Item} {c : Code} : ∀ {n : Nat} {e : Env} {h : Heap} {ds : Ds}, Φ .ret e h ds → SP P C nt kp Φ k c n .ret e h ds
  | 0, _, _, _, g => g
  | _ + 1, _, _, _, g => g
/-- The rounds back, from one on: 't' is what is looked up next. -/
def dRest (ks : List (List UInt8)) : Nat → List UInt8 → List UInt8
  | 0, _ => []
  | i + 1, t => if i = 0 then xorL ((ushL t).map bk) (ks.getD i []) else dRest ks i (unmixL (xorL ((ushL t).map bk) (ks.getD i [])))
theorem dRest_bwd (ks : List (List UInt8)) (s : List UInt8) (hk : 2 ≤ ks.length) : dRest ks (ks.length - 1) (xorL s (ks.getD (ks.length - 1) [])) = bwd ks s := by
  obtain ⟨L, hL⟩ : ∃ L, ks.length - 1 = L + 1 := ⟨ks.length - 2, by omega⟩
  have h : ∀ m j, m + j = L → dRest ks (m + 1) (if j = 0 then xorL s (ks.getD (L + 1) []) else unmixL (xorL (bwdAt ks s j) (ks.getD (L + 1 - j) []))) = bwd ks s := by
    intro m
    induction m with
    | zero =>
      intro j hj
      obtain rfl : j = L := by omega
      unfold dRest
      rw [if_pos rfl]
      unfold bwd
      rw [hL, bwdAt, undoL, hL]
      by_cases hj0 : j = 0
      · subst hj0; simp [bwdAt]
      · rw [if_neg hj0, show (j == 0) = false by simpa using hj0]; simp
    | succ m ih =>
      intro j hj
      have := ih (j + 1) (by omega)
      rw [if_neg (by omega)] at this
      rw [← this]
      conv => lhs; unfold dRest
      rw [if_neg (by omega), bwdAt, undoL, hL, show L + 1 - (j + 1) = m + 1 by omega, show L + 1 - j = m + 2 by omega]
      by_cases hj0 : j = 0
      · subst hj0; simp [bwdAt, show L = m + 1 by omega]
      · rw [if_neg hj0, show (j == 0) = false by simpa using hj0]; simp
  have := h L 0 (by omega)
  rw [if_pos rfl] at this
  rw [hL]; exact this
def dSet (s t : List UInt8) : Nat → List UInt8
  | 0 => s
  | k + 1 => (dSet s t k).set (5 * k % 16) (bk (t.getD k 0))
theorem dSet_length (s t : List UInt8) : ∀ k, (dSet s t k).length = s.length
  | 0 => rfl
  | k + 1 => by rw [dSet, List.length_set, dSet_length s t k]
theorem dSet_all {s t : List UInt8} (hs : s.length = 16) (ht : t.length = 16) : dSet s t 16 = (ushL t).map bk := by
  obtain ⟨a, b, c, d, e, f, g, h, i, j, k, l, m, n, o, p, rfl⟩ := len16 hs
  obtain ⟨a, b, c, d, e, f, g, h, i, j, k, l, m, n, o, p, rfl⟩ := len16 ht
  rfl
theorem unmixD (V : List UInt8) (K q : Nat) (h4 : K % 4 = 0) (hK : K ≤ 12) (hq : q < 4) : (unmixL V).getD (K + q) 0 =
    g14 (V.getD (K + q) 0) ^^^ g11 (V.getD (K + (q + 1) % 4) 0) ^^^ g13 (V.getD (K + (q + 2) % 4) 0) ^^^ g9 (V.getD (K + (q + 3) % 4) 0) := by
  unfold unmixL mix4
  rw [rangeD _ _ (by omega)]
  rw [show (K + q) / 4 * 4 = K by omega, show (K + q) % 4 = q by omega, show (K + q + 1) % 4 = (q + 1) % 4 by omega, show (K + q + 2) % 4 = (q + 2) % 4 by omega, show (K + q + 3) % 4 = (q + 3) % 4 by omega]
set_option maxHeartbeats 1000000 in
theorem aDec (n : Nat) (ks : List (List UInt8)) (tb : List T) (s : List UInt8) (hk : keysOk ks) (hn : ks.length ≤ 15) (ht : TabsT tb) (hs : s.length = 16) : Ret P (C ml) 166 [cph n ks tb, .s s] (.tup [.s (bwd ks s), .i .i64 0]) := by
  have hk2 := hk.1
  have k1 := aMay (ml := ml) n ks tb s
  rw [if_pos hs] at k1
  have hks : ∀ i, i < ks.length → (ks.map T.s)[i * 1]? = some (.s (ks.getD i [])) := fun i h => strL_at ks i h
  have hlen := hk.2
  have hz : (tin (C ml) 5).size = 1 := rfl
  have a0 := aAdd8 (ml := ml) s (ks.getD (ks.length - 1) []) hs (hlen _ (by omega))
  have w0 : IntKind.i64.wrap ((ks.length : Int) - 1) = ((ks.length - 1 : Nat) : Int) := by rw [w64 (by omega) (by omega)]; omega
  have h0 : (ks.map T.s)[(IntKind.i64.wrap ((ks.length : Int) - 1)).toNat * (tin (C ml) 9).size]? = some (.s (ks.getD (ks.length - 1) [])) := by rw [w0]; exact hks (ks.length - 1) (by omega)
  have b0 : 0 ≤ IntKind.i64.wrap ((ks.length : Int) - 1) := by rw [w0]; omega
  have b1 : IntKind.i64.wrap ((ks.length : Int) - 1) < (ks.length : Int) := by rw [w0]; omega
  have hd := dRest_bwd ks s hk2
  have hx : (xorL s (ks.getD (ks.length - 1) [])).length = 16 := by rw [xorL_length, hs, hlen _ (by omega)]; rfl
  rw [← hd]
  clear hd
  generalize hxe : xorL s (ks.getD (ks.length - 1) []) = X at *
  obtain ⟨x0, x1, x2, x3, x4, x5, x6, x7, x8, x9, x10, x11, x12, x13, x14, x15, e⟩ := len16 hs
  rw [e] at k1 a0 ⊢
  clear hxe e
  refine hR Tryz.func166 ?_
  refine gRb [] rfl ?_
  obtain ⟨N, hN⟩ : ∃ N, ks.length - 1 ≤ N := ⟨_, Nat.le_refl _⟩
  refine g_scope N ?_
  refine gRb [cc k1, .f, .a, .a, ld1 h0, ch a0] rfl ?_
  refine g_weak (e' := [(0, cph n ks tb), (7, .p 7 0 0), (8, .p 8 0 0), (9, .i .i64 (ks.length - 1 : Nat)), (36, .i .i64 0)]) (h' := [(7, 0, .row true 1 (bytesT (List.replicate 16 0))), (8, 0, .row true 1 (bytesT X))]) ⟨⟨rfl, ⟨rfl, rfl, rfl, rfl⟩, ⟨rfl, rfl, rfl, rfl⟩, ?_, rfl, trivial⟩, ⟨⟨rfl, rfl, trivial⟩, ⟨rfl, rfl, trivial⟩, trivial⟩, trivial⟩ ?_
  · exact congrArg (T.i _) w0
  have hi0 : ks.length - 1 < ks.length := by omega
  have hi1 : 1 ≤ ks.length - 1 := by omega
  have hz16 : (List.replicate 16 (0 : UInt8)).length = 16 := rfl
  have hnn : ks.length ≤ 15 := hn
  clear a0 w0 h0 b0 b1 k1 hk2
  generalize List.replicate 16 (0 : UInt8) = S at *
  generalize ks.length - 1 = i at *
  obtain ⟨R, hR⟩ : ∃ R, dRest ks i X = R := ⟨_, rfl⟩
  rw [hR]
  have hback := ht.back
  have ht14 := ht.m14
  have ht11 := ht.m11
  have ht13 := ht.m13
  have ht9 := ht.m9
  clear ht
  induction N generalizing i S X with
  | zero => exact absurd hN (by omega)
  | succ N ih =>
  obtain ⟨m, rfl⟩ : ∃ m, i = m + 1 := ⟨i - 1, by omega⟩
  refine g_loop (fun k : Nat => [(0, cph n ks tb), (7, .p 7 0 0), (8, .p 8 0 0), (9, .i .i64 (m + 1 : Nat)), (36, .i .i64 k)]) (fun k => [(7, 0, .row true 1 (bytesT (dSet S X k))), (8, 0, .row true 1 (bytesT X))]) (fun k => k ≤ 16) (fun k => 16 - k) 0 ⟨⟨rfl, ⟨rfl, rfl, rfl, rfl⟩, ⟨rfl, rfl, rfl, rfl⟩, rfl, rfl, trivial⟩, ⟨⟨rfl, rfl, trivial⟩, ⟨rfl, rfl, trivial⟩, trivial⟩, trivial⟩ (by omega) ?_
  intro k hk16
  by_cases hkl : k < 16
  · have c1 : decide ((k : Int) < 16) = true := decide_eq_true (by omega)
    have o1 : (IntKind.i64.wrap (5 * (k : Int))).tmod 16 = ((5 * k % 16 : Nat) : Int) := by rw [w64 (by omega) (by omega), Int.tmod_eq_emod_of_nonneg (by omega)]; omega
    have b1 : 0 ≤ (IntKind.i64.wrap (5 * (k : Int))).tmod 16 := by rw [o1]; omega
    have b2 : (IntKind.i64.wrap (5 * (k : Int))).tmod 16 < ((16 : Nat) : Int) := by rw [o1]; omega
    have h1 : (bytesT X)[0 + ((k : Int)).toNat * (tin (C ml) 5).size]? = some (.i .u8 (bi (X.getD k 0))) := getB X _ _ (by omega) (by rw [hz]; omega)
    have h2 := hback (X.getD k 0)
    have o2 : 0 + ((IntKind.i64.wrap (5 * (k : Int))).tmod 16).toNat * (tin (C ml) 5).size = 5 * k % 16 := by rw [o1, hz]; omega
    have q1 : 0 + ((IntKind.i64.wrap (5 * (k : Int))).tmod 16).toNat * (tin (C ml) 5).size + (tin (C ml) 5).size ≤ (bytesT (dSet S X k)).length := by rw [o2, hz, bytesT_length, dSet_length]; omega
    have e2 : dSet S X (k + 1) = (dSet S X k).set (5 * k % 16) (bk (X.getD k 0)) := rfl
    clear o1
    generalize X.getD k 0 = y at *
    refine gFb [.t, .a, ld1 h1, ld1 h2] rfl (rd_next (k + 1) (by omega) (by omega) ⟨rfl, ⟨rfl, rfl, rfl, rfl⟩, ⟨rfl, rfl, rfl, rfl⟩, rfl, ?_, trivial⟩ ⟨⟨rfl, ?_, trivial⟩, ⟨rfl, rfl, trivial⟩, trivial⟩ trivial)
    · show T.i _ _ = T.i _ _
      rw [w64 (by omega) (by omega)]; simp
    · show (bytesT (dSet S X k)).set _ (.i .u8 (bi (bk y))) = bytesT (dSet S X (k + 1))
      rw [bytesT_set, e2, o2]
  have e16 : k = 16 := by omega
  subst e16
  rw [dSet_all hz16 hx]
  have hW : ((ushL X).map bk).length = 16 := by rw [List.length_map, ushL_length]
  have c0 : decide (((16 : Nat) : Int) < 16) = false := by decide
  have a7 := aAdd7 (ml := ml) ((ushL X).map bk) (ks.getD m []) hW (hlen _ (by omega))
  have hY : (xorL ((ushL X).map bk) (ks.getD m [])).length = 16 := by rw [xorL_length, hW, hlen _ (by omega)]; rfl
  have w0 : IntKind.i64.wrap (((m + 1 : Nat) : Int) - 1) = (m : Int) := by rw [w64 (by omega) (by omega)]; omega
  have h9 : (ks.map T.s)[(IntKind.i64.wrap (((m + 1 : Nat) : Int) - 1)).toNat * (tin (C ml) 9).size]? = some (.s (ks.getD m [])) := by rw [w0]; exact hks m (by omega)
  have b0 : 0 ≤ IntKind.i64.wrap (((m + 1 : Nat) : Int) - 1) := by rw [w0]; omega
  have b1 : IntKind.i64.wrap (((m + 1 : Nat) : Int) - 1) < (ks.length : Int) := by rw [w0]; omega
  unfold dRest at hR
  generalize (ushL X).map bk = W at *
  generalize hYe : xorL W (ks.getD m []) = Y at *
  refine gFb [.f] rfl (rd_exit rfl ?_)
  by_cases hm : m = 0
  · have c1 : (IntKind.i64.wrap (((m + 1 : Nat) : Int) - 1) == 0) = true := by rw [w0]; simp; omega
    rw [if_pos hm] at hR
    subst hR
    have hb : List.take ((((16 : Nat) : Int).toNat - Int.toNat 0) * szOf (1 : Mk)) (List.drop (0 + Int.toNat 0 * (tin (C ml) 5).size) (bytesT Y)) = bytesT Y := List.take_of_length_le (by show _ ≤ 16; rw [List.length_drop, bytesT_length]; omega)
    have q2 : 0 + 16 * (tin (C ml) 5).size ≤ (bytesT Y).length := by rw [hz, bytesT_length]; omega
    refine gFb [.a, ld1 h9, ch a7, .t, ldb hb] rfl (sp_rt (ret_of rfl ?_ trivial trivial))
    exact ⟨rfl, rfl, rfl⟩
  have c1 : (IntKind.i64.wrap (((m + 1 : Nat) : Int) - 1) == 0) = false := by rw [w0]; simp; omega
  rw [if_neg hm] at hR
  have hU := unmixL_length Y
  have hUd := unmixD Y
  generalize unmixL Y = U at *
  refine gRb [.a, ld1 h9, ch a7, .f] rfl ?_
  refine g_loop (fun K : Nat => [(0, cph n ks tb), (7, .p 7 0 0), (8, .p 8 0 0), (9, .i .i64 (m : Nat)), (11, .i .i64 K)]) (fun K => [(7, 0, .row true 1 (bytesT Y)), (8, 0, .row true 1 (bytesT (setM U X K)))]) (fun K => K ≤ 16 ∧ K % 4 = 0) (fun K => 16 - K) 0 ⟨⟨rfl, ⟨rfl, rfl, rfl, rfl⟩, ⟨rfl, rfl, rfl, rfl⟩, ?_, rfl, trivial⟩, ⟨⟨rfl, rfl, trivial⟩, ⟨rfl, rfl, trivial⟩, trivial⟩, trivial⟩ (by omega) ?_
  · exact congrArg (T.i _) w0
  clear w0 h9 b0 b1 c1 a7 c0
  rintro K ⟨hK, h4⟩
  by_cases hK16 : K < 16
  · have c2 : decide ((K : Int) < 16) = true := decide_eq_true (by omega)
    refine gRb [.t] rfl ?_
    have hUq : ∀ q, q < 4 → U.getD (K + q) 0 = g14 (Y.getD (K + q) 0) ^^^ g11 (Y.getD (K + (q + 1) % 4) 0) ^^^ g13 (Y.getD (K + (q + 2) % 4) 0) ^^^ g9 (Y.getD (K + (q + 3) % 4) 0) := fun q hq => hUd K q h4 (by omega) hq
    refine g_loop (fun q : Nat => [(0, cph n ks tb), (7, .p 7 0 0), (8, .p 8 0 0), (9, .i .i64 (m : Nat)), (11, .i .i64 K), (73, .i .i64 q)]) (fun q => [(7, 0, .row true 1 (bytesT Y)), (8, 0, .row true 1 (bytesT (setM U X (K + q))))]) (fun q => q ≤ 4) (fun q => 4 - q) 0 ⟨⟨rfl, ⟨rfl, rfl, rfl, rfl⟩, ⟨rfl, rfl, rfl, rfl⟩, rfl, rfl, rfl, trivial⟩, ⟨⟨rfl, rfl, trivial⟩, ⟨rfl, rfl, trivial⟩, trivial⟩, trivial⟩ (by omega) ?_
    intro q hq4
    by_cases hq : q < 4
    · have c3 : decide ((q : Int) < 4) = true := decide_eq_true (by omega)
      have wq : IntKind.i64.wrap ((K : Int) + (q : Int)) = ((K + q : Nat) : Int) := w64 (by omega) (by omega)
      have wr : ∀ z : Nat, z < 4 → IntKind.i64.wrap ((K : Int) + (IntKind.i64.wrap ((q : Int) + (z : Int))).tmod 4) = ((K + (q + z) % 4 : Nat) : Int) := fun z hz => by
        rw [w64 (x := (q : Int) + (z : Int)) (by omega) (by omega), Int.tmod_eq_emod_of_nonneg (by omega), w64 (by omega) (by omega)]; omega
      have l0 : (bytesT Y)[0 + (IntKind.i64.wrap ((K : Int) + (q : Int))).toNat * (tin (C ml) 5).size]? = some (.i .u8 (bi (Y.getD (K + q) 0))) := getB Y _ _ (by omega) (by rw [wq, hz]; omega)
      have l1 : (bytesT Y)[0 + (IntKind.i64.wrap ((K : Int) + (IntKind.i64.wrap ((q : Int) + 1)).tmod 4)).toNat * (tin (C ml) 5).size]? = some (.i .u8 (bi (Y.getD (K + (q + 1) % 4) 0))) := getB Y _ _ (by omega) (by rw [show ((1 : Int)) = ((1 : Nat) : Int) from rfl, wr 1 (by omega), hz]; omega)
      have m1 : 0 ≤ IntKind.i64.wrap ((K : Int) + (IntKind.i64.wrap ((q : Int) + 1)).tmod 4) := by rw [show ((1 : Int)) = ((1 : Nat) : Int) from rfl, wr 1 (by omega)]; omega
      have n1 : IntKind.i64.wrap ((K : Int) + (IntKind.i64.wrap ((q : Int) + 1)).tmod 4) < ((16 : Nat) : Int) := by rw [show ((1 : Int)) = ((1 : Nat) : Int) from rfl, wr 1 (by omega)]; omega
      have l2 : (bytesT Y)[0 + (IntKind.i64.wrap ((K : Int) + (IntKind.i64.wrap ((q : Int) + 2)).tmod 4)).toNat * (tin (C ml) 5).size]? = some (.i .u8 (bi (Y.getD (K + (q + 2) % 4) 0))) := getB Y _ _ (by omega) (by rw [show ((2 : Int)) = ((2 : Nat) : Int) from rfl, wr 2 (by omega), hz]; omega)
      have m2 : 0 ≤ IntKind.i64.wrap ((K : Int) + (IntKind.i64.wrap ((q : Int) + 2)).tmod 4) := by rw [show ((2 : Int)) = ((2 : Nat) : Int) from rfl, wr 2 (by omega)]; omega
      have n2 : IntKind.i64.wrap ((K : Int) + (IntKind.i64.wrap ((q : Int) + 2)).tmod 4) < ((16 : Nat) : Int) := by rw [show ((2 : Int)) = ((2 : Nat) : Int) from rfl, wr 2 (by omega)]; omega
      have l3 : (bytesT Y)[0 + (IntKind.i64.wrap ((K : Int) + (IntKind.i64.wrap ((q : Int) + 3)).tmod 4)).toNat * (tin (C ml) 5).size]? = some (.i .u8 (bi (Y.getD (K + (q + 3) % 4) 0))) := getB Y _ _ (by omega) (by rw [show ((3 : Int)) = ((3 : Nat) : Int) from rfl, wr 3 (by omega), hz]; omega)
      have m3 : 0 ≤ IntKind.i64.wrap ((K : Int) + (IntKind.i64.wrap ((q : Int) + 3)).tmod 4) := by rw [show ((3 : Int)) = ((3 : Nat) : Int) from rfl, wr 3 (by omega)]; omega
      have n3 : IntKind.i64.wrap ((K : Int) + (IntKind.i64.wrap ((q : Int) + 3)).tmod 4) < ((16 : Nat) : Int) := by rw [show ((3 : Int)) = ((3 : Nat) : Int) from rfl, wr 3 (by omega)]; omega
      have b1 : 0 ≤ IntKind.i64.wrap ((K : Int) + (q : Int)) := by rw [wq]; omega
      have b2 : IntKind.i64.wrap ((K : Int) + (q : Int)) < ((16 : Nat) : Int) := by rw [wq]; omega
      have q1 : 0 + (IntKind.i64.wrap ((K : Int) + (q : Int))).toNat * (tin (C ml) 5).size + (tin (C ml) 5).size ≤ (bytesT (setM U X (K + q))).length := by rw [wq, hz, bytesT_length, setM_length (by omega)]; omega
      have o1 : 0 + (IntKind.i64.wrap ((K : Int) + (q : Int))).toNat * (tin (C ml) 5).size = K + q := by rw [wq, hz]; omega
      have e2 := setM_set (V := U) (t := X) (k := K + q) (by omega) (by omega)
      rw [hUq q hq] at e2
      clear wq wr
      generalize Y.getD (K + q) 0 = y0 at *
      generalize Y.getD (K + (q + 1) % 4) 0 = y1 at *
      generalize Y.getD (K + (q + 2) % 4) 0 = y2 at *
      generalize Y.getD (K + (q + 3) % 4) 0 = y3 at *
      have t0 := ht14 y0
      have t1 := ht11 y1
      have t2 := ht13 y2
      have t3 := ht9 y3
      refine gFb [.t, .a, ld1 l0, ld1 t0, .a, ld1 l1, ld1 t1, .a, ld1 l2, ld1 t2, .a, ld1 l3, ld1 t3] rfl (rd_next (q + 1) (by omega) (by omega) ⟨rfl, ⟨rfl, rfl, rfl, rfl⟩, ⟨rfl, rfl, rfl, rfl⟩, rfl, rfl, ?_, trivial⟩ ⟨⟨rfl, rfl, trivial⟩, ⟨rfl, ?_, trivial⟩, trivial⟩ trivial)
      · show T.i _ _ = T.i _ _
        rw [w64 (by omega) (by omega)]; simp
      · show (bytesT (setM U X (K + q))).set _ (.i .u8 (bitsI .xor .u8 (bitsI .xor .u8 (bitsI .xor .u8 (bi (g14 y0)) (bi (g11 y1))) (bi (g13 y2))) (bi (g9 y3)))) = bytesT (setM U X (K + (q + 1)))
        rw [b_xor, b_xor, b_xor, bytesT_set, o1, e2]; rfl
    have eq4 : q = 4 := by omega
    subst eq4
    have c3 : decide (((4 : Nat) : Int) < 4) = false := by decide
    refine gFb [.f] rfl (rd_exit rfl ?_)
    refine gFb [] rfl (rd_next (K + 4) ⟨by omega, by omega⟩ (by omega) ⟨rfl, ⟨rfl, rfl, rfl, rfl⟩, ⟨rfl, rfl, rfl, rfl⟩, rfl, ?_, trivial⟩ ⟨⟨rfl, rfl, trivial⟩, ⟨rfl, rfl, trivial⟩, trivial⟩ trivial)
    · show T.i _ _ = T.i _ _
      rw [w64 (by omega) (by omega)]; simp
  have eK : K = 16 := by omega
  subst eK
  rw [show setM U X 16 = U by rw [← hx]; exact setM_all (by omega)]
  have c2 : decide (((16 : Nat) : Int) < 16) = false := by decide
  refine gFb [.f] rfl (rd_exit rfl ?_)
  refine gFb [] rfl ⟨_, rfl, ?_⟩
  refine gRb [] rfl ?_
  refine g_weak (e' := [(0, cph n ks tb), (7, .p 7 0 0), (8, .p 8 0 0), (9, .i .i64 (m : Nat)), (36, .i .i64 0)]) (h' := [(7, 0, .row true 1 (bytesT Y)), (8, 0, .row true 1 (bytesT U))]) ⟨⟨rfl, ⟨rfl, rfl, rfl, rfl⟩, ⟨rfl, rfl, rfl, rfl⟩, rfl, rfl, trivial⟩, ⟨⟨rfl, rfl, trivial⟩, ⟨rfl, rfl, trivial⟩, trivial⟩, trivial⟩ ?_
  apply ih (X := U) (S := Y) (i := m) <;> first | assumption | omega
end Go.Proofs.YtipomdmlkkifcaaGreatDoor.Vm
