/- Texts of one proof, gathered: RefE RefF. -/
import Derived.Test.YtipomdmlkkifcaaGreatDoorPart26
import Derived.Test.YtipomdmlkkifcaaGreatDoorPart24
set_option linter.unusedSimpArgs false
set_option linter.unusedVariables false
set_option linter.unnecessarySimpa false
/- Contracts: clavigerref23.Of; clavigerref34.Join; clavigerref36.Make, Take; clavigerref37.Bind, Seal; clavigerref38.Open; clavigerref39.Export, Import, Size. -/
set_option maxRecDepth 100000
namespace Go.Proofs.YtipomdmlkkifcaaGreatDoor.Vm
open Go Go.Proofs Go.RowKit
variable {ml : Int}
theorem rOf23 (l : List UInt8) (n : Int) : Ret P (C ml) 105 [.s l, .i .i64 n] (.tup [.i .i64 (kFind l n), .b (kFind l n != 0)]) := by
  refine hR Tryz.func105 ?_
  refine gR [] rfl ?_
  refine g_loop (fun i : Nat => [(0, .s l), (1, .i .i64 n), (6, .i .i64 ((i + 1 : Nat) : Int))]) (fun _ => []) (fun i => i ≤ 11 ∧ ∀ j, 0 < j → j < i + 1 → kHit l n j = false) (fun i => 11 - i) 0 ⟨⟨rfl, rfl, rfl, trivial⟩, trivial, trivial⟩ ⟨by omega, fun j h1 h2 => by omega⟩ ?_
  rintro i ⟨i1, i2⟩
  have k1 := rLetter (ml := ml) ((i + 1 : Nat) : Int)
  have k2 := rSize (ml := ml) ((i + 1 : Nat) : Int)
  by_cases hi : i < 11
  · have c1 : decide (((i + 1 : Nat) : Int) < 12) = true := decide_eq_true (by omega)
    cases h1 : (kLetter ((i + 1 : Nat) : Int) == l) with
    | true =>
      cases h2 : (kSize ((i + 1 : Nat) : Int) == n) with
      | true =>
        have hm : kHit l n (i + 1) = true := by unfold kHit; rw [h1, h2]; rfl
        rw [kFind_hit (by omega) (by omega) hm i2]
        refine gF [.t, cc k1, .t, cc k2, .t] rfl (rd_ret (ret_of rfl ?_ trivial trivial))
        refine ⟨rfl, .inr (congrArg T.bl ?_), rfl⟩
        simp; omega
      | false =>
        have hm : kHit l n (i + 1) = false := by unfold kHit; rw [h1, h2]; rfl
        refine gF [.t, cc k1, .t, cc k2, .f] rfl (rd_next (i + 1) ⟨by omega, fun j g1 g2 => ?_⟩ (by omega) ⟨rfl, rfl, ?_, trivial⟩ trivial trivial)
        · by_cases e : j = i + 1
          · rw [e]; exact hm
          · exact i2 j g1 (by omega)
        · exact congrArg (T.i .i64) (by rw [w64 (by omega) (by omega)]; omega)
    | false =>
      have hm : kHit l n (i + 1) = false := by unfold kHit; rw [h1]; rfl
      refine gF [.t, cc k1, .f] rfl (rd_next (i + 1) ⟨by omega, fun j g1 g2 => ?_⟩ (by omega) ⟨rfl, rfl, ?_, trivial⟩ trivial trivial)
      · by_cases e : j = i + 1
        · rw [e]; exact hm
        · exact i2 j g1 (by omega)
      · exact congrArg (T.i .i64) (by rw [w64 (by omega) (by omega)]; omega)
  · obtain rfl : i = 11 := by omega
    rw [kFind_none i2]
    have c1 : decide (((11 + 1 : Nat) : Int) < 12) = false := rfl
    refine gF [.f] rfl (rd_exit rfl ?_)
    refine gF [] rfl (ret_of rfl ?_ trivial trivial)
    exact ⟨rfl, .inr rfl, rfl⟩
theorem rJoin34 (t c g : List UInt8) (h1 : t.length ≤ 100000) (h2 : c.length ≤ 100000) (h3 : g.length ≤ 100000) : Ret P (C ml) 47 [.s t, .s c, .s g] (.s (t ++ hexs c ++ hexs g)) := by
  have k1 := hex02 (ml := ml) c (by omega)
  have k2 := hex02 (ml := ml) g (by omega)
  have l1 := hexs_length c
  have l2 := hexs_length g
  have q1 : t.length + (hexs c).length ≤ 9223372036854775807 := by omega
  have q2 : (t ++ hexs c).length + (hexs g).length ≤ 9223372036854775807 := by simp; omega
  generalize hexs c = x at *
  generalize hexs g = y at *
  refine hR Tryz.func47 ?_
  refine gF [cc k1, cc k2] rfl (ret_of rfl ?_ trivial trivial)
  exact rfl
theorem rMakeOk (k : Int) (key pads : List UInt8) (hk : kChk k key = 0) (hp : pads.length = padsL k) : Ret P (C ml) 44 [.i .i64 k, .s key, .s pads] (.tup [.s (payL key pads), .i .i64 0]) := by
  have hs := kSize_le k
  have ht := totL_16 (kLetter k)
  have hkl := (kChk_size hk).1
  have hpl : pads.length ≤ 80 := by unfold padsL at hp; split at hp <;> omega
  have k1 := rCheck23 (ml := ml) k key (by omega)
  rw [hk] at k1
  have k2 := rPads36 (ml := ml) k
  rw [← hp] at k2
  have k3 := rPut (ml := ml) (8 * key.length) 2 (by omega)
  rw [if_neg (by omega), show (2 : Int).toNat = 2 from rfl] at k3
  have w1 : IntKind.u64.wrap (IntKind.i64.wrap (8 * (key.length : Int))) = ((8 * key.length : Nat) : Int) := by rw [w64 (by omega) (by omega), wrap_u64]; omega
  rw [← w1] at k3
  have hpu : (putL (8 * key.length) 2).length = 2 := putL_length _ _
  have c1 : ((pads.length : Int) != (pads.length : Int)) = false := by simp
  have q1 : (putL (8 * key.length) 2).length + key.length ≤ 9223372036854775807 := by omega
  have q2 : (putL (8 * key.length) 2 ++ key).length + pads.length ≤ 9223372036854775807 := by simp; omega
  unfold payL
  clear w1
  generalize putL (8 * key.length) 2 = y at *
  refine hR Tryz.func44 ?_
  refine gF [cc k1, .f, cc k2, .f, cc k3] rfl (ret_of rfl ?_ trivial trivial)
  exact ⟨rfl, rfl, rfl⟩
theorem rMakeBad (k : Int) (key pads : List UInt8) (hk : kChk k key = 0) (hp : ¬ (pads.length : Int) = padsL k) : Ret P (C ml) 44 [.i .i64 k, .s key, .s pads] (.tup [.s [], .i .i64 13]) := by
  have hs := kSize_le k
  have k1 := rCheck23 (ml := ml) k key (by have := (kChk_size hk).1; omega)
  rw [hk] at k1
  have k2 := rPads36 (ml := ml) k
  have c1 : ((pads.length : Int) != padsL k) = true := by simpa using hp
  refine hR Tryz.func44 ?_
  refine gF [cc k1, .f, cc k2, .t] rfl (ret_of rfl ?_ trivial trivial)
  exact ⟨rfl, rfl, rfl⟩
set_option maxHeartbeats 4000000 in
theorem rTake36 (l p : List UInt8) (hpl : p.length ≤ 100000) : Ret P (C ml) 51 [.s l, .s p] (.tup [.i .i64 (takeL l p).1, .s (takeL l p).2.1, .s (takeL l p).2.2.1, .i .i64 (takeL l p).2.2.2]) := by
  have k1 := rTotal36 (ml := ml) l
  have ht := totL_16 l
  unfold takeL
  by_cases h1 : totL l = 0
  · rw [show partL l p = ([], [], false) by unfold partL; rw [if_pos (.inl h1)], if_pos rfl]
    have c1 : (totL l == 0) = true := by simpa using h1
    refine hR Tryz.func51 ?_
    refine gF [cc k1, .t] rfl (ret_of rfl ?_ trivial trivial)
    exact ⟨rfl, rfl, rfl, rfl, rfl⟩
  have c1 : (totL l == 0) = false := by simpa using h1
  by_cases h2 : (p.length : Int) = totL l
  · have c2 : ((p.length : Int) != totL l) = false := by simpa using h2
    have q0 : (0 : Int) < (p.length : Int) := by omega
    have q1 : (1 : Int) < (p.length : Int) := by omega
    have hb0 := bt_hi p 0
    have hb1 := bt_hi p 1
    have hb0' := bt_lo p 0
    have hb1' := bt_lo p 1
    have eb : (bitsL p : Int) = 256 * bt p 0 + bt p 1 := by
      unfold bitsL
      match p, h2 with
      | a :: b :: r, _ =>
        rw [show (a :: b :: r).take 2 = [a, b] from rfl, getN_two]
        show _ = 256 * ((a.toNat : Nat) : Int) + ((b.toNat : Nat) : Int)
        omega
      | [], h => simp at h; omega
      | [_], h => simp at h; omega
    have e1 : IntKind.i64.wrap (IntKind.i64.wrap (256 * IntKind.i64.wrap (bt p 0)) + IntKind.i64.wrap (bt p 1)) = (bitsL p : Int) := by rw [w64 (x := bt p 0) (by omega) (by omega), w64 (x := bt p 1) (by omega) (by omega), w64 (x := 256 * bt p 0) (by omega) (by omega), w64 (by omega) (by omega), eb]
    generalize hV : IntKind.i64.wrap (IntKind.i64.wrap (256 * IntKind.i64.wrap (bt p 0)) + IntKind.i64.wrap (bt p 1)) = V at *
    have hbl : bitsL p < 65536 := by omega
    have e2 : V.tmod 8 = ((bitsL p % 8 : Nat) : Int) := by rw [e1]; rfl
    have e3 : IntKind.i64.wrap (V.tdiv 8) = ((bitsL p / 8 : Nat) : Int) := by rw [e1, show ((bitsL p : Nat) : Int).tdiv 8 = ((bitsL p / 8 : Nat) : Int) from rfl, w64 (by omega) (by omega)]
    have e4 : IntKind.i64.wrap ((p.length : Int) - 2) = ((p.length - 2 : Nat) : Int) := by rw [w64 (by omega) (by omega)]; omega
    have z8 : (8 : Int) ≠ 0 := by decide
    clear hb0 hb1 hb0' hb1' eb
    by_cases h3 : bitsL p % 8 = 0
    · have c3 : (V.tmod 8 != 0) = false := by rw [e2, h3]; rfl
      by_cases h4 : bitsL p / 8 > p.length - 2
      · have c4 : decide (IntKind.i64.wrap (V.tdiv 8) > IntKind.i64.wrap ((p.length : Int) - 2)) = true := decide_eq_true (by rw [e3, e4]; omega)
        rw [show partL l p = ([], [], false) by unfold partL; rw [if_neg (by omega), if_pos (.inr h4)], if_pos rfl]
        clear e1 e2 e3 e4
        subst hV
        refine hR Tryz.func51 ?_
        refine gF [cc k1, .f, cc k1, .f, .f, .t] rfl (ret_of rfl ?_ trivial trivial)
        exact ⟨rfl, rfl, rfl, rfl, rfl⟩
      · have c4 : decide (IntKind.i64.wrap (V.tdiv 8) > IntKind.i64.wrap ((p.length : Int) - 2)) = false := decide_eq_false (by rw [e3, e4]; omega)
        rw [show partL l p = ((p.drop 2).take (bitsL p / 8), (p.drop 2).drop (bitsL p / 8), true) by unfold partL; rw [if_neg (by omega), if_neg (by omega)], if_neg (by simp)]
        have hkl : ((p.drop 2).take (bitsL p / 8)).length = bitsL p / 8 := by rw [List.length_take, List.length_drop]; omega
        have e5 : IntKind.i64.wrap (2 + IntKind.i64.wrap (V.tdiv 8)) = ((2 + bitsL p / 8 : Nat) : Int) := by rw [e3, w64 (by omega) (by omega)]; omega
        have p1 : (2 : Int) ≤ IntKind.i64.wrap (2 + IntKind.i64.wrap (V.tdiv 8)) := by rw [e5]; omega
        have p2 : IntKind.i64.wrap (2 + IntKind.i64.wrap (V.tdiv 8)) ≤ (p.length : Int) := by rw [e5]; omega
        have p3 : 0 ≤ IntKind.i64.wrap (2 + IntKind.i64.wrap (V.tdiv 8)) := by rw [e5]; omega
        have ek : (p.take (IntKind.i64.wrap (2 + IntKind.i64.wrap (V.tdiv 8))).toNat).drop (2 : Int).toNat = (p.drop 2).take (bitsL p / 8) := by rw [e5, show (((2 + bitsL p / 8 : Nat) : Int)).toNat = 2 + bitsL p / 8 from rfl, show (2 : Int).toNat = 2 from rfl, List.drop_take]; congr 1; omega
        have ep : p.drop (IntKind.i64.wrap (2 + IntKind.i64.wrap (V.tdiv 8))).toNat = (p.drop 2).drop (bitsL p / 8) := by rw [e5, List.drop_drop]; rfl
        simp only
        have k2 := rOf23 (ml := ml) l (IntKind.i64.wrap (V.tdiv 8))
        rw [hkl]
        have k3 := rCheck23 (ml := ml) (kFind l ((bitsL p / 8 : Nat) : Int)) ((p.drop 2).take (bitsL p / 8)) (by omega)
        rw [← ek] at k3 ⊢
        rw [← ep]
        rw [← e3] at k3 ⊢
        clear hkl ek ep e5 e1 e2 e3 e4 h3 h4
        subst hV
        generalize kFind l _ = k at *
        by_cases h5 : k = 0
        · rw [if_pos h5]
          have c5 : (k != 0) = false := by simpa using h5
          rw [c5] at k2
          refine hR Tryz.func51 ?_
          refine gF [cc k1, .f, cc k1, .f, .f, .f, cc k2, .t] rfl (ret_of rfl ?_ trivial trivial)
          exact ⟨rfl, rfl, rfl, rfl, rfl⟩
        · rw [if_neg h5]
          have c5 : (k != 0) = true := by simpa using h5
          rw [c5] at k2
          generalize kChk k _ = e at *
          by_cases h6 : e = 0
          · subst h6
            rw [if_neg (by simp)]
            have c6 : ((0 : Int) != 0) = false := rfl
            refine hR Tryz.func51 ?_
            refine gF [cc k1, .f, cc k1, .f, .f, .f, cc k2, .f, cc k3, .f] rfl (ret_of rfl ?_ trivial trivial)
            exact ⟨rfl, rfl, rfl, rfl, rfl⟩
          · rw [if_pos h6]
            have c6 : (e != 0) = true := by simpa using h6
            refine hR Tryz.func51 ?_
            refine gF [cc k1, .f, cc k1, .f, .f, .f, cc k2, .f, cc k3, .t] rfl (ret_of rfl ?_ trivial trivial)
            exact ⟨rfl, rfl, rfl, rfl, rfl⟩
    · have c3 : (V.tmod 8 != 0) = true := by rw [e2]; simp; omega
      rw [show partL l p = ([], [], false) by unfold partL; rw [if_neg (by omega), if_pos (.inl h3)], if_pos rfl]
      clear e1 e2 e3 e4
      subst hV
      refine hR Tryz.func51 ?_
      refine gF [cc k1, .f, cc k1, .f, .t] rfl (ret_of rfl ?_ trivial trivial)
      exact ⟨rfl, rfl, rfl, rfl, rfl⟩
  · rw [show partL l p = ([], [], false) by unfold partL; rw [if_pos (.inr h2)], if_pos rfl]
    have c2 : ((p.length : Int) != totL l) = true := by simpa using h2
    refine hR Tryz.func51 ?_
    refine gF [cc k1, .f, cc k1, .t] rfl (ret_of rfl ?_ trivial trivial)
    exact ⟨rfl, rfl, rfl, rfl, rfl⟩
theorem rSeal37 (kek top x : List UInt8) (n : Nat) (h : nRounds kek.length ≠ 0) (hx : x.length = 16 * n) (hn : 1 ≤ n) (hn2 : n ≤ 1000) (ht : top.length ≤ 10000) : Ret P (C ml) 46 [.s kek, .s top, .s x] (.tup [.s (sealC kek top x), .s (tagB kek top x), .i .i64 0]) := by
  have k1 := rKeys35 (ml := ml) kek h
  have k2 := rTag (ml := ml) (dKey kek 1) (top ++ x) (dKey_ok h 1) (by simp; omega)
  change Ret P (C ml) _ _ (.tup [.s (tagB kek top x), _]) at k2
  have k3 := rEnc10 (ml := ml) (dKey kek 0) (tagB kek top x) x n (dKey_ok h 0) (tagB_length h _ _) hx hn2
  change Ret P (C ml) _ _ (.tup [.s (sealC kek top x), _]) at k3
  have q1 : top.length + x.length ≤ 9223372036854775807 := by omega
  have c1 : (x == []) = false := by cases x with | nil => simp at hx; omega | cons => rfl
  have c2 : (((x.length : Int)).tmod 16 != 0) = false := by rw [Int.tmod_eq_emod_of_nonneg (by omega)]; simp; omega
  have z16 : (16 : Int) ≠ 0 := by decide
  generalize dKey kek 0 = a at *
  generalize dKey kek 1 = b at *
  generalize sealC kek top x = c at *
  generalize tagB kek top x = t at *
  have k4 : Ret P (C ml) 94 [.s kek, .s top, .s x] (.tup [.s t, .i .i64 0]) := by
    refine hR Tryz.func94 ?_
    refine gF [cc k1, .f, .f, .f, cc k2] rfl (ret_of rfl ?_ trivial trivial)
    exact ⟨rfl, rfl, rfl⟩
  refine hR Tryz.func46 ?_
  refine gF [cc k4, .f, cc k1, cc k3] rfl (ret_of rfl ?_ trivial trivial)
  exact ⟨rfl, rfl, rfl, rfl⟩
theorem rOpen38 (kek top c g : List UInt8) (n : Nat) (h : nRounds kek.length ≠ 0) (hc : c.length = 16 * n) (hn : 1 ≤ n) (hn2 : n ≤ 1000) (hg : g.length = 16) (ht : top.length ≤ 10000) :
    Ret P (C ml) 50 [.s kek, .s top, .s c, .s g] (.tup [.s (openR kek top c g).1, .i .i64 (openR kek top c g).2]) := by
  have k1 := rKeys35 (ml := ml) kek h
  have k2 := rDec10 (ml := ml) (dKey kek 0) g c n (dKey_ok h 0) hg hc hn2
  change Ret P (C ml) _ _ (.tup [.s (openP kek c g), _]) at k2
  have hp := openP_length h hg hc
  have k3 := rTag (ml := ml) (dKey kek 1) (top ++ openP kek c g) (dKey_ok h 1) (by rw [List.length_append, hp]; omega)
  change Ret P (C ml) _ _ (.tup [.s (tagB kek top (openP kek c g)), _]) at k3
  have q1 : top.length + (openP kek c g).length ≤ 9223372036854775807 := by omega
  have c1 : ((g.length : Int) != 16) = false := by simp; omega
  have c2 : (c == []) = false := by cases c with | nil => simp at hc; omega | cons => rfl
  have c3 : (((c.length : Int)).tmod 16 != 0) = false := by rw [Int.tmod_eq_emod_of_nonneg (by omega)]; simp; omega
  have z16 : (16 : Int) ≠ 0 := by decide
  unfold openR
  clear hp hc
  generalize dKey kek 0 = a at *
  generalize dKey kek 1 = b at *
  generalize openP kek c g = p at *
  generalize tagB kek top p = t at *
  by_cases hb : t = g
  · rw [if_pos hb]
    have hb2 : (!(t == g)) = false := by simpa using hb
    refine hR Tryz.func50 ?_
    refine gF [cc k1, .f, .f, .f, .f, cc k2, cc k3, .f] rfl (ret_of rfl ?_ trivial trivial)
    exact ⟨rfl, rfl, rfl⟩
  · rw [if_neg hb]
    have hb2 : (!(t == g)) = true := by simpa using hb
    refine hR Tryz.func50 ?_
    refine gF [cc k1, .f, .f, .f, .f, cc k2, cc k3, .t] rfl (ret_of rfl ?_ trivial trivial)
    exact ⟨rfl, rfl, rfl⟩
theorem key3n {n : Nat} (h : nRounds n = 0) : ((n : Int) != 16) = true ∧ ((n : Int) != 24) = true ∧ ((n : Int) != 32) = true := by
  have h3 : ¬ (n = 16 ∨ n = 24 ∨ n = 32) := fun e => (nR_iff n).2 e h
  simp; omega
theorem rExport39 (kek : List UInt8) (r : Rc) (pads : List UInt8) (hk : kek.length ≤ 1000000) (hy : r.y.length ≤ 1000000) (ha : r.a.length ≤ 100000) (hh : hdFine r.h = true) (hp : pads.length ≤ 1000000) :
    Ret P (C ml) 14 [.s kek, .agg r.cells, .s pads] (.tup [.s (expB kek r pads).1, .i .i64 (expB kek r pads).2]) := by
  by_cases h0 : nRounds kek.length = 0
  · obtain ⟨d1, d2, d3⟩ := key3n h0
    have e : expB kek r pads = ([], 2) := by unfold expB; rw [if_pos h0]
    rw [e]
    unfold Rc.cells
    refine hR Tryz.func14 ?_
    refine gF [.t, .t, .t] rfl (ret_of rfl ?_ trivial trivial)
    exact ⟨rfl, rfl, rfl⟩
  have k1 := rCheck27 (ml := ml) r hy ha
  by_cases h1 : recChk r = 0
  · rw [h1] at k1
    have k2 := rLetter (ml := ml) r.k
    have k3 := rCheck (ml := ml) r.h (kLetter r.k)
    have hkc : kChk r.k r.y = 0 ∧ atErr r.a = 0 := by
      unfold recChk at h1
      split at h1
      · exact ⟨by assumption, h1⟩
      · contradiction
    have c4 : ((0 : Int) != 0) = false := rfl
    cases ht : tChk r.h (kLetter r.k) with
    | true =>
      rw [ht, if_pos rfl] at k3
      have htop : topB r = topL (kLetter r.k) r.h r.a (totL (kLetter r.k)) := by unfold topB; rw [if_pos h1, if_pos ht]
      obtain ⟨s1, s2⟩ := kChk_size hkc.1
      obtain ⟨s3, s4⟩ := kMost_ne s2
      have hm := totL_16 (kLetter r.k)
      have hte := topL_err (l := kLetter r.k) (h := r.h) (a := r.a) (n := totL (kLetter r.k)) (fun e => s3 ((totL_zero _).2 e)) (by omega) (by omega) (by omega) ht hkc.2
      rw [← htop] at hte
      by_cases h2 : (pads.length : Int) = padsL r.k
      · have k4 := rMakeOk (ml := ml) r.k r.y pads hkc.1 h2
        have hpl : ((payL r.y pads).length : Int) = totL (kLetter r.k) := by
          unfold padsL at h2
          rw [if_neg s2] at h2
          have hl : (payL r.y pads).length = 2 + r.y.length + pads.length := by unfold payL; simp [putL_length]; omega
          omega
        have k5 := rTop (ml := ml) (kLetter r.k) r.h r.a (totL (kLetter r.k)) (by have := kLetter_len r.k; omega) hh ha
        rw [← htop, ← hpl] at k5
        by_cases h3 : (topB r).2 = 0
        · have e : expB kek r pads = ((topB r).1 ++ hexs (sealC kek (topB r).1 (payL r.y pads)) ++ hexs (tagB kek (topB r).1 (payL r.y pads)), 0) := by unfold expB; rw [if_neg h0, if_neg (fun h => h.2 h2), if_neg (by simp [h3])]
          rw [e]
          rw [h3] at k5
          obtain ⟨n, n1, n2, n3, n4⟩ := pay_len h3 h2
          have htl := topL_len (show topL (kLetter r.k) r.h r.a (totL (kLetter r.k)) = ((topB r).1, 0) by rw [← htop, ← h3])
          have k6 := rSeal37 (ml := ml) kek (topB r).1 (payL r.y pads) n h0 n1 n2 (by omega) (by omega)
          have k7 := rJoin34 (ml := ml) (topB r).1 (sealC kek (topB r).1 (payL r.y pads)) (tagB kek (topB r).1 (payL r.y pads)) (by omega) (by rw [sealC_length h0 n1]; omega) (by rw [tagB_length h0]; omega)
          have h0' := h0
          clear e hte htop hpl n4 n1 htl h1 hkc s1 s2 s3 s4 hm ht h3 h2 h0
          unfold Rc.cells at k1 ⊢
          unfold Hd.cells at k3 k5
          generalize (topB r).1 ++ hexs (sealC kek (topB r).1 (payL r.y pads)) ++ hexs (tagB kek (topB r).1 (payL r.y pads)) = o at *
          generalize sealC kek (topB r).1 (payL r.y pads) = c at *
          generalize tagB kek (topB r).1 (payL r.y pads) = g at *
          generalize payL r.y pads = x at *
          generalize (topB r).1 = t at *
          rcases key3 h0' with d1 | ⟨d1, d2 | ⟨d2, d3⟩⟩
          · refine hR Tryz.func14 ?_
            refine gF [.f, cc k1, .f, cc k2, cc k3, .f, cc k4, .f, cc k5, .f, cc k6, cc k7] rfl (ret_of rfl ?_ trivial trivial)
            exact ⟨rfl, rfl, rfl⟩
          · refine hR Tryz.func14 ?_
            refine gF [.t, .f, cc k1, .f, cc k2, cc k3, .f, cc k4, .f, cc k5, .f, cc k6, cc k7] rfl (ret_of rfl ?_ trivial trivial)
            exact ⟨rfl, rfl, rfl⟩
          · refine hR Tryz.func14 ?_
            refine gF [.t, .t, .f, cc k1, .f, cc k2, cc k3, .f, cc k4, .f, cc k5, .f, cc k6, cc k7] rfl (ret_of rfl ?_ trivial trivial)
            exact ⟨rfl, rfl, rfl⟩
        · have h4 : (topB r).2 = 4 := by omega
          have e : expB kek r pads = ([], 4) := by unfold expB; rw [if_neg h0, if_neg (fun h => h.2 h2), if_pos h3, h4]
          rw [e]
          rw [h4] at k5
          have c5 : ((4 : Int) != 0) = true := rfl
          have h0' := h0
          clear e hte htop hpl h1 hkc s1 s2 s3 s4 hm ht h3 h4 h2 h0
          unfold Rc.cells at k1 ⊢
          unfold Hd.cells at k3 k5
          generalize payL r.y pads = x at *
          generalize (topB r).1 = t at *
          rcases key3 h0' with d1 | ⟨d1, d2 | ⟨d2, d3⟩⟩
          · refine hR Tryz.func14 ?_
            refine gF [.f, cc k1, .f, cc k2, cc k3, .f, cc k4, .f, cc k5, .t] rfl (ret_of rfl ?_ trivial trivial)
            exact ⟨rfl, rfl, rfl⟩
          · refine hR Tryz.func14 ?_
            refine gF [.t, .f, cc k1, .f, cc k2, cc k3, .f, cc k4, .f, cc k5, .t] rfl (ret_of rfl ?_ trivial trivial)
            exact ⟨rfl, rfl, rfl⟩
          · refine hR Tryz.func14 ?_
            refine gF [.t, .t, .f, cc k1, .f, cc k2, cc k3, .f, cc k4, .f, cc k5, .t] rfl (ret_of rfl ?_ trivial trivial)
            exact ⟨rfl, rfl, rfl⟩
      · have k4 := rMakeBad (ml := ml) r.k r.y pads hkc.1 h2
        have e : expB kek r pads = ([], 13) := by unfold expB; rw [if_neg h0, if_pos ⟨by omega, h2⟩]
        rw [e]
        have c5 : ((13 : Int) != 0) = true := rfl
        have h0' := h0
        clear e hte htop h1 hkc s1 s2 s3 s4 hm ht h2 h0
        unfold Rc.cells at k1 ⊢
        unfold Hd.cells at k3
        rcases key3 h0' with d1 | ⟨d1, d2 | ⟨d2, d3⟩⟩
        · refine hR Tryz.func14 ?_
          refine gF [.f, cc k1, .f, cc k2, cc k3, .f, cc k4, .t] rfl (ret_of rfl ?_ trivial trivial)
          exact ⟨rfl, rfl, rfl⟩
        · refine hR Tryz.func14 ?_
          refine gF [.t, .f, cc k1, .f, cc k2, cc k3, .f, cc k4, .t] rfl (ret_of rfl ?_ trivial trivial)
          exact ⟨rfl, rfl, rfl⟩
        · refine hR Tryz.func14 ?_
          refine gF [.t, .t, .f, cc k1, .f, cc k2, cc k3, .f, cc k4, .t] rfl (ret_of rfl ?_ trivial trivial)
          exact ⟨rfl, rfl, rfl⟩
    | false =>
      rw [ht, if_neg (by simp)] at k3
      have htop : topB r = ([], 12) := by unfold topB; rw [if_pos h1, if_neg (by simp [ht])]
      have e : expB kek r pads = ([], 12) := by unfold expB; rw [if_neg h0, htop, if_neg (by simp), if_pos (by simp)]
      rw [e]
      have c5 : ((12 : Int) != 0) = true := rfl
      have h0' := h0
      clear e htop h1 hkc ht h0
      unfold Rc.cells at k1 ⊢
      unfold Hd.cells at k3
      rcases key3 h0' with d1 | ⟨d1, d2 | ⟨d2, d3⟩⟩
      · refine hR Tryz.func14 ?_
        refine gF [.f, cc k1, .f, cc k2, cc k3, .t] rfl (ret_of rfl ?_ trivial trivial)
        exact ⟨rfl, rfl, rfl⟩
      · refine hR Tryz.func14 ?_
        refine gF [.t, .f, cc k1, .f, cc k2, cc k3, .t] rfl (ret_of rfl ?_ trivial trivial)
        exact ⟨rfl, rfl, rfl⟩
      · refine hR Tryz.func14 ?_
        refine gF [.t, .t, .f, cc k1, .f, cc k2, cc k3, .t] rfl (ret_of rfl ?_ trivial trivial)
        exact ⟨rfl, rfl, rfl⟩
  · have htop : topB r = ([], recChk r) := by unfold topB; rw [if_neg h1]
    have hrv : recChk r ≠ 4 := by
      unfold recChk
      by_cases g : kChk r.k r.y = 0
      · rw [if_pos g]; unfold atErr; split <;> decide
      · rw [if_neg g]; unfold kChk; split
        · decide
        · split
          · decide
          · split <;> decide
    have e : expB kek r pads = ([], recChk r) := by
      unfold expB
      rw [if_neg h0, htop, if_neg (fun h => by rcases h.1 with h | h; exact h1 h; exact hrv h), if_pos h1]
    rw [e]
    have c5 : (recChk r != 0) = true := by simpa using h1
    have h0' := h0
    clear e htop hrv h1 h0
    unfold Rc.cells at k1 ⊢
    generalize recChk r = er at *
    rcases key3 h0' with d1 | ⟨d1, d2 | ⟨d2, d3⟩⟩
    · refine hR Tryz.func14 ?_
      refine gF [.f, cc k1, .t] rfl (ret_of rfl ?_ trivial trivial)
      exact ⟨rfl, rfl, rfl⟩
    · refine hR Tryz.func14 ?_
      refine gF [.t, .f, cc k1, .t] rfl (ret_of rfl ?_ trivial trivial)
      exact ⟨rfl, rfl, rfl⟩
    · refine hR Tryz.func14 ?_
      refine gF [.t, .t, .f, cc k1, .t] rfl (ret_of rfl ?_ trivial trivial)
      exact ⟨rfl, rfl, rfl⟩
end Go.Proofs.YtipomdmlkkifcaaGreatDoor.Vm
/- Contracts: clavigerref39.Import, Size; layer 39's BlockTells. -/
set_option maxRecDepth 100000
namespace Go.Proofs.YtipomdmlkkifcaaGreatDoor.Vm
open Go Go.Proofs Go.RowKit
variable {ml : Int}
theorem rImport39 (kek b : List UInt8) (hk : kek.length ≤ 1000000) (hb : b.length ≤ 100000) : Ret P (C ml) 16 [.s kek, .s b] (.tup [.agg (rcC (impB kek b)), .s (impB kek b).2.1, .i .i64 (impB kek b).2.2]) := by
  have k2 := rCut0 (ml := ml) b hb
  unfold impB
  by_cases h0 : nRounds kek.length = 0
  · obtain ⟨d1, d2, d3⟩ := key3n h0
    rw [if_pos h0]
    refine hR Tryz.func16 ?_
    refine gF [.t, .t, .t] rfl (ret_of rfl ?_ trivial trivial)
    exact ⟨⟨rfl, rfl⟩, rfl, rfl, rfl⟩
  rw [if_neg h0]
  by_cases h1 : (cutF b).2 = 0
  · rw [if_neg (by simp [h1])]
    have hx : cutF b = ((cutF b).1, 0) := by rw [← h1]
    obtain ⟨n, n1, n2, n3, n4, n5⟩ := cut_lens hx
    rw [hx, frC_ok] at k2
    have k3 := rOpen38 (ml := ml) kek (cutF b).1.t (cutF b).1.c (cutF b).1.g n h0 n1 n2 n3 n4 (by omega)
    have hol : (openR kek (cutF b).1.t (cutF b).1.c (cutF b).1.g).1.length ≤ 100000 := by
      unfold openR
      split
      · have := openP_length h0 n4 n1; simp only; omega
      · simp
    generalize openR kek (cutF b).1.t (cutF b).1.c (cutF b).1.g = op at *
    have k4 := rTake36 (ml := ml) (cutF b).1.l op.1 hol
    generalize takeL (cutF b).1.l op.1 = tk at *
    clear hx n1 n4 n5 h1 hol
    generalize (cutF b).1 = f at *
    obtain ⟨l, ⟨u, m, v, e⟩, a, t, c, g⟩ := f
    obtain ⟨x, e1⟩ := op
    obtain ⟨k, key, pads, e2⟩ := tk
    simp only [Fr.cells] at k2 k3 k4 ⊢
    have c2 : ((0 : Int) != 0) = false := rfl
    by_cases h2 : e1 = 0
    · subst h2
      rw [if_neg (by simp)]
      by_cases h3 : e2 = 0
      · subst h3
        rw [if_neg (by simp)]
        show Ret P (C ml) _ _ (.tup [.agg [.i .i64 k, .s key, .sl a.length (attCells a), .s u, .s m, .s v, .s e], _, _])
        rcases key3 h0 with d1 | ⟨d1, d2 | ⟨d2, d3⟩⟩
        · refine hR Tryz.func16 ?_
          refine gF [.f, cc k2, .f, cc k3, .f, cc k4, .f] rfl (ret_of rfl ?_ trivial trivial)
          exact ⟨⟨rfl, rfl⟩, rfl, rfl, rfl⟩
        · refine hR Tryz.func16 ?_
          refine gF [.t, .f, cc k2, .f, cc k3, .f, cc k4, .f] rfl (ret_of rfl ?_ trivial trivial)
          exact ⟨⟨rfl, rfl⟩, rfl, rfl, rfl⟩
        · refine hR Tryz.func16 ?_
          refine gF [.t, .t, .f, cc k2, .f, cc k3, .f, cc k4, .f] rfl (ret_of rfl ?_ trivial trivial)
          exact ⟨⟨rfl, rfl⟩, rfl, rfl, rfl⟩
      · rw [if_pos h3]
        have c3 : (e2 != 0) = true := by simpa using h3
        rw [show rcC (Rc.none, [], e2) = noneRc from if_neg h3]
        rcases key3 h0 with d1 | ⟨d1, d2 | ⟨d2, d3⟩⟩
        · refine hR Tryz.func16 ?_
          refine gF [.f, cc k2, .f, cc k3, .f, cc k4, .t] rfl (ret_of rfl ?_ trivial trivial)
          exact ⟨⟨rfl, rfl⟩, rfl, rfl, rfl⟩
        · refine hR Tryz.func16 ?_
          refine gF [.t, .f, cc k2, .f, cc k3, .f, cc k4, .t] rfl (ret_of rfl ?_ trivial trivial)
          exact ⟨⟨rfl, rfl⟩, rfl, rfl, rfl⟩
        · refine hR Tryz.func16 ?_
          refine gF [.t, .t, .f, cc k2, .f, cc k3, .f, cc k4, .t] rfl (ret_of rfl ?_ trivial trivial)
          exact ⟨⟨rfl, rfl⟩, rfl, rfl, rfl⟩
    · rw [if_pos h2]
      have c3 : (e1 != 0) = true := by simpa using h2
      rw [show rcC (Rc.none, [], e1) = noneRc from if_neg h2]
      rcases key3 h0 with d1 | ⟨d1, d2 | ⟨d2, d3⟩⟩
      · refine hR Tryz.func16 ?_
        refine gF [.f, cc k2, .f, cc k3, .t] rfl (ret_of rfl ?_ trivial trivial)
        exact ⟨⟨rfl, rfl⟩, rfl, rfl, rfl⟩
      · refine hR Tryz.func16 ?_
        refine gF [.t, .f, cc k2, .f, cc k3, .t] rfl (ret_of rfl ?_ trivial trivial)
        exact ⟨⟨rfl, rfl⟩, rfl, rfl, rfl⟩
      · refine hR Tryz.func16 ?_
        refine gF [.t, .t, .f, cc k2, .f, cc k3, .t] rfl (ret_of rfl ?_ trivial trivial)
        exact ⟨⟨rfl, rfl⟩, rfl, rfl, rfl⟩
  · rw [if_pos h1]
    rw [show frC (cutF b) = noneCells from if_neg h1] at k2
    rw [show rcC (Rc.none, [], (cutF b).2) = noneRc from if_neg h1]
    have c3 : ((cutF b).2 != 0) = true := by simpa using h1
    generalize (cutF b).2 = e at *
    rcases key3 h0 with d1 | ⟨d1, d2 | ⟨d2, d3⟩⟩
    · refine hR Tryz.func16 ?_
      refine gF [.f, cc k2, .t] rfl (ret_of rfl ?_ trivial trivial)
      exact ⟨⟨rfl, rfl⟩, rfl, rfl, rfl⟩
    · refine hR Tryz.func16 ?_
      refine gF [.t, .f, cc k2, .t] rfl (ret_of rfl ?_ trivial trivial)
      exact ⟨⟨rfl, rfl⟩, rfl, rfl, rfl⟩
    · refine hR Tryz.func16 ?_
      refine gF [.t, .t, .f, cc k2, .t] rfl (ret_of rfl ?_ trivial trivial)
      exact ⟨⟨rfl, rfl⟩, rfl, rfl, rfl⟩
theorem rSize39 (r : Rc) (hy : r.y.length ≤ 1000000) (ha : r.a.length ≤ 100000) (hh : hdFine r.h = true) : Ret P (C ml) 19 [.agg r.cells] (.i .i64 (szB39 r)) := by
  have k1 := rCheck27 (ml := ml) r hy ha
  have k2 := rLetter (ml := ml) r.k
  have k3 := rCheck (ml := ml) r.h (kLetter r.k)
  have k4 := rTotal36 (ml := ml) (kLetter r.k)
  have k5 := rTop (ml := ml) (kLetter r.k) r.h r.a (totL (kLetter r.k)) (by have := kLetter_len r.k; omega) hh ha
  have hm := totL_16 (kLetter r.k)
  unfold szB39
  unfold Hd.cells at k3 k5
  by_cases h1 : recChk r = 0
  · have c1 : (recChk r != 0) = false := by simpa using h1
    cases ht : tChk r.h (kLetter r.k) with
    | true =>
      rw [ht, if_pos rfl] at k3
      have c2 : ((0 : Int) != 0) = false := rfl
      have htop : topB r = topL (kLetter r.k) r.h r.a (totL (kLetter r.k)) := by unfold topB; rw [if_pos h1, if_pos ht]
      rw [← htop] at k5
      by_cases h2 : (topB r).2 = 0
      · rw [if_pos h2]
        rw [h2] at k5
        have htl := topL_len (show topL (kLetter r.k) r.h r.a (totL (kLetter r.k)) = ((topB r).1, 0) by rw [← htop, ← h2])
        clear htop h1 ht h2
        unfold Rc.cells at k1 ⊢
        generalize recChk r = er at *
        generalize (topB r).1 = t at *
        generalize totL (kLetter r.k) = n at *
        have e : IntKind.i64.wrap (IntKind.i64.wrap ((t.length : Int) + IntKind.i64.wrap (2 * n)) + 32) = (t.length : Int) + 2 * n + 32 := by rw [w64 (x := 2 * n) (by omega) (by omega), w64 (x := (t.length : Int) + 2 * n) (by omega) (by omega), w64 (by omega) (by omega)]
        refine hR Tryz.func19 ?_
        refine gF [cc k2, cc k1, .f, cc k3, .f, cc k4, cc k5, .f] rfl (ret_of rfl ?_ trivial trivial)
        exact congrArg (T.i .i64) e
      · rw [if_neg h2]
        have c3 : ((topB r).2 != 0) = true := by simpa using h2
        clear htop h1 ht h2
        unfold Rc.cells at k1 ⊢
        generalize recChk r = er at *
        generalize (topB r).1 = t at *
        generalize (topB r).2 = e at *
        generalize totL (kLetter r.k) = n at *
        refine hR Tryz.func19 ?_
        refine gF [cc k2, cc k1, .f, cc k3, .f, cc k4, cc k5, .t] rfl (ret_of rfl ?_ trivial trivial)
        exact rfl
    | false =>
      rw [ht, if_neg (by simp)] at k3
      have c2 : ((12 : Int) != 0) = true := rfl
      have htop : topB r = ([], 12) := by unfold topB; rw [if_pos h1, if_neg (by simp [ht])]
      rw [htop, if_neg (by simp)]
      clear htop h1 ht
      unfold Rc.cells at k1 ⊢
      generalize recChk r = er at *
      refine hR Tryz.func19 ?_
      refine gF [cc k2, cc k1, .f, cc k3, .t] rfl (ret_of rfl ?_ trivial trivial)
      exact rfl
  · have c1 : (recChk r != 0) = true := by simpa using h1
    have htop : topB r = ([], recChk r) := by unfold topB; rw [if_neg h1]
    rw [htop, if_neg h1]
    clear htop h1
    unfold Rc.cells at k1 ⊢
    generalize recChk r = er at *
    refine hR Tryz.func19 ?_
    refine gF [cc k2, cc k1, .t] rfl (ret_of rfl ?_ trivial trivial)
    exact rfl
theorem blockTells39 (kek : List UInt8) (r : Rc) (pads b : List UInt8) (hy : r.y.length ≤ 9223372036854775807) : Ret P (C ml) 4 [.s kek, .agg r.cells, .s pads, .s b] (.b true) := by
  have ka := awake39 (ml := ml)
  have kr := plainRec (ml := ml) r hy
  by_cases c1 : 100 < kek.length
  · have d1 : decide ((kek.length : Int) > 100) = true := decide_eq_true (by omega)
    unfold Rc.cells
    refine hR Tryz.func4 ?_
    refine gF [.t, cc ka] rfl (ret_of rfl ?_ trivial trivial)
    exact .inl rfl
  have d1 : decide ((kek.length : Int) > 100) = false := decide_eq_false (by omega)
  cases hf : recFine r with
  | false =>
    rw [hf] at kr
    unfold Rc.cells at kr ⊢
    refine hR Tryz.func4 ?_
    refine gF [.f, cc kr, .t, cc ka] rfl (ret_of rfl ?_ trivial trivial)
    exact .inl rfl
  | true =>
  rw [hf] at kr
  obtain ⟨f1, f2, f3⟩ := recFine_ok hf
  by_cases c2 : 200 < pads.length
  · have d2 : decide ((pads.length : Int) > 200) = true := decide_eq_true (by omega)
    unfold Rc.cells at kr ⊢
    refine hR Tryz.func4 ?_
    refine gF [.f, cc kr, .f, .t, cc ka] rfl (ret_of rfl ?_ trivial trivial)
    exact .inl rfl
  have d2 : decide ((pads.length : Int) > 200) = false := decide_eq_false (by omega)
  by_cases c3 : 1500 < b.length
  · have d3 : decide ((b.length : Int) > 1500) = true := decide_eq_true (by omega)
    unfold Rc.cells at kr ⊢
    refine hR Tryz.func4 ?_
    refine gF [.f, cc kr, .f, .f, .t, cc ka] rfl (ret_of rfl ?_ trivial trivial)
    exact .inl rfl
  have d3 : decide ((b.length : Int) > 1500) = false := decide_eq_false (by omega)
  have k1 := bExport (ml := ml) kek r pads (by omega) (by omega) (by omega) f3 (by omega)
  have k2 := rExport39 (ml := ml) kek r pads (by omega) (by omega) (by omega) f3 (by omega)
  have k3 := bImport (ml := ml) kek b (by omega) (by omega)
  have k4 := rImport39 (ml := ml) kek b (by omega) (by omega)
  have k5 := bSize (ml := ml) r (by omega) (by omega) f3
  have k6 := rSize39 (ml := ml) r (by omega) (by omega) f3
  clear hf f1 f2 f3
  unfold Rc.cells at kr k1 k2 k5 k6 ⊢
  generalize (expB kek r pads).1 = o1 at *
  generalize (expB kek r pads).2 = o2 at *
  generalize szB39 r = sz at *
  have b1 : (o1 == o1) = true := beq_self_eq_true _
  have b2 : (o2 == o2) = true := beq_self_eq_true _
  have b3 : (sz == sz) = true := beq_self_eq_true _
  have b4 : ((impB kek b).2.1 == (impB kek b).2.1) = true := beq_self_eq_true _
  have b5 : ((impB kek b).2.2 == (impB kek b).2.2) = true := beq_self_eq_true _
  unfold rcC at k3 k4
  by_cases h : (impB kek b).2.2 = 0
  · obtain ⟨o1, o2, o3, o4, o5, o6⟩ := one39 h
    rw [if_pos h] at k3 k4
    have k7 := alikeX (ml := ml) (impB kek b).1 (by omega)
    clear o1 o2 o3 o4 o5 o6 h
    unfold Rc.cells at k3 k4 k7
    generalize (impB kek b).2.1 = p at *
    generalize (impB kek b).2.2 = e at *
    generalize (impB kek b).1 = q at *
    refine hR Tryz.func4 ?_
    refine gF [.f, cc kr, .f, .f, .f, cc k1, cc k2, cc k3, cc k4, .t, .t, cc k7, .t, .t, .t, cc k5, cc k6, .t, cc ka] rfl (ret_of rfl ?_ trivial trivial)
    exact .inl rfl
  · rw [if_neg h] at k3 k4
    have k7 := alikeNil (ml := ml)
    clear h
    generalize (impB kek b).2.1 = p at *
    generalize (impB kek b).2.2 = e at *
    refine hR Tryz.func4 ?_
    refine gF [.f, cc kr, .f, .f, .f, cc k1, cc k2, cc k3, cc k4, .t, .t, cc k7, .t, .t, .t, cc k5, cc k6, .t, cc ka] rfl (ret_of rfl ?_ trivial trivial)
    exact .inl rfl
end Go.Proofs.YtipomdmlkkifcaaGreatDoor.Vm
