/- Contracts: strconv.Itoa and what it calls. -/
import Derived.Test.YtdiippegaidpkaaDoorRef02
import Derived.Test.YtdiippegaidpkaaDoorVm22
import Derived.Test.YtdiippegaidpkaaDoorShelf
set_option linter.unusedVariables false
set_option linter.unusedSimpArgs false
set_option linter.unnecessarySimpa false
namespace Go.Proofs.YtdiippegaidpkaaDoor.Vm
open Go Go.Proofs Go.RowKit Go.Sort
variable {ml : Int}
theorem len64 (x : Int) (h0 : 0 ≤ x) (h1 : x ≤ 18446744073709551615) : Ret P (C ml) 101 [.i .u64 x] (.i .i64 (Lib.bitLen x.toNat : Nat)) :=
  ret_of_calls (callable_of Tryd.func101 rfl rfl) fun ρ I w vals hg hm hv => by
    simp only [VRs, VR] at hv; obtain ⟨_, _, rfl, rfl, rfl⟩ := hv
    refine (Tryd.bits_Len64 x w h0 h1).mono ?_
    rintro _ _ ⟨rfl, rfl⟩; exact ⟨_, rfl, rfl, Below.refl _ _⟩
theorem log10Pow2 (x : Nat) (h : x ≤ 64) : Ret P (C ml) 100 [.i .i64 x] (.i .i64 (Lib.l10 x : Nat)) :=
  ret_of_calls (callable_of Tryd.func100 rfl rfl) fun ρ I w vals hg hm hv => by
    simp only [VRs, VR] at hv; obtain ⟨_, _, rfl, rfl, rfl⟩ := hv
    refine (Tryd.internal_strconv_log10Pow2 x h w).mono ?_
    rintro _ _ ⟨rfl, rfl⟩; exact ⟨_, rfl, rfl, Below.refl _ _⟩
theorem bool2 (b : Bool) : Ret P (C ml) 102 [.b b] (.i .i64 (if b then 1 else 0)) :=
  ret_of_calls (callable_of Tryd.func102 rfl rfl) fun ρ I w vals hg hm hv => by
    simp only [VRs, VR] at hv; obtain ⟨_, _, rfl, rfl, rfl⟩ := hv
    refine (Tryd.internal_strconv_bool2_int b w).mono ?_
    rintro _ _ ⟨rfl, rfl⟩
    exact ⟨_, rfl, by cases b <;> rfl, Below.refl _ _⟩
theorem small (i : Nat) (h : i < 100) : Ret P (C ml) 90 [.i .i64 i] (.s (Lib.decDigits i)) :=
  ret_of_calls (callable_of Tryd.func90 rfl rfl) fun ρ I w vals hg hm hv => by
    simp only [VRs, VR] at hv; obtain ⟨_, _, rfl, rfl, rfl⟩ := hv
    refine (Tryd.internal_strconv_small i h w).mono ?_
    rintro _ _ ⟨rfl, rfl⟩; exact ⟨_, rfl, rfl, Below.refl _ _⟩
theorem gPow10_at (q : Nat) (h : q < 20) : gPow10[q]? = some (.i .u64 ((10 ^ q : Nat) : Int)) := by
  simp [gPow10, Lib.pow10Tab, h]
theorem numDigits (u : Nat) (h1 : 1 ≤ u) (h2 : u < 18446744073709551616) : Ret P (C ml) 91 [.i .u64 u] (.i .i64 (Lib.nDigits u : Nat)) := by
  refine hret_of tab_ok Tryd.func91 rfl rfl (by kernel_rfl) rfl ?_
  obtain ⟨e1, e2⟩ := Lib.numDigits_eq u h1 h2
  have c1 : Ret P (C ml) 101 [.i .u64 u] (.i .i64 (Lib.bitLen u : Nat)) := len64 (ml := ml) u (by omega) (by omega)
  have c2 := log10Pow2 (ml := ml) _ (Lib.bitLen_le u 64 (Nat.le_refl _) h2)
  have c3 := Lib.nDigits_le20 u h2
  revert c1 c2 e1 e2
  generalize Lib.l10 (Lib.bitLen u) = q
  generalize Lib.bitLen u = L
  intro e1 e2 c1 c2
  have c4 := gPow10_at q (by omega)
  revert c4 e1
  generalize 10 ^ q = T
  intro e1 c4
  refine g_fin tab_ok mixed 3000 [.c (.i .i64 L) [] [], .c (.i .i64 q) [] [], .v [.i .u64 T], .c (.i .i64 (if decide ((u : Int) ≥ T) then 1 else 0)) [] []] rfl ?_ (ret_of rfl ?_ trivial trivial)
  · have c5 : gPow10[0 + (q : Int).toNat * (tin (C ml) 96).size]? = some (.i .u64 T) := by
      rw [show (tin (C ml) 96).size = 1 from rfl]; simpa using c4
    exact ⟨c1, c2, by omega, c5, bool2 _, trivial⟩
  · simp only [tle, look_c, if_true]
    rw [w64 (by split <;> omega) (by split <;> omega), ← e1]
    by_cases hT : T ≤ u
    · simp [hT]
    · simp [hT]
theorem bytes_prel {I : Mem} : ∀ l : List UInt8, PVs I (bytesT l) (l.map fun c => Value.int .u8 (c.toNat : Int))
  | [] => rfl
  | c :: l => ⟨_, _, rfl, rfl, bytes_prel l⟩
/-- A number's digits laid into bytes that are there. -/
theorem formatBase10 (id g off : Nat) (l : List UInt8) (u : Nat) (h1 : 1 ≤ u) (h2 : u < 18446744073709551616) (hl : off + Lib.nDigits u ≤ l.length) (hll : l.length < 1000000) :
    HRet P (C ml) 92 [.ref id g off (Lib.nDigits u), .i .u64 u] [(id, g, .row true 1 (bytesT l))] (.tup []) [(id, g, .row true 1 (bytesT (l.take off ++ Lib.decDigits u ++ l.drop (off + Lib.nDigits u))))] := by
  refine ⟨callable_of Tryd.func92 rfl rfl, fun ρ I w vals hg hs hv => ?_⟩
  simp only [VRs] at hv
  obtain ⟨v1, _, rfl, hv1, v2, _, rfl, hv2, rfl⟩ := hv
  have hi : hlook [(id, g, Obj.row true 1 (bytesT l))] id = some (g, .row true 1 (bytesT l)) := by simp [hlook]
  obtain ⟨b, cap, rfl, c1, c2, c3⟩ := VR_ref hv1 hi
  have hp := Lib.nDigits_pos u
  have hb : b = off := c1.resolve_right (by omega)
  subst hb
  simp only [VR] at hv2; subst hv2
  obtain ⟨c, ce, fz, r1, r2, r3, r4, r5, r6, r7⟩ := row_cells hs hi
  rw [bytesT_length] at r4 r5 r6 r7
  have hc := bytes_inv r4
  let d : Array UInt8 := ⟨(l.drop b).take (Lib.nDigits u)⟩
  have hd : d.size = Lib.nDigits u := by simp [d]; omega
  have hcell : ∀ j, j < l.length → c[j]? = some (.int .u8 ((l.getD j 0).toNat : Int)) := fun j hj => by
    have : (c.toList.take l.length)[j]? = some (.int .u8 ((l.getD j 0).toNat : Int)) := by rw [hc]; simp [hj]
    rw [List.getElem?_take, if_pos hj] at this
    simpa using this
  have hH : Sort.Holds (fun (b : UInt8) => Value.int .u8 (b.toNat : Int)) w (ρ id).1 b d := fun j hj => by
    rw [hd] at hj
    constructor
    · simp only [World.cell?, r1]
      rw [hcell _ (by omega)]
      rw [getElem!_pos d j (by omega)]
      simp [d, show b + j < l.length by omega]
    · simp only [World.frozen?, r1]
      have := r3.1 (b + j) (by omega)
      simpa using this
  have := Tryd.internal_strconv_formatBase10 (ρ id).1 b cap u d w hH (by rw [hd]; exact Lib.lt_pow_nDigits u) h2 (by omega)
  rw [hd] at this
  refine this.mono ?_
  rintro e w' ⟨rfl, n, v', dk, rfl, hF⟩
  have hdk : dk.size = Lib.nDigits u := hF.size
  have hle : HLe ρ (hlook [(id, g, Obj.row true 1 (bytesT l))]) ρ (updH (hlook [(id, g, Obj.row true 1 (bytesT l))]) [(id, g, .row true 1 (bytesT (l.take b ++ Lib.decDigits u ++ l.drop (b + Lib.nDigits u))))]) := same_HLe hi
  have hdl : dk.toList = Lib.decDigits u := by
    rw [Lib.decDigits_eq]
    refine List.ext_getElem (by simp [hdk]) fun j h1 h2 => ?_
    have hj : j < Lib.nDigits u := by rw [Array.length_toList, hdk] at h1; exact h1
    have := hF.done j (Nat.zero_le _) hj
    rw [getElem!_pos dk j (by omega)] at this
    simpa using this
  have hother : ∀ k, k ≠ (ρ id).1 → ((putRow (fun (b : UInt8) => Value.int .u8 (b.toNat : Int)) w (ρ id).1 b dk).drewN n).heap[k]? = w.heap[k]? := fun k hk => by
    show (mapBlock w (ρ id).1 _).heap[k]? = _
    simp only [mapBlock, Array.getElem?_modify, if_neg (Ne.symm hk)]
  have hblk : ((putRow (fun (b : UInt8) => Value.int .u8 (b.toNat : Int)) w (ρ id).1 b dk).drewN n).heap[(ρ id).1]? = some (.cells (putCells (fun (b : UInt8) => Value.int .u8 (b.toNat : Int)) b dk c) ce fz) := by
    show (mapBlock w (ρ id).1 _).heap[(ρ id).1]? = _
    simp only [mapBlock, Array.getElem?_modify, if_true, r1, Option.map_some, onCells]
  have hcs : (putCells (fun (b : UInt8) => Value.int .u8 (b.toNat : Int)) b dk c).size = c.size := by simp [putCells]
  have hnew : (l.take b ++ Lib.decDigits u ++ l.drop (b + Lib.nDigits u)).length = l.length := by
    simp [Lib.decDigits_length]; omega
  have hcells : (putCells (fun (b : UInt8) => Value.int .u8 (b.toNat : Int)) b dk c).toList.take l.length = (l.take b ++ Lib.decDigits u ++ l.drop (b + Lib.nDigits u)).map fun c => Value.int .u8 (c.toNat : Int) := by
    refine List.ext_getElem? fun j => ?_
    rw [List.getElem?_take]
    by_cases hj : j < l.length
    · rw [if_pos hj, Array.getElem?_toList]
      simp only [putCells, Array.getElem?_mapIdx, hcell j hj, Option.map_some, List.getElem?_map]
      by_cases h3 : b ≤ j ∧ j < b + dk.size
      · rw [if_pos h3, getElem!_pos dk (j - b) (by omega)]
        rw [List.getElem?_append_left (by simp [Lib.decDigits_length]; omega), List.getElem?_append_right (by simp; omega)]
        rw [← hdl]
        have e1 : (List.take b l).length = b := by simp; omega
        rw [e1]
        simp [show j - b < dk.size by omega]
      · rw [if_neg h3]
        by_cases h4 : j < b
        · rw [List.append_assoc, List.getElem?_append_left (by simp; omega)]
          simp [h4, hj]
        · rw [List.getElem?_append_right (by simp [Lib.decDigits_length]; omega)]
          have e1 : (List.take b l ++ Lib.decDigits u).length = b + Lib.nDigits u := by simp [Lib.decDigits_length]; omega
          rw [e1, List.getElem?_drop, show b + Lib.nDigits u + (j - (b + Lib.nDigits u)) = j by omega]
          simp [hj]
    · rw [if_neg hj, List.getElem?_eq_none (by rw [List.length_map, hnew]; omega)]
  refine ⟨.tuple #[], .tup [], ρ, [(id, g, .row true 1 (bytesT (l.take b ++ Lib.decDigits u ++ l.drop (b + Lib.nDigits u))))], I, rfl, ⟨[], rfl, rfl⟩, ?_⟩
  have hhl : hlook [(id, g, Obj.row true 1 (bytesT (l.take b ++ Lib.decDigits u ++ l.drop (b + Lib.nDigits u))))] = updH (hlook [(id, g, Obj.row true 1 (bytesT l))]) [(id, g, .row true 1 (bytesT (l.take b ++ Lib.decDigits u ++ l.drop (b + Lib.nDigits u))))] := by
    funext m; simp only [updH, hlook]; cases Nat.beq id m <;> rfl
  rw [hhl]
  refine ⟨write_HS hs hi trivial hother hle ⟨_, ce, fz, hblk, by rw [hcs]; exact r2, by rw [hcs]; exact fitL r3.1, ?_⟩, write_Ext (w := w) (w' := (putRow (fun (b : UInt8) => Value.int .u8 (b.toNat : Int)) w (ρ id).1 b dk).drewN n) Ext.refl hi trivial rfl rfl rfl ?_ hother g, hle, rfl, rfl⟩
  · rw [if_pos rfl, bytesT_length, hnew, hcells]
    exact bytes_prel _
  · show (mapBlock w (ρ id).1 _).heap.size = _
    simp [mapBlock]
theorem formatInt (n : Int) (h1 : -9223372036854775808 ≤ n) (h2 : n ≤ 9223372036854775807) : Ret P (C ml) 72 [.i .i64 n, .i .i64 10] (.s (Lib.itoa n)) := by
  refine hret_of tab_ok Tryd.func72 rfl rfl (by kernel_rfl) rfl ?_
  by_cases c1 : 0 ≤ n ∧ n < 100
  · obtain ⟨N, rfl⟩ : ∃ N : Nat, n = N := ⟨n.toNat, by omega⟩
    refine g_fin tab_ok mixed 3000 [.t, .t, .t, .c (.s (Lib.decDigits N)) [] []] rfl ?_ (ret_of rfl ?_ trivial trivial)
    · have := small (ml := ml) N (by omega)
      (simp only [AllR]; (repeat' first | exact this | exact True.intro | (show (_ : Bool) = _; assumption) | omega | apply And.intro); all_goals first | (simp; done) | (simp; omega) | (simp_all; done) | exact Nat.le_of_ble_eq_true rfl | kernel_rfl)
    · rw [Lib.itoa_nonneg]; simp [tle]
  · have key : ∀ u : Nat, 1 ≤ u → u < 18446744073709551616 → HRet P (C ml) 92 [.ref 5 0 1 (Lib.nDigits u), .i .u64 u] [(5, 0, .row true 1 (bytesT (List.replicate 24 0)))] (.tup []) [(5, 0, .row true 1 (bytesT ([0] ++ Lib.decDigits u ++ List.replicate (23 - Lib.nDigits u) 0)))] := fun u a b => by
      have hn := Lib.nDigits_le20 u b
      have := formatBase10 (ml := ml) 5 0 1 (List.replicate 24 0) u a b (by rw [List.length_replicate]; omega) (by rw [List.length_replicate]; omega)
      rw [List.take_replicate, List.drop_replicate, show 24 - (1 + Lib.nDigits u) = 23 - Lib.nDigits u by omega] at this
      exact this
    by_cases c2 : 0 ≤ n
    · obtain ⟨u, rfl⟩ : ∃ u : Nat, n = u := ⟨n.toNat, by omega⟩
      have k1 := key u (by omega) (by omega)
      have k2 := numDigits (ml := ml) u (by omega) (by omega)
      have hn := Lib.nDigits_le20 u (by omega)
      have e1 : IntKind.u64.wrap (u : Int) = u := by rw [wrap_u64]; omega
      have e2 : IntKind.i64.wrap (1 + (Lib.nDigits u : Int)) = ((1 + Lib.nDigits u : Nat) : Int) := by rw [wrap_i64]; omega
      have e3 : IntKind.i64.wrap ((Lib.nDigits u : Int) + 1) = ((1 + Lib.nDigits u : Nat) : Int) := by rw [wrap_i64]; omega
      have hd := Lib.decDigits_length u
      rw [Lib.itoa_nonneg]
      refine g_fin tab_ok mixed 3000 [.t, .t, .f, .f, .c (.i .i64 (Lib.nDigits u : Nat)) [] [], .c (.tup []) [5] [(5, 0, .row true 1 (bytesT ([0] ++ Lib.decDigits u ++ List.replicate (23 - Lib.nDigits u) 0)))], .f, .l (Lib.decDigits u)] rfl ?_ (ret_of rfl ?_ trivial trivial)
      · have a1 : (((1 + Lib.nDigits u : Nat) : Int)).toNat - (1 : Int).toNat = Lib.nDigits u := by omega
        have a2 : ((bytesT ([0] ++ Lib.decDigits u ++ List.replicate (23 - Lib.nDigits u) 0)).drop 1).take (Lib.nDigits u * 1) = bytesT (Lib.decDigits u) := by
          simp [bytesT, ← hd]
        simp only [e1, e2, e3, a1]
        refine ⟨rfl, ?_, ?_, ?_, ?_, k2, ?_, k1, ?_, ?_, ⟨a2, hd.symm⟩, trivial⟩
        all_goals first | (simp; done) | (simp; omega) | skip
        · exact ⟨by omega, by omega, by omega, Nat.le_of_ble_eq_true rfl⟩
        · refine ⟨by omega, by omega, by omega, ?_⟩
          rw [show (tin (C ml) 5).size = 1 from rfl]
          simp [bytesT, hd]; omega
      · simp [tle]
    · obtain ⟨u, rfl⟩ : ∃ u : Nat, n = -(u : Int) := ⟨n.natAbs, by omega⟩
      have k1 := key u (by omega) (by omega)
      have k2 := numDigits (ml := ml) u (by omega) (by omega)
      have hn := Lib.nDigits_le20 u (by omega)
      have e1 : IntKind.u64.wrap (0 - IntKind.u64.wrap (-(u : Int))) = u := by simp; omega
      have e2 : IntKind.i64.wrap (1 + (Lib.nDigits u : Int)) = ((1 + Lib.nDigits u : Nat) : Int) := by rw [wrap_i64]; omega
      have e3 : IntKind.i64.wrap ((Lib.nDigits u : Int) + 1) = ((1 + Lib.nDigits u : Nat) : Int) := by rw [wrap_i64]; omega
      have hd := Lib.decDigits_length u
      rw [Lib.itoa_neg u (by omega)]
      refine g_fin tab_ok mixed 3000 [.t, .f, .t, .c (.i .i64 (Lib.nDigits u : Nat)) [] [], .c (.tup []) [5] [(5, 0, .row true 1 (bytesT ([0] ++ Lib.decDigits u ++ List.replicate (23 - Lib.nDigits u) 0)))], .t, .l (45 :: Lib.decDigits u)] rfl ?_ (ret_of rfl ?_ trivial trivial)
      · have a1 : (((1 + Lib.nDigits u : Nat) : Int)).toNat - (1 : Int).toNat = Lib.nDigits u := by omega
        have a2 : (((splice (bytesT ([0] ++ Lib.decDigits u ++ List.replicate (23 - Lib.nDigits u) 0)) 0 [T.i .u8 45]).drop 0).take ((1 + Lib.nDigits u) * 1)) = bytesT (45 :: Lib.decDigits u) := by
          simp [splice, bytesT, ← hd, Nat.add_comm 1]
        simp only [e1, e2, e3, a1]
        refine ⟨rfl, ?_, ?_, ?_, k2, ?_, k1, ?_, ?_, ?_, ?_, ⟨a2, ?_⟩, trivial⟩
        all_goals first | (simp; done) | (simp; omega) | skip
        · exact ⟨by omega, by omega, by omega, Nat.le_of_ble_eq_true rfl⟩
        · rw [show (tin (C ml) 5).size = 1 from rfl]; simp [bytesT]
        · refine ⟨by omega, by omega, by omega, ?_⟩
          rw [show (tin (C ml) 5).size = 1 from rfl]
          simp [splice, cellsT, bytesT, hd]; omega
      · simp [tle]
theorem itoa0 (n : Int) (h1 : -9223372036854775808 ≤ n) (h2 : n ≤ 9223372036854775807) : Ret P (C ml) 47 [.i .i64 n] (.s (Lib.itoa n)) := by
  refine hret_of tab_ok Tryd.func47 rfl rfl (by kernel_rfl) rfl ?_
  refine g_fin tab_ok mixed 3000 [.c (.s (Lib.itoa n)) [] []] rfl ⟨formatInt n h1 h2, trivial⟩ (ret_of rfl (by simp [tle]) trivial trivial)
theorem itoa1 (n : Int) (h1 : -9223372036854775808 ≤ n) (h2 : n ≤ 9223372036854775807) : Ret P (C ml) 33 [.i .i64 n] (.s (Lib.itoa n)) := by
  refine hret_of tab_ok Tryd.func33 rfl rfl (by kernel_rfl) rfl ?_
  refine g_fin tab_ok mixed 3000 [.c (.s (Lib.itoa n)) [] []] rfl ⟨itoa0 n h1 h2, trivial⟩ (ret_of rfl (by simp [tle]) trivial trivial)
end Go.Proofs.YtdiippegaidpkaaDoor.Vm
