/- Texts of one proof, gathered: Dump5 Dump6 Dump7 Dump8 Dump9 Dump10 Law47. -/
import Derived.Test.YtipomdmlkkifcaaGreatDoorPart19
import Derived.Test.YtipomdmlkkifcaaGreatDoorPart3
/- Contracts at the inputs that the law's awake asks: words of Go's library, dump.read, head. -/
set_option linter.unusedVariables false
set_option linter.unusedSimpArgs false
set_option linter.unnecessarySimpa false
set_option maxRecDepth 100000
namespace Go.Proofs.YtipomdmlkkifcaaGreatDoor.Vm
open Go Go.Proofs Go.RowKit Go.Proofs.YtipomdmlkkifcaaGreatDoor.Flt
variable {ml : Int}
theorem indexByteS (s : List UInt8) (c : Int) : Ret P (C ml) 192 [.s s, .i .u8 c] (.i .i64 (Lib.indexByte s c.toNat.toUInt8)) :=
  ret_of_calls (callable_of Tryz.func192 rfl rfl) fun ρ I w vals hg hm hv => by
    simp only [VRs, VR] at hv; obtain ⟨_, _, rfl, rfl, _, _, rfl, rfl, rfl⟩ := hv
    refine (Tryz.stringslite_IndexByte ⟨⟨s⟩⟩ c w).mono ?_
    rintro _ _ ⟨rfl, rfl⟩; exact ⟨_, rfl, rfl, Below.refl _ _⟩
abbrev l16 : List UInt8 := [85, 49, 54, 32, 43]
abbrev l05 : List UInt8 := [32, 32, 85, 50, 32, 48, 53]
abbrev b05 : List UInt8 := [85, 50, 32, 48, 53]
theorem tl16 : Ret P (C ml) 118 [.s l16, .s [32]] (.s l16) := by
  have k1 : Ret P (C ml) 187 [.s l16, .i .u8 32] (.s l16) := by
    refine hret_of tab_ok Tryz.func187 rfl rfl (by kernel_rfl) rfl ?_
    refine g_run tab_ok mixed 3000 [] rfl (by (simp only [AllR]; (repeat' first | exact True.intro | (show (_ : Bool) = _; assumption) | omega | apply And.intro); all_goals first | (simp; done) | (simp; omega) | exact Nat.le_of_ble_eq_true rfl | kernel_rfl)) ?_
    refine g_rounds 0 ?_
    refine g_fin tab_ok mixed 3000 [.t, .f] rfl (by (simp only [AllR]; (repeat' first | exact True.intro | (show (_ : Bool) = _; assumption) | omega | apply And.intro); all_goals first | (simp; done) | (simp; omega) | exact Nat.le_of_ble_eq_true rfl | kernel_rfl)) (un_exit rfl ?_)
    refine g_fin tab_ok mixed 3000 [] rfl (by (simp only [AllR]; (repeat' first | exact True.intro | (show (_ : Bool) = _; assumption) | omega | apply And.intro); all_goals first | (simp; done) | (simp; omega) | exact Nat.le_of_ble_eq_true rfl | kernel_rfl)) (ret_of rfl ?_ trivial trivial)
    rfl
  refine hret_of tab_ok Tryz.func118 rfl rfl (by kernel_rfl) rfl ?_
  refine g_fin tab_ok mixed 3000 [.f, .f, .t, .t, cc k1] rfl (by (simp only [AllR]; (repeat' first | exact k1 | exact True.intro | (show (_ : Bool) = _; assumption) | omega | apply And.intro); all_goals first | (simp; done) | (simp; omega) | exact Nat.le_of_ble_eq_true rfl | kernel_rfl)) (ret_of rfl ?_ trivial trivial)
  rfl
theorem tl05 : Ret P (C ml) 118 [.s l05, .s [32]] (.s b05) := by
  have k1 : Ret P (C ml) 187 [.s l05, .i .u8 32] (.s b05) := by
    refine hret_of tab_ok Tryz.func187 rfl rfl (by kernel_rfl) rfl ?_
    refine g_run tab_ok mixed 3000 [] rfl (by (simp only [AllR]; (repeat' first | exact True.intro | (show (_ : Bool) = _; assumption) | omega | apply And.intro); all_goals first | (simp; done) | (simp; omega) | exact Nat.le_of_ble_eq_true rfl | kernel_rfl)) ?_
    refine g_rounds 2 ?_
    refine g_fin tab_ok mixed 3000 [.t, .t] rfl (by (simp only [AllR]; (repeat' first | exact True.intro | (show (_ : Bool) = _; assumption) | omega | apply And.intro); all_goals first | (simp; done) | (simp; omega) | exact Nat.le_of_ble_eq_true rfl | kernel_rfl)) (un_next ?_)
    refine g_fin tab_ok mixed 3000 [.t, .t] rfl (by (simp only [AllR]; (repeat' first | exact True.intro | (show (_ : Bool) = _; assumption) | omega | apply And.intro); all_goals first | (simp; done) | (simp; omega) | exact Nat.le_of_ble_eq_true rfl | kernel_rfl)) (un_next ?_)
    refine g_fin tab_ok mixed 3000 [.t, .f] rfl (by (simp only [AllR]; (repeat' first | exact True.intro | (show (_ : Bool) = _; assumption) | omega | apply And.intro); all_goals first | (simp; done) | (simp; omega) | exact Nat.le_of_ble_eq_true rfl | kernel_rfl)) (un_exit rfl ?_)
    refine g_fin tab_ok mixed 3000 [] rfl (by (simp only [AllR]; (repeat' first | exact True.intro | (show (_ : Bool) = _; assumption) | omega | apply And.intro); all_goals first | (simp; done) | (simp; omega) | exact Nat.le_of_ble_eq_true rfl | kernel_rfl)) (ret_of rfl ?_ trivial trivial)
    rfl
  refine hret_of tab_ok Tryz.func118 rfl rfl (by kernel_rfl) rfl ?_
  refine g_fin tab_ok mixed 3000 [.f, .f, .t, .t, cc k1] rfl (by (simp only [AllR]; (repeat' first | exact k1 | exact True.intro | (show (_ : Bool) = _; assumption) | omega | apply And.intro); all_goals first | (simp; done) | (simp; omega) | exact Nat.le_of_ble_eq_true rfl | kernel_rfl)) (ret_of rfl ?_ trivial trivial)
  rfl
theorem ct16 : Ret P (C ml) 119 [.s l16, .s [32]] (.tup [.s [85, 49, 54], .s [43], .b true]) := by
  have k3 := indexByteS (ml := ml) l16 32
  rw [show Lib.indexByte l16 (32 : Int).toNat.toUInt8 = 3 by decide +kernel] at k3
  have k2 : Ret P (C ml) 244 [.s l16, .s [32]] (.i .i64 3) := by
    refine hret_of tab_ok Tryz.func244 rfl rfl (by kernel_rfl) rfl ?_
    refine g_fin tab_ok mixed 3000 [.f, .f, .t, cc k3] rfl (by (simp only [AllR]; (repeat' first | exact k3 | exact True.intro | (show (_ : Bool) = _; assumption) | omega | apply And.intro); all_goals first | (simp; done) | (simp; omega) | exact Nat.le_of_ble_eq_true rfl | kernel_rfl)) (ret_of rfl ?_ trivial trivial)
    rfl
  have k1 : Ret P (C ml) 191 [.s l16, .s [32]] (.tup [.s [85, 49, 54], .s [43], .b true]) := by
    refine hret_of tab_ok Tryz.func191 rfl rfl (by kernel_rfl) rfl ?_
    refine g_fin tab_ok mixed 3000 [cc k2, .t] rfl (by (simp only [AllR]; (repeat' first | exact k2 | exact True.intro | (show (_ : Bool) = _; assumption) | omega | apply And.intro); all_goals first | (simp; done) | (simp; omega) | exact Nat.le_of_ble_eq_true rfl | kernel_rfl)) (ret_of rfl ?_ trivial trivial)
    exact ⟨rfl, rfl, by first | exact .inl rfl | exact .inr rfl, rfl⟩
  refine hret_of tab_ok Tryz.func119 rfl rfl (by kernel_rfl) rfl ?_
  refine g_fin tab_ok mixed 3000 [cc k1] rfl (by (simp only [AllR]; (repeat' first | exact k1 | exact True.intro | (show (_ : Bool) = _; assumption) | omega | apply And.intro); all_goals first | (simp; done) | (simp; omega) | exact Nat.le_of_ble_eq_true rfl | kernel_rfl)) (ret_of rfl ?_ trivial trivial)
  exact ⟨rfl, rfl, by first | exact .inl rfl | exact .inr rfl, rfl⟩
theorem ct05 : Ret P (C ml) 119 [.s b05, .s [32]] (.tup [.s [85, 50], .s [48, 53], .b true]) := by
  have k3 := indexByteS (ml := ml) b05 32
  rw [show Lib.indexByte b05 (32 : Int).toNat.toUInt8 = 2 by decide +kernel] at k3
  have k2 : Ret P (C ml) 244 [.s b05, .s [32]] (.i .i64 2) := by
    refine hret_of tab_ok Tryz.func244 rfl rfl (by kernel_rfl) rfl ?_
    refine g_fin tab_ok mixed 3000 [.f, .f, .t, cc k3] rfl (by (simp only [AllR]; (repeat' first | exact k3 | exact True.intro | (show (_ : Bool) = _; assumption) | omega | apply And.intro); all_goals first | (simp; done) | (simp; omega) | exact Nat.le_of_ble_eq_true rfl | kernel_rfl)) (ret_of rfl ?_ trivial trivial)
    rfl
  have k1 : Ret P (C ml) 191 [.s b05, .s [32]] (.tup [.s [85, 50], .s [48, 53], .b true]) := by
    refine hret_of tab_ok Tryz.func191 rfl rfl (by kernel_rfl) rfl ?_
    refine g_fin tab_ok mixed 3000 [cc k2, .t] rfl (by (simp only [AllR]; (repeat' first | exact k2 | exact True.intro | (show (_ : Bool) = _; assumption) | omega | apply And.intro); all_goals first | (simp; done) | (simp; omega) | exact Nat.le_of_ble_eq_true rfl | kernel_rfl)) (ret_of rfl ?_ trivial trivial)
    exact ⟨rfl, rfl, by first | exact .inl rfl | exact .inr rfl, rfl⟩
  refine hret_of tab_ok Tryz.func119 rfl rfl (by kernel_rfl) rfl ?_
  refine g_fin tab_ok mixed 3000 [cc k1] rfl (by (simp only [AllR]; (repeat' first | exact k1 | exact True.intro | (show (_ : Bool) = _; assumption) | omega | apply And.intro); all_goals first | (simp; done) | (simp; omega) | exact Nat.le_of_ble_eq_true rfl | kernel_rfl)) (ret_of rfl ?_ trivial trivial)
  exact ⟨rfl, rfl, by first | exact .inl rfl | exact .inr rfl, rfl⟩
theorem rp0 : Ret P (C ml) 65 [.s [32, 32], .i .i64 0] (.s []) := by
  refine hret_of tab_ok Tryz.func65 rfl rfl (by kernel_rfl) rfl ?_
  refine g_fin tab_ok mixed 3000 [.t] rfl (by (simp only [AllR]; (repeat' first | exact True.intro | (show (_ : Bool) = _; assumption) | omega | apply And.intro); all_goals first | (simp; done) | (simp; omega) | exact Nat.le_of_ble_eq_true rfl | kernel_rfl)) (ret_of rfl ?_ trivial trivial)
  rfl
theorem rp1 : Ret P (C ml) 65 [.s [32, 32], .i .i64 1] (.s [32, 32]) := by
  refine hret_of tab_ok Tryz.func65 rfl rfl (by kernel_rfl) rfl ?_
  refine g_fin tab_ok mixed 3000 [.f, .t] rfl (by (simp only [AllR]; (repeat' first | exact True.intro | (show (_ : Bool) = _; assumption) | omega | apply And.intro); all_goals first | (simp; done) | (simp; omega) | exact Nat.le_of_ble_eq_true rfl | kernel_rfl)) (ret_of rfl ?_ trivial trivial)
  rfl
abbrev n0 (k : T) : List T := [.i .i64 0, .i .i64 16, .b true, .s [], k]
abbrev n1 : List T := [.i .i64 0, .i .i64 2, .b false, .s [5], .nsl]
theorem rd16 : Ret P (C ml) 67 [.s l16] (.tup [.agg (n0 .nsl), .i .i64 0, .b true]) := by
  have k1 := tl16 (ml := ml)
  have k2 := ct16 (ml := ml)
  have k3 := rp0 (ml := ml)
  have k4 := indexByte (ml := ml) [85, 65, 67, 80] 85
  rw [show Lib.indexByte [85, 65, 67, 80] (85 : Int).toNat.toUInt8 = 0 by decide +kernel] at k4
  have k5 := dUnnum (ml := ml) [49, 54] (by decide)
  rw [show unnumO [49, 54] = some 16 by rw [show [49, 54] = Lib.itoa 16 by decide +kernel]; exact unnumO_itoa 16 (by decide) (by decide)] at k5
  refine hret_of tab_ok Tryz.func67 rfl rfl (by kernel_rfl) rfl ?_
  refine g_fin tab_ok mixed 3000 [cc k1, cc k2, .f, .f, cc k3, .f, cc k4, cc k5, .f, .t] rfl (by (simp only [AllR]; (repeat' first | exact k1 | exact k2 | exact k3 | exact k4 | exact k5 | exact True.intro | (show (_ : Bool) = _; assumption) | omega | apply And.intro); all_goals first | (simp; done) | (simp; omega) | exact Nat.le_of_ble_eq_true rfl | kernel_rfl)) (ret_of rfl ?_ trivial trivial)
  exact ⟨⟨rfl, rfl⟩, rfl, by first | exact .inl rfl | exact .inr rfl, rfl⟩
theorem rd05 : Ret P (C ml) 67 [.s l05] (.tup [.agg n1, .i .i64 1, .b true]) := by
  have k1 := tl05 (ml := ml)
  have k2 := ct05 (ml := ml)
  have k3 := rp1 (ml := ml)
  have k4 := indexByte (ml := ml) [85, 65, 67, 80] 85
  rw [show Lib.indexByte [85, 65, 67, 80] (85 : Int).toNat.toUInt8 = 0 by decide +kernel] at k4
  have k5 := dUnnum (ml := ml) [50] (by decide)
  rw [show unnumO [50] = some 2 by rw [show [50] = Lib.itoa 2 by decide +kernel]; exact unnumO_itoa 2 (by decide) (by decide)] at k5
  have k6 := dUnhex (ml := ml) [48, 53] (by decide)
  rw [show unhexO [48, 53] = some [5] by decide +kernel] at k6
  refine hret_of tab_ok Tryz.func67 rfl rfl (by kernel_rfl) rfl ?_
  refine g_fin tab_ok mixed 3000 [cc k1, cc k2, .f, .f, cc k3, .f, cc k4, cc k5, .t, .t, cc k6, .t, .t, .t] rfl (by (simp only [AllR]; (repeat' first | exact k1 | exact k2 | exact k3 | exact k4 | exact k5 | exact k6 | exact True.intro | (show (_ : Bool) = _; assumption) | omega | apply And.intro); all_goals first | (simp; done) | (simp; omega) | exact Nat.le_of_ble_eq_true rfl | kernel_rfl)) (ret_of rfl ?_ trivial trivial)
  exact ⟨⟨rfl, rfl⟩, rfl, by first | exact .inl rfl | exact .inr rfl, rfl⟩
theorem wt0 : Ret P (C ml) 66 [.agg (n0 (.sl 1 [.i .i64 1]))] (.s [43]) := by
  refine hret_of tab_ok Tryz.func66 rfl rfl (by kernel_rfl) rfl ?_
  refine g_fin tab_ok mixed 3000 [.t] rfl (by (simp only [AllR]; (repeat' first | exact True.intro | (show (_ : Bool) = _; assumption) | omega | apply And.intro); all_goals first | (simp; done) | (simp; omega) | exact Nat.le_of_ble_eq_true rfl | kernel_rfl)) (ret_of rfl ?_ trivial trivial)
  rfl
theorem wt1 : Ret P (C ml) 66 [.agg n1] (.s [48, 53]) := by
  have k1 := dHex (ml := ml) [5] (by decide)
  rw [show hexs [5] = [48, 53] by decide +kernel] at k1
  refine hret_of tab_ok Tryz.func66 rfl rfl (by kernel_rfl) rfl ?_
  refine g_fin tab_ok mixed 3000 [.f, .f, cc k1] rfl (by (simp only [AllR]; (repeat' first | exact k1 | exact True.intro | (show (_ : Bool) = _; assumption) | omega | apply And.intro); all_goals first | (simp; done) | (simp; omega) | exact Nat.le_of_ble_eq_true rfl | kernel_rfl)) (ret_of rfl ?_ trivial trivial)
  rfl
end Go.Proofs.YtipomdmlkkifcaaGreatDoor.Vm
/- Contracts at the inputs that the law's awake asks: head, whole, strs, tlv. -/
set_option maxRecDepth 100000
namespace Go.Proofs.YtipomdmlkkifcaaGreatDoor.Vm
open Go Go.Proofs Go.RowKit Go.Proofs.YtipomdmlkkifcaaGreatDoor.Flt
variable {ml : Int}
abbrev d5 : List UInt8 := [48, 3, 2, 1, 5]
abbrev hd0 : List T := [.i .i64 0, .i .i64 16, .b true, .i .i64 3]
abbrev hd1 : List T := [.i .i64 0, .i .i64 2, .b false, .i .i64 1]
theorem hdec0 : Ret P (C ml) 179 [.s d5] (.tup [.agg hd0, .i .i64 2, .i .i64 0]) := by
  refine hret_of tab_ok Tryz.func179 rfl rfl (by kernel_rfl) rfl ?_
  refine g_run tab_ok mixed 3000 [] rfl trivial ?_
  refine g_scope 1 ?_
  refine g_fin tab_ok mixed 3000 [.f, .t] rfl (by (simp only [AllR]; (repeat' first | exact True.intro | (show (_ : Bool) = _; assumption) | omega | apply And.intro); all_goals first | (simp; done) | (simp; omega) | exact Nat.le_of_ble_eq_true rfl | kernel_rfl)) ⟨_, rfl, ?_⟩
  refine g_fin tab_ok mixed 3000 [.f, .f, .f, .t] rfl (by (simp only [AllR]; (repeat' first | exact True.intro | (show (_ : Bool) = _; assumption) | omega | apply And.intro); all_goals first | (simp; done) | (simp; omega) | exact Nat.le_of_ble_eq_true rfl | kernel_rfl)) (sp_ret (ret_of rfl ?_ trivial trivial))
  exact ⟨⟨by kernel_rfl, rfl⟩, rfl, rfl, rfl⟩
theorem hdec1 : Ret P (C ml) 179 [.s [2, 1, 5]] (.tup [.agg hd1, .i .i64 2, .i .i64 0]) := by
  refine hret_of tab_ok Tryz.func179 rfl rfl (by kernel_rfl) rfl ?_
  refine g_run tab_ok mixed 3000 [] rfl trivial ?_
  refine g_scope 1 ?_
  refine g_fin tab_ok mixed 3000 [.f, .t] rfl (by (simp only [AllR]; (repeat' first | exact True.intro | (show (_ : Bool) = _; assumption) | omega | apply And.intro); all_goals first | (simp; done) | (simp; omega) | exact Nat.le_of_ble_eq_true rfl | kernel_rfl)) ⟨_, rfl, ?_⟩
  refine g_fin tab_ok mixed 3000 [.f, .f, .f, .t] rfl (by (simp only [AllR]; (repeat' first | exact True.intro | (show (_ : Bool) = _; assumption) | omega | apply And.intro); all_goals first | (simp; done) | (simp; omega) | exact Nat.le_of_ble_eq_true rfl | kernel_rfl)) (sp_ret (ret_of rfl ?_ trivial trivial))
  exact ⟨⟨by kernel_rfl, rfl⟩, rfl, rfl, rfl⟩
theorem hmay0 : Ret P (C ml) 197 [.agg hd0] (.b true) := by
  refine hret_of tab_ok Tryz.func197 rfl rfl (by kernel_rfl) rfl ?_
  refine g_fin tab_ok mixed 3000 [.t, .t, .t] rfl (by (simp only [AllR]; (repeat' first | exact True.intro | (show (_ : Bool) = _; assumption) | omega | apply And.intro); all_goals first | (simp; done) | (simp; omega) | exact Nat.le_of_ble_eq_true rfl | kernel_rfl)) (ret_of rfl ?_ trivial trivial)
  first | exact .inl (by kernel_rfl) | exact .inr (by kernel_rfl)
theorem hmay1 : Ret P (C ml) 197 [.agg hd1] (.b true) := by
  refine hret_of tab_ok Tryz.func197 rfl rfl (by kernel_rfl) rfl ?_
  refine g_fin tab_ok mixed 3000 [.t, .t, .t] rfl (by (simp only [AllR]; (repeat' first | exact True.intro | (show (_ : Bool) = _; assumption) | omega | apply And.intro); all_goals first | (simp; done) | (simp; omega) | exact Nat.le_of_ble_eq_true rfl | kernel_rfl)) (ret_of rfl ?_ trivial trivial)
  first | exact .inl (by kernel_rfl) | exact .inr (by kernel_rfl)
theorem henc0 : Ret P (C ml) 125 [.agg hd0] (.tup [.s [48, 3], .i .i64 0]) := by
  have k1 := hmay0 (ml := ml)
  have q3 : (7 : Int) * (tin (C ml) 5).bytes ≤ 281474976710656 := by rw [show (tin (C ml) 5).bytes = 1 from rfl]; decide
  refine hret_of tab_ok Tryz.func125 rfl rfl (by kernel_rfl) rfl ?_
  refine g_fin tab_ok mixed 3000 [cc k1, .f, .t, .t, .t, .l [48, 3]] rfl (by (simp only [AllR]; (repeat' first | exact k1 | exact q3 | exact Nat.le_of_ble_eq_true (by kernel_rfl) | exact True.intro | (show (_ : Bool) = _; assumption) | omega | apply And.intro); all_goals first | (simp; done) | (simp; omega) | exact Nat.le_of_ble_eq_true rfl | kernel_rfl)) (ret_of rfl ?_ trivial trivial)
  exact ⟨rfl, rfl, rfl⟩
theorem henc1 : Ret P (C ml) 125 [.agg hd1] (.tup [.s [2, 1], .i .i64 0]) := by
  have k1 := hmay1 (ml := ml)
  have q3 : (7 : Int) * (tin (C ml) 5).bytes ≤ 281474976710656 := by rw [show (tin (C ml) 5).bytes = 1 from rfl]; decide
  refine hret_of tab_ok Tryz.func125 rfl rfl (by kernel_rfl) rfl ?_
  refine g_fin tab_ok mixed 3000 [cc k1, .f, .f, .t, .t, .l [2, 1]] rfl (by (simp only [AllR]; (repeat' first | exact k1 | exact q3 | exact Nat.le_of_ble_eq_true (by kernel_rfl) | exact True.intro | (show (_ : Bool) = _; assumption) | omega | apply And.intro); all_goals first | (simp; done) | (simp; omega) | exact Nat.le_of_ble_eq_true rfl | kernel_rfl)) (ret_of rfl ?_ trivial trivial)
  exact ⟨rfl, rfl, rfl⟩
theorem hsz0 : Ret P (C ml) 196 [.agg hd0] (.i .i64 2) := by
  have k1 := henc0 (ml := ml)
  refine hret_of tab_ok Tryz.func196 rfl rfl (by kernel_rfl) rfl ?_
  refine g_fin tab_ok mixed 3000 [cc k1] rfl (by (simp only [AllR]; (repeat' first | exact k1 | exact True.intro | (show (_ : Bool) = _; assumption) | omega | apply And.intro); all_goals first | (simp; done) | (simp; omega) | exact Nat.le_of_ble_eq_true rfl | kernel_rfl)) (ret_of rfl ?_ trivial trivial)
  rfl
theorem hsz1 : Ret P (C ml) 196 [.agg hd1] (.i .i64 2) := by
  have k1 := henc1 (ml := ml)
  refine hret_of tab_ok Tryz.func196 rfl rfl (by kernel_rfl) rfl ?_
  refine g_fin tab_ok mixed 3000 [cc k1] rfl (by (simp only [AllR]; (repeat' first | exact k1 | exact True.intro | (show (_ : Bool) = _; assumption) | omega | apply And.intro); all_goals first | (simp; done) | (simp; omega) | exact Nat.le_of_ble_eq_true rfl | kernel_rfl)) (ret_of rfl ?_ trivial trivial)
  rfl
theorem sr5 : Ret P (C ml) 240 [.i .i64 2, .s [5]] (.b true) := by
  have k1 : Ret P (C ml) 281 [.s [5]] (.b true) := by
    refine hret_of tab_ok Tryz.func281 rfl rfl (by kernel_rfl) rfl ?_
    refine g_fin tab_ok mixed 3000 [.f, .t] rfl (by (simp only [AllR]; (repeat' first | exact True.intro | (show (_ : Bool) = _; assumption) | omega | apply And.intro); all_goals first | (simp; done) | (simp; omega) | exact Nat.le_of_ble_eq_true rfl | kernel_rfl)) (ret_of rfl ?_ trivial trivial)
    first | exact .inl rfl | exact .inr rfl
  refine hret_of tab_ok Tryz.func240 rfl rfl (by kernel_rfl) rfl ?_
  refine g_fin tab_ok mixed 3000 [.f, .t, cc k1] rfl (by (simp only [AllR]; (repeat' first | exact k1 | exact True.intro | (show (_ : Bool) = _; assumption) | omega | apply And.intro); all_goals first | (simp; done) | (simp; omega) | exact Nat.le_of_ble_eq_true rfl | kernel_rfl)) (ret_of rfl ?_ trivial trivial)
  first | exact .inl rfl | exact .inr rfl
/-- The reader, in its four states. -/
abbrev rdr (t s o : T) : Nat × Obj := (0, .row false (.cell 149) [.s d5, t, s, o])
abbrev rH0 : Heap := [(8, 0, .row false (.cell 149) [.s d5, .nsl, .nsl, .nsl])]
abbrev rH1 : Heap := [(8, rdr (.ref 80 0 0 1) (.ref 90 0 0 1) (.ref 68 0 0 1)), (80, 0, .row true (.row 5 88) (n0 .nsl)), (90, 0, .row true (.row 1 95) [xs 0 5]), (68, 0, .row true (.row 1 3) [.i .i64 0])]
abbrev rH2 (o : T) : Heap := [(8, rdr (.ref 80 1 0 2) (.ref 90 1 0 2) o), (80, 1, .row false (.row 5 88) (n0 (.ref 49 0 0 1) ++ n1)), (90, 1, .row true (.row 1 95) [xs 0 5, xs 2 5]), (68, 0, .row true (.row 1 3) [.i .i64 0]),
  (49, 0, .row true (.row 1 3) [.i .i64 1])]
theorem end0 : HRet P (C ml) 178 [.p 8 0 0] rH0 (.i .i64 5) rH0 := by
  refine hret_of tab_ok Tryz.func178 rfl rfl (by kernel_rfl) rfl ?_
  refine g_fin tab_ok mixed 3000 [.t] rfl (by (simp only [AllR]; (repeat' first | exact True.intro | (show (_ : Bool) = _; assumption) | omega | apply And.intro); all_goals first | (simp; done) | (simp; omega) | exact Nat.le_of_ble_eq_true rfl | kernel_rfl)) (ret_of rfl ?_ ?_ ?_)
  · exact rfl
  · exact ⟨⟨rfl, rfl, ⟨rfl, rfl, rfl, rfl, rfl⟩⟩, trivial⟩
  · exact ⟨rfl, trivial⟩
theorem end1 : HRet P (C ml) 178 [.p 8 0 0] rH1 (.i .i64 5) rH1 := by
  have k1 := spTo (ml := ml) 0 5 (by decide) (by decide) (by decide)
  refine hret_of tab_ok Tryz.func178 rfl rfl (by kernel_rfl) rfl ?_
  refine g_fin tab_ok mixed 3000 [.f, .a, .a, cc k1] rfl (by (simp only [AllR]; (repeat' first | exact k1 | exact True.intro | (show (_ : Bool) = _; assumption) | omega | apply And.intro); all_goals first | (simp; done) | (simp; omega) | exact Nat.le_of_ble_eq_true rfl | kernel_rfl)) (ret_of rfl ?_ ?_ ?_)
  · exact rfl
  · exact ⟨⟨rfl, rfl, ⟨rfl, ⟨rfl, rfl, rfl, rfl, rfl⟩, ⟨rfl, rfl, rfl, rfl, rfl⟩, ⟨rfl, rfl, rfl, rfl, rfl⟩, rfl⟩⟩, ⟨rfl, rfl, trivial⟩, ⟨rfl, rfl, trivial⟩, ⟨rfl, rfl, trivial⟩, trivial⟩
  · exact ⟨rfl, rfl, rfl, rfl, trivial⟩
theorem end2 : HRet P (C ml) 178 [.p 8 0 0] (rH2 (.ref 68 0 0 1)) (.i .i64 5) (rH2 (.ref 68 0 0 1)) := by
  have k1 := spTo (ml := ml) 0 5 (by decide) (by decide) (by decide)
  refine hret_of tab_ok Tryz.func178 rfl rfl (by kernel_rfl) rfl ?_
  refine g_fin tab_ok mixed 3000 [.f, .a, .a, cc k1] rfl (by (simp only [AllR]; (repeat' first | exact k1 | exact True.intro | (show (_ : Bool) = _; assumption) | omega | apply And.intro); all_goals first | (simp; done) | (simp; omega) | exact Nat.le_of_ble_eq_true rfl | kernel_rfl)) (ret_of rfl ?_ ?_ ?_)
  · exact rfl
  · exact ⟨⟨rfl, rfl, ⟨rfl, ⟨rfl, rfl, rfl, rfl, rfl⟩, ⟨rfl, rfl, rfl, rfl, rfl⟩, ⟨rfl, rfl, rfl, rfl, rfl⟩, rfl⟩⟩, ⟨rfl, rfl, ⟨rfl, rfl, .inl rfl, rfl, ⟨rfl, rfl, rfl, rfl, rfl⟩, rfl, rfl, .inl rfl, rfl, rfl, rfl⟩⟩, ⟨rfl, rfl, trivial⟩, ⟨rfl, rfl, trivial⟩, ⟨rfl, rfl, trivial⟩, trivial⟩
  · exact ⟨rfl, rfl, rfl, rfl, rfl, trivial⟩
theorem put0 : HRet P (C ml) 182 [.p 8 0 0, .agg hd0, .s [2, 1, 5], xs 0 5] rH0 (.tup []) rH1 := by
  refine hret_of tab_ok Tryz.func182 rfl rfl (by kernel_rfl) rfl ?_
  refine g_fin tab_ok mixed 3000 [.f, .t] rfl (by (simp only [AllR]; (repeat' first | exact True.intro | (show (_ : Bool) = _; assumption) | omega | apply And.intro); all_goals first | (simp; done) | (simp; omega) | exact Nat.le_of_ble_eq_true rfl | kernel_rfl)) (ret_of rfl ?_ ?_ ?_)
  · exact rfl
  · exact ⟨⟨rfl, rfl, ⟨rfl, ⟨rfl, rfl, rfl, rfl, rfl⟩, ⟨rfl, rfl, rfl, rfl, rfl⟩, ⟨rfl, rfl, rfl, rfl, rfl⟩, rfl⟩⟩, ⟨rfl, rfl, trivial⟩, ⟨rfl, rfl, trivial⟩, ⟨rfl, rfl, trivial⟩, trivial⟩
  · exact ⟨rfl, trivial⟩
theorem put1 : HRet P (C ml) 182 [.p 8 0 0, .agg hd1, .s [5], xs 2 5] rH1 (.tup []) (rH2 (.ref 68 0 0 1)) := by
  refine hret_of tab_ok Tryz.func182 rfl rfl (by kernel_rfl) rfl ?_
  refine g_fin tab_ok mixed 3000 [.t, .a, .a, .f] rfl (by (simp only [AllR]; (repeat' first | exact True.intro | (show (_ : Bool) = _; assumption) | omega | apply And.intro); all_goals first | (simp; done) | (simp; omega) | exact Nat.le_of_ble_eq_true rfl | kernel_rfl)) (ret_of rfl ?_ ?_ ?_)
  · exact rfl
  · exact ⟨⟨rfl, rfl, ⟨rfl, ⟨rfl, rfl, rfl, rfl, rfl⟩, ⟨rfl, rfl, rfl, rfl, rfl⟩, ⟨rfl, rfl, rfl, rfl, rfl⟩, rfl⟩⟩, ⟨rfl, rfl, ⟨rfl, rfl, .inl rfl, rfl, ⟨rfl, rfl, rfl, rfl, rfl⟩, rfl, rfl, .inl rfl, rfl, rfl, rfl⟩⟩, ⟨rfl, rfl, trivial⟩, ⟨rfl, rfl, trivial⟩, ⟨rfl, rfl, trivial⟩, trivial⟩
  · exact ⟨rfl, rfl, rfl, rfl, trivial⟩
end Go.Proofs.YtipomdmlkkifcaaGreatDoor.Vm
/- Contracts at the inputs that the law's awake asks: tlv.Decode, dump.Lines. -/
set_option maxRecDepth 100000
namespace Go.Proofs.YtipomdmlkkifcaaGreatDoor.Vm
open Go Go.Proofs Go.RowKit Go.Proofs.YtipomdmlkkifcaaGreatDoor.Flt
variable {ml : Int}
theorem may0 : HRet P (C ml) 181 [.p 8 0 0, .agg hd0, .s [2, 1, 5]] rH0 (.i .i64 0) rH0 := by
  refine hret_of tab_ok Tryz.func181 rfl rfl (by kernel_rfl) rfl ?_
  refine g_fin tab_ok mixed 3000 [.f, .f, .f, .t, .t] rfl (by (simp only [AllR]; (repeat' first | exact True.intro | (show (_ : Bool) = _; assumption) | omega | apply And.intro); all_goals first | (simp; done) | (simp; omega) | exact Nat.le_of_ble_eq_true rfl | kernel_rfl)) (ret_of rfl ?_ ?_ ?_)
  · exact rfl
  · exact ⟨⟨rfl, rfl, ⟨rfl, rfl, rfl, rfl, rfl⟩⟩, trivial⟩
  · exact ⟨rfl, trivial⟩
theorem may1 : HRet P (C ml) 181 [.p 8 0 0, .agg hd1, .s [5]] rH1 (.i .i64 0) rH1 := by
  have k1 := sr5 (ml := ml)
  refine hret_of tab_ok Tryz.func181 rfl rfl (by kernel_rfl) rfl ?_
  refine g_fin tab_ok mixed 3000 [.f, .f, .f, .f, .t, cc k1, .t] rfl (by (simp only [AllR]; (repeat' first | exact k1 | exact True.intro | (show (_ : Bool) = _; assumption) | omega | apply And.intro); all_goals first | (simp; done) | (simp; omega) | exact Nat.le_of_ble_eq_true rfl | kernel_rfl)) (ret_of rfl ?_ ?_ ?_)
  · exact rfl
  · exact ⟨⟨rfl, rfl, ⟨rfl, ⟨rfl, rfl, rfl, rfl, rfl⟩, ⟨rfl, rfl, rfl, rfl, rfl⟩, ⟨rfl, rfl, rfl, rfl, rfl⟩, rfl⟩⟩, ⟨rfl, rfl, trivial⟩, ⟨rfl, rfl, trivial⟩, ⟨rfl, rfl, trivial⟩, trivial⟩
  · exact ⟨rfl, rfl, rfl, rfl, trivial⟩
theorem close1 : HRet P (C ml) 183 [.p 8 0 0, .i .i64 2] rH1 (.b false) rH1 := by
  have k1 := end1 (ml := ml)
  refine hret_of tab_ok Tryz.func183 rfl rfl (by kernel_rfl) rfl ?_
  refine g_run tab_ok mixed 3000 [] rfl (by (simp only [AllR]; (repeat' first | exact True.intro | (show (_ : Bool) = _; assumption) | omega | apply And.intro); all_goals first | (simp; done) | (simp; omega) | exact Nat.le_of_ble_eq_true rfl | kernel_rfl)) ?_
  refine g_rounds 0 ?_
  refine g_fin tab_ok mixed 3000 [.t, ch k1, .f] rfl (by (simp only [AllR]; (repeat' first | exact k1 | exact True.intro | (show (_ : Bool) = _; assumption) | omega | apply And.intro); all_goals first | (simp; done) | (simp; omega) | exact Nat.le_of_ble_eq_true rfl | kernel_rfl)) (un_exit rfl ?_)
  refine g_fin tab_ok mixed 3000 [] rfl (by (simp only [AllR]; (repeat' first | exact True.intro | (show (_ : Bool) = _; assumption) | omega | apply And.intro); all_goals first | (simp; done) | (simp; omega) | exact Nat.le_of_ble_eq_true rfl | kernel_rfl)) (ret_of rfl ?_ ?_ ?_)
  · first | exact .inl (by kernel_rfl) | exact .inr (by kernel_rfl)
  · exact ⟨⟨rfl, rfl, ⟨rfl, ⟨rfl, rfl, rfl, rfl, rfl⟩, ⟨rfl, rfl, rfl, rfl, rfl⟩, ⟨rfl, rfl, rfl, rfl, rfl⟩, rfl⟩⟩, ⟨rfl, rfl, trivial⟩, ⟨rfl, rfl, trivial⟩, ⟨rfl, rfl, trivial⟩, trivial⟩
  · exact ⟨rfl, rfl, rfl, rfl, trivial⟩
theorem close2 : HRet P (C ml) 183 [.p 8 0 0, .i .i64 5] (rH2 (.ref 68 0 0 1)) (.b true) (rH2 (.ref 68 0 0 0)) := by
  have k1 := end2 (ml := ml)
  refine hret_of tab_ok Tryz.func183 rfl rfl (by kernel_rfl) rfl ?_
  refine g_run tab_ok mixed 3000 [] rfl (by (simp only [AllR]; (repeat' first | exact True.intro | (show (_ : Bool) = _; assumption) | omega | apply And.intro); all_goals first | (simp; done) | (simp; omega) | exact Nat.le_of_ble_eq_true rfl | kernel_rfl)) ?_
  refine g_rounds 1 ?_
  refine g_fin tab_ok mixed 3000 [.t, ch k1, .t] rfl (by (simp only [AllR]; (repeat' first | exact k1 | exact True.intro | (show (_ : Bool) = _; assumption) | omega | apply And.intro); all_goals first | (simp; done) | (simp; omega) | exact Nat.le_of_ble_eq_true rfl | kernel_rfl)) (un_next ?_)
  refine g_fin tab_ok mixed 3000 [.f] rfl (by (simp only [AllR]; (repeat' first | exact True.intro | (show (_ : Bool) = _; assumption) | omega | apply And.intro); all_goals first | (simp; done) | (simp; omega) | exact Nat.le_of_ble_eq_true rfl | kernel_rfl)) (un_exit rfl ?_)
  refine g_fin tab_ok mixed 3000 [] rfl (by (simp only [AllR]; (repeat' first | exact True.intro | (show (_ : Bool) = _; assumption) | omega | apply And.intro); all_goals first | (simp; done) | (simp; omega) | exact Nat.le_of_ble_eq_true rfl | kernel_rfl)) (ret_of rfl ?_ ?_ ?_)
  · first | exact .inl (by kernel_rfl) | exact .inr (by kernel_rfl)
  · exact ⟨⟨rfl, rfl, ⟨rfl, ⟨rfl, rfl, rfl, rfl, rfl⟩, ⟨rfl, rfl, rfl, rfl, rfl⟩, ⟨rfl, rfl, rfl, rfl, rfl⟩, rfl⟩⟩, ⟨rfl, rfl, ⟨rfl, rfl, .inl rfl, rfl, ⟨rfl, rfl, rfl, rfl, rfl⟩, rfl, rfl, .inl rfl, rfl, rfl, rfl⟩⟩, ⟨rfl, rfl, trivial⟩, ⟨rfl, rfl, trivial⟩, ⟨rfl, rfl, trivial⟩, trivial⟩
  · exact ⟨rfl, rfl, rfl, rfl, rfl, trivial⟩
theorem rRead : HRet P (C ml) 114 [.p 8 0 0] rH0 (.agg [.i .i64 0, .i .i64 0]) (rH2 (.ref 68 0 0 0)) := by
  have k1 := end0 (ml := ml)
  have k2 := oCut (ml := ml) d5 0 5 (by decide) (by decide) (by decide)
  rw [show cutO d5 0 5 = d5 by decide +kernel] at k2
  have k3 := hdec0 (ml := ml)
  have k4 := oCut (ml := ml) d5 2 3 (by decide) (by decide) (by decide)
  rw [show cutO d5 2 3 = [2, 1, 5] by decide +kernel] at k4
  have k5 := may0 (ml := ml)
  have k6 := spOf (ml := ml) 0 5 (by decide) (by decide) (by decide)
  have k7 := put0 (ml := ml)
  have k8 := close1 (ml := ml)
  have m1 := end1 (ml := ml)
  have m2 := k4
  have m3 := hdec1 (ml := ml)
  have m4 := oCut (ml := ml) d5 4 1 (by decide) (by decide) (by decide)
  rw [show cutO d5 4 1 = [5] by decide +kernel] at m4
  have m5 := may1 (ml := ml)
  have m6 := spOf (ml := ml) 2 5 (by decide) (by decide) (by decide)
  have m7 := put1 (ml := ml)
  have m8 := close2 (ml := ml)
  refine hret_of tab_ok Tryz.func114 rfl rfl (by kernel_rfl) rfl ?_
  refine g_run tab_ok mixed 3000 [] rfl trivial ?_
  refine g_scope 1 ?_
  refine g_fin tab_ok mixed 3000 [.f, .f, ch k1, cc k2, cc k3, .f, .f, cc k4, ch k5, .f, cc k6, ch k7, .f, ch k8, .t] rfl (by (simp only [AllR]; (repeat' first | exact k1 | exact k2 | exact k3 | exact k4 | exact k5 | exact k6 | exact k7 | exact k8 | exact True.intro | (show (_ : Bool) = _; assumption) | omega | apply And.intro); all_goals first | (simp; done) | (simp; omega) | exact Nat.le_of_ble_eq_true rfl | kernel_rfl)) ⟨_, rfl, ?_⟩
  refine g_fin tab_ok mixed 3000 [ch m1, cc k4, cc m3, .f, .f, cc m4, ch m5, .f, cc m6, ch m7, .t, ch m8, .f, .f, .t] rfl (by (simp only [AllR]; (repeat' first | exact m1 | exact m2 | exact m3 | exact m4 | exact m5 | exact m6 | exact m7 | exact m8 | exact True.intro | (show (_ : Bool) = _; assumption) | omega | apply And.intro); all_goals first | (simp; done) | (simp; omega) | exact Nat.le_of_ble_eq_true rfl | kernel_rfl)) (sp_ret (ret_of rfl ?_ ?_ ?_))
  · exact ⟨rfl, rfl⟩
  · exact ⟨⟨rfl, rfl, ⟨rfl, ⟨rfl, rfl, rfl, rfl, rfl⟩, ⟨rfl, rfl, rfl, rfl, rfl⟩, ⟨rfl, rfl, rfl, rfl, rfl⟩, rfl⟩⟩, ⟨rfl, rfl, ⟨rfl, rfl, .inl rfl, rfl, ⟨rfl, rfl, rfl, rfl, rfl⟩, rfl, rfl, .inl rfl, rfl, rfl, rfl⟩⟩, ⟨rfl, rfl, trivial⟩, ⟨rfl, rfl, trivial⟩, ⟨rfl, rfl, trivial⟩, trivial⟩
  · exact ⟨rfl, trivial⟩
abbrev tree5 : T := .sl 2 (n0 (.sl 1 [.i .i64 1]) ++ n1)
theorem tDec : Ret P (C ml) 63 [.s d5] (.tup [tree5, .agg [.i .i64 0, .i .i64 0]]) := by
  have k1 := rRead (ml := ml)
  refine hret_of tab_ok Tryz.func63 rfl rfl (by kernel_rfl) rfl ?_
  refine g_end_frz 80 ?_
  refine g_end_frz 49 ?_
  refine g_fin tab_ok mixed 3000 [ch k1, .f] rfl (by (simp only [AllR]; (repeat' first | exact k1 | exact True.intro | (show (_ : Bool) = _; assumption) | omega | apply And.intro); all_goals first | (simp; done) | (simp; omega) | exact Nat.le_of_ble_eq_true rfl | kernel_rfl)) ⟨rfl, _, _, rfl, rfl, _, _, rfl, ret_of rfl ?_ trivial trivial⟩
  exact ⟨rfl, ⟨rfl, rfl⟩, rfl⟩
end Go.Proofs.YtipomdmlkkifcaaGreatDoor.Vm
/- Contracts at the inputs that the law's awake asks: dump.Lines. -/
set_option maxRecDepth 100000
namespace Go.Proofs.YtipomdmlkkifcaaGreatDoor.Vm
open Go Go.Proofs Go.RowKit Go.Proofs.YtipomdmlkkifcaaGreatDoor.Flt
variable {ml : Int}
abbrev lTell (a b c : Nat) : T := .fn (.func 64) [] [.p a 0 0, .p b 0 0, .p c 0 0]
abbrev lH (g : Nat) (l : List (List UInt8)) : Heap := [(104, 0, .row false (.cell 82) [tree5]), (106, 0, .row false (.cell 23) [.ref 119 g 0 l.length]), (119, g, .row true (.row 1 9) (l.map .s)),
  (107, 0, .row false (.cell 85) [lTell 104 106 107])]
theorem tellLeaf : HRet P (C ml) 64 [.i .i64 1, .i .i64 1, .p 104 0 0, .p 106 0 0, .p 107 0 0] (lH 1 [l16]) (.tup []) (lH 2 [l16, l05]) := by
  have k1 := rp1 (ml := ml)
  have k2 := dNum (ml := ml) 2 (by decide) (by decide)
  rw [show Lib.itoa 2 = [50] by decide +kernel] at k2
  have k3 := wt1 (ml := ml)
  refine hret_of tab_ok Tryz.func64 rfl rfl (by kernel_rfl) rfl ?_
  refine g_run tab_ok mixed 3000 [.a, cc k1, cc k2, cc k3] rfl (by (simp only [AllR]; (repeat' first | exact k1 | exact k2 | exact k3 | exact Nat.le_of_ble_eq_true (by kernel_rfl) | exact True.intro | (show (_ : Bool) = _; assumption) | omega | apply And.intro); all_goals first | (simp; done) | (simp; omega) | exact Nat.le_of_ble_eq_true rfl | kernel_rfl)) ?_
  refine g_rounds 0 ?_
  refine g_fin tab_ok mixed 3000 [.f] rfl (by (simp only [AllR]; (repeat' first | exact True.intro | (show (_ : Bool) = _; assumption) | omega | apply And.intro); all_goals first | (simp; done) | (simp; omega) | exact Nat.le_of_ble_eq_true rfl | kernel_rfl)) (un_exit rfl ?_)
  refine g_fin tab_ok mixed 3000 [] rfl (by (simp only [AllR]; (repeat' first | exact True.intro | (show (_ : Bool) = _; assumption) | omega | apply And.intro); all_goals first | (simp; done) | (simp; omega) | exact Nat.le_of_ble_eq_true rfl | kernel_rfl)) (ret_of rfl ?_ ?_ ?_)
  · exact rfl
  · exact ⟨⟨rfl, rfl, rfl, rfl⟩, ⟨rfl, rfl, ⟨rfl, rfl, rfl, rfl, rfl⟩, rfl⟩, ⟨rfl, rfl, trivial⟩, ⟨rfl, rfl, ⟨rfl, rfl, ⟨⟨rfl, rfl, rfl, rfl⟩, ⟨rfl, rfl, rfl, rfl⟩, ⟨rfl, rfl, rfl, rfl⟩, rfl⟩⟩, rfl⟩, trivial⟩
  · exact ⟨rfl, rfl, rfl, rfl, trivial⟩
theorem tellRoot : HRet P (C ml) 64 [.i .i64 0, .i .i64 0, .p 104 0 0, .p 106 0 0, .p 107 0 0] (lH 0 []) (.tup []) (lH 2 [l16, l05]) := by
  have k1 := rp0 (ml := ml)
  have k2 := dNum (ml := ml) 16 (by decide) (by decide)
  rw [show Lib.itoa 16 = [49, 54] by decide +kernel] at k2
  have k3 := wt0 (ml := ml)
  have k4 := tellLeaf (ml := ml)
  refine hret_of tab_ok Tryz.func64 rfl rfl (by kernel_rfl) rfl ?_
  refine g_run tab_ok mixed 3000 [.a, cc k1, cc k2, cc k3] rfl (by (simp only [AllR]; (repeat' first | exact k1 | exact k2 | exact k3 | exact Nat.le_of_ble_eq_true (by kernel_rfl) | exact True.intro | (show (_ : Bool) = _; assumption) | omega | apply And.intro); all_goals first | (simp; done) | (simp; omega) | exact Nat.le_of_ble_eq_true rfl | kernel_rfl)) ?_
  refine g_rounds 1 ?_
  refine g_fin tab_ok mixed 3000 [.t, .a, ch k4] rfl (by (simp only [AllR]; (repeat' first | exact k4 | exact True.intro | (show (_ : Bool) = _; assumption) | omega | apply And.intro); all_goals first | (simp; done) | (simp; omega) | exact Nat.le_of_ble_eq_true rfl | kernel_rfl)) (un_next ?_)
  refine g_fin tab_ok mixed 3000 [.f] rfl (by (simp only [AllR]; (repeat' first | exact True.intro | (show (_ : Bool) = _; assumption) | omega | apply And.intro); all_goals first | (simp; done) | (simp; omega) | exact Nat.le_of_ble_eq_true rfl | kernel_rfl)) (un_exit rfl ?_)
  refine g_fin tab_ok mixed 3000 [] rfl (by (simp only [AllR]; (repeat' first | exact True.intro | (show (_ : Bool) = _; assumption) | omega | apply And.intro); all_goals first | (simp; done) | (simp; omega) | exact Nat.le_of_ble_eq_true rfl | kernel_rfl)) (ret_of rfl ?_ ?_ ?_)
  · exact rfl
  · exact ⟨⟨rfl, rfl, rfl, rfl⟩, ⟨rfl, rfl, ⟨rfl, rfl, rfl, rfl, rfl⟩, rfl⟩, ⟨rfl, rfl, trivial⟩, ⟨rfl, rfl, ⟨rfl, rfl, ⟨⟨rfl, rfl, rfl, rfl⟩, ⟨rfl, rfl, rfl, rfl⟩, ⟨rfl, rfl, rfl, rfl⟩, rfl⟩⟩, rfl⟩, trivial⟩
  · exact ⟨rfl, rfl, rfl, rfl, trivial⟩
theorem lines5 : Ret P (C ml) 25 [.s d5] (.tup [.sl 2 [.s l16, .s l05], .agg [.i .i64 0, .i .i64 0]]) := by
  have k1 := tDec (ml := ml)
  have k2 := hret_ren 104 4 (hret_ren 106 6 (hret_ren 107 7 (hret_ren 119 19 (tellRoot (ml := ml)))))
  have k2 : HRet P (C ml) 64 [.i .i64 0, .i .i64 0, .p 4 0 0, .p 6 0 0, .p 7 0 0]
      [(4, 0, .row false (.cell 82) [tree5]), (6, 0, .row false (.cell 23) [.ref 19 0 0 0]), (19, 0, .row true (.row 1 9) []), (7, 0, .row false (.cell 85) [lTell 4 6 7])] (.tup [])
      [(4, 0, .row false (.cell 82) [tree5]), (6, 0, .row false (.cell 23) [.ref 19 2 0 2]), (19, 2, .row true (.row 1 9) [.s l16, .s l05]), (7, 0, .row false (.cell 85) [lTell 4 6 7])] := k2
  have q3 : ((2 : Nat) : Int) * (tin (C ml) 9).bytes ≤ 281474976710656 := by rw [show (tin (C ml) 9).bytes = 16 from rfl]; decide
  refine hret_of tab_ok Tryz.func25 rfl rfl (by kernel_rfl) rfl ?_
  refine g_end_frz 19 ?_
  refine g_fin tab_ok mixed 3000 [cc k1, .f, ch k2] rfl (by (simp only [AllR]; (repeat' first | exact k1 | exact k2 | exact q3 | exact True.intro | (show (_ : Bool) = _; assumption) | omega | apply And.intro); all_goals first | (simp; done) | (simp; omega) | exact Nat.le_of_ble_eq_true rfl | kernel_rfl)) ⟨rfl, _, _, rfl, ret_of rfl ?_ trivial trivial⟩
  exact ⟨rfl, ⟨rfl, rfl⟩, rfl⟩
end Go.Proofs.YtipomdmlkkifcaaGreatDoor.Vm
/- Contracts at the inputs that the law's awake asks: tree. -/
set_option maxRecDepth 100000
namespace Go.Proofs.YtipomdmlkkifcaaGreatDoor.Vm
open Go Go.Proofs Go.RowKit Go.Proofs.YtipomdmlkkifcaaGreatDoor.Flt
variable {ml : Int}
theorem one0 : Ret P (C ml) 248 [.agg (n0 (.sl 1 [.i .i64 1]))] (.b true) := by
  refine hret_of tab_ok Tryz.func248 rfl rfl (by kernel_rfl) rfl ?_
  refine g_fin tab_ok mixed 3000 [.f, .f, .f, .t, .t, .f, .t] rfl (by (simp only [AllR]; (repeat' first | exact True.intro | (show (_ : Bool) = _; assumption) | omega | apply And.intro); all_goals first | (simp; done) | (simp; omega) | exact Nat.le_of_ble_eq_true rfl | kernel_rfl)) (ret_of rfl ?_ trivial trivial)
  first | exact .inl rfl | exact .inr rfl
theorem one1 : Ret P (C ml) 248 [.agg n1] (.b true) := by
  have k1 := sr5 (ml := ml)
  refine hret_of tab_ok Tryz.func248 rfl rfl (by kernel_rfl) rfl ?_
  refine g_fin tab_ok mixed 3000 [.f, .f, .f, .f, .t, .f, cc k1] rfl (by (simp only [AllR]; (repeat' first | exact k1 | exact True.intro | (show (_ : Bool) = _; assumption) | omega | apply And.intro); all_goals first | (simp; done) | (simp; omega) | exact Nat.le_of_ble_eq_true rfl | kernel_rfl)) (ret_of rfl ?_ trivial trivial)
  first | exact .inl (by kernel_rfl) | exact .inr (by kernel_rfl)
theorem depth5 : Ret P (C ml) 195 [tree5] (.i .i64 2) := by
  have k1 := one0 (ml := ml)
  have k2 := one1 (ml := ml)
  refine hret_of tab_ok Tryz.func195 rfl rfl (by kernel_rfl) rfl ?_
  refine g_run tab_ok mixed 3000 [.f, .f] rfl (by (simp only [AllR]; (repeat' first | exact True.intro | (show (_ : Bool) = _; assumption) | omega | apply And.intro); all_goals first | (simp; done) | (simp; omega) | exact Nat.le_of_ble_eq_true rfl | kernel_rfl)) ?_
  refine g_rounds 2 ?_
  refine g_run tab_ok mixed 3000 [.t, .a, cc k1, .f] rfl (by (simp only [AllR]; (repeat' first | exact k1 | exact True.intro | (show (_ : Bool) = _; assumption) | omega | apply And.intro); all_goals first | (simp; done) | (simp; omega) | exact Nat.le_of_ble_eq_true rfl | kernel_rfl)) ?_
  refine g_rounds 0 ?_
  refine g_fin tab_ok mixed 3000 [.f] rfl (by (simp only [AllR]; (repeat' first | exact True.intro | (show (_ : Bool) = _; assumption) | omega | apply And.intro); all_goals first | (simp; done) | (simp; omega) | exact Nat.le_of_ble_eq_true rfl | kernel_rfl)) (un_exit rfl ?_)
  refine g_fin tab_ok mixed 3000 [.f] rfl (by (simp only [AllR]; (repeat' first | exact Nat.le_of_ble_eq_true (by kernel_rfl) | exact True.intro | (show (_ : Bool) = _; assumption) | omega | apply And.intro); all_goals first | (simp; done) | (simp; omega) | exact Nat.le_of_ble_eq_true rfl | kernel_rfl)) (un_next ?_)
  refine g_run tab_ok mixed 3000 [.t, .a, cc k2, .f] rfl (by (simp only [AllR]; (repeat' first | exact k2 | exact True.intro | (show (_ : Bool) = _; assumption) | omega | apply And.intro); all_goals first | (simp; done) | (simp; omega) | exact Nat.le_of_ble_eq_true rfl | kernel_rfl)) ?_
  refine g_rounds 0 ?_
  refine g_fin tab_ok mixed 3000 [.t, .a, .a, .a, .f] rfl (by (simp only [AllR]; (repeat' first | exact True.intro | (show (_ : Bool) = _; assumption) | omega | apply And.intro); all_goals first | (simp; done) | (simp; omega) | exact Nat.le_of_ble_eq_true rfl | kernel_rfl)) (un_exit rfl ?_)
  refine g_fin tab_ok mixed 3000 [.t, .f, .a, .a, .a, .a, .f, .a] rfl (by (simp only [AllR]; (repeat' first | exact Nat.le_of_ble_eq_true (by kernel_rfl) | exact True.intro | (show (_ : Bool) = _; assumption) | omega | apply And.intro); all_goals first | (simp; done) | (simp; omega) | exact Nat.le_of_ble_eq_true rfl | kernel_rfl)) (un_next ?_)
  refine g_fin tab_ok mixed 3000 [.f] rfl (by (simp only [AllR]; (repeat' first | exact True.intro | (show (_ : Bool) = _; assumption) | omega | apply And.intro); all_goals first | (simp; done) | (simp; omega) | exact Nat.le_of_ble_eq_true rfl | kernel_rfl)) (un_exit rfl ?_)
  refine g_run tab_ok mixed 3000 [] rfl (by (simp only [AllR]; (repeat' first | exact True.intro | (show (_ : Bool) = _; assumption) | omega | apply And.intro); all_goals first | (simp; done) | (simp; omega) | exact Nat.le_of_ble_eq_true rfl | kernel_rfl)) ?_
  refine g_rounds 2 ?_
  refine g_fin tab_ok mixed 3000 [.t, .a, .a, .f] rfl (by (simp only [AllR]; (repeat' first | exact True.intro | (show (_ : Bool) = _; assumption) | omega | apply And.intro); all_goals first | (simp; done) | (simp; omega) | exact Nat.le_of_ble_eq_true rfl | kernel_rfl)) (un_next ?_)
  refine g_fin tab_ok mixed 3000 [.t, .a, .a, .f] rfl (by (simp only [AllR]; (repeat' first | exact True.intro | (show (_ : Bool) = _; assumption) | omega | apply And.intro); all_goals first | (simp; done) | (simp; omega) | exact Nat.le_of_ble_eq_true rfl | kernel_rfl)) (un_next ?_)
  refine g_fin tab_ok mixed 3000 [.f] rfl (by (simp only [AllR]; (repeat' first | exact True.intro | (show (_ : Bool) = _; assumption) | omega | apply And.intro); all_goals first | (simp; done) | (simp; omega) | exact Nat.le_of_ble_eq_true rfl | kernel_rfl)) (un_exit rfl ?_)
  refine g_fin tab_ok mixed 3000 [.f] rfl (by (simp only [AllR]; (repeat' first | exact True.intro | (show (_ : Bool) = _; assumption) | omega | apply And.intro); all_goals first | (simp; done) | (simp; omega) | exact Nat.le_of_ble_eq_true rfl | kernel_rfl)) (ret_of rfl ?_ trivial trivial)
  rfl
theorem right5 : Ret P (C ml) 123 [tree5] (.b true) := by
  have k1 := depth5 (ml := ml)
  refine hret_of tab_ok Tryz.func123 rfl rfl (by kernel_rfl) rfl ?_
  refine g_fin tab_ok mixed 3000 [cc k1] rfl (by (simp only [AllR]; (repeat' first | exact k1 | exact True.intro | (show (_ : Bool) = _; assumption) | omega | apply And.intro); all_goals first | (simp; done) | (simp; omega) | exact Nat.le_of_ble_eq_true rfl | kernel_rfl)) (ret_of rfl ?_ trivial trivial)
  first | exact .inl (by kernel_rfl) | exact .inr (by kernel_rfl)
theorem sizes5 : Ret P (C ml) 124 [tree5] (.tup [.sl 2 [xs 2 3, xs 2 1], .b true]) := by
  have k1 := hsz0 (ml := ml)
  have k2 := hsz1 (ml := ml)
  have i1 : FloatKind.f64.format.add (nr 2) (nr (([5] : List UInt8).length : Int)) = some (nr 3) := add_nr (a := 2) (b := 1) (by decide) (by decide) (by decide)
  have i2 := fti (z := 3) (by decide)
  have q3 : ((2 : Nat) : Int) * (tin (C ml) 95).bytes ≤ 281474976710656 := by rw [show (tin (C ml) 95).bytes = 16 from rfl]; decide
  refine hret_of tab_ok Tryz.func124 rfl rfl (by kernel_rfl) rfl ?_
  refine g_end_frz 12 ?_
  refine g_run tab_ok mixed 3000 [] rfl (by (simp only [AllR]; (repeat' first | exact q3 | exact True.intro | (show (_ : Bool) = _; assumption) | omega | apply And.intro); all_goals first | (simp; done) | (simp; omega) | exact Nat.le_of_ble_eq_true rfl | kernel_rfl)) ?_
  refine g_rounds 2 ?_
  refine g_run tab_ok mixed 3000 [.t, .a, .a] rfl (by (simp only [AllR]; (repeat' first | exact True.intro | (show (_ : Bool) = _; assumption) | omega | apply And.intro); all_goals first | (simp; done) | (simp; omega) | exact Nat.le_of_ble_eq_true rfl | kernel_rfl)) ?_
  refine g_rounds 0 ?_
  refine g_fin tab_ok mixed 3000 [.f] rfl (by (simp only [AllR]; (repeat' first | exact True.intro | (show (_ : Bool) = _; assumption) | omega | apply And.intro); all_goals first | (simp; done) | (simp; omega) | exact Nat.le_of_ble_eq_true rfl | kernel_rfl)) (un_exit rfl ?_)
  refine g_fin tab_ok mixed 3000 [.a, .a, .a, cc k2, .f, .f] rfl (by (simp only [AllR]; (repeat' first | exact k2 | exact True.intro | (show (_ : Bool) = _; assumption) | omega | apply And.intro); all_goals first | (simp; done) | (simp; omega) | exact Nat.le_of_ble_eq_true rfl | kernel_rfl)) (un_next ?_)
  refine g_run tab_ok mixed 3000 [.t, .a, .a] rfl (by (simp only [AllR]; (repeat' first | exact True.intro | (show (_ : Bool) = _; assumption) | omega | apply And.intro); all_goals first | (simp; done) | (simp; omega) | exact Nat.le_of_ble_eq_true rfl | kernel_rfl)) ?_
  refine g_rounds 1 ?_
  refine g_fin tab_ok mixed 3000 [.t, .a, .a, .a, flo i1, fio i2] rfl (by (simp only [AllR]; (repeat' first | exact i1 | exact i2 | exact True.intro | (show (_ : Bool) = _; assumption) | omega | apply And.intro); all_goals first | (simp; done) | (simp; omega) | exact Nat.le_of_ble_eq_true rfl | kernel_rfl)) (un_next ?_)
  refine g_fin tab_ok mixed 3000 [.f] rfl (by (simp only [AllR]; (repeat' first | exact True.intro | (show (_ : Bool) = _; assumption) | omega | apply And.intro); all_goals first | (simp; done) | (simp; omega) | exact Nat.le_of_ble_eq_true rfl | kernel_rfl)) (un_exit rfl ?_)
  refine g_fin tab_ok mixed 3000 [.a, .a, .a, cc k1, .f, .f] rfl (by (simp only [AllR]; (repeat' first | exact k1 | exact True.intro | (show (_ : Bool) = _; assumption) | omega | apply And.intro); all_goals first | (simp; done) | (simp; omega) | exact Nat.le_of_ble_eq_true rfl | kernel_rfl)) (un_next ?_)
  refine g_fin tab_ok mixed 3000 [.f] rfl (by (simp only [AllR]; (repeat' first | exact True.intro | (show (_ : Bool) = _; assumption) | omega | apply And.intro); all_goals first | (simp; done) | (simp; omega) | exact Nat.le_of_ble_eq_true rfl | kernel_rfl)) (un_exit rfl ?_)
  refine g_fin tab_ok mixed 3000 [] rfl (by (simp only [AllR]; (repeat' first | exact True.intro | (show (_ : Bool) = _; assumption) | omega | apply And.intro); all_goals first | (simp; done) | (simp; omega) | exact Nat.le_of_ble_eq_true rfl | kernel_rfl)) ⟨rfl, _, _, rfl, ret_of rfl ?_ trivial trivial⟩
  exact ⟨rfl, by first | exact .inl rfl | exact .inr rfl, rfl⟩
theorem enc5 : Ret P (C ml) 68 [tree5] (.tup [.s d5, .i .i64 0]) := by
  have k1 := right5 (ml := ml)
  have k2 := sizes5 (ml := ml)
  have k3 := henc0 (ml := ml)
  have k4 := henc1 (ml := ml)
  have i1 := fti (z := 3) (by decide)
  have i2 := fti (z := 1) (by decide)
  refine hret_of tab_ok Tryz.func68 rfl rfl (by kernel_rfl) rfl ?_
  refine g_run tab_ok mixed 3000 [cc k1, .f, cc k2, .f] rfl (by (simp only [AllR]; (repeat' first | exact k1 | exact k2 | exact True.intro | (show (_ : Bool) = _; assumption) | omega | apply And.intro); all_goals first | (simp; done) | (simp; omega) | exact Nat.le_of_ble_eq_true rfl | kernel_rfl)) ?_
  refine g_rounds 2 ?_
  refine g_fin tab_ok mixed 3000 [.t, .a, .a, fio i1, cc k3] rfl (by (simp only [AllR]; (repeat' first | exact k3 | exact i1 | exact Nat.le_of_ble_eq_true (by kernel_rfl) | exact True.intro | (show (_ : Bool) = _; assumption) | omega | apply And.intro); all_goals first | (simp; done) | (simp; omega) | exact Nat.le_of_ble_eq_true rfl | kernel_rfl)) (un_next ?_)
  refine g_fin tab_ok mixed 3000 [.t, .a, .a, fio i2, cc k4] rfl (by (simp only [AllR]; (repeat' first | exact k4 | exact i2 | exact Nat.le_of_ble_eq_true (by kernel_rfl) | exact True.intro | (show (_ : Bool) = _; assumption) | omega | apply And.intro); all_goals first | (simp; done) | (simp; omega) | exact Nat.le_of_ble_eq_true rfl | kernel_rfl)) (un_next ?_)
  refine g_fin tab_ok mixed 3000 [.f] rfl (by (simp only [AllR]; (repeat' first | exact True.intro | (show (_ : Bool) = _; assumption) | omega | apply And.intro); all_goals first | (simp; done) | (simp; omega) | exact Nat.le_of_ble_eq_true rfl | kernel_rfl)) (un_exit rfl ?_)
  refine g_fin tab_ok mixed 3000 [.l d5] rfl (by (simp only [AllR]; (repeat' first | exact True.intro | (show (_ : Bool) = _; assumption) | omega | apply And.intro); all_goals first | (simp; done) | (simp; omega) | exact Nat.le_of_ble_eq_true rfl | kernel_rfl)) (ret_of rfl ?_ trivial trivial)
  exact ⟨rfl, rfl, rfl⟩
end Go.Proofs.YtipomdmlkkifcaaGreatDoor.Vm
/- Contracts at the inputs that the law's awake asks: dump.Read; the law's awake and DumpBlock. -/
set_option maxRecDepth 100000
namespace Go.Proofs.YtipomdmlkkifcaaGreatDoor.Vm
open Go Go.Proofs Go.RowKit Go.Proofs.YtipomdmlkkifcaaGreatDoor.Flt
variable {ml : Int}
abbrev oRow (id : Nat) (l : List T) : Heap := [(id, 0, .row true (.row 1 9) l)]
set_option maxHeartbeats 1600000 in
theorem read5 : HRet P (C ml) 26 [.ref 112 0 0 2] (oRow 112 [.s l16, .s l05]) (.tup [.s d5, .i .i64 0]) [(112, 0, .dead)] := by
  have k1 := rd16 (ml := ml)
  have k2 := rd05 (ml := ml)
  have k3 := enc5 (ml := ml)
  have k4 := lines5 (ml := ml)
  have k5 : Ret P (C ml) 10 [.sl 2 [.s l16, .s l05], .sl 2 [.s l16, .s l05]] (.b true) := eqStrs (ml := ml) [l16, l05] (by decide)
  refine hret_of tab_ok Tryz.func26 rfl rfl (by kernel_rfl) rfl ?_
  refine g_frz 112 rfl ?_
  refine g_run tab_ok mixed 3000 [.f] rfl (by (simp only [AllR]; (repeat' first | exact True.intro | (show (_ : Bool) = _; assumption) | omega | apply And.intro); all_goals first | (simp; done) | (simp; omega) | exact Nat.le_of_ble_eq_true rfl | kernel_rfl)) ?_
  refine g_rounds 2 ?_
  refine g_fin tab_ok mixed 3000 [.t, .a, cc k1, .f, .f, .f, .f] rfl (by (simp only [AllR]; (repeat' first | exact k1 | exact True.intro | (show (_ : Bool) = _; assumption) | omega | apply And.intro); all_goals first | (simp; done) | (simp; omega) | exact Nat.le_of_ble_eq_true rfl | kernel_rfl)) (un_next ?_)
  refine g_fin tab_ok mixed 3000 [.t, .a, cc k2, .f, .f, .f, .t, .a, .a] rfl (by (simp only [AllR]; (repeat' first | exact k2 | exact True.intro | (show (_ : Bool) = _; assumption) | omega | apply And.intro); all_goals first | (simp; done) | (simp; omega) | exact Nat.le_of_ble_eq_true rfl | kernel_rfl)) (un_next ?_)
  refine g_fin tab_ok mixed 3000 [.f] rfl (by (simp only [AllR]; (repeat' first | exact True.intro | (show (_ : Bool) = _; assumption) | omega | apply And.intro); all_goals first | (simp; done) | (simp; omega) | exact Nat.le_of_ble_eq_true rfl | kernel_rfl)) (un_exit rfl ?_)
  refine g_frz 69 rfl ?_
  refine g_frz 75 rfl ?_
  refine g_fin tab_ok mixed 3000 [cc k3, cc k4, .f, .f, cc k5, .f] rfl (by (simp only [AllR]; (repeat' first | exact k3 | exact k4 | exact k5 | exact True.intro | (show (_ : Bool) = _; assumption) | omega | apply And.intro); all_goals first | (simp; done) | (simp; omega) | exact Nat.le_of_ble_eq_true rfl | kernel_rfl)) (ret_of rfl ?_ ?_ ?_)
  · exact ⟨rfl, rfl, rfl⟩
  · exact ⟨trivial, trivial⟩
  · exact ⟨rfl, trivial⟩
theorem readBad : HRet P (C ml) 26 [.ref 112 0 0 1] (oRow 112 [.s l05]) (.tup [.s [], .i .i64 5]) [(112, 0, .dead)] := by
  have k2 := rd05 (ml := ml)
  refine hret_of tab_ok Tryz.func26 rfl rfl (by kernel_rfl) rfl ?_
  refine g_frz 112 rfl ?_
  refine g_run tab_ok mixed 3000 [.f] rfl (by (simp only [AllR]; (repeat' first | exact True.intro | (show (_ : Bool) = _; assumption) | omega | apply And.intro); all_goals first | (simp; done) | (simp; omega) | exact Nat.le_of_ble_eq_true rfl | kernel_rfl)) ?_
  refine g_rounds 0 ?_
  refine g_fin tab_ok mixed 3000 [.t, .a, cc k2, .f, .t] rfl (by (simp only [AllR]; (repeat' first | exact k2 | exact True.intro | (show (_ : Bool) = _; assumption) | omega | apply And.intro); all_goals first | (simp; done) | (simp; omega) | exact Nat.le_of_ble_eq_true rfl | kernel_rfl)) (un_ret (ret_of rfl ?_ ?_ ?_))
  · exact ⟨rfl, rfl, rfl⟩
  · exact ⟨trivial, trivial⟩
  · exact ⟨rfl, trivial⟩
theorem eq5 : HRet P (C ml) 10 [.sl 2 [.s l16, .s l05], .ref 112 0 0 2] (oRow 112 [.s l16, .s l05]) (.b true) [(112, 0, .dead)] := by
  refine hret_of tab_ok Tryz.func10 rfl rfl (by kernel_rfl) rfl ?_
  refine g_frz 112 rfl ?_
  refine g_run tab_ok mixed 3000 [.f] rfl (by (simp only [AllR]; (repeat' first | exact True.intro | (show (_ : Bool) = _; assumption) | omega | apply And.intro); all_goals first | (simp; done) | (simp; omega) | exact Nat.le_of_ble_eq_true rfl | kernel_rfl)) ?_
  refine g_rounds 2 ?_
  refine g_fin tab_ok mixed 3000 [.t, .a, .a, .f] rfl (by (simp only [AllR]; (repeat' first | exact True.intro | (show (_ : Bool) = _; assumption) | omega | apply And.intro); all_goals first | (simp; done) | (simp; omega) | exact Nat.le_of_ble_eq_true rfl | kernel_rfl)) (un_next ?_)
  refine g_fin tab_ok mixed 3000 [.t, .a, .a, .f] rfl (by (simp only [AllR]; (repeat' first | exact True.intro | (show (_ : Bool) = _; assumption) | omega | apply And.intro); all_goals first | (simp; done) | (simp; omega) | exact Nat.le_of_ble_eq_true rfl | kernel_rfl)) (un_next ?_)
  refine g_fin tab_ok mixed 3000 [.f] rfl (by (simp only [AllR]; (repeat' first | exact True.intro | (show (_ : Bool) = _; assumption) | omega | apply And.intro); all_goals first | (simp; done) | (simp; omega) | exact Nat.le_of_ble_eq_true rfl | kernel_rfl)) (un_exit rfl ?_)
  refine g_fin tab_ok mixed 3000 [] rfl (by (simp only [AllR]; (repeat' first | exact True.intro | (show (_ : Bool) = _; assumption) | omega | apply And.intro); all_goals first | (simp; done) | (simp; omega) | exact Nat.le_of_ble_eq_true rfl | kernel_rfl)) (ret_of rfl ?_ ?_ ?_)
  · first | exact .inl rfl | exact .inr rfl
  · exact ⟨trivial, trivial⟩
  · exact ⟨rfl, trivial⟩
end Go.Proofs.YtipomdmlkkifcaaGreatDoor.Vm
/- Contracts: clavigerlaw47.awake, DumpBlock. -/
set_option maxRecDepth 100000
namespace Go.Proofs.YtipomdmlkkifcaaGreatDoor.Vm
open Go Go.Proofs Go.RowKit
variable {ml : Int}
theorem awake47 : Ret P (C ml) 7 [] (.b true) := by
  have k1 := lines5 (ml := ml)
  have k2 : HRet P (C ml) 26 [.ref 12 0 0 2] (oRow 12 [.s l16, .s l05]) (.tup [.s d5, .i .i64 0]) [(12, 0, .dead)] := hret_ren 112 12 (read5 (ml := ml))
  have k3 : HRet P (C ml) 26 [.ref 17 0 0 1] (oRow 17 [.s l05]) (.tup [.s [], .i .i64 5]) [(17, 0, .dead)] := hret_ren 112 17 (readBad (ml := ml))
  have k4 : HRet P (C ml) 10 [.sl 2 [.s l16, .s l05], .ref 22 0 0 2] (oRow 22 [.s l16, .s l05]) (.b true) [(22, 0, .dead)] := hret_ren 112 22 (eq5 (ml := ml))
  refine hret_of tab_ok Tryz.func7 rfl rfl (by kernel_rfl) rfl ?_
  refine g_fin tab_ok mixed 3000 [cc k1, ch k2, ch k3, ch k4, .t, .t, .t, .t] rfl (by (simp only [AllR]; (repeat' first | exact k1 | exact k2 | exact k3 | exact k4 | exact True.intro | (show (_ : Bool) = _; assumption) | omega | apply And.intro); all_goals first | (simp; done) | (simp; omega) | exact Nat.le_of_ble_eq_true rfl | kernel_rfl)) (ret_of rfl ?_ trivial trivial)
  first | exact .inl (congrArg T.b (by rw [Bool.eq_iff_iff]; first | (simp []; done) | (simp []; omega) | (simp_all []; done) | (simp_all []; omega))) | exact .inr (congrArg T.bl (by rw [Bool.eq_iff_iff]; first | (simp []; done) | (simp []; omega) | (simp_all []; done) | (simp_all []; omega)))
theorem dumpBlock47 (b : List UInt8) : Ret P (C ml) 3 [.s b] (.b true) := by
  have k1 := awake47 (ml := ml)
  refine hret_of tab_ok Tryz.func3 rfl rfl (by kernel_rfl) rfl ?_
  by_cases hb : b.length ≤ 1500
  · have k2 := pBlock47 (ml := ml) b (by omega)
    have k3 := rBlock47 (ml := ml) b (by omega)
    unfold bRes at k2 k3
    by_cases e : (cutF b).2 = 0
    · rw [if_pos e] at k2 k3
      have hl : (blkLines (cutF b).1).length ≤ 100000 := by
        have hx : cutF b = ((cutF b).1, 0) := by rw [← e]
        have h32 := (atOk_iff (cut_atok hx (by omega))).1
        simp [blkLines]; omega
      have k4 := eqStrs (ml := ml) (blkLines (cutF b).1) hl
      generalize blkLines (cutF b).1 = x at *
      refine g_fin tab_ok mixed 3000 [.f, cc k2, cc k3, cc k4, .t, .t, cc k1] rfl (by (simp only [AllR]; (repeat' first | exact k1 | exact k2 | exact k3 | exact k4 | exact True.intro | (show (_ : Bool) = _; assumption) | omega | apply And.intro); all_goals first | (simp; done) | (simp; omega) | exact Nat.le_of_ble_eq_true rfl | kernel_rfl)) (ret_of rfl ?_ trivial trivial)
      first | exact .inl rfl | exact .inr rfl
    · rw [if_neg e] at k2 k3
      have k4 := eqStrsNil (ml := ml)
      generalize (cutF b).2 = x at *
      refine g_fin tab_ok mixed 3000 [.f, cc k2, cc k3, cc k4, .t, .t, cc k1] rfl (by (simp only [AllR]; (repeat' first | exact k1 | exact k2 | exact k3 | exact k4 | exact True.intro | (show (_ : Bool) = _; assumption) | omega | apply And.intro); all_goals first | (simp; done) | (simp; omega) | exact Nat.le_of_ble_eq_true rfl | kernel_rfl)) (ret_of rfl ?_ trivial trivial)
      first | exact .inl rfl | exact .inr rfl
  · refine g_fin tab_ok mixed 3000 [.t, cc k1] rfl (by (simp only [AllR]; (repeat' first | exact k1 | exact True.intro | (show (_ : Bool) = _; assumption) | omega | apply And.intro); all_goals first | (simp; done) | (simp; omega) | exact Nat.le_of_ble_eq_true rfl | kernel_rfl)) (ret_of rfl ?_ trivial trivial)
    first | exact .inl rfl | exact .inr rfl
end Go.Proofs.YtipomdmlkkifcaaGreatDoor.Vm
