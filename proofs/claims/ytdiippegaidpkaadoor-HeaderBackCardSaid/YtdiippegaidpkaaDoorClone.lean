/- Contract: internal/stringslite.Clone: the string is as it was; a new row of bytes is laid, and no more. -/
import Derived.Test.YtdiippegaidpkaaDoorLib1
import Derived.Lib.BufferWrite
import Derived.Lib.UnsafeStr
import Derived.Laws.MakeOwn
import Derived.WalkKit
set_option linter.unusedVariables false
set_option linter.unusedSimpArgs false
set_option linter.unnecessarySimpa false
namespace Go.Proofs.YtdiippegaidpkaaDoor.Vm
open Go Go.Proofs Go.RowKit
variable {ml : Int}
set_option maxRecDepth 100000 in
theorem u8_info : ∃ i, P.info? 5 = some i ∧ i.size = 1 ∧ i.bytes = 1 ∧ i.zero = some (.int .u8 0) := by
  obtain ⟨⟨i, z, h1, h2, h3, h4, h5, h6⟩, _⟩ := (tab_ok (m := 0) 5).2.resolve_left (by intro h; cases h)
  refine ⟨i, h1, h2, h3, ?_⟩
  rw [h4]
  have this : (zeroValue 5).run P (default : World) = .ok z default := by simp [zeroValue, typeInfo, h1, h4]
  have h7 : (zeroValue 5).run P (default : World) = _ := Tryd.zeroValue5 (default : World)
  have h8 : Result.ok (Value.int .u8 0) (default : World) = .ok z default := h7.symm.trans this
  injection h8 with a _
  rw [← a]
set_option maxRecDepth 100000 in
theorem clone_calls (l : List UInt8) (w : World) (hl : l ≠ []) (hlim : l.length ≤ 1000000) : Calls P 88 #[.string ⟨⟨l⟩⟩] w fun e w' => e = .returned (.string ⟨⟨l⟩⟩) ∧ Below w.heap.size w w' := by
  obtain ⟨i, hi, hi1, hi2, hi3⟩ := u8_info
  have hsz : (⟨⟨l⟩⟩ : ByteArray).size = l.length := by simp [ByteArray.size]
  have hne : 0 < l.length := List.length_pos_iff.2 hl
  -- the row that is made
  obtain ⟨M, hMd⟩ : ∃ M, M = madeCells (Value.int .u8 0).cells (((l.length : Nat) : Int).toNat * i.size) := ⟨_, rfl⟩
  have hM : M.size = l.length := by rw [hMd]; simp [size_madeCells, hi1]
  have f1 : ∀ W : World, (Instr.makeSlice 50 (.int .i64 (l.length : Int)) (.int .i64 (l.length : Int))).run P W = .ok (.slice (some ⟨W.heap.size, 0, none⟩) l.length l.length) (W.alloc (.cells M 5)) := fun W => by
    have := run_make (P := P) (w := W) 50 5 i (.int .u8 0) Tryd.underlying50 hi hi3 .i64 .i64 (l.length : Int) (l.length : Int) (by omega) (by omega) (by rw [hi2]; omega) (by omega)
    rw [← hMd] at this
    simpa using this
  clear hMd
  -- its cells behind the copying
  have hr : (w.alloc (.cells M 5)).heap[w.heap.size]? = some (.cells M 5 (0, 0)) := heap_alloc_new w _
  have f2 := Lib.run_copy_row_string (P := P) (w.alloc (.cells M 5)) 50 9 3 5 w.heap.size 0 l.length l.length ⟨⟨l⟩⟩ M 5 Tryd.underlying50 (by rw [hi]; simp [hi1]) hr (by rw [hsz]; exact Nat.le_refl _) (by rw [hsz, hM]; omega)
  rw [hsz] at f2
  obtain ⟨Y, hYd⟩ : ∃ Y, Y = (M.toList.take 0 ++ Lib.byteCells l ++ M.toList.drop (0 + l.length)).toArray := ⟨_, rfl⟩
  rw [← hYd] at f2
  have hY : Y.toList = Lib.byteCells l := by
    rw [hYd]
    simp only [List.take_zero, List.nil_append]
    rw [List.drop_of_length_le (by rw [Array.length_toList, hM]; omega), List.append_nil]
  have hYs : Y.size = l.length := by rw [← Array.length_toList, hY, Lib.byteCells_length]
  have hr2 : ((w.alloc (.cells M 5)).setRow w.heap.size Y).heap[w.heap.size]? = some (.cells Y 5 (0, 0)) := setRow_heap _ _ M _ 5 (0, 0) hr
  have f3 := Lib.run_unsafeString_row (P := P) ((w.alloc (.cells M 5)).setRow w.heap.size Y) 83 3 9 5 Tryd.underlying83 (by simp [Program.cellsOf, hi, hi1]) w.heap.size Y.size (by unfold World.shape?; rw [hr2]) l hl (by rw [hYs]; exact Nat.le_refl _) (by omega)
    (fun j x hx => Lib.cells_of_row hr2 Y.size j _ (by rw [List.take_of_length_le (by rw [Array.length_toList]; exact Nat.le_refl _), hY]; simp [Lib.byteCells, hx]))
  have hb1 : Below w.heap.size w (w.alloc (.cells M 5)) := (Below.refl _ w).alloc (Nat.le_refl _) _
  have hb2 : Below w.heap.size (w.alloc (.cells M 5)) ((w.alloc (.cells M 5)).setRow w.heap.size Y) := ⟨rfl, rfl, rfl, by simp, fun k hk => setRow_other _ _ _ _ (by omega)⟩
  have hb : Below w.heap.size w (((w.alloc (.cells M 5)).setRow w.heap.size Y).freeze ⟨w.heap.size, 0, none⟩ l.length) := Lib.below_freeze (hb1.trans hb2) (p := ⟨w.heap.size, 0, none⟩) (Nat.le_refl _) _
  have hz : (l.length == 0) = false := by simp [hl]
  clear hYd
  show Calls Tryd.prog _ _ _ _
  go_enter Tryd.func88, Tryd.ntmps88
  go_wp2
  go_ret
  exact ⟨rfl, hb⟩
theorem clone (l : List UInt8) (hlim : l.length ≤ 1000000) : Ret P (C ml) 88 [.s l] (.s l) := by
  by_cases hl : l = []
  · subst hl
    refine hret_of tab_ok Tryd.func88 rfl rfl (by kernel_rfl) rfl ?_
    refine g_fin tab_ok mixed 3000 [.t] rfl (by (simp only [AllR]; (repeat' first | exact True.intro | (show (_ : Bool) = _; assumption) | omega | apply And.intro); all_goals first | (simp; done) | (simp; omega) | (simp_all; done) | exact Nat.le_of_ble_eq_true rfl | kernel_rfl)) (ret_of rfl (by simp [tle]) trivial trivial)
  · refine ret_of_calls (callable_of Tryd.func88 rfl rfl) fun ρ I w vals hg hm hv => ?_
    simp only [VRs, VR] at hv; obtain ⟨_, _, rfl, rfl, rfl⟩ := hv
    refine (clone_calls l w hl hlim).mono ?_
    rintro _ _ ⟨rfl, h⟩
    exact ⟨_, rfl, rfl, h⟩
end Go.Proofs.YtdiippegaidpkaaDoor.Vm
