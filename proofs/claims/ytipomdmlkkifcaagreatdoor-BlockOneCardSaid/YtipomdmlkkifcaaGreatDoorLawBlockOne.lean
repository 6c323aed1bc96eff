/- BlockOne: WHATEVER THE INPUT, the law answers true and leaves its arguments as they read. No condition but the row's own: the listed variables read as the program's text lays them (the card ties them). -/
import Derived.Test.YtipomdmlkkifcaaGreatDoorRows
import Derived.Test.YtipomdmlkkifcaaGreatDoorTie
import Derived.Test.YtipomdmlkkifcaaGreatDoorCards
import Derived.Test.YtipomdmlkkifcaaGreatDoorPart4
import Derived.Test.YtipomdmlkkifcaaGreatDoorPart24
import Derived.Lay
set_option linter.unusedVariables false
namespace Go.Proofs.YtipomdmlkkifcaaGreatDoor.blockOne
open Go Go.Proofs Go.Proofs.YtipomdmlkkifcaaGreatDoor.Vm Go.ChangeShapes Go.WideShapes Go.ChangeAt Go.RowKit
open Go.ChangeMaps (open_string shut_string)
theorem own : ownKnob Tryz.prog.godebug = none := by kernel_rfl
abbrev laid : List (String × DataW Unit) := Rows.blockOneRow.laid
theorem door_met (os : Os) (args : Array Value) : laidMetH Tryz.prog laid ((World.laidAll Tryz.prog os laid).forCall (fun _ _ => 0) ⟨#[], args, []⟩).memory := by
  rw [MakeChecks.laidMetH_plain _ _ _ (by kernel_rfl)]; exact laidMet_laidAll _ (by kernel_rfl) (by kernel_rfl)
theorem star : "*" ++ "errors.errorString" = "*errors.errorString" := by decide
theorem row_es (u : TypeId) (h : Tryz.prog.typeName? 3 u = some "*errors.errorString") : u = 338 :=
  typeName_ptr_named (nm := "errors.errorString") (by rw [star]; kernel_rfl) (by kernel_rfl) (by decide) u (by rw [star]; exact h)
theorem globs {W : World} (h : laidMetH Tryz.prog laid W) (hsh : W.ShapedOpen Tryz.prog) : ∃ ml, GlobOk (C ml) W.cell? := by
  rw [MakeChecks.laidMetH_plain _ _ _ (by kernel_rfl)] at h
  have m0 : laidMet Tryz.prog laid W := h
  have m1 := m0.tail
  have m2 := m1.tail
  have m3 := m2.tail
  have m4 := m3.tail
  have m5 := m4.tail
  have m6 := m5.tail
  obtain ⟨ml, hml⟩ := cell_of_shapedOpen_int (P := Tryz.prog) (g := 0) (t := 3) (zero := #[.int .i64 0]) hsh (of_decide_eq_true (by kernel_rfl)) (by kernel_rfl) rfl (by kernel_rfl) (by kernel_rfl) Tryz.underlying3
  have p0 : PV W.cell? (.rp [.i .i64 ml] 0) (.pointer (some ⟨0, 0, none⟩)) := ⟨0, 0, _, by simp, ⟨_, _, rfl, rfl, rfl⟩, rfl, fun j v hj => by cases j with | zero => (simp only [List.getElem?_cons_zero, Option.some.injEq] at hj; subst hj; exact hml) | succ j => simp at hj⟩
  have p2 := laid_glob (n := 8) (ts := gFirst) m6 (show Tryz.prog.globalNamed "unicode/utf8.first" = some 2 by kernel_rfl) (show (Tryz.prog.globals[2]?).map (·.type) = some 263 by kernel_rfl) (by kernel_rfl)
  have p3 := laid_glob (n := 8) (ts := gAccept) m3 (show Tryz.prog.globalNamed "unicode/utf8.acceptRanges" = some 3 by kernel_rfl) (show (Tryz.prog.globals[3]?).map (·.type) = some 325 by kernel_rfl) (by kernel_rfl)
  have p1 := laid_glob (n := 8) (ts := gPow10) m2 (show Tryz.prog.globalNamed "internal/strconv.uint64pow10" = some 1 by kernel_rfl) (show (Tryz.prog.globals[1]?).map (·.type) = some 313 by kernel_rfl) (by kernel_rfl)
  have p4 := laid_err m5 (show Tryz.prog.globalNamed "strconv.ErrSyntax" = some 4 by kernel_rfl) (show (Tryz.prog.globals[4]?).map (·.type) = some 105 by kernel_rfl) Tryz.underlying105 row_es Tryz.underlying338 Tryz.underlying340 rfl rfl Tryz.underlying9 (show Tryz.prog.cellsOf 340 = 1 by kernel_rfl) (show Tryz.prog.cellsOf 9 = 1 by kernel_rfl)
  have p5 := laid_err m4 (show Tryz.prog.globalNamed "strconv.ErrRange" = some 5 by kernel_rfl) (show (Tryz.prog.globals[5]?).map (·.type) = some 105 by kernel_rfl) Tryz.underlying105 row_es Tryz.underlying338 Tryz.underlying340 rfl rfl Tryz.underlying9 (show Tryz.prog.cellsOf 340 = 1 by kernel_rfl) (show Tryz.prog.cellsOf 9 = 1 by kernel_rfl)
  refine ⟨ml, globOk_of ?_⟩
  intro x hx
  simp only [C, List.mem_cons, List.not_mem_nil, or_false] at hx
  rcases hx with rfl | rfl | rfl | rfl | rfl | rfl
  · exact p0
  · exact p2
  · exact p3
  · exact p1
  · exact p4
  · exact p5
set_option maxRecDepth 100000 in
theorem lifted (os : Os) (started : os.Started) (H : Type) (enc : TypeId × Value → H) :
    ReturnsInHanded {} Tryz.checked os 6 .any (fun w args => (Rows.blockOneSpec.pre enc Tryz.prog Tryz.f6 [] false w args ∧ laidMetH Tryz.prog laid w) ∧ sizedMet enc Tryz.prog Tryz.f6 (OpenSpec.ofChange Rows.blockOneSpec) false w args)
      (Rows.blockOneSpec.post enc Tryz.prog Tryz.f6 false true false false) := by
  refine returns_law (C := Tryz.checked) (X := fun w _ => laidMetH Tryz.prog laid w) (fun _ _ _ hh h => h.of_heap hh) own started (by kernel_rfl) Tryz.func6
    (ChangeSpec.witness_shaped (enc := enc) (C := Tryz.checked) (os := os) (X := fun w _ => laidMetH Tryz.prog laid w) false (World.laidAll Tryz.prog os laid) #[.string ByteArray.empty, .string ByteArray.empty] 8 (World.laidAll_os _ _ _) (World.shaped_of_ZipB (by kernel_rfl) (by kernel_rfl)) (by kernel_rfl) (by kernel_rfl) (by kernel_rfl) (door_met os _)) ?_
  intro W base args ds gs before hval0 hW hsz hL hsh
  have hval : ∀ (j : Nat) t v, Tryz.f6.params[j]? = some t → args[j]? = some v → Value.okWide Tryz.prog W .any base t v := hval0
  have hW' := hW
  obtain ⟨p, q, hA0, hV, rfl, hfz, hnd⟩ := hW
  have hA : DataW.TrodAll enc Tryz.prog W 0 (fun _ => true) true Tryz.f6.params.toList args.toList ds p := hA0
  rw [Tryz.params6] at hA hval
  obtain ⟨v0, vs0, d0, ds0, p0, q0, hargs, rfl, rfl, h0, r0⟩ := trodAll_cons hA
  obtain ⟨v1, vs1, d1, ds1, p1, q1, rfl, rfl, rfl, h1, r1⟩ := trodAll_cons r0
  obtain ⟨rfl, rfl, rfl⟩ := trodAll_nil r1
  obtain rfl : args = #[v0, v1] := by cases args; simp_all
  obtain ⟨rfl, rfl⟩ := trodVars_none hV
  obtain ⟨⟨⟨a0⟩⟩, rfl, rfl, rfl, y0⟩ := open_string Tryz.underlying9 (hval 0 9 v0 rfl rfl) h0
  obtain ⟨⟨⟨a1⟩⟩, rfl, rfl, rfl, y1⟩ := open_string Tryz.underlying9 (hval 1 9 v1 rfl rfl) h1
  obtain ⟨ml, hg⟩ := globs hL hsh
  refine (calls_of_ret (blockOne39 (ml := ml) a0 a1) hg (vals := [.string ⟨⟨a0⟩⟩, .string ⟨⟨a1⟩⟩]) (by simp only [PVs, PV]; exact ⟨_, _, rfl, rfl, ⟨_, _, rfl, rfl, rfl⟩⟩)).mono fun e W' hx => ?_
  obtain ⟨v, I', ρ', rfl, hv, bel⟩ := hx
  have hv : v = .bool true := hv
  subst hv
  exact ⟨_, rfl, _, _, _, [], _, [], hW', trodAll_mk1 (shut_bool Tryz.underlying4 _), (trodAll_cons_mk (shut_string Tryz.underlying9 y0) (trodAll_cons_mk (shut_string Tryz.underlying9 y1) trodAll_mk0)), rfl, bel.frame _, fun h => by cases h⟩
theorem j0 : ((Rows.blockOneRow.inPlace == Tryz.pinned.checked.prog.inPlace 6)) = true := by kernel_rfl
theorem j1 : ((Rows.blockOneRow.unfollowed == Tryz.pinned.checked.prog.unfollowed 6)) = true := by kernel_rfl
theorem j2 : ((Rows.blockOneRow.recurses == Tryz.pinned.checked.prog.recurses 6)) = true := by kernel_rfl
theorem j3 : ((Rows.blockOneRow.named == Tryz.pinned.checked.prog.varsNamed 6)) = true := by kernel_rfl
theorem j4 : (laidOutB Tryz.pinned.checked.prog) = true := by kernel_rfl
theorem j5 : (mapsRowed Tryz.pinned.checked.prog) = true := by kernel_rfl
theorem j6 : (Tryz.pinned.checked.prog.stopsHeard) = true := by kernel_rfl
theorem j7 : (Tryz.pinned.checked.prog.mayEnter) = true := by kernel_rfl
theorem j8 : ((Rows.blockOneRow.lifted == Tryz.pinned.checked.prog.liftsFinal)) = true := by kernel_rfl
theorem j9 : (namedTie Tryz.pinned.checked.prog Rows.blockOneRow.named Rows.blockOneSpec.vars) = true := by kernel_rfl
theorem joined : joinedFacts Tryz.pinned.checked.prog 6 Tryz.f6 Rows.blockOneSpec Rows.blockOneRow = true := by
  unfold joinedFacts
  rw [j0, j1, j2, j3, j4, j5, j6, j7, j8, j9]
  kernel_rfl
theorem over : Rows.blockOneRow.holds Tryz.pinned (OpenSpec.ofChange Rows.blockOneSpec) :=
  OpenClaim.holds_of_wide 6 Tryz.f6 rfl rfl rfl rfl rfl rfl rfl ⟨rfl, rfl, rfl, rfl, rfl⟩ rfl rfl rfl rfl rfl (by kernel_rfl) Tryz.func6 joined
    (of_decide_eq_true (by kernel_rfl)) (by unfold Func.isWrapper; first | (rw [if_pos (by decide +kernel)]; kernel_rfl) | (rw [if_neg (by decide +kernel)]; exact ⟨rfl, rfl⟩))
    (fun os started H enc _ => lifted os started H enc)
theorem card_holds : Claim7.holds Tryz.pinned (.plain (OpenSpec.ofChange Rows.blockOneSpec)) Rows.blockOneCard :=
  Claim7.holds_tied_plain_at .later [] [.data, .data, .data, .data, .sentinel, .sentinel, .pinned] true (true, "18406105b11ea69bc28bda5a343805cdf59e5533b8e342c33163eb13ffb9a0ee") true over (fun _ h => by cases h) (by as_aux_lemma => kernel_rfl) (fun _ h => by cases h) blockOne_row_tie rfl ⟨rfl, rfl⟩ (by as_aux_lemma => kernel_rfl) rfl
    (fun f fn hf hfn => by
      obtain rfl : f = 6 := Option.some.inj ((show Tryz.prog.funcNamed "claviger/clavigerlaw39.BlockOne" = some 6 by as_aux_lemma => kernel_rfl).symm.trans hf) |>.symm
      obtain rfl : fn = Tryz.f6 := (Option.some.inj (Tryz.func6.symm.trans hfn)).symm
      exact ⟨by as_aux_lemma => kernel_rfl, fun j t ht => by
        rw [Tryz.params6] at ht
        have hm : t ∈ [9, 9] := by simpa using Array.mem_of_getElem? ht
        have hall : ([9, 9].all fun u => !Tryz.prog.wantsStandIn u) = true := by as_aux_lemma => kernel_rfl
        exact (show Tryz.prog.wantsStandIn t = false by simpa using List.all_eq_true.1 hall t hm)⟩)
    (by as_aux_lemma => kernel_rfl)
end Go.Proofs.YtipomdmlkkifcaaGreatDoor.blockOne
namespace Go.Proofs.YtipomdmlkkifcaaGreatDoor
/-- The card, under a short name, for the claim. -/
theorem blockOne_holds : Rows.BlockOneCardSaid := blockOne.card_holds
#print axioms blockOne_holds
end Go.Proofs.YtipomdmlkkifcaaGreatDoor
