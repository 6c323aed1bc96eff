/- BlockTells: WHATEVER THE INPUT, the law answers true and leaves its arguments as they read. No condition but the row's own: the listed variables read as the program's text lays them (the card ties them). -/
import Derived.Test.YtipomdmlkkifcaaGreatDoorRows
import Derived.Test.YtipomdmlkkifcaaGreatDoorTie
import Derived.Test.YtipomdmlkkifcaaGreatDoorCards
import Derived.Test.YtipomdmlkkifcaaGreatDoorPart24
import Derived.Test.YtipomdmlkkifcaaGreatDoorPart27
import Derived.Lay
set_option linter.unusedSimpArgs false
set_option linter.unusedVariables false
namespace Go.Proofs.YtipomdmlkkifcaaGreatDoor.blockTells
open Go Go.Proofs Go.Proofs.YtipomdmlkkifcaaGreatDoor.Vm Go.ChangeShapes Go.WideShapes Go.ChangeAt Go.RowKit
open Go.ChangeMaps (open_string shut_string)
theorem laidOut : laidOutB Tryz.prog = true := by kernel_rfl
theorem own : ownKnob Tryz.prog.godebug = none := by kernel_rfl
abbrev laid : List (String × DataW Unit) := Rows.blockTellsRow.laid
theorem door_met (os : Os) (args : Array Value) : laidMetH Tryz.prog laid ((World.laidAll Tryz.prog os laid).forCall (fun _ _ => 0) ⟨#[], args, []⟩).memory := by
  rw [MakeChecks.laidMetH_plain _ _ _ (by kernel_rfl)]; exact laidMet_laidAll _ (by kernel_rfl) (by kernel_rfl)
theorem star : "*" ++ "errors.errorString" = "*errors.errorString" := by decide
theorem row_es (u : TypeId) (h : Tryz.prog.typeName? 3 u = some "*errors.errorString") : u = 338 :=
  typeName_ptr_named (nm := "errors.errorString") (by rw [star]; kernel_rfl) (by kernel_rfl) (by decide) u (by rw [star]; exact h)
theorem globs {W : World} (h : laidMetH Tryz.prog laid W) (hsh : W.ShapedOpen Tryz.prog) : ∃ ml, GlobOk (C ml) W.cell? := by
  rw [MakeChecks.laidMetH_plain _ _ _ (by kernel_rfl)] at h
  have m0 : laidMet Tryz.prog laid W := h
  have m1 := m0.tail
  have m2 := m1.tail
  have m3 := m2.tail
  have m4 := m3.tail
  have m5 := m4.tail
  have m6 := m5.tail
  obtain ⟨ml, hml⟩ := cell_of_shapedOpen_int (P := Tryz.prog) (g := 0) (t := 3) (zero := #[.int .i64 0]) hsh (of_decide_eq_true (by kernel_rfl)) (by kernel_rfl) rfl (by kernel_rfl) (by kernel_rfl) Tryz.underlying3
  have p0 : PV W.cell? (.rp [.i .i64 ml] 0) (.pointer (some ⟨0, 0, none⟩)) := ⟨0, 0, _, by simp, ⟨_, _, rfl, rfl, rfl⟩, rfl, fun j v hj => by cases j with | zero => (simp only [List.getElem?_cons_zero, Option.some.injEq] at hj; subst hj; exact hml) | succ j => simp at hj⟩
  have p2 := laid_glob (n := 8) (ts := gFirst) m6 (show Tryz.prog.globalNamed "unicode/utf8.first" = some 2 by kernel_rfl) (show (Tryz.prog.globals[2]?).map (·.type) = some 263 by kernel_rfl) (by kernel_rfl)
  have p3 := laid_glob (n := 8) (ts := gAccept) m3 (show Tryz.prog.globalNamed "unicode/utf8.acceptRanges" = some 3 by kernel_rfl) (show (Tryz.prog.globals[3]?).map (·.type) = some 325 by kernel_rfl) (by kernel_rfl)
  have p1 := laid_glob (n := 8) (ts := gPow10) m2 (show Tryz.prog.globalNamed "internal/strconv.uint64pow10" = some 1 by kernel_rfl) (show (Tryz.prog.globals[1]?).map (·.type) = some 313 by kernel_rfl) (by kernel_rfl)
  have p4 := laid_err m5 (show Tryz.prog.globalNamed "strconv.ErrSyntax" = some 4 by kernel_rfl) (show (Tryz.prog.globals[4]?).map (·.type) = some 105 by kernel_rfl) Tryz.underlying105 row_es Tryz.underlying338 Tryz.underlying340 rfl rfl Tryz.underlying9 (show Tryz.prog.cellsOf 340 = 1 by kernel_rfl) (show Tryz.prog.cellsOf 9 = 1 by kernel_rfl)
  have p5 := laid_err m4 (show Tryz.prog.globalNamed "strconv.ErrRange" = some 5 by kernel_rfl) (show (Tryz.prog.globals[5]?).map (·.type) = some 105 by kernel_rfl) Tryz.underlying105 row_es Tryz.underlying338 Tryz.underlying340 rfl rfl Tryz.underlying9 (show Tryz.prog.cellsOf 340 = 1 by kernel_rfl) (show Tryz.prog.cellsOf 9 = 1 by kernel_rfl)
  refine ⟨ml, globOk_of ?_⟩
  intro x hx
  simp only [C, List.mem_cons, List.not_mem_nil, or_false] at hx
  rcases hx with rfl | rfl | rfl | rfl | rfl | rfl
  · exact p0
  · exact p2
  · exact p3
  · exact p1
  · exact p4
  · exact p5
set_option maxRecDepth 100000 in
theorem lifted (os : Os) (started : os.Started) (H : Type) (enc : TypeId × Value → H) :
    ReturnsInHanded {} Tryz.checked os 4 .any (fun w args => (Rows.blockTellsSpec.pre enc Tryz.prog Tryz.f4 [] false w args ∧ laidMetH Tryz.prog laid w) ∧ sizedMet enc Tryz.prog Tryz.f4 (OpenSpec.ofChange Rows.blockTellsSpec) false w args)
      (Rows.blockTellsSpec.post enc Tryz.prog Tryz.f4 false true false false) := by
  refine returns_law (C := Tryz.checked) (X := fun w _ => laidMetH Tryz.prog laid w) (fun _ _ _ hh h => h.of_heap hh) own started (by kernel_rfl) Tryz.func4
    (ChangeSpec.witness_shaped (enc := enc) (C := Tryz.checked) (os := os) (X := fun w _ => laidMetH Tryz.prog laid w) false (World.laidAll Tryz.prog os laid) #[.string ByteArray.empty, .agg #[.int .i64 0, .string ByteArray.empty, .slice none 0 0, .string ByteArray.empty, .string ByteArray.empty, .string ByteArray.empty, .string ByteArray.empty], .string ByteArray.empty, .string ByteArray.empty] 8 (World.laidAll_os _ _ _) (World.shaped_of_ZipB (by kernel_rfl) (by kernel_rfl)) (by kernel_rfl) (by kernel_rfl) (by kernel_rfl) (door_met os _)) ?_
  intro W base args ds gs before hval0 hW hsz hL hsh
  have hval : ∀ (j : Nat) t v, Tryz.f4.params[j]? = some t → args[j]? = some v → Value.okWide Tryz.prog W .any base t v := hval0
  have hW' := hW
  obtain ⟨p, q, hA0, hV, rfl, hfz, hnd⟩ := hW
  have hA : DataW.TrodAll enc Tryz.prog W 0 (fun _ => true) true Tryz.f4.params.toList args.toList ds p := hA0
  rw [Tryz.params4] at hA hval
  obtain ⟨v0, vs0, d0, ds0, p0, q0, hargs, rfl, rfl, h0, r0⟩ := trodAll_cons hA
  obtain ⟨v1, vs1, d1, ds1, p1, q1, rfl, rfl, rfl, h1, r1⟩ := trodAll_cons r0
  obtain ⟨v2, vs2, d2, ds2, p2, q2, rfl, rfl, rfl, h2, r2⟩ := trodAll_cons r1
  obtain ⟨v3, vs3, d3, ds3, p3, q3, rfl, rfl, rfl, h3, r3⟩ := trodAll_cons r2
  obtain ⟨rfl, rfl, rfl⟩ := trodAll_nil r3
  obtain rfl : args = #[v0, v1, v2, v3] := by cases args; simp_all
  obtain ⟨rfl, rfl⟩ := trodVars_none hV
  obtain ⟨⟨⟨a0⟩⟩, rfl, rfl, rfl, y0⟩ := open_string Tryz.underlying9 (hval 0 9 v0 rfl rfl) h0
  have k1 := h1
  have lt1 := trod_old h1
  obtain ⟨cs1, ts1, rfl, pv1, sh1⟩ := open_struct3 Tryz.underlying33 (hval 1 33 v1 rfl rfl) h1 (by kernel_rfl)
  simp only [Shape3, shapeF, Tryz.underlying3, Tryz.underlying9, Tryz.underlying29, Tryz.underlying31, Tryz.underlying33, Tryz.underlying60] at sh1
  obtain ⟨_, _, rfl, ⟨a1_0, rfl, wa1_0⟩, _, _, rfl, ⟨a1_1, rfl, wa1_1⟩, _, _, rfl, ⟨xa1_2, rfl, hha1_2⟩, _, _, rfl, ⟨_, _, rfl, ⟨a1_3, rfl, wa1_3⟩, _, _, rfl, ⟨a1_4, rfl, wa1_4⟩, _, _, rfl, ⟨a1_5, rfl, wa1_5⟩, _, _, rfl, ⟨a1_6, rfl, wa1_6⟩, rfl⟩, rfl⟩ := sh1
  have ba1_0 := bounds_i64 wa1_0
  obtain ⟨a1_2, ea1_2, la1_2⟩ := atts_of3 (ts := xa1_2) (fun x hx => by
    have hs := hha1_2 x hx
    simp only [Shape, shapeF, Tryz.underlying3, Tryz.underlying9, Tryz.underlying60] at hs
    obtain ⟨_, _, rfl, ⟨n, rfl, w⟩, _, _, rfl, ⟨s, rfl, w2⟩, rfl⟩ := hs
    exact ⟨n, s, rfl⟩)
  rw [ea1_2, ← la1_2] at pv1
  obtain ⟨⟨⟨a2⟩⟩, rfl, rfl, rfl, y2⟩ := open_string Tryz.underlying9 (hval 2 9 v2 rfl rfl) h2
  obtain ⟨⟨⟨a3⟩⟩, rfl, rfl, rfl, y3⟩ := open_string Tryz.underlying9 (hval 3 9 v3 rfl rfl) h3
  obtain ⟨ml, hg⟩ := globs hL hsh
  refine (calls_of_ret (blockTells39 (ml := ml) a0 ⟨a1_0, a1_1, a1_2, ⟨a1_3, a1_4, a1_5, a1_6⟩⟩ a2 a3 (show List.length a1_1 ≤ 9223372036854775807 by omega)) hg (vals := [.string ⟨⟨a0⟩⟩, .agg ⟨cs1⟩, .string ⟨⟨a2⟩⟩, .string ⟨⟨a3⟩⟩]) (by simp only [PVs, PV]; exact ⟨_, _, rfl, rfl, ⟨_, _, rfl, ⟨_, rfl, pv1⟩, ⟨_, _, rfl, rfl, ⟨_, _, rfl, rfl, rfl⟩⟩⟩⟩)).mono fun e W' hx => ?_
  obtain ⟨v, I', ρ', rfl, hv, bel⟩ := hx
  have hv : v = .bool true := hv
  subst hv
  exact ⟨_, rfl, _, _, _, [], _, [], hW', trodAll_mk1 (shut_bool Tryz.underlying4 _), (trodAll_cons_mk (shut_string Tryz.underlying9 y0) (trodAll_cons_mk (Below.trod laidOut (by kernel_rfl) (of_decide_eq_true (by kernel_rfl)) k1 bel lt1) (trodAll_cons_mk (shut_string Tryz.underlying9 y2) (trodAll_cons_mk (shut_string Tryz.underlying9 y3) trodAll_mk0)))), rfl, bel.frame _, fun h => by cases h⟩
theorem j0 : ((Rows.blockTellsRow.inPlace == Tryz.pinned.checked.prog.inPlace 4)) = true := by kernel_rfl
theorem j1 : ((Rows.blockTellsRow.unfollowed == Tryz.pinned.checked.prog.unfollowed 4)) = true := by kernel_rfl
theorem j2 : ((Rows.blockTellsRow.recurses == Tryz.pinned.checked.prog.recurses 4)) = true := by kernel_rfl
theorem j3 : ((Rows.blockTellsRow.named == Tryz.pinned.checked.prog.varsNamed 4)) = true := by kernel_rfl
theorem j4 : (laidOutB Tryz.pinned.checked.prog) = true := by kernel_rfl
theorem j5 : (mapsRowed Tryz.pinned.checked.prog) = true := by kernel_rfl
theorem j6 : (Tryz.pinned.checked.prog.stopsHeard) = true := by kernel_rfl
theorem j7 : (Tryz.pinned.checked.prog.mayEnter) = true := by kernel_rfl
theorem j8 : ((Rows.blockTellsRow.lifted == Tryz.pinned.checked.prog.liftsFinal)) = true := by kernel_rfl
theorem j9 : (namedTie Tryz.pinned.checked.prog Rows.blockTellsRow.named Rows.blockTellsSpec.vars) = true := by kernel_rfl
theorem joined : joinedFacts Tryz.pinned.checked.prog 4 Tryz.f4 Rows.blockTellsSpec Rows.blockTellsRow = true := by
  unfold joinedFacts
  rw [j0, j1, j2, j3, j4, j5, j6, j7, j8, j9]
  kernel_rfl
theorem over : Rows.blockTellsRow.holds Tryz.pinned (OpenSpec.ofChange Rows.blockTellsSpec) :=
  OpenClaim.holds_of_wide 4 Tryz.f4 rfl rfl rfl rfl rfl rfl rfl ⟨rfl, rfl, rfl, rfl, rfl⟩ rfl rfl rfl rfl rfl (by kernel_rfl) Tryz.func4 joined
    (of_decide_eq_true (by kernel_rfl)) (by unfold Func.isWrapper; first | (rw [if_pos (by decide +kernel)]; kernel_rfl) | (rw [if_neg (by decide +kernel)]; exact ⟨rfl, rfl⟩))
    (fun os started H enc _ => lifted os started H enc)
theorem card_holds : Claim7.holds Tryz.pinned (.plain (OpenSpec.ofChange Rows.blockTellsSpec)) Rows.blockTellsCard :=
  Claim7.holds_tied_plain_at .later [] [.data, .data, .data, .data, .sentinel, .sentinel, .pinned] true (true, "18406105b11ea69bc28bda5a343805cdf59e5533b8e342c33163eb13ffb9a0ee") true over (fun _ h => by cases h) (by as_aux_lemma => kernel_rfl) (fun _ h => by cases h) blockTells_row_tie rfl ⟨rfl, rfl⟩ (by as_aux_lemma => kernel_rfl) rfl
    (fun f fn hf hfn => by
      obtain rfl : f = 4 := Option.some.inj ((show Tryz.prog.funcNamed "claviger/clavigerlaw39.BlockTells" = some 4 by as_aux_lemma => kernel_rfl).symm.trans hf) |>.symm
      obtain rfl : fn = Tryz.f4 := (Option.some.inj (Tryz.func4.symm.trans hfn)).symm
      exact ⟨by as_aux_lemma => kernel_rfl, fun j t ht => by
        rw [Tryz.params4] at ht
        have hm : t ∈ [9, 33, 9, 9] := by simpa using Array.mem_of_getElem? ht
        have hall : ([9, 33, 9, 9].all fun u => !Tryz.prog.wantsStandIn u) = true := by as_aux_lemma => kernel_rfl
        exact (show Tryz.prog.wantsStandIn t = false by simpa using List.all_eq_true.1 hall t hm)⟩)
    (by as_aux_lemma => kernel_rfl)
end Go.Proofs.YtipomdmlkkifcaaGreatDoor.blockTells
namespace Go.Proofs.YtipomdmlkkifcaaGreatDoor
/-- The card, under a short name, for the claim. -/
theorem blockTells_holds : Rows.BlockTellsCardSaid := blockTells.card_holds
#print axioms blockTells_holds
end Go.Proofs.YtipomdmlkkifcaaGreatDoor
