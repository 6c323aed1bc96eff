/- HeaderBack: WHATEVER THE INPUT, the law answers true and leaves its arguments as they read. No condition but the row's own: the listed variables read as the program's text lays them (the card ties them). -/
import Derived.Test.YtdiippegaidpkaaDoorRows
import Derived.Test.YtdiippegaidpkaaDoorTie
import Derived.Test.YtdiippegaidpkaaDoorCards
import Derived.Test.YtdiippegaidpkaaDoorRow1
import Derived.Test.YtdiippegaidpkaaDoorLaw31
import Derived.Lay
set_option linter.unusedVariables false
namespace Go.Proofs.YtdiippegaidpkaaDoor.headerBack
open Go Go.Proofs Go.Proofs.YtdiippegaidpkaaDoor.Vm Go.ChangeShapes Go.WideShapes Go.ChangeAt Go.RowKit
open Go.ChangeMaps (open_string shut_string)
theorem laidOut : laidOutB Tryd.prog = true := by kernel_rfl
theorem own : ownKnob Tryd.prog.godebug = none := by kernel_rfl
abbrev laid : List (String × DataW Unit) := Rows.headerBackRow.laid
theorem door_met (os : Os) (args : Array Value) : laidMetH Tryd.prog laid ((World.laidAll Tryd.prog os laid).forCall (fun _ _ => 0) ⟨#[], args, []⟩).memory := by
  rw [MakeChecks.laidMetH_plain _ _ _ (by kernel_rfl)]; exact laidMet_laidAll _ (by kernel_rfl) (by kernel_rfl)
theorem star : "*" ++ "errors.errorString" = "*errors.errorString" := by decide
theorem row_es (u : TypeId) (h : Tryd.prog.typeName? 3 u = some "*errors.errorString") : u = 123 :=
  typeName_ptr_named (nm := "errors.errorString") (by rw [star]; kernel_rfl) (by kernel_rfl) (by decide) u (by rw [star]; exact h)
theorem globs {W : World} (h : laidMetH Tryd.prog laid W) (hsh : W.ShapedOpen Tryd.prog) : ∃ ml, GlobOk (C ml) W.cell? := by
  rw [MakeChecks.laidMetH_plain _ _ _ (by kernel_rfl)] at h
  have m0 : laidMet Tryd.prog laid W := h
  have m1 := m0.tail
  have m2 := m1.tail
  have m3 := m2.tail
  have m4 := m3.tail
  have m5 := m4.tail
  have m6 := m5.tail
  obtain ⟨ml, hml⟩ := cell_of_shapedOpen_int (P := Tryd.prog) (g := 0) (t := 3) (zero := #[.int .i64 0]) hsh (of_decide_eq_true (by kernel_rfl)) (by kernel_rfl) rfl (by kernel_rfl) (by kernel_rfl) Tryd.underlying3
  have p0 : PV W.cell? (.rp [.i .i64 ml] 0) (.pointer (some ⟨0, 0, none⟩)) := ⟨0, 0, _, by simp, ⟨_, _, rfl, rfl, rfl⟩, rfl, fun j v hj => by cases j with | zero => (simp only [List.getElem?_cons_zero, Option.some.injEq] at hj; subst hj; exact hml) | succ j => simp at hj⟩
  have p3 := laid_glob (n := 8) (ts := gFirst) m6 (show Tryd.prog.globalNamed "unicode/utf8.first" = some 3 by kernel_rfl) (show (Tryd.prog.globals[3]?).map (·.type) = some 118 by kernel_rfl) (by kernel_rfl)
  have p4 := laid_glob (n := 8) (ts := gAccept) m3 (show Tryd.prog.globalNamed "unicode/utf8.acceptRanges" = some 4 by kernel_rfl) (show (Tryd.prog.globals[4]?).map (·.type) = some 121 by kernel_rfl) (by kernel_rfl)
  have p5 := laid_glob (n := 8) (ts := gPow10) m2 (show Tryd.prog.globalNamed "internal/strconv.uint64pow10" = some 5 by kernel_rfl) (show (Tryd.prog.globals[5]?).map (·.type) = some 127 by kernel_rfl) (by kernel_rfl)
  have p1 := laid_err m5 (show Tryd.prog.globalNamed "strconv.ErrSyntax" = some 1 by kernel_rfl) (show (Tryd.prog.globals[1]?).map (·.type) = some 56 by kernel_rfl) Tryd.underlying56 row_es Tryd.underlying123 Tryd.underlying125 rfl rfl Tryd.underlying9 (show Tryd.prog.cellsOf 125 = 1 by kernel_rfl) (show Tryd.prog.cellsOf 9 = 1 by kernel_rfl)
  have p2 := laid_err m4 (show Tryd.prog.globalNamed "strconv.ErrRange" = some 2 by kernel_rfl) (show (Tryd.prog.globals[2]?).map (·.type) = some 56 by kernel_rfl) Tryd.underlying56 row_es Tryd.underlying123 Tryd.underlying125 rfl rfl Tryd.underlying9 (show Tryd.prog.cellsOf 125 = 1 by kernel_rfl) (show Tryd.prog.cellsOf 9 = 1 by kernel_rfl)
  refine ⟨ml, globOk_of ?_⟩
  intro x hx
  simp only [C, List.mem_cons, List.not_mem_nil, or_false] at hx
  rcases hx with rfl | rfl | rfl | rfl | rfl | rfl
  · exact p0
  · exact p3
  · exact p4
  · exact p5
  · exact p1
  · exact p2
set_option maxRecDepth 100000 in
theorem lifted (os : Os) (started : os.Started) (H : Type) (enc : TypeId × Value → H) :
    ReturnsInHanded {} Tryd.checked os 7 .any (fun w args => (Rows.headerBackSpec.pre enc Tryd.prog Tryd.f7 [] false w args ∧ laidMetH Tryd.prog laid w) ∧ sizedMet enc Tryd.prog Tryd.f7 (OpenSpec.ofChange Rows.headerBackSpec) false w args)
      (Rows.headerBackSpec.post enc Tryd.prog Tryd.f7 false true false false) := by
  refine returns_law (C := Tryd.checked) (X := fun w _ => laidMetH Tryd.prog laid w) (fun _ _ _ hh h => h.of_heap hh) own started (by kernel_rfl) Tryd.func7
    (ChangeSpec.witness_shaped (enc := enc) (C := Tryd.checked) (os := os) (X := fun w _ => laidMetH Tryd.prog laid w) false (World.laidAll Tryd.prog os laid) #[.agg #[.int .i64 0, .string ByteArray.empty, .int .i64 0, .string ByteArray.empty, .string ByteArray.empty, .string ByteArray.empty, .string ByteArray.empty], .string ByteArray.empty, .string ByteArray.empty] 8 (World.laidAll_os _ _ _) (World.shaped_of_ZipB (by kernel_rfl) (by kernel_rfl)) (by kernel_rfl) (by kernel_rfl) (by kernel_rfl) (door_met os _)) ?_
  intro W base args ds gs before hval0 hW hsz hL hsh
  have hval : ∀ (j : Nat) t v, Tryd.f7.params[j]? = some t → args[j]? = some v → Value.okWide Tryd.prog W .any base t v := hval0
  have hW' := hW
  obtain ⟨p, q, hA0, hV, rfl, hfz, hnd⟩ := hW
  have hA : DataW.TrodAll enc Tryd.prog W 0 (fun _ => true) true Tryd.f7.params.toList args.toList ds p := hA0
  rw [Tryd.params7] at hA hval
  obtain ⟨v0, vs0, d0, ds0, p0, q0, hargs, rfl, rfl, h0, r0⟩ := trodAll_cons hA
  obtain ⟨v1, vs1, d1, ds1, p1, q1, rfl, rfl, rfl, h1, r1⟩ := trodAll_cons r0
  obtain ⟨v2, vs2, d2, ds2, p2, q2, rfl, rfl, rfl, h2, r2⟩ := trodAll_cons r1
  obtain ⟨rfl, rfl, rfl⟩ := trodAll_nil r2
  obtain rfl : args = #[v0, v1, v2] := by cases args; simp_all
  obtain ⟨rfl, rfl⟩ := trodVars_none hV
  have k0 := h0
  have lt0 := trod_old h0
  obtain ⟨cs0, ts0, rfl, pv0, sh0⟩ := open_struct Tryd.underlying37 (hval 0 37 v0 rfl rfl) h0 (by kernel_rfl)
  simp only [Shape, shapeF, Tryd.underlying3, Tryd.underlying9, Tryd.underlying35, Tryd.underlying37] at sh0
  obtain ⟨_, _, rfl, ⟨a0_0, rfl, wa0_0⟩, _, _, rfl, ⟨a0_1, rfl, wa0_1⟩, _, _, rfl, ⟨a0_2, rfl, wa0_2⟩, _, _, rfl, ⟨_, _, rfl, ⟨a0_3, rfl, wa0_3⟩, _, _, rfl, ⟨a0_4, rfl, wa0_4⟩, _, _, rfl, ⟨a0_5, rfl, wa0_5⟩, _, _, rfl, ⟨a0_6, rfl, wa0_6⟩, rfl⟩, rfl⟩ := sh0
  have ba0_0 := bounds_i64 wa0_0
  have ba0_2 := bounds_i64 wa0_2
  obtain ⟨⟨⟨a1⟩⟩, rfl, rfl, rfl, y1⟩ := open_string Tryd.underlying9 (hval 1 9 v1 rfl rfl) h1
  obtain ⟨⟨⟨a2⟩⟩, rfl, rfl, rfl, y2⟩ := open_string Tryd.underlying9 (hval 2 9 v2 rfl rfl) h2
  obtain ⟨ml, hg⟩ := globs hL hsh
  refine (calls_of_ret (headerBack31 (ml := ml) ⟨a0_0, a0_1, a0_2, ⟨a0_3, a0_4, a0_5, a0_6⟩⟩ a1 a2 ba0_0.1 ba0_0.2 ba0_2.1 ba0_2.2) hg (vals := [.agg ⟨cs0⟩, .string ⟨⟨a1⟩⟩, .string ⟨⟨a2⟩⟩]) (by simp only [PVs, PV]; exact ⟨_, _, rfl, ⟨_, rfl, pv0⟩, ⟨_, _, rfl, rfl, ⟨_, _, rfl, rfl, rfl⟩⟩⟩)).mono fun e W' hx => ?_
  obtain ⟨v, I', ρ', rfl, hv, bel⟩ := hx
  have hv : v = .bool true := hv
  subst hv
  exact ⟨_, rfl, _, _, _, [], _, [], hW', trodAll_mk1 (shut_bool Tryd.underlying4 _), (trodAll_cons_mk (Below.trod laidOut (by kernel_rfl) (of_decide_eq_true (by kernel_rfl)) k0 bel lt0) (trodAll_cons_mk (shut_string Tryd.underlying9 y1) (trodAll_cons_mk (shut_string Tryd.underlying9 y2) trodAll_mk0))), rfl, bel.frame _, fun h => by cases h⟩
theorem over : Rows.headerBackRow.holds Tryd.pinned (OpenSpec.ofChange Rows.headerBackSpec) :=
  OpenClaim.holds_of_wide 7 Tryd.f7 rfl rfl rfl rfl rfl rfl rfl ⟨rfl, rfl, rfl, rfl, rfl⟩ rfl rfl rfl rfl rfl (by kernel_rfl) Tryd.func7 (by kernel_rfl)
    (of_decide_eq_true (by kernel_rfl)) (by unfold Func.isWrapper; first | (rw [if_pos (by decide +kernel)]; kernel_rfl) | (rw [if_neg (by decide +kernel)]; exact ⟨rfl, rfl⟩))
    (fun os started H enc _ => lifted os started H enc)
theorem card_holds : Claim7.holds Tryd.pinned (.plain (OpenSpec.ofChange Rows.headerBackSpec)) Rows.headerBackCard :=
  Claim7.holds_tied_plain_at .later [] [.data, .data, .data, .data, .sentinel, .sentinel, .pinned] true (true, "8a56563ab3c77031e147f6dbb62ab9f0171e2fa6e927b95a3beedcd0d0c69103") true over (fun _ h => by cases h) (by kernel_rfl) (fun _ h => by cases h) headerBack_row_tie rfl ⟨rfl, rfl⟩ (by kernel_rfl) rfl
    (fun f fn hf hfn => by
      obtain rfl : f = 7 := Option.some.inj ((show Tryd.prog.funcNamed "claviger/clavigerlaw31.HeaderBack" = some 7 by kernel_rfl).symm.trans hf) |>.symm
      obtain rfl : fn = Tryd.f7 := (Option.some.inj (Tryd.func7.symm.trans hfn)).symm
      exact ⟨by kernel_rfl, fun j t ht => by
        rw [Tryd.params7] at ht
        have hm : t ∈ [37, 9, 9] := by simpa using Array.mem_of_getElem? ht
        have hall : ([37, 9, 9].all fun u => !Tryd.prog.wantsStandIn u) = true := by kernel_rfl
        exact (show Tryd.prog.wantsStandIn t = false by simpa using List.all_eq_true.1 hall t hm)⟩)
    (by kernel_rfl)
end Go.Proofs.YtdiippegaidpkaaDoor.headerBack
namespace Go.Proofs.YtdiippegaidpkaaDoor
/-- The card, under a short name, for the claim. -/
theorem headerBack_holds : Rows.HeaderBackCardSaid := headerBack.card_holds
#print axioms headerBack_holds
end Go.Proofs.YtdiippegaidpkaaDoor
