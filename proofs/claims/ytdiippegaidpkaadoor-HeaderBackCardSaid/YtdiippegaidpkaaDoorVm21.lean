/- The symbolic machine, part 21: what a function's end may be made weaker by: an object frozen. -/
import Derived.Test.YtdiippegaidpkaaDoorVm20
set_option linter.unusedSimpArgs false
set_option linter.unnecessarySimpa false
set_option linter.unusedVariables false
namespace Go.Proofs.YtdiippegaidpkaaDoor.Vm
open Go Go.Proofs
section
variable {P : Program} {C : Ctx} {nt : Nat} {kp : List Nat} {Φ Φ' : APost}
theorem KK_mono {Q Q' : Exit → Act → World → Prop} (h : ∀ x a w, Q x a w → Q' x a w) : ∀ {k : List Item} {x : Exit} {a : Act} {w : World}, KK P Q k x a w → KK P Q' k x a w
  | [], x, a, w, hk => h x a w hk
  | .code c :: k, x, a, w, hk => by
    unfold KK Exit.then at hk ⊢
    cases x with
    | normal => exact wp_mono hk fun x a w h' => KK_mono h h'
    | _ => exact KK_mono h hk
  | .blk id :: k, x, a, w, hk => by
    unfold KK Exit.inBlock at hk ⊢
    cases x with
    | exit id' =>
      simp only at hk ⊢
      split <;> (rename_i e; first | rw [if_pos e] at hk | rw [if_neg e] at hk | skip) <;> exact KK_mono h (by simpa [*] using hk)
    | _ => exact KK_mono h hk
/-- An end at which an object is frozen first. -/
def FrzP (id : Nat) (Φ : APost) : APost := fun x e h ds => ds = [] ∧ ∃ e' h', frz id e h = some (e', h') ∧ Φ x e' h' []
theorem g_end_frz (id : Nat) {k : List Item} {e : Env} {h : Heap} {ds : Ds} (g : G P C nt kp (FrzP id Φ) k e h ds) : G P C nt kp Φ k e h ds :=
  fun hk E ρ I a w hE hp sr => KK_mono (fun x a w hq => by
    obtain ⟨e1, h1, ds1, ρ1, I1, sr1, rfl, e2, h2, hz, hx⟩ := hq
    obtain ⟨I2, sr2⟩ := frz_sr hz sr1
    exact ⟨e2, h2, [], ρ1, I2, sr2, hx⟩) (g hk E ρ I a w hE hp sr)
end
end Go.Proofs.YtdiippegaidpkaaDoor.Vm
