/- The symbolic machine, part 5: each operation does in Go's model what it does here. Numbers, strings, conversions. -/
import Derived.Test.YtdiippegaidpkaaDoorVm4
import Derived.Laws.Concat
import Derived.Laws.Slices
import Derived.Laws.Strings2
set_option linter.unusedVariables false
set_option linter.unusedSimpArgs false
namespace Go.Proofs.YtdiippegaidpkaaDoor.Vm
open Go
theorem toList_mk (l : List UInt8) : (ByteArray.mk ⟨l⟩).toList = l := by rw [ByteArray.toList_eq]
theorem size_mk (l : List UInt8) : (ByteArray.mk ⟨l⟩).size = l.length := rfl
/-- What is got out of the machine's own answer. -/
theorem okq_inv {t : T} {q : Prop} {r : AR} (h : okq t q = some r) : r.t = t ∧ r.d = [] ∧ r.q = [q] := by cases h; exact ⟨rfl, rfl, rfl⟩
theorem ok_inv {t : T} {r : AR} (h : ok t = some r) : r.t = t ∧ r.d = [] ∧ r.q = [] := by cases h; exact ⟨rfl, rfl, rfl⟩
theorem cur_inv {hl : Objs} {id g : Nat} (h : cur hl id g = true) : ∃ pu esz cs, hl id = some (g, .row pu esz cs) := by
  unfold cur at h
  split at h
  · rename_i g' pu esz cs e; exact ⟨pu, esz, cs, by rw [e, Nat.eq_of_beq_eq_true h]⟩
  · simp at h
theorem oku_inv {hl : Objs} {id g : Nat} {t : T} {q : List Prop} {r : AR} (h : oku hl id g t q = some r) : r.t = t ∧ r.d = [] ∧ r.q = q ∧ ∃ pu esz cs, hl id = some (g, .row pu esz cs) := by
  unfold oku at h
  split at h
  · rename_i hc; cases h; exact ⟨rfl, rfl, rfl, cur_inv hc⟩
  · simp at h
/-- An operation that yields a value and changes nothing. -/
def Yv (P : Program) (ρ : Place) (hf : Objs) (I : Mem) (r : AR) (s : Sem Value) (w : World) : Prop := r.d = [] ∧ ∃ v, s.run P w = .ok v w ∧ VR ρ hf I r.t v
section
variable {P : Program} {C : Ctx} {ρ : Place} {hf : Objs} {I : Mem} {w : World}

theorem binI_ok {op : BinOp} {k : IntKind} {x y : Int} {ty : TypeId} {X Y : Operand} {r : AR} (h : binI op k x y = some r) (hq : ∀ p ∈ r.q, p) :
    Yv P ρ hf I r (do eqGuard op ty X Y (.int k x) (.int k y); binOp op ty (.int k x) (.int k y)) w := by
  cases op <;> simp only [binI] at h <;> first
    | (cases h; done)
    | (obtain ⟨h1, h2, h3⟩ := ok_inv h; refine ⟨h2, ?_⟩; rw [h1]
       exact ⟨_, by simp [eqGuard, binOp, Op.intArith, Op.intBits, Op.intCmp, bitsI]; rfl, by simp [VR, bitsI]⟩)
    | (obtain ⟨h1, h2, h3⟩ := okq_inv h; refine ⟨h2, ?_⟩; rw [h1]
       have hy : y ≠ 0 := hq _ (by rw [h3]; simp)
       exact ⟨_, by simp [eqGuard, binOp, Op.intDiv, hy]; rfl, by simp [VR]⟩)
theorem shiftI_ok {op : BinOp} {k k' : IntKind} {x y : Int} {ty : TypeId} {X Y : Operand} {r : AR} (h : shiftI op k x y = some r) (hq : ∀ p ∈ r.q, p) :
    Yv P ρ hf I r (do eqGuard op ty X Y (.int k x) (.int k' y); binOp op ty (.int k x) (.int k' y)) w := by
  cases op <;> simp only [shiftI] at h <;> first
    | (cases h; done)
    | (obtain ⟨h1, h2, h3⟩ := okq_inv h; refine ⟨h2, ?_⟩; rw [h1]
       have hy : 0 ≤ y := hq _ (by rw [h3]; simp)
       have hy' : ¬ y < 0 := by omega
       exact ⟨_, by simp [eqGuard, binOp, Op.shift, hy']; rfl, by simp [VR]⟩)
theorem binS_ok {op : BinOp} {x y : List UInt8} {ty : TypeId} {X Y : Operand} {r : AR} (h : binS op x y = some r) (hq : ∀ p ∈ r.q, p) :
    Yv P ρ hf I r (do eqGuard op ty X Y (.string ⟨⟨x⟩⟩) (.string ⟨⟨y⟩⟩); binOp op ty (.string ⟨⟨x⟩⟩) (.string ⟨⟨y⟩⟩)) w := by
  cases op <;> simp only [binS] at h <;> first
    | (cases h; done)
    | (obtain ⟨h1, h2, h3⟩ := ok_inv h; refine ⟨h2, ?_⟩; rw [h1]
       exact ⟨_, by simp [eqGuard, binOp, Op.stringOp, toList_mk]; rfl, by simp [VR]⟩)
    | (obtain ⟨h1, h2, h3⟩ := okq_inv h; refine ⟨h2, ?_⟩; rw [h1]
       have hy : x.length + y.length ≤ 9223372036854775807 := hq _ (by rw [h3]; simp)
       have e := run_string_add_sum (P := P) w ⟨⟨x⟩⟩ ⟨⟨y⟩⟩ (by rw [size_mk, size_mk]; exact hy)
       refine ⟨_, by simp only [eqGuard, binOp, Sem.run_bind]; simp [e]; rfl, ?_⟩
       simp only [VR]; rw [ByteArray.mk_append_mk])
theorem binF_ok {op : BinOp} {k : FloatKind} {x y : Nat} {ty : TypeId} {X Y : Operand} {r : AR} (h : binF op k x y = some r) (hq : ∀ p ∈ r.q, p) :
    Yv P ρ hf I r (do eqGuard op ty X Y (.float k x) (.float k y); binOp op ty (.float k x) (.float k y)) w := by
  cases op <;> simp only [binF] at h <;> first
    | (cases h; done)
    | (obtain ⟨h1, h2, h3⟩ := ok_inv h; refine ⟨h2, ?_⟩; rw [h1]
       exact ⟨_, by simp [eqGuard, binOp, Op.floatCmp]; rfl, by simp [VR]⟩)

theorem eqIn_bool {ty : TypeId} {x y : Bool} (hk : P.underlying ty = some .bool) (d : Nat) : (Op.equalIn (d + 1) ty (.bool x) (.bool y)).run P w = .ok (x == y) w := by
  simp [Op.equalIn, run_underlying hk]
theorem eqIn_ptr {ty e : TypeId} {a : Option Addr} (hk : P.underlying ty = some (.pointer e)) (d : Nat) : (Op.equalIn (d + 1) ty (.pointer a) (.pointer none)).run P w = .ok a.isNone w := by
  cases a <;> simp [Op.equalIn, run_underlying hk]
theorem eqIn_nils {ty e : TypeId} (hk : P.underlying ty = some (.slice e)) (d : Nat) : (Op.equalIn (d + 1) ty (.slice none 0 0) (.slice none 0 0)).run P w = .ok true w := by
  simp [Op.equalIn, run_underlying hk]
theorem eq_eql {ty : TypeId} {x y : Value} {b : Bool} (h : (Op.equalIn (9999 + 1) ty x y).run P w = .ok b w) : (Op.equal ty x y).run P w = .ok b w := h
theorem bool_eql {ty : TypeId} {X Y : Operand} {x y : Bool} (hk : P.underlying ty = some .bool) :
    (do eqGuard .eql ty X Y (.bool x) (.bool y); binOp .eql ty (.bool x) (.bool y)).run P w = .ok (.bool (x == y)) w := by
  simp only [eqGuard, binOp, Sem.run_bind]; simp [eq_eql (eqIn_bool (w := w) (x := x) (y := y) hk 9999)]
theorem bool_neq {ty : TypeId} {X Y : Operand} {x y : Bool} (hk : P.underlying ty = some .bool) :
    (do eqGuard .neq ty X Y (.bool x) (.bool y); binOp .neq ty (.bool x) (.bool y)).run P w = .ok (.bool (!(x == y))) w := by
  simp only [eqGuard, binOp, Sem.run_bind]; simp [eq_eql (eqIn_bool (w := w) (x := x) (y := y) hk 9999)]
theorem nilp_eql {ty e : TypeId} {X Y : Operand} {a : Option Addr} (hk : P.underlying ty = some (.pointer e)) :
    (do eqGuard .eql ty X Y (.pointer a) (.pointer none); binOp .eql ty (.pointer a) (.pointer none)).run P w = .ok (.bool a.isNone) w := by
  simp only [eqGuard, binOp, Sem.run_bind]; simp [eq_eql (eqIn_ptr (w := w) (a := a) hk 9999)]
theorem nilp_neq {ty e : TypeId} {X Y : Operand} {a : Option Addr} (hk : P.underlying ty = some (.pointer e)) :
    (do eqGuard .neq ty X Y (.pointer a) (.pointer none); binOp .neq ty (.pointer a) (.pointer none)).run P w = .ok (.bool (!a.isNone)) w := by
  simp only [eqGuard, binOp, Sem.run_bind]; simp [eq_eql (eqIn_ptr (w := w) (a := a) hk 9999)]
theorem nils_eql {ty e : TypeId} {X Y : Operand} (hk : P.underlying ty = some (.slice e)) :
    (do eqGuard .eql ty X Y (.slice none 0 0) (.slice none 0 0); binOp .eql ty (.slice none 0 0) (.slice none 0 0)).run P w = .ok (.bool true) w := by
  simp only [eqGuard, binOp, Sem.run_bind]; simp [eq_eql (eqIn_nils (w := w) hk 9999)]
theorem nils_neq {ty e : TypeId} {X Y : Operand} (hk : P.underlying ty = some (.slice e)) :
    (do eqGuard .neq ty X Y (.slice none 0 0) (.slice none 0 0); binOp .neq ty (.slice none 0 0) (.slice none 0 0)).run P w = .ok (.bool false) w := by
  simp only [eqGuard, binOp, Sem.run_bind]; simp [eq_eql (eqIn_nils (w := w) hk 9999)]
theorem VR_p {id g off : Nat} {v : Value} {pu : Bool} {esz : Mk} {cs : List T} (h : VR ρ hf I (.p id g off) v) (hi : hf id = some (g, .row pu esz cs)) :
    v = .pointer (some ⟨(ρ id).1, off, none⟩) := by
  simp only [VR] at h
  obtain ⟨_, g', o, e, _, hr⟩ := h
  rw [hi] at e; simp only [Option.some.injEq, Prod.mk.injEq] at e; obtain ⟨rfl, rfl⟩ := e
  exact hr rfl (by simp)
theorem VR_ref {id g off n : Nat} {v : Value} {pu : Bool} {esz : Mk} {cs : List T} (h : VR ρ hf I (.ref id g off n) v) (hi : hf id = some (g, .row pu esz cs)) :
    ∃ b cap, v = .slice (some ⟨(ρ id).1, b, none⟩) n cap ∧ (b = off ∨ cap = 0) ∧ b + cap * szOf esz ≤ (ρ id).2 ∧ n ≤ cap := by
  simp only [VR] at h
  obtain ⟨_, g', o, e, _, hr⟩ := h
  rw [hi] at e; simp only [Option.some.injEq, Prod.mk.injEq] at e; obtain ⟨rfl, rfl⟩ := e
  exact hr rfl _ _ _ rfl
theorem VR_p_mk {id g off : Nat} {pu : Bool} {esz : Mk} {cs : List T} (hi : hf id = some (g, .row pu esz cs)) :
    VR ρ hf I (.p id g off) (.pointer (some ⟨(ρ id).1, off, none⟩)) := by
  simp only [VR]; exact ⟨rfl, g, _, hi, Nat.le_refl _, fun _ _ => trivial⟩
theorem bin_ok {op : BinOp} {x y : T} {ty : TypeId} {X Y : Operand} {vx vy : Value} {or : Or} {r : AR} (hT : TabOk P C)
    (h : bin hf op (tin C ty).k x y or (Says P op ty X Y x y) = some r) (hq : ∀ p ∈ r.q, p) (hx : VR ρ hf I x vx) (hy : VR ρ hf I y vy) :
    Yv P ρ hf I r (do eqGuard op ty X Y vx vy; binOp op ty vx vy) w := by
  have hk := (hT ty).1
  generalize (tin C ty).k = k at h hk
  unfold bin at h
  split at h
  · simp only [VR] at hx hy; subst hx; subst hy
    split at h
    · exact shiftI_ok h hq
    · exact shiftI_ok h hq
    · split at h
      · rename_i hb; obtain rfl := ikN_inj (Nat.eq_of_beq_eq_true hb); exact binI_ok h hq
      · cases h
  · simp only [VR] at hx hy; subst hx; subst hy; exact binS_ok h hq
  · simp only [VR] at hx hy; subst hx; subst hy
    split at h
    · cases h
    · rename_i hb; obtain rfl := fkN_inj (Nat.eq_of_beq_eq_true hb)
      split at h
      · obtain ⟨h1, h2, h3⟩ := okq_inv h
        have hy : _ = _ := hq _ (by rw [h3]; exact List.mem_singleton.2 rfl)
        exact ⟨h2, _, by simp only [eqGuard, binOp, Sem.run_bind, Op.floatArith]; simp [hy]; rfl, by rw [h1]; simp [VR]⟩
      · obtain ⟨h1, h2, h3⟩ := okq_inv h
        have hy : _ = _ := hq _ (by rw [h3]; exact List.mem_singleton.2 rfl)
        exact ⟨h2, _, by simp only [eqGuard, binOp, Sem.run_bind, Op.floatArith]; simp [hy]; rfl, by rw [h1]; simp [VR]⟩
      · exact binF_ok h hq
  · simp only [VR] at hx hy; subst hx; subst hy
    split at h
    · cases h
    · rename_i hb; obtain rfl := fkN_inj (Nat.eq_of_beq_eq_true hb)
      split at h
      · obtain ⟨h1, h2, h3⟩ := okq_inv h
        obtain ⟨e1, e2⟩ : _ ∧ _ := hq _ (by rw [h3]; exact List.mem_singleton.2 rfl)
        exact ⟨h2, _, by simp only [eqGuard, binOp, Sem.run_bind, Op.complexOp, Op.Complex.arith, Op.floatArith]; simp [e1, e2]; rfl, by rw [h1]; simp [VR]⟩
      · obtain ⟨h1, h2, h3⟩ := okq_inv h
        obtain ⟨e1, e2⟩ : _ ∧ _ := hq _ (by rw [h3]; exact List.mem_singleton.2 rfl)
        exact ⟨h2, _, by simp only [eqGuard, binOp, Sem.run_bind, Op.complexOp, Op.Complex.arith, Op.floatArith]; simp [e1, e2]; rfl, by rw [h1]; simp [VR]⟩
      · obtain ⟨h1, h2, h3⟩ := ok_inv h
        rw [Yv, h1]
        refine ⟨h2, _, by simp [eqGuard, binOp, Op.complexOp, Op.Complex.cmp, Op.floatCmp, asBool]; rfl, ?_⟩
        simp only [VR]
      · obtain ⟨h1, h2, h3⟩ := ok_inv h
        rw [Yv, h1]
        refine ⟨h2, _, by simp [eqGuard, binOp, Op.complexOp, Op.Complex.cmp, Op.floatCmp, asBool]; rfl, ?_⟩
        simp only [VR]; rw [Bool.not_and]
      · cases h
  · simp only [VR] at hx hy; subst hx; subst hy
    split at h <;> first
      | (obtain ⟨h1, h2, h3⟩ := ok_inv h; rw [Yv, h1]; exact ⟨h2, _, bool_eql hk, by simp [VR]⟩)
      | (obtain ⟨h1, h2, h3⟩ := ok_inv h; rw [Yv, h1]; exact ⟨h2, _, bool_neq hk, by simp [VR]⟩)
      | (cases h; done)
  · simp only [VR] at hx hy; subst hx; subst hy
    split at h <;> first
      | (obtain ⟨h1, h2, h3⟩ := ok_inv h; rw [Yv, h1]; exact ⟨h2, _, bool_eql hk, by simp [VR]⟩)
      | (obtain ⟨h1, h2, h3⟩ := ok_inv h; rw [Yv, h1]; exact ⟨h2, _, bool_neq hk, by simp [VR]⟩)
      | (cases h; done)
  · simp only [VR] at hx hy; subst hx; subst hy
    split at h <;> first
      | (obtain ⟨h1, h2, h3⟩ := ok_inv h; rw [Yv, h1]; exact ⟨h2, _, bool_eql hk, by simp [VR]⟩)
      | (obtain ⟨h1, h2, h3⟩ := ok_inv h; rw [Yv, h1]; exact ⟨h2, _, bool_neq hk, by simp [VR]⟩)
      | (cases h; done)
  · simp only [VR] at hx hy; subst hx; subst hy
    split at h <;> first
      | (obtain ⟨h1, h2, h3⟩ := ok_inv h; rw [Yv, h1]; exact ⟨h2, _, bool_eql hk, by simp [VR]⟩)
      | (obtain ⟨h1, h2, h3⟩ := ok_inv h; rw [Yv, h1]; exact ⟨h2, _, bool_neq hk, by simp [VR]⟩)
      | (cases h; done)
  · simp only [VR] at hx hy; subst hx; subst hy
    split at h <;> first
      | (obtain ⟨h1, h2, h3⟩ := ok_inv h; rw [Yv, h1]; exact ⟨h2, _, nilp_eql hk, by simp [VR]⟩)
      | (obtain ⟨h1, h2, h3⟩ := ok_inv h; rw [Yv, h1]; exact ⟨h2, _, nilp_neq hk, by simp [VR]⟩)
      | (cases h; done)
  · split at h
    · obtain ⟨h1, h2, h3, pu, esz, cs, hi⟩ := oku_inv h
      obtain rfl := VR_p hx hi
      simp only [VR] at hy; subst hy; rw [Yv, h1]; exact ⟨h2, _, nilp_eql hk, by simp [VR]⟩
    · obtain ⟨h1, h2, h3, pu, esz, cs, hi⟩ := oku_inv h
      obtain rfl := VR_p hx hi
      simp only [VR] at hy; subst hy; rw [Yv, h1]; exact ⟨h2, _, nilp_neq hk, by simp [VR]⟩
    · cases h
  · simp only [VR, PV] at hx hy
    obtain ⟨a, b, vs, rfl, _, _⟩ := hx
    subst hy
    split at h <;> first
      | (obtain ⟨h1, h2, h3⟩ := ok_inv h; rw [Yv, h1]; exact ⟨h2, _, nilp_eql hk, by simp [VR]⟩)
      | (obtain ⟨h1, h2, h3⟩ := ok_inv h; rw [Yv, h1]; exact ⟨h2, _, nilp_neq hk, by simp [VR]⟩)
      | (cases h; done)
  · simp only [VR] at hx hy; subst hx; subst hy
    split at h <;> first
      | (obtain ⟨h1, h2, h3⟩ := ok_inv h; rw [Yv, h1]; exact ⟨h2, _, nils_eql hk.1, by simp [VR]⟩)
      | (obtain ⟨h1, h2, h3⟩ := ok_inv h; rw [Yv, h1]; exact ⟨h2, _, nils_neq hk.1, by simp [VR]⟩)
      | (cases h; done)
  · split at h
    · obtain ⟨h1, h2, h3⟩ := okq_inv h
      have hs : Says _ _ _ _ _ _ _ _ := hq _ (by rw [h3]; exact List.mem_singleton.2 rfl)
      rw [Yv, h1]; exact ⟨h2, _, hs ρ hf I vx vy w hx hy, by simp [VR]⟩
    · obtain ⟨h1, h2, h3⟩ := okq_inv h
      have hs : Says _ _ _ _ _ _ _ _ := hq _ (by rw [h3]; exact List.mem_singleton.2 rfl)
      rw [Yv, h1]; exact ⟨h2, _, hs ρ hf I vx vy w hx hy, by simp [VR]⟩
    · cases h
theorem un_ok {op : UnOp} {x : T} {vx : Value} {r : AR} (h : aUn op x = some r) (hx : VR ρ hf I x vx) : Yv P ρ hf I r (Op.unary op vx) w := by
  unfold aUn at h
  split at h
  · obtain ⟨h1, h2, h3⟩ := ok_inv h; simp only [VR] at hx; subst hx; rw [Yv, h1]; exact ⟨h2, _, by simp [Op.unary, Op.intArith]; rfl, by simp [VR]⟩
  · obtain ⟨h1, h2, h3⟩ := ok_inv h; simp only [VR] at hx; subst hx; rw [Yv, h1]; exact ⟨h2, _, by simp [Op.unary, Op.intBits]; rfl, by simp [VR, bitsI]⟩
  · obtain ⟨h1, h2, h3⟩ := ok_inv h; simp only [VR] at hx; subst hx; rw [Yv, h1]; exact ⟨h2, _, by simp [Op.unary]; rfl, by simp [VR]⟩
  · obtain ⟨h1, h2, h3⟩ := ok_inv h; simp only [VR] at hx; subst hx; rw [Yv, h1]; exact ⟨h2, _, by simp [Op.unary]; rfl, by simp [VR]⟩
  · cases h
theorem len_ok {t ty : TypeId} {x : T} {vx : Value} {r : AR} {e : TypeId} (hk : P.underlying t = some (.slice e)) (h : aLen hf x = some r) (hx : VR ρ hf I x vx) :
    Yv P ρ hf I r (Builtin.len_ #[t] ty #[vx]) w := by
  unfold aLen at h
  split at h
  · obtain ⟨h1, h2, h3, pu, esz, cs, hi⟩ := oku_inv h
    obtain ⟨b, cap, rfl, _⟩ := VR_ref hx hi
    rw [Yv, h1]; exact ⟨h2, _, by simp [Builtin.len_, run_underlying hk]; rfl, by simp [VR, goInt]⟩
  · obtain ⟨h1, h2, h3⟩ := ok_inv h
    simp only [VR, PV] at hx; obtain ⟨a, cap, vs, rfl, _⟩ := hx
    rw [Yv, h1]; exact ⟨h2, _, by simp [Builtin.len_, run_underlying hk]; rfl, by simp [VR, goInt]⟩
  · obtain ⟨h1, h2, h3⟩ := ok_inv h
    simp only [VR] at hx; subst hx
    rw [Yv, h1]; exact ⟨h2, _, by simp [Builtin.len_, run_underlying hk]; rfl, by simp [VR, goInt]⟩
  · cases h
theorem minI_run {k : IntKind} : ∀ {l : List T} {vs : List Value} {x z : Int}, foldI minI k l x = some z → VRs ρ hf I l vs →
    (vs.foldlM Builtin.min2 (.int k x)).run P w = .ok (.int k z) w
  | [], vs, x, z, h, hv => by simp only [VRs] at hv; subst hv; simp only [foldI, Option.some.injEq] at h; subst h; simp
  | t :: l, vs, x, z, h, hv => by
    simp only [VRs] at hv
    obtain ⟨v, r, rfl, h1, h2⟩ := hv
    unfold foldI at h
    split at h
    · rename_i heq; simp at heq
    · rename_i k' y l' x' heq
      simp only [List.cons.injEq] at heq
      obtain ⟨rfl, rfl⟩ := heq
      split at h
      · rename_i hb; obtain rfl := ikN_inj (Nat.eq_of_beq_eq_true hb)
        simp only [VR] at h1; subst h1
        have := minI_run h h2
        simp only [List.foldlM_cons, Sem.run_bind, Builtin.min2, Sem.run_pure, Result.andThen_ok]
        exact this
      · cases h
    · cases h
theorem maxI_run {k : IntKind} : ∀ {l : List T} {vs : List Value} {x z : Int}, foldI maxI k l x = some z → VRs ρ hf I l vs →
    (vs.foldlM Builtin.max2 (.int k x)).run P w = .ok (.int k z) w
  | [], vs, x, z, h, hv => by simp only [VRs] at hv; subst hv; simp only [foldI, Option.some.injEq] at h; subst h; simp
  | t :: l, vs, x, z, h, hv => by
    simp only [VRs] at hv
    obtain ⟨v, r, rfl, h1, h2⟩ := hv
    unfold foldI at h
    split at h
    · rename_i heq; simp at heq
    · rename_i k' y l' x' heq
      simp only [List.cons.injEq] at heq
      obtain ⟨rfl, rfl⟩ := heq
      split at h
      · rename_i hb; obtain rfl := ikN_inj (Nat.eq_of_beq_eq_true hb)
        simp only [VR] at h1; subst h1
        have := maxI_run h h2
        simp only [List.foldlM_cons, Sem.run_bind, Builtin.max2, Sem.run_pure, Result.andThen_ok]
        exact this
      · cases h
    · cases h
theorem bound_run {k : IntKind} {i : Int} {y : Nat} {code : BoundsCode} (h0 : 0 ≤ i) (h1 : i ≤ y) : (Instr.sliceBound (.int k i) y code).run P w = .ok i.toNat w :=
  run_sliceBound w k i y code h0 h1
theorem extract_mk (l : List UInt8) (a b : Nat) : (ByteArray.mk ⟨l⟩).extract a b = ⟨⟨(l.take b).drop a⟩⟩ := by
  rw [show (ByteArray.mk ⟨l⟩) = ByteArray.mk l.toArray from rfl, ByteArray.extract_mk]
  rw [List.drop_take]
theorem sliceS_ok {t : TypeId} {l : List UInt8} {lo hi : Option T} {vlo vhi : Option Value} {r : AR} (hT : TabOk P C) (h : aSlice C hf t (.s l) lo hi = some r) (hq : ∀ p ∈ r.q, p)
    (hlo : ∀ x, lo = some x → ∃ v, vlo = some v ∧ VR ρ hf I x v) (hlo' : lo = none → vlo = none) (hhi : ∀ x, hi = some x → ∃ v, vhi = some v ∧ VR ρ hf I x v) (hhi' : hi = none → vhi = none) :
    Yv P ρ hf I r (Instr.sliceAt t (.string ⟨⟨l⟩⟩) vlo vhi none) w := by
  have hk := (hT t).1
  unfold aSlice at h
  simp only at h
  split at h
  · rename_i e; rw [e] at hk
    obtain ⟨h1, h2, h3⟩ := ok_inv h
    rw [Yv, h1, hlo' rfl, hhi' rfl]
    exact ⟨h2, _, by rw [run_sliceAt_string w _ _ _ _ _ hk]; simp [Instr.slice, run_underlying hk, Instr.sliceBounds]; rfl, by simp [VR, extract_mk, size_mk]⟩
  · rename_i k a e; rw [e] at hk
    obtain ⟨h1, h2, h3⟩ := okq_inv h
    obtain ⟨b1, b2⟩ : _ ∧ _ := hq _ (by rw [h3]; exact List.mem_singleton.2 rfl)
    obtain ⟨v, rfl, hv⟩ := hlo _ rfl
    simp only [VR] at hv; subst hv
    rw [Yv, h1, hhi' rfl]
    exact ⟨h2, _, by rw [run_sliceAt_string w _ _ _ _ _ hk]; simp [Instr.slice, run_underlying hk, Instr.sliceBounds, bound_run b1 (show a ≤ ((ByteArray.mk ⟨l⟩).size : Int) from b2)]; rfl, by simp [VR, extract_mk, size_mk]⟩
  · rename_i k a e; rw [e] at hk
    obtain ⟨h1, h2, h3⟩ := okq_inv h
    obtain ⟨b1, b2⟩ : _ ∧ _ := hq _ (by rw [h3]; exact List.mem_singleton.2 rfl)
    obtain ⟨v, rfl, hv⟩ := hhi _ rfl
    simp only [VR] at hv; subst hv
    rw [Yv, h1, hlo' rfl]
    exact ⟨h2, _, by rw [run_sliceAt_string w _ _ _ _ _ hk]; simp [Instr.slice, run_underlying hk, Instr.sliceBounds, bound_run b1 (show a ≤ ((ByteArray.mk ⟨l⟩).size : Int) from b2)]; rfl, by simp [VR, extract_mk, size_mk]⟩
  · rename_i k a k2 c e; rw [e] at hk
    obtain ⟨h1, h2, h3⟩ := okq_inv h
    obtain ⟨b1, b2, b3⟩ : _ ∧ _ ∧ _ := hq _ (by rw [h3]; exact List.mem_singleton.2 rfl)
    obtain ⟨v, rfl, hv⟩ := hlo _ rfl
    obtain ⟨v2, rfl, hv2⟩ := hhi _ rfl
    simp only [VR] at hv hv2; subst hv; subst hv2
    rw [Yv, h1]
    have b2' : a ≤ (c.toNat : Int) := by omega
    exact ⟨h2, _, by rw [run_sliceAt_string w _ _ _ _ _ hk]; simp [Instr.slice, run_underlying hk, Instr.sliceBounds, bound_run (show 0 ≤ c by omega) (show c ≤ ((ByteArray.mk ⟨l⟩).size : Int) from b3), bound_run b1 b2']; rfl, by simp [VR, extract_mk]⟩
  · cases h
end
end Go.Proofs.YtdiippegaidpkaaDoor.Vm
