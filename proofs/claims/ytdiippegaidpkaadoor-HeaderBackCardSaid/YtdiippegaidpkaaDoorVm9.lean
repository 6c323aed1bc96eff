/- The symbolic machine, part 9: conversions, append, iterators, built-in functions. -/
import Derived.Test.YtdiippegaidpkaaDoorVm8
set_option linter.unusedVariables false
set_option linter.unusedSimpArgs false
namespace Go.Proofs.YtdiippegaidpkaaDoor.Vm
open Go
section
variable {P : Program} {C : Ctx} {E : Ent} {ρ : Place} {hf : Objs} {I : Mem} {w : World} {a : Act} {o : Oper}
theorem bytes_rel : ∀ l : List UInt8, VRs ρ hf I (bytesT l) (l.map fun c => Value.int .u8 (c.toNat : Int)) := fun l => VRs.map _ _ (fun c => by simp [VR]) l
theorem bytesT_length (l : List UInt8) : (bytesT l).length = l.length := by simp [bytesT]
theorem bytesT_plain : ∀ l : List UInt8, plainL (bytesT l) = true
  | [] => rfl
  | c :: l => by simp only [bytesT, List.map_cons, plainL, plain]; exact bytesT_plain l
theorem plain_celly' {xs : List T} {pu : Bool} (h : (if pu then plainL xs else cellyL xs) = true) : cellyL xs = true := by
  cases pu with
  | true => exact plainL_celly h
  | false => exact h
theorem bytes_inv : ∀ {l : List UInt8} {vs : List Value}, VRs ρ hf I (bytesT l) vs → vs = l.map fun c => Value.int .u8 (c.toNat : Int)
  | [], vs, h => by simpa [bytesT, VRs] using h
  | c :: l, vs, h => by
    simp only [bytesT, List.map_cons, VRs] at h
    obtain ⟨v, r, rfl, h1, h2⟩ := h
    simp only [VR] at h1
    rw [h1, List.map_cons, bytes_inv (l := l) h2]
/-- The cells of a slice, in memory. -/
theorem cellsOf_run {x : T} {vx : Value} {n : Nat} {xs : List T} {u : List Nat} (hs : HS ρ hf I w) (h : cellsOf hf x = some (n, xs, u)) (hx : VR ρ hf I x vx) :
    ∃ base cap vals, vx = .slice base n cap ∧ VRs ρ hf I xs vals ∧ (base = none → vals = []) ∧ ∀ ad, base = some ad → ∀ j v, vals[j]? = some v → w.cell? (ad.add j) = some v := by
  unfold cellsOf at h
  split at h
  · rename_i id g off m
    split at h
    · rename_i g' pu esz cs hi
      split at h
      · rename_i hg; obtain rfl := Nat.eq_of_beq_eq_true hg
        simp only [Option.some.injEq, Prod.mk.injEq] at h
        obtain ⟨rfl, rfl, rfl⟩ := h
        obtain ⟨b, cap, rfl, c1, c2, c3⟩ := VR_ref hx hi
        obtain ⟨c, ce, fz, q1, q2, q3, q4, q5, q6, q7⟩ := row_cells hs hi
        refine ⟨some ⟨(ρ id).1, b, none⟩, cap, ((c.toList.take cs.length).drop off).take (m * szOf esz), rfl, (q4.drop off).take _, by simp, fun ad had j v hj => ?_⟩
        simp only [Option.some.injEq] at had; subst had
        rw [add_off]
        rw [List.getElem?_take] at hj
        split at hj
        · rename_i hlt
          have hb : b = off := c1.resolve_right (fun e0 => by
            have : m = 0 := by omega
            rw [this] at hlt; simp at hlt)
          subst hb
          rw [List.getElem?_drop] at hj
          exact q6 _ _ hj
        · simp at hj
      · cases h
    · cases h
  · simp only [Option.some.injEq, Prod.mk.injEq] at h
    obtain ⟨rfl, rfl, rfl⟩ := h
    simp only [VR, PV] at hx
    obtain ⟨ad, cap, vs, rfl, p0, p1, p2⟩ := hx
    refine ⟨ad, cap, vs, rfl, PVs.vrs _ _ p1, fun e => by subst e; exact p2.1, fun a ha j v hj => ?_⟩
    subst ha
    obtain ⟨blk, b, sp⟩ := a
    obtain rfl : sp = none := p2.1
    rw [add_off]
    exact hs.mem _ _ (p2.2 j v hj)
  · simp only [Option.some.injEq, Prod.mk.injEq] at h
    obtain ⟨rfl, rfl, rfl⟩ := h
    simp only [VR] at hx; subst hx
    exact ⟨none, 0, [], rfl, rfl, fun _ => rfl, by simp⟩
  · cases h
theorem push_bytes : ∀ (l : List UInt8) (s : List UInt8), (l.map fun c => (c.toNat : Int)).foldl (fun (r : ByteArray) n => r.push (UInt8.ofNat n.toNat)) ⟨⟨s⟩⟩ = ⟨⟨s ++ l⟩⟩
  | [], s => by simp
  | c :: l, s => by
    simp only [List.map_cons, List.foldl_cons]
    have : (ByteArray.mk ⟨s⟩).push (UInt8.ofNat (c.toNat : Int).toNat) = ⟨⟨s ++ [c]⟩⟩ := by
      simp [ByteArray.push, Array.push, List.concat_eq_append]
    rw [this, push_bytes l (s ++ [c])]; simp
theorem known_ok {t : TypeId} (hT : TabOk P C) (h : known (tin C t).k = true) : ∃ d, P.underlying t = some d := by
  have hk := (hT t).1
  cases e : (tin C t).k <;> rw [e] at hk h <;> first
    | (simp [known] at h; done)
    | exact ⟨_, hk⟩
    | exact ⟨_, hk.1⟩
    | (obtain ⟨_, hk, _⟩ := hk; exact ⟨_, hk⟩)
    | (obtain ⟨_, _, _, hk⟩ := hk; exact ⟨_, hk⟩)
theorem freeze_new (w : World) (c : Array Value) (e : TypeId) : (w.alloc (.cells c e)).freeze ⟨w.heap.size, c.size, none⟩ 1 = w.alloc (.cells c e (c.size, c.size + 1)) := by
  simp only [World.freeze, World.alloc]
  rw [if_neg (by decide)]
  congr 1
  apply Array.ext_getElem?
  intro i
  rw [Array.getElem?_modify, Array.getElem?_push, Array.getElem?_push]
  by_cases hi : i = w.heap.size
  · subst hi; simp
  · rw [if_neg (Ne.symm hi), if_neg hi, if_neg hi]
theorem thaw_end {n : Nat} : Thawed (n, n + 1) n := fun o h h' => by have := h'.1; simp at this; omega
def bytesV (l : List UInt8) : List Value := l.map fun c => Value.int .u8 (c.toNat : Int)
theorem stringToBytes_run (l : List UInt8) (e : TypeId) : (Conv.stringToBytes e ⟨⟨l⟩⟩).run P w = .ok (.slice (some ⟨w.drew.heap.size, 0, none⟩) l.length (grownCap w l.length 0 e))
    (w.drew.alloc (.cells ((bytesV l).toArray ++ Array.replicate (grownCap w l.length 0 e - l.length) (.int .u8 0)) e
      (((bytesV l).toArray ++ Array.replicate (grownCap w l.length 0 e - l.length) (Value.int .u8 0)).size, ((bytesV l).toArray ++ Array.replicate (grownCap w l.length 0 e - l.length) (Value.int .u8 0)).size + 1))) := by
  rw [← freeze_new]
  have e1 : (Array.map (fun b : UInt8 => Value.int .u8 (b.toNat : Int)) ⟨l⟩) = (bytesV l).toArray := by apply Array.ext'; simp [bytesV]
  have hsh : ∀ (w1 : World) (c : Array Value), (w1.alloc (.cells c e)).shape? w1.heap.size = some (e, c.size) := fun w1 c => by
    simp only [World.shape?, heap_alloc_new]
  simp only [Conv.stringToBytes, Sem.run_bind, run_choose, Question.forced, size_mk, Result.andThen_ok, e1, newRow, run_newObj, Sem.run_pure, markStringish, run_shape, Bool.false_eq_true, if_false, World.drew_eq, World.alloc_eq, hsh, run_freeze]
  rfl
theorem convert_ok {s d : TypeId} {x : T} {X : Operand} {or : Or} {r : AR} (hT : TabOk P C) (hs : HS ρ hf I w) (hx : Ext E.w0 E.own E.I0 ρ hf I w) (ho : o.op = .convert s d X)
    (h : aConvert C hf o.dst s d x or = some r) (hq : ∀ p ∈ r.q, p) (hv : VR ρ hf I x (a.eval X)) :
    Yv P ρ hf I r (convert s d (a.eval X)) w ∨ Does P E hf ρ I o r.t r.d a w := by
  unfold aConvert at h
  split at h
  · cases h
  · rename_i hkn
    obtain ⟨ds, hds⟩ := known_ok hT hkn
    have hk := (hT d).1
    split at h
    · rename_i k k' n hke; rw [hke] at hk
      obtain ⟨h1, h2, h3⟩ := ok_inv h
      simp only [VR] at hv; left; rw [Yv, h1, hv]
      exact ⟨h2, _, by simp [convert, run_underlying hds, run_underlying hk, Conv.intToInt]; rfl, by simp [VR]⟩
    · rename_i k k' n hke; rw [hke] at hk
      obtain ⟨h1, h2, h3⟩ := ok_inv h
      simp only [VR] at hv; left; rw [Yv, h1, hv]
      exact ⟨h2, _, by simp [convert, run_underlying hds, run_underlying hk, Conv.intToFloat]; rfl, by simp [VR]⟩
    · rename_i k f b hke; rw [hke] at hk
      split at h
      · rename_i k' n
        obtain ⟨h1, h2, h3⟩ := okq_inv h
        obtain ⟨b1, b2, b3⟩ : _ ∧ _ ∧ _ := hq _ (by rw [h3]; exact List.mem_singleton.2 rfl)
        simp only [VR] at hv; left; rw [Yv, h1, hv]
        exact ⟨h2, .int k n, by simp [convert, run_underlying hds, run_underlying hk, Conv.floatToInt, b1, b2, b3], by simp [VR]⟩
      · cases h
    · rename_i l hke; rw [hke] at hk
      obtain ⟨h1, h2, h3⟩ := ok_inv h
      simp only [VR] at hv; left; rw [Yv, h1, hv]
      exact ⟨h2, _, by simp [convert, run_underlying hds, run_underlying hk]; rfl, by simp [VR]⟩
    · rename_i e l hke; rw [hke] at hk
      split at h
      · rename_i hee
        have hke' := (hT e).1
        rw [hee] at hke'
        obtain ⟨s', hd, h1, h2, h3⟩ := mkObj_inv h
        simp only [VR] at hv
        right
        rw [h1, h2]
        have hcap : l.length ≤ grownCap w l.length 0 e := grownCap_ge w l.length 0 e
        have hl : (bytesV l).length = l.length := by simp [bytesV]
        refine new_does (w1 := w.drew) (c := (bytesV l).toArray ++ Array.replicate (grownCap w l.length 0 e - l.length) (.int .u8 0)) (e := e)
          (v := .slice (some ⟨w.drew.heap.size, 0, none⟩) l.length (grownCap w l.length 0 e)) (fitM thaw_end) (.inr rfl) hs hx ?_ ?_ (fun _ => bytesT_plain l)
          (VR_new_ref (by rw [show szOf (.row 1 e) = 1 from rfl, Nat.mul_one]; simp only [Array.size_append, List.size_toArray, hl, Array.size_replicate]; omega) hcap)
        · rw [execOp, ho]
          simp only [hv, Sem.run_bind]
          rw [show (convert s d (.string ⟨⟨l⟩⟩)).run P w = _ from by
            simp only [convert, Sem.run_bind, run_underlying hds, run_underlying hk.1, run_underlying hke', Result.andThen_ok]
            exact stringToBytes_run l e]
          rfl
        · rw [bytesT_length]
          have : (((bytesV l).toArray ++ Array.replicate (grownCap w l.length 0 e - l.length) (Value.int .u8 0)).toList.take l.length) = bytesV l := by
            simp [List.take_append, hl]
          rw [this]; exact bytes_rel l
      · cases h
    · rename_i hke hns; rw [hke] at hk
      split at h
      · rename_i e y hse
        have hks := (hT s).1
        rw [hse] at hks
        obtain ⟨hu, _⟩ := hks
        split at h
        · rename_i hee
          have hke' := (hT e).1
          rw [hee] at hke'
          split at h
          · rename_i n cs u hc
            cases h
            obtain ⟨b1, b2⟩ : cs = bytesT y ∧ n = y.length := hq _ (by simp)
            obtain ⟨base, cap, vals, e1, e2, e3, e4⟩ := cellsOf_run hs hc hv
            left
            rw [b1] at e2
            have hvals := bytes_inv e2
            refine ⟨rfl, .string ⟨⟨y⟩⟩, ?_, by simp [VR]⟩
            rw [e1]
            cases base with
            | none =>
              have : y = [] := by
                have := e3 rfl; rw [hvals] at this; simpa using this
              subst this
              rw [run_convert_bytes_string w s d e _ _ _ hu hke' hk]
              simp [Conv.bytesToString]; rfl
            | some ad =>
              have hl := run_loadCells_list (P := P) w ad vals (e4 ad rfl)
              rw [run_convert_bytes_string w s d e _ _ _ hu hke' hk]
              have hlen : vals.length = n := by rw [hvals, b2]; simp
              rw [hlen] at hl
              rw [run_bytesToString w ad n cap (y.map fun c => (c.toNat : Int)) (by rw [hl, hvals]; simp [List.map_map, Function.comp_def])]
              have := push_bytes y []
              simp only [List.nil_append] at this
              rw [← this]; rfl
          · cases h
        · cases h
      · cases h
    · cases h
def notInt (d : TypeDesc) : Prop := d = .string ∨ ∃ e, d = .slice e
theorem append_in {t t2 ty e : TypeId} {inf : TypeInfo} {d2 : TypeDesc} {x : Value} {m n cap blk b : Nat} {ys : List Value} {w' : World} (hu : P.underlying t = some (.slice e)) (hi : P.info? e = some inf)
    (hu2 : P.underlying t2 = some d2) (hd2 : notInt d2) (hlen : (Builtin.lenOf x).run P w = .ok m w) (hf1 : (Builtin.firstCells inf.size m x).run P w = .ok ⟨ys⟩ w) (hroom : n + m ≤ cap)
    (hst : (storeCells ⟨blk, b + n * inf.size, none⟩ ys).run P w = .ok () w') :
    (Builtin.append_ #[t, t2] ty #[.slice (some ⟨blk, b, none⟩) n cap, x]).run P w = .ok (.slice (some ⟨blk, b, none⟩) (n + m) cap) w' := by
  have hs : (sizeOf e).run P w = .ok inf.size w := by simp [sizeOf, typeInfo, hi]
  rcases hd2 with rfl | ⟨e', rfl⟩ <;> simp [Builtin.append_, run_underlying hu, run_underlying hu2, hs, hlen, hroom, hf1, add_off, hst]
theorem append_new {t t2 ty e : TypeId} {inf : TypeInfo} {z : Value} {d2 : TypeDesc} {x : Value} {m n cap : Nat} {base : Option Addr} {olds ys : List Value} (hu : P.underlying t = some (.slice e)) (hi : P.info? e = some inf) (hz : inf.zero = some z)
    (hu2 : P.underlying t2 = some d2) (hd2 : notInt d2) (hlen : (Builtin.lenOf x).run P w = .ok m w) (hf1 : (Builtin.firstCells inf.size m x).run P w.drew = .ok ⟨ys⟩ w.drew)
    (hold : (Builtin.firstCells inf.size n (.slice base n cap)).run P w.drew = .ok ⟨olds⟩ w.drew) (hroom : cap < n + m) (h63 : n + m ≤ 140737488355328) (h48 : (n + m) * inf.bytes ≤ 140737488355328) :
    (Builtin.append_ #[t, t2] ty #[.slice base n cap, x]).run P w = .ok (.slice (some ⟨w.drew.heap.size, 0, none⟩) (n + m) (grownCap w (n + m) cap e))
      (w.drew.alloc (.cells (⟨olds⟩ ++ ⟨ys⟩ ++ Builtin.zeroCells z.cells (grownCap w (n + m) cap e - (n + m))) e)) := by
  have hn : ¬ (n + m ≤ cap) := by omega
  have hfit := growslice_fits hroom h48
  have h63' : ¬ (9223372036854775807 < ((n : Int) + (m : Int))) := by omega
  have h48' : ¬ (281474976710656 < Builtin.nextslicecap (n + m) cap * inf.bytes) := by omega
  have hs : ∀ w : World, (sizeOf e).run P w = .ok inf.size w := fun w => by simp [sizeOf, typeInfo, hi]
  have hzr : ∀ w : World, (zeroValue e).run P w = .ok z w := fun w => by simp [zeroValue, typeInfo, hi, hz]
  have hti : ∀ w : World, (typeInfo e).run P w = .ok inf w := fun w => by simp [typeInfo, hi]
  rcases hd2 with rfl | ⟨e', rfl⟩ <;> simp [Builtin.append_, run_underlying hu, run_underlying hu2, hs, hzr, hti, hlen, hn, h63', h48', Question.forced, hf1, hold, newRow, grownCap] <;> (congr 2; apply Array.ext'; simp)
/-- What is appended. -/
theorem src_run {s : T} {vs : Value} {m size : Nat} {xs : List T} {u : List Nat} (hs : HS ρ hf I w)
    (h : srcOf hf s = some (m, xs, u)) (hv : VR ρ hf I s vs) (hl : m * size = xs.length) :
    ∃ ys, VRs ρ hf I xs ys ∧ (Builtin.lenOf vs).run P w = .ok m w ∧ (Builtin.firstCells size m vs).run P w = .ok ⟨ys⟩ w ∧ (Builtin.firstCells size m vs).run P w.drew = .ok ⟨ys⟩ w.drew := by
  unfold srcOf at h
  split at h
  · rename_i l
    simp only [Option.some.injEq, Prod.mk.injEq] at h
    obtain ⟨rfl, rfl, rfl⟩ := h
    simp only [VR] at hv; subst hv
    have e : Array.map (fun b : UInt8 => Value.int IntKind.u8 (b.toNat : Int)) ((ByteArray.mk ⟨l⟩).extract 0 l.length).data = ⟨bytesV l⟩ := by
      rw [extract_mk]; apply Array.ext'; simp [bytesV]
    exact ⟨bytesV l, bytes_rel l, by simp [Builtin.lenOf, size_mk], by simp only [Builtin.firstCells, Sem.run_pure, e], by simp only [Builtin.firstCells, Sem.run_pure, e]⟩
  · obtain ⟨base, cap, vals, rfl, e2, e3, e4⟩ := cellsOf_run hs h hv
    have hlen := e2.length
    refine ⟨vals, e2, by simp [Builtin.lenOf], ?_, ?_⟩
    · cases base with
      | none => rw [e3 rfl]; simp [Builtin.firstCells]
      | some ad =>
        have := run_loadCells_list (P := P) w ad vals (e4 ad rfl)
        rw [hlen, ← hl] at this
        simpa [Builtin.firstCells] using this
    · cases base with
      | none => rw [e3 rfl]; simp [Builtin.firstCells]
      | some ad =>
        have := run_loadCells_list (P := P) w.drew ad vals (fun j v hj => e4 ad rfl j v hj)
        rw [hlen, ← hl] at this
        simpa [Builtin.firstCells] using this
theorem append_ok {t t2 ty : TypeId} {d s : T} {dst : Option Nat} {vd vs : Value} {r : AR} {d2 : TypeDesc} (hT : TabOk P C) (hs : HS ρ hf I w) (hx : Ext E.w0 E.own E.I0 ρ hf I w)
    (hu2 : P.underlying t2 = some d2) (hd2 : notInt d2) (hrun : ∀ v w', (Builtin.append_ #[t, t2] ty #[vd, vs]).run P w = .ok v w' → (execOp a.eval o).run P w = .ok (.value v) w') (hdst : o.dst = dst)
    (h : aAppend C hf dst t d s = some r) (hq : ∀ p ∈ r.q, p) (hvd : VR ρ hf I d vd) (hvs : VR ρ hf I s vs) : Does P E hf ρ I o r.t r.d a w := by
  unfold aAppend at h
  have hk := (hT t).1
  split at h
  · rename_i e hke; rw [hke] at hk
    obtain ⟨hu, ⟨inf, z, i1, i2, i3, i4, i5, i6, _⟩, _⟩ := hk
    split at h
    · cases h
    · rename_i m xs u hnew
      split at h
      · rename_i id g n
        split at h
        · rename_i g' pu esz cs hi
          split at h
          · rename_i hb1 hb2 hb3
            obtain rfl := Nat.eq_of_beq_eq_true hb1
            have hez : szOf esz = (tin C e).size := Nat.eq_of_beq_eq_true hb2
            cases h
            obtain ⟨q1, q2, q3, q4, q5⟩ : n * szOf esz = cs.length ∧ m * szOf esz = xs.length ∧ (n + m) * (tin C e).bytes ≤ 140737488355328 ∧ n + m ≤ 140737488355328 ∧ (if pu then plainL xs else cellyL xs) = true := hq _ (by simp)
            obtain ⟨ys, y1, y2, y3, y4⟩ := src_run (P := P) (size := inf.size) hs hnew hvs (by rw [i2, ← hez]; exact q2)
            obtain ⟨b, cap, rfl, c1, c2, c3⟩ := VR_ref hvd hi
            obtain ⟨c, ce, fz, r1, r2, r3, r4, r5, r6, r7⟩ := row_cells hs hi
            have hyl := y1.length
            have hcl : c.toList.length = c.size := Array.length_toList
            have hle : HLe ρ hf ρ (updH hf [(id, g + 1, .row pu (amark e esz) (cs ++ xs))]) := by
              intro m' g1 o1 h1
              rw [updH_one]
              by_cases hm : id = m'
              · subst hm; rw [hi] at h1; simp only [Option.some.injEq, Prod.mk.injEq] at h1; obtain ⟨rfl, rfl⟩ := h1
                rw [if_pos rfl]; exact ⟨g + 1, _, rfl, Nat.le_succ _, fun e => by omega⟩
              · rw [if_neg hm]; exact ⟨g1, o1, h1, Nat.le_refl _, fun _ hd => ⟨rfl, hd, fun pu s cs e => ⟨pu, s, cs, e, rfl⟩⟩⟩
            by_cases hroom : n + m ≤ cap
            · -- in place
              have hoff : b + n * inf.size + ys.length ≤ c.size := by
                rw [i2, ← hez, hyl, ← q2, r2]
                have : n * szOf esz + m * szOf esz ≤ cap * szOf esz := by rw [← Nat.add_mul]; exact Nat.mul_le_mul_right _ hroom
                omega
              obtain ⟨w', c', s1, s2, s3, s4, s5, s6, s7, s8, s9⟩ := storeCells_run (P := P) (off := b + n * inf.size) ys 0 w c r1 r3.1 (by omega) (cellyL_one (plain_celly' q5) y1)
              have hgo := append_in (ty := ty) hu i1 hu2 hd2 y2 y3 hroom s1
              have hb0 : b = 0 ∨ cap = 0 := c1
              have hct : c'.toList.take (cs ++ xs).length = c.toList.take cs.length ++ ys := by
                rw [s9, List.length_append, ← q1, ← q2, Nat.add_zero]
                rcases hb0 with rfl | h0
                · rw [Nat.zero_add, i2, ← hez]
                  have e1 : (c.toList.take (n * szOf esz)).length = n * szOf esz := by rw [List.length_take]; omega
                  rw [List.append_assoc, List.take_append, e1, List.take_take, Nat.min_eq_right (by omega)]
                  congr 1
                  rw [List.take_append, List.take_of_length_le (by omega), show n * szOf esz + m * szOf esz - n * szOf esz - ys.length = 0 by omega]; simp
                · have hn0 : n = 0 := by omega
                  have hm0 : m = 0 := by omega
                  have hy0 : ys = [] := List.length_eq_zero_iff.1 (by rw [hyl, ← q2, hm0]; simp)
                  rw [hn0, hm0, hy0]; simp
              refine ⟨_, _, ρ, I, w', hrun _ _ hgo, .inl rfl, MLe.refl _, hle, write_HS hs hi trivial s6 hle ?_, write_Ext hx hi trivial s2 s3 s4 s5 s6 (g + 1), ?_⟩
              · refine ⟨c', ce, fz, s7, s8.trans r2, by rw [s8]; exact fit_in r3 r3.1, ?_⟩
                rw [hct]
                cases pu with
                | true => exact (r7 rfl).append (plainL_pvs q5 y1)
                | false => exact VRs.mono (MLe.refl _) hle _ _ (r4.append y1)
              · exact VR_ref_mk (by rw [updH_one, if_pos rfl]) c1 (by rw [szOf_amark]; exact c2) hroom
            · -- a new row
              have hold : (Builtin.firstCells inf.size n (.slice (some ⟨(ρ id).1, b, none⟩) n cap)).run P w.drew = .ok ⟨c.toList.take cs.length⟩ w.drew := by
                have hlc : (c.toList.take cs.length).length = n * inf.size := by rw [List.length_take, i2, ← hez, q1]; omega
                have := run_loadCells_list (P := P) w.drew ⟨(ρ id).1, b, none⟩ (c.toList.take cs.length) (fun j v hj => by
                  rw [add_off]
                  have hb : b = 0 := c1.resolve_right (fun h0 => by
                    have hn0 : n = 0 := by omega
                    rw [hn0] at q1; simp at q1; rw [← q1] at hj; simp at hj)
                  subst hb; rw [Nat.zero_add]; exact r6 j v hj)
                rw [hlc] at this
                simpa [Builtin.firstCells] using this
              have hgo := append_new (ty := ty) hu i1 i4 hu2 hd2 y2 y4 hold (by omega) q4 (by rw [i3]; exact q3)
              have hge : n + m ≤ grownCap w (n + m) cap e := grownCap_ge _ _ _ _
              have hzl : z.cells.size = inf.size := by
                have := (PVs.length (gndL_pvs (I := I) i5)); rw [Array.length_toList, i6] at this; omega
              have hlc : (c.toList.take cs.length).length = cs.length := by rw [List.length_take]; omega
              have hsz : ((⟨c.toList.take cs.length⟩ ++ ⟨ys⟩ ++ Builtin.zeroCells z.cells (grownCap w (n + m) cap e - (n + m)) : Array Value)).size = grownCap w (n + m) cap e * szOf esz := by
                rw [Array.size_append, Array.size_append, size_zeroCells, hzl, i2, ← hez]
                show (c.toList.take cs.length).length + ys.length + _ = _
                rw [hlc, hyl, ← q1, ← q2, ← Nat.add_mul, ← Nat.add_mul]; congr 1; omega
              have hg1 : ∀ g0 o0, hf id = some (g0, o0) → g0 < g + 1 := fun g0 o0 h0 => by rw [hi] at h0; simp only [Option.some.injEq, Prod.mk.injEq] at h0; omega
              have hct : ((⟨c.toList.take cs.length⟩ ++ ⟨ys⟩ ++ Builtin.zeroCells z.cells (grownCap w (n + m) cap e - (n + m)) : Array Value)).toList.take (cs ++ xs).length = c.toList.take cs.length ++ ys := by
                have hl2 : (cs ++ xs).length = (c.toList.take cs.length ++ ys).length := by rw [List.length_append, List.length_append, hlc, hyl]
                rw [hl2, Array.toList_append, Array.toList_append]
                exact List.take_left
              refine ⟨_, _, made ρ w.drew id _, I, _, hrun _ _ hgo, .inl rfl, MLe.refl _, made_HLe hg1, alloc_HS hs.drew hg1 (row_OR (fit_new thaw0) hg1 ?_ ?_), alloc_Ext hx.drew, ?_⟩
              · rw [hct]; exact r4.append y1
              · intro hp; subst hp; rw [hct]; exact (r7 rfl).append (plainL_pvs q5 y1)
              · simp only [VR]
                refine ⟨rfl, g + 1, _, by rw [updH_one, if_pos rfl], Nat.le_refl _, fun _ pu' esz' cs' e => ?_⟩
                simp only [Obj.row.injEq] at e
                obtain ⟨_, rfl, _⟩ := e
                exact ⟨0, _, by simp [made], .inl rfl, by simp only [made, if_pos]; rw [hsz, szOf_amark]; omega, hge⟩
          · cases h
        · cases h
      · split at h
        · rename_i rr
          cases h
          obtain ⟨q1, q2, q3, q4⟩ : 0 < m ∧ m * (tin C e).size = xs.length ∧ m * (tin C e).bytes ≤ 140737488355328 ∧ m ≤ 140737488355328 := hq _ (by simp)
          obtain ⟨ys, y1, y2, y3, y4⟩ := src_run (P := P) (size := inf.size) hs hnew hvs (by rw [i2]; exact q2)
          simp only [VR] at hvd; subst hvd
          have hold : (Builtin.firstCells inf.size 0 (.slice none 0 0)).run P w.drew = .ok ⟨[]⟩ w.drew := by simp [Builtin.firstCells]
          have hgo := append_new (ty := ty) hu i1 i4 hu2 hd2 y2 y4 hold (by omega) (by omega) (by rw [i3, Nat.zero_add]; exact q3)
          simp only [Nat.zero_add] at hgo
          have hge : m ≤ grownCap w m 0 e := grownCap_ge _ _ _ _
          have hyl := y1.length
          have hzl : z.cells.size = inf.size := by
            have := (PVs.length (gndL_pvs (I := I) i5)); rw [Array.length_toList, i6] at this; omega
          have hct : ((⟨[]⟩ ++ ⟨ys⟩ ++ Builtin.zeroCells z.cells (grownCap w m 0 e - m) : Array Value)).toList.take xs.length = ys := by
            rw [Array.toList_append, Array.toList_append, ← hyl]; simp
          refine new_does (w1 := w.drew) (e := e) fitS (.inr rfl) hs hx (hrun _ _ hgo) (by rw [hct]; exact y1) (fun e => e) (VR_new_ref ?_ hge)
          rw [Array.size_append, Array.size_append, size_zeroCells, hzl, i2]
          show _ * _ ≤ 0 + ys.length + _
          rw [szOf_tsz C, hyl, ← q2, Nat.zero_add, ← Nat.add_mul]
          exact Nat.mul_le_mul_right _ (by omega)
        · cases h
      · cases h
  · cases h
end
end Go.Proofs.YtdiippegaidpkaaDoor.Vm
