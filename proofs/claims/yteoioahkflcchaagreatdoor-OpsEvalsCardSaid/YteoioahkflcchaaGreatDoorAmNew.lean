/- The abstract machine: operations that make a family. -/
import Derived.Test.YteoioahkflcchaaGreatDoorAmPure3
import Derived.Lib.ConvBytes
import Derived.Laws.MakeOwn
namespace Go.AM
set_option linter.unusedVariables false
set_option linter.unusedSimpArgs false

theorem bytesWorld_eq (w : World) (e : TypeId) (s : ByteArray) : Lib.bytesWorld w e s = w.drew.alloc (.cells (Lib.bytesCells w e s) e ((Lib.bytesCells w e s).size, (Lib.bytesCells w e s).size + 1)) := by
  unfold Lib.bytesWorld World.freeze
  rw [if_neg (by omega)]
  simp only [World.alloc, World.drew]
  congr 1
  apply Array.ext
  · simp
  · intro i h1 h2
    rw [Array.getElem_modify]
    simp only [Array.size_modify, Array.size_push] at h1
    by_cases hi : w.heap.size = i
    · subst hi
      simp
    · have : i < w.heap.size := by omega
      rw [if_neg hi, Array.getElem_push_lt this, Array.getElem_push_lt this]

section
variable {P : Program} {M0 : Mu} {m : Mu} {n : Nat} {E : Env} {a : Act}

/-- What an operation that makes a family comes to. -/
def NewOk (P : Program) (m : Mu) (a : Act) (o : Oper) (cs : List AV) (sz : Nat) (md : Made) (w : World) : Prop :=
  ∃ (w1 : World) (C : Array Value) (el : TypeId) (fz : Nat × Nat) (cap : Nat) (ys : List Value) (c : Value),
    (w1 = w ∨ w1 = w.drew) ∧ (execOp a.eval o).run P w = .ok (.value c) (w1.alloc (.cells C el fz)) ∧ cvos m cs = some ys ∧ (∀ (j : Nat) (y : Value), ys[j]? = some y → C[j]? = some y) ∧ cap * sz ≤ C.size ∧ cs.length ≤ cap * sz ∧
    (fz.1 = fz.2 ∨ (md.ver ≠ 0 ∧ C.size ≤ fz.1)) ∧
    ∀ (m' : Mu) (f : Nat), m' f md.ver = some ⟨w.heap.size, 0, 0, cap, sz⟩ → cvo m' (md.value f) = some c

theorem replicate_flat {z : List AV} {zs : List Value} (hz : cvos m z = some zs) : ∀ k, cvos m (List.replicate k z).flatten = some (List.replicate k zs).flatten
  | 0 => rfl
  | k + 1 => by simp only [List.replicate_succ, List.flatten_cons]; exact cvos_append hz (replicate_flat hz k)

theorem flatten_replicate_get (z : List Value) (k j : Nat) : (List.replicate k z).flatten[j]? = if j < k * z.length then z[j % z.length]? else none := by
  induction k generalizing j with
  | zero => simp
  | succ k ih =>
    rw [List.replicate_succ, List.flatten_cons, List.getElem?_append]
    have e : (k + 1) * z.length = k * z.length + z.length := Nat.succ_mul _ _
    split
    · rename_i h
      rw [if_pos (by omega), Nat.mod_eq_of_lt h]
    · rename_i h
      rw [ih]
      split
      · rename_i h2
        rw [if_pos (by omega)]
        rw [Nat.mod_eq_sub_mod (a := j) (by omega)]
      · rename_i h2
        rw [if_neg (by omega)]

theorem rangeCells (z : List Value) (k : Nat) (hz : z ≠ []) : (Array.range (k * z.length)).map (z.toArray[· % z.toArray.size]!) = (List.replicate k z).flatten.toArray := by
  have hp : 0 < z.length := List.length_pos_iff.2 hz
  apply Array.ext'
  apply List.ext_getElem?
  intro j
  rw [flatten_replicate_get]
  simp only [Array.toList_map, Array.toList_range, List.getElem?_map, List.size_toArray]
  by_cases hj : j < k * z.length
  · rw [if_pos hj, List.getElem?_range hj]
    have : j % z.length < z.length := Nat.mod_lt _ hp
    simp [this]
  · rw [if_neg hj, List.getElem?_eq_none (by simp; omega)]
    rfl

theorem cvos_bytes (s : List UInt8) : cvos m (s.map fun b => AV.int .u8 b.toNat) = some (s.map fun b => Value.int .u8 b.toNat) := by
  induction s with
  | nil => rfl
  | cons b s ih => simp [cvos, cvo, ih]

theorem new_soundA {o : Oper} {ao : AOp} {cs : List AV} {sz : Nat} {md : Made} (hc : compOpA P o.op = some ao) (e : EnvR M0 m n E a) (hv : newOf E ao = some (cs, sz, md)) (w : World) : NewOk P m a o cs sz md w := by
  obtain ⟨dst, op, type, pos, after, guard⟩ := o
  dsimp only at hc
  cases op with
  | alloc t =>
    simp only [compOpA, Option.map_eq_some_iff] at hc
    obtain ⟨z, hz, rfl⟩ := hc
    simp only [newOf, Option.some.injEq, Prod.mk.injEq] at hv
    obtain ⟨rfl, rfl, rfl⟩ := hv
    obtain ⟨i, zv, hi, hzv, hz'⟩ := zeroCs_some hz
    have hcv := mapM_const (m := m) hz'
    have hl := cvos_length hcv
    refine ⟨w, zv.cells, t, (0, 0), z.length, zv.cells.toList, .pointer (some ⟨w.heap.size, 0, none⟩), .inl rfl, ?_, hcv, by simp, by simp at hl; omega, by omega, by simp, fun m' f hm => by simp only [Made.ver] at hm; simp [Made.value, cvo, plc, hm]⟩
    simp [execOp, Instr.alloc, zeroValue, typeInfo, hi, hzv, newVar, newRow]
  | box t x =>
    simp only [compOpA, Option.some.injEq] at hc; subst hc
    simp only [newOf] at hv
    have key : ∀ v, ev E x = v → v.isBot = false → some (v.cells, 1, Made.ptr) = some (cs, sz, md) → NewOk P m a ⟨dst, .box t x, type, pos, after, guard⟩ cs sz md w := fun v hx hb h => by
      simp only [Option.some.injEq, Prod.mk.injEq] at h
      obtain ⟨rfl, rfl, rfl⟩ := h
      obtain ⟨us, h1, h2⟩ := cells_sound (ev_sound e x) (by rw [hx]; exact hb)
      rw [hx] at h1
      have hl := cvos_length h1
      refine ⟨w, us.toArray, t, (0, 0), us.length, us, .pointer (some ⟨w.heap.size, 0, none⟩), .inl rfl, ?_, h1, by simp, by simp, by omega, by simp, fun m' f hm => by simp only [Made.ver] at hm; simp [Made.value, cvo, plc, hm]⟩
      simp [execOp, Instr.box, newVar, newRow, h2]
    split at hv
    · cases hv
    · cases hv
    · rename_i v h1 h2
      refine key _ rfl ?_ hv
      cases hx : ev E x <;> first | rfl | exact absurd hx h1
  | buildSlice t k parts =>
    simp only [compOpA] at hc
    split at hc
    · rename_i el hu
      split at hc
      · rename_i s z hs hz
        split at hc
        · rename_i hcond
          obtain ⟨c1, c2, c3⟩ := hcond
          simp only [Option.some.injEq] at hc; subst hc
          simp only [newOf] at hv
          split at hv
          · rename_i l hl
            simp only [Option.some.injEq, Prod.mk.injEq] at hv
            obtain ⟨rfl, rfl, rfl⟩ := hv
            obtain ⟨i, zv, hi, hzv, hz'⟩ := zeroCs_some hz
            obtain ⟨it, hi1, hi2⟩ := szOf_some hs
            rw [hi] at hi1; cases hi1
            have hcv := mapM_const (m := m) hz'
            have hlen := cvos_length hcv
            have hne : zv.cells.toList ≠ [] := by intro h; rw [h] at hlen; simp at hlen; omega
            obtain ⟨zs, h1, h2⟩ := fill_sound (place := fun i => some (i * s, s)) (elemParts_spec s parts.toList).1 (elemParts_spec s parts.toList).2 e (replicate_flat hcv k) hl
            have hll : l.length = k * s := by
              have := fillA_length hl
              rw [this]; simp [c1]
            have hzl := cvos_length h2
            have hcells : (Array.range (k * s)).map (zv.cells[· % zv.cells.size]!) = (List.replicate k zv.cells.toList).flatten.toArray := by
              have := rangeCells zv.cells.toList k hne
              rw [Array.toArray_toList, show zv.cells.toList.length = s by omega] at this
              exact this
            refine ⟨w, zs.toArray, el, (0, 0), k, zs, .slice (some ⟨w.heap.size, 0, none⟩) k k, .inl rfl, ?_, h2, by simp, by simp; omega, by omega, by simp, fun m' f hm => by simp only [Made.ver] at hm; simp [Made.value, cvo, plc, hm]⟩
            have hgt : ¬ 16777216 < k * s := by omega
            by_cases h0 : k * s = 0
            · have hk0 : k = 0 := by rcases Nat.mul_eq_zero.1 h0 with h | h <;> omega
              subst hk0
              simp only [List.replicate_zero, List.flatten_nil] at h1
              simp [execOp, Instr.buildSlice, run_underlying hu, sizeOf, typeInfo, hi, hi2, hgt, Array.range_zero', h1, newRow]
            · have h0' : ¬ (k = 0 ∨ s = 0) := by rw [← Nat.mul_eq_zero]; exact h0
              simp only [Array.toArray_toList] at h1
              simp [execOp, Instr.buildSlice, run_underlying hu, sizeOf, typeInfo, hi, hi2, hgt, h0', zeroValue, hzv, newRow, hcells, h1]
              intro hz0; exact absurd hz0 h0
          · cases hv
        · cases hc
      · cases hc
    · cases hc
  | makeSlice t l c =>
    simp only [compOpA] at hc
    split at hc
    · rename_i el hu
      split at hc
      · rename_i i z hi hz
        split at hc
        · rename_i hcond
          simp only [Option.some.injEq] at hc; subst hc
          simp only [newOf] at hv
          split at hv
          · rename_i k1 l1 k2 c1 hl hcv
            split at hv
            · rename_i hb
              obtain ⟨b1, b2, b3, b4, b5⟩ := hb
              simp only [Option.some.injEq, Prod.mk.injEq] at hv
              obtain ⟨rfl, rfl, rfl⟩ := hv
              obtain ⟨i', zv, hi', hzv, hz'⟩ := zeroCs_some hz
              rw [hi] at hi'; cases hi'
              have el1 := cvo_int hl (ev_sound e l)
              have el2 := cvo_int hcv (ev_sound e c)
              have hcvz := mapM_const (m := m) hz'
              have hlen := cvos_length hcvz
              have hne : zv.cells.toList ≠ [] := by intro h; rw [h] at hlen; simp at hlen; omega
              have hcells : madeCells zv.cells (c1.toNat * i.size) = (List.replicate c1.toNat zv.cells.toList).flatten.toArray := by
                have := rangeCells zv.cells.toList c1.toNat hne
                rw [Array.toArray_toList, show zv.cells.toList.length = i.size by omega] at this
                exact this
              have hr := run_make (P := P) w t el i zv hu hi hzv k1 k2 l1 c1 b1 b2 (by rw [Int.mul_comm]; omega) (by omega)
              rw [hcells] at hr
              refine ⟨w, _, el, (0, 0), c1.toNat, _, _, .inl rfl, by simp only [execOp, el1, el2, Sem.run_bind, hr]; rfl, replicate_flat hcvz c1.toNat, by simp, ?_, ?_, by simp, fun m' f hm => ?_⟩
              · simp; rw [show zv.cells.size = i.size by simpa using (by omega : zv.cells.toList.length = i.size)]; omega
              · simp; rw [hcond.1]; omega
              · have hle : l1.toNat ≤ c1.toNat := by omega
                simp only [Made.ver] at hm
                simp [Made.value, cvo, plc, hm, hle]
            · cases hv
          · cases hv
        · cases hc
      · cases hc
    · cases hc
  | convert src dst x =>
    simp only [compOpA] at hc
    split at hc
    · simp only [Option.some.injEq] at hc; subst hc; simp [newOf] at hv
    · simp only [Option.some.injEq] at hc; subst hc; simp [newOf] at hv
    · rename_i el h1 h2
      split at hc
      · rename_i h3
        simp only [Option.some.injEq] at hc; subst hc
        simp only [newOf] at hv
        split at hv
        · rename_i s hs
          split at hv
          · rename_i hlen
            simp only [Option.some.injEq, Prod.mk.injEq] at hv
            obtain ⟨rfl, rfl, rfl⟩ := hv
            have h3' := isU8_some h3
            have hcs := cvo_str hs (ev_sound e x)
            have hr := Lib.run_convert_string_bytes (P := P) w src dst el ⟨s.toArray⟩ h1 h2 h3'
            rw [bytesWorld_eq] at hr
            have hsz : (⟨s.toArray⟩ : ByteArray).size = s.length := List.size_toArray ..
            have hcap : s.length ≤ grownCap w s.length 0 el := by unfold grownCap; simp only [Question.cut]; omega
            rw [hsz] at hr
            refine ⟨w.drew, _, el, _, grownCap w s.length 0 el, _, _, .inr rfl, by simp only [execOp, hcs, Sem.run_bind, hr]; rfl, cvos_bytes s, fun j y hy => ?_, ?_, by simp; omega, .inr ⟨by simp [Made.ver], Nat.le_refl _⟩, fun m' f hm => ?_⟩
            · simp only [Lib.bytesCells]
              have hj : j < s.length := by
                rcases Nat.lt_or_ge j s.length with h | h
                · exact h
                · rw [List.getElem?_eq_none (by simpa using h)] at hy; cases hy
              rw [Array.getElem?_append_left (by simpa using hj)]
              simpa using hy
            · simp [Lib.bytesCells, hsz]; omega
            · simp only [Made.ver] at hm
              simp [Made.value, cvo, plc, hm, hcap]
          · cases hv
        · cases hv
      · cases hc
    · split at hc
      · simp only [Option.some.injEq] at hc; subst hc; simp [newOf] at hv
      · cases hc
    · cases hc
  | _ =>
    exfalso
    simp only [compOpA, compEq] at hc
    repeat' split at hc
    all_goals first
      | (cases hc; done)
      | (simp only [Option.some.injEq] at hc; subst hc; simp [newOf] at hv; done)
      | (simp only [Option.map_eq_some_iff] at hc; obtain ⟨_, _, rfl⟩ := hc; simp [newOf] at hv; done)
end
end Go.AM
