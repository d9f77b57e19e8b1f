/- The abstract machine: operations of their operands alone. -/
import Derived.Test.YteoioahkflcchaaGreatDoorAmComp
import Derived.Laws.Entries
import Derived.Laws.Pointers
import Derived.Laws.Small
import Derived.Laws.Strings
import Derived.Laws.Concat
import Derived.ChangeKeysEq
namespace Go.AM
set_option linter.unusedVariables false
set_option linter.unusedSimpArgs false

def slotR (m : Mu) (v : AV) (c : Value) : Prop := v = .bot ∨ cvo m v = some c
theorem slotR.mono {m m' : Mu} (h : m.le m') {v : AV} {c : Value} (s : slotR m v c) : slotR m' v c := s.imp id (cvo_mono h _ _)
theorem slotR.of {m : Mu} {v : AV} {c : Value} (h : cvo m v = some c) : slotR m v c := .inr h
theorem slotR.cv {m : Mu} {v : AV} {c : Value} (s : slotR m v c) (h : v ≠ .bot) : cvo m v = some c := s.resolve_left h

structure EnvR (M0 m : Mu) (n : Nat) (E : Env) (a : Act) : Prop where
  tmp : ∀ t, t < 1000000 → slotR m (Env.at E t) (a.tmps.getD t undef)
  glob : ∀ g, slotR m (Env.at E (1000000 + g)) (.pointer (some ⟨g, 0, none⟩))
  size : a.tmps.size = n
  base : M0.le m

theorem EnvR.mono {M0 m m' : Mu} (h : m.le m') {n : Nat} {E : Env} {a : Act} (e : EnvR M0 m n E a) : EnvR M0 m' n E a :=
  ⟨fun t ht => (e.tmp t ht).mono h, fun g => (e.glob g).mono h, e.size, Mu.le_trans e.base h⟩

theorem constFlat_sound {m : Mu} {v : Value} {a : AV} (h : constFlat v = some a) : cvo m a = some v := by
  unfold constFlat at h
  split at h <;> first | (cases h; rfl) | (cases h; simp [cvo]) | skip
  all_goals simp at h

theorem mapM_const {m : Mu} : ∀ {l : List Value} {r : List AV}, l.mapM constFlat = some r → cvos m r = some l
  | [], r, h => by simp at h; subst h; rfl
  | v :: l, r, h => by
    simp only [List.mapM_cons, Option.bind_eq_bind, Option.bind_eq_some_iff, Option.pure_def, Option.some.injEq] at h
    obtain ⟨a, ha, r', hr, rfl⟩ := h
    simp [cvos, constFlat_sound (m := m) ha, mapM_const (m := m) hr]

theorem constAV_sound {m : Mu} (v : Value) : slotR m (constAV v) v := by
  have hflat : ∀ v : Value, slotR m ((constFlat v).getD .bot) v := fun v => by
    cases h : constFlat v with
    | none => exact .inl rfl
    | some a => exact .inr (constFlat_sound h)
  unfold constAV
  split
  · rename_i cs
    cases h : cs.toList.mapM constFlat with
    | none => exact .inl rfl
    | some l => exact .inr (by simp [cvo, mapM_const (m := m) h])
  · exact hflat _

theorem ev_sound {M0 m : Mu} {n : Nat} {E : Env} {a : Act} (e : EnvR M0 m n E a) (x : Operand) : slotR m (ev E x) (a.eval x) := by
  cases x with
  | tmp t =>
    simp only [ev, Act.eval]
    cases h : Nat.blt t 1000000 with
    | true => exact e.tmp t (by simpa [Nat.blt_eq] using h)
    | false => exact .inl rfl
  | const v => exact constAV_sound v
  | global g => exact e.glob g
  | func f => exact .inr (by simp [ev, cvo, cvos, Act.eval])

theorem evs_sound {M0 m : Mu} {n : Nat} {E : Env} {a : Act} (e : EnvR M0 m n E a) : ∀ (l : List Operand), allKnown (evs E l) = true → cvos m (evs E l) = some (l.map a.eval)
  | [], _ => rfl
  | x :: l, h => by
    have hx := ev_sound e x
    have hne : ev E x ≠ .bot := by intro hb; simp [evs, hb, allKnown] at h
    have hl : allKnown (evs E l) = true := by
      simp only [evs] at h
      cases hv : ev E x <;> simp [hv, allKnown] at h <;> first | exact h | exact absurd hv hne
    simp [evs, cvos, hx.cv hne, evs_sound e l hl]

theorem EnvR.put {M0 m : Mu} {n : Nat} {E : Env} {a : Act} (e : EnvR M0 m n E a) {d : Option Nat} (hd : dstOk n d = true) {v : AV} {c : Value} (h : slotR m v c) : EnvR M0 m n (Env.put E d v) (a.put d c) := by
  cases d with
  | none => exact e
  | some d =>
    simp [dstOk] at hd
    refine ⟨fun t ht => ?_, fun g => ?_, by simp [Act.put, e.size], e.base⟩
    · simp only [Env.put, Env.at, T.get_set, Act.put]
      by_cases htd : t = d
      · subst htd
        rw [if_pos rfl]
        have : t < a.tmps.size := by rw [e.size]; exact hd.1
        simp [this]; exact h
      · rw [if_neg htd]
        have := e.tmp t ht
        simp only [Env.at] at this
        simpa [Array.getElem?_setIfInBounds_ne (Ne.symm htd)] using this
    · have := e.glob g
      simp only [Env.put, Env.at, T.get_set] at this ⊢
      rw [if_neg (by omega)]; exact this

section
variable {P : Program} {M0 : Mu} {m : Mu} {n : Nat} {E : Env} {a : Act}

theorem cvo_int {x : AV} {k : IntKind} {i : Int} (h : x = .int k i) {c : Value} (s : slotR m x c) : c = .int k i := by
  subst h; have := s.cv (by simp); simp [cvo] at this; exact this.symm
theorem cvo_bool {x : AV} {b : Bool} (h : x = .bool b) {c : Value} (s : slotR m x c) : c = .bool b := by
  subst h; have := s.cv (by simp); simp [cvo] at this; exact this.symm
theorem cvo_str {x : AV} {b : List UInt8} (h : x = .str b) {c : Value} (s : slotR m x c) : c = .string ⟨b.toArray⟩ := by
  subst h; have := s.cv (by simp); simp [cvo] at this; exact this.symm

theorem bytesLess_eq : ∀ (x y : List UInt8), bytesLess x y = Op.bytesLess x y
  | _, [] => by unfold bytesLess Op.bytesLess; rfl
  | [], _ :: _ => rfl
  | a :: x, b :: y => by simp only [bytesLess, Op.bytesLess, bytesLess_eq x y]

theorem bin_sound {op : BinOp} {x y r : AV} {cx cy : Value} (t : TypeId) (sx : slotR m x cx) (sy : slotR m y cy) (h : binOf op x y = some r) (w : World) :
    ∃ c, (binOp op t cx cy).run P w = .ok c w ∧ cvo m r = some c := by
  unfold binOf at h
  split at h
  · rename_i k i j l
    have e1 := cvo_int rfl sx; have e2 := cvo_int rfl sy
    subst e1; subst e2
    cases hs : isShift op with
    | true =>
      rw [hs] at h; simp only [cond_true] at h
      unfold shiftInt at h
      split at h
      · cases h
      · rename_i hneg
        cases op <;> simp [isShift] at hs <;> simp at h <;> subst h
        all_goals simp [binOp, Op.shift, hneg, cvo]
    | false =>
      rw [hs] at h; simp only [cond_false] at h
      split at h
      · rename_i hk; subst hk
        cases op <;> simp [isShift] at hs <;> simp only [binInt] at h <;> first
          | (cases h; simp [binOp, Op.intArith, Op.intBits, Op.intCmp, cvo]; done)
          | (split at h
             · cases h
             · rename_i hz; cases h; simp [binOp, Op.intDiv, hz, cvo])
      · cases h
  · rename_i i j
    have e1 := cvo_str rfl sx; have e2 := cvo_str rfl sy
    subst e1; subst e2
    have hl : ∀ l : List UInt8, (⟨l.toArray⟩ : ByteArray).toList = l := fun l => ByteArray.toList_eq _
    cases op <;> simp only [binStr] at h <;> first
      | (cases h; done)
      | (cases h; simp [binOp, Op.stringOp, hl, bytesLess_eq, cvo]; done)
      | (split at h
         · rename_i hlen
           cases h
           refine ⟨.string (⟨i.toArray⟩ ++ ⟨j.toArray⟩), ?_, by rw [ByteArray.mk_append_mk]; rfl⟩
           simp only [binOp]
           exact run_string_add_sum w _ _ (by simpa [ByteArray.size] using hlen)
         · cases h)
  · cases h

theorem plc_add {p : Pl} {ad : Addr} (h : plc m p = some ad) (k : Nat) : plc m (p.1, p.2.1, p.2.2 + k) = some (ad.add k) ∧ ad.spot = none := by
  unfold plc at *
  dsimp only at *
  split at h
  · rename_i l hl
    split at h
    · rename_i hlo
      cases h
      rw [if_pos (by omega), Addr.add_mk]
      exact ⟨by congr 2; omega, rfl⟩
    · cases h
  · cases h

theorem slice_sound {p : Pl} {po len cap q : Nat} {x : AV} (h : x = .slice (some p) po len cap q) {c : Value} (s : slotR m x c) : ∃ bs cap', c = .slice (some bs) len cap' ∧ len ≤ cap' ∧ (0 < len → plc m p = some bs) ∧ bs.spot = none := by
  subst h
  have hx := s.cv (by simp)
  cases q with
  | zero =>
    simp only [cvo] at hx
    split at hx
    · simp only [Option.map_eq_some_iff] at hx
      obtain ⟨ad, h1, h2⟩ := hx
      exact ⟨ad, cap, h2.symm, by assumption, fun _ => h1, (plc_add h1 0).2⟩
    · cases hx
  | succ q =>
    simp only [cvo] at hx
    split at hx
    · split at hx
      · rename_i l hl hc
        simp only [Option.map_eq_some_iff] at hx
        obtain ⟨ad, h1, h2⟩ := hx
        exact ⟨ad, _, h2.symm, by omega, fun h0 => by rw [if_neg (by omega)] at h1; exact h1, (plc_add h1 0).2⟩
      · cases hx
    · cases hx
theorem un_sound {op : UnOp} {x r : AV} {cx : Value} (sx : slotR m x cx) (h : unOf op x = some r) (w : World) : ∃ c, (Op.unary op cx).run P w = .ok c w ∧ cvo m r = some c := by
  unfold unOf at h
  split at h
  · cases h; have e := cvo_int rfl sx; subst e; rename_i k z; exact ⟨.int k (k.wrap (0 - z)), rfl, rfl⟩
  · cases h; have e := cvo_int rfl sx; subst e; exact ⟨_, rfl, rfl⟩
  · cases h; have e := cvo_bool rfl sx; subst e; exact ⟨_, rfl, rfl⟩
  · cases h

theorem index_sound {k : Nat} {i : AV} {j : Nat} {ci : Value} (s : slotR m i ci) (h : index? k i = some j) : ∃ kk, ci = .int kk (j : Int) ∧ j < k := by
  unfold index? at h
  split at h
  · split at h
    · rename_i kk z hz
      cases h
      refine ⟨kk, ?_, by omega⟩
      rw [cvo_int rfl s]
      congr 1
      omega
    · cases h
  · cases h
theorem bound_sound {k : Nat} {i : AV} {j : Nat} {ci : Value} (s : slotR m i ci) (h : bound? k i = some j) : ∃ kk, ci = .int kk (j : Int) ∧ j ≤ k := by
  unfold bound? at h
  split at h
  · split at h
    · rename_i kk z hz
      cases h
      refine ⟨kk, ?_, by omega⟩
      rw [cvo_int rfl s]
      congr 1
      omega
    · cases h
  · cases h
theorem run_sliceBound {k : IntKind} {j y : Nat} {code : BoundsCode} (h : j ≤ y) (w : World) : (Instr.sliceBound (.int k (j : Int)) y code).run P w = .ok j w := by
  have : (0 : Int) ≤ j ∧ (j : Int) ≤ y := by omega
  simp [Instr.sliceBound, asIntOf, this]

theorem ptr_sound {x : AV} {p : Pl} (h : x = .ptr (some p)) {c : Value} (s : slotR m x c) : ∃ ad, plc m p = some ad ∧ c = .pointer (some ad) := by
  subst h
  have := s.cv (by simp)
  simp only [cvo, Option.map_eq_some_iff] at this
  obtain ⟨ad, h1, h2⟩ := this
  exact ⟨ad, h1, h2.symm⟩
theorem agg_sound {x : AV} {cs : List AV} (h : x = .agg cs) {c : Value} (s : slotR m x c) : ∃ ys, cvos m cs = some ys ∧ c = .agg ys.toArray := by
  subst h
  have := s.cv (by simp)
  simp only [cvo, Option.map_eq_some_iff] at this
  obtain ⟨ys, h1, h2⟩ := this
  exact ⟨ys, h1, h2.symm⟩
theorem addr_cvo {p : Pl} {ad : Addr} (h : plc m p = some ad) (k : Nat) : cvo m (AV.addr p k) = some (.pointer (some (ad.add k))) := by
  simp [AV.addr, cvo, (plc_add h k).1]

theorem part_sound {t : TypeId} {i : TypeInfo} (hi : P.info? t = some i) {d : TypeDesc} (hd : P.underlying t = some d) {cs : List AV} {ys : List Value} (hc : cvos m cs = some ys) {off : Nat} {r : AV} (h : partOf (isAggB P t) cs off i.size = some r) (w : World) :
    ∃ c, (part t ys.toArray off).run P w = .ok c w ∧ cvo m r = some c := by
  unfold partOf at h
  have hlen := cvos_length hc
  cases hg : isAggB P t with
  | true =>
    rw [hg] at h; simp only [cond_true] at h
    split at h
    · rename_i hle
      cases h
      obtain ⟨zs, hz⟩ := cvos_drop_take (m := m) (cs := cs) (o := off) (n := i.size) (fun j a _ _ ha => by obtain ⟨y, hy, _⟩ := cvos_get hc ha; exact ⟨y, hy⟩)
      refine ⟨.agg (ys.toArray.extract off (off + i.size)), ?_, ?_⟩
      · have hagg : (isAgg t).run P w = .ok true w := by
          unfold isAggB at hg
          rw [hd] at hg
          cases d <;> simp at hg <;> simp [isAgg, run_underlying hd]
        simp [part, hagg, sizeOf, typeInfo, hi]
      · simp only [cvo, hz, Option.map_some]
        congr 2
        apply Array.ext'
        have hl := cvos_length hz
        simp only [List.extract_toArray, List.extract_eq_take_drop]
        apply List.ext_getElem?
        intro j
        rw [show off + i.size - off = i.size by omega, List.getElem?_take]
        split
        · rename_i hj
          rw [List.getElem?_drop]
          cases e : cs[off + j]? with
          | none => rw [List.getElem?_eq_none_iff] at e; omega
          | some a =>
            obtain ⟨y, hy, h1⟩ := cvos_get hc e
            obtain ⟨y', hy', h2⟩ := cvos_get hz (j := j) (a := a) (by rw [List.getElem?_take, if_pos hj, List.getElem?_drop]; exact e)
            rw [hy] at hy'; cases hy'; rw [h1, h2]
        · rename_i hj
          rw [List.getElem?_eq_none_iff, hl, List.length_take]; omega
    · cases h
  | false =>
    rw [hg] at h; simp only [cond_false] at h
    obtain ⟨y, hy, hj⟩ := cvos_get hc h
    refine ⟨y, ?_, hy⟩
    have hagg : (isAgg t).run P w = .ok false w := by
      unfold isAggB at hg
      rw [hd] at hg
      cases d <;> simp at hg <;> simp [isAgg, run_underlying hd]
    simp [part, hagg, hj]
end
end Go.AM
