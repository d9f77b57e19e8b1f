/- The abstract machine: operations of their operands alone. -/
import Derived.Test.YtejlhgcheaimjaaGreatDoorAmHeap
import Derived.Laws.Entries
import Derived.Laws.Pointers
import Derived.Laws.Small
import Derived.Laws.Strings
import Derived.Laws.Concat
import Derived.ChangeKeysEq
import Derived.Lib.ConvBytes
import Derived.Laws.MakeOwn
namespace Go.AM
set_option linter.unusedVariables false
set_option linter.unusedSimpArgs false

def slotR (m : Mu) (v : AV) (c : Value) : Prop := v = .bot ∨ cvo m v = some c
theorem slotR.mono {m m' : Mu} (h : m.le m') {v : AV} {c : Value} (s : slotR m v c) : slotR m' v c := s.imp id (cvo_mono h _ _)
theorem slotR.of {m : Mu} {v : AV} {c : Value} (h : cvo m v = some c) : slotR m v c := .inr h
theorem slotR.cv {m : Mu} {v : AV} {c : Value} (s : slotR m v c) (h : v ≠ .bot) : cvo m v = some c := s.resolve_left h

structure EnvR (M0 m : Mu) (n : Nat) (E : Env) (a : Act) : Prop where
  tmp : ∀ t, t < 1000000 → slotR m (Env.at E t) (a.tmps.getD t undef)
  glob : ∀ g, slotR m (Env.at E (1000000 + g)) (.pointer (some ⟨g, 0, none⟩))
  size : a.tmps.size = n
  base : M0.le m

theorem EnvR.mono {M0 m m' : Mu} (h : m.le m') {n : Nat} {E : Env} {a : Act} (e : EnvR M0 m n E a) : EnvR M0 m' n E a :=
  ⟨fun t ht => (e.tmp t ht).mono h, fun g => (e.glob g).mono h, e.size, Mu.le_trans e.base h⟩

theorem constFlat_sound {m : Mu} {v : Value} {a : AV} (h : constFlat v = some a) : cvo m a = some v := by
  unfold constFlat at h
  split at h <;> first | (cases h; rfl) | (cases h; simp [cvo]) | skip
  all_goals simp at h

theorem mapM_const {m : Mu} : ∀ {l : List Value} {r : List AV}, l.mapM constFlat = some r → cvos m r = some l
  | [], r, h => by simp at h; subst h; rfl
  | v :: l, r, h => by
    simp only [List.mapM_cons, Option.bind_eq_bind, Option.bind_eq_some_iff, Option.pure_def, Option.some.injEq] at h
    obtain ⟨a, ha, r', hr, rfl⟩ := h
    simp [cvos, constFlat_sound (m := m) ha, mapM_const (m := m) hr]

theorem constAV_sound {m : Mu} (v : Value) : slotR m (constAV v) v := by
  have hflat : ∀ v : Value, slotR m ((constFlat v).getD .bot) v := fun v => by
    cases h : constFlat v with
    | none => exact .inl rfl
    | some a => exact .inr (constFlat_sound h)
  unfold constAV
  split
  · rename_i cs
    cases h : cs.toList.mapM constFlat with
    | none => exact .inl rfl
    | some l => exact .inr (by simp [cvo, mapM_const (m := m) h])
  · exact hflat _

theorem ev_sound {M0 m : Mu} {n : Nat} {E : Env} {a : Act} (e : EnvR M0 m n E a) (x : Operand) : slotR m (ev E x) (a.eval x) := by
  cases x with
  | tmp t =>
    simp only [ev, Act.eval]
    cases h : Nat.blt t 1000000 with
    | true => exact e.tmp t (by simpa [Nat.blt_eq] using h)
    | false => exact .inl rfl
  | const v => exact constAV_sound v
  | global g => exact e.glob g
  | func f => exact .inr (by simp [ev, cvo, cvos, Act.eval])

theorem evs_sound {M0 m : Mu} {n : Nat} {E : Env} {a : Act} (e : EnvR M0 m n E a) : ∀ (l : List Operand), allKnown (evs E l) = true → cvos m (evs E l) = some (l.map a.eval)
  | [], _ => rfl
  | x :: l, h => by
    have hx := ev_sound e x
    have hne : ev E x ≠ .bot := by intro hb; simp [evs, hb, allKnown] at h
    have hl : allKnown (evs E l) = true := by
      simp only [evs] at h
      cases hv : ev E x <;> simp [hv, allKnown] at h <;> first | exact h | exact absurd hv hne
    simp [evs, cvos, hx.cv hne, evs_sound e l hl]

theorem EnvR.put {M0 m : Mu} {n : Nat} {E : Env} {a : Act} (e : EnvR M0 m n E a) {d : Option Nat} (hd : dstOk n d = true) {v : AV} {c : Value} (h : slotR m v c) : EnvR M0 m n (Env.put E d v) (a.put d c) := by
  cases d with
  | none => exact e
  | some d =>
    simp [dstOk] at hd
    refine ⟨fun t ht => ?_, fun g => ?_, by simp [Act.put, e.size], e.base⟩
    · simp only [Env.put, Env.at, T.get_set, Act.put]
      by_cases htd : t = d
      · subst htd
        rw [if_pos rfl]
        have : t < a.tmps.size := by rw [e.size]; exact hd.1
        simp [this]; exact h
      · rw [if_neg htd]
        have := e.tmp t ht
        simp only [Env.at] at this
        simpa [Array.getElem?_setIfInBounds_ne (Ne.symm htd)] using this
    · have := e.glob g
      simp only [Env.put, Env.at, T.get_set] at this ⊢
      rw [if_neg (by omega)]; exact this

section
variable {P : Program} {M0 : Mu} {m : Mu} {n : Nat} {E : Env} {a : Act}

theorem cvo_int {x : AV} {k : IntKind} {i : Int} (h : x = .int k i) {c : Value} (s : slotR m x c) : c = .int k i := by
  subst h; have := s.cv (by simp); simp [cvo] at this; exact this.symm
theorem cvo_bool {x : AV} {b : Bool} (h : x = .bool b) {c : Value} (s : slotR m x c) : c = .bool b := by
  subst h; have := s.cv (by simp); simp [cvo] at this; exact this.symm
theorem cvo_str {x : AV} {b : List UInt8} (h : x = .str b) {c : Value} (s : slotR m x c) : c = .string ⟨b.toArray⟩ := by
  subst h; have := s.cv (by simp); simp [cvo] at this; exact this.symm

theorem bytesLess_eq : ∀ (x y : List UInt8), bytesLess x y = Op.bytesLess x y
  | _, [] => by unfold bytesLess Op.bytesLess; rfl
  | [], _ :: _ => rfl
  | a :: x, b :: y => by simp only [bytesLess, Op.bytesLess, bytesLess_eq x y]

theorem bin_sound {op : BinOp} {x y r : AV} {cx cy : Value} (t : TypeId) (sx : slotR m x cx) (sy : slotR m y cy) (h : binOf op x y = some r) (w : World) :
    ∃ c, (binOp op t cx cy).run P w = .ok c w ∧ cvo m r = some c := by
  unfold binOf at h
  split at h
  · rename_i k i j l
    have e1 := cvo_int rfl sx; have e2 := cvo_int rfl sy
    subst e1; subst e2
    cases hs : isShift op with
    | true =>
      rw [hs] at h; simp only [cond_true] at h
      unfold shiftInt at h
      split at h
      · cases h
      · rename_i hneg
        cases op <;> simp [isShift] at hs <;> simp at h <;> subst h
        all_goals simp [binOp, Op.shift, hneg, cvo]
    | false =>
      rw [hs] at h; simp only [cond_false] at h
      split at h
      · rename_i hk; subst hk
        cases op <;> simp [isShift] at hs <;> simp only [binInt] at h <;> first
          | (cases h; simp [binOp, Op.intArith, Op.intBits, Op.intCmp, cvo]; done)
          | (split at h
             · cases h
             · rename_i hz; cases h; simp [binOp, Op.intDiv, hz, cvo])
      · cases h
  · rename_i i j
    have e1 := cvo_str rfl sx; have e2 := cvo_str rfl sy
    subst e1; subst e2
    have hl : ∀ l : List UInt8, (⟨l.toArray⟩ : ByteArray).toList = l := fun l => ByteArray.toList_eq _
    cases op <;> simp only [binStr] at h <;> first
      | (cases h; done)
      | (cases h; simp [binOp, Op.stringOp, hl, bytesLess_eq, cvo]; done)
      | (split at h
         · rename_i hlen
           cases h
           refine ⟨.string (⟨i.toArray⟩ ++ ⟨j.toArray⟩), ?_, by rw [ByteArray.mk_append_mk]; rfl⟩
           simp only [binOp]
           exact run_string_add_sum w _ _ (by simpa [ByteArray.size] using hlen)
         · cases h)
  · cases h

theorem plc_add {p : Pl} {ad : Addr} (h : plc m p = some ad) (k : Nat) : plc m (p.1, p.2.1, p.2.2 + k) = some (ad.add k) ∧ ad.spot = none := by
  unfold plc at *
  dsimp only at *
  split at h
  · rename_i l hl
    split at h
    · rename_i hlo
      cases h
      rw [if_pos (by omega), Addr.add_mk]
      exact ⟨by congr 2; omega, rfl⟩
    · cases h
  · cases h

theorem slice_sound {p : Pl} {po len cap q : Nat} {x : AV} (h : x = .slice (some p) po len cap q) {c : Value} (s : slotR m x c) : ∃ bs cap', c = .slice (some bs) len cap' ∧ len ≤ cap' ∧ (0 < len → plc m p = some bs) ∧ bs.spot = none := by
  subst h
  have hx := s.cv (by simp)
  cases q with
  | zero =>
    simp only [cvo] at hx
    split at hx
    · simp only [Option.map_eq_some_iff] at hx
      obtain ⟨ad, h1, h2⟩ := hx
      exact ⟨ad, cap, h2.symm, by assumption, fun _ => h1, (plc_add h1 0).2⟩
    · cases hx
  | succ q =>
    simp only [cvo] at hx
    split at hx
    · split at hx
      · rename_i l hl hc
        simp only [Option.map_eq_some_iff] at hx
        obtain ⟨ad, h1, h2⟩ := hx
        exact ⟨ad, _, h2.symm, by omega, fun h0 => by rw [if_neg (by omega)] at h1; exact h1, (plc_add h1 0).2⟩
      · cases hx
    · cases hx
theorem un_sound {op : UnOp} {x r : AV} {cx : Value} (sx : slotR m x cx) (h : unOf op x = some r) (w : World) : ∃ c, (Op.unary op cx).run P w = .ok c w ∧ cvo m r = some c := by
  unfold unOf at h
  split at h
  · cases h; have e := cvo_int rfl sx; subst e; rename_i k z; exact ⟨.int k (k.wrap (0 - z)), rfl, rfl⟩
  · cases h; have e := cvo_int rfl sx; subst e; exact ⟨_, rfl, rfl⟩
  · cases h; have e := cvo_bool rfl sx; subst e; exact ⟨_, rfl, rfl⟩
  · cases h

theorem index_sound {k : Nat} {i : AV} {j : Nat} {ci : Value} (s : slotR m i ci) (h : index? k i = some j) : ∃ kk, ci = .int kk (j : Int) ∧ j < k := by
  unfold index? at h
  split at h
  · split at h
    · rename_i kk z hz
      cases h
      refine ⟨kk, ?_, by omega⟩
      rw [cvo_int rfl s]
      congr 1
      omega
    · cases h
  · cases h
theorem bound_sound {k : Nat} {i : AV} {j : Nat} {ci : Value} (s : slotR m i ci) (h : bound? k i = some j) : ∃ kk, ci = .int kk (j : Int) ∧ j ≤ k := by
  unfold bound? at h
  split at h
  · split at h
    · rename_i kk z hz
      cases h
      refine ⟨kk, ?_, by omega⟩
      rw [cvo_int rfl s]
      congr 1
      omega
    · cases h
  · cases h
theorem run_sliceBound {k : IntKind} {j y : Nat} {code : BoundsCode} (h : j ≤ y) (w : World) : (Instr.sliceBound (.int k (j : Int)) y code).run P w = .ok j w := by
  have : (0 : Int) ≤ j ∧ (j : Int) ≤ y := by omega
  simp [Instr.sliceBound, asIntOf, this]

theorem ptr_sound {x : AV} {p : Pl} (h : x = .ptr (some p)) {c : Value} (s : slotR m x c) : ∃ ad, plc m p = some ad ∧ c = .pointer (some ad) := by
  subst h
  have := s.cv (by simp)
  simp only [cvo, Option.map_eq_some_iff] at this
  obtain ⟨ad, h1, h2⟩ := this
  exact ⟨ad, h1, h2.symm⟩
theorem agg_sound {x : AV} {cs : List AV} (h : x = .agg cs) {c : Value} (s : slotR m x c) : ∃ ys, cvos m cs = some ys ∧ c = .agg ys.toArray := by
  subst h
  have := s.cv (by simp)
  simp only [cvo, Option.map_eq_some_iff] at this
  obtain ⟨ys, h1, h2⟩ := this
  exact ⟨ys, h1, h2.symm⟩
theorem addr_cvo {p : Pl} {ad : Addr} (h : plc m p = some ad) (k : Nat) : cvo m (AV.addr p k) = some (.pointer (some (ad.add k))) := by
  simp [AV.addr, cvo, (plc_add h k).1]

theorem part_sound {t : TypeId} {i : TypeInfo} (hi : P.info? t = some i) {d : TypeDesc} (hd : P.underlying t = some d) {cs : List AV} {ys : List Value} (hc : cvos m cs = some ys) {off : Nat} {r : AV} (h : partOf (isAggB P t) cs off i.size = some r) (w : World) :
    ∃ c, (part t ys.toArray off).run P w = .ok c w ∧ cvo m r = some c := by
  unfold partOf at h
  have hlen := cvos_length hc
  cases hg : isAggB P t with
  | true =>
    rw [hg] at h; simp only [cond_true] at h
    split at h
    · rename_i hle
      cases h
      obtain ⟨zs, hz⟩ := cvos_drop_take (m := m) (cs := cs) (o := off) (n := i.size) (fun j a _ _ ha => by obtain ⟨y, hy, _⟩ := cvos_get hc ha; exact ⟨y, hy⟩)
      refine ⟨.agg (ys.toArray.extract off (off + i.size)), ?_, ?_⟩
      · have hagg : (isAgg t).run P w = .ok true w := by
          unfold isAggB at hg
          rw [hd] at hg
          cases d <;> simp at hg <;> simp [isAgg, run_underlying hd]
        simp [part, hagg, sizeOf, typeInfo, hi]
      · simp only [cvo, hz, Option.map_some]
        congr 2
        apply Array.ext'
        have hl := cvos_length hz
        simp only [List.extract_toArray, List.extract_eq_take_drop]
        apply List.ext_getElem?
        intro j
        rw [show off + i.size - off = i.size by omega, List.getElem?_take]
        split
        · rename_i hj
          rw [List.getElem?_drop]
          cases e : cs[off + j]? with
          | none => rw [List.getElem?_eq_none_iff] at e; omega
          | some a =>
            obtain ⟨y, hy, h1⟩ := cvos_get hc e
            obtain ⟨y', hy', h2⟩ := cvos_get hz (j := j) (a := a) (by rw [List.getElem?_take, if_pos hj, List.getElem?_drop]; exact e)
            rw [hy] at hy'; cases hy'; rw [h1, h2]
        · rename_i hj
          rw [List.getElem?_eq_none_iff, hl, List.length_take]; omega
    · cases h
  | false =>
    rw [hg] at h; simp only [cond_false] at h
    obtain ⟨y, hy, hj⟩ := cvos_get hc h
    refine ⟨y, ?_, hy⟩
    have hagg : (isAgg t).run P w = .ok false w := by
      unfold isAggB at hg
      rw [hd] at hg
      cases d <;> simp at hg <;> simp [isAgg, run_underlying hd]
    simp [part, hagg, hj]
end
end Go.AM
/- The abstract machine: operations of their operands alone, all of them. -/
namespace Go.AM
set_option linter.unusedVariables false
set_option linter.unusedSimpArgs false
section
variable {P : Program} {M0 : Mu} {m : Mu} {n : Nat} {E : Env} {a : Act}

theorem szOf_some {t : TypeId} {s : Nat} (h : szOf P t = some s) : ∃ i, P.info? t = some i ∧ i.size = s := by
  unfold szOf at h; simpa [Option.map_eq_some_iff] using h

/-- What a pure operation comes to. -/
def PureOk (P : Program) (m : Mu) (a : Act) (o : Oper) (v : AV) (w : World) : Prop := ∃ c, (execOp a.eval o).run P w = .ok (.value c) w ∧ slotR m v c

theorem run_asBool (b : Bool) (w : World) : (asBool (.bool b)).run P w = .ok b w := rfl

theorem bounds_sound {cap len : Nat} {lo hi mx : Option Operand} {mm h l : Nat} (e : EnvR M0 m n E a) (hm : boundMx (evo E mx) cap = some mm) (hh : boundHi (evo E hi) mm len = some h) (hl : boundLo (evo E lo) h = some l) (hx : ¬ ((evo E mx).isSome && (evo E hi).isNone) = true) (isSlice : Bool) (w : World) :
    (Instr.sliceBounds isSlice len cap (lo.map a.eval) (hi.map a.eval) (mx.map a.eval)).run P w = .ok (l, h, mm) w ∧ l ≤ h ∧ mm ≤ cap ∧ (hi.isSome = true → h ≤ mm) := by
  have hL : ∀ x j, lo = some x → boundLo (evo E (some x)) h = some j → ∃ k, a.eval x = .int k (j : Int) ∧ j ≤ h := fun x j _ hj => bound_sound (ev_sound e x) hj
  have hH : ∀ x j, hi = some x → boundHi (evo E (some x)) mm len = some j → ∃ k, a.eval x = .int k (j : Int) ∧ j ≤ mm := fun x j _ hj => bound_sound (ev_sound e x) hj
  have hM : ∀ x j, mx = some x → boundMx (evo E (some x)) cap = some j → ∃ k, a.eval x = .int k (j : Int) ∧ j ≤ cap := fun x j _ hj => bound_sound (ev_sound e x) hj
  have hmc : mm ≤ cap := by
    cases mx with
    | none => simp [evo, boundMx] at hm; omega
    | some x => obtain ⟨_, _, q⟩ := hM x mm rfl hm; exact q
  have hhm : hi.isSome = true → h ≤ mm := by
    cases hi with
    | none => simp
    | some x => obtain ⟨_, _, q⟩ := hH x h rfl hh; exact fun _ => q
  have hlh : l ≤ h := by
    cases lo with
    | none => simp [evo, boundLo] at hl; omega
    | some x => obtain ⟨_, _, q⟩ := hL x l rfl hl; exact q
  refine ⟨?_, hlh, hmc, hhm⟩
  cases mx with
  | none =>
    simp [evo, boundMx] at hm; subst hm
    cases hi with
    | none =>
      simp [evo, boundHi] at hh; subst hh
      cases lo with
      | none => simp [evo, boundLo] at hl; subst hl; simp [Instr.sliceBounds]
      | some z => obtain ⟨_, q, _⟩ := hL z l rfl hl; simp [Instr.sliceBounds, q, run_sliceBound hlh]
    | some y =>
      obtain ⟨_, qh, _⟩ := hH y h rfl hh
      cases lo with
      | none => simp [evo, boundLo] at hl; subst hl; simp [Instr.sliceBounds, qh, run_sliceBound (hhm rfl)]
      | some z => obtain ⟨_, q, _⟩ := hL z l rfl hl; simp [Instr.sliceBounds, q, qh, run_sliceBound (hhm rfl), run_sliceBound hlh]
  | some x =>
    obtain ⟨_, qm, _⟩ := hM x mm rfl hm
    cases hi with
    | none => simp [evo] at hx
    | some y =>
      obtain ⟨_, qh, _⟩ := hH y h rfl hh
      cases lo with
      | none => simp [evo, boundLo] at hl; subst hl; simp [Instr.sliceBounds, qm, qh, run_sliceBound hmc, run_sliceBound (hhm rfl)]
      | some z => obtain ⟨_, q, _⟩ := hL z l rfl hl; simp [Instr.sliceBounds, q, qm, qh, run_sliceBound hmc, run_sliceBound (hhm rfl), run_sliceBound hlh]

theorem cells_sound {v : AV} {c : Value} (s : slotR m v c) (hb : v.isBot = false) : ∃ us, cvos m v.cells = some us ∧ c.cells = us.toArray := by
  have hne : v ≠ .bot := by intro h; subst h; cases hb
  have hc := s.cv hne
  have one : v.cells = [v] → c.cells = #[c] → ∃ us, cvos m v.cells = some us ∧ c.cells = us.toArray := fun h1 h2 => ⟨[c], by rw [h1]; simp [cvos, hc], by rw [h2]⟩
  cases v with
  | agg l => obtain ⟨us, h1, h2⟩ := agg_sound rfl s; exact ⟨us, h1, by rw [h2]; rfl⟩
  | bot => cases hb
  | tuple l => refine one rfl ?_; simp only [cvo, Option.map_eq_some_iff] at hc; obtain ⟨_, _, rfl⟩ := hc; rfl
  | _ => refine one rfl ?_; have := oneCell_of_flat (m := m) (by rfl) hc; cases c <;> first | rfl | (simp [Value.oneCell'] at this)

theorem fold_splice (off : Nat) : ∀ (us : List Value) (k : Nat) (ys : List Value), off + k + us.length ≤ ys.length →
    (us.zipIdx k).foldl (fun (cs : Array Value) (x : Value × Nat) => cs.setIfInBounds (off + x.2) x.1) ys.toArray = (ys.take (off + k) ++ (us ++ ys.drop (off + k + us.length))).toArray
  | [], k, ys, _ => by simp
  | u :: us, k, ys, h => by
    simp at h
    simp only [List.zipIdx_cons, List.foldl_cons, List.setIfInBounds_toArray]
    rw [fold_splice off us (k + 1) _ (by simp; omega)]
    have e1 : (ys.set (off + k) u).take (off + (k + 1)) = ys.take (off + k) ++ [u] := by
      rw [List.set_eq_take_append_cons_drop, if_pos (by omega), List.take_append, List.length_take, Nat.min_eq_left (by omega), show off + (k + 1) - (off + k) = 1 by omega, List.take_of_length_le (by simp; omega)]
      rfl
    have e2 : (ys.set (off + k) u).drop (off + (k + 1) + us.length) = ys.drop (off + k + (us.length + 1)) := by
      rw [List.drop_set_of_lt (by omega)]; congr 1; omega
    rw [e1, e2, List.append_assoc]
    rfl

theorem cvos_take : ∀ {l : List AV} {ys : List Value}, cvos m l = some ys → ∀ k, cvos m (l.take k) = some (ys.take k)
  | _, _, _, 0 => by simp [cvos]
  | [], ys, h, k + 1 => by simp [cvos] at h; subst h; simp [cvos]
  | a :: l, ys, h, k + 1 => by
    simp only [cvos] at h
    split at h
    · rename_i y zs hy hz; cases h; simp [cvos, hy, cvos_take hz k]
    · cases h
theorem cvos_drop : ∀ {l : List AV} {ys : List Value}, cvos m l = some ys → ∀ k, cvos m (l.drop k) = some (ys.drop k)
  | _, _, h, 0 => by simpa using h
  | [], ys, h, k + 1 => by simp [cvos] at h; subst h; simp [cvos]
  | a :: l, ys, h, k + 1 => by
    simp only [cvos] at h
    split at h
    · rename_i y zs hy hz; cases h; simpa using cvos_drop hz k
    · cases h
def splice' (cs : List Value) (o : Nat) (l : List Value) : List Value := cs.take o ++ (l ++ cs.drop (o + l.length))

theorem fill_sound {place : Nat → Option (Nat × Nat)} : ∀ {parts : List (Nat × Operand)} {ap : List (Nat × Nat × Operand)} {cells : List AV} {r : List AV} {ys : List Value},
    (∀ (k : Nat) i x, parts[k]? = some (i, x) → ∃ o s, ap[k]? = some (o, s, x) ∧ place i = some (o, s)) → ap.length = parts.length → EnvR M0 m n E a → cvos m cells = some ys → fillA cells (evParts E ap) = some r →
    ∃ zs, Instr.fill place ys.toArray (parts.map fun (i, x) => (i, a.eval x)) = some zs.toArray ∧ cvos m r = some zs
  | [], [], cells, r, ys, _, _, e, hc, h => by simp [evParts, fillA] at h; subst h; exact ⟨ys, rfl, hc⟩
  | [], _ :: _, _, _, _, _, hl, _, _, _ => by simp at hl
  | _ :: _, [], _, _, _, _, hl, _, _, _ => by simp at hl
  | (i, x) :: parts, (o, s, x') :: ap, cells, r, ys, hp, hl, e, hc, h => by
    obtain ⟨o', s', h1, h2⟩ := hp 0 i x rfl
    simp at h1
    obtain ⟨rfl, rfl, rfl⟩ := h1
    simp only [evParts, fillA] at h
    split at h
    · rename_i hcnd
      obtain ⟨hb, hsz, hin⟩ := hcnd
      have hlen := cvos_length hc
      obtain ⟨us, hu, hcell⟩ := cells_sound (ev_sound e x') hb
      have hul := cvos_length hu
      have hsp : cvos m (splice cells o (ev E x').cells) = some (splice' ys o us) := cvos_append (cvos_take hc o) (cvos_append hu (by rw [← hul]; exact cvos_drop hc _))
      obtain ⟨zs, h3, h4⟩ := fill_sound (fun k i x hk => hp (k + 1) i x hk) (by simpa using hl) e hsp h
      refine ⟨zs, ?_, h4⟩
      rw [← h3]
      simp only [List.map_cons, Instr.fill, h2, hcell]
      rw [if_neg (by simp; omega)]
      congr 1
      rw [Array.zipIdx_toArray, List.foldl_toArray', fold_splice o us 0 ys (by omega)]
      · rfl
      · simp
    · cases h
theorem fillA_length : ∀ {parts : List (Nat × Nat × AV)} {cells r : List AV}, fillA cells parts = some r → r.length = cells.length
  | [], cells, r, h => by simp [fillA] at h; subst h; rfl
  | (o, s, v) :: l, cells, r, h => by
    simp only [fillA] at h
    split at h
    · rename_i hc
      rw [fillA_length h, splice_length _ _ _ (by omega)]
    · cases h
end
end Go.AM
/- The abstract machine: every operation of its operands alone comes to what the abstract machine says. -/
namespace Go.AM
set_option linter.unusedVariables false
set_option linter.unusedSimpArgs false
section
variable {P : Program} {M0 : Mu} {m : Mu} {n : Nat} {E : Env} {a : Act}

theorem foldA_min {k : IntKind} : ∀ {l : List AV} {z : Int} {ys : List Value} {r : AV}, cvos m l = some ys → foldA min2 (.int k z) l = some r → ∀ w, ∃ c, (ys.foldlM Builtin.min2 (.int k z)).run P w = .ok c w ∧ cvo m r = some c
  | [], z, ys, r, hc, h, w => by simp [cvos] at hc; subst hc; simp [foldA] at h; subst h; exact ⟨_, rfl, rfl⟩
  | x :: l, z, ys, r, hc, h, w => by
    simp only [cvos] at hc
    split at hc
    · rename_i y us hy hu
      cases hc
      simp only [foldA] at h
      split at h
      · rename_i v hv
        cases x <;> simp [min2] at hv
        obtain ⟨hk, rfl⟩ := hv
        simp [cvo] at hy; subst hy
        obtain ⟨c, h1, h2⟩ := foldA_min (z := _) hu h w
        refine ⟨c, ?_, h2⟩
        rw [List.foldlM_cons]
        simp only [Sem.run_bind]
        show ((Builtin.min2 _ _).run P w).andThen _ = _
        simp only [Builtin.min2, Sem.run_pure, Result.andThen_ok]
        exact h1
      · cases h
    · cases hc
theorem foldA_max {k : IntKind} : ∀ {l : List AV} {z : Int} {ys : List Value} {r : AV}, cvos m l = some ys → foldA max2 (.int k z) l = some r → ∀ w, ∃ c, (ys.foldlM Builtin.max2 (.int k z)).run P w = .ok c w ∧ cvo m r = some c
  | [], z, ys, r, hc, h, w => by simp [cvos] at hc; subst hc; simp [foldA] at h; subst h; exact ⟨_, rfl, rfl⟩
  | x :: l, z, ys, r, hc, h, w => by
    simp only [cvos] at hc
    split at hc
    · rename_i y us hy hu
      cases hc
      simp only [foldA] at h
      split at h
      · rename_i v hv
        cases x <;> simp [max2] at hv
        obtain ⟨hk, rfl⟩ := hv
        simp [cvo] at hy; subst hy
        obtain ⟨c, h1, h2⟩ := foldA_max (z := _) hu h w
        refine ⟨c, ?_, h2⟩
        rw [List.foldlM_cons]
        simp only [Sem.run_bind]
        show ((Builtin.max2 _ _).run P w).andThen _ = _
        simp only [Builtin.max2, Sem.run_pure, Result.andThen_ok]
        exact h1
      · cases h
    · cases hc

theorem cutSlice_sound {x : AV} {cx : Value} {lo hi mx : Option Operand} {size : Nat} {r : AV} (e : EnvR M0 m n E a) (sx : slotR m x cx) (h : cutSliceOf size x (evo E lo) (evo E hi) (evo E mx) = some r) (isS : Bool) (w : World) :
    ∃ bs len cap l hh mm, cx = .slice bs len cap ∧ (Instr.sliceBounds isS len cap (lo.map a.eval) (hi.map a.eval) (mx.map a.eval)).run P w = .ok (l, hh, mm) w ∧
      cvo m r = some (.slice (if mm = l then bs else bs.map (·.add (l * size))) (hh - l) (mm - l)) := by
  unfold cutSliceOf at h
  split at h
  · -- a nil slice
    rename_i po len cap q
    have hx := sx.cv (by simp)
    simp only [cvo] at hx
    split at hx
    · rename_i hz
      obtain ⟨rfl, rfl⟩ := hz
      have hcx : ∃ bs, cx = .slice bs 0 0 := by
        split at hx
        · cases hx; exact ⟨none, rfl⟩
        · simp only [Option.map_eq_some_iff] at hx; obtain ⟨b, _, rfl⟩ := hx; exact ⟨some b, rfl⟩
      obtain ⟨bs, rfl⟩ := hcx
      split at h
      · cases h
      · rename_i hmx
        have hmn : mx = none := by cases mx <;> simp [evo] at hmx ⊢
        subst hmn
        split at h
        · cases h
        · rename_i hh hhi
          split at h
          · cases h
          · rename_i l hlo
            cases h
            obtain ⟨h1, h2, h3, h4⟩ := bounds_sound (P := P) (mx := none) (cap := 0) (mm := 0) e rfl hhi hlo (by simp [evo]) isS w
            have hh0 : hh = 0 := by
              cases hi with
              | none => simp [evo, boundHi] at hhi; omega
              | some y => have := h4 rfl; omega
            subst hh0
            have : l = 0 := by omega
            subst this
            refine ⟨bs, 0, 0, 0, 0, 0, rfl, h1, ?_⟩
            simpa [cvo] using hx
    · cases hx
  · -- the capacity is known
    rename_i f v o po len cap
    have hx := sx.cv (by simp)
    simp only [cvo] at hx
    split at hx
    · rename_i hlc
      simp only [Option.map_eq_some_iff] at hx
      obtain ⟨ad, hp, rfl⟩ := hx
      split at h
      · cases h
      · rename_i mm hm
        split at h
        · cases h
        · rename_i hh hhi
          split at h
          · cases h
          · rename_i l hlo
            split at h
            · cases h
            · rename_i hbad
              rw [not_or] at hbad
              cases h
              obtain ⟨h1, h2, h3, h4⟩ := bounds_sound (P := P) e hm hhi hlo hbad.1 isS w
              refine ⟨some ad, len, cap, l, hh, mm, rfl, h1, ?_⟩
              simp only [cvo]
              rw [if_pos (by omega)]
              by_cases hml : mm = l
              · rw [if_pos hml, if_pos hml, hp]; rfl
              · rw [if_neg hml, if_neg hml, (plc_add hp (l * size)).1]; rfl
    · cases hx
  · -- it is not known
    rename_i f v o po len skip q
    have hx := sx.cv (by simp)
    simp only [cvo] at hx
    split at hx
    · rename_i k hk
      split at hx
      · rename_i hcond
        obtain ⟨c1, c2, c3⟩ := hcond
        simp only [Option.map_eq_some_iff] at hx
        obtain ⟨ad, hp, rfl⟩ := hx
        split at h
        · -- with a bound for the capacity
          rename_i mv hmv
          split at h
          · cases h
          · rename_i mm hm
            split at h
            · cases h
            · rename_i hh hhi
              split at h
              · cases h
              · rename_i l hlo
                split at h
                · cases h
                · rename_i hbad
                  rw [not_or, not_or] at hbad
                  cases h
                  have hm' : boundMx (evo E mx) (k.cap - skip) = some mm := by
                    rw [hmv] at hm ⊢
                    simp only [boundMx, bound?] at hm ⊢
                    split at hm
                    · split at hm
                      · rename_i hz; cases hm; rw [if_pos (by omega)]
                      · cases hm
                    · cases hm
                  obtain ⟨h1, h2, h3, h4⟩ := bounds_sound (P := P) e hm' hhi hlo (by rw [hmv]; simpa using hbad.1) isS w
                  refine ⟨some ad, len, k.cap - skip, l, hh, mm, rfl, h1, ?_⟩
                  have hne : k.cap ≠ skip := by omega
                  rw [if_neg hne] at hp
                  simp only [cvo]
                  rw [if_pos (by omega)]
                  by_cases hml : mm = l
                  · rw [if_pos hml, if_pos hml, hp]; rfl
                  · rw [if_neg hml, if_neg hml, (plc_add hp (l * size)).1]; rfl
        · rename_i hmv
          have hmn : mx = none := by cases mx <;> simp [evo] at hmv ⊢
          subst hmn
          split at h
          · cases h
          · rename_i hh hhi
            split at h
            · cases h
            · rename_i l hlo
              split at h
              · rename_i hq
                cases h
                have hhi' : boundHi (evo E hi) (k.cap - skip) len = some hh := by
                  cases hi with
                  | none => simpa [evo, boundHi] using hhi
                  | some y =>
                    simp only [evo, boundHi, bound?] at hhi ⊢
                    split at hhi
                    · split at hhi
                      · rename_i hz; cases hhi; rw [if_pos (by omega)]
                      · cases hhi
                    · cases hhi
                obtain ⟨h1, h2, h3, h4⟩ := bounds_sound (P := P) (mx := none) (cap := k.cap - skip) (mm := k.cap - skip) e rfl hhi' hlo (by simp [evo]) isS w
                have hhl : hh ≤ len := by
                  cases hi with
                  | none => simp [evo, boundHi] at hhi; omega
                  | some y =>
                    simp only [evo, boundHi] at hhi
                    obtain ⟨_, _, z⟩ := bound_sound (ev_sound e y) hhi; exact z
                refine ⟨some ad, len, k.cap - skip, l, hh, k.cap - skip, rfl, h1, ?_⟩
                simp only [cvo, hk]
                have hmul : (skip + l) * k.sz = skip * k.sz + l * k.sz := Nat.add_mul _ _ _
                rw [if_pos ⟨by rw [hmul, c3, ← hq]; rw [c3] at c1; omega, by omega, c3⟩]
                have hcap : k.cap - (skip + l) = k.cap - skip - l := by omega
                rw [hcap]
                by_cases hz : k.cap = skip + l
                · rw [if_pos hz, if_pos (by omega : k.cap - skip = l)]
                  by_cases hl0 : l = 0
                  · subst hl0
                    rw [if_pos rfl]
                    rw [if_pos (by omega)] at hp
                    rw [hp]; rfl
                  · rw [if_neg hl0]
                    rw [if_neg (by omega)] at hp
                    rw [hp]; rfl
                · rw [if_neg hz, if_neg (by omega : ¬ k.cap - skip = l)]
                  rw [if_neg (by omega)] at hp
                  rw [(plc_add hp (l * size)).1]; rfl
              · cases h
      · cases hx
    · cases hx
  · cases h

theorem zeroCs_some {t : TypeId} {z : List AV} (h : zeroCs P t = some z) : ∃ i zv, P.info? t = some i ∧ i.zero = some zv ∧ zv.cells.toList.mapM constFlat = some z := by
  unfold zeroCs at h
  split at h
  · rename_i i hi
    split at h
    · rename_i zv hz; exact ⟨i, zv, hi, hz, h⟩
    · cases h
  · cases h

theorem fieldParts_spec {fields : Array Field} : ∀ {parts : List (Nat × Operand)} {ap : List (Nat × Nat × Operand)}, fieldPartsC P fields parts = some ap →
    (∀ (k : Nat) i x, parts[k]? = some (i, x) → ∃ o s, ap[k]? = some (o, s, x) ∧ ((fields.map fun f => (f.offset, P.cellsOf f.type))[i]?) = some (o, s)) ∧ ap.length = parts.length
  | [], ap, h => by simp [fieldPartsC] at h; subst h; exact ⟨fun _ _ _ h => by simp at h, rfl⟩
  | (i, x) :: l, ap, h => by
    simp only [fieldPartsC] at h
    split at h
    · rename_i f hf
      split at h
      · rename_i s r hs hr
        cases h
        obtain ⟨h1, h2⟩ := fieldParts_spec hr
        obtain ⟨it, hi1, hi2⟩ := szOf_some hs
        refine ⟨fun k j y hk => ?_, by simp [h2]⟩
        cases k with
        | zero => simp at hk; obtain ⟨rfl, rfl⟩ := hk; exact ⟨f.offset, s, rfl, by simp [hf, Program.cellsOf, hi1, hi2]⟩
        | succ k => exact h1 k j y (by simpa using hk)
      · cases h
    · cases h

theorem elemParts_spec (s : Nat) : ∀ (parts : List (Nat × Operand)),
    (∀ (k : Nat) i x, parts[k]? = some (i, x) → ∃ o z, (elemParts s parts)[k]? = some (o, z, x) ∧ (fun i => some (i * s, s)) i = some (o, z)) ∧ (elemParts s parts).length = parts.length
  | [] => ⟨fun _ _ _ h => by simp at h, rfl⟩
  | (i, x) :: l => by
    obtain ⟨h1, h2⟩ := elemParts_spec s l
    refine ⟨fun k j y hk => ?_, by simp [elemParts, h2]⟩
    cases k with
    | zero => simp at hk; obtain ⟨rfl, rfl⟩ := hk; exact ⟨i * s, s, rfl, rfl⟩
    | succ k => exact h1 k j y (by simpa using hk)

theorem run_places (fields : Array Field) (w : World) (h : ∀ f ∈ fields.toList, (P.info? f.type).isSome = true) :
    (fields.mapM fun f => do pure (f.offset, ← sizeOf f.type) : Sem (Array (Nat × Nat))).run P w = .ok (fields.map fun f => (f.offset, P.cellsOf f.type)) w := by
  have key : ∀ l : List Field, (∀ f ∈ l, (P.info? f.type).isSome = true) → (l.mapM fun f => do pure (f.offset, ← sizeOf f.type) : Sem (List (Nat × Nat))).run P w = .ok (l.map fun f => (f.offset, P.cellsOf f.type)) w := by
    intro l
    induction l with
    | nil => intro _; simp
    | cons f l ih =>
      intro hl
      obtain ⟨i, hi⟩ := Option.isSome_iff_exists.1 (hl f (by simp))
      have := ih (fun g hg => hl g (by simp [hg]))
      rw [List.mapM_cons, List.map_cons]
      simp only [Sem.run_bind, run_sizeOf w hi, Result.andThen_ok, Sem.run_pure, this]
  have := key fields.toList h
  rw [Array.mapM_eq_mapM_toList]
  simp only [Sem.run_map, this, Result.andThen_ok]
  congr 1
  apply Array.ext'
  simp

/-- Every operation of its operands alone comes to what the abstract machine says. -/
theorem pure_soundA {o : Oper} {ao : AOp} {v : AV} (hc : compOpA P o.op = some ao) (e : EnvR M0 m n E a) (hv : pureOf E ao = some v) (w : World) : PureOk P m a o v w := by
  obtain ⟨dst, op, type, pos, after, guard⟩ := o
  dsimp only at hc
  cases op with
  | move x => simp only [compOpA, Option.some.injEq] at hc; subst hc; simp only [pureOf, Option.some.injEq] at hv; subst hv; exact ⟨_, rfl, ev_sound e x⟩
  | assign x => simp only [compOpA, Option.some.injEq] at hc; subst hc; simp only [pureOf, Option.some.injEq] at hv; subst hv; exact ⟨_, rfl, ev_sound e x⟩
  | pick c x y =>
    simp only [compOpA, Option.some.injEq] at hc; subst hc
    simp only [pureOf] at hv
    split at hv
    · rename_i t ht
      cases hv
      have := cvo_bool ht (ev_sound e c)
      refine ⟨a.eval (bif t then x else y), ?_, ev_sound e _⟩
      simp only [execOp, this]
      cases t <;> simp [asBool]
    · cases hv
  | alloc t => simp [compOpA, Option.map_eq_some_iff] at hc; obtain ⟨z, _, rfl⟩ := hc; simp [pureOf] at hv
  | box t x => simp only [compOpA, Option.some.injEq] at hc; subst hc; simp [pureOf] at hv
  | build t parts =>
    simp only [compOpA] at hc
    split at hc
    · rename_i fields z hu hz
      split at hc
      rotate_left
      · cases hc
      rename_i hall
      simp only [Option.map_eq_some_iff] at hc
      obtain ⟨ap, hap, rfl⟩ := hc
      simp only [pureOf] at hv
      split at hv
      · rename_i l hl
        cases hv
        obtain ⟨i, zv, hi, hzv, hz'⟩ := zeroCs_some hz
        obtain ⟨zs, h1, h2⟩ := fill_sound (place := ((fields.map fun f => (f.offset, P.cellsOf f.type))[·]?)) (fieldParts_spec hap).1 (fieldParts_spec hap).2 e (mapM_const (m := m) hz') hl
        refine ⟨.agg zs.toArray, ?_, .inr (by simp [cvo, h2])⟩
        have hpl := run_places (P := P) fields w (fun f hf => (List.all_eq_true.1 hall) f hf)
        simp only [bind_pure_comp] at hpl
        simp only [Array.toArray_toList, Array.getElem?_map] at h1
        simp [execOp, Instr.build, zeroValue, typeInfo, hi, hzv, run_underlying hu, hpl, h1]
      · cases hv
    · rename_i k el z hu hz
      simp only [Option.map_eq_some_iff] at hc
      obtain ⟨s, hs, rfl⟩ := hc
      simp only [pureOf] at hv
      split at hv
      · rename_i l hl
        cases hv
        obtain ⟨i, zv, hi, hzv, hz'⟩ := zeroCs_some hz
        obtain ⟨it, hi1, hi2⟩ := szOf_some hs
        obtain ⟨zs, h1, h2⟩ := fill_sound (place := fun i => some (i * s, s)) (elemParts_spec s parts.toList).1 (elemParts_spec s parts.toList).2 e (mapM_const (m := m) hz') hl
        refine ⟨.agg zs.toArray, ?_, .inr (by simp [cvo, h2])⟩
        simp only [Array.toArray_toList] at h1
        simp [execOp, Instr.build, zeroValue, typeInfo, hi, hzv, run_underlying hu, sizeOf, hi1, hi2, h1]
      · cases hv
    · cases hc
  | buildSlice t k parts =>
    simp only [compOpA] at hc
    split at hc
    · split at hc
      · split at hc
        · simp only [Option.some.injEq] at hc; subst hc; simp [pureOf] at hv
        · cases hc
      · cases hc
    · cases hc
  | insert => simp [compOpA] at hc
  | load t x =>
    simp only [compOpA] at hc
    split at hc
    · simp only [Option.map_eq_some_iff] at hc; obtain ⟨z, _, rfl⟩ := hc; simp [pureOf] at hv
    · cases hc
  | store t x y => simp [compOpA, Option.map_eq_some_iff] at hc; obtain ⟨z, _, rfl⟩ := hc; simp [pureOf] at hv
  | ready => simp [compOpA] at hc
  | waits => simp [compOpA] at hc
  | nilCheck x =>
    simp only [compOpA, Option.some.injEq] at hc; subst hc
    simp only [pureOf] at hv
    split at hv
    · rename_i p hp
      cases hv
      obtain ⟨ad, h1, h2⟩ := ptr_sound hp (ev_sound e x)
      exact ⟨.pointer (some ad), by simp [execOp, h2], .inr (by simp [cvo, h1])⟩
    · cases hv
  | binOp op t x y yt =>
    have hbin : ∀ hop : ao = .bin op x y, PureOk P m a ⟨dst, .binOp op t x y yt, type, pos, after, guard⟩ v w := fun hop => by
      subst hop
      simp only [pureOf] at hv
      obtain ⟨c, h1, h2⟩ := bin_sound (P := P) t (ev_sound e x) (ev_sound e y) hv w
      refine ⟨c, ?_, .inr h2⟩
      have hg : eqGuard op t x y (a.eval x) (a.eval y) = pure () := by
        unfold binOf at hv
        split at hv
        · rename_i k i j l hx hy
          rw [cvo_int hx (ev_sound e x)]; cases op <;> rfl
        · rename_i i j hx hy
          rw [cvo_str hx (ev_sound e x)]; cases op <;> rfl
        · cases hv
      simp [execOp, hg, h1]
    simp only [compOpA] at hc
    split at hc
    · rename_i hop
      simp only [compEq] at hc
      split at hc
      · rename_i hu
        simp only [Option.some.injEq] at hc; subst hc
        simp only [pureOf] at hv
        split at hv
        · rename_i b c hb hcc
          cases hv
          have e1 := cvo_bool hb (ev_sound e x)
          have e2 := cvo_bool hcc (ev_sound e y)
          refine ⟨.bool (bif op == .neq then !(b == c) else b == c), ?_, .inr rfl⟩
          cases op <;> simp at hop <;> simp only [execOp, e1, e2, eqGuard, binOp] <;> simp [run_equal_bool w _ _ _ hu] <;> rfl
        · cases hv
      · exact hbin (by cases hc; rfl)
      · exact hbin (by cases hc; rfl)
      · split at hc
        · simp only [Option.some.injEq] at hc; subst hc; simp [pureOf] at hv
        · cases hc
      · simp only [Option.some.injEq] at hc; subst hc; simp [pureOf] at hv
      · simp only [Option.some.injEq] at hc; subst hc; simp [pureOf] at hv
      · simp only [Option.some.injEq] at hc; subst hc; simp [pureOf] at hv
      · split at hc <;> (simp only [Option.some.injEq] at hc; subst hc; simp [pureOf] at hv)
      · cases hc
    · exact hbin (by cases hc; rfl)
  | unOp op t x =>
    simp only [compOpA, Option.some.injEq] at hc; subst hc
    simp only [pureOf] at hv
    obtain ⟨c, h1, h2⟩ := un_sound (P := P) (ev_sound e x) hv w
    exact ⟨c, by simp [execOp, h1], .inr h2⟩
  | convert src dst x =>
    simp only [compOpA] at hc
    split at hc
    · rename_i k1 k2 h1 h2
      simp only [Option.some.injEq] at hc; subst hc
      simp only [pureOf] at hv
      split at hv
      · rename_i k z hz
        cases hv
        have := cvo_int hz (ev_sound e x)
        exact ⟨.int k2 (k2.wrap z), by simp [execOp, convert, run_underlying h1, run_underlying h2, this, Conv.intToInt], .inr rfl⟩
      · cases hv
    · rename_i h1 h2
      simp only [Option.some.injEq] at hc; subst hc
      simp only [pureOf] at hv
      split at hv
      · rename_i s hs
        cases hv
        have := cvo_str hs (ev_sound e x)
        exact ⟨.string ⟨s.toArray⟩, by simp [execOp, convert, run_underlying h1, run_underlying h2, this], .inr rfl⟩
      · cases hv
    · split at hc <;> cases hc; simp [pureOf] at hv
    · split at hc <;> cases hc; simp [pureOf] at hv
    · cases hc
  | sliceToArrayPointer => simp [compOpA] at hc
  | makeInterface t x =>
    simp only [compOpA] at hc
    split at hc
    · cases hc
    · cases hc
    · rename_i hni hnn
      simp only [Option.some.injEq] at hc; subst hc
      simp only [pureOf] at hv
      split at hv
      · cases hv
      · rename_i hb
        cases hv
        have hx := (ev_sound e x).cv hb
        refine ⟨.iface t (a.eval x), ?_, .inr (by simp [cvo, hx])⟩
        cases hu : P.underlying t with
        | none => exact absurd hu hnn
        | some d =>
          cases d <;> first
            | exact absurd hu (hni _)
            | simp [execOp, Instr.makeInterface, run_underlying hu]
  | makeFunc fn first captured =>
    simp only [compOpA, Option.some.injEq] at hc; subst hc
    simp only [pureOf] at hv
    cases hk : allKnown (evs E first.toList) && allKnown (evs E captured.toList) with
    | false => rw [hk] at hv; cases hv
    | true =>
      rw [hk] at hv; simp only [cond_true, Option.some.injEq] at hv; subst hv
      rw [Bool.and_eq_true] at hk
      refine ⟨.func fn (first.map a.eval) (captured.map a.eval), by simp [execOp, Instr.makeFunc], .inr ?_⟩
      simp only [cvo, evs_sound e _ hk.1, evs_sound e _ hk.2, ← List.map_toArray, Array.toArray_toList]
  | makeMap => simp [compOpA] at hc
  | makeChan => simp [compOpA] at hc
  | makeSlice t l c =>
    simp only [compOpA] at hc
    split at hc
    · split at hc
      · split at hc
        · simp only [Option.some.injEq] at hc; subst hc; simp [pureOf] at hv
        · cases hc
      · cases hc
    · cases hc
  | slice t x lo hi mx =>
    simp only [compOpA] at hc
    split at hc
    · rename_i hu
      split at hc
      · rename_i hmn
        have hmn : mx = none := by simpa using hmn
        subst hmn
        simp only [Option.some.injEq] at hc; subst hc
        simp only [pureOf] at hv
        split at hv
        · rename_i s hs
          split at hv
          · rename_i hh hhi
            split at hv
            · rename_i l hlo
              cases hv
              obtain ⟨h1, h2, h3, h4⟩ := bounds_sound (P := P) (mx := none) (cap := s.length) (mm := s.length) e rfl hhi hlo (by simp [evo]) false w
              have hcs := cvo_str hs (ev_sound e x)
              have hsz : (⟨s.toArray⟩ : ByteArray).size = s.length := by simp [ByteArray.size]
              refine ⟨.string ((⟨s.toArray⟩ : ByteArray).extract l hh), ?_, .inr ?_⟩
              · simp only [Option.map_none] at h1
                simp [execOp, Instr.sliceAt, run_underlying hu, Instr.slice, hcs, hsz, h1]
              · simp only [cvo]
                congr 2
                apply ByteArray.ext
                simp [ByteArray.data_extract, List.extract_eq_take_drop, List.drop_take]
            · cases hv
          · cases hv
        · cases hv
      · cases hc
    · rename_i el hu
      simp only [Option.map_eq_some_iff] at hc
      obtain ⟨s, hs, rfl⟩ := hc
      simp only [pureOf] at hv
      obtain ⟨bs, len, cap, l, hh, mm, h1, h2, h3⟩ := cutSlice_sound (P := P) e (ev_sound e x) hv true w
      obtain ⟨i, hi1, hi2⟩ := szOf_some hs
      refine ⟨_, ?_, .inr h3⟩
      simp [execOp, Instr.sliceAt, run_underlying hu, Instr.slice, h1, h2, sizeOf, typeInfo, hi1, hi2]
    · rename_i k el hu
      simp only [Option.map_eq_some_iff] at hc
      obtain ⟨s, hs, rfl⟩ := hc
      simp only [pureOf] at hv
      split at hv
      · rename_i f vv o hp
        obtain ⟨ad, h1, h2⟩ := ptr_sound hp (ev_sound e x)
        obtain ⟨bs, len, cap, l, hh, mm, g1, g2, g3⟩ := cutSlice_sound (P := P) (cx := .slice (some ad) k k) e (.inr (by simp only [cvo]; rw [if_pos (Nat.le_refl _), h1]; rfl)) hv false w
        cases g1
        obtain ⟨i, hi1, hi2⟩ := szOf_some hs
        refine ⟨_, ?_, .inr g3⟩
        simp [execOp, Instr.sliceAt, run_underlying hu, h2, Instr.sureAddr, g2, sizeOf, typeInfo, hi1, hi2]
        split <;> rfl
      · cases hv
    · cases hc
  | fieldAddr t x f =>
    simp only [compOpA] at hc
    split at hc
    · rename_i fields hu
      split at hc
      · rename_i fd hf
        split at hc
        · rename_i k hk
          simp only [Option.some.injEq] at hc; subst hc
          simp only [pureOf] at hv
          split at hv
          · rename_i p hp
            cases hv
            obtain ⟨ad, h1, h2⟩ := ptr_sound hp (ev_sound e x)
            obtain ⟨i, hi1, hi2⟩ := szOf_some hk
            refine ⟨.pointer (some (ad.add fd.offset)), ?_, .inr (addr_cvo h1 _)⟩
            simp [execOp, Instr.fieldAt, run_underlying hu, hf, h2, Instr.sureAddr, fieldPlace, sizeOf, typeInfo, hi1, hi2]
          · cases hv
        · cases hc
      · cases hc
    · cases hc
  | field t x f =>
    simp only [compOpA] at hc
    split at hc
    · rename_i fields hu
      split at hc
      · rename_i fd hf
        split at hc
        rotate_left
        · cases hc
        rename_i hus
        simp only [Option.map_eq_some_iff] at hc
        obtain ⟨s, hs, rfl⟩ := hc
        simp only [pureOf] at hv
        split at hv
        · rename_i cs hcs
          obtain ⟨ys, h1, h2⟩ := agg_sound hcs (ev_sound e x)
          obtain ⟨i, hi1, hi2⟩ := szOf_some hs
          subst hi2
          obtain ⟨d, hd⟩ := Option.isSome_iff_exists.1 hus
          obtain ⟨c, g1, g2⟩ := part_sound hi1 hd h1 hv w
          exact ⟨c, by simp [execOp, Instr.field, run_underlying hu, hf, h2, asAgg, g1], .inr g2⟩
        · cases hv
      · cases hc
    · cases hc
  | indexAddr t x i =>
    simp only [compOpA] at hc
    split at hc
    · rename_i el hu
      simp only [Option.map_eq_some_iff] at hc
      obtain ⟨s, hs, rfl⟩ := hc
      simp only [pureOf] at hv
      split at hv
      · rename_i p po len cap q hp
        split at hv
        · rename_i j hj
          cases hv
          obtain ⟨kk, h3, h4⟩ := index_sound (ev_sound e i) hj
          obtain ⟨it, hi1, hi2⟩ := szOf_some hs
          obtain ⟨bs, cap', g1, g2, g3, _⟩ := slice_sound hp (ev_sound e x)
          have g4 := g3 (by omega)
          refine ⟨.pointer (some (bs.add (j * s))), ?_, .inr (addr_cvo g4 _)⟩
          have hlt : ¬ len ≤ j := by omega
          simp [execOp, Instr.indexAt, run_underlying hu, g1, h3, asIntOf, sizeOf, typeInfo, hi1, hi2, h4]
        · cases hv
      · cases hv
    · rename_i k el hu
      simp only [Option.map_eq_some_iff] at hc
      obtain ⟨s, hs, rfl⟩ := hc
      simp only [pureOf] at hv
      split at hv
      · rename_i p hp
        split at hv
        · rename_i j hj
          cases hv
          obtain ⟨ad, h1, h2⟩ := ptr_sound hp (ev_sound e x)
          obtain ⟨kk, h3, h4⟩ := index_sound (ev_sound e i) hj
          obtain ⟨it, hi1, hi2⟩ := szOf_some hs
          refine ⟨.pointer (some (ad.add (j * s))), ?_, .inr (addr_cvo h1 _)⟩
          simp [execOp, Instr.indexAt, run_underlying hu, h2, h3, asIntOf, Instr.sureAddr, sizeOf, typeInfo, hi1, hi2, h4]
        · cases hv
      · cases hv
    · cases hc
  | index t x i =>
    simp only [compOpA] at hc
    split at hc
    · rename_i hu
      simp only [Option.some.injEq] at hc; subst hc
      simp only [pureOf] at hv
      split at hv
      · rename_i s hs
        split at hv
        · rename_i j hj
          split at hv
          · rename_i b hb
            cases hv
            have hcs := cvo_str hs (ev_sound e x)
            obtain ⟨kk, h3, h4⟩ := index_sound (ev_sound e i) hj
            refine ⟨.int .u8 b.toNat, ?_, .inr rfl⟩
            have h0 : (0 : Int) ≤ (j : Int) := by omega
            have hg : (⟨s.toArray⟩ : ByteArray)[j]? = some b := by
              have hj2 : j < s.length := by omega
              rw [List.getElem?_eq_getElem hj2] at hb
              have hj3 : j < (⟨s.toArray⟩ : ByteArray).size := by simpa [ByteArray.size] using hj2
              rw [getElem?_pos (⟨s.toArray⟩ : ByteArray) j hj3, ← hb]
              rfl
            simp [execOp, Instr.index, run_underlying hu, hcs, h3, asIntOf, h0, hg]
          · cases hv
        · cases hv
      · cases hv
    · rename_i k el hu
      split at hc
      rotate_left
      · cases hc
      rename_i hus
      simp only [Option.map_eq_some_iff] at hc
      obtain ⟨s, hs, rfl⟩ := hc
      simp only [pureOf] at hv
      split at hv
      · rename_i cs hcs
        split at hv
        · rename_i j hj
          obtain ⟨ys, h1, h2⟩ := agg_sound hcs (ev_sound e x)
          obtain ⟨kk, h3, h4⟩ := index_sound (ev_sound e i) hj
          obtain ⟨it, hi1, hi2⟩ := szOf_some hs
          subst hi2
          obtain ⟨d, hd⟩ := Option.isSome_iff_exists.1 hus
          obtain ⟨c, g1, g2⟩ := part_sound hi1 hd h1 hv w
          have hlt : (0 : Int) ≤ (j : Int) ∧ (j : Int) < (k : Int) := by omega
          exact ⟨c, by simp [execOp, Instr.index, run_underlying hu, h2, h3, asIntOf, sizeOf, typeInfo, hi1, h4, g1], .inr g2⟩
        · cases hv
      · cases hv
    · cases hc
  | lookup => simp [compOpA] at hc
  | mapUpdate => simp [compOpA] at hc
  | mapEntry => simp [compOpA] at hc
  | entryStore => simp [compOpA] at hc
  | range => simp [compOpA] at hc
  | next => simp [compOpA] at hc
  | entry => simp [compOpA] at hc
  | typeAssert => simp [compOpA] at hc
  | extract t i =>
    simp only [compOpA, Option.some.injEq] at hc; subst hc
    simp only [pureOf] at hv
    split at hv
    · rename_i vs hvs
      have hx := ev_sound e t
      rw [hvs] at hx
      have := hx.cv (by simp)
      simp only [cvo, Option.map_eq_some_iff] at this
      obtain ⟨ys, h1, h2⟩ := this
      obtain ⟨y, h3, h4⟩ := cvos_get h1 hv
      exact ⟨y, by simp [execOp, Instr.extract, ← h2, h4], .inr h3⟩
    · cases hv
  | call c =>
    obtain ⟨callee, args, argTypes⟩ := c
    simp only [compOpA] at hc
    split at hc
    · -- len
      split at hc
      · rename_i x hx hu
        cases hc
        simp only [pureOf] at hv
        have ha : args = #[x] := by apply Array.ext'; simpa using hx
        subst ha
        obtain ⟨t0, ht0, hu⟩ := Option.bind_eq_some_iff.1 hu
        split at hv
        · rename_i s hs
          cases hv
          have := cvo_str hs (ev_sound e x)
          have hsz : (⟨s.toArray⟩ : ByteArray).size = s.length := List.size_toArray ..
          exact ⟨.int .i64 s.length, by simp [execOp, resolve, invoke, builtin, Builtin.len_, ht0, run_underlying hu, this, goInt, hsz], .inr rfl⟩
        · cases hv
      · rename_i x el hx hu
        cases hc
        simp only [pureOf] at hv
        have ha : args = #[x] := by apply Array.ext'; simpa using hx
        subst ha
        obtain ⟨t0, ht0, hu⟩ := Option.bind_eq_some_iff.1 hu
        split at hv
        · rename_i p po len cap q hs
          cases hv
          have hcx : ∃ bs cap', a.eval x = .slice bs len cap' := by
            cases p with
            | none =>
              have h2 := (ev_sound e x).cv (by rw [hs]; simp)
              rw [hs] at h2
              simp only [cvo] at h2
              split at h2
              · rename_i hz
                split at h2
                · exact ⟨none, 0, by rw [hz.1]; exact (Option.some.inj h2).symm⟩
                · simp only [Option.map_eq_some_iff] at h2
                  obtain ⟨b, _, h3⟩ := h2
                  exact ⟨some b, 0, by rw [hz.1]; exact h3.symm⟩
              · cases h2
            | some p => obtain ⟨bs, cap', g1, _⟩ := slice_sound hs (ev_sound e x); exact ⟨some bs, cap', g1⟩
          obtain ⟨bs, cap', g1⟩ := hcx
          exact ⟨.int .i64 len, by simp [execOp, resolve, invoke, builtin, Builtin.len_, ht0, run_underlying hu, g1, goInt], .inr rfl⟩
        · cases hv
      · rename_i x k el hx hu
        cases hc
        simp only [pureOf] at hv
        cases hv
        have ha : args = #[x] := by apply Array.ext'; simpa using hx
        subst ha
        obtain ⟨t0, ht0, hu⟩ := Option.bind_eq_some_iff.1 hu
        exact ⟨.int .i64 k, by simp [execOp, resolve, invoke, builtin, Builtin.len_, ht0, run_underlying hu, goInt], .inr rfl⟩
      · cases hc
    · -- append
      split at hc
      · split at hc
        · split at hc
          · split at hc
            · split at hc
              · cases hc; simp [pureOf] at hv
              · cases hc
            · cases hc
          · cases hc
        · split at hc
          · split at hc
            · split at hc
              · cases hc; simp [pureOf] at hv
              · cases hc
            · cases hc
          · cases hc
        · cases hc
      · cases hc
    · split at hc
      · cases hc
      · cases hc; simp [pureOf] at hv
    · cases hc; simp [pureOf] at hv
    · cases hc
  | go => simp [compOpA] at hc
  | defer => simp [compOpA] at hc
  | panic => simp [compOpA] at hc
  | send => simp [compOpA] at hc
  | recv => simp [compOpA] at hc
  | select => simp [compOpA] at hc
end
end Go.AM
/- The abstract machine: operations that make a family. -/
namespace Go.AM
set_option linter.unusedVariables false
set_option linter.unusedSimpArgs false

theorem bytesWorld_eq (w : World) (e : TypeId) (s : ByteArray) : Lib.bytesWorld w e s = w.drew.alloc (.cells (Lib.bytesCells w e s) e ((Lib.bytesCells w e s).size, (Lib.bytesCells w e s).size + 1)) := by
  unfold Lib.bytesWorld World.freeze
  rw [if_neg (by omega)]
  simp only [World.alloc, World.drew]
  congr 1
  apply Array.ext
  · simp
  · intro i h1 h2
    rw [Array.getElem_modify]
    simp only [Array.size_modify, Array.size_push] at h1
    by_cases hi : w.heap.size = i
    · subst hi
      simp
    · have : i < w.heap.size := by omega
      rw [if_neg hi, Array.getElem_push_lt this, Array.getElem_push_lt this]

section
variable {P : Program} {M0 : Mu} {m : Mu} {n : Nat} {E : Env} {a : Act}

/-- What an operation that makes a family comes to. -/
def NewOk (P : Program) (m : Mu) (a : Act) (o : Oper) (cs : List AV) (sz : Nat) (md : Made) (w : World) : Prop :=
  ∃ (w1 : World) (C : Array Value) (el : TypeId) (fz : Nat × Nat) (cap : Nat) (ys : List Value) (c : Value),
    (w1 = w ∨ w1 = w.drew) ∧ (execOp a.eval o).run P w = .ok (.value c) (w1.alloc (.cells C el fz)) ∧ cvos m cs = some ys ∧ (∀ (j : Nat) (y : Value), ys[j]? = some y → C[j]? = some y) ∧ cap * sz ≤ C.size ∧ cs.length ≤ cap * sz ∧
    (fz.1 = fz.2 ∨ (md.ver ≠ 0 ∧ C.size ≤ fz.1)) ∧
    ∀ (m' : Mu) (f : Nat), m' f md.ver = some ⟨w.heap.size, 0, 0, cap, sz⟩ → cvo m' (md.value f) = some c

theorem replicate_flat {z : List AV} {zs : List Value} (hz : cvos m z = some zs) : ∀ k, cvos m (List.replicate k z).flatten = some (List.replicate k zs).flatten
  | 0 => rfl
  | k + 1 => by simp only [List.replicate_succ, List.flatten_cons]; exact cvos_append hz (replicate_flat hz k)

theorem flatten_replicate_get (z : List Value) (k j : Nat) : (List.replicate k z).flatten[j]? = if j < k * z.length then z[j % z.length]? else none := by
  induction k generalizing j with
  | zero => simp
  | succ k ih =>
    rw [List.replicate_succ, List.flatten_cons, List.getElem?_append]
    have e : (k + 1) * z.length = k * z.length + z.length := Nat.succ_mul _ _
    split
    · rename_i h
      rw [if_pos (by omega), Nat.mod_eq_of_lt h]
    · rename_i h
      rw [ih]
      split
      · rename_i h2
        rw [if_pos (by omega)]
        rw [Nat.mod_eq_sub_mod (a := j) (by omega)]
      · rename_i h2
        rw [if_neg (by omega)]

theorem rangeCells (z : List Value) (k : Nat) (hz : z ≠ []) : (Array.range (k * z.length)).map (z.toArray[· % z.toArray.size]!) = (List.replicate k z).flatten.toArray := by
  have hp : 0 < z.length := List.length_pos_iff.2 hz
  apply Array.ext'
  apply List.ext_getElem?
  intro j
  rw [flatten_replicate_get]
  simp only [Array.toList_map, Array.toList_range, List.getElem?_map, List.size_toArray]
  by_cases hj : j < k * z.length
  · rw [if_pos hj, List.getElem?_range hj]
    have : j % z.length < z.length := Nat.mod_lt _ hp
    simp [this]
  · rw [if_neg hj, List.getElem?_eq_none (by simp; omega)]
    rfl

theorem cvos_bytes (s : List UInt8) : cvos m (s.map fun b => AV.int .u8 b.toNat) = some (s.map fun b => Value.int .u8 b.toNat) := by
  induction s with
  | nil => rfl
  | cons b s ih => simp [cvos, cvo, ih]

theorem new_soundA {o : Oper} {ao : AOp} {cs : List AV} {sz : Nat} {md : Made} (hc : compOpA P o.op = some ao) (e : EnvR M0 m n E a) (hv : newOf E ao = some (cs, sz, md)) (w : World) : NewOk P m a o cs sz md w := by
  obtain ⟨dst, op, type, pos, after, guard⟩ := o
  dsimp only at hc
  cases op with
  | alloc t =>
    simp only [compOpA, Option.map_eq_some_iff] at hc
    obtain ⟨z, hz, rfl⟩ := hc
    simp only [newOf, Option.some.injEq, Prod.mk.injEq] at hv
    obtain ⟨rfl, rfl, rfl⟩ := hv
    obtain ⟨i, zv, hi, hzv, hz'⟩ := zeroCs_some hz
    have hcv := mapM_const (m := m) hz'
    have hl := cvos_length hcv
    refine ⟨w, zv.cells, t, (0, 0), z.length, zv.cells.toList, .pointer (some ⟨w.heap.size, 0, none⟩), .inl rfl, ?_, hcv, by simp, by simp at hl; omega, by omega, by simp, fun m' f hm => by simp only [Made.ver] at hm; simp [Made.value, cvo, plc, hm]⟩
    simp [execOp, Instr.alloc, zeroValue, typeInfo, hi, hzv, newVar, newRow]
  | box t x =>
    simp only [compOpA, Option.some.injEq] at hc; subst hc
    simp only [newOf] at hv
    have key : ∀ v, ev E x = v → v.isBot = false → some (v.cells, 1, Made.ptr) = some (cs, sz, md) → NewOk P m a ⟨dst, .box t x, type, pos, after, guard⟩ cs sz md w := fun v hx hb h => by
      simp only [Option.some.injEq, Prod.mk.injEq] at h
      obtain ⟨rfl, rfl, rfl⟩ := h
      obtain ⟨us, h1, h2⟩ := cells_sound (ev_sound e x) (by rw [hx]; exact hb)
      rw [hx] at h1
      have hl := cvos_length h1
      refine ⟨w, us.toArray, t, (0, 0), us.length, us, .pointer (some ⟨w.heap.size, 0, none⟩), .inl rfl, ?_, h1, by simp, by simp, by omega, by simp, fun m' f hm => by simp only [Made.ver] at hm; simp [Made.value, cvo, plc, hm]⟩
      simp [execOp, Instr.box, newVar, newRow, h2]
    split at hv
    · cases hv
    · cases hv
    · rename_i v h1 h2
      refine key _ rfl ?_ hv
      cases hx : ev E x <;> first | rfl | exact absurd hx h1
  | buildSlice t k parts =>
    simp only [compOpA] at hc
    split at hc
    · rename_i el hu
      split at hc
      · rename_i s z hs hz
        split at hc
        · rename_i hcond
          obtain ⟨c1, c2, c3⟩ := hcond
          simp only [Option.some.injEq] at hc; subst hc
          simp only [newOf] at hv
          split at hv
          · rename_i l hl
            simp only [Option.some.injEq, Prod.mk.injEq] at hv
            obtain ⟨rfl, rfl, rfl⟩ := hv
            obtain ⟨i, zv, hi, hzv, hz'⟩ := zeroCs_some hz
            obtain ⟨it, hi1, hi2⟩ := szOf_some hs
            rw [hi] at hi1; cases hi1
            have hcv := mapM_const (m := m) hz'
            have hlen := cvos_length hcv
            have hne : zv.cells.toList ≠ [] := by intro h; rw [h] at hlen; simp at hlen; omega
            obtain ⟨zs, h1, h2⟩ := fill_sound (place := fun i => some (i * s, s)) (elemParts_spec s parts.toList).1 (elemParts_spec s parts.toList).2 e (replicate_flat hcv k) hl
            have hll : l.length = k * s := by
              have := fillA_length hl
              rw [this]; simp [c1]
            have hzl := cvos_length h2
            have hcells : (Array.range (k * s)).map (zv.cells[· % zv.cells.size]!) = (List.replicate k zv.cells.toList).flatten.toArray := by
              have := rangeCells zv.cells.toList k hne
              rw [Array.toArray_toList, show zv.cells.toList.length = s by omega] at this
              exact this
            refine ⟨w, zs.toArray, el, (0, 0), k, zs, .slice (some ⟨w.heap.size, 0, none⟩) k k, .inl rfl, ?_, h2, by simp, by simp; omega, by omega, by simp, fun m' f hm => by simp only [Made.ver] at hm; simp [Made.value, cvo, plc, hm]⟩
            have hgt : ¬ 16777216 < k * s := by omega
            by_cases h0 : k * s = 0
            · have hk0 : k = 0 := by rcases Nat.mul_eq_zero.1 h0 with h | h <;> omega
              subst hk0
              simp only [List.replicate_zero, List.flatten_nil] at h1
              simp [execOp, Instr.buildSlice, run_underlying hu, sizeOf, typeInfo, hi, hi2, hgt, Array.range_zero', h1, newRow]
            · have h0' : ¬ (k = 0 ∨ s = 0) := by rw [← Nat.mul_eq_zero]; exact h0
              simp only [Array.toArray_toList] at h1
              simp [execOp, Instr.buildSlice, run_underlying hu, sizeOf, typeInfo, hi, hi2, hgt, h0', zeroValue, hzv, newRow, hcells, h1]
              intro hz0; exact absurd hz0 h0
          · cases hv
        · cases hc
      · cases hc
    · cases hc
  | makeSlice t l c =>
    simp only [compOpA] at hc
    split at hc
    · rename_i el hu
      split at hc
      · rename_i i z hi hz
        split at hc
        · rename_i hcond
          simp only [Option.some.injEq] at hc; subst hc
          simp only [newOf] at hv
          split at hv
          · rename_i k1 l1 k2 c1 hl hcv
            split at hv
            · rename_i hb
              obtain ⟨b1, b2, b3, b4, b5⟩ := hb
              simp only [Option.some.injEq, Prod.mk.injEq] at hv
              obtain ⟨rfl, rfl, rfl⟩ := hv
              obtain ⟨i', zv, hi', hzv, hz'⟩ := zeroCs_some hz
              rw [hi] at hi'; cases hi'
              have el1 := cvo_int hl (ev_sound e l)
              have el2 := cvo_int hcv (ev_sound e c)
              have hcvz := mapM_const (m := m) hz'
              have hlen := cvos_length hcvz
              have hne : zv.cells.toList ≠ [] := by intro h; rw [h] at hlen; simp at hlen; omega
              have hcells : madeCells zv.cells (c1.toNat * i.size) = (List.replicate c1.toNat zv.cells.toList).flatten.toArray := by
                have := rangeCells zv.cells.toList c1.toNat hne
                rw [Array.toArray_toList, show zv.cells.toList.length = i.size by omega] at this
                exact this
              have hr := run_make (P := P) w t el i zv hu hi hzv k1 k2 l1 c1 b1 b2 (by rw [Int.mul_comm]; omega) (by omega)
              rw [hcells] at hr
              refine ⟨w, _, el, (0, 0), c1.toNat, _, _, .inl rfl, by simp only [execOp, el1, el2, Sem.run_bind, hr]; rfl, replicate_flat hcvz c1.toNat, by simp, ?_, ?_, by simp, fun m' f hm => ?_⟩
              · simp; rw [show zv.cells.size = i.size by simpa using (by omega : zv.cells.toList.length = i.size)]; omega
              · simp; rw [hcond.1]; omega
              · have hle : l1.toNat ≤ c1.toNat := by omega
                simp only [Made.ver] at hm
                simp [Made.value, cvo, plc, hm, hle]
            · cases hv
          · cases hv
        · cases hc
      · cases hc
    · cases hc
  | convert src dst x =>
    simp only [compOpA] at hc
    split at hc
    · simp only [Option.some.injEq] at hc; subst hc; simp [newOf] at hv
    · simp only [Option.some.injEq] at hc; subst hc; simp [newOf] at hv
    · rename_i el h1 h2
      split at hc
      · rename_i h3
        simp only [Option.some.injEq] at hc; subst hc
        simp only [newOf] at hv
        split at hv
        · rename_i s hs
          split at hv
          · rename_i hlen
            simp only [Option.some.injEq, Prod.mk.injEq] at hv
            obtain ⟨rfl, rfl, rfl⟩ := hv
            have h3' := isU8_some h3
            have hcs := cvo_str hs (ev_sound e x)
            have hr := Lib.run_convert_string_bytes (P := P) w src dst el ⟨s.toArray⟩ h1 h2 h3'
            rw [bytesWorld_eq] at hr
            have hsz : (⟨s.toArray⟩ : ByteArray).size = s.length := List.size_toArray ..
            have hcap : s.length ≤ grownCap w s.length 0 el := by unfold grownCap; simp only [Question.cut]; omega
            rw [hsz] at hr
            refine ⟨w.drew, _, el, _, grownCap w s.length 0 el, _, _, .inr rfl, by simp only [execOp, hcs, Sem.run_bind, hr]; rfl, cvos_bytes s, fun j y hy => ?_, ?_, by simp; omega, .inr ⟨by simp [Made.ver], Nat.le_refl _⟩, fun m' f hm => ?_⟩
            · simp only [Lib.bytesCells]
              have hj : j < s.length := by
                rcases Nat.lt_or_ge j s.length with h | h
                · exact h
                · rw [List.getElem?_eq_none (by simpa using h)] at hy; cases hy
              rw [Array.getElem?_append_left (by simpa using hj)]
              simpa using hy
            · simp [Lib.bytesCells, hsz]; omega
            · simp only [Made.ver] at hm
              simp [Made.value, cvo, plc, hm, hcap]
          · cases hv
        · cases hv
      · cases hc
    · split at hc
      · simp only [Option.some.injEq] at hc; subst hc; simp [newOf] at hv
      · cases hc
    · cases hc
  | _ =>
    exfalso
    simp only [compOpA, compEq] at hc
    repeat' split at hc
    all_goals first
      | (cases hc; done)
      | (simp only [Option.some.injEq] at hc; subst hc; simp [newOf] at hv; done)
      | (simp only [Option.map_eq_some_iff] at hc; obtain ⟨_, _, rfl⟩ := hc; simp [newOf] at hv; done)
end
end Go.AM
