/- The abstract machine: every operation of its operands alone comes to what the abstract machine says. -/
import Derived.Test.YteoioahkflcchaaGreatDoorAmPure2
namespace Go.AM
set_option linter.unusedVariables false
set_option linter.unusedSimpArgs false
section
variable {P : Program} {M0 : Mu} {m : Mu} {n : Nat} {E : Env} {a : Act}

theorem foldA_min {k : IntKind} : ∀ {l : List AV} {z : Int} {ys : List Value} {r : AV}, cvos m l = some ys → foldA min2 (.int k z) l = some r → ∀ w, ∃ c, (ys.foldlM Builtin.min2 (.int k z)).run P w = .ok c w ∧ cvo m r = some c
  | [], z, ys, r, hc, h, w => by simp [cvos] at hc; subst hc; simp [foldA] at h; subst h; exact ⟨_, rfl, rfl⟩
  | x :: l, z, ys, r, hc, h, w => by
    simp only [cvos] at hc
    split at hc
    · rename_i y us hy hu
      cases hc
      simp only [foldA] at h
      split at h
      · rename_i v hv
        cases x <;> simp [min2] at hv
        obtain ⟨hk, rfl⟩ := hv
        simp [cvo] at hy; subst hy
        obtain ⟨c, h1, h2⟩ := foldA_min (z := _) hu h w
        refine ⟨c, ?_, h2⟩
        rw [List.foldlM_cons]
        simp only [Sem.run_bind]
        show ((Builtin.min2 _ _).run P w).andThen _ = _
        simp only [Builtin.min2, Sem.run_pure, Result.andThen_ok]
        exact h1
      · cases h
    · cases hc
theorem foldA_max {k : IntKind} : ∀ {l : List AV} {z : Int} {ys : List Value} {r : AV}, cvos m l = some ys → foldA max2 (.int k z) l = some r → ∀ w, ∃ c, (ys.foldlM Builtin.max2 (.int k z)).run P w = .ok c w ∧ cvo m r = some c
  | [], z, ys, r, hc, h, w => by simp [cvos] at hc; subst hc; simp [foldA] at h; subst h; exact ⟨_, rfl, rfl⟩
  | x :: l, z, ys, r, hc, h, w => by
    simp only [cvos] at hc
    split at hc
    · rename_i y us hy hu
      cases hc
      simp only [foldA] at h
      split at h
      · rename_i v hv
        cases x <;> simp [max2] at hv
        obtain ⟨hk, rfl⟩ := hv
        simp [cvo] at hy; subst hy
        obtain ⟨c, h1, h2⟩ := foldA_max (z := _) hu h w
        refine ⟨c, ?_, h2⟩
        rw [List.foldlM_cons]
        simp only [Sem.run_bind]
        show ((Builtin.max2 _ _).run P w).andThen _ = _
        simp only [Builtin.max2, Sem.run_pure, Result.andThen_ok]
        exact h1
      · cases h
    · cases hc

theorem cutSlice_sound {x : AV} {cx : Value} {lo hi mx : Option Operand} {size : Nat} {r : AV} (e : EnvR M0 m n E a) (sx : slotR m x cx) (h : cutSliceOf size x (evo E lo) (evo E hi) (evo E mx) = some r) (isS : Bool) (w : World) :
    ∃ bs len cap l hh mm, cx = .slice bs len cap ∧ (Instr.sliceBounds isS len cap (lo.map a.eval) (hi.map a.eval) (mx.map a.eval)).run P w = .ok (l, hh, mm) w ∧
      cvo m r = some (.slice (if mm = l then bs else bs.map (·.add (l * size))) (hh - l) (mm - l)) := by
  unfold cutSliceOf at h
  split at h
  · -- a nil slice
    rename_i po len cap q
    have hx := sx.cv (by simp)
    simp only [cvo] at hx
    split at hx
    · rename_i hz
      obtain ⟨rfl, rfl⟩ := hz
      have hcx : ∃ bs, cx = .slice bs 0 0 := by
        split at hx
        · cases hx; exact ⟨none, rfl⟩
        · simp only [Option.map_eq_some_iff] at hx; obtain ⟨b, _, rfl⟩ := hx; exact ⟨some b, rfl⟩
      obtain ⟨bs, rfl⟩ := hcx
      split at h
      · cases h
      · rename_i hmx
        have hmn : mx = none := by cases mx <;> simp [evo] at hmx ⊢
        subst hmn
        split at h
        · cases h
        · rename_i hh hhi
          split at h
          · cases h
          · rename_i l hlo
            cases h
            obtain ⟨h1, h2, h3, h4⟩ := bounds_sound (P := P) (mx := none) (cap := 0) (mm := 0) e rfl hhi hlo (by simp [evo]) isS w
            have hh0 : hh = 0 := by
              cases hi with
              | none => simp [evo, boundHi] at hhi; omega
              | some y => have := h4 rfl; omega
            subst hh0
            have : l = 0 := by omega
            subst this
            refine ⟨bs, 0, 0, 0, 0, 0, rfl, h1, ?_⟩
            simpa [cvo] using hx
    · cases hx
  · -- the capacity is known
    rename_i f v o po len cap
    have hx := sx.cv (by simp)
    simp only [cvo] at hx
    split at hx
    · rename_i hlc
      simp only [Option.map_eq_some_iff] at hx
      obtain ⟨ad, hp, rfl⟩ := hx
      split at h
      · cases h
      · rename_i mm hm
        split at h
        · cases h
        · rename_i hh hhi
          split at h
          · cases h
          · rename_i l hlo
            split at h
            · cases h
            · rename_i hbad
              rw [not_or] at hbad
              cases h
              obtain ⟨h1, h2, h3, h4⟩ := bounds_sound (P := P) e hm hhi hlo hbad.1 isS w
              refine ⟨some ad, len, cap, l, hh, mm, rfl, h1, ?_⟩
              simp only [cvo]
              rw [if_pos (by omega)]
              by_cases hml : mm = l
              · rw [if_pos hml, if_pos hml, hp]; rfl
              · rw [if_neg hml, if_neg hml, (plc_add hp (l * size)).1]; rfl
    · cases hx
  · -- it is not known
    rename_i f v o po len skip q
    have hx := sx.cv (by simp)
    simp only [cvo] at hx
    split at hx
    · rename_i k hk
      split at hx
      · rename_i hcond
        obtain ⟨c1, c2, c3⟩ := hcond
        simp only [Option.map_eq_some_iff] at hx
        obtain ⟨ad, hp, rfl⟩ := hx
        split at h
        · -- with a bound for the capacity
          rename_i mv hmv
          split at h
          · cases h
          · rename_i mm hm
            split at h
            · cases h
            · rename_i hh hhi
              split at h
              · cases h
              · rename_i l hlo
                split at h
                · cases h
                · rename_i hbad
                  rw [not_or, not_or] at hbad
                  cases h
                  have hm' : boundMx (evo E mx) (k.cap - skip) = some mm := by
                    rw [hmv] at hm ⊢
                    simp only [boundMx, bound?] at hm ⊢
                    split at hm
                    · split at hm
                      · rename_i hz; cases hm; rw [if_pos (by omega)]
                      · cases hm
                    · cases hm
                  obtain ⟨h1, h2, h3, h4⟩ := bounds_sound (P := P) e hm' hhi hlo (by rw [hmv]; simpa using hbad.1) isS w
                  refine ⟨some ad, len, k.cap - skip, l, hh, mm, rfl, h1, ?_⟩
                  have hne : k.cap ≠ skip := by omega
                  rw [if_neg hne] at hp
                  simp only [cvo]
                  rw [if_pos (by omega)]
                  by_cases hml : mm = l
                  · rw [if_pos hml, if_pos hml, hp]; rfl
                  · rw [if_neg hml, if_neg hml, (plc_add hp (l * size)).1]; rfl
        · rename_i hmv
          have hmn : mx = none := by cases mx <;> simp [evo] at hmv ⊢
          subst hmn
          split at h
          · cases h
          · rename_i hh hhi
            split at h
            · cases h
            · rename_i l hlo
              split at h
              · rename_i hq
                cases h
                have hhi' : boundHi (evo E hi) (k.cap - skip) len = some hh := by
                  cases hi with
                  | none => simpa [evo, boundHi] using hhi
                  | some y =>
                    simp only [evo, boundHi, bound?] at hhi ⊢
                    split at hhi
                    · split at hhi
                      · rename_i hz; cases hhi; rw [if_pos (by omega)]
                      · cases hhi
                    · cases hhi
                obtain ⟨h1, h2, h3, h4⟩ := bounds_sound (P := P) (mx := none) (cap := k.cap - skip) (mm := k.cap - skip) e rfl hhi' hlo (by simp [evo]) isS w
                have hhl : hh ≤ len := by
                  cases hi with
                  | none => simp [evo, boundHi] at hhi; omega
                  | some y =>
                    simp only [evo, boundHi] at hhi
                    obtain ⟨_, _, z⟩ := bound_sound (ev_sound e y) hhi; exact z
                refine ⟨some ad, len, k.cap - skip, l, hh, k.cap - skip, rfl, h1, ?_⟩
                simp only [cvo, hk]
                have hmul : (skip + l) * k.sz = skip * k.sz + l * k.sz := Nat.add_mul _ _ _
                rw [if_pos ⟨by rw [hmul, c3, ← hq]; rw [c3] at c1; omega, by omega, c3⟩]
                have hcap : k.cap - (skip + l) = k.cap - skip - l := by omega
                rw [hcap]
                by_cases hz : k.cap = skip + l
                · rw [if_pos hz, if_pos (by omega : k.cap - skip = l)]
                  by_cases hl0 : l = 0
                  · subst hl0
                    rw [if_pos rfl]
                    rw [if_pos (by omega)] at hp
                    rw [hp]; rfl
                  · rw [if_neg hl0]
                    rw [if_neg (by omega)] at hp
                    rw [hp]; rfl
                · rw [if_neg hz, if_neg (by omega : ¬ k.cap - skip = l)]
                  rw [if_neg (by omega)] at hp
                  rw [(plc_add hp (l * size)).1]; rfl
              · cases h
      · cases hx
    · cases hx
  · cases h

theorem zeroCs_some {t : TypeId} {z : List AV} (h : zeroCs P t = some z) : ∃ i zv, P.info? t = some i ∧ i.zero = some zv ∧ zv.cells.toList.mapM constFlat = some z := by
  unfold zeroCs at h
  split at h
  · rename_i i hi
    split at h
    · rename_i zv hz; exact ⟨i, zv, hi, hz, h⟩
    · cases h
  · cases h

theorem fieldParts_spec {fields : Array Field} : ∀ {parts : List (Nat × Operand)} {ap : List (Nat × Nat × Operand)}, fieldPartsC P fields parts = some ap →
    (∀ (k : Nat) i x, parts[k]? = some (i, x) → ∃ o s, ap[k]? = some (o, s, x) ∧ ((fields.map fun f => (f.offset, P.cellsOf f.type))[i]?) = some (o, s)) ∧ ap.length = parts.length
  | [], ap, h => by simp [fieldPartsC] at h; subst h; exact ⟨fun _ _ _ h => by simp at h, rfl⟩
  | (i, x) :: l, ap, h => by
    simp only [fieldPartsC] at h
    split at h
    · rename_i f hf
      split at h
      · rename_i s r hs hr
        cases h
        obtain ⟨h1, h2⟩ := fieldParts_spec hr
        obtain ⟨it, hi1, hi2⟩ := szOf_some hs
        refine ⟨fun k j y hk => ?_, by simp [h2]⟩
        cases k with
        | zero => simp at hk; obtain ⟨rfl, rfl⟩ := hk; exact ⟨f.offset, s, rfl, by simp [hf, Program.cellsOf, hi1, hi2]⟩
        | succ k => exact h1 k j y (by simpa using hk)
      · cases h
    · cases h

theorem elemParts_spec (s : Nat) : ∀ (parts : List (Nat × Operand)),
    (∀ (k : Nat) i x, parts[k]? = some (i, x) → ∃ o z, (elemParts s parts)[k]? = some (o, z, x) ∧ (fun i => some (i * s, s)) i = some (o, z)) ∧ (elemParts s parts).length = parts.length
  | [] => ⟨fun _ _ _ h => by simp at h, rfl⟩
  | (i, x) :: l => by
    obtain ⟨h1, h2⟩ := elemParts_spec s l
    refine ⟨fun k j y hk => ?_, by simp [elemParts, h2]⟩
    cases k with
    | zero => simp at hk; obtain ⟨rfl, rfl⟩ := hk; exact ⟨i * s, s, rfl, rfl⟩
    | succ k => exact h1 k j y (by simpa using hk)

theorem run_places (fields : Array Field) (w : World) (h : ∀ f ∈ fields.toList, (P.info? f.type).isSome = true) :
    (fields.mapM fun f => do pure (f.offset, ← sizeOf f.type) : Sem (Array (Nat × Nat))).run P w = .ok (fields.map fun f => (f.offset, P.cellsOf f.type)) w := by
  have key : ∀ l : List Field, (∀ f ∈ l, (P.info? f.type).isSome = true) → (l.mapM fun f => do pure (f.offset, ← sizeOf f.type) : Sem (List (Nat × Nat))).run P w = .ok (l.map fun f => (f.offset, P.cellsOf f.type)) w := by
    intro l
    induction l with
    | nil => intro _; simp
    | cons f l ih =>
      intro hl
      obtain ⟨i, hi⟩ := Option.isSome_iff_exists.1 (hl f (by simp))
      have := ih (fun g hg => hl g (by simp [hg]))
      rw [List.mapM_cons, List.map_cons]
      simp only [Sem.run_bind, run_sizeOf w hi, Result.andThen_ok, Sem.run_pure, this]
  have := key fields.toList h
  rw [Array.mapM_eq_mapM_toList]
  simp only [Sem.run_map, this, Result.andThen_ok]
  congr 1
  apply Array.ext'
  simp

/-- Every operation of its operands alone comes to what the abstract machine says. -/
theorem pure_soundA {o : Oper} {ao : AOp} {v : AV} (hc : compOpA P o.op = some ao) (e : EnvR M0 m n E a) (hv : pureOf E ao = some v) (w : World) : PureOk P m a o v w := by
  obtain ⟨dst, op, type, pos, after, guard⟩ := o
  dsimp only at hc
  cases op with
  | move x => simp only [compOpA, Option.some.injEq] at hc; subst hc; simp only [pureOf, Option.some.injEq] at hv; subst hv; exact ⟨_, rfl, ev_sound e x⟩
  | assign x => simp only [compOpA, Option.some.injEq] at hc; subst hc; simp only [pureOf, Option.some.injEq] at hv; subst hv; exact ⟨_, rfl, ev_sound e x⟩
  | pick c x y =>
    simp only [compOpA, Option.some.injEq] at hc; subst hc
    simp only [pureOf] at hv
    split at hv
    · rename_i t ht
      cases hv
      have := cvo_bool ht (ev_sound e c)
      refine ⟨a.eval (bif t then x else y), ?_, ev_sound e _⟩
      simp only [execOp, this]
      cases t <;> simp [asBool]
    · cases hv
  | alloc t => simp [compOpA, Option.map_eq_some_iff] at hc; obtain ⟨z, _, rfl⟩ := hc; simp [pureOf] at hv
  | box t x => simp only [compOpA, Option.some.injEq] at hc; subst hc; simp [pureOf] at hv
  | build t parts =>
    simp only [compOpA] at hc
    split at hc
    · rename_i fields z hu hz
      split at hc
      rotate_left
      · cases hc
      rename_i hall
      simp only [Option.map_eq_some_iff] at hc
      obtain ⟨ap, hap, rfl⟩ := hc
      simp only [pureOf] at hv
      split at hv
      · rename_i l hl
        cases hv
        obtain ⟨i, zv, hi, hzv, hz'⟩ := zeroCs_some hz
        obtain ⟨zs, h1, h2⟩ := fill_sound (place := ((fields.map fun f => (f.offset, P.cellsOf f.type))[·]?)) (fieldParts_spec hap).1 (fieldParts_spec hap).2 e (mapM_const (m := m) hz') hl
        refine ⟨.agg zs.toArray, ?_, .inr (by simp [cvo, h2])⟩
        have hpl := run_places (P := P) fields w (fun f hf => (List.all_eq_true.1 hall) f hf)
        simp only [bind_pure_comp] at hpl
        simp only [Array.toArray_toList, Array.getElem?_map] at h1
        simp [execOp, Instr.build, zeroValue, typeInfo, hi, hzv, run_underlying hu, hpl, h1]
      · cases hv
    · rename_i k el z hu hz
      simp only [Option.map_eq_some_iff] at hc
      obtain ⟨s, hs, rfl⟩ := hc
      simp only [pureOf] at hv
      split at hv
      · rename_i l hl
        cases hv
        obtain ⟨i, zv, hi, hzv, hz'⟩ := zeroCs_some hz
        obtain ⟨it, hi1, hi2⟩ := szOf_some hs
        obtain ⟨zs, h1, h2⟩ := fill_sound (place := fun i => some (i * s, s)) (elemParts_spec s parts.toList).1 (elemParts_spec s parts.toList).2 e (mapM_const (m := m) hz') hl
        refine ⟨.agg zs.toArray, ?_, .inr (by simp [cvo, h2])⟩
        simp only [Array.toArray_toList] at h1
        simp [execOp, Instr.build, zeroValue, typeInfo, hi, hzv, run_underlying hu, sizeOf, hi1, hi2, h1]
      · cases hv
    · cases hc
  | buildSlice t k parts =>
    simp only [compOpA] at hc
    split at hc
    · split at hc
      · split at hc
        · simp only [Option.some.injEq] at hc; subst hc; simp [pureOf] at hv
        · cases hc
      · cases hc
    · cases hc
  | insert => simp [compOpA] at hc
  | load t x =>
    simp only [compOpA] at hc
    split at hc
    · simp only [Option.map_eq_some_iff] at hc; obtain ⟨z, _, rfl⟩ := hc; simp [pureOf] at hv
    · cases hc
  | store t x y => simp [compOpA, Option.map_eq_some_iff] at hc; obtain ⟨z, _, rfl⟩ := hc; simp [pureOf] at hv
  | ready => simp [compOpA] at hc
  | waits => simp [compOpA] at hc
  | nilCheck x =>
    simp only [compOpA, Option.some.injEq] at hc; subst hc
    simp only [pureOf] at hv
    split at hv
    · rename_i p hp
      cases hv
      obtain ⟨ad, h1, h2⟩ := ptr_sound hp (ev_sound e x)
      exact ⟨.pointer (some ad), by simp [execOp, h2], .inr (by simp [cvo, h1])⟩
    · cases hv
  | binOp op t x y yt =>
    have hbin : ∀ hop : ao = .bin op x y, PureOk P m a ⟨dst, .binOp op t x y yt, type, pos, after, guard⟩ v w := fun hop => by
      subst hop
      simp only [pureOf] at hv
      obtain ⟨c, h1, h2⟩ := bin_sound (P := P) t (ev_sound e x) (ev_sound e y) hv w
      refine ⟨c, ?_, .inr h2⟩
      have hg : eqGuard op t x y (a.eval x) (a.eval y) = pure () := by
        unfold binOf at hv
        split at hv
        · rename_i k i j l hx hy
          rw [cvo_int hx (ev_sound e x)]; cases op <;> rfl
        · rename_i i j hx hy
          rw [cvo_str hx (ev_sound e x)]; cases op <;> rfl
        · cases hv
      simp [execOp, hg, h1]
    simp only [compOpA] at hc
    split at hc
    · rename_i hop
      simp only [compEq] at hc
      split at hc
      · rename_i hu
        simp only [Option.some.injEq] at hc; subst hc
        simp only [pureOf] at hv
        split at hv
        · rename_i b c hb hcc
          cases hv
          have e1 := cvo_bool hb (ev_sound e x)
          have e2 := cvo_bool hcc (ev_sound e y)
          refine ⟨.bool (bif op == .neq then !(b == c) else b == c), ?_, .inr rfl⟩
          cases op <;> simp at hop <;> simp only [execOp, e1, e2, eqGuard, binOp] <;> simp [run_equal_bool w _ _ _ hu] <;> rfl
        · cases hv
      · exact hbin (by cases hc; rfl)
      · exact hbin (by cases hc; rfl)
      · split at hc
        · simp only [Option.some.injEq] at hc; subst hc; simp [pureOf] at hv
        · cases hc
      · simp only [Option.some.injEq] at hc; subst hc; simp [pureOf] at hv
      · simp only [Option.some.injEq] at hc; subst hc; simp [pureOf] at hv
      · simp only [Option.some.injEq] at hc; subst hc; simp [pureOf] at hv
      · split at hc <;> (simp only [Option.some.injEq] at hc; subst hc; simp [pureOf] at hv)
      · cases hc
    · exact hbin (by cases hc; rfl)
  | unOp op t x =>
    simp only [compOpA, Option.some.injEq] at hc; subst hc
    simp only [pureOf] at hv
    obtain ⟨c, h1, h2⟩ := un_sound (P := P) (ev_sound e x) hv w
    exact ⟨c, by simp [execOp, h1], .inr h2⟩
  | convert src dst x =>
    simp only [compOpA] at hc
    split at hc
    · rename_i k1 k2 h1 h2
      simp only [Option.some.injEq] at hc; subst hc
      simp only [pureOf] at hv
      split at hv
      · rename_i k z hz
        cases hv
        have := cvo_int hz (ev_sound e x)
        exact ⟨.int k2 (k2.wrap z), by simp [execOp, convert, run_underlying h1, run_underlying h2, this, Conv.intToInt], .inr rfl⟩
      · cases hv
    · rename_i h1 h2
      simp only [Option.some.injEq] at hc; subst hc
      simp only [pureOf] at hv
      split at hv
      · rename_i s hs
        cases hv
        have := cvo_str hs (ev_sound e x)
        exact ⟨.string ⟨s.toArray⟩, by simp [execOp, convert, run_underlying h1, run_underlying h2, this], .inr rfl⟩
      · cases hv
    · split at hc <;> cases hc; simp [pureOf] at hv
    · split at hc <;> cases hc; simp [pureOf] at hv
    · cases hc
  | sliceToArrayPointer => simp [compOpA] at hc
  | makeInterface t x =>
    simp only [compOpA] at hc
    split at hc
    · cases hc
    · cases hc
    · rename_i hni hnn
      simp only [Option.some.injEq] at hc; subst hc
      simp only [pureOf] at hv
      split at hv
      · cases hv
      · rename_i hb
        cases hv
        have hx := (ev_sound e x).cv hb
        refine ⟨.iface t (a.eval x), ?_, .inr (by simp [cvo, hx])⟩
        cases hu : P.underlying t with
        | none => exact absurd hu hnn
        | some d =>
          cases d <;> first
            | exact absurd hu (hni _)
            | simp [execOp, Instr.makeInterface, run_underlying hu]
  | makeFunc fn first captured =>
    simp only [compOpA, Option.some.injEq] at hc; subst hc
    simp only [pureOf] at hv
    cases hk : allKnown (evs E first.toList) && allKnown (evs E captured.toList) with
    | false => rw [hk] at hv; cases hv
    | true =>
      rw [hk] at hv; simp only [cond_true, Option.some.injEq] at hv; subst hv
      rw [Bool.and_eq_true] at hk
      refine ⟨.func fn (first.map a.eval) (captured.map a.eval), by simp [execOp, Instr.makeFunc], .inr ?_⟩
      simp only [cvo, evs_sound e _ hk.1, evs_sound e _ hk.2, ← List.map_toArray, Array.toArray_toList]
  | makeMap => simp [compOpA] at hc
  | makeChan => simp [compOpA] at hc
  | makeSlice t l c =>
    simp only [compOpA] at hc
    split at hc
    · split at hc
      · split at hc
        · simp only [Option.some.injEq] at hc; subst hc; simp [pureOf] at hv
        · cases hc
      · cases hc
    · cases hc
  | slice t x lo hi mx =>
    simp only [compOpA] at hc
    split at hc
    · rename_i hu
      split at hc
      · rename_i hmn
        have hmn : mx = none := by simpa using hmn
        subst hmn
        simp only [Option.some.injEq] at hc; subst hc
        simp only [pureOf] at hv
        split at hv
        · rename_i s hs
          split at hv
          · rename_i hh hhi
            split at hv
            · rename_i l hlo
              cases hv
              obtain ⟨h1, h2, h3, h4⟩ := bounds_sound (P := P) (mx := none) (cap := s.length) (mm := s.length) e rfl hhi hlo (by simp [evo]) false w
              have hcs := cvo_str hs (ev_sound e x)
              have hsz : (⟨s.toArray⟩ : ByteArray).size = s.length := by simp [ByteArray.size]
              refine ⟨.string ((⟨s.toArray⟩ : ByteArray).extract l hh), ?_, .inr ?_⟩
              · simp only [Option.map_none] at h1
                simp [execOp, Instr.sliceAt, run_underlying hu, Instr.slice, hcs, hsz, h1]
              · simp only [cvo]
                congr 2
                apply ByteArray.ext
                simp [ByteArray.data_extract, List.extract_eq_take_drop, List.drop_take]
            · cases hv
          · cases hv
        · cases hv
      · cases hc
    · rename_i el hu
      simp only [Option.map_eq_some_iff] at hc
      obtain ⟨s, hs, rfl⟩ := hc
      simp only [pureOf] at hv
      obtain ⟨bs, len, cap, l, hh, mm, h1, h2, h3⟩ := cutSlice_sound (P := P) e (ev_sound e x) hv true w
      obtain ⟨i, hi1, hi2⟩ := szOf_some hs
      refine ⟨_, ?_, .inr h3⟩
      simp [execOp, Instr.sliceAt, run_underlying hu, Instr.slice, h1, h2, sizeOf, typeInfo, hi1, hi2]
    · rename_i k el hu
      simp only [Option.map_eq_some_iff] at hc
      obtain ⟨s, hs, rfl⟩ := hc
      simp only [pureOf] at hv
      split at hv
      · rename_i f vv o hp
        obtain ⟨ad, h1, h2⟩ := ptr_sound hp (ev_sound e x)
        obtain ⟨bs, len, cap, l, hh, mm, g1, g2, g3⟩ := cutSlice_sound (P := P) (cx := .slice (some ad) k k) e (.inr (by simp only [cvo]; rw [if_pos (Nat.le_refl _), h1]; rfl)) hv false w
        cases g1
        obtain ⟨i, hi1, hi2⟩ := szOf_some hs
        refine ⟨_, ?_, .inr g3⟩
        simp [execOp, Instr.sliceAt, run_underlying hu, h2, Instr.sureAddr, g2, sizeOf, typeInfo, hi1, hi2]
        split <;> rfl
      · cases hv
    · cases hc
  | fieldAddr t x f =>
    simp only [compOpA] at hc
    split at hc
    · rename_i fields hu
      split at hc
      · rename_i fd hf
        split at hc
        · rename_i k hk
          simp only [Option.some.injEq] at hc; subst hc
          simp only [pureOf] at hv
          split at hv
          · rename_i p hp
            cases hv
            obtain ⟨ad, h1, h2⟩ := ptr_sound hp (ev_sound e x)
            obtain ⟨i, hi1, hi2⟩ := szOf_some hk
            refine ⟨.pointer (some (ad.add fd.offset)), ?_, .inr (addr_cvo h1 _)⟩
            simp [execOp, Instr.fieldAt, run_underlying hu, hf, h2, Instr.sureAddr, fieldPlace, sizeOf, typeInfo, hi1, hi2]
          · cases hv
        · cases hc
      · cases hc
    · cases hc
  | field t x f =>
    simp only [compOpA] at hc
    split at hc
    · rename_i fields hu
      split at hc
      · rename_i fd hf
        split at hc
        rotate_left
        · cases hc
        rename_i hus
        simp only [Option.map_eq_some_iff] at hc
        obtain ⟨s, hs, rfl⟩ := hc
        simp only [pureOf] at hv
        split at hv
        · rename_i cs hcs
          obtain ⟨ys, h1, h2⟩ := agg_sound hcs (ev_sound e x)
          obtain ⟨i, hi1, hi2⟩ := szOf_some hs
          subst hi2
          obtain ⟨d, hd⟩ := Option.isSome_iff_exists.1 hus
          obtain ⟨c, g1, g2⟩ := part_sound hi1 hd h1 hv w
          exact ⟨c, by simp [execOp, Instr.field, run_underlying hu, hf, h2, asAgg, g1], .inr g2⟩
        · cases hv
      · cases hc
    · cases hc
  | indexAddr t x i =>
    simp only [compOpA] at hc
    split at hc
    · rename_i el hu
      simp only [Option.map_eq_some_iff] at hc
      obtain ⟨s, hs, rfl⟩ := hc
      simp only [pureOf] at hv
      split at hv
      · rename_i p po len cap q hp
        split at hv
        · rename_i j hj
          cases hv
          obtain ⟨kk, h3, h4⟩ := index_sound (ev_sound e i) hj
          obtain ⟨it, hi1, hi2⟩ := szOf_some hs
          obtain ⟨bs, cap', g1, g2, g3, _⟩ := slice_sound hp (ev_sound e x)
          have g4 := g3 (by omega)
          refine ⟨.pointer (some (bs.add (j * s))), ?_, .inr (addr_cvo g4 _)⟩
          have hlt : ¬ len ≤ j := by omega
          simp [execOp, Instr.indexAt, run_underlying hu, g1, h3, asIntOf, sizeOf, typeInfo, hi1, hi2, h4]
        · cases hv
      · cases hv
    · rename_i k el hu
      simp only [Option.map_eq_some_iff] at hc
      obtain ⟨s, hs, rfl⟩ := hc
      simp only [pureOf] at hv
      split at hv
      · rename_i p hp
        split at hv
        · rename_i j hj
          cases hv
          obtain ⟨ad, h1, h2⟩ := ptr_sound hp (ev_sound e x)
          obtain ⟨kk, h3, h4⟩ := index_sound (ev_sound e i) hj
          obtain ⟨it, hi1, hi2⟩ := szOf_some hs
          refine ⟨.pointer (some (ad.add (j * s))), ?_, .inr (addr_cvo h1 _)⟩
          simp [execOp, Instr.indexAt, run_underlying hu, h2, h3, asIntOf, Instr.sureAddr, sizeOf, typeInfo, hi1, hi2, h4]
        · cases hv
      · cases hv
    · cases hc
  | index t x i =>
    simp only [compOpA] at hc
    split at hc
    · rename_i hu
      simp only [Option.some.injEq] at hc; subst hc
      simp only [pureOf] at hv
      split at hv
      · rename_i s hs
        split at hv
        · rename_i j hj
          split at hv
          · rename_i b hb
            cases hv
            have hcs := cvo_str hs (ev_sound e x)
            obtain ⟨kk, h3, h4⟩ := index_sound (ev_sound e i) hj
            refine ⟨.int .u8 b.toNat, ?_, .inr rfl⟩
            have h0 : (0 : Int) ≤ (j : Int) := by omega
            have hg : (⟨s.toArray⟩ : ByteArray)[j]? = some b := by
              have hj2 : j < s.length := by omega
              rw [List.getElem?_eq_getElem hj2] at hb
              have hj3 : j < (⟨s.toArray⟩ : ByteArray).size := by simpa [ByteArray.size] using hj2
              rw [getElem?_pos (⟨s.toArray⟩ : ByteArray) j hj3, ← hb]
              rfl
            simp [execOp, Instr.index, run_underlying hu, hcs, h3, asIntOf, h0, hg]
          · cases hv
        · cases hv
      · cases hv
    · rename_i k el hu
      split at hc
      rotate_left
      · cases hc
      rename_i hus
      simp only [Option.map_eq_some_iff] at hc
      obtain ⟨s, hs, rfl⟩ := hc
      simp only [pureOf] at hv
      split at hv
      · rename_i cs hcs
        split at hv
        · rename_i j hj
          obtain ⟨ys, h1, h2⟩ := agg_sound hcs (ev_sound e x)
          obtain ⟨kk, h3, h4⟩ := index_sound (ev_sound e i) hj
          obtain ⟨it, hi1, hi2⟩ := szOf_some hs
          subst hi2
          obtain ⟨d, hd⟩ := Option.isSome_iff_exists.1 hus
          obtain ⟨c, g1, g2⟩ := part_sound hi1 hd h1 hv w
          have hlt : (0 : Int) ≤ (j : Int) ∧ (j : Int) < (k : Int) := by omega
          exact ⟨c, by simp [execOp, Instr.index, run_underlying hu, h2, h3, asIntOf, sizeOf, typeInfo, hi1, h4, g1], .inr g2⟩
        · cases hv
      · cases hv
    · cases hc
  | lookup => simp [compOpA] at hc
  | mapUpdate => simp [compOpA] at hc
  | mapEntry => simp [compOpA] at hc
  | entryStore => simp [compOpA] at hc
  | range => simp [compOpA] at hc
  | next => simp [compOpA] at hc
  | entry => simp [compOpA] at hc
  | typeAssert => simp [compOpA] at hc
  | extract t i =>
    simp only [compOpA, Option.some.injEq] at hc; subst hc
    simp only [pureOf] at hv
    split at hv
    · rename_i vs hvs
      have hx := ev_sound e t
      rw [hvs] at hx
      have := hx.cv (by simp)
      simp only [cvo, Option.map_eq_some_iff] at this
      obtain ⟨ys, h1, h2⟩ := this
      obtain ⟨y, h3, h4⟩ := cvos_get h1 hv
      exact ⟨y, by simp [execOp, Instr.extract, ← h2, h4], .inr h3⟩
    · cases hv
  | call c =>
    obtain ⟨callee, args, argTypes⟩ := c
    simp only [compOpA] at hc
    split at hc
    · -- len
      split at hc
      · rename_i x hx hu
        cases hc
        simp only [pureOf] at hv
        have ha : args = #[x] := by apply Array.ext'; simpa using hx
        subst ha
        obtain ⟨t0, ht0, hu⟩ := Option.bind_eq_some_iff.1 hu
        split at hv
        · rename_i s hs
          cases hv
          have := cvo_str hs (ev_sound e x)
          have hsz : (⟨s.toArray⟩ : ByteArray).size = s.length := List.size_toArray ..
          exact ⟨.int .i64 s.length, by simp [execOp, resolve, invoke, builtin, Builtin.len_, ht0, run_underlying hu, this, goInt, hsz], .inr rfl⟩
        · cases hv
      · rename_i x el hx hu
        cases hc
        simp only [pureOf] at hv
        have ha : args = #[x] := by apply Array.ext'; simpa using hx
        subst ha
        obtain ⟨t0, ht0, hu⟩ := Option.bind_eq_some_iff.1 hu
        split at hv
        · rename_i p po len cap q hs
          cases hv
          have hcx : ∃ bs cap', a.eval x = .slice bs len cap' := by
            cases p with
            | none =>
              have h2 := (ev_sound e x).cv (by rw [hs]; simp)
              rw [hs] at h2
              simp only [cvo] at h2
              split at h2
              · rename_i hz
                split at h2
                · exact ⟨none, 0, by rw [hz.1]; exact (Option.some.inj h2).symm⟩
                · simp only [Option.map_eq_some_iff] at h2
                  obtain ⟨b, _, h3⟩ := h2
                  exact ⟨some b, 0, by rw [hz.1]; exact h3.symm⟩
              · cases h2
            | some p => obtain ⟨bs, cap', g1, _⟩ := slice_sound hs (ev_sound e x); exact ⟨some bs, cap', g1⟩
          obtain ⟨bs, cap', g1⟩ := hcx
          exact ⟨.int .i64 len, by simp [execOp, resolve, invoke, builtin, Builtin.len_, ht0, run_underlying hu, g1, goInt], .inr rfl⟩
        · cases hv
      · rename_i x k el hx hu
        cases hc
        simp only [pureOf] at hv
        cases hv
        have ha : args = #[x] := by apply Array.ext'; simpa using hx
        subst ha
        obtain ⟨t0, ht0, hu⟩ := Option.bind_eq_some_iff.1 hu
        exact ⟨.int .i64 k, by simp [execOp, resolve, invoke, builtin, Builtin.len_, ht0, run_underlying hu, goInt], .inr rfl⟩
      · cases hc
    · -- append
      split at hc
      · split at hc
        · split at hc
          · split at hc
            · split at hc
              · cases hc; simp [pureOf] at hv
              · cases hc
            · cases hc
          · cases hc
        · split at hc
          · split at hc
            · split at hc
              · cases hc; simp [pureOf] at hv
              · cases hc
            · cases hc
          · cases hc
        · cases hc
      · cases hc
    · cases hc; simp [pureOf] at hv
    · cases hc; simp [pureOf] at hv
    · cases hc
  | go => simp [compOpA] at hc
  | defer => simp [compOpA] at hc
  | panic => simp [compOpA] at hc
  | send => simp [compOpA] at hc
  | recv => simp [compOpA] at hc
  | select => simp [compOpA] at hc
end
end Go.AM
