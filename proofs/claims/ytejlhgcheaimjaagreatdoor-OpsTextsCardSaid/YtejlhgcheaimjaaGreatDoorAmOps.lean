/- The abstract machine: every operation that is covered. -/
import Derived.Test.YtejlhgcheaimjaaGreatDoorAmIface
namespace Go.AM
set_option linter.unusedVariables false
set_option linter.unusedSimpArgs false
section
variable {P : Program} {M0 : Mu} {m : Mu} {n : Nat} {E : Env} {a : Act} {F : Fr} {A : St} {w : World}

/-- The further operations, one by one. -/
inductive OpB (P : Program) : Op → AOp → Prop where
  | lookup {t : TypeId} {x i : Operand} {ok : Bool} {kd : KK} {e : TypeId} {z : AV} (ht : mapKind P t = some (kd, e)) (hz : zeroAV P e = some z) : OpB P (.lookup t x i ok) (.lookup kd z ok x i)
  | put {t : TypeId} {x i y : Operand} {kd : KK} {e : TypeId} (ht : mapKind P t = some (kd, e)) : OpB P (.mapUpdate t x i y) (.mapPut kd x i y)
  | make (t : TypeId) : OpB P (.makeMap t none) .mkMap
  | range {t : TypeId} {x : Operand} {isMap : Bool} (ht : (isMap = false ∧ P.underlying t = some .string) ∨ (isMap = true ∧ ∃ k e, P.underlying t = some (.map k e))) : OpB P (.range t x) (.range isMap x)
  | next (it : Operand) (s : Bool) : OpB P (.next it s) (.next s it)
  | entry (it : Operand) : OpB P (.entry it) (.entry it)
  | len {x : Operand} {ts : Array TypeId} {t k e : TypeId} (hts : ts[0]? = some t) (hu : P.underlying t = some (.map k e)) : OpB P (.call ⟨.builtin .len, #[x], ts⟩) (.lenMap x)
  | minmax (isMax : Bool) (xs : Array Operand) (ts : Array TypeId) : OpB P (.call ⟨.builtin (bif isMax then .max else .min), xs, ts⟩) (.minmax isMax xs.toList)
  | clearS {x : Operand} {ts : Array TypeId} {t el : TypeId} {z : List AV} (hts : ts[0]? = some t) (hu : P.underlying t = some (.slice el)) (hz : zeroCs P el = some z) : OpB P (.call ⟨.builtin .clear, #[x], ts⟩) (.clearS z x)
  | clearM {x : Operand} {ts : Array TypeId} {t k e : TypeId} (hts : ts[0]? = some t) (hu : P.underlying t = some (.map k e)) : OpB P (.call ⟨.builtin .clear, #[x], ts⟩) (.clearM x)
  | del {x i : Operand} {ts : Array TypeId} {t : TypeId} {kd : KK} {e : TypeId} (hts : ts[0]? = some t) (ht : mapKind P t = some (kd, e)) : OpB P (.call ⟨.builtin .delete, #[x, i], ts⟩) (.mapDel kd x i)
  | eqAgg {op : BinOp} {t : TypeId} {x y : Operand} {ks : List KK} (ty : TypeId) (hop : (op == .eql || op == .neq) = true) (hf : structKinds P t = some ks) : OpB P (.binOp op t x y ty) (.eqAgg (op == .neq) ks x y)
  | cap {x : Operand} {ts : Array TypeId} {t el : TypeId} (hts : ts[0]? = some t) (hu : P.underlying t = some (.slice el)) : OpB P (.call ⟨.builtin .cap, #[x], ts⟩) (.cap x)
  | appendZ {s x : Operand} {t tx el : TypeId} {k : IntKind} {i : TypeInfo} {z : List AV} (hu : P.underlying t = some (.slice el)) (hx : P.underlying tx = some (.int k)) (hi : P.info? el = some i) (hz : zeroCs P el = some z) (hl : z.length = i.size ∧ 1 ≤ i.size) : OpB P (.call ⟨.builtin .append, #[s, x], #[t, tx]⟩) (.appendZ i.size i.bytes z s x)
  | assertI {x : Operand} {s t : TypeId} {ok : Bool} {want : Array (String × TypeId)} (hu : P.underlying t = some (.interface want)) (hz : zeroAV P t = some .nilIface) : OpB P (.typeAssert x s t ok) (.isIface ((metTypes P).filter (hasT P want true)) ((metTypes P).filter (hasT P want false)) ok x)
  | assertT {x : Operand} {s t : TypeId} {ok : Bool} {d : TypeDesc} {z : AV} (hu : P.underlying t = some d) (hd : ∀ want, d ≠ .interface want) (hz : zeroAV P t = some z) : OpB P (.typeAssert x s t ok) (.isType t z ok x)
  | invoke (x : Operand) (name : String) (xs : Array Operand) (ts : Array TypeId) : OpB P (.call ⟨.invoke x name, xs, ts⟩) (.invoke x (dispTab P name) xs.toList)
theorem compOpB_spec {op : Op} {ao : AOp} (h : compOpB P op = some ao) : OpB P op ao := by
  unfold compOpB at h
  split at h
  · split at h
    · rename_i kd e ht
      simp only [Option.map_eq_some_iff] at h
      obtain ⟨z, hz, rfl⟩ := h
      exact .lookup ht hz
    · cases h
  · simp only [Option.map_eq_some_iff] at h
    obtain ⟨⟨kd, e⟩, ht, rfl⟩ := h
    exact .put ht
  · cases h; exact .make _
  · split at h
    · rename_i hb
      split at h
      · rename_i ks hk
        cases h
        exact .eqAgg _ hb hk
      · cases h
    · cases h
  · split at h
    · rename_i hu; cases h; exact .range (.inl ⟨rfl, hu⟩)
    · rename_i k e hu; cases h; exact .range (.inr ⟨rfl, k, e, hu⟩)
    · cases h
  · cases h; exact .next _ _
  · cases h; exact .entry _
  · split at h
    · rename_i want hu
      split at h
      · rename_i hz; cases h; exact .assertI hu hz
      · cases h
    · rename_i d hnd hu
      simp only [Option.map_eq_some_iff] at h
      obtain ⟨z, hz, rfl⟩ := h
      exact .assertT hu (fun want e => hnd want e) hz
    · cases h
  · rename_i c
    obtain ⟨callee, args, argTypes⟩ := c
    dsimp only at h
    split at h
    · split at h
      · rename_i x k e hx hu
        cases h
        have ha : args = #[x] := by apply Array.ext'; simpa using hx
        subst ha
        obtain ⟨t0, ht0, hu⟩ := Option.bind_eq_some_iff.1 hu
        exact .len ht0 hu
      · cases h
    · split at h
      · rename_i x e hx hu
        cases h
        have ha : args = #[x] := by apply Array.ext'; simpa using hx
        subst ha
        obtain ⟨t0, ht0, hu⟩ := Option.bind_eq_some_iff.1 hu
        exact .cap ht0 hu
      · cases h
    · split at h
      · rename_i s x t tx hargs htypes
        have ha : args = #[s, x] := by apply Array.ext'; simpa using hargs
        have ht0 : argTypes = #[t, tx] := by apply Array.ext'; simpa using htypes
        subst ha ht0
        split at h
        · rename_i e k hu hx
          split at h
          · rename_i i z hi hz
            split at h
            · rename_i hl
              cases h
              exact .appendZ hu hx hi hz hl
            · cases h
          · cases h
        · cases h
      · cases h
    · cases h; exact .invoke _ _ _ _
    · cases h; exact .minmax false args argTypes
    · cases h; exact .minmax true args argTypes
    · split at h
      · rename_i x e hx hu
        have ha : args = #[x] := by apply Array.ext'; simpa using hx
        subst ha
        obtain ⟨t0, ht0, hu⟩ := Option.bind_eq_some_iff.1 hu
        split at h
        · rename_i i z hi hz
          split at h
          · cases h; exact .clearS ht0 hu hz
          · cases h
        · cases h
      · rename_i x k e hx hu
        cases h
        have ha : args = #[x] := by apply Array.ext'; simpa using hx
        subst ha
        obtain ⟨t0, ht0, hu⟩ := Option.bind_eq_some_iff.1 hu
        exact .clearM ht0 hu
      · cases h
    · split at h
      · rename_i x k p hx hu
        cases h
        have ha : args = #[x, k] := by apply Array.ext'; simpa using hx
        subst ha
        obtain ⟨t0, ht0, hu⟩ := Option.bind_eq_some_iff.1 hu
        exact .del ht0 hu
      · cases h
    · cases h
  · cases h

theorem pure_sound {o : Oper} {ao : AOp} {v : AV} (hc : compOp P o.op = some ao) (e : EnvR M0 m n E a) (hv : pureOf E ao = some v) (w : World) : PureOk P m a o v w := by
  rcases compOp_cases hc with h | h | rfl
  · exact pure_soundA h e hv w
  · have hb := compOpB_spec h
    generalize hop : o.op = op at hb
    cases hb with
    | minmax isMax xs ts => exact minmax_sound hop e hv w
    | eqAgg ty h1 h2 => exact eqAgg_sound hop h1 h2 e hv w
    | cap hts hu => exact cap_sound hop hts hu e hv w
    | assertI hu hz => exact assertI_sound hop hu hz e hv w
    | assertT hu hd hz => exact assertT_sound hop hu hd hz e hv w
    | _ => cases hv
  · cases hv
theorem new_sound {o : Oper} {ao : AOp} {cs : List AV} {sz : Nat} {md : Made} (hc : compOp P o.op = some ao) (e : EnvR M0 m n E a) (hv : newOf E ao = some (cs, sz, md)) (w : World) : NewOk P m a o cs sz md w := by
  rcases compOp_cases hc with h | h | rfl
  · exact new_soundA h e hv w
  · have hb := compOpB_spec h
    generalize hop : o.op = op at hb
    cases hb with
    | appendZ hu hx hi hz hl => exact appendZ_sound hop hu hx hi hz hl e hv w
    | _ => cases hv
  · cases hv
theorem read_sound {o : Oper} {ao : AOp} {v : AV} (R : Rel F m A w) (hc : compOp P o.op = some ao) (e : EnvR M0 m n E a) (hv : readOf E A ao = some v) : ReadOk P m a o v w := by
  rcases compOp_cases hc with h | h | rfl
  · exact read_soundA R h e hv
  · have hb := compOpB_spec h
    generalize hop : o.op = op at hb
    cases hb with
    | lookup ht hz => exact lookup_sound hop ht hz R e hv
    | entry it => exact entry_sound hop R e hv
    | len hts hu => exact lenMap_sound hop hts hu R e hv
    | _ => cases hv
  · cases hv
theorem eff_sound {o : Oper} {ao : AOp} {v : AV} {B : St} (R : Rel F m A w) (hc : compOp P o.op = some ao) (e : EnvR M0 m n E a) (hv : effOf E A ao = some (v, B)) : EffOk P F m a o v B w := by
  rcases compOp_cases hc with h | h | rfl
  · exact eff_soundA R h e hv
  · have hb := compOpB_spec h
    generalize hop : o.op = op at hb
    cases hb with
    | put ht => exact mapPut_sound hop ht R e hv
    | make t => exact mkMap_sound hop R hv
    | range ht => exact range_sound hop ht R e hv
    | next it s => exact next_sound hop R e hv
    | del hts ht => exact mapDel_sound hop hts ht R e hv
    | clearS hts hu hz => exact clearS_sound hop hts hu hz R e hv
    | clearM hts hu => exact clearM_sound hop hts hu R e hv
    | _ => cases hv
  · cases hv
theorem late_sound {o : Oper} {ao : AOp} {v : AV} (R : Rel F m A w) (hc : compOp P o.op = some ao) (e : EnvR M0 m n E a) (hv : lateOf E A ao = some v) : ReadOk P m a o v w := by
  rcases compOp_cases hc with hc | hc | rfl
  rotate_left
  · have hb := compOpB_spec hc
    generalize o.op = op at hb
    cases hb <;> cases hv
  · cases hv
  obtain ⟨dst, op, type, pos, after, guard⟩ := o
  dsimp only at hc
  cases op with
  | slice t x lo hi mx =>
    simp only [compOpA] at hc
    split at hc
    · split at hc
      · cases hc; cases hv
      · cases hc
    · rename_i el hu
      simp only [Option.map_eq_some_iff] at hc
      obtain ⟨s, hs, rfl⟩ := hc
      obtain ⟨i, hi1, hi2⟩ := szOf_some hs
      simp only [lateOf, lateCut] at hv
      split at hv
      · rename_i _ h f v' o po len skip q hmx hhi hx
        split at hv
        · rename_i cs vers nv hg
          split at hv
          · rename_i y hy
            split at hv
            · rename_i hh hb
              split at hv
              · rename_i l hl
                split at hv
                · rename_i hcond
                  cases hv
                  obtain ⟨hq, hlo1, hlo2⟩ := hcond
                  have hmn : mx = none := by cases mx <;> simp [evo] at hmx ⊢
                  subst hmn
                  have hx2 := (ev_sound e x).cv (by rw [hx]; simp)
                  rw [hx] at hx2
                  simp only [cvo] at hx2
                  split at hx2
                  · rename_i k hk
                    split at hx2
                    · rename_i hcc
                      obtain ⟨c1, c2, c3⟩ := hcc
                      simp only [Option.map_eq_some_iff] at hx2
                      obtain ⟨ad, hp, hxe⟩ := hx2
                      obtain ⟨hym, hyv⟩ := findVer_spec hy
                      obtain ⟨k', cr⟩ := (R.got _ _ hg).1 y hym
                      have hk' := cr.mu
                      rw [hyv, hk] at hk'
                      cases hk'
                      have hroom := (cr.rw rfl).2.1
                      have hlo := cr.lo
                      have hb2 := hb
                      unfold bound? at hb
                      split at hb
                      · rename_i kk ii
                        split at hb
                        · rename_i hi2'
                          cases hb
                          have hle : ii.toNat * s ≤ y.hi - o := by
                            have h1 : ii.toNat ≤ (y.hi - o) / s := by omega
                            exact Nat.le_trans (Nat.mul_le_mul_right s h1) (Nat.div_mul_le_self _ _)
                          have hcap : skip + ii.toNat ≤ k.cap := by
                            have : (skip + ii.toNat) * k.sz ≤ k.cap * k.sz := by
                              rw [Nat.add_mul, show ii.toNat * k.sz = ii.toNat * s by rw [c3, hq]]
                              omega
                            exact Nat.le_of_mul_le_mul_right this (by omega)
                          have hhi' : boundHi (evo E hi) (k.cap - skip) len = some ii.toNat := by
                            rw [hhi]
                            simp only [boundHi, bound?]
                            rw [if_pos (by omega)]
                          obtain ⟨h1, h2, h3, h4⟩ := bounds_sound (P := P) (mx := none) (cap := k.cap - skip) (mm := k.cap - skip) e rfl hhi' hl (by simp [evo]) true w
                          refine ⟨.slice (if k.cap - skip = l then some ad else (some ad).map (·.add (l * s))) (ii.toNat - l) (k.cap - skip - l), ?_, ?_⟩
                          · simp only [Option.map_none] at h1
                            simp [execOp, Instr.sliceAt, run_underlying hu, Instr.slice, ← hxe, h1, sizeOf, typeInfo, hi1, hi2]
                          · simp only [cvo, hk]
                            have hmul : (skip + l) * k.sz = skip * k.sz + l * k.sz := Nat.add_mul _ _ _
                            rw [if_pos ⟨by rw [hmul, c3, ← hq]; rw [c3, ← hq] at c1; omega, by omega, c3⟩]
                            have hcap : k.cap - (skip + l) = k.cap - skip - l := by omega
                            rw [hcap]
                            by_cases hz : k.cap = skip + l
                            · rw [if_pos hz, if_pos (by omega : k.cap - skip = l)]
                              by_cases hl0 : l = 0
                              · subst hl0
                                rw [if_pos rfl]
                                rw [if_pos (by omega)] at hp
                                rw [hp]; rfl
                              · rw [if_neg hl0]
                                rw [if_neg (by omega)] at hp
                                rw [hp]; rfl
                            · rw [if_neg hz, if_neg (by omega : ¬ k.cap - skip = l)]
                              rw [if_neg (by omega)] at hp
                              rw [(plc_add hp (l * s)).1]; rfl
                        · cases hb
                      · cases hb
                    · cases hx2
                  · cases hx2
                · cases hv
              · cases hv
            · cases hv
          · cases hv
        · cases hv
      · cases hv
    · simp only [Option.map_eq_some_iff] at hc
      obtain ⟨s, hs, rfl⟩ := hc
      cases hv
    · cases hc
  | _ =>
    exfalso
    simp only [compOpA, compEq] at hc
    repeat' split at hc
    all_goals first
      | (cases hc; done)
      | (simp only [Option.some.injEq] at hc; subst hc; simp [lateOf] at hv; done)
      | (simp only [Option.map_eq_some_iff] at hc; obtain ⟨_, _, rfl⟩ := hc; simp [lateOf] at hv; done)
/-- What is called comes of the first kind of operations, or is called through an interface value. -/
theorem callee_cases {D : Disp} {op : Op} {ao : AOp} {r : FuncId × List AV} (hc : compOp P op = some ao) (hf : calleeOf D E A ao = some r) : compOpA P op = some ao ∨ ∃ x name xs ts, op = .call ⟨.invoke x name, xs, ts⟩ ∧ ao = .invoke x (dispTab P name) xs.toList := by
  rcases compOp_cases hc with h | h | rfl
  · exact .inl h
  · have hb := compOpB_spec h
    cases hb with
    | invoke x name xs ts => exact .inr ⟨x, name, xs, ts, rfl, rfl⟩
    | _ => cases hf
  · cases hf
end
end Go.AM
