/- The abstract machine: a run of it is a run of the model's. -/
import Derived.Test.YteoioahkflcchaaGreatDoorAmDraw
namespace Go.AM
set_option linter.unusedVariables false
set_option linter.unusedSimpArgs false
section
variable {P : Program} {M0 : Mu} {D : Disp} {G : Calls'} {n : Nat}
def Ex.toExit : Ex → Exit
  | .normal => .normal
  | .exit id => .exit id
  | .ret => .ret

/-- What is known behind a piece of code. -/
def Done (M0 : Mu) (F : Fr) (n : Nat) (m : Mu) (ex : Ex) (E' : Env) (A' : St) : Exit → Act → World → Prop :=
  fun e a' w' => e = ex.toExit ∧ ∃ m', m.le m' ∧ Rel F m' A' w' ∧ EnvR M0 m' n E' a' ∧ a'.defers = []

theorem Done.mono {F : Fr} {m m' : Mu} (hle : m.le m') {ex : Ex} {E' : Env} {A' : St} {e : Exit} {a : Act} {w : World} (h : Done M0 F n m' ex E' A' e a w) : Done M0 F n m ex E' A' e a w := by
  obtain ⟨h1, k, h2, h3⟩ := h
  exact ⟨h1, k, Mu.le_trans hle h2, h3⟩

theorem interp_sound (hmx : P.follows .mixedOrders = true) (hG : GSound P M0 G) (k : Nat) : ∀ (c : Code) (ac : ACode), comp P n c = some ac → ∀ {F : Fr} {m : Mu} {E : Env} {a : Act} {A : St} {w : World} {ex : Ex} {E' : Env} {A' : St},
    Rel F m A w → EnvR M0 m n E a → a.defers = [] → interp D G k ac E A = some (ex, E', A') → c.wp P (Done M0 F n m ex E' A') a w := by
  intro c
  induction c with
  | skip =>
    intro ac hc F m E a A w ex E' A' R e hd h
    simp only [comp, Option.some.injEq] at hc; subst hc
    simp only [interp, Option.some.injEq, Prod.mk.injEq] at h
    obtain ⟨rfl, rfl, rfl⟩ := h
    exact wp_skip ⟨rfl, m, Mu.le_refl m, R, e, hd⟩
  | region id ops draw =>
    intro ac hc F m E a A w ex E' A' R e hd h
    cases draw with
    | true =>
      have hst : ac = stuckCode → False := fun hs => by
        subst hs
        simp [stuckCode, interp, ev, constAV, constFlat] at h
      simp only [comp] at hc
      split at hc
      rotate_left
      · cases hc; exact (hst rfl).elim
      rename_i cc hcc
      cases hc
      have hc := hcc
      have hdr : ∃ lim, ac = .draws lim := by
        unfold compDraw at hc
        split at hc
        · dsimp only at hc
          cases hb : pairsB 0 (zipM ‹List AOper› (masks ops.toList [])) && backB 0 ops.toList with
          | false => rw [hb] at hc; cases hc
          | true => rw [hb] at hc; simp only [cond_true, Option.some.injEq] at hc; exact ⟨_, hc.symm⟩
        · cases hc
      obtain ⟨lim, rfl⟩ := hdr
      simp only [interp] at h
      split at h
      · rename_i tr htr
        cases hk : chkTr tr 0 lim with
        | false => rw [hk] at h; cases h
        | true =>
          rw [hk] at h; simp only [cond_true] at h
          split at h
          · rename_i x hx
            cases h
            exact draws_sound hmx hG hc id R e hd htr hk hx fun m' a' w' h1 h2 h3 h4 => ⟨rfl, m', h1, h2, h3, h4⟩
          · cases h
      · cases h
    | false =>
      simp only [comp, Option.map_eq_some_iff] at hc
      obtain ⟨al, hal, rfl⟩ := hc
      simp only [interp] at h
      split at h
      · rename_i E1 A1 hr
        cases h
        refine wp_region ?_
        have := ops_sound (Q := Done M0 F n m .normal E' A') hG ops ops.toList 0 al (fun j => by simp) hal R e hd hr (fun m' a' w' h1 h2 h3 h4 => ⟨rfl, m', h1, h2, h3, h4⟩)
        rw [List.range_eq_range']
        simpa using this
      · cases h
  | seq x y ihx ihy =>
    intro ac hc F m E a A w ex E' A' R e hd h
    simp only [comp] at hc
    split at hc
    · rename_i ax ay hx hy
      cases hc
      simp only [interp] at h
      refine wp_seq ?_
      cases hr : interp D G k ax E A with
      | none => rw [hr] at h; cases h
      | some r =>
        obtain ⟨ex1, E1, A1⟩ := r
        rw [hr] at h
        refine wp_mono (ihx ax hx R e hd hr) fun e1 a1 w1 h1 => ?_
        obtain ⟨rfl, m1, g1, g2, g3, g4⟩ := h1
        cases ex1 with
        | normal =>
          simp only at h
          exact wp_mono (ihy ay hy g2 g3 g4 h) fun _ _ _ q => q.mono g1
        | exit i => simp only [Option.some.injEq, Prod.mk.injEq] at h; obtain ⟨rfl, rfl, rfl⟩ := h; exact ⟨rfl, m1, g1, g2, g3, g4⟩
        | ret => simp only [Option.some.injEq, Prod.mk.injEq] at h; obtain ⟨rfl, rfl, rfl⟩ := h; exact ⟨rfl, m1, g1, g2, g3, g4⟩
    · cases hc
  | cond c x y ihx ihy =>
    intro ac hc F m E a A w ex E' A' R e hd h
    simp only [comp] at hc
    split at hc
    · rename_i ax ay hx hy
      cases hc
      simp only [interp] at h
      split at h
      · rename_i hb
        exact wp_cond_true (cvo_bool hb (ev_sound e c)) (ihx ax hx R e hd h)
      · rename_i hb
        exact wp_cond_false (cvo_bool hb (ev_sound e c)) (ihy ay hy R e hd h)
      · cases h
    · cases hc
  | block id x ihx =>
    intro ac hc F m E a A w ex E' A' R e hd h
    simp only [comp, Option.map_eq_some_iff] at hc
    obtain ⟨ax, hx, rfl⟩ := hc
    simp only [interp] at h
    refine wp_block ?_
    cases hr : interp D G k ax E A with
    | none => rw [hr] at h; cases h
    | some r =>
      obtain ⟨ex1, E1, A1⟩ := r
      rw [hr] at h
      refine wp_mono (ihx ax hx R e hd hr) fun e1 a1 w1 h1 => ?_
      obtain ⟨rfl, m1, g1, g2, g3, g4⟩ := h1
      cases ex1 with
      | normal => simp only [Option.some.injEq, Prod.mk.injEq] at h; obtain ⟨rfl, rfl, rfl⟩ := h; exact ⟨rfl, m1, g1, g2, g3, g4⟩
      | ret => simp only [Option.some.injEq, Prod.mk.injEq] at h; obtain ⟨rfl, rfl, rfl⟩ := h; exact ⟨rfl, m1, g1, g2, g3, g4⟩
      | exit i =>
        simp only at h
        simp only [Ex.toExit, Exit.inBlock]
        by_cases hi : i = id
        · rw [if_pos hi] at h ⊢; cases h; exact ⟨rfl, m1, g1, g2, g3, g4⟩
        · rw [if_neg hi] at h ⊢; cases h; exact ⟨rfl, m1, g1, g2, g3, g4⟩
  | loop x ihx =>
    intro ac hc F m E a A w ex E' A' R e hd h
    simp only [comp, Option.map_eq_some_iff] at hc
    obtain ⟨ax, hx, rfl⟩ := hc
    simp only [interp] at h
    refine wp_loop_rounds k ?_
    have key : ∀ j {m : Mu} {E : Env} {a : Act} {A : St} {w : World}, Rel F m A w → EnvR M0 m n E a → a.defers = [] → loopN (interp D G k ax) j E A = some (ex, E', A') → Code.rounds P x (Done M0 F n m ex E' A') j a w := by
      intro j
      induction j with
      | zero => intro m E a A w R e hd h; cases h
      | succ j ih =>
        intro m E a A w R e hd h
        rw [rounds_succ]
        simp only [loopN] at h
        cases hr : interp D G k ax E A with
        | none => rw [hr] at h; cases h
        | some r =>
          obtain ⟨ex1, E1, A1⟩ := r
          rw [hr] at h
          refine wp_mono (ihx ax hx R e hd hr) fun e1 a1 w1 h1 => ?_
          obtain ⟨rfl, m1, g1, g2, g3, g4⟩ := h1
          cases ex1 with
          | normal =>
            simp only at h
            have := ih g2 g3 g4 h
            show Code.rounds P x _ j a1 w1
            have mono : ∀ j a w, Code.rounds P x (Done M0 F n m1 ex E' A') j a w → Code.rounds P x (Done M0 F n m ex E' A') j a w := by
              intro j
              induction j with
              | zero => intro a w h; exact h
              | succ j ihj =>
                intro a w h
                rw [rounds_succ] at h ⊢
                refine wp_mono h fun e' a' w' q => ?_
                cases e' <;> first | exact ihj _ _ q | exact Done.mono g1 q
            exact mono j a1 w1 this
          | exit i => simp only [Option.some.injEq, Prod.mk.injEq] at h; obtain ⟨rfl, rfl, rfl⟩ := h; exact ⟨rfl, m1, g1, g2, g3, g4⟩
          | ret => simp only [Option.some.injEq, Prod.mk.injEq] at h; obtain ⟨rfl, rfl, rfl⟩ := h; exact ⟨rfl, m1, g1, g2, g3, g4⟩
    exact key k R e hd h
  | exit id =>
    intro ac hc F m E a A w ex E' A' R e hd h
    simp only [comp, Option.some.injEq] at hc; subst hc
    simp only [interp, Option.some.injEq, Prod.mk.injEq] at h
    obtain ⟨rfl, rfl, rfl⟩ := h
    exact wp_exit ⟨rfl, m, Mu.le_refl m, R, e, hd⟩
  | ret =>
    intro ac hc F m E a A w ex E' A' R e hd h
    simp only [comp, Option.some.injEq] at hc; subst hc
    simp only [interp, Option.some.injEq, Prod.mk.injEq] at h
    obtain ⟨rfl, rfl, rfl⟩ := h
    exact wp_ret ⟨rfl, m, Mu.le_refl m, R, e, hd⟩
  | rangeFunc =>
    intro ac hc F m E a A w ex E' A' R e hd h
    simp only [comp, Option.some.injEq] at hc; subst hc
    simp [stuckCode, interp, ev, constAV, constFlat] at h
  | scope =>
    intro ac hc F m E a A w ex E' A' R e hd h
    simp only [comp, Option.some.injEq] at hc; subst hc
    simp [stuckCode, interp, ev, constAV, constFlat] at h
  | label =>
    intro ac hc F m E a A w ex E' A' R e hd h
    simp only [comp, Option.some.injEq] at hc; subst hc
    simp [stuckCode, interp, ev, constAV, constFlat] at h
  | goto =>
    intro ac hc F m E a A w ex E' A' R e hd h
    simp only [comp, Option.some.injEq] at hc; subst hc
    simp [stuckCode, interp, ev, constAV, constFlat] at h
  | refuse =>
    intro ac hc F m E a A w ex E' A' R e hd h
    simp only [comp, Option.some.injEq] at hc; subst hc
    simp [stuckCode, interp, ev, constAV, constFlat] at h

theorem setArgs_at (args : List AV) : ∀ (i : Nat) (E : Env) (t : Nat), Env.at (setArgs i args E) t = if i ≤ t ∧ t < i + args.length then args.getD (t - i) .bot else Env.at E t := by
  induction args with
  | nil => intro i E t; simp only [setArgs]; rw [if_neg (by simp)]
  | cons x l ih =>
    intro i E t
    simp only [setArgs]
    rw [ih]
    by_cases h1 : i + 1 ≤ t ∧ t < i + 1 + l.length
    · rw [if_pos h1, if_pos (by simp; omega), show t - i = (t - (i + 1)) + 1 by omega]; simp
    · rw [if_neg h1]
      simp only [Env.at, T.get_set]
      by_cases h2 : t = i
      · subst h2; rw [if_pos rfl, if_pos (by simp)]; simp
      · rw [if_neg h2, if_neg (by simp; omega)]

/-- The globals' own slots. -/
structure BaseOk (M0 : Mu) (G0 : Env) : Prop where
  tmp : ∀ t, t < 1000000 → Env.at G0 t = .bot
  glob : ∀ g, slotR M0 (Env.at G0 (1000000 + g)) (.pointer (some ⟨g, 0, none⟩))

theorem enter_env {G0 : Env} (hb : BaseOk M0 G0) {m : Mu} (hm : M0.le m) {args : List AV} {cargs : List Value} (hc : cvos m args = some cargs) (hn : args.length ≤ n ∧ n ≤ 1000000) :
    EnvR M0 m n (setArgs 0 args G0) { tmps := cargs.toArray ++ Array.replicate (n - cargs.toArray.size) undef, defers := [] } := by
  have hl := cvos_length hc
  refine ⟨fun t ht => ?_, fun g => ?_, by simp; omega, hm⟩
  · rw [setArgs_at]
    by_cases h : t < args.length
    · rw [if_pos (by omega)]
      obtain ⟨y, hy, hj⟩ := cvos_get hc (j := t) (a := args[t]) (List.getElem?_eq_getElem h)
      refine .inr ?_
      have hlt : t < cargs.length := by omega
      have : (cargs.toArray ++ Array.replicate (n - cargs.toArray.size) undef).getD t undef = y := by
        rw [List.getElem?_eq_getElem hlt] at hj
        have := Option.some.inj hj
        simp [Array.getElem?_append_left, hlt, this]
      simp only [Nat.sub_zero]
      rw [this, List.getD_eq_getElem?_getD, List.getElem?_eq_getElem h]
      exact hy
    · rw [if_neg (by omega)]
      exact .inl (hb.tmp t ht)
  · rw [setArgs_at, if_neg (by omega)]
    exact (hb.glob g).mono hm

def resSem (tmps : Array Value) : ResultVar → Sem Value
  | .tmp t => pure (tmps.getD t undef)
  | .cell a t => do loadVar t (← asAddr (tmps.getD a undef))
theorem results_eq (fn : Func) (tmps : Array Value) : results fn tmps = (do
    let vs ← fn.results.mapM (resSem tmps)
    pure (if h : vs.size = 1 then vs[0] else .tuple vs)) := by
  unfold results
  congr 1

theorem res_sound {F : Fr} {m : Mu} {E : Env} {a : Act} {A : St} {w : World} (R : Rel F m A w) (e : EnvR M0 m n E a) : ∀ {rs : List ResultVar} {ars : List ARes} {l : List AV}, compRess P n rs = some ars → resVals E A ars = some l →
    ∃ vs : List Value, cvos m l = some vs ∧ (rs.mapM (resSem a.tmps)).run P w = .ok vs w
  | [], ars, l, hc, h => by
    simp only [compRess, Option.some.injEq] at hc; subst hc
    simp only [resVals, Option.some.injEq] at h; subst h
    exact ⟨[], rfl, by simp⟩
  | r :: rs, ars, l, hc, h => by
    simp only [compRess] at hc
    split at hc
    · rename_i ar as har has
      cases hc
      simp only [resVals] at h
      split at h
      · rename_i v hv
        split at h
        · rename_i vs hvs
          cases h
          obtain ⟨ys, g1, g2⟩ := res_sound R e has hvs
          have key : ∃ y, cvo m v = some y ∧ (resSem a.tmps r).run P w = .ok y w := by
            cases r with
            | tmp t =>
              simp only [compRes] at har
              split at har
              · rename_i ht
                cases har
                simp only [resVal, slotAt] at hv
                have : Nat.blt t 1000000 = true := by simpa [Nat.blt_eq] using ht.2
                rw [this] at hv; simp only [cond_true] at hv
                have hs := e.tmp t ht.2
                unfold known at hv
                split at hv
                · cases hv
                · rename_i hnb
                  cases hv
                  exact ⟨_, hs.cv hnb, rfl⟩
              · cases har
            | cell ad t =>
              simp only [compRes] at har
              split at har
              · rename_i ht
                obtain ⟨ht1, ht2, ht3⟩ := ht
                simp only [Option.map_eq_some_iff] at har
                obtain ⟨s, hs, rfl⟩ := har
                obtain ⟨d, hd⟩ := Option.isSome_iff_exists.1 ht3
                obtain ⟨i, hi1, hi2⟩ := szOf_some hs
                simp only [resVal, slotAt] at hv
                have : Nat.blt ad 1000000 = true := by simpa [Nat.blt_eq] using ht2
                rw [this] at hv; simp only [cond_true] at hv
                split at hv
                · rename_i p hp
                  obtain ⟨add, k1, k2⟩ := ptr_sound hp (e.tmp ad ht2)
                  split at hv
                  · rename_i cl hcl
                    obtain ⟨b, ofs, zs, q1, q2, q3, q4⟩ := R.cells hcl
                    rw [q1] at k1; cases k1
                    cases hg : isAggB P t with
                    | true =>
                      rw [hg] at hv hcl q3; simp only [if_true, cond_true] at hv hcl q3
                      cases hv
                      have hagg : (isAgg t).run P w = .ok true w := by
                        unfold isAggB at hg
                        rw [hd] at hg
                        cases d <;> simp at hg <;> simp [isAgg, run_underlying hd]
                      have hld := run_loadCells_list (P := P) w ⟨b, ofs, none⟩ zs (fun j v hj => by rw [Addr.add_mk]; exact q4 j v hj)
                      rw [q3] at hld
                      refine ⟨.agg zs.toArray, by simp [cvo, q2], ?_⟩
                      simp only [resSem, k2]
                      simp [asAddr, loadVar, hagg, sizeOf, typeInfo, hi1, hi2, hld]
                    | false =>
                      rw [hg] at hv hcl q3; simp only [cond_false] at hv hcl q3
                      split at hv
                      · cases hv
                        simp only [cvos] at q2
                        split at q2
                        · rename_i y us hy hu
                          cases q2
                          have hagg : (isAgg t).run P w = .ok false w := by
                            unfold isAggB at hg
                            rw [hd] at hg
                            cases d <;> simp at hg <;> simp [isAgg, run_underlying hd]
                          have hw := q4 0 y rfl
                          simp only [Nat.add_zero] at hw
                          refine ⟨y, hy, ?_⟩
                          simp only [resSem, k2]
                          simp [asAddr, loadVar, hagg, hw]
                        · cases q2
                      · cases hv
                  · cases hv
                · cases hv
              · cases har
          obtain ⟨y, k1, k2⟩ := key
          refine ⟨y :: ys, by simp [cvos, k1, g1], ?_⟩
          rw [List.mapM_cons]
          simp only [Sem.run_bind, k2, Result.andThen_ok, g2, Sem.run_pure]
        · cases h
      · cases h
    · cases hc

theorem results_sound {F : Fr} {m : Mu} {E : Env} {a : Act} {A : St} {w : World} (R : Rel F m A w) {fn : Func} (e : EnvR M0 m fn.ntmps E a) {ars : List ARes} {l : List AV} (hc : compRess P fn.ntmps fn.results.toList = some ars) (h : resVals E A ars = some l) :
    ∃ v, cvo m (packRes l) = some v ∧ (results fn a.tmps).run P w = .ok v w := by
  obtain ⟨vs, g1, g2⟩ := res_sound R e hc h
  have hl := cvos_length g1
  have hr : (fn.results.mapM (resSem a.tmps)).run P w = .ok vs.toArray w := by
    rw [Array.mapM_eq_mapM_toList]
    simp only [Sem.run_map, g2, Result.andThen_ok]
  rw [results_eq]
  simp only [Sem.run_bind, hr, Result.andThen_ok, Sem.run_pure]
  match l, vs, g1, hl with
  | [], vs, g1, hl =>
    simp [cvos] at g1; subst g1
    exact ⟨.tuple #[], rfl, by simp⟩
  | [v], vs, g1, hl =>
    simp only [cvos] at g1
    split at g1
    · rename_i y ys hy hys
      cases hys
      cases g1
      exact ⟨y, hy, by simp⟩
    · cases g1
  | v :: u :: l, vs, g1, hl =>
    refine ⟨.tuple vs.toArray, by simp [packRes, cvo, g1], ?_⟩
    have : ¬ vs.length = 1 := by simp at hl; omega
    simp [this]

theorem runFn_sound (hmx : P.follows .mixedOrders = true) (hG : GSound P M0 G) {G0 : Env} (hb : BaseOk M0 G0) {k : Nat} {f : FuncId} {fn : Func} {afn : AFn} (hf : P.funcs[f]? = some fn) (hc : compFn P fn = some afn) {args : List AV} {A B : St} {r : AV} (h : runFn D G k G0 afn args A = some (r, B))
    {F : Fr} {m : Mu} {w : World} {cargs : List Value} (hm : M0.le m) (R : Rel F m A w) (hargs : cvos m args = some cargs) : CallOk P F m r B f cargs.toArray w := by
  unfold compFn at hc
  split at hc
  · rename_i c hbody
    split at hc
    · rename_i b rs hcb hcr
      cases hc
      unfold runFn at h
      split at h
      · rename_i hn
        have e := enter_env hb hm hargs hn
        split at h
        · cases h
        · rename_i ex E1 B1 hex hr
          split at h
          · rename_i l hl
            cases h
            refine calls_of_wp hf hbody ?_
            refine wp_mono (interp_sound hmx hG k c b hcb R e rfl hr) fun ee a' w' q => ?_
            obtain ⟨rfl, m', q1, q2, q3, q4⟩ := q
            obtain ⟨v, v1, v2⟩ := results_sound q2 q3 hcr hl
            cases ex with
            | normal => exact ⟨q4, v, v2, v, m', rfl, q1, q2, v1⟩
            | ret => exact ⟨q4, v, v2, v, m', rfl, q1, q2, v1⟩
            | exit i => exact absurd rfl (hex i)
          · cases h
        · cases h
      · cases h
    · cases hc
  · cases hc

theorem calls_sound (hmx : P.follows .mixedOrders = true) {G0 : Env} (hb : BaseOk M0 G0) {fns : Nat → Option AFn} (hfns : ∀ f afn, fns f = some afn → ∃ fn, P.funcs[f]? = some fn ∧ compFn P fn = some afn ∧ fn.name ≠ "runtime.NumGoroutine") {X : Calls'} (hX : GSound P M0 X) : ∀ k, GSound P M0 (calls D G0 fns X k)
  | 0 => fun f args A r B h => by cases h
  | k + 1 => fun f args A r B h => by
    simp only [calls] at h
    split at h
    · rename_i afn hafn
      obtain ⟨fn, h1, h2, h3⟩ := hfns f afn hafn
      refine .inl ⟨⟨fn, h1, ?_, h3⟩, fun F m w cargs hm R hc => runFn_sound hmx (calls_sound hmx hb hfns hX k) hb h1 h2 h hm R hc⟩
      unfold compFn at h2
      split at h2
      · rename_i c hc; rw [hc]; rfl
      · cases h2
    · exact hX f args A r B h
/-- A function of the table. -/
theorem calls_ok (hmx : P.follows .mixedOrders = true) {G0 : Env} (hb : BaseOk M0 G0) {fns : Nat → Option AFn} (hfns : ∀ f afn, fns f = some afn → ∃ fn, P.funcs[f]? = some fn ∧ compFn P fn = some afn ∧ fn.name ≠ "runtime.NumGoroutine") {X : Calls'} (hX : GSound P M0 X) {k : Nat} {f : FuncId} {args : List AV} {A B : St} {r : AV}
    (hff : ∃ afn, fns f = some afn) (h : calls D G0 fns X k f args A = some (r, B)) {F : Fr} {m : Mu} {w : World} {cargs : List Value} (hm : M0.le m) (R : Rel F m A w) (hc : cvos m args = some cargs) : CallOk P F m r B f cargs.toArray w := by
  cases k with
  | zero => cases h
  | succ k =>
    obtain ⟨afn, hafn⟩ := hff
    simp only [calls, hafn] at h
    obtain ⟨fn, h1, h2, h3⟩ := hfns f afn hafn
    exact runFn_sound hmx (calls_sound hmx hb hfns hX k) hb h1 h2 h hm R hc
end
end Go.AM
