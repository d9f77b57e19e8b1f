/- The abstract machine: what holds whichever way the model draws: over code, by what the model itself does. -/
import Derived.Test.YtejlhgcheaimjaaGreatDoorAmWp
namespace Go.AM
set_option linter.unusedVariables false
set_option linter.unusedSimpArgs false

/-- Less is known: still true. -/
theorem Rel.weaken {F : Fr} {m : Mu} {A B : St} {w : World} (R : Rel F m A w) (hn : A.next ≤ B.next) (hg : ∀ f b, B.get f = some b → A.get f = some b) : Rel F m B w :=
  ⟨fun f v l h => ⟨Nat.lt_of_lt_of_le (R.dom f v l h).1 hn, (R.dom f v l h).2⟩, fun f b h => R.got f b (hg f b h), R.keep, R.rest, fun f v l g u k h1 h2 hne ⟨b, hb, hr⟩ => R.apart f v l g u k h1 h2 hne ⟨b, hg _ _ hb, hr⟩,
    fun f v l h1 ⟨b, hb, hr⟩ => R.unf f v l h1 ⟨b, hg _ _ hb, hr⟩, R.same, fun f l h ⟨b, hb, hr⟩ => R.orig f l h ⟨b, hg _ _ hb, hr⟩, R.frm⟩

section
variable (P : Program) (M0 : Mu) (n : Nat)
/-- A call comes, whichever way, to what meets Q. -/
def EvS (f : FuncId) (args : List AV) (A : St) (Q : AV → St → Prop) : Prop :=
  (∃ fn, P.funcs[f]? = some fn ∧ fn.body.isSome = true ∧ fn.name ≠ "runtime.NumGoroutine") ∧ ∀ F m w cargs, M0.le m → Rel F m A w → cvos m args = some cargs →
    Calls P f cargs.toArray w fun e w' => ∃ r B c m', Q r B ∧ e = .returned c ∧ m.le m' ∧ Rel F m' B w' ∧ cvo m' r = some c
/-- An operation. -/
def OpAny (ao : AOp) (E : Env) (A : St) (K : AV → St → Prop) : Prop :=
  ∀ (o : Oper), compOp P o.op = some ao → ∀ (F : Fr) (m : Mu) (a : Act) (w : World), Rel F m A w → EnvR M0 m n E a → ∀ (next : Act → World → Prop) (Q : Exit → Act → World → Prop),
    (∀ c m' w' v B, m.le m' → Rel F m' B w' → slotR m' v c → K v B → next (a.put o.dst c) w') → o.wpIn Fence.wide 0 P a w next Q
/-- Operations in the order of the text. -/
def MRun : List AOper → Env → St → (Env → St → Prop) → Prop
  | [], E, A, Q => Q E A
  | o :: l, E, A, Q => match wantedA E o.guard with
    | some true => OpAny P M0 n o.op E A fun v B => MRun l (Env.put E o.dst v) B Q
    | some false => MRun l (Env.put E o.dst (.tuple [])) A Q
    | none => False
/-- Code. -/
def MW (ac : ACode) (E : Env) (A : St) (Q : Ex → Env → St → Prop) : Prop :=
  ∀ (c : Code), comp P n c = some ac → ∀ (F : Fr) (m : Mu) (a : Act) (w : World), RelD F m A w a → EnvR M0 m n E a → c.wpIn Fence.wide 0 P (fun e a' w' => ∃ ex E' A', Q ex E' A' ∧ Done M0 F n m ex E' A' e a' w') a w
end

section
variable {P : Program} {M0 : Mu} {n : Nat} {D : Disp} {G0 : Env} {fns : Nat → Option AFn} {X : Calls'}

theorem OpAny.det {G : Calls'} (hG : CSound P M0 G) {ao : AOp} {E : Env} {A B : St} {v : AV} {K : AV → St → Prop} (h : opOfL D G E A ao = some (v, B)) (hK : K v B) : OpAny P M0 n ao E A K :=
  fun o hc F m a w R e next Q k => op_soundL (.inl rfl) hG R hc e h fun c m' w' h1 h2 h3 => k c m' w' v B h1 h2 h3 hK
theorem OpAny.mono {ao : AOp} {E : Env} {A : St} {K K' : AV → St → Prop} (h : OpAny P M0 n ao E A K) (hk : ∀ v B, K v B → K' v B) : OpAny P M0 n ao E A K' :=
  fun o hc F m a w R e next Q k => h o hc F m a w R e next Q fun c m' w' v B h1 h2 h3 h4 => k c m' w' v B h1 h2 h3 (hk v B h4)

theorem mrun_sound {F : Fr} {ds : List Deferred} (ops : Array Oper) {Q : Exit → Act → World → Prop} : ∀ (l : List Oper) (k : Nat) (al : List AOper), (∀ j, l[j]? = ops[k + j]?) → compOpers P n ops l = some al →
    ∀ {m : Mu} {E : Env} {a : Act} {A : St} {w : World} {QQ : Env → St → Prop}, Rel F m A w → EnvR M0 m n E a → a.defers = ds → MRun P M0 n al E A QQ →
    (∀ m' a' w' E' A', QQ E' A' → m.le m' → Rel F m' A' w' → EnvR M0 m' n E' a' → a'.defers = ds → Q .normal a' w') → wpOpsIn Fence.wide 0 P ops Q (List.range' k l.length) a w
  | [], k, al, hl, hc, m, E, a, A, w, QQ, R, e, hd, h, K => by
    simp only [compOpers, Option.some.injEq] at hc; subst hc
    simp only [List.length_nil, List.range'_zero, wpOpsIn]
    exact K m a w E A h (Mu.le_refl m) R e hd
  | o :: l, k, al, hl, hc, m, E, a, A, w, QQ, R, e, hd, h, K => by
    simp only [compOpers] at hc
    split at hc
    · rename_i ao r hao hr
      cases hc
      have ho : ops[k]? = some o := by have := hl 0; simpa using this.symm
      have hl' : ∀ j, l[j]? = ops[k + 1 + j]? := fun j => by have := hl (j + 1); simp only [List.getElem?_cons_succ] at this; rw [this]; congr 1; omega
      simp only [List.length_cons, List.range'_succ, wpOpsIn, ho]
      unfold compOper at hao
      split at hao
      · rename_i hdst
        split at hao
        · rename_i aop haop
          have hguard : ao.dst = o.dst ∧ ao.op = aop ∧ ((o.guard = none ∧ ao.guard = none) ∨ ∃ j want t, o.guard = some (j, want) ∧ (ops[j]?).bind (·.dst) = some t ∧ t < n ∧ ao.guard = some (t, want)) := by
            split at hao
            · rename_i hg; cases hao; exact ⟨rfl, rfl, .inl ⟨hg, rfl⟩⟩
            · rename_i j want hg
              split at hao
              · rename_i t ht
                split at hao
                · rename_i htn; cases hao; exact ⟨rfl, rfl, .inr ⟨j, want, t, hg, ht, htn, rfl⟩⟩
                · cases hao
              · cases hao
          obtain ⟨g1, g2, g3⟩ := hguard
          simp only [MRun] at h
          split at h
          · rename_i hw
            rw [wanted_sound e g3 hw, if_pos rfl]
            rw [g2] at h
            refine (h o haop F m a w R e _ _ fun c m' w' v B hle R' hs hK => ?_)
            rw [g1] at hK
            exact mrun_sound ops l (k + 1) r hl' hr R' ((e.mono hle).put hdst hs) (by cases o.dst <;> exact hd) hK (fun m'' a' w'' E' A' hq h1 h2 h3 h4 => K m'' a' w'' E' A' hq (Mu.le_trans hle h1) h2 h3 h4)
          · rename_i hw
            rw [wanted_sound e g3 hw]
            simp only [Bool.false_eq_true, if_false]
            rw [g1] at h
            refine ⟨fun f _ => trivial, ?_⟩
            exact mrun_sound ops l (k + 1) r hl' hr R (e.put hdst (.inr rfl)) (by cases o.dst <;> exact hd) h K
          · exact h.elim
        · cases hao
      · cases hao
    · cases hc

theorem rangeFunc_inv {g : Operand} {ps : Array Tmp} {x y : Code} {ac : ACode} (hc : comp P n (.rangeFunc g ps x y) = some ac) : (∃ g ps k x y, ac = .rangeF g ps k x y) ∨ ac = stuckCode := by
  simp only [comp] at hc
  split at hc
  · rename_i ax ay hx hy
    cases hb : (ax.noRF && ay.noRF) && ps.toList.all fun p => decide (p < n ∧ p < 1000000) with
    | true => rw [hb] at hc; cases hc; exact .inl ⟨_, _, _, _, _, rfl⟩
    | false => rw [hb] at hc; cases hc; exact .inr rfl
  · cases hc
theorem MW.mono {ac : ACode} {E : Env} {A : St} {Q Q' : Ex → Env → St → Prop} (h : MW P M0 n ac E A Q) (hq : ∀ ex E A, Q ex E A → Q' ex E A) : MW P M0 n ac E A Q' :=
  fun c hc F m a w R e => wpIn_mono (h c hc F m a w R e) fun _ _ _ ⟨ex, E', A', h1, h2⟩ => ⟨ex, E', A', hq _ _ _ h1, h2⟩
theorem MW.det (hmx : P.follows .mixedOrders = true) (hp : PgOk M0 P) {G : Calls'} (hG : CSound P M0 G) {k : Nat} {ac : ACode} {E E' : Env} {A A' : St} {ex : Ex} {Q : Ex → Env → St → Prop} (h : interp D G k ac E A = some (ex, E', A')) (hq : Q ex E' A') : MW P M0 n ac E A Q :=
  fun c hc F m a w R e => wpIn_mono (interp_sound (.inl rfl) hmx hp hG k c ac hc (.inl rfl) R e h) fun _ _ _ q => ⟨ex, E', A', hq, q⟩
theorem MW.of_Wp (hmx : P.follows .mixedOrders = true) (hp : PgOk M0 P) (hb : BaseOk M0 G0) (hfns : ∀ f afn, fns f = some afn → ∃ fn, P.funcs[f]? = some fn ∧ compFn P fn = some afn ∧ fn.name ≠ "runtime.NumGoroutine") (hX : GSound P M0 X) {ac : ACode} {E : Env} {A : St} {Q : Ex → Env → St → Prop} (h : Wp D G0 fns X ac E A Q) : MW P M0 n ac E A Q := by
  obtain ⟨k, ex, E', A', h1, h2⟩ := h
  exact MW.det hmx hp (calls_sound hmx hp hb hfns hX k) h1 h2
theorem MW.seq {x y : ACode} {E : Env} {A : St} {Q : Ex → Env → St → Prop} (h : MW P M0 n x E A fun ex E' A' => match ex with | .normal => MW P M0 n y E' A' Q | ex => Q ex E' A') : MW P M0 n (.seq x y) E A Q := by
  intro c hc F m a w R e
  cases c with
  | seq cx cy =>
    simp only [comp] at hc
    split at hc
    · rename_i ax ay hx hy
      cases hc
      refine wpIn_seq ?_
      refine wpIn_mono (h cx hx F m a w R e) fun e1 a1 w1 q => ?_
      obtain ⟨ex, E', A', hq, rfl, m1, g1, g2, g3⟩ := q
      cases ex with
      | normal =>
        refine wpIn_mono (hq cy hy F m1 a1 w1 g2 g3) fun _ _ _ q => ?_
        obtain ⟨ex, E2, A2, q1, q2⟩ := q
        exact ⟨ex, E2, A2, q1, q2.mono g1⟩
      | exit i => exact ⟨_, _, _, hq, rfl, m1, g1, g2, g3⟩
      | ret => exact ⟨_, _, _, hq, rfl, m1, g1, g2, g3⟩
    · cases hc
  | region id ops draw =>
    exfalso
    cases draw with
    | true =>
      simp only [comp] at hc
      split at hc
      · rename_i cc hcc
        cases hc
        obtain ⟨_, h⟩ := compDraw_draws hcc
        cases h
      · cases hc
    | false => simp only [comp, Option.map_eq_some_iff] at hc; obtain ⟨_, _, h⟩ := hc; cases h
  | cond => simp only [comp] at hc; split at hc <;> cases hc
  | block => simp only [comp, Option.map_eq_some_iff] at hc; obtain ⟨_, _, h⟩ := hc; cases h
  | loop => simp only [comp, Option.map_eq_some_iff] at hc; obtain ⟨_, _, h⟩ := hc; cases h
  | rangeFunc => rcases rangeFunc_inv hc with ⟨_, _, _, _, _, h⟩ | h <;> cases h
  | _ => simp [comp, stuckCode] at hc

theorem draw_inv {ops : Array Oper} {id : Nat} {ac : ACode} (hc : comp P n (.region id ops true) = some ac) : (∃ lim, ac = .draws lim) ∨ ac = stuckCode := by
  simp only [comp] at hc
  split at hc
  · rename_i cc hcc
    cases hc
    exact .inl (compDraw_draws hcc)
  · cases hc; exact .inr rfl
theorem region_inv {al : List AOper} {c : Code} (hc : comp P n c = some (.region al)) : ∃ id ops, c = .region id ops false ∧ compOpers P n ops ops.toList = some al := by
  cases c with
  | region id ops draw =>
    cases draw with
    | true => rcases draw_inv hc with ⟨_, h⟩ | h <;> cases h
    | false => simp only [comp, Option.map_eq_some_iff] at hc; obtain ⟨al', h1, h2⟩ := hc; cases h2; exact ⟨id, ops, rfl, h1⟩
  | seq => simp only [comp] at hc; split at hc <;> cases hc
  | cond => simp only [comp] at hc; split at hc <;> cases hc
  | block => simp only [comp, Option.map_eq_some_iff] at hc; obtain ⟨_, _, h⟩ := hc; cases h
  | loop => simp only [comp, Option.map_eq_some_iff] at hc; obtain ⟨_, _, h⟩ := hc; cases h
  | rangeFunc => rcases rangeFunc_inv hc with ⟨_, _, _, _, _, h⟩ | h <;> cases h
  | _ => simp [comp, stuckCode] at hc
theorem block_inv {id : Nat} {x : ACode} {c : Code} (hc : comp P n c = some (.block id x)) : ∃ cx, c = .block id cx ∧ comp P n cx = some x := by
  cases c with
  | region id ops draw =>
    cases draw with
    | true => rcases draw_inv hc with ⟨_, h⟩ | h <;> cases h
    | false => simp only [comp, Option.map_eq_some_iff] at hc; obtain ⟨al', h1, h2⟩ := hc; cases h2
  | seq => simp only [comp] at hc; split at hc <;> cases hc
  | cond => simp only [comp] at hc; split at hc <;> cases hc
  | block i cx => simp only [comp, Option.map_eq_some_iff] at hc; obtain ⟨_, h1, h⟩ := hc; cases h; exact ⟨cx, rfl, h1⟩
  | loop => simp only [comp, Option.map_eq_some_iff] at hc; obtain ⟨_, _, h⟩ := hc; cases h
  | rangeFunc => rcases rangeFunc_inv hc with ⟨_, _, _, _, _, h⟩ | h <;> cases h
  | _ => simp [comp, stuckCode] at hc
theorem loop_inv {x : ACode} {c : Code} (hc : comp P n c = some (.loop x)) : ∃ cx, c = .loop cx ∧ comp P n cx = some x := by
  cases c with
  | region id ops draw =>
    cases draw with
    | true => rcases draw_inv hc with ⟨_, h⟩ | h <;> cases h
    | false => simp only [comp, Option.map_eq_some_iff] at hc; obtain ⟨al', h1, h2⟩ := hc; cases h2
  | seq => simp only [comp] at hc; split at hc <;> cases hc
  | cond => simp only [comp] at hc; split at hc <;> cases hc
  | block i cx => simp only [comp, Option.map_eq_some_iff] at hc; obtain ⟨_, h1, h⟩ := hc; cases h
  | loop cx => simp only [comp, Option.map_eq_some_iff] at hc; obtain ⟨_, h1, h⟩ := hc; cases h; exact ⟨cx, rfl, h1⟩
  | rangeFunc => rcases rangeFunc_inv hc with ⟨_, _, _, _, _, h⟩ | h <;> cases h
  | _ => simp [comp, stuckCode] at hc
theorem cond_inv {o : Operand} {x y : ACode} {c : Code} (hc : comp P n c = some (.cond o x y)) : (∃ cx cy, c = .cond o cx cy ∧ comp P n cx = some x ∧ comp P n cy = some y) ∨ ACode.cond o x y = stuckCode := by
  cases c with
  | region id ops draw =>
    cases draw with
    | true =>
      rcases draw_inv hc with ⟨_, h⟩ | h
      · cases h
      · exact .inr h
    | false => simp only [comp, Option.map_eq_some_iff] at hc; obtain ⟨al', h1, h2⟩ := hc; cases h2
  | seq => simp only [comp] at hc; split at hc <;> cases hc
  | cond o' cx cy =>
    simp only [comp] at hc
    split at hc
    · rename_i ax ay hx hy; cases hc; exact .inl ⟨cx, cy, rfl, hx, hy⟩
    · cases hc
  | block i cx => simp only [comp, Option.map_eq_some_iff] at hc; obtain ⟨_, h1, h⟩ := hc; cases h
  | loop cx => simp only [comp, Option.map_eq_some_iff] at hc; obtain ⟨_, h1, h⟩ := hc; cases h
  | skip => simp [comp] at hc
  | exit => simp [comp] at hc
  | ret => simp [comp] at hc
  | rangeFunc =>
    rcases rangeFunc_inv hc with ⟨_, _, _, _, _, h⟩ | h
    · cases h
    · exact .inr h
  | _ => simp only [comp, Option.some.injEq] at hc; exact .inr hc.symm

theorem MW.region {al : List AOper} {E : Env} {A : St} {Q : Ex → Env → St → Prop} (h : MRun P M0 n al E A fun E A => Q .normal E A) : MW P M0 n (.region al) E A Q := by
  intro c hc F m a w R e
  obtain ⟨id, ops, rfl, hal⟩ := region_inv hc
  obtain ⟨Ds, hD, R, hd⟩ := R
  have := mrun_sound (Q := fun e a' w' => ∃ ex E' A', Q ex E' A' ∧ Done M0 F n m ex E' A' e a' w') ops ops.toList 0 al (fun j => by simp) hal R e hd h
    (fun m' a' w' E' A' hq h1 h2 h3 h4 => ⟨.normal, E', A', hq, rfl, m', h1, ⟨Ds, hD, h2, h4⟩, h3⟩)
  refine wpIn_region ?_
  rw [List.range_eq_range']
  simpa using this
theorem MW.block {id : Nat} {x : ACode} {E : Env} {A : St} {Q : Ex → Env → St → Prop} (h : MW P M0 n x E A fun ex E' A' => match ex with | .exit i => if i = id then Q .normal E' A' else Q (.exit i) E' A' | ex => Q ex E' A') : MW P M0 n (.block id x) E A Q := by
  intro c hc F m a w R e
  obtain ⟨cx, rfl, hx⟩ := block_inv hc
  refine wpIn_block ?_
  refine wpIn_mono (h cx hx F m a w R e) fun e1 a1 w1 q => ?_
  obtain ⟨ex, E', A', hq, rfl, m1, g1, g2, g3⟩ := q
  cases ex with
  | normal => exact ⟨_, _, _, hq, rfl, m1, g1, g2, g3⟩
  | ret => exact ⟨_, _, _, hq, rfl, m1, g1, g2, g3⟩
  | exit i =>
    simp only at hq
    simp only [Ex.toExit, Exit.inBlock]
    by_cases hi : i = id
    · rw [if_pos hi] at hq ⊢; exact ⟨_, _, _, hq, rfl, m1, g1, g2, g3⟩
    · rw [if_neg hi] at hq ⊢; exact ⟨_, _, _, hq, rfl, m1, g1, g2, g3⟩
theorem MW.cond {o : Operand} {x y : ACode} {E : Env} {A : St} {Q : Ex → Env → St → Prop} {b : Bool} (hb : ev E o = .bool b) (ht : b = true → MW P M0 n x E A Q) (hf : b = false → MW P M0 n y E A Q) : MW P M0 n (.cond o x y) E A Q := by
  intro c hc F m a w R e
  rcases cond_inv hc with ⟨cx, cy, rfl, hx, hy⟩ | h
  · cases b with
    | true => exact wpIn_cond_true (cvo_bool hb (ev_sound e o)) (ht rfl cx hx F m a w R e)
    | false => exact wpIn_cond_false (cvo_bool hb (ev_sound e o)) (hf rfl cy hy F m a w R e)
  · unfold stuckCode at h
    cases h
    simp [ev, constAV, constFlat] at hb
theorem MW.loop {x : ACode} {E : Env} {A : St} {Q : Ex → Env → St → Prop} (I : Nat → Env → St → Prop) (d : Nat) (h : I d E A) (round : ∀ d E A, I d E A → MW P M0 n x E A fun ex E' A' => match ex with | .normal => ∃ d', d' < d ∧ I d' E' A' | ex => Q ex E' A') : MW P M0 n (.loop x) E A Q := by
  intro c hc F m a w R e
  obtain ⟨cx, rfl, hx⟩ := loop_inv hc
  refine wpIn_loop_rounds (d + 1) ?_
  have key : ∀ j d, d < j → ∀ {m' : Mu} {E : Env} {a : Act} {A : St} {w : World}, m.le m' → I d E A → RelD F m' A w a → EnvR M0 m' n E a → Code.roundsIn Fence.wide 0 P cx (fun e a' w' => ∃ ex E' A', Q ex E' A' ∧ Done M0 F n m ex E' A' e a' w') j a w := by
    intro j
    induction j with
    | zero => intro d hd; omega
    | succ j ih =>
      intro d hdj m' E a A w hle hI R e
      rw [roundsIn_succ]
      refine wpIn_mono (round d E A hI cx hx F m' a w R e) fun e1 a1 w1 q => ?_
      obtain ⟨ex, E', A', hq, rfl, m1, g1, g2, g3⟩ := q
      cases ex with
      | normal =>
        obtain ⟨d', hd', hI'⟩ := hq
        exact ih d' (by omega) (Mu.le_trans hle g1) hI' g2 g3
      | exit i => exact ⟨_, _, _, hq, rfl, m1, Mu.le_trans hle g1, g2, g3⟩
      | ret => exact ⟨_, _, _, hq, rfl, m1, Mu.le_trans hle g1, g2, g3⟩
  exact key (d + 1) d (Nat.lt_succ_self d) (Mu.le_refl m) h R e

theorem EvS.mono {f : FuncId} {args : List AV} {A : St} {Q Q' : AV → St → Prop} (h : EvS P M0 f args A Q) (hq : ∀ r B, Q r B → Q' r B) : EvS P M0 f args A Q' :=
  ⟨h.1, fun F m w cargs hm R hc => (h.2 F m w cargs hm R hc).mono fun _ _ ⟨r, B, c, m', h1, h2⟩ => ⟨r, B, c, m', hq _ _ h1, h2⟩⟩
/-- A function's text. -/
theorem EvS.fn (hb : BaseOk M0 G0) {f : FuncId} {fn : Func} {afn : AFn} (hf : P.funcs[f]? = some fn) (hc : compFn P fn = some afn) (hname : fn.name ≠ "runtime.NumGoroutine") {args : List AV} {A : St} {Q : AV → St → Prop} (hn : args.length ≤ afn.n ∧ afn.n ≤ 1000000)
    (h : MW P M0 fn.ntmps afn.body (setArgs 0 args G0) A fun ex E B => match ex with | .exit _ => False | _ => ∃ l, resVals E B afn.res = some l ∧ Q (packRes l) B) : EvS P M0 f args A Q := by
  unfold compFn at hc
  split at hc
  · rename_i c hbody
    split at hc
    · rename_i b rs hcb hcr
      cases hc
      refine ⟨⟨fn, hf, by rw [hbody]; rfl, hname⟩, fun F m w cargs hm R hargs => ?_⟩
      have e := enter_env hb hm hargs hn
      refine callsIn_wide.1 (callsIn_of_wp_marks (n := 0) hf hbody trivial ?_)
      refine wpIn_mono (h c hcb F m _ w (R.toD rfl) e) fun ee a' w' q => ?_
      obtain ⟨ex, E1, B1, hq, rfl, m', q1, ⟨Ds, q2, q3, q4⟩, q5⟩ := q
      have H : ∀ l, resVals E1 B1 rs = some l → Q (packRes l) B1 → ∀ w, Rel F m' B1 w → ∃ v, (results fn a'.tmps).run P w = .ok v w ∧ ∃ r B c m'', Q r B ∧ Ending.returned v = .returned c ∧ m.le m'' ∧ Rel F m'' B w ∧ cvo m'' r = some c := fun l hl hQ w R' => by
        obtain ⟨v, v1, v2⟩ := results_sound R' q5 hcr hl
        exact ⟨v, v2, packRes l, B1, v, m', hQ, rfl, q1, R', v1⟩
      have hL := fun l hl hQ => leaves (P := P) (R := fun e w' => ∃ r B c m'', Q r B ∧ e = .returned c ∧ m.le m'' ∧ Rel F m'' B w' ∧ cvo m'' r = some c) (H l hl hQ) Ds w' q2 q3
      rw [← q4] at hL
      cases ex with
      | exit i => exact hq.elim
      | normal =>
        obtain ⟨l, hl, hQ⟩ := hq
        exact hL l hl hQ
      | ret =>
        obtain ⟨l, hl, hQ⟩ := hq
        exact hL l hl hQ
    · cases hc
  · cases hc

/-- Which entries of the model's map a step may come to. -/
def candO (since : Nat) (seen : List Nat) (es : Array MapEntry) : Array MapEntry := (es.filter fun e => !seen.toArray.contains e.born).filter fun e => decide (e.born < since)
def candN (since : Nat) (seen : List Nat) (es : Array MapEntry) : Array MapEntry := (es.filter fun e => !seen.toArray.contains e.born).filter fun e => decide (e.born ≥ since)
/-- A step over a map's entries: any that was not met. -/
theorem OpAny.next {it : Operand} {E : Env} {A : St} {K : AV → St → Prop} {f g : Nat} {since last clock : Nat} {seen : List Nat} {es : List (AV × AV × Nat)}
    (hx : ev E it = .ptr (some (f, 0, 0))) (hg : A.get f = some (.iter (.map (some g) since seen last))) (hgm : A.get g = some (.map es clock)) (hgone : (!seen.isEmpty && !es.isEmpty && es.all fun e => decide (e.2.2 ≥ last)) = false)
    (hover : oldOf since seen es = [] → K (.tuple [.bool false]) A)
    (hstep : ∀ k v b, (k, v, b) ∈ oldOf since seen es ++ newOf' since seen es → K (.tuple [.bool true, k, v]) (A.put f (.iter (.map (some g) since (seen ++ [b]) clock)))) : OpAny P M0 n (.next false it) E A K := by
  intro o hc F m a w R e next Q k
  have hop : o.op = .next it false := by
    rcases compOp_cases hc with h | h | h
    · exfalso
      generalize o.op = op at h
      cases op <;> simp only [compOpA, compEq] at h <;> (repeat' split at h) <;> first | (cases h; done) | (simp only [Option.map_eq_some_iff] at h; obtain ⟨_, _, h⟩ := h; cases h)
    · have hb := compOpB_spec h
      generalize hop : o.op = op at hb
      cases hb
      rfl
    · cases h
  obtain ⟨l, ob, h1, h0, h2, h3, h4, h5⟩ := R.iterAt hg hx (ev_sound e it)
  simp only [ItrR] at h5
  obtain ⟨lg, k1, rfl⟩ := h5
  obtain ⟨l2, es', j1, j2, j3, j4⟩ := R.got g _ hgm
  rw [k1] at j1
  cases j1
  have hgone' : (!seen.toArray.isEmpty && !es'.isEmpty && es'.all fun e => decide (e.born ≥ last)) = false := by
    rw [← hgone, j4.isEmpty, j4.all (fun b => decide (b ≥ last))]
    simp [← Array.isEmpty_toList, ← Array.all_toList]
  have hold := (j4.filter (fun b => !seen.contains b)).filter (fun b => decide (b < since))
  have hnew := (j4.filter (fun b => !seen.contains b)).filter (fun b => decide (b ≥ since))
  have eold : (candO since seen es').toList = ((es'.toList.filter fun e => !seen.contains e.born).filter fun e => decide (e.born < since)) := by simp [candO]
  have enew : (candN since seen es').toList = ((es'.toList.filter fun e => !seen.contains e.born).filter fun e => decide (e.born ≥ since)) := by simp [candN]
  rw [← eold] at hold
  rw [← enew] at hnew
  have hold : MapR m (oldOf since seen es) _ := hold
  have hnew : MapR m (newOf' since seen es) _ := hnew
  have gi := run_getObj_any (P := P) h3 (fun _ _ _ h => by cases h)
  have gm := run_getObj_any (P := P) j2 (fun _ _ _ h => by cases h)
  have hrun : (execOp a.eval o).run P w = ((choose (.mapNext (((if (candO since seen es').isEmpty then #[none] else #[]) ++ (candO since seen es' ++ candN since seen es').map some) : Array (Option MapEntry)).size)).run P w).andThen fun i w' =>
      ((match (((if (candO since seen es').isEmpty then #[none] else #[]) ++ (candO since seen es' ++ candN since seen es').map some) : Array (Option MapEntry))[i]? with
        | some (some e) => (do setObj l.cb (.mapIter (some lg.cb) since (seen.toArray.push e.born) clock); pure (.tuple #[.bool true, e.key, e.val]) : Sem Value)
        | some none => pure (.tuple #[.bool false])
        | none => stuck "Next: no such candidate").run P w').andThen fun v w' => .ok (.value v) w' := by
    simp only [execOp, hop, Instr.next, h2, Sem.run_bind, gi, Result.andThen_ok, gm, hgone', Bool.false_eq_true, if_false]
    show Result.andThen (Result.andThen _ _) _ = _
    unfold candO candN
    generalize (choose _).run P w = r
    cases r <;> rfl
  generalize candO since seen es' = OLD at *
  generalize candN since seen es' = NEW at *
  generalize hC : (((if OLD.isEmpty then #[none] else #[]) ++ (OLD ++ NEW).map some) : Array (Option MapEntry)) = C at *
  have hCpos : 0 < C.size := by
    rw [← hC]
    cases hO : OLD.isEmpty with
    | true => simp; omega
    | false =>
      have : OLD.size ≠ 0 := by simpa [Array.isEmpty] using hO
      simp
      omega
  have pick : ∀ (w' : World), Rel F m A w' → w'.heap = w.heap → ∀ i, i < C.size → ∃ c w2 v B, (match C[i]? with
        | some (some e) => (do setObj l.cb (.mapIter (some lg.cb) since (seen.toArray.push e.born) clock); pure (.tuple #[.bool true, e.key, e.val]) : Sem Value)
        | some none => pure (.tuple #[.bool false])
        | none => stuck "Next: no such candidate").run P w' = .ok c w2 ∧ Rel F m B w2 ∧ slotR m v c ∧ K v B := by
    intro w' R' hw i hi
    have hg' := Array.getElem?_eq_getElem hi
    rw [hg']
    have hmem : C[i] ∈ C := Array.getElem_mem hi
    generalize C[i] = x at *
    rw [← hC, Array.mem_append] at hmem
    cases x with
    | none =>
      have hO : OLD.isEmpty = true := by
        rcases hmem with h | h
        · cases hO : OLD.isEmpty with
          | true => rfl
          | false => rw [hO] at h; simp at h
        · simp at h
      have : oldOf since seen es = [] := by
        have hl := hold.length
        have : OLD.toList = [] := by simpa using hO
        rw [this] at hl
        simpa using hl
      exact ⟨_, w', _, A, rfl, R', .inr rfl, hover this⟩
    | some e =>
      have hin : e ∈ OLD.toList ++ NEW.toList := by
        rcases hmem with h | h
        · split at h <;> simp at h
        · simpa using h
      have hmem2 : ∀ {es : List (AV × AV × Nat)} {l : List MapEntry}, MapR m es l → e ∈ l → ∃ k v b, (k, v, b) ∈ es ∧ cvo m k = some e.key ∧ cvo m v = some e.val ∧ e.born = b := by
        intro es l
        induction es generalizing l with
        | nil => intro h hm; rw [h.nil_inv] at hm; simp at hm
        | cons x es ih =>
          intro h hm
          cases l with
          | nil => exact h.elim
          | cons e' l =>
            obtain ⟨k, v, b⟩ := x
            rcases List.mem_cons.1 hm with rfl | hm
            · exact ⟨k, v, b, List.mem_cons_self, h.1⟩
            · obtain ⟨k', v', b', q1, q2⟩ := ih h.2 hm
              exact ⟨k', v', b', List.mem_cons_of_mem _ q1, q2⟩
      have hf : ∃ k v b, (k, v, b) ∈ oldOf since seen es ++ newOf' since seen es ∧ cvo m k = some e.key ∧ cvo m v = some e.val ∧ e.born = b := by
        rcases List.mem_append.1 hin with h | h
        · obtain ⟨k, v, b, q1, q2⟩ := hmem2 hold h
          exact ⟨k, v, b, List.mem_append_left _ q1, q2⟩
        · obtain ⟨k, v, b, q1, q2⟩ := hmem2 hnew h
          exact ⟨k, v, b, List.mem_append_right _ q1, q2⟩
      obtain ⟨kk, vv, bb, q1, q2, q3, q4⟩ := hf
      have h3' : w'.heap[l.cb]? = some (.mapIter (some lg.cb) since seen.toArray last) := by rw [hw]; exact h3
      have si := run_setObj_any (P := P) (w := w') (.mapIter (some lg.cb) since (seen.toArray.push e.born) clock) h3' (fun _ _ _ h => by cases h)
      have hpush : seen.toArray.push e.born = (seen ++ [bb]).toArray := by rw [q4]; simp
      refine ⟨.tuple #[.bool true, e.key, e.val], w'.putObj l.cb (.mapIter (some lg.cb) since (seen ++ [bb]).toArray clock), .tuple [.bool true, kk, vv], A.put f (.iter (.map (some g) since (seen ++ [bb]) clock)), ?_,
        R'.put_obj hg rfl h1 h4 h3' (fun _ _ _ h => by cases h) ⟨l, _, ⟨h1, h0⟩, World.putObj_heap_same (Array.getElem?_eq_some_iff.1 h3').1, h4, lg, k1, rfl⟩, .inr (by simp [cvo, cvos, q2, q3]), hstep _ _ _ q1⟩
      dsimp only
      rw [Sem.run_bind, si, hpush]
      rfl
  have fin : ∀ (w' : World), Rel F m A w' → w'.heap = w.heap → ∀ i, i < C.size → (choose (.mapNext C.size)).run P w = .ok i w' → o.wpIn Fence.wide 0 P a w next Q := by
    intro w' R' hw i hi hch
    obtain ⟨c, w2, v, B, g1, g2, g3, g4⟩ := pick w' R' hw i hi
    refine wpIn_of_wp (.inl rfl) (fun c h => by rw [hop] at h; cases h) ?_
    unfold Oper.wp
    rw [hrun, hch, Result.andThen_ok, g1, Result.andThen_ok]
    exact k c m w2 v B (Mu.le_refl m) g2 g3 g4
  by_cases hfo : (Question.mapNext C.size).forced = true
  · exact fin w R rfl 0 hCpos (by simp [choose, Sem.run, hfo])
  · have hfo : (Question.mapNext C.size).forced = false := by simpa using hfo
    exact fin w.drew R.drew rfl _ (Nat.mod_lt (w.tape w.drawn (.mapNext C.size)) hCpos) (by simp [choose, Sem.run, hfo]; rfl)
end
end Go.AM
