/- The abstract machine: operations one by one, and a region in the order of the text. -/
import Derived.Test.YtejlhgcheaimjaaGreatDoorAmOps
import Derived.LoopN
import Derived.LoopNIn
import Derived.OrdersIn
import Derived.RangeFuncIn
import Derived.RangeFuncCalls
import Derived.RangeFuncSeq
import Derived.RangeFuncRecord
import Derived.RangeFuncLeaves
namespace Go.AM
set_option linter.unusedVariables false
set_option linter.unusedSimpArgs false

/-- What the model's call of a function comes to. -/
def CallOk (P : Program) (F : Fr) (m : Mu) (r : AV) (B : St) (f : FuncId) (cargs : Array Value) (w : World) : Prop :=
  Calls P f cargs w fun e w' => ∃ c m', e = .returned c ∧ m.le m' ∧ Rel F m' B w' ∧ cvo m' r = some c

/-- What a function that has no text, a row of the model's own, comes to. -/
def ExtOk (P : Program) (F : Fr) (m : Mu) (r : AV) (B : St) (f : FuncId) (cargs : Array Value) (w : World) : Prop :=
  ∃ c w' m', (callFunc f cargs).run P w = .ok (.value c) w' ∧ m.le m' ∧ Rel F m' B w' ∧ cvo m' r = some c
/-- A table of calls tells what the model does. -/
def GSound (P : Program) (M0 : Mu) (G : Calls') : Prop :=
  ∀ f args A r B, G f args A = some (r, B) →
    ((∃ fn, P.funcs[f]? = some fn ∧ fn.body.isSome = true ∧ fn.name ≠ "runtime.NumGoroutine") ∧ ∀ F m w cargs, M0.le m → Rel F m A w → cvos m args = some cargs → CallOk P F m r B f cargs.toArray w) ∨
    ∀ F m w cargs, M0.le m → Rel F m A w → cvos m args = some cargs → ExtOk P F m r B f cargs.toArray w

/-- What a round of a range over a function comes to. -/
def RoundOk (P : Program) (F : Fr) (m : Mu) (r : AV) (B : St) (l : Nat) (cargs : Array Value) (w : World) : Prop :=
  YieldAt Fence.wide 0 P l cargs w fun e w' => ∃ c m', e = .returned c ∧ m.le m' ∧ Rel F m' B w' ∧ cvo m' r = some c
/-- The same, with the rounds of ranges over functions. -/
def CSound (P : Program) (M0 : Mu) (G : Calls') : Prop :=
  ∀ f args A r B, G f args A = some (r, B) →
    (f = yieldId → ∀ F m w g as cargs l, M0.le m → Rel F m A w → args = .yld g :: as → cvos m as = some cargs → m g 0 = some l → RoundOk P F m r B l.cb cargs.toArray w) ∧
    (f ≠ yieldId → ((∃ fn, P.funcs[f]? = some fn ∧ fn.body.isSome = true ∧ fn.name ≠ "runtime.NumGoroutine") ∧ ∀ F m w cargs, M0.le m → Rel F m A w → cvos m args = some cargs → CallOk P F m r B f cargs.toArray w) ∨
      ∀ F m w cargs, M0.le m → Rel F m A w → cvos m args = some cargs → ExtOk P F m r B f cargs.toArray w)

/-! ### The fences: every function, any depth, within a round or not -/
def FOk (Fe : Fence) : Prop := Fe = Fence.wide ∨ ∃ l, Fe = Fence.wide.inRound l
theorem FOk.fn {Fe : Fence} (h : FOk Fe) (f : FuncId) : Fe.fn f := by rcases h with rfl | ⟨l, rfl⟩ <;> trivial
theorem FOk.depth {Fe : Fence} (h : FOk Fe) : Fe.depth.isSome = true → 1 ≤ 0 := by rcases h with rfl | ⟨l, rfl⟩ <;> intro h <;> cases h
theorem FOk.calls {Fe : Fence} (h : FOk Fe) {k : Nat} {P : Program} {f : FuncId} {args : Array Value} {w : World} {R : Ending → World → Prop} (hc : Calls P f args w R) : CallsIn Fe k P f args w R := by
  rcases h with rfl | ⟨l, rfl⟩
  · exact callsIn_wide.2 hc
  · exact CallsIn.inRound l (callsIn_wide.2 hc)
theorem FOk.rounds {Fe : Fence} (h : FOk Fe) {k : Nat} {P : Program} {l : Nat} {f : FuncId} {tmps : Array Value} {assign body : Code} {w : World} {R : Ending → World → Prop} (hc : RoundIn Fence.wide k P l f tmps assign body w R) : RoundIn Fe k P l f tmps assign body w R := by
  rcases h with rfl | ⟨l, rfl⟩
  · exact hc
  · exact hc
theorem FOk.rows {Fe : Fence} (h : FOk Fe) {k : Nat} {P : Program} {row : String} {args : Array Value} {w : World} {R : Value → World → Prop} (hc : Rows P row args w R) : RowsIn Fe k P row args w R := by
  have hw : RowsIn Fence.wide k P row args w R := fun c cs _ => let ⟨v, w', r, s⟩ := hc c cs; ⟨v, w', r, stepsIn_wide.2 s⟩
  rcases h with rfl | ⟨l, rfl⟩
  · exact hw
  · exact hw
theorem wpIn_of_wp {Fe : Fence} (h : FOk Fe) {P : Program} {o : Oper} {a : Act} {w : World} {next : Act → World → Prop} {Q : Exit → Act → World → Prop} (hd : ∀ c, o.op ≠ .defer c) (hw : o.wp P a w next Q) : o.wpIn Fe 0 P a w next Q := by
  refine ⟨fun f _ => h.fn f, ?_⟩
  rw [Oper.semAt_eq _ _ _ hd]
  unfold Oper.wp at hw
  generalize (execOp a.eval o).run P w = r at hw
  cases r with
  | ok x w' =>
    cases x <;> simp only [Oper.upon, Oper.uponIn] at hw ⊢ <;> first
      | exact hw
      | exact ⟨h.depth, h.calls hw⟩
      | exact ⟨h.depth, h.rows hw⟩
      | exact hw.elim
  | halt x w' => cases x <;> simp only [Oper.upon, Oper.uponIn] at hw ⊢ <;> exact hw

section
variable {P : Program} {M0 : Mu} {D : Disp} {G : Calls'} {n : Nat}

theorem allKnown_append : ∀ {x y : List AV}, allKnown (x ++ y) = true → allKnown x = true ∧ allKnown y = true
  | [], y, h => ⟨rfl, h⟩
  | a :: x, y, h => by
    cases a <;> simp [allKnown] at h ⊢ <;> exact allKnown_append h

theorem run_callFunc {f : FuncId} {fn : Func} (h1 : P.funcs[f]? = some fn) (h2 : fn.body.isSome = true) (h3 : fn.name ≠ "runtime.NumGoroutine") (args : Array Value) (w : World) : (callFunc f args).run P w = .ok (.enter f args) w := by
  obtain ⟨b, hb⟩ := Option.isSome_iff_exists.1 h2
  have : (fn.name == "runtime.NumGoroutine") = false := by simpa using h3
  simp [callFunc, h1, hb, h3]

/-- One operation that calls no yield. -/
theorem op_sound_wp (hG : CSound P M0 G) {F : Fr} {m : Mu} {E : Env} {a : Act} {A : St} {w : World} {o : Oper} {ao : AOp} {v : AV} {B : St} (R : Rel F m A w) (hc : compOp P o.op = some ao) (e : EnvR M0 m n E a)
    (h : opOf D G E A ao = some (v, B)) {next : Act → World → Prop} {Q : Exit → Act → World → Prop} (hy : ∀ f args, ao.cls = .call → calleeOf D E A ao = some (f, args) → f ≠ yieldId)
    (K : ∀ c m' w', m.le m' → Rel F m' B w' → slotR m' v c → next (a.put o.dst c) w') : o.wp P a w next Q := by
  unfold opOf at h
  unfold Oper.wp
  split at h
  · -- of the operands alone
    split at h
    · rename_i v' hv
      cases h
      obtain ⟨c, h1, h2⟩ := pure_sound (P := P) hc e hv w
      rw [h1]
      exact K c m w (Mu.le_refl m) R h2
    · cases h
  · -- a new family
    split at h
    · rename_i cs sz md hv
      cases h
      obtain ⟨w1, C, el, fz, cap, ys, c, h1, h2, h3, h4, h5, h6, h7, h8⟩ := new_sound (P := P) hc e hv w
      rw [h2]
      have R1 : Rel F m A w1 := by rcases h1 with rfl | rfl; exact R; exact R.drew
      have hsz : w1.heap.size = w.heap.size := by rcases h1 with rfl | rfl <;> rfl
      obtain ⟨g1, g2⟩ := R1.new_cellsV md.ver h3 (C := C) (e := el) (fz := fz) (cap := cap) (sz := sz) h4 h5 h6 h7
      exact K c _ _ g2 g1 (.inr (h8 _ _ (by rw [← hsz]; simp [Mu.add])))
    · cases h
  · -- a read
    split at h
    · rename_i v' hv
      cases h
      obtain ⟨c, h1, h2⟩ := read_sound (P := P) R hc e hv
      rw [h1]
      exact K c m w (Mu.le_refl m) R (.inr h2)
    · cases h
  · -- a write
    obtain ⟨nx, c, w', m', h1, h2, h3, h4, h5⟩ := eff_sound (P := P) R hc e h
    rw [h1]
    rcases h2 with rfl | ⟨rfl, rfl⟩
    · exact K c m' w' h3 h4 h5
    · exact K undef m' w' h3 h4 h5
  · -- a call
    rename_i hcls
    split at h
    · rename_i f args hf
      have hfy := hy f args hcls hf
      cases hk : allKnown args with
      | false => rw [hk] at h; cases h
      | true =>
        rw [hk] at h; simp only [cond_true] at h
        have hgg := (hG f args A v B h).2 hfy
        have key : ∃ cargs, cvos m args = some cargs ∧ (execOp a.eval o).run P w = (callFunc f cargs.toArray).run P w := by
          have hcc := callee_cases hc hf
          clear hc
          rcases hcc with hc | ⟨x, name, xs, ts, hop, rfl⟩
          rotate_left
          · simp only [calleeOf] at hf
            split at hf
            rotate_left
            · cases hf
            rename_i t v hx
            split at hf
            rotate_left
            · cases hf
            rename_i f' r hrow
            split at hf
            rotate_left
            · cases hf
            rename_i u hr
            cases hby : Nat.beq f' yieldId with
            | true => rw [hby] at hf; cases hf
            | false =>
            rw [hby] at hf
            cases hf
            obtain ⟨y, hy, hcv⟩ := iface_cases hx (ev_sound e x)
            obtain ⟨c', g1, g2⟩ := method_sound (P := P) R (dispTab_spec hrow) hcv hr (P.types.size + Made.depth - 1)
            have hk2 : allKnown (evs E xs.toList) = true := by
              cases u <;> first | exact hk | (simp [allKnown] at hk)
            have hlen : P.types.size + Made.depth - 1 + 1 = P.types.size + Made.depth := by
              have : 0 < Made.depth := by decide
              omega
            rw [hlen] at g1
            refine ⟨c' :: xs.toList.map a.eval, by simp [cvos, g2, evs_sound e _ hk2], ?_⟩
            have hax : (c' :: List.map a.eval xs.toList).toArray = #[c'] ++ xs.map a.eval := by
              apply Array.ext'
              simp
            rw [hax]
            have h0 : (#[Value.iface t y] ++ Array.map a.eval xs)[0]? = some (.iface t y) := by rw [Array.getElem?_append_left (by simp)]; rfl
            have hex : (Array.map a.eval xs).extract 0 xs.size = Array.map a.eval xs := by
              apply Array.ext'
              simp only [Array.toList_extract, Array.toList_map, List.extract_eq_take_drop, Nat.sub_zero, List.drop_zero]
              exact List.take_of_length_le (by simp)
            simp [execOp, hop, resolve, invoke, hy, callMethod, h0, g1, hex]
          obtain ⟨dst, op, type, pos, after, guard⟩ := o
          dsimp only at hc
          cases op with
          | call c =>
            obtain ⟨callee, oargs, argTypes⟩ := c
            simp only [compOpA] at hc
            split at hc
            · split at hc <;> first | (cases hc; done) | (simp only [Option.some.injEq] at hc; subst hc; simp [calleeOf] at hf)
            · repeat' split at hc
              all_goals first | (cases hc; done) | (simp only [Option.some.injEq] at hc; subst hc; simp [calleeOf] at hf)
            · split at hc
              · cases hc
              simp only [Option.some.injEq] at hc; subst hc
              simp only [calleeOf, Option.some.injEq, Prod.mk.injEq] at hf
              obtain ⟨rfl, rfl⟩ := hf
              refine ⟨oargs.toList.map a.eval, evs_sound e _ hk, ?_⟩
              have : (List.map a.eval oargs.toList).toArray = oargs.map a.eval := by rw [← List.map_toArray, Array.toArray_toList]
              rw [this]
              simp [execOp, resolve, Act.eval, Deferred.ofValue, invoke]
            · rename_i x _
              simp only [Option.some.injEq] at hc; subst hc
              simp only [calleeOf] at hf
              split at hf
              · rename_i f' first captured hx
                cases hby : Nat.beq f' yieldId with
                | true => rw [hby] at hf; cases hf
                | false =>
                rw [hby] at hf
                cases hf
                obtain ⟨hk1, hk2⟩ := allKnown_append hk
                obtain ⟨hk3, hk4⟩ := allKnown_append hk2
                have hs := (ev_sound e x).cv (by rw [hx]; simp)
                rw [hx] at hs
                simp only [cvo] at hs
                split at hs
                · rename_i x' y' g1 g2
                  have hs := (Option.some.inj hs).symm
                  refine ⟨x' ++ (oargs.toList.map a.eval ++ y'), cvos_append g1 (cvos_append (evs_sound e _ hk3) g2), ?_⟩
                  have : (x' ++ (List.map a.eval oargs.toList ++ y')).toArray = x'.toArray ++ oargs.map a.eval ++ y'.toArray := by
                    apply Array.ext'; simp
                  rw [this]
                  simp [execOp, resolve, hs, Deferred.ofValue, invoke]
                · cases hs
              · cases hf
                exact absurd rfl hfy
              · cases hf
            · cases hc
          | _ =>
            exfalso
            simp only [compOpA, compEq] at hc
            repeat' split at hc
            all_goals first
              | (cases hc; done)
              | (simp only [Option.some.injEq] at hc; subst hc; simp [calleeOf] at hf; done)
              | (simp only [Option.map_eq_some_iff] at hc; obtain ⟨_, _, rfl⟩ := hc; simp [calleeOf] at hf; done)
        obtain ⟨cargs, h1, h2⟩ := key
        rw [h2]
        rcases hgg with ⟨⟨fn, f1, f2, f3⟩, hcalls⟩ | hext
        · rw [run_callFunc f1 f2 f3, Oper.upon_enter]
          refine (hcalls F m w cargs e.base R h1).mono ?_
          rintro e' w' ⟨c, m', rfl, h3, h4, h5⟩
          exact K c m' w' h3 h4 (.inr h5)
        · obtain ⟨c, w', m', g1, g2, g3, g4⟩ := hext F m w cargs e.base R h1
          rw [g1]
          exact K c m' w' g2 g3 (.inr g4)
    · cases h
  · -- no text has a quiet call
    rename_i hcls
    exfalso
    have hq : notQ ao = false := by
      cases ao <;> first | rfl | (simp [AOp.cls] at hcls)
    rcases compOp_cases hc with h1 | h1 | h1
    · rw [compOpA_notQ h1] at hq; cases hq
    · have hb := compOpB_spec h1
      generalize o.op = oo at hb
      cases hb <;> cases hq
    · rw [h1] at hq; cases hq

/-- What an operation of a text's yield is. -/
theorem yield_cases {op : Op} {ao : AOp} (hc : compOp P op = some ao) {E : Env} {A : St} {args : List AV} (hcls : ao.cls = .call) (hf : calleeOf D E A ao = some (yieldId, args)) :
    ∃ x xs ts g, op = .call ⟨.value x, xs, ts⟩ ∧ ev E x = .yld g ∧ args = .yld g :: evs E xs.toList := by
  rcases callee_cases hc hf with hc | ⟨x, name, xs, ts, hop, rfl⟩
  rotate_left
  · exfalso
    simp only [calleeOf] at hf
    split at hf
    rotate_left
    · cases hf
    rename_i t v hx
    split at hf
    rotate_left
    · cases hf
    rename_i f' r hrow
    split at hf
    rotate_left
    · cases hf
    rename_i u hr
    cases hby : Nat.beq f' yieldId with
    | true => rw [hby] at hf; cases hf
    | false =>
      rw [hby] at hf
      cases hf
      simp at hby
  cases op with
  | call c =>
    obtain ⟨callee, oargs, argTypes⟩ := c
    simp only [compOpA] at hc
    split at hc
    · split at hc <;> first | (cases hc; done) | (simp only [Option.some.injEq] at hc; subst hc; simp [calleeOf] at hf)
    · repeat' split at hc
      all_goals first | (cases hc; done) | (simp only [Option.some.injEq] at hc; subst hc; simp [calleeOf] at hf)
    · split at hc
      · cases hc
      rename_i hne
      simp only [Option.some.injEq] at hc; subst hc
      simp only [calleeOf, Option.some.injEq, Prod.mk.injEq] at hf
      exact absurd hf.1 hne
    · rename_i xx _ _
      simp only [Option.some.injEq] at hc; subst hc
      simp only [calleeOf] at hf
      split at hf
      · rename_i f' first captured hx
        cases hby : Nat.beq f' yieldId with
        | true => rw [hby] at hf; cases hf
        | false =>
          rw [hby] at hf
          cases hf
          simp at hby
      · rename_i g hx
        cases hf
        exact ⟨xx, oargs, argTypes, g, rfl, hx, rfl⟩
      · cases hf
    · cases hc
  | _ =>
    exfalso
    simp only [compOpA, compEq] at hc
    repeat' split at hc
    all_goals first
      | (cases hc; done)
      | (simp only [Option.some.injEq] at hc; subst hc; simp [calleeOf] at hf; done)
      | (simp only [Option.map_eq_some_iff] at hc; obtain ⟨_, _, rfl⟩ := hc; simp [calleeOf] at hf; done)

/-- No text's defer is covered. -/
theorem no_defer {op : Op} {ao : AOp} (hc : compOp P op = some ao) {E : Env} {A : St} {r : AV × St} (h : opOf D G E A ao = some r) (c : Call) : op ≠ .defer c := by
  intro hop
  subst hop
  have : ao = stuckOp := by
    unfold compOp at hc
    simp only [compOpA, compOpB] at hc
    exact (Option.some.inj hc).symm
  subst this
  simp [stuckOp, opOf, AOp.cls, pureOf, ev, constAV, constFlat] at h

/-- One operation. -/
theorem op_sound {Fe : Fence} (hFe : FOk Fe) (hG : CSound P M0 G) {F : Fr} {m : Mu} {E : Env} {a : Act} {A : St} {w : World} {o : Oper} {ao : AOp} {v : AV} {B : St} (R : Rel F m A w) (hc : compOp P o.op = some ao) (e : EnvR M0 m n E a)
    (h : opOf D G E A ao = some (v, B)) {next : Act → World → Prop} {Q : Exit → Act → World → Prop}
    (K : ∀ c m' w', m.le m' → Rel F m' B w' → slotR m' v c → next (a.put o.dst c) w') : o.wpIn Fe 0 P a w next Q := by
  by_cases hy : ∃ args, ao.cls = .call ∧ calleeOf D E A ao = some (yieldId, args)
  · obtain ⟨args, hcls, hf⟩ := hy
    obtain ⟨x, xs, ts, g, hop, hx, rfl⟩ := yield_cases (D := D) hc hcls hf
    unfold opOf at h
    rw [hcls] at h
    simp only [hf] at h
    cases hk : allKnown (.yld g :: evs E xs.toList) with
    | false => rw [hk] at h; cases h
    | true =>
      rw [hk] at h; simp only [cond_true] at h
      have hk' : allKnown (evs E xs.toList) = true := hk
      have hcx := (ev_sound e x).cv (by rw [hx]; simp)
      rw [hx] at hcx
      simp only [cvo, Option.map_eq_some_iff] at hcx
      obtain ⟨l, hl, hv⟩ := hcx
      obtain ⟨fn, tmps, assign, body, hyy, hround⟩ := (hG _ _ _ _ _ h).1 rfl F m w g _ _ l e.base R rfl (evs_sound e _ hk') hl
      refine ⟨fun f _ => hFe.fn f, ?_⟩
      rw [Oper.semAt_eq _ _ _ (fun c => by rw [hop]; simp)]
      have hrun : (execOp a.eval o).run P w = (Instr.yield l.cb (xs.toList.map a.eval).toArray).run P w := by
        have : (List.map a.eval xs.toList).toArray = xs.map a.eval := by rw [← List.map_toArray, Array.toArray_toList]
        rw [this]
        simp [execOp, hop, resolve, ← hv, Deferred.ofValue, invoke]
      rw [hrun, hyy]
      refine ⟨hFe.depth, hFe.rounds ?_⟩
      refine RoundIn.mono hround ?_
      rintro e' w' ⟨c, m', rfl, h3, h4, h5⟩
      exact K c m' w' h3 h4 (.inr h5)
  · exact wpIn_of_wp hFe (no_defer hc h) (op_sound_wp hG R hc e h (fun f args hcls hf hfy => hy ⟨args, hcls, by rw [hf, hfy]⟩) K)

theorem op_soundL {Fe : Fence} (hFe : FOk Fe) (hG : CSound P M0 G) {F : Fr} {m : Mu} {E : Env} {a : Act} {A : St} {w : World} {o : Oper} {ao : AOp} {v : AV} {B : St} (R : Rel F m A w) (hc : compOp P o.op = some ao) (e : EnvR M0 m n E a)
    (h : opOfL D G E A ao = some (v, B)) {next : Act → World → Prop} {Q : Exit → Act → World → Prop}
    (K : ∀ c m' w', m.le m' → Rel F m' B w' → slotR m' v c → next (a.put o.dst c) w') : o.wpIn Fe 0 P a w next Q := by
  unfold opOfL at h
  split at h
  · rename_i r hr; cases h; exact op_sound hFe hG R hc e hr K
  · split at h
    · rename_i v' hl
      cases h
      obtain ⟨c, h1, h2⟩ := late_sound (P := P) R hc e hl
      refine wpIn_of_wp hFe (fun c hop => ?_) ?_
      · have : ao = stuckOp := by
          rw [hop] at hc
          unfold compOp at hc
          simp only [compOpA, compOpB] at hc
          exact (Option.some.inj hc).symm
        subst this
        simp [stuckOp, lateOf] at hl
      unfold Oper.wp
      rw [h1]
      exact K c m w (Mu.le_refl m) R (.inr h2)
    · cases h

theorem wanted_sound {m : Mu} {E : Env} {a : Act} (e : EnvR M0 m n E a) {ops : Array Oper} {o : Oper} {g : Option (Nat × Bool)} {b : Bool}
    (hg : (o.guard = none ∧ g = none) ∨ ∃ j want t, o.guard = some (j, want) ∧ (ops[j]?).bind (·.dst) = some t ∧ t < n ∧ g = some (t, want)) (h : wantedA E g = some b) : Region.wanted o (yielded ops a.tmps) = b := by
  rcases hg with ⟨h1, rfl⟩ | ⟨j, want, t, h1, h2, h3, rfl⟩
  · simp only [wantedA, Option.some.injEq] at h; subst h; simp [Region.wanted, h1]
  · simp only [wantedA] at h
    split at h
    · rename_i c hc
      cases h
      cases hlt : Nat.blt t 1000000 with
      | false => rw [hlt] at hc; cases hc
      | true =>
        rw [hlt] at hc; simp only [cond_true] at hc
        have ht := e.tmp t (by simpa [Nat.blt_eq] using hlt)
        have := cvo_bool hc ht
        have hs : t < a.tmps.size := by rw [e.size]; exact h3
        have hget : a.tmps[t]? = some (.bool c) := by
          rw [Array.getElem?_eq_getElem hs]
          simp [hs] at this
          rw [this]
        simp only [Region.wanted, h1, yielded, h2, Option.bind_some, hget]
        rw [Bool.eq_iff_iff]; simp
    · rename_i hc
      cases h
      cases hlt : Nat.blt t 1000000 with
      | false => rw [hlt] at hc; cases hc
      | true =>
        rw [hlt] at hc; simp only [cond_true] at hc
        have ht := (e.tmp t (by simpa [Nat.blt_eq] using hlt)).cv (by rw [hc]; simp)
        rw [hc] at ht
        have hs : t < a.tmps.size := by rw [e.size]; exact h3
        have hget : a.tmps[t]? = some (.tuple #[]) := by
          rw [Array.getElem?_eq_getElem hs]
          simp [hs, cvo, cvos] at ht
          rw [← ht]
        simp only [Region.wanted, h1, yielded, h2, Option.bind_some, hget]
        rfl
    · cases h

/-- The operations of a region, in the order of the text. -/
theorem ops_sound {Fe : Fence} (hFe : FOk Fe) (hG : CSound P M0 G) {F : Fr} {ds : List Deferred} (ops : Array Oper) {Q : Exit → Act → World → Prop} : ∀ (l : List Oper) (k : Nat) (al : List AOper), (∀ j, l[j]? = ops[k + j]?) → compOpers P n ops l = some al →
    ∀ {m : Mu} {E : Env} {a : Act} {A : St} {w : World} {E' : Env} {A' : St}, Rel F m A w → EnvR M0 m n E a → a.defers = ds → runOps D G al E A = some (E', A') →
    (∀ m' a' w', m.le m' → Rel F m' A' w' → EnvR M0 m' n E' a' → a'.defers = ds → Q .normal a' w') → wpOpsIn Fe 0 P ops Q (List.range' k l.length) a w
  | [], k, al, hl, hc, m, E, a, A, w, E', A', R, e, hd, h, K => by
    simp only [compOpers, Option.some.injEq] at hc; subst hc
    simp only [runOps, Option.some.injEq, Prod.mk.injEq] at h
    obtain ⟨rfl, rfl⟩ := h
    simp only [List.length_nil, List.range'_zero, wpOpsIn]
    exact K m a w (Mu.le_refl m) R e hd
  | o :: l, k, al, hl, hc, m, E, a, A, w, E', A', R, e, hd, h, K => by
    simp only [compOpers] at hc
    split at hc
    · rename_i ao r hao hr
      cases hc
      have ho : ops[k]? = some o := by have := hl 0; simpa using this.symm
      have hl' : ∀ j, l[j]? = ops[k + 1 + j]? := fun j => by have := hl (j + 1); simp only [List.getElem?_cons_succ] at this; rw [this]; congr 1; omega
      simp only [List.length_cons, List.range'_succ, wpOpsIn, ho]
      unfold compOper at hao
      split at hao
      · rename_i hdst
        split at hao
        · rename_i aop haop
          have hguard : ao.dst = o.dst ∧ ao.op = aop ∧ ((o.guard = none ∧ ao.guard = none) ∨ ∃ j want t, o.guard = some (j, want) ∧ (ops[j]?).bind (·.dst) = some t ∧ t < n ∧ ao.guard = some (t, want)) := by
            split at hao
            · rename_i hg; cases hao; exact ⟨rfl, rfl, .inl ⟨hg, rfl⟩⟩
            · rename_i j want hg
              split at hao
              · rename_i t ht
                split at hao
                · rename_i htn; cases hao; exact ⟨rfl, rfl, .inr ⟨j, want, t, hg, ht, htn, rfl⟩⟩
                · cases hao
              · cases hao
          obtain ⟨g1, g2, g3⟩ := hguard
          simp only [runOps] at h
          split at h
          · rename_i hw
            rw [wanted_sound e g3 hw, if_pos rfl]
            split at h
            · rename_i v B hop
              rw [g2] at hop
              rw [g1] at h
              refine (op_soundL hFe hG R haop e hop fun c m' w' hle R' hs => ?_)
              exact ops_sound hFe hG ops l (k + 1) r hl' hr R' ((e.mono hle).put hdst hs) (by cases o.dst <;> exact hd) h (fun m'' a' w'' h1 h2 h3 h4 => K m'' a' w'' (Mu.le_trans hle h1) h2 h3 h4)
            · cases h
          · rename_i hw
            rw [wanted_sound e g3 hw]
            simp only [Bool.false_eq_true, if_false]
            rw [g1] at h
            refine ⟨fun f _ => hFe.fn f, ?_⟩
            exact ops_sound hFe hG ops l (k + 1) r hl' hr R (e.put hdst (.inr rfl)) (by cases o.dst <;> exact hd) h K
          · cases h
        · cases hao
      · cases hao
    · cases hc

end
end Go.AM
