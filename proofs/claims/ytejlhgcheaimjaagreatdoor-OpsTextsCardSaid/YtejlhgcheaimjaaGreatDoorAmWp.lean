/- The abstract machine: what holds behind a run, step by step. -/
import Derived.Test.YtejlhgcheaimjaaGreatDoorAmRun
namespace Go.AM
set_option linter.unusedVariables false
set_option linter.unusedSimpArgs false

/-- One table of calls tells all that another tells. -/
def Calls'.le (G G' : Calls') : Prop := ∀ f args A r, G f args A = some r → G' f args A = some r

section
variable {D : Disp}

theorem quietOf_le {G G' : Calls'} (h : G.le G') {f : FuncId} {args : List AV} {A : St} {r : AV} (e : quietOf G f args A = some r) : quietOf G' f args A = some r := by
  unfold quietOf at *
  split at e
  · rename_i x B hx
    rw [h _ _ _ _ hx]
    exact e
  · cases e
theorem opOf_le {G G' : Calls'} (h : G.le G') {E : Env} {A : St} {op : AOp} {r : AV × St} (e : opOf D G E A op = some r) : opOf D G' E A op = some r := by
  unfold opOf at *
  split at e
  · exact e
  · exact e
  · exact e
  · exact e
  · split at e
    · rename_i f args hf
      cases hk : allKnown args with
      | false => rw [hk] at e; cases e
      | true => rw [hk] at e; exact h _ _ _ _ e
    · cases e
  · split at e
    · rename_i f args hf
      cases hk : allKnown args with
      | false => rw [hk] at e; cases e
      | true =>
        rw [hk, cond_true] at e
        split at e
        · rename_i x hx
          rw [cond_true, quietOf_le h hx]
          exact e
        · cases e
    · cases e

theorem lookOf_le {G G' : Calls'} (h : G.le G') {E : Env} {A : St} {op : AOp} {v : AV} (e : lookOf D G E A op = some v) : lookOf D G' E A op = some v := by
  unfold lookOf at *
  split at e
  · rename_i x B hx
    rw [opOf_le h hx]
    exact e
  · cases e
theorem sameIn_le {G G' : Calls'} (h : G.le G') {tr : List (Env × St)} {E : Env} {op : AOp} {v v' : Option AV} (hv : ∀ u, v = some u → v' = some u) : ∀ {n q : Nat}, sameIn D G tr E op v q n = true → sameIn D G' tr E op v' q n = true
  | 0, _, _ => rfl
  | n + 1, q, e => by
    simp only [sameIn] at *
    split at e
    · rename_i x hx
      rw [Bool.and_eq_true] at *
      refine ⟨?_, sameIn_le h hv e.2⟩
      have h1 := e.1
      cases ha : lookOf D G E x.2 op with
      | none => rw [ha] at h1; cases h1
      | some a =>
        cases hb : v with
        | none => rw [ha, hb] at h1; cases h1
        | some b =>
          rw [ha, hb] at h1
          rw [lookOf_le h ha, hv _ hb]
          exact h1
    · cases e
theorem chkTr_le {G G' : Calls'} (h : G.le G') {tr : List (Env × St)} : ∀ {l : List (AOper × Nat × Nat)} {i : Nat}, chkTr D G tr i l = true → chkTr D G' tr i l = true
  | [], _, _ => rfl
  | (o, lo, hi) :: l, i, e => by
    simp only [chkTr] at *
    rw [Bool.and_eq_true] at *
    refine ⟨?_, chkTr_le h e.2⟩
    have h1 := e.1
    split at h1
    · rename_i x hx
      cases hb : isLook o.op && isTrue (wantedA x.1 o.guard) with
      | false => rfl
      | true =>
        rw [hb, cond_true] at h1
        rw [cond_true]
        exact sameIn_le h (fun u hu => lookOf_le h hu) h1
    · cases h1

theorem opOfL_le {G G' : Calls'} (h : G.le G') {E : Env} {A : St} {op : AOp} {r : AV × St} (e : opOfL D G E A op = some r) : opOfL D G' E A op = some r := by
  unfold opOfL at *
  split at e
  · rename_i x hx; cases e; rw [opOf_le h hx]
  · rename_i hx
    cases hc : op.cls with
    | call =>
      have hl : lateOf E A op = none := by cases op <;> first | rfl | (simp [AOp.cls] at hc)
      rw [hl] at e; cases e
    | quiet =>
      have hl : lateOf E A op = none := by cases op <;> first | rfl | (simp [AOp.cls] at hc)
      rw [hl] at e; cases e
    | _ =>
      have : opOf D G' E A op = opOf D G E A op := by unfold opOf; rw [hc]
      rw [this, hx]; exact e
theorem opOfL_of {G : Calls'} {E : Env} {A : St} {op : AOp} {r : AV × St} (e : opOf D G E A op = some r) : opOfL D G E A op = some r := by
  unfold opOfL; rw [e]
theorem runOps_le {G G' : Calls'} (h : G.le G') : ∀ {l : List AOper} {E : Env} {A : St} {r : Env × St}, runOps D G l E A = some r → runOps D G' l E A = some r
  | [], E, A, r, e => e
  | o :: l, E, A, r, e => by
    simp only [runOps] at *
    split at e
    · rename_i hw
      split at e
      · rename_i v B hop
        rw [opOfL_le h hop]
        exact runOps_le h e
      · cases e
    · rename_i hw
      exact runOps_le h e
    · cases e

theorem runTr_le {G G' : Calls'} (h : G.le G') : ∀ {l : List (AOper × Nat × Nat)} {E : Env} {A : St} {r : List (Env × St)}, runTr D G l E A = some r → runTr D G' l E A = some r
  | [], E, A, r, e => e
  | (o, lo, hi) :: l, E, A, r, e => by
    simp only [runTr] at *
    split at e
    · rename_i hw
      split at e
      · rename_i v B hop
        rw [opOf_le h hop]
        dsimp only
        split at e
        · rename_i tr htr; rw [runTr_le h htr]; exact e
        · cases e
      · cases e
    · rename_i hw
      split at e
      · rename_i tr htr; rw [runTr_le h htr]; exact e
      · cases e
    · cases e

theorem loopN_le {g g' : Env → St → Option (Ex × Env × St)} (h : ∀ E A r, g E A = some r → g' E A = some r) : ∀ {n n' : Nat}, n ≤ n' → ∀ {E : Env} {A : St} {r : Ex × Env × St}, loopN g n E A = some r → loopN g' n' E A = some r
  | 0, _, _, _, _, _, e => by cases e
  | n + 1, 0, hn, _, _, _, _ => by omega
  | n + 1, n' + 1, hn, E, A, r, e => by
    simp only [loopN] at *
    cases hg : g E A with
    | none => rw [hg] at e; cases e
    | some x =>
      rw [hg] at e; rw [h _ _ _ hg]
      obtain ⟨ex, E', A'⟩ := x
      cases ex with
      | normal => exact loopN_le h (by omega) e
      | exit i => exact e
      | ret => exact e

theorem interp_le {G G' : Calls'} (h : G.le G') {n n' : Nat} (hn : n ≤ n') : ∀ {c : ACode} {E : Env} {A : St} {r : Ex × Env × St}, interp D G n c E A = some r → interp D G' n' c E A = some r := by
  intro c
  induction c with
  | skip => intro E A r e; exact e
  | region ops =>
    intro E A r e
    simp only [interp] at *
    split at e
    · rename_i E1 A1 hr; rw [runOps_le h hr]; exact e
    · cases e
  | draws l =>
    intro E A r e
    simp only [interp] at *
    split at e
    · rename_i tr hr
      rw [runTr_le h hr]
      dsimp only
      cases hk : chkTr D G tr 0 l with
      | false => rw [hk] at e; cases e
      | true => rw [hk] at e; rw [chkTr_le h hk]; exact e
    · cases e
  | seq a b iha ihb =>
    intro E A r e
    simp only [interp] at *
    cases ha : interp D G n a E A with
    | none => rw [ha] at e; cases e
    | some x =>
      rw [ha] at e; rw [iha ha]
      obtain ⟨ex, E', A'⟩ := x
      cases ex with
      | normal => exact ihb e
      | exit i => exact e
      | ret => exact e
  | cond c x y ihx ihy =>
    intro E A r e
    simp only [interp] at *
    split at e
    · exact ihx e
    · exact ihy e
    · cases e
  | block id c ih =>
    intro E A r e
    simp only [interp] at *
    cases ha : interp D G n c E A with
    | none => rw [ha] at e; cases e
    | some x => rw [ha] at e; rw [ih ha]; exact e
  | loop c ih =>
    intro E A r e
    simp only [interp] at *
    exact loopN_le (fun E A r => ih) hn e
  | exit id => intro E A r e; exact e
  | ret => intro E A r e; exact e
  | rangeF f ps k a b =>
    intro E A r e
    simp only [interp] at *
    split at e
    rotate_left
    · cases e
    rename_i g first captured hg
    cases hby : Nat.beq g yieldId with
    | true => rw [hby] at e; cases e
    | false =>
      rw [hby] at e
      simp only [cond_false] at *
      split at e
      rotate_left
      · cases e
      rename_i x B hx
      rw [h _ _ _ _ hx]
      exact e

theorem runRound_le {G G' : Calls'} (h : G.le G') {n n' : Nat} (hn : n ≤ n') {args : List AV} {A : St} {r : AV × St} (e : runRound D G n args A = some r) : runRound D G' n' args A = some r := by
  unfold runRound at *
  split at e
  rotate_left
  · cases e
  rename_i l as
  split at e
  rotate_left
  · cases e
  rename_i rec hg
  cases hc : Nat.beq rec.st 0 && Nat.beq as.length rec.ps.length with
  | false => rw [hc] at e; cases e
  | true =>
  rw [hc] at e
  simp only [cond_true] at *
  split at e
  rotate_left
  · cases e
  rename_i E1 A1 hr1
  rw [interp_le h hn hr1]
  simp only []
  split at e
  rotate_left
  · cases e
  rename_i r1 hg1
  cases hs : Nat.beq r1.st 0 with
  | false => rw [hs] at e; cases e
  | true =>
  rw [hs] at e
  simp only [cond_true] at *
  split at e
  rotate_left
  · cases e
  rename_i ex E2 A2 hr2
  rw [interp_le h hn hr2]
  exact e
theorem calls_le {G0 : Env} {fns : Nat → Option AFn} {X : Calls'} : ∀ {k k' : Nat}, k ≤ k' → (calls D G0 fns X k).le (calls D G0 fns X k')
  | 0, _, _ => fun f args A r e => by cases e
  | k + 1, 0, h => by omega
  | k + 1, k' + 1, h => fun f args A r e => by
    simp only [calls] at *
    split at e
    · rename_i fn hf
      unfold runFn at *
      split at e
      · rename_i hc
        rw [if_pos hc]
        cases hi : interp D (calls D G0 fns X k) k fn.body (setArgs 0 args G0) A with
        | none => rw [hi] at e; cases e
        | some x => rw [hi] at e; rw [interp_le (calls_le (by omega)) (by omega) hi]; exact e
      · cases e
    · cases hby : Nat.beq f yieldId with
      | true =>
        rw [hby] at e
        simp only [cond_true] at *
        exact runRound_le (calls_le (by omega)) (by omega) e
      | false => rw [hby] at e; exact e
end

/-! ### What holds behind -/
section
variable (D : Disp) (G0 : Env) (fns : Nat → Option AFn) (X : Calls')

/-- A call comes to what meets Q. -/
def Ev (f : FuncId) (args : List AV) (A : St) (Q : AV → St → Prop) : Prop := ∃ k r B, calls D G0 fns X k f args A = some (r, B) ∧ Q r B
/-- Code comes to what meets Q. -/
def Wp (c : ACode) (E : Env) (A : St) (Q : Ex → Env → St → Prop) : Prop := ∃ k ex E' A', interp D (calls D G0 fns X k) k c E A = some (ex, E', A') ∧ Q ex E' A'
/-- Operations come to what meets Q. -/
def WpO (l : List AOper) (E : Env) (A : St) (Q : Env → St → Prop) : Prop := ∃ k E' A', runOps D (calls D G0 fns X k) l E A = some (E', A') ∧ Q E' A'
end
section
variable {D : Disp} {G0 : Env} {fns : Nat → Option AFn} {X : Calls'}

theorem Ev.mono {f : FuncId} {args : List AV} {A : St} {Q Q' : AV → St → Prop} (h : Ev D G0 fns X f args A Q) (hq : ∀ r B, Q r B → Q' r B) : Ev D G0 fns X f args A Q' :=
  let ⟨k, r, B, h1, h2⟩ := h; ⟨k, r, B, h1, hq r B h2⟩
theorem Wp.mono {c : ACode} {E : Env} {A : St} {Q Q' : Ex → Env → St → Prop} (h : Wp D G0 fns X c E A Q) (hq : ∀ ex E A, Q ex E A → Q' ex E A) : Wp D G0 fns X c E A Q' :=
  let ⟨k, ex, E', A', h1, h2⟩ := h; ⟨k, ex, E', A', h1, hq _ _ _ h2⟩

theorem WpO.nil {E : Env} {A : St} {Q : Env → St → Prop} (h : Q E A) : WpO D G0 fns X [] E A Q := ⟨0, E, A, rfl, h⟩
theorem WpO.skip {o : AOper} {l : List AOper} {E : Env} {A : St} {Q : Env → St → Prop} (hw : wantedA E o.guard = some false) (h : WpO D G0 fns X l (Env.put E o.dst (.tuple [])) A Q) : WpO D G0 fns X (o :: l) E A Q := by
  obtain ⟨k, E', A', h1, h2⟩ := h
  exact ⟨k, E', A', by simp only [runOps, hw]; exact h1, h2⟩
theorem WpO.op {o : AOper} {l : List AOper} {E : Env} {A : St} {Q : Env → St → Prop} {v : AV} {B : St} (hw : wantedA E o.guard = some true) (hop : ∀ G, opOf D G E A o.op = some (v, B)) (h : WpO D G0 fns X l (Env.put E o.dst v) B Q) : WpO D G0 fns X (o :: l) E A Q := by
  obtain ⟨k, E', A', h1, h2⟩ := h
  exact ⟨k, E', A', by simp only [runOps, hw, opOfL_of (hop _)]; exact h1, h2⟩
theorem WpO.call {o : AOper} {l : List AOper} {E : Env} {A : St} {Q : Env → St → Prop} {f : FuncId} {args : List AV} (hw : wantedA E o.guard = some true) (hcls : o.op.cls = .call) (hf : calleeOf D E A o.op = some (f, args)) (hk : allKnown args = true)
    (h : Ev D G0 fns X f args A fun r B => WpO D G0 fns X l (Env.put E o.dst r) B Q) : WpO D G0 fns X (o :: l) E A Q := by
  obtain ⟨k1, r, B, h1, k2, E', A', h2, h3⟩ := h
  refine ⟨max k1 k2, E', A', ?_, h3⟩
  have hop : opOf D (calls D G0 fns X (max k1 k2)) E A o.op = some (r, B) := by
    simp only [opOf, hcls, hf, hk, cond_true]
    exact calls_le (Nat.le_max_left k1 k2) _ _ _ _ h1
  simp only [runOps, hw, opOfL_of hop]
  exact runOps_le (calls_le (Nat.le_max_right k1 k2)) h2

theorem Wp.skip {E : Env} {A : St} {Q : Ex → Env → St → Prop} (h : Q .normal E A) : Wp D G0 fns X .skip E A Q := ⟨0, _, _, _, rfl, h⟩
theorem Wp.exit {id : Nat} {E : Env} {A : St} {Q : Ex → Env → St → Prop} (h : Q (.exit id) E A) : Wp D G0 fns X (.exit id) E A Q := ⟨0, _, _, _, rfl, h⟩
theorem Wp.ret {E : Env} {A : St} {Q : Ex → Env → St → Prop} (h : Q .ret E A) : Wp D G0 fns X .ret E A Q := ⟨0, _, _, _, rfl, h⟩
theorem Wp.region {l : List AOper} {E : Env} {A : St} {Q : Ex → Env → St → Prop} (h : WpO D G0 fns X l E A (Q .normal)) : Wp D G0 fns X (.region l) E A Q := by
  obtain ⟨k, E', A', h1, h2⟩ := h
  exact ⟨k, .normal, E', A', by simp only [interp, h1], h2⟩
theorem Wp.seq {a b : ACode} {E : Env} {A : St} {Q : Ex → Env → St → Prop} (h : Wp D G0 fns X a E A fun ex E' A' => match ex with | .normal => Wp D G0 fns X b E' A' Q | ex => Q ex E' A') : Wp D G0 fns X (.seq a b) E A Q := by
  obtain ⟨k1, ex, E1, A1, h1, h2⟩ := h
  cases ex with
  | normal =>
    obtain ⟨k2, ex2, E2, A2, h3, h4⟩ := h2
    refine ⟨max k1 k2, ex2, E2, A2, ?_, h4⟩
    simp only [interp]
    rw [interp_le (calls_le (Nat.le_max_left k1 k2)) (Nat.le_max_left k1 k2) h1]
    exact interp_le (calls_le (Nat.le_max_right k1 k2)) (Nat.le_max_right k1 k2) h3
  | exit i => exact ⟨k1, _, _, _, by simp only [interp, h1], h2⟩
  | ret => exact ⟨k1, _, _, _, by simp only [interp, h1], h2⟩
theorem Wp.yes {c : Operand} {x y : ACode} {E : Env} {A : St} {Q : Ex → Env → St → Prop} (hc : ev E c = .bool true) (h : Wp D G0 fns X x E A Q) : Wp D G0 fns X (.cond c x y) E A Q := by
  obtain ⟨k, ex, E', A', h1, h2⟩ := h
  exact ⟨k, ex, E', A', by simp only [interp, hc]; exact h1, h2⟩
theorem Wp.no {c : Operand} {x y : ACode} {E : Env} {A : St} {Q : Ex → Env → St → Prop} (hc : ev E c = .bool false) (h : Wp D G0 fns X y E A Q) : Wp D G0 fns X (.cond c x y) E A Q := by
  obtain ⟨k, ex, E', A', h1, h2⟩ := h
  exact ⟨k, ex, E', A', by simp only [interp, hc]; exact h1, h2⟩
theorem Wp.cond {c : Operand} {x y : ACode} {E : Env} {A : St} {Q : Ex → Env → St → Prop} {b : Bool} (hc : ev E c = .bool b) (ht : b = true → Wp D G0 fns X x E A Q) (hf : b = false → Wp D G0 fns X y E A Q) : Wp D G0 fns X (.cond c x y) E A Q := by
  cases b with
  | true => exact .yes hc (ht rfl)
  | false => exact .no hc (hf rfl)
theorem Wp.block {id : Nat} {c : ACode} {E : Env} {A : St} {Q : Ex → Env → St → Prop} (h : Wp D G0 fns X c E A fun ex E' A' => match ex with | .exit i => if i = id then Q .normal E' A' else Q (.exit i) E' A' | ex => Q ex E' A') : Wp D G0 fns X (.block id c) E A Q := by
  obtain ⟨k, ex, E1, A1, h1, h2⟩ := h
  cases ex with
  | normal => exact ⟨k, _, _, _, by simp only [interp, h1], h2⟩
  | ret => exact ⟨k, _, _, _, by simp only [interp, h1], h2⟩
  | exit i =>
    simp only at h2
    by_cases hi : i = id
    · rw [if_pos hi] at h2; exact ⟨k, _, _, _, by simp only [interp, h1]; rw [if_pos hi], h2⟩
    · rw [if_neg hi] at h2; exact ⟨k, _, _, _, by simp only [interp, h1]; rw [if_neg hi], h2⟩
/-- A loop: what holds at each round's head, at which d rounds at most are still to come. -/
theorem Wp.loop {c : ACode} {Q : Ex → Env → St → Prop} (I : Nat → Env → St → Prop) (round : ∀ d E A, I d E A → Wp D G0 fns X c E A fun ex E' A' => match ex with | .normal => ∃ d', d' < d ∧ I d' E' A' | ex => Q ex E' A') :
    ∀ (d : Nat) (E : Env) (A : St), I d E A → Wp D G0 fns X (.loop c) E A Q := by
  have key : ∀ (d : Nat) (E : Env) (A : St), I d E A → ∃ k ex E' A', loopN (interp D (calls D G0 fns X k) k c) k E A = some (ex, E', A') ∧ Q ex E' A' := by
    intro d
    induction d using Nat.strongRecOn with
    | _ d ih =>
      intro E A h
      obtain ⟨k1, ex, E1, A1, h1, h2⟩ := round d E A h
      cases ex with
      | normal =>
        obtain ⟨d', hd, hI⟩ := h2
        obtain ⟨k2, ex2, E2, A2, h3, h4⟩ := ih d' hd E1 A1 hI
        refine ⟨max k1 k2 + 1, ex2, E2, A2, ?_, h4⟩
        simp only [loopN]
        rw [interp_le (calls_le (by omega)) (by omega) h1]
        exact loopN_le (fun E A r e => interp_le (calls_le (by omega)) (by omega) e) (by omega) h3
      | exit i => exact ⟨k1 + 1, _, _, _, by simp only [loopN]; rw [interp_le (calls_le (Nat.le_succ k1)) (Nat.le_succ k1) h1], h2⟩
      | ret => exact ⟨k1 + 1, _, _, _, by simp only [loopN]; rw [interp_le (calls_le (Nat.le_succ k1)) (Nat.le_succ k1) h1], h2⟩
  intro d E A h
  obtain ⟨k, ex, E', A', h1, h2⟩ := key d E A h
  exact ⟨k, ex, E', A', by simp only [interp]; exact h1, h2⟩
/-- A function. -/
theorem Ev.fn {f : FuncId} {fn : AFn} (hf : fns f = some fn) {args : List AV} {A : St} {Q : AV → St → Prop} (hn : args.length ≤ fn.n ∧ fn.n ≤ 1000000)
    (h : Wp D G0 fns X fn.body (setArgs 0 args G0) A fun ex E B => match ex with | .exit _ => False | _ => ∃ l, resVals E B fn.res = some l ∧ Q (packRes l) B) : Ev D G0 fns X f args A Q := by
  obtain ⟨k, ex, E', A', h1, h2⟩ := h
  have fin : (∃ l, resVals E' A' fn.res = some l ∧ Q (packRes l) A') → (∀ i, ex ≠ .exit i) → Ev D G0 fns X f args A Q := fun ⟨l, h3, h4⟩ hx => by
    refine ⟨k + 1, packRes l, A', ?_, h4⟩
    simp only [calls, hf, runFn]
    rw [if_pos hn, h1]
    cases ex with
    | exit i => exact absurd rfl (hx i)
    | normal => simp only [h3]
    | ret => simp only [h3]
  cases ex with
  | exit i => exact h2.elim
  | normal => exact fin h2 (fun i => by simp)
  | ret => exact fin h2 (fun i => by simp)
end
end Go.AM
