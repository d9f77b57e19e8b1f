/- The abstract machine: proofs whichever way the model draws, step by step. -/
import Derived.Test.YtejlhgcheaimjaaGreatDoorAmCanon
import Derived.Test.YtejlhgcheaimjaaGreatDoorAmTr
namespace Go.AM
set_option linter.unusedVariables false
set_option linter.unusedSimpArgs false
section
variable (P : Program) (M0 : Mu) (n : Nat)
def seqM (b : ACode) (Q : Ex → Env → St → Prop) (ex : Ex) (E : Env) (A : St) : Prop :=
  match ex with
  | .normal => MW P M0 n b E A Q
  | ex => Q ex E A
end
section
variable {P : Program} {M0 : Mu} {n : Nat} {D : Disp} {G0 : Env} {fns : Nat → Option AFn} {X : Calls'}
@[simp] theorem seqM_normal (b : ACode) (Q : Ex → Env → St → Prop) (E : Env) (A : St) : seqM P M0 n b Q .normal E A = MW P M0 n b E A Q := rfl
@[simp] theorem seqM_exit (b : ACode) (Q : Ex → Env → St → Prop) (i : Nat) (E : Env) (A : St) : seqM P M0 n b Q (.exit i) E A = Q (.exit i) E A := rfl
@[simp] theorem seqM_ret (b : ACode) (Q : Ex → Env → St → Prop) (E : Env) (A : St) : seqM P M0 n b Q .ret E A = Q .ret E A := rfl

/-- What is the same for a whole program: how runs without choices are believed. -/
structure Base (P : Program) (M0 : Mu) (G0 : Env) (fns : Nat → Option AFn) (X : Calls') : Prop where
  mx : P.follows .mixedOrders = true
  pg : PgOk M0 P
  base : BaseOk M0 G0
  fns : ∀ f afn, fns f = some afn → ∃ fn, P.funcs[f]? = some fn ∧ compFn P fn = some afn ∧ fn.name ≠ "runtime.NumGoroutine"
  ext : GSound P M0 X
theorem MW.seqM {x y : ACode} {E : Env} {A : St} {Q : Ex → Env → St → Prop} (h : MW P M0 n x E A (AM.seqM P M0 n y Q)) : MW P M0 n (.seq x y) E A Q :=
  MW.seq (h.mono fun ex E A h => by cases ex <;> exact h)
theorem MW.blockM {id : Nat} {x : ACode} {E : Env} {A : St} {Q : Ex → Env → St → Prop} (h : MW P M0 n x E A (blkK id Q)) : MW P M0 n (.block id x) E A Q :=
  MW.block (h.mono fun ex E A h => by cases ex <;> exact h)
theorem MW.loopM {x : ACode} {E : Env} {A : St} {Q : Ex → Env → St → Prop} (I : Nat → Env → St → Prop) (d : Nat) (h : I d E A) (round : ∀ d E A, I d E A → MW P M0 n x E A (AM.loopK I d Q)) : MW P M0 n (.loop x) E A Q :=
  MW.loop I d h fun d E A h => (round d E A h).mono fun ex E A h => by cases ex <;> exact h
theorem MW.wp (b : Base P M0 G0 fns X) {x : ACode} {E : Env} {A : St} {Q : Ex → Env → St → Prop} (h : Wp D G0 fns X x E A Q) : MW P M0 n x E A Q :=
  MW.of_Wp b.mx b.pg b.base b.fns b.ext h
theorem MRun.ops (b : Base P M0 G0 fns X) : ∀ {l : List AOper} {E : Env} {A : St} {Q : Ex → Env → St → Prop}, Ops D G0 fns X l E A Q → MRun P M0 n l E A fun E A => Q .normal E A
  | [], E, A, Q, h => by
    obtain ⟨k, E', A', h1, h2⟩ := h
    cases h1
    exact h2
  | o :: l, E, A, Q, h => by
    obtain ⟨k, E', A', h1, h2⟩ := h
    simp only [runOps] at h1
    simp only [MRun]
    split at h1
    · rename_i hw
      split at h1
      · rename_i v B hop
        rw [hw]
        exact OpAny.det (K := fun v B => MRun P M0 n l (Env.put E o.dst v) B fun E A => Q .normal E A) (calls_sound b.mx b.pg b.base b.fns b.ext k) hop (MRun.ops b ⟨k, E', A', h1, h2⟩)
      · cases h1
    · rename_i hw
      rw [hw]
      exact MRun.ops b ⟨k, E', A', h1, h2⟩
    · cases h1
theorem MRun.next {d : Option Nat} {l : List AOper} {it : Operand} {E : Env} {A : St} {Q : Env → St → Prop} {f g : Nat} {since last clock : Nat} {seen : List Nat} {es : List (AV × AV × Nat)}
    (hx : ev E it = .ptr (some (f, 0, 0))) (hg : A.get f = some (.iter (.map (some g) since seen last))) (hgm : A.get g = some (.map es clock)) (hgone : (!seen.isEmpty && !es.isEmpty && es.all fun e => decide (e.2.2 ≥ last)) = false)
    (hover : oldOf since seen es = [] → MRun P M0 n l (Env.put E d (.tuple [.bool false])) A Q)
    (hstep : ∀ k v b, (k, v, b) ∈ oldOf since seen es ++ newOf' since seen es → MRun P M0 n l (Env.put E d (.tuple [.bool true, k, v])) (A.put f (.iter (.map (some g) since (seen ++ [b]) clock))) Q) :
    MRun P M0 n (⟨d, .next false it, none⟩ :: l) E A Q :=
  OpAny.next (K := fun v B => MRun P M0 n l (Env.put E d v) B Q) hx hg hgm hgone hover hstep
/-- A function of the program that the table need not have. -/
structure Has (P : Program) (f : FuncId) (afn : AFn) : Prop where
  ex : ∃ fn, P.funcs[f]? = some fn ∧ compFn P fn = some afn ∧ fn.name ≠ "runtime.NumGoroutine"
theorem EvS.fnM (b : Base P M0 G0 fns X) {f : FuncId} {afn : AFn} (hf : Has P f afn) {args : List AV} {A : St} {Q : AV → St → Prop} (hn : args.length ≤ afn.n ∧ afn.n ≤ 1000000)
    (h : ∀ n, MW P M0 n afn.body (setArgs 0 args G0) A (fnK afn.res Q)) : EvS P M0 f args A Q := by
  obtain ⟨fn, h1, h2, h3⟩ := hf.ex
  exact EvS.fn b.base h1 h2 h3 hn ((h _).mono fun ex E A h => by cases ex <;> exact h)
theorem Ev.ext {f : FuncId} (hf : fns f = none) {args : List AV} {A B : St} {r : AV} {Q : AV → St → Prop} (hx : X f args A = some (r, B)) (hq : Q r B) (hy : Nat.beq f yieldId = false := by decide) : Ev D G0 fns X f args A Q :=
  ⟨1, r, B, by simp only [calls, hf, hy, cond_false]; exact hx, hq⟩
@[simp] theorem ops_range (isMap : Bool) (x : Operand) (d : Option Nat) (l : List AOper) (E : Env) (A : St) (Q : Ex → Env → St → Prop) : Ops D G0 fns X (⟨d, .range isMap x, none⟩ :: l) E A Q = contP D G0 fns X (effOf E A (.range isMap x)) d l E Q := ops_eff rfl d l E A Q
@[simp] theorem ops_entry (x : Operand) (d : Option Nat) (l : List AOper) (E : Env) (A : St) (Q : Ex → Env → St → Prop) : Ops D G0 fns X (⟨d, .entry x, none⟩ :: l) E A Q = contV D G0 fns X (readOf E A (.entry x)) d l E A Q := ops_read rfl d l E A Q
end
end Go.AM
