/- The abstract machine: numbers, ways that come together. -/
import Derived.Test.YteoioahkflcchaaGreatDoorAmTr
import Derived.Test.YteoioahkflcchaaGreatDoorAmInt
namespace Go.AM
set_option linter.unusedSimpArgs false
set_option linter.unusedVariables false
section
variable {D : Disp} {G0 : Env} {fns : Nat → Option AFn} {X : Calls'}
def normalK (I : Env → St → Prop) (ex : Ex) (E : Env) (A : St) : Prop :=
  match ex with
  | .normal => I E A
  | _ => False
@[simp] theorem normalK_normal (I : Env → St → Prop) (E : Env) (A : St) : normalK I .normal E A = I E A := rfl
/-- Two branches that come together. -/
theorem contC_join (I : Env → St → Prop) {b : Bool} {x y : ACode} {E : Env} {A : St} {Q : Ex → Env → St → Prop} (h1 : b = true → Wp D G0 fns X x E A (normalK I)) (h2 : b = false → Wp D G0 fns X y E A (normalK I)) (h3 : ∀ E A, I E A → Q .normal E A) : contC D G0 fns X (.bool b) x y E A Q := by
  have hq : ∀ ex E A, normalK I ex E A → Q ex E A := fun ex E A h => by
    cases ex with
    | normal => exact h3 E A h
    | exit i => exact h.elim
    | ret => exact h.elim
  cases b with
  | true => exact (h1 rfl).mono hq
  | false => exact (h2 rfl).mono hq
end

theorem add_one63 {i : Nat} (h : i + 1 < 9223372036854775808) : binOf .add (.int .i64 i) (.int .i64 1) = some (.int .i64 ((i + 1 : Nat) : Int)) := by
  rw [bin_add, show (i : Int) + 1 = ((i + 1 : Nat) : Int) by omega, wrap_i64_nat h]
theorem add_one {i : Nat} (h : i < 2 ^ 62) : binOf .add (.int .i64 i) (.int .i64 1) = some (.int .i64 ((i + 1 : Nat) : Int)) := by
  rw [bin_add, show (i : Int) + 1 = ((i + 1 : Nat) : Int) by omega, wrap_i64_nat (by omega)]
theorem lss_nat (k : IntKind) (i n : Nat) : binOf .lss (.int k i) (.int k n) = some (.bool (decide (i < n))) := by
  rw [bin_lss]; simp
theorem shr_nat {k j : IntKind} {a s : Nat} (h : s ≤ k.bits) : ∃ y : Nat, y = a / 2 ^ s ∧ binOf .shr (.int k a) (.int j s) = some (.int k y) := ⟨_, rfl, bin_shr_nat h⟩
theorem sub_nat {a b : Nat} (h : b ≤ a) (ha : a < 2 ^ 62) : ∃ y : Nat, y = a - b ∧ binOf .sub (.int .i64 a) (.int .i64 b) = some (.int .i64 y) :=
  ⟨_, rfl, by rw [bin_sub, show (a : Int) - (b : Int) = ((a - b : Nat) : Int) by omega, wrap_i64_nat (by omega)]⟩
theorem add_nat {a b : Nat} (ha : a < 2 ^ 62) (hb : b < 2 ^ 62) : ∃ y : Nat, y = a + b ∧ binOf .add (.int .i64 a) (.int .i64 b) = some (.int .i64 y) :=
  ⟨_, rfl, by rw [bin_add, show (a : Int) + (b : Int) = ((a + b : Nat) : Int) by omega, wrap_i64_nat (by omega)]⟩
section
variable {D : Disp} {G0 : Env} {fns : Nat → Option AFn} {X : Calls'}
theorem wp_join {c rest : ACode} {E : Env} {A : St} {Q : Ex → Env → St → Prop} {I : Env → St → Prop} (h : Wp D G0 fns X c E A (normalK I)) (h2 : ∀ E A, I E A → Wp D G0 fns X rest E A Q) : Wp D G0 fns X (.seq c rest) E A Q := by
  rw [wp_seq]
  refine h.mono fun ex E A h => ?_
  cases ex with
  | normal => exact h2 E A h
  | exit i => exact h.elim
  | ret => exact h.elim
theorem wp_tail {b c c' : ACode} {E : Env} {A : St} {Q : Ex → Env → St → Prop} {I : Env → St → Prop} (h : Wp D G0 fns X (.seq b c) E A (normalK I)) (h2 : ∀ E A, Wp D G0 fns X c E A (normalK I) → Wp D G0 fns X c' E A Q) : Wp D G0 fns X (.seq b c') E A Q := by
  rw [wp_seq] at h ⊢
  refine h.mono fun ex E A h => ?_
  cases ex with
  | normal => exact h2 E A h
  | exit i => exact h.elim
  | ret => exact h.elim
/-- Ways that come together behind four pieces of code. -/
theorem ops_join (I : Env → St → Prop) {l : List AOper} {b c d rest : ACode} {E : Env} {A : St} {Q : Ex → Env → St → Prop} (h : Ops D G0 fns X l E A (seqK D G0 fns X (.seq b (.seq c d)) (normalK I))) (h2 : ∀ E A, I E A → Wp D G0 fns X rest E A Q) :
    Ops D G0 fns X l E A (seqK D G0 fns X (.seq b (.seq c (.seq d rest))) Q) := by
  rw [← wp_region, ← wp_seq] at h ⊢
  exact wp_tail h fun E A h => wp_tail h fun E A h => wp_tail h fun E A h => wp_join h h2
end
section
variable {D : Disp} {G0 : Env} {fns : Nat → Option AFn} {X : Calls'}
/-- Behind a piece of code: I where it goes on, Q where it leaves. -/
def cutK (I : Env → St → Prop) (Q : Ex → Env → St → Prop) (ex : Ex) (E : Env) (A : St) : Prop :=
  match ex with
  | .normal => I E A
  | .exit i => Q (.exit i) E A
  | .ret => Q .ret E A
@[simp] theorem cutK_normal (I : Env → St → Prop) (Q : Ex → Env → St → Prop) (E : Env) (A : St) : cutK I Q .normal E A = I E A := rfl
@[simp] theorem cutK_exit (I : Env → St → Prop) (Q : Ex → Env → St → Prop) (i : Nat) (E : Env) (A : St) : cutK I Q (.exit i) E A = Q (.exit i) E A := rfl
@[simp] theorem cutK_ret (I : Env → St → Prop) (Q : Ex → Env → St → Prop) (E : Env) (A : St) : cutK I Q .ret E A = Q .ret E A := rfl
theorem wp_cut1 {a c : ACode} {E : Env} {A : St} {Q : Ex → Env → St → Prop} (I : Env → St → Prop) (h : Wp D G0 fns X a E A (cutK I Q)) (h2 : ∀ E A, I E A → Wp D G0 fns X c E A Q) : Wp D G0 fns X (.seq a c) E A Q := by
  rw [wp_seq]
  refine h.mono fun ex E A h => ?_
  cases ex with
  | normal => exact h2 E A h
  | exit i => exact h
  | ret => exact h
theorem wp_cut {a b c : ACode} {E : Env} {A : St} {Q : Ex → Env → St → Prop} (I : Env → St → Prop) (h : Wp D G0 fns X (.seq a b) E A (cutK I Q)) (h2 : ∀ E A, I E A → Wp D G0 fns X c E A Q) : Wp D G0 fns X (.seq a (.seq b c)) E A Q := by
  rw [wp_seq] at h ⊢
  refine h.mono fun ex E A h => ?_
  cases ex with
  | normal => exact wp_cut1 I h h2
  | exit i => exact h
  | ret => exact h
theorem wp_cut3 {a b c d : ACode} {E : Env} {A : St} {Q : Ex → Env → St → Prop} (I : Env → St → Prop) (h : Wp D G0 fns X (.seq a (.seq b c)) E A (cutK I Q)) (h2 : ∀ E A, I E A → Wp D G0 fns X d E A Q) : Wp D G0 fns X (.seq a (.seq b (.seq c d))) E A Q := by
  rw [wp_seq] at h ⊢
  refine h.mono fun ex E A h => ?_
  cases ex with
  | normal => exact wp_cut I h h2
  | exit i => exact h
  | ret => exact h
theorem wp_cut4 {a b c d e : ACode} {E : Env} {A : St} {Q : Ex → Env → St → Prop} (I : Env → St → Prop) (h : Wp D G0 fns X (.seq a (.seq b (.seq c d))) E A (cutK I Q)) (h2 : ∀ E A, I E A → Wp D G0 fns X e E A Q) : Wp D G0 fns X (.seq a (.seq b (.seq c (.seq d e)))) E A Q := by
  rw [wp_seq] at h ⊢
  refine h.mono fun ex E A h => ?_
  cases ex with
  | normal => exact wp_cut3 I h h2
  | exit i => exact h
  | ret => exact h
theorem wp_cut5 {a b c d e f : ACode} {E : Env} {A : St} {Q : Ex → Env → St → Prop} (I : Env → St → Prop) (h : Wp D G0 fns X (.seq a (.seq b (.seq c (.seq d e)))) E A (cutK I Q)) (h2 : ∀ E A, I E A → Wp D G0 fns X f E A Q) : Wp D G0 fns X (.seq a (.seq b (.seq c (.seq d (.seq e f))))) E A Q := by
  rw [wp_seq] at h ⊢
  refine h.mono fun ex E A h => ?_
  cases ex with
  | normal => exact wp_cut4 I h h2
  | exit i => exact h
  | ret => exact h
end
end Go.AM
