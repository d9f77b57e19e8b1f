/- The abstract machine: a struct of four cells in a family of its own. -/
import Derived.Test.YteoioahkflcchaaGreatDoorAmOwn
import Derived.Test.YteoioahkflcchaaGreatDoorAmTr
import Derived.Test.YteoioahkflcchaaGreatDoorAmArg
import Derived.Test.YteoioahkflcchaaGreatDoorAmInt
namespace Go.AM
set_option linter.unusedSimpArgs false

/-- A family of four cells. -/
structure B4 (A : St) (f : Nat) (a b c d : AV) : Prop where
  lt : f < A.next
  get : A.get f = some (.cells [a, b, c, d] [⟨0, 0, 4, 1⟩] 1 false)
section
variable {A B : St} {f : Nat} {a b c d : AV}
theorem B4.look (h : B4 A f a b c d) (o : Nat) : A.look (f, 0, o) = some ([a, b, c, d], ⟨0, 0, 4, 1⟩, 1, false) := by
  unfold St.look
  dsimp only
  rw [h.get]
  rfl
theorem B4.ld (h : B4 A f a b c d) : loadV A 4 true (.ptr (some (f, 0, 0))) = some (.agg [a, b, c, d]) := by
  unfold loadV St.cells
  dsimp only
  rw [h.look]
  simp
theorem B4.l0 (h : B4 A f a b c d) : loadV A 1 false (.ptr (some (f, 0, 0))) = some a := by
  unfold loadV St.cells
  dsimp only
  rw [h.look]
  simp
theorem B4.l1 (h : B4 A f a b c d) : loadV A 1 false (.ptr (some (f, 0, 1))) = some b := by
  unfold loadV St.cells
  dsimp only
  rw [h.look]
  simp
theorem B4.l2 (h : B4 A f a b c d) : loadV A 1 false (.ptr (some (f, 0, 2))) = some c := by
  unfold loadV St.cells
  dsimp only
  rw [h.look]
  simp
theorem B4.l3 (h : B4 A f a b c d) : loadV A 1 false (.ptr (some (f, 0, 3))) = some d := by
  unfold loadV St.cells
  dsimp only
  rw [h.look]
  simp
theorem B4.make (A : St) (a b c d : AV) : B4 (A.make [a, b, c, d] 1).2 A.next a b c d := ⟨Nat.lt_succ_self _, get_make A _ 1⟩
theorem B4.ext (h : B4 A f a b c d) (x : A.Ext B) : B4 B f a b c d := ⟨Nat.lt_of_lt_of_le h.lt x.next, by rw [x.get f h.lt]; exact h.get⟩
theorem B4.but (h : B4 A f a b c d) (hn : A.next ≤ B.next) (hg : B.get f = A.get f) : B4 B f a b c d := ⟨Nat.lt_of_lt_of_le h.lt hn, by rw [hg]; exact h.get⟩
/-- All is written anew. -/
theorem B4.st (h : B4 A f a b c d) {a' b' c' d' : AV} (hf : [a', b', c', d'].all AV.flat = true) : ∃ B, storeV A 4 (.ptr (some (f, 0, 0))) (.agg [a', b', c', d']) = some (.bot, B) ∧ B4 B f a' b' c' d' ∧ A.next = B.next ∧ ∀ g, g ≠ f → B.get g = A.get g := by
  refine ⟨A.put f (.cells [a', b', c', d'] [⟨0, 0, 4, 1⟩] 1 false), ?_, ⟨h.lt, by rw [St.get_put, if_pos rfl]⟩, rfl, fun g hg => by rw [St.get_put, if_neg hg]⟩
  unfold storeV
  simp only [AV.cells, St.write, h.look]
  simp [splice, hf]
/-- The second cell is written. -/
theorem B4.st1 (h : B4 A f a b c d) {b' : AV} (hf : b'.flat = true) (hc : b'.cells = [b']) (hb : b'.isBot = false) : ∃ B, storeV A 1 (.ptr (some (f, 0, 1))) b' = some (.bot, B) ∧ B4 B f a b' c d ∧ A.next = B.next ∧ ∀ g, g ≠ f → B.get g = A.get g := by
  refine ⟨A.put f (.cells [a, b', c, d] [⟨0, 0, 4, 1⟩] 1 false), ?_, ⟨h.lt, by rw [St.get_put, if_pos rfl]⟩, rfl, fun g hg => by rw [St.get_put, if_neg hg]⟩
  unfold storeV
  cases b' <;> simp [AV.isBot] at hb <;> simp only [hc, St.write, h.look] <;> simp [splice] <;> simp_all [AV.flat]
@[simp] theorem make4_ld (A : St) (a b c d : AV) : loadV (A.make [a, b, c, d] 1).2 4 true (.ptr (some (A.next, 0, 0))) = some (.agg [a, b, c, d]) := (B4.make A a b c d).ld
@[simp] theorem make4_l0 (A : St) (a b c d : AV) : loadV (A.make [a, b, c, d] 1).2 1 false (.ptr (some (A.next, 0, 0))) = some a := (B4.make A a b c d).l0
@[simp] theorem make4_l1 (A : St) (a b c d : AV) : loadV (A.make [a, b, c, d] 1).2 1 false (.ptr (some (A.next, 0, 1))) = some b := (B4.make A a b c d).l1
@[simp] theorem make4_l2 (A : St) (a b c d : AV) : loadV (A.make [a, b, c, d] 1).2 1 false (.ptr (some (A.next, 0, 2))) = some c := (B4.make A a b c d).l2
@[simp] theorem make4_l3 (A : St) (a b c d : AV) : loadV (A.make [a, b, c, d] 1).2 1 false (.ptr (some (A.next, 0, 3))) = some d := (B4.make A a b c d).l3
end
@[simp] theorem boxV_op (o : OpD) : boxV (.agg o.cells) = some (o.cells, 1, .ptr) := rfl
end Go.AM
/- The abstract machine: numbers, ways that come together. -/
namespace Go.AM
set_option linter.unusedSimpArgs false
set_option linter.unusedVariables false
section
variable {D : Disp} {G0 : Env} {fns : Nat → Option AFn} {X : Calls'}
def normalK (I : Env → St → Prop) (ex : Ex) (E : Env) (A : St) : Prop :=
  match ex with
  | .normal => I E A
  | _ => False
@[simp] theorem normalK_normal (I : Env → St → Prop) (E : Env) (A : St) : normalK I .normal E A = I E A := rfl
/-- Two branches that come together. -/
theorem contC_join (I : Env → St → Prop) {b : Bool} {x y : ACode} {E : Env} {A : St} {Q : Ex → Env → St → Prop} (h1 : b = true → Wp D G0 fns X x E A (normalK I)) (h2 : b = false → Wp D G0 fns X y E A (normalK I)) (h3 : ∀ E A, I E A → Q .normal E A) : contC D G0 fns X (.bool b) x y E A Q := by
  have hq : ∀ ex E A, normalK I ex E A → Q ex E A := fun ex E A h => by
    cases ex with
    | normal => exact h3 E A h
    | exit i => exact h.elim
    | ret => exact h.elim
  cases b with
  | true => exact (h1 rfl).mono hq
  | false => exact (h2 rfl).mono hq
end

theorem add_one63 {i : Nat} (h : i + 1 < 9223372036854775808) : binOf .add (.int .i64 i) (.int .i64 1) = some (.int .i64 ((i + 1 : Nat) : Int)) := by
  rw [bin_add, show (i : Int) + 1 = ((i + 1 : Nat) : Int) by omega, wrap_i64_nat h]
theorem add_one {i : Nat} (h : i < 2 ^ 62) : binOf .add (.int .i64 i) (.int .i64 1) = some (.int .i64 ((i + 1 : Nat) : Int)) := by
  rw [bin_add, show (i : Int) + 1 = ((i + 1 : Nat) : Int) by omega, wrap_i64_nat (by omega)]
theorem lss_nat (k : IntKind) (i n : Nat) : binOf .lss (.int k i) (.int k n) = some (.bool (decide (i < n))) := by
  rw [bin_lss]; simp
theorem shr_nat {k j : IntKind} {a s : Nat} (h : s ≤ k.bits) : ∃ y : Nat, y = a / 2 ^ s ∧ binOf .shr (.int k a) (.int j s) = some (.int k y) := ⟨_, rfl, bin_shr_nat h⟩
theorem sub_nat {a b : Nat} (h : b ≤ a) (ha : a < 2 ^ 62) : ∃ y : Nat, y = a - b ∧ binOf .sub (.int .i64 a) (.int .i64 b) = some (.int .i64 y) :=
  ⟨_, rfl, by rw [bin_sub, show (a : Int) - (b : Int) = ((a - b : Nat) : Int) by omega, wrap_i64_nat (by omega)]⟩
theorem add_nat {a b : Nat} (ha : a < 2 ^ 62) (hb : b < 2 ^ 62) : ∃ y : Nat, y = a + b ∧ binOf .add (.int .i64 a) (.int .i64 b) = some (.int .i64 y) :=
  ⟨_, rfl, by rw [bin_add, show (a : Int) + (b : Int) = ((a + b : Nat) : Int) by omega, wrap_i64_nat (by omega)]⟩
section
variable {D : Disp} {G0 : Env} {fns : Nat → Option AFn} {X : Calls'}
theorem wp_join {c rest : ACode} {E : Env} {A : St} {Q : Ex → Env → St → Prop} {I : Env → St → Prop} (h : Wp D G0 fns X c E A (normalK I)) (h2 : ∀ E A, I E A → Wp D G0 fns X rest E A Q) : Wp D G0 fns X (.seq c rest) E A Q := by
  rw [wp_seq]
  refine h.mono fun ex E A h => ?_
  cases ex with
  | normal => exact h2 E A h
  | exit i => exact h.elim
  | ret => exact h.elim
theorem wp_tail {b c c' : ACode} {E : Env} {A : St} {Q : Ex → Env → St → Prop} {I : Env → St → Prop} (h : Wp D G0 fns X (.seq b c) E A (normalK I)) (h2 : ∀ E A, Wp D G0 fns X c E A (normalK I) → Wp D G0 fns X c' E A Q) : Wp D G0 fns X (.seq b c') E A Q := by
  rw [wp_seq] at h ⊢
  refine h.mono fun ex E A h => ?_
  cases ex with
  | normal => exact h2 E A h
  | exit i => exact h.elim
  | ret => exact h.elim
/-- Ways that come together behind four pieces of code. -/
theorem ops_join (I : Env → St → Prop) {l : List AOper} {b c d rest : ACode} {E : Env} {A : St} {Q : Ex → Env → St → Prop} (h : Ops D G0 fns X l E A (seqK D G0 fns X (.seq b (.seq c d)) (normalK I))) (h2 : ∀ E A, I E A → Wp D G0 fns X rest E A Q) :
    Ops D G0 fns X l E A (seqK D G0 fns X (.seq b (.seq c (.seq d rest))) Q) := by
  rw [← wp_region, ← wp_seq] at h ⊢
  exact wp_tail h fun E A h => wp_tail h fun E A h => wp_tail h fun E A h => wp_join h h2
end
section
variable {D : Disp} {G0 : Env} {fns : Nat → Option AFn} {X : Calls'}
/-- Behind a piece of code: I where it goes on, Q where it leaves. -/
def cutK (I : Env → St → Prop) (Q : Ex → Env → St → Prop) (ex : Ex) (E : Env) (A : St) : Prop :=
  match ex with
  | .normal => I E A
  | .exit i => Q (.exit i) E A
  | .ret => Q .ret E A
@[simp] theorem cutK_normal (I : Env → St → Prop) (Q : Ex → Env → St → Prop) (E : Env) (A : St) : cutK I Q .normal E A = I E A := rfl
@[simp] theorem cutK_exit (I : Env → St → Prop) (Q : Ex → Env → St → Prop) (i : Nat) (E : Env) (A : St) : cutK I Q (.exit i) E A = Q (.exit i) E A := rfl
@[simp] theorem cutK_ret (I : Env → St → Prop) (Q : Ex → Env → St → Prop) (E : Env) (A : St) : cutK I Q .ret E A = Q .ret E A := rfl
theorem wp_cut1 {a c : ACode} {E : Env} {A : St} {Q : Ex → Env → St → Prop} (I : Env → St → Prop) (h : Wp D G0 fns X a E A (cutK I Q)) (h2 : ∀ E A, I E A → Wp D G0 fns X c E A Q) : Wp D G0 fns X (.seq a c) E A Q := by
  rw [wp_seq]
  refine h.mono fun ex E A h => ?_
  cases ex with
  | normal => exact h2 E A h
  | exit i => exact h
  | ret => exact h
theorem wp_cut {a b c : ACode} {E : Env} {A : St} {Q : Ex → Env → St → Prop} (I : Env → St → Prop) (h : Wp D G0 fns X (.seq a b) E A (cutK I Q)) (h2 : ∀ E A, I E A → Wp D G0 fns X c E A Q) : Wp D G0 fns X (.seq a (.seq b c)) E A Q := by
  rw [wp_seq] at h ⊢
  refine h.mono fun ex E A h => ?_
  cases ex with
  | normal => exact wp_cut1 I h h2
  | exit i => exact h
  | ret => exact h
theorem wp_cut3 {a b c d : ACode} {E : Env} {A : St} {Q : Ex → Env → St → Prop} (I : Env → St → Prop) (h : Wp D G0 fns X (.seq a (.seq b c)) E A (cutK I Q)) (h2 : ∀ E A, I E A → Wp D G0 fns X d E A Q) : Wp D G0 fns X (.seq a (.seq b (.seq c d))) E A Q := by
  rw [wp_seq] at h ⊢
  refine h.mono fun ex E A h => ?_
  cases ex with
  | normal => exact wp_cut I h h2
  | exit i => exact h
  | ret => exact h
theorem wp_cut4 {a b c d e : ACode} {E : Env} {A : St} {Q : Ex → Env → St → Prop} (I : Env → St → Prop) (h : Wp D G0 fns X (.seq a (.seq b (.seq c d))) E A (cutK I Q)) (h2 : ∀ E A, I E A → Wp D G0 fns X e E A Q) : Wp D G0 fns X (.seq a (.seq b (.seq c (.seq d e)))) E A Q := by
  rw [wp_seq] at h ⊢
  refine h.mono fun ex E A h => ?_
  cases ex with
  | normal => exact wp_cut3 I h h2
  | exit i => exact h
  | ret => exact h
theorem wp_cut5 {a b c d e f : ACode} {E : Env} {A : St} {Q : Ex → Env → St → Prop} (I : Env → St → Prop) (h : Wp D G0 fns X (.seq a (.seq b (.seq c (.seq d e)))) E A (cutK I Q)) (h2 : ∀ E A, I E A → Wp D G0 fns X f E A Q) : Wp D G0 fns X (.seq a (.seq b (.seq c (.seq d (.seq e f))))) E A Q := by
  rw [wp_seq] at h ⊢
  refine h.mono fun ex E A h => ?_
  cases ex with
  | normal => exact wp_cut4 I h h2
  | exit i => exact h
  | ret => exact h
end
end Go.AM
/- The abstract machine: slices of operations; calls of function values. -/
namespace Go.AM
set_option linter.unusedSimpArgs false
set_option linter.unusedVariables false
section
variable {D : Disp} {G0 : Env} {fns : Nat → Option AFn} {X : Calls'}
theorem ops_callv {f : FuncId} {first captured : List AV} {x : Operand} (args : List Operand) (d : Option Nat) (l : List AOper) {E : Env} (A : St) (Q : Ex → Env → St → Prop) (hx : ev E x = .func (.func f) first captured) (hk : allKnown (first ++ (evs E args ++ captured)) = true) :
    Ops D G0 fns X (⟨d, .callv x args, none⟩ :: l) E A Q = Ev D G0 fns X f (first ++ (evs E args ++ captured)) A (contR D G0 fns X d l E Q) := by
  refine propext ⟨fun ⟨k, E', A', h1, h2⟩ => ?_, fun h => WpO.call rfl rfl (by simp only [calleeOf, hx]) hk h⟩
  simp only [runOps, wantedA, opL_none (late_none (op := .callv x args) (by simp [AOp.cls]) _ _), opOf, AOp.cls, calleeOf, hx, hk, cond_true] at h1
  split at h1
  · rename_i v B hv
    exact ⟨k, v, B, hv, k, E', A', h1, h2⟩
  · cases h1
end
theorem opsCells_append : ∀ (l r : List OpD), opsCells (l ++ r) = opsCells l ++ opsCells r
  | [], r => rfl
  | o :: l, r => by simp only [List.cons_append, opsCells, opsCells_append l r, List.append_assoc]
theorem opsCells_at : ∀ {l : List OpD} {j : Nat} {o : OpD}, l[j]? = some o → ((opsCells l).drop (j * 4)).take 4 = o.cells
  | [], _, _, h => by simp at h
  | x :: l, 0, o, h => by
    simp at h
    subst h
    simp [opsCells, OpD.cells]
  | x :: l, j + 1, o, h => by
    simp only [List.getElem?_cons_succ] at h
    simp only [opsCells]
    rw [show (j + 1) * 4 = x.cells.length + j * 4 by simp [OpD.cells]; omega, List.drop_length_add_append]
    exact opsCells_at h
theorem opsCells_flat : ∀ l : List OpD, (opsCells l).all AV.flat = true
  | [] => rfl
  | o :: l => by simp only [opsCells, List.all_append, opsCells_flat l, Bool.and_true]; rfl
section
variable {A : St}
theorem Sl.ops_len {s : AV} {l : List OpD} (h : Sl A 4 s (opsCells l)) : s.slen = l.length := by
  have := h.length
  rw [opsCells_length] at this
  omega
theorem Sl.ops_lenV {s : AV} {l : List OpD} (h : Sl A 4 s (opsCells l)) : AM.lenV s = some (.int .i64 l.length) := by rw [h.lenV, h.ops_len]
theorem Sl.op_at {s : AV} {l : List OpD} (h : Sl A 4 s (opsCells l)) {j : Nat} {o : OpD} (hj : l[j]? = some o) (k : IntKind) :
    ∃ p, atSliceV 4 s (.int k j) = some (.ptr (some p)) ∧ loadV A 4 true (.ptr (some p)) = some (.agg o.cells) := by
  have hlt := (List.getElem?_eq_some_iff.1 hj).1
  obtain ⟨p, h1, h2⟩ := h.at (k := k) (j := j) (by rw [h.ops_len]; exact hlt)
  refine ⟨p, h1, ?_⟩
  rw [opsCells_at hj] at h2
  simp [loadV, h2]
theorem own_op (A : St) (o : OpD) : Own A.next (A.make o.cells 4).2 4 (.slice (some (A.next, 0, 0)) 0 1 1 0) (opsCells [o]) := by
  have := own_make_exact A (cs := o.cells) (sz := 4) (n := 1) (by simp [OpD.cells]) (Nat.le_refl _) (len := 1) (Nat.le_refl _)
  rw [List.take_of_length_le (by simp [OpD.cells])] at this
  simpa [opsCells] using this
/-- One more operation at the end of one's own. -/
theorem append_op {A0 A : St} {s : AV} {l : List OpD} (h : Own A0.next A 4 s (opsCells l)) (x : A0.Ext A) (hl : l.length < 1000000) (o : OpD) :
    ∃ s' B, appendV (A.make o.cells 4).2 false 4 40 s (.slice (some (A.next, 0, 0)) 0 1 1 0) = some (s', B) ∧ Own A0.next B 4 s' (opsCells (l ++ [o])) ∧ A0.Ext B := by
  have hx := ext_make A o.cells 4
  have h1 := h.ext hx
  have h2 := (own_op A o).sl
  have hn : s.slen = l.length := h.sl.ops_len
  obtain ⟨s', B, g1, g2, g3, g4, g5⟩ := appendV_own (bytes := 40) h1 h2 (Nat.le_trans x.next hx.next) (by decide) (opsCells_flat _) (by rw [hn, slen_slice]; omega) (by rw [hn, slen_slice]; omega)
  exact ⟨s', B, g1, by rw [opsCells_append]; exact g3, g4.ext (x.trans hx) h1⟩
end
end Go.AM
