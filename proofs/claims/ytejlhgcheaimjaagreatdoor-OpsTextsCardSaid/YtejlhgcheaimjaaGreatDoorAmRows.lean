/- The abstract machine: a struct of four cells in a family of its own. -/
import Derived.Test.YtejlhgcheaimjaaGreatDoorAmOwn
import Derived.Test.YtejlhgcheaimjaaGreatDoorAmTr
import Derived.Test.YtejlhgcheaimjaaGreatDoorAmArgB
import Derived.Test.YtejlhgcheaimjaaGreatDoorAmInt
namespace Go.AM
set_option linter.unusedSimpArgs false

/-- A family of four cells. -/
structure B4 (A : St) (f : Nat) (a b c d : AV) : Prop where
  lt : f < A.next
  get : A.get f = some (.cells [a, b, c, d] [⟨0, 0, 4, 1⟩] 1 false)
section
variable {A B : St} {f : Nat} {a b c d : AV}
theorem B4.look (h : B4 A f a b c d) (o : Nat) : A.look (f, 0, o) = some ([a, b, c, d], ⟨0, 0, 4, 1⟩, 1, false) := by
  unfold St.look
  dsimp only
  rw [h.get]
  rfl
theorem B4.ld (h : B4 A f a b c d) : loadV A 4 true (.ptr (some (f, 0, 0))) = some (.agg [a, b, c, d]) := by
  unfold loadV St.cells
  dsimp only
  rw [h.look]
  simp
theorem B4.l0 (h : B4 A f a b c d) : loadV A 1 false (.ptr (some (f, 0, 0))) = some a := by
  unfold loadV St.cells
  dsimp only
  rw [h.look]
  simp
theorem B4.l1 (h : B4 A f a b c d) : loadV A 1 false (.ptr (some (f, 0, 1))) = some b := by
  unfold loadV St.cells
  dsimp only
  rw [h.look]
  simp
theorem B4.l2 (h : B4 A f a b c d) : loadV A 1 false (.ptr (some (f, 0, 2))) = some c := by
  unfold loadV St.cells
  dsimp only
  rw [h.look]
  simp
theorem B4.l3 (h : B4 A f a b c d) : loadV A 1 false (.ptr (some (f, 0, 3))) = some d := by
  unfold loadV St.cells
  dsimp only
  rw [h.look]
  simp
theorem B4.make (A : St) (a b c d : AV) : B4 (A.make [a, b, c, d] 1).2 A.next a b c d := ⟨Nat.lt_succ_self _, get_make A _ 1⟩
theorem B4.ext (h : B4 A f a b c d) (x : A.Ext B) : B4 B f a b c d := ⟨Nat.lt_of_lt_of_le h.lt x.next, by rw [x.get f h.lt]; exact h.get⟩
theorem B4.but (h : B4 A f a b c d) (hn : A.next ≤ B.next) (hg : B.get f = A.get f) : B4 B f a b c d := ⟨Nat.lt_of_lt_of_le h.lt hn, by rw [hg]; exact h.get⟩
/-- All is written anew. -/
theorem B4.st (h : B4 A f a b c d) {a' b' c' d' : AV} (hf : [a', b', c', d'].all AV.flat = true) : ∃ B, storeV A 4 (.ptr (some (f, 0, 0))) (.agg [a', b', c', d']) = some (.bot, B) ∧ B4 B f a' b' c' d' ∧ A.next = B.next ∧ ∀ g, g ≠ f → B.get g = A.get g := by
  refine ⟨A.put f (.cells [a', b', c', d'] [⟨0, 0, 4, 1⟩] 1 false), ?_, ⟨h.lt, by rw [St.get_put, if_pos rfl]⟩, rfl, fun g hg => by rw [St.get_put, if_neg hg]⟩
  unfold storeV
  simp only [AV.cells, St.write, h.look]
  simp [splice, hf]
/-- The second cell is written. -/
theorem B4.st1 (h : B4 A f a b c d) {b' : AV} (hf : b'.flat = true) (hc : b'.cells = [b']) (hb : b'.isBot = false) : ∃ B, storeV A 1 (.ptr (some (f, 0, 1))) b' = some (.bot, B) ∧ B4 B f a b' c d ∧ A.next = B.next ∧ ∀ g, g ≠ f → B.get g = A.get g := by
  refine ⟨A.put f (.cells [a, b', c, d] [⟨0, 0, 4, 1⟩] 1 false), ?_, ⟨h.lt, by rw [St.get_put, if_pos rfl]⟩, rfl, fun g hg => by rw [St.get_put, if_neg hg]⟩
  unfold storeV
  cases b' <;> simp [AV.isBot] at hb <;> simp only [hc, St.write, h.look] <;> simp [splice] <;> simp_all [AV.flat]
@[simp] theorem make4_ld (A : St) (a b c d : AV) : loadV (A.make [a, b, c, d] 1).2 4 true (.ptr (some (A.next, 0, 0))) = some (.agg [a, b, c, d]) := (B4.make A a b c d).ld
@[simp] theorem make4_l0 (A : St) (a b c d : AV) : loadV (A.make [a, b, c, d] 1).2 1 false (.ptr (some (A.next, 0, 0))) = some a := (B4.make A a b c d).l0
@[simp] theorem make4_l1 (A : St) (a b c d : AV) : loadV (A.make [a, b, c, d] 1).2 1 false (.ptr (some (A.next, 0, 1))) = some b := (B4.make A a b c d).l1
@[simp] theorem make4_l2 (A : St) (a b c d : AV) : loadV (A.make [a, b, c, d] 1).2 1 false (.ptr (some (A.next, 0, 2))) = some c := (B4.make A a b c d).l2
@[simp] theorem make4_l3 (A : St) (a b c d : AV) : loadV (A.make [a, b, c, d] 1).2 1 false (.ptr (some (A.next, 0, 3))) = some d := (B4.make A a b c d).l3
end
@[simp] theorem boxV_op (o : OpD) : boxV (.agg o.cells) = some (o.cells, 1, .ptr) := rfl
end Go.AM
/- The abstract machine: numbers, ways that come together. -/
namespace Go.AM
set_option linter.unusedSimpArgs false
set_option linter.unusedVariables false
section
variable {D : Disp} {G0 : Env} {fns : Nat → Option AFn} {X : Calls'}
def normalK (I : Env → St → Prop) (ex : Ex) (E : Env) (A : St) : Prop :=
  match ex with
  | .normal => I E A
  | _ => False
@[simp] theorem normalK_normal (I : Env → St → Prop) (E : Env) (A : St) : normalK I .normal E A = I E A := rfl
/-- Two branches that come together. -/
theorem contC_join (I : Env → St → Prop) {b : Bool} {x y : ACode} {E : Env} {A : St} {Q : Ex → Env → St → Prop} (h1 : b = true → Wp D G0 fns X x E A (normalK I)) (h2 : b = false → Wp D G0 fns X y E A (normalK I)) (h3 : ∀ E A, I E A → Q .normal E A) : contC D G0 fns X (.bool b) x y E A Q := by
  have hq : ∀ ex E A, normalK I ex E A → Q ex E A := fun ex E A h => by
    cases ex with
    | normal => exact h3 E A h
    | exit i => exact h.elim
    | ret => exact h.elim
  cases b with
  | true => exact (h1 rfl).mono hq
  | false => exact (h2 rfl).mono hq
end

theorem add_one63 {i : Nat} (h : i + 1 < 9223372036854775808) : binOf .add (.int .i64 i) (.int .i64 1) = some (.int .i64 ((i + 1 : Nat) : Int)) := by
  rw [bin_add, show (i : Int) + 1 = ((i + 1 : Nat) : Int) by omega, wrap_i64_nat h]
theorem add_one {i : Nat} (h : i < 2 ^ 62) : binOf .add (.int .i64 i) (.int .i64 1) = some (.int .i64 ((i + 1 : Nat) : Int)) := by
  rw [bin_add, show (i : Int) + 1 = ((i + 1 : Nat) : Int) by omega, wrap_i64_nat (by omega)]
theorem lss_nat (k : IntKind) (i n : Nat) : binOf .lss (.int k i) (.int k n) = some (.bool (decide (i < n))) := by
  rw [bin_lss]; simp
theorem shr_nat {k j : IntKind} {a s : Nat} (h : s ≤ k.bits) : ∃ y : Nat, y = a / 2 ^ s ∧ binOf .shr (.int k a) (.int j s) = some (.int k y) := ⟨_, rfl, bin_shr_nat h⟩
theorem sub_nat {a b : Nat} (h : b ≤ a) (ha : a < 2 ^ 62) : ∃ y : Nat, y = a - b ∧ binOf .sub (.int .i64 a) (.int .i64 b) = some (.int .i64 y) :=
  ⟨_, rfl, by rw [bin_sub, show (a : Int) - (b : Int) = ((a - b : Nat) : Int) by omega, wrap_i64_nat (by omega)]⟩
theorem add_nat {a b : Nat} (ha : a < 2 ^ 62) (hb : b < 2 ^ 62) : ∃ y : Nat, y = a + b ∧ binOf .add (.int .i64 a) (.int .i64 b) = some (.int .i64 y) :=
  ⟨_, rfl, by rw [bin_add, show (a : Int) + (b : Int) = ((a + b : Nat) : Int) by omega, wrap_i64_nat (by omega)]⟩
section
variable {D : Disp} {G0 : Env} {fns : Nat → Option AFn} {X : Calls'}
theorem wp_join {c rest : ACode} {E : Env} {A : St} {Q : Ex → Env → St → Prop} {I : Env → St → Prop} (h : Wp D G0 fns X c E A (normalK I)) (h2 : ∀ E A, I E A → Wp D G0 fns X rest E A Q) : Wp D G0 fns X (.seq c rest) E A Q := by
  rw [wp_seq]
  refine h.mono fun ex E A h => ?_
  cases ex with
  | normal => exact h2 E A h
  | exit i => exact h.elim
  | ret => exact h.elim
theorem wp_tail {b c c' : ACode} {E : Env} {A : St} {Q : Ex → Env → St → Prop} {I : Env → St → Prop} (h : Wp D G0 fns X (.seq b c) E A (normalK I)) (h2 : ∀ E A, Wp D G0 fns X c E A (normalK I) → Wp D G0 fns X c' E A Q) : Wp D G0 fns X (.seq b c') E A Q := by
  rw [wp_seq] at h ⊢
  refine h.mono fun ex E A h => ?_
  cases ex with
  | normal => exact h2 E A h
  | exit i => exact h.elim
  | ret => exact h.elim
/-- Ways that come together behind four pieces of code. -/
theorem ops_join (I : Env → St → Prop) {l : List AOper} {b c d rest : ACode} {E : Env} {A : St} {Q : Ex → Env → St → Prop} (h : Ops D G0 fns X l E A (seqK D G0 fns X (.seq b (.seq c d)) (normalK I))) (h2 : ∀ E A, I E A → Wp D G0 fns X rest E A Q) :
    Ops D G0 fns X l E A (seqK D G0 fns X (.seq b (.seq c (.seq d rest))) Q) := by
  rw [← wp_region, ← wp_seq] at h ⊢
  exact wp_tail h fun E A h => wp_tail h fun E A h => wp_tail h fun E A h => wp_join h h2
end
section
variable {D : Disp} {G0 : Env} {fns : Nat → Option AFn} {X : Calls'}
/-- Behind a piece of code: I where it goes on, Q where it leaves. -/
def cutK (I : Env → St → Prop) (Q : Ex → Env → St → Prop) (ex : Ex) (E : Env) (A : St) : Prop :=
  match ex with
  | .normal => I E A
  | .exit i => Q (.exit i) E A
  | .ret => Q .ret E A
@[simp] theorem cutK_normal (I : Env → St → Prop) (Q : Ex → Env → St → Prop) (E : Env) (A : St) : cutK I Q .normal E A = I E A := rfl
@[simp] theorem cutK_exit (I : Env → St → Prop) (Q : Ex → Env → St → Prop) (i : Nat) (E : Env) (A : St) : cutK I Q (.exit i) E A = Q (.exit i) E A := rfl
@[simp] theorem cutK_ret (I : Env → St → Prop) (Q : Ex → Env → St → Prop) (E : Env) (A : St) : cutK I Q .ret E A = Q .ret E A := rfl
theorem wp_cut1 {a c : ACode} {E : Env} {A : St} {Q : Ex → Env → St → Prop} (I : Env → St → Prop) (h : Wp D G0 fns X a E A (cutK I Q)) (h2 : ∀ E A, I E A → Wp D G0 fns X c E A Q) : Wp D G0 fns X (.seq a c) E A Q := by
  rw [wp_seq]
  refine h.mono fun ex E A h => ?_
  cases ex with
  | normal => exact h2 E A h
  | exit i => exact h
  | ret => exact h
theorem wp_cut {a b c : ACode} {E : Env} {A : St} {Q : Ex → Env → St → Prop} (I : Env → St → Prop) (h : Wp D G0 fns X (.seq a b) E A (cutK I Q)) (h2 : ∀ E A, I E A → Wp D G0 fns X c E A Q) : Wp D G0 fns X (.seq a (.seq b c)) E A Q := by
  rw [wp_seq] at h ⊢
  refine h.mono fun ex E A h => ?_
  cases ex with
  | normal => exact wp_cut1 I h h2
  | exit i => exact h
  | ret => exact h
theorem wp_cut3 {a b c d : ACode} {E : Env} {A : St} {Q : Ex → Env → St → Prop} (I : Env → St → Prop) (h : Wp D G0 fns X (.seq a (.seq b c)) E A (cutK I Q)) (h2 : ∀ E A, I E A → Wp D G0 fns X d E A Q) : Wp D G0 fns X (.seq a (.seq b (.seq c d))) E A Q := by
  rw [wp_seq] at h ⊢
  refine h.mono fun ex E A h => ?_
  cases ex with
  | normal => exact wp_cut I h h2
  | exit i => exact h
  | ret => exact h
theorem wp_cut4 {a b c d e : ACode} {E : Env} {A : St} {Q : Ex → Env → St → Prop} (I : Env → St → Prop) (h : Wp D G0 fns X (.seq a (.seq b (.seq c d))) E A (cutK I Q)) (h2 : ∀ E A, I E A → Wp D G0 fns X e E A Q) : Wp D G0 fns X (.seq a (.seq b (.seq c (.seq d e)))) E A Q := by
  rw [wp_seq] at h ⊢
  refine h.mono fun ex E A h => ?_
  cases ex with
  | normal => exact wp_cut3 I h h2
  | exit i => exact h
  | ret => exact h
theorem wp_cut5 {a b c d e f : ACode} {E : Env} {A : St} {Q : Ex → Env → St → Prop} (I : Env → St → Prop) (h : Wp D G0 fns X (.seq a (.seq b (.seq c (.seq d e)))) E A (cutK I Q)) (h2 : ∀ E A, I E A → Wp D G0 fns X f E A Q) : Wp D G0 fns X (.seq a (.seq b (.seq c (.seq d (.seq e f))))) E A Q := by
  rw [wp_seq] at h ⊢
  refine h.mono fun ex E A h => ?_
  cases ex with
  | normal => exact wp_cut4 I h h2
  | exit i => exact h
  | ret => exact h
end
end Go.AM
/- The abstract machine: slices of operations; calls of function values. -/
namespace Go.AM
set_option linter.unusedSimpArgs false
set_option linter.unusedVariables false
section
variable {D : Disp} {G0 : Env} {fns : Nat → Option AFn} {X : Calls'}
theorem ops_callv {f : FuncId} {first captured : List AV} {x : Operand} (args : List Operand) (d : Option Nat) (l : List AOper) {E : Env} (A : St) (Q : Ex → Env → St → Prop) (hx : ev E x = .func (.func f) first captured) (hk : allKnown (first ++ (evs E args ++ captured)) = true) (hy : Nat.beq f yieldId = false := by decide) :
    Ops D G0 fns X (⟨d, .callv x args, none⟩ :: l) E A Q = Ev D G0 fns X f (first ++ (evs E args ++ captured)) A (contR D G0 fns X d l E Q) := by
  refine propext ⟨fun ⟨k, E', A', h1, h2⟩ => ?_, fun h => WpO.call rfl rfl (by simp only [calleeOf, hx, hy, cond_false]) hk h⟩
  simp only [runOps, wantedA, opL_none (late_none (op := .callv x args) (by simp [AOp.cls]) _ _), opOf, AOp.cls, calleeOf, hx, hy, cond_false, hk, cond_true] at h1
  split at h1
  · rename_i v B hv
    exact ⟨k, v, B, hv, k, E', A', h1, h2⟩
  · cases h1
end
theorem opsCells_append : ∀ (l r : List OpD), opsCells (l ++ r) = opsCells l ++ opsCells r
  | [], r => rfl
  | o :: l, r => by simp only [List.cons_append, opsCells, opsCells_append l r, List.append_assoc]
theorem opsCells_at : ∀ {l : List OpD} {j : Nat} {o : OpD}, l[j]? = some o → ((opsCells l).drop (j * 4)).take 4 = o.cells
  | [], _, _, h => by simp at h
  | x :: l, 0, o, h => by
    simp at h
    subst h
    simp [opsCells, OpD.cells]
  | x :: l, j + 1, o, h => by
    simp only [List.getElem?_cons_succ] at h
    simp only [opsCells]
    rw [show (j + 1) * 4 = x.cells.length + j * 4 by simp [OpD.cells]; omega, List.drop_length_add_append]
    exact opsCells_at h
theorem opsCells_flat : ∀ l : List OpD, (opsCells l).all AV.flat = true
  | [] => rfl
  | o :: l => by simp only [opsCells, List.all_append, opsCells_flat l, Bool.and_true]; rfl
section
variable {A : St}
theorem Sl.ops_len {s : AV} {l : List OpD} (h : Sl A 4 s (opsCells l)) : s.slen = l.length := by
  have := h.length
  rw [opsCells_length] at this
  omega
theorem Sl.ops_lenV {s : AV} {l : List OpD} (h : Sl A 4 s (opsCells l)) : AM.lenV s = some (.int .i64 l.length) := by rw [h.lenV, h.ops_len]
theorem Sl.op_at {s : AV} {l : List OpD} (h : Sl A 4 s (opsCells l)) {j : Nat} {o : OpD} (hj : l[j]? = some o) (k : IntKind) :
    ∃ p, atSliceV 4 s (.int k j) = some (.ptr (some p)) ∧ loadV A 4 true (.ptr (some p)) = some (.agg o.cells) := by
  have hlt := (List.getElem?_eq_some_iff.1 hj).1
  obtain ⟨p, h1, h2⟩ := h.at (k := k) (j := j) (by rw [h.ops_len]; exact hlt)
  refine ⟨p, h1, ?_⟩
  rw [opsCells_at hj] at h2
  simp [loadV, h2]
theorem own_op (A : St) (o : OpD) : Own A.next (A.make o.cells 4).2 4 (.slice (some (A.next, 0, 0)) 0 1 1 0) (opsCells [o]) := by
  have := own_make_exact A (cs := o.cells) (sz := 4) (n := 1) (by simp [OpD.cells]) (Nat.le_refl _) (len := 1) (Nat.le_refl _)
  rw [List.take_of_length_le (by simp [OpD.cells])] at this
  simpa [opsCells] using this
/-- One more operation at the end of one's own. -/
theorem append_op {A0 A : St} {s : AV} {l : List OpD} (h : Own A0.next A 4 s (opsCells l)) (x : A0.Ext A) (hl : l.length < 1000000) (o : OpD) :
    ∃ s' B, appendV (A.make o.cells 4).2 false 4 40 s (.slice (some (A.next, 0, 0)) 0 1 1 0) = some (s', B) ∧ Own A0.next B 4 s' (opsCells (l ++ [o])) ∧ A0.Ext B := by
  have hx := ext_make A o.cells 4
  have h1 := h.ext hx
  have h2 := (own_op A o).sl
  have hn : s.slen = l.length := h.sl.ops_len
  obtain ⟨s', B, g1, g2, g3, g4, g5⟩ := appendV_own (bytes := 40) h1 h2 (Nat.le_trans x.next hx.next) (by decide) (opsCells_flat _) (by rw [hn, slen_slice]; omega) (by rw [hn, slen_slice]; omega)
  exact ⟨s', B, g1, by rw [opsCells_append]; exact g3, g4.ext (x.trans hx) h1⟩
end
end Go.AM
/- The abstract machine: structs in families of their own, slices of structs, of any number of cells. -/
namespace Go.AM
set_option linter.unusedSimpArgs false
set_option linter.unusedVariables false

/-- A family with the cells of a struct. -/
structure Bx (A : St) (f : Nat) (cs : List AV) : Prop where
  lt : f < A.next
  get : A.get f = some (.cells cs [⟨0, 0, cs.length, 1⟩] 1 false)
section
variable {A B : St} {f : Nat} {cs : List AV}
theorem Bx.look (h : Bx A f cs) (o : Nat) : A.look (f, 0, o) = some (cs, ⟨0, 0, cs.length, 1⟩, 1, false) := by
  unfold St.look
  dsimp only
  rw [h.get]
  rfl
theorem Bx.ld {n : Nat} (h : Bx A f cs) (hn : cs.length = n) : loadV A n true (.ptr (some (f, 0, 0))) = some (.agg cs) := by
  subst hn
  unfold loadV St.cells
  dsimp only
  rw [h.look]
  simp
theorem Bx.at (h : Bx A f cs) {o : Nat} {v : AV} (hv : cs[o]? = some v) : loadV A 1 false (.ptr (some (f, 0, o))) = some v := by
  have hlt := (List.getElem?_eq_some_iff.1 hv).1
  have hd : (cs.drop o).take 1 = [v] := by
    rw [List.drop_eq_getElem_cons hlt, List.take_succ_cons, (List.getElem?_eq_some_iff.1 hv).2]
    rfl
  unfold loadV St.cells
  dsimp only
  rw [h.look]
  have hle : o + 1 ≤ cs.length := hlt
  simp [hd, hle]
theorem Bx.make (A : St) (cs : List AV) : Bx (A.make cs 1).2 A.next cs := ⟨Nat.lt_succ_self _, get_make A _ 1⟩
theorem Bx.ext (h : Bx A f cs) (x : A.Ext B) : Bx B f cs := ⟨Nat.lt_of_lt_of_le h.lt x.next, by rw [x.get f h.lt]; exact h.get⟩
theorem Bx.st {n : Nat} (h : Bx A f cs) (hn : cs.length = n) {ds : List AV} (hl : ds.length = n) (hf : ds.all AV.flat = true) : ∃ B, storeV A n (.ptr (some (f, 0, 0))) (.agg ds) = some (.bot, B) ∧ Bx B f ds ∧ A.next = B.next ∧ ∀ g, g ≠ f → B.get g = A.get g := by
  refine ⟨A.put f (.cells ds [⟨0, 0, ds.length, 1⟩] 1 false), ?_, ⟨h.lt, by rw [St.get_put, if_pos rfl]⟩, rfl, fun g hg => by rw [St.get_put, if_neg hg]⟩
  subst hn
  have hsp : splice cs 0 ds = ds := by
    unfold splice
    simp [hl]
  unfold storeV
  simp only [AV.cells, St.write, h.look]
  simp [hsp, hf, hl]
theorem Bx.st1 (h : Bx A f cs) {o : Nat} (ho : o < cs.length) {v : AV} (hf : v.flat = true) (hc : v.cells = [v]) (hb : v.isBot = false) : ∃ B, storeV A 1 (.ptr (some (f, 0, o))) v = some (.bot, B) ∧ Bx B f (cs.set o v) ∧ A.next = B.next ∧ ∀ g, g ≠ f → B.get g = A.get g := by
  have hle : o + 1 ≤ cs.length := ho
  have hsp : splice cs o [v] = cs.set o v := by
    unfold splice
    rw [List.set_eq_take_append_cons_drop, if_pos ho]
    simp
  refine ⟨A.put f (.cells (cs.set o v) [⟨0, 0, cs.length, 1⟩] 1 false), ?_, ⟨h.lt, by rw [St.get_put, if_pos rfl, List.length_set]⟩, rfl, fun g hg => by rw [St.get_put, if_neg hg]⟩
  unfold storeV
  cases v <;> simp [AV.isBot] at hb <;> simp only [hc, St.write, h.look] <;> simp_all [AV.flat]
/-- A variable of a loop: what is stored into it. -/
theorem Bx.slot (A : St) (zs : List AV) {ds : List AV} {n : Nat} (hn : zs.length = n) (hl : ds.length = n) (hf : ds.all AV.flat = true) : ∃ B, storeV (A.make zs 1).2 n (.ptr (some (A.next, 0, 0))) (.agg ds) = some (.bot, B) ∧ Bx B A.next ds ∧ A.Ext B := by
  have x2 := ext_make A zs 1
  obtain ⟨B, k1, k2, k3, k4⟩ := (Bx.make A zs).st hn hl hf
  exact ⟨B, k1, k2, ⟨by rw [← k3]; exact x2.next, fun f hf => by rw [k4 f (by omega)]; exact x2.get f hf⟩⟩
end

theorem Sl.boxV {A : St} {sz : Nat} {s : AV} {cs : List AV} (h : Sl A sz s cs) : AM.boxV s = some ([s], 1, .ptr) := by cases h <;> rfl
/-- A field of what lies at a place. -/
theorem cells_field {A : St} {p : Pl} {n : Nat} {cs : List AV} (h : A.cells p n = some cs) {o : Nat} {v : AV} (hv : cs[o]? = some v) : loadV A 1 false (AV.addr p o) = some v := by
  unfold St.cells at h
  split at h
  · rename_i ds x nv ro hl
    split at h
    · rename_i hc
      cases h
      have hlt := (List.getElem?_eq_some_iff.1 hv).1
      simp only [List.length_take, List.length_drop] at hlt
      have hg : (ds.drop (p.2.2 + o)).take 1 = [v] := by
        rw [List.getElem?_take_of_lt (by omega), List.getElem?_drop] at hv
        have h3 := List.getElem?_eq_some_iff.1 hv
        rw [List.drop_eq_getElem_cons h3.1, List.take_succ_cons, h3.2]
        rfl
      have hlk : A.look (p.1, p.2.1, p.2.2 + o) = A.look p := rfl
      unfold loadV AV.addr St.cells
      dsimp only
      rw [hlk, hl]
      dsimp only
      rw [if_pos ⟨by omega, by omega, by omega⟩]
      simp only [hg]
      rfl
    · cases h
  · cases h
theorem Sl.op_at_f {A : St} {s : AV} {l : List OpD} (h : Sl A 4 s (opsCells l)) {j : Nat} {o : OpD} (hj : l[j]? = some o) (k : IntKind) :
    ∃ p, atSliceV 4 s (.int k j) = some (.ptr (some p)) ∧ loadV A 4 true (.ptr (some p)) = some (.agg o.cells) ∧ loadV A 1 false (AV.addr p 0) = some (.int .i64 o.kind) ∧ loadV A 1 false (AV.addr p 1) = some (.str o.key) ∧ loadV A 1 false (AV.addr p 2) = some (.int .i64 o.n) ∧ loadV A 1 false (AV.addr p 3) = some (.int .i64 o.lo) := by
  have hlt := (List.getElem?_eq_some_iff.1 hj).1
  obtain ⟨p, h1, h2⟩ := h.at (k := k) (j := j) (by rw [h.ops_len]; exact hlt)
  rw [opsCells_at hj] at h2
  exact ⟨p, h1, by simp [loadV, h2], cells_field h2 rfl, cells_field h2 rfl, cells_field h2 rfl, cells_field h2 rfl⟩
/-- How things lie in cells. -/
structure Rec (α : Type) (n : Nat) where
  cells : α → List AV
  len : ∀ x, (cells x).length = n
  flat : ∀ x, (cells x).all AV.flat = true
  pos : n ≠ 0
section
variable {α : Type} {n : Nat} {R : Rec α n}
def Rec.all (R : Rec α n) : List α → List AV
  | [] => []
  | o :: l => R.cells o ++ R.all l
theorem Rec.append (R : Rec α n) : ∀ (l r : List α), R.all (l ++ r) = R.all l ++ R.all r
  | [], r => rfl
  | o :: l, r => by simp only [List.cons_append, Rec.all, R.append l r, List.append_assoc]
theorem Rec.length (R : Rec α n) : ∀ l : List α, (R.all l).length = l.length * n
  | [] => by simp [Rec.all]
  | o :: l => by simp only [Rec.all, List.length_append, R.length l, R.len, List.length_cons, Nat.add_mul]; omega
theorem Rec.take (R : Rec α n) : ∀ (l : List α) (k : Nat), (R.all l).take (k * n) = R.all (l.take k)
  | [], k => by simp [Rec.all]
  | o :: l, 0 => by simp [Rec.all]
  | o :: l, k + 1 => by
    simp only [Rec.all, List.take_succ_cons]
    rw [show (k + 1) * n = (R.cells o).length + k * n by rw [R.len, Nat.add_mul]; omega, List.take_length_add_append, R.take l k]
theorem Rec.at (R : Rec α n) : ∀ {l : List α} {j : Nat} {o : α}, l[j]? = some o → ((R.all l).drop (j * n)).take n = R.cells o
  | [], _, _, h => by simp at h
  | x :: l, 0, o, h => by
    simp at h
    subst h
    simp only [Rec.all, Nat.zero_mul, List.drop_zero]
    rw [List.take_append_of_le_length (by rw [R.len]; exact Nat.le_refl _), List.take_of_length_le (by rw [R.len]; exact Nat.le_refl _)]
  | x :: l, j + 1, o, h => by
    simp only [List.getElem?_cons_succ] at h
    simp only [Rec.all]
    rw [show (j + 1) * n = (R.cells x).length + j * n by rw [R.len, Nat.add_mul]; omega, List.drop_length_add_append]
    exact R.at h
theorem Rec.allFlat (R : Rec α n) : ∀ l : List α, (R.all l).all AV.flat = true
  | [] => rfl
  | o :: l => by simp only [Rec.all, List.all_append, R.allFlat l, Bool.and_true]; exact R.flat o
variable {A : St} {s : AV} {l : List α}
theorem Sl.rec_len (h : Sl A n s (R.all l)) : s.slen = l.length := by
  have := h.length
  rw [R.length] at this
  exact (Nat.eq_of_mul_eq_mul_right (Nat.pos_of_ne_zero R.pos) this).symm
theorem Sl.rec_lenV (h : Sl A n s (R.all l)) : AM.lenV s = some (.int .i64 l.length) := by rw [h.lenV, h.rec_len]
theorem Sl.rec_at (h : Sl A n s (R.all l)) {j : Nat} {o : α} (hj : l[j]? = some o) (k : IntKind) :
    ∃ p, atSliceV n s (.int k j) = some (.ptr (some p)) ∧ loadV A n true (.ptr (some p)) = some (.agg (R.cells o)) := by
  have hlt := (List.getElem?_eq_some_iff.1 hj).1
  obtain ⟨p, h1, h2⟩ := h.at (k := k) (j := j) (by rw [h.rec_len]; exact hlt)
  refine ⟨p, h1, ?_⟩
  rw [R.at hj] at h2
  simp [loadV, h2]
theorem own_rec (R : Rec α n) (A : St) (o : α) : Own A.next (A.make (R.cells o) n).2 n (.slice (some (A.next, 0, 0)) 0 1 1 0) (R.all [o]) := by
  have := own_make_exact A (cs := R.cells o) (sz := n) (n := 1) (by rw [R.len]; omega) (Nat.le_refl _) (len := 1) (Nat.le_refl _)
  rw [List.take_of_length_le (by rw [R.len]; omega)] at this
  simpa [Rec.all] using this
/-- One more at the end of one's own. -/
theorem append_rec {A0 : St} {bytes : Nat} (h : Own A0.next A n s (R.all l)) (x : A0.Ext A) (hl : (l.length + 1) * bytes ≤ 70368744177664) (hl' : l.length + 1 ≤ 70368744177664) (o : α) :
    ∃ s' B, appendV (A.make (R.cells o) n).2 false n bytes s (.slice (some (A.next, 0, 0)) 0 1 1 0) = some (s', B) ∧ Own A0.next B n s' (R.all (l ++ [o])) ∧ A0.Ext B := by
  have hx := ext_make A (R.cells o) n
  have h1 := h.ext hx
  have h2 := (own_rec R A o).sl
  have hn : s.slen = l.length := h.sl.rec_len
  obtain ⟨s', B, g1, g2, g3, g4, g5⟩ := appendV_own (bytes := bytes) h1 h2 (Nat.le_trans x.next hx.next) R.pos (R.allFlat _) (by rw [hn, slen_slice]; exact hl) (by rw [hn, slen_slice]; exact hl')
  exact ⟨s', B, g1, by rw [R.append]; exact g3, g4.ext (x.trans hx) h1⟩
end

/-- A text and a number. -/
structure RowD where
  key : List UInt8
  n : Int
def RowD.cells (r : RowD) : List AV := [.str r.key, .int .i64 r.n]
def rowR : Rec RowD 2 := ⟨RowD.cells, fun _ => rfl, fun _ => rfl, by decide⟩
structure RowD.Ok (r : RowD) : Prop where
  key : r.key.length ≤ maxLen
  n : i64ok r.n
section
variable {H : Type} {P : Program} {A : St}
structure RowT (P : Program) (t : TypeId) : Prop where
  ex : ∃ fs t1 t2, P.underlying t = some (.struct fs) ∧ fs.toList.map (·.type) = [t1, t2] ∧ P.underlying t1 = some .string ∧ P.underlying t2 = some (.int .i64)
theorem rdRow {n : Nat} {t : TypeId} (T : RowT P t) {l : List AV} {d : DataW H} (h : ARd P A n t l d) : ∃ o : RowD, o.Ok ∧ l = o.cells := by
  obtain ⟨fs, t1, t2, hu, hf, u1, u2⟩ := T.ex
  cases n with
  | zero => exact h.elim
  | succ n =>
    unfold ARd at h
    rw [hu] at h
    obtain ⟨ds, _, h⟩ := h
    rw [hf] at h
    obtain ⟨l1, r1, d1, ds1, rfl, rfl, h1, h⟩ := h
    obtain ⟨l2, r2, d2, ds2, rfl, rfl, h2, h⟩ := h
    obtain ⟨rfl, _⟩ := h
    obtain ⟨s, rfl, hs⟩ := rdStr u1 h1
    obtain ⟨i, rfl, hi⟩ := rdInt u2 h2
    exact ⟨⟨s, i⟩, ⟨hs, hi⟩, rfl⟩
theorem rdAll_rec {α : Type} {m : Nat} {R : Rec α m} {ok : α → Prop} {n : Nat} {t : TypeId} (T : ∀ {l : List AV} {d : DataW H}, ARd P A n t l d → ∃ o : α, ok o ∧ l = R.cells o) : ∀ {cap : Nat} {cs : List AV} {ds : List (DataW H)}, rdAll (ARd P A n) (List.replicate cap t) cs ds → ∃ l : List α, (∀ o ∈ l, ok o) ∧ cs = R.all l ∧ l.length = cap
  | 0, cs, ds, h => by
    obtain ⟨rfl, _⟩ := h
    exact ⟨[], (by simp), rfl, rfl⟩
  | cap + 1, cs, ds, h => by
    rw [List.replicate_succ] at h
    obtain ⟨l1, l2, d, ds', rfl, rfl, h2, h3⟩ := h
    obtain ⟨l, hl, rfl, hc⟩ := rdAll_rec T h3
    obtain ⟨o, ho, rfl⟩ := T h2
    refine ⟨o :: l, fun x hx => ?_, rfl, by simp [hc]⟩
    rcases List.mem_cons.1 hx with rfl | hx
    · exact ho
    · exact hl x hx
/-- An argument that is a slice of structs. -/
theorem argRecs {α : Type} {m : Nat} {R : Rec α m} {ok : α → Prop} {u t : TypeId} (hu : P.underlying u = some (.slice t)) (h4 : P.cellsOf t = m) (T : ∀ {n : Nat} {l : List AV} {d : DataW H}, ARd P A n t l d → ∃ o : α, ok o ∧ l = R.cells o) {a : AV} {d : DataW H} (h : ARdV P A u a d) :
    ∃ l : List α, (∀ o ∈ l, ok o) ∧ Sl A m a (R.all l) ∧ l.length ≤ maxLen := by
  obtain ⟨n, l, h3, h5⟩ := h
  rw [hu] at h5
  cases n with
  | zero => exact h3.elim
  | succ n =>
    unfold ARd at h3
    rw [hu] at h3
    rcases h3 with ⟨rfl, _⟩ | ⟨k, rfl, _⟩ | ⟨f, len, cap, cs, ds, sp, rfl, hf, hc, hmx, hg, _, hl, hcap, hcs, hall⟩
    · cases h5; exact ⟨[], by simp, .nil _ _ _, Nat.zero_le _⟩
    · cases h5; exact ⟨[], by simp, .nil _ _ _, Nat.zero_le _⟩
    · cases h5
      obtain ⟨l, ho, rfl, hlen⟩ := rdAll_rec T hall
      rw [List.length_append] at hcap
      rw [h4] at hg hcs
      refine ⟨l.take len, fun o h => ho o (List.mem_of_mem_take h), ?_, by rw [List.length_take]; omega⟩
      rw [← R.take]
      refine .mem hf ?_ (.inl ⟨rfl, by omega⟩)
      have := Nat.mul_le_mul_right m (show len ≤ cap by omega)
      have hcs' : (R.all l).length = cap * m := hcs
      unfold St.cells St.look
      dsimp only
      rw [hg]
      simp [findVer]
      omega
end
end Go.AM
