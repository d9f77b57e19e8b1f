/- The abstract machine: a struct of four cells in a family of its own. -/
import Derived.Test.YteoioahkflcchaaGreatDoorAmOwn
import Derived.Test.YteoioahkflcchaaGreatDoorAmTr
import Derived.Test.YteoioahkflcchaaGreatDoorAmArg
namespace Go.AM
set_option linter.unusedSimpArgs false

/-- A family of four cells. -/
structure B4 (A : St) (f : Nat) (a b c d : AV) : Prop where
  lt : f < A.next
  get : A.get f = some (.cells [a, b, c, d] [⟨0, 0, 4, 1⟩] 1 false)
section
variable {A B : St} {f : Nat} {a b c d : AV}
theorem B4.look (h : B4 A f a b c d) (o : Nat) : A.look (f, 0, o) = some ([a, b, c, d], ⟨0, 0, 4, 1⟩, 1, false) := by
  unfold St.look
  dsimp only
  rw [h.get]
  rfl
theorem B4.ld (h : B4 A f a b c d) : loadV A 4 true (.ptr (some (f, 0, 0))) = some (.agg [a, b, c, d]) := by
  unfold loadV St.cells
  dsimp only
  rw [h.look]
  simp
theorem B4.l0 (h : B4 A f a b c d) : loadV A 1 false (.ptr (some (f, 0, 0))) = some a := by
  unfold loadV St.cells
  dsimp only
  rw [h.look]
  simp
theorem B4.l1 (h : B4 A f a b c d) : loadV A 1 false (.ptr (some (f, 0, 1))) = some b := by
  unfold loadV St.cells
  dsimp only
  rw [h.look]
  simp
theorem B4.l2 (h : B4 A f a b c d) : loadV A 1 false (.ptr (some (f, 0, 2))) = some c := by
  unfold loadV St.cells
  dsimp only
  rw [h.look]
  simp
theorem B4.l3 (h : B4 A f a b c d) : loadV A 1 false (.ptr (some (f, 0, 3))) = some d := by
  unfold loadV St.cells
  dsimp only
  rw [h.look]
  simp
theorem B4.make (A : St) (a b c d : AV) : B4 (A.make [a, b, c, d] 1).2 A.next a b c d := ⟨Nat.lt_succ_self _, get_make A _ 1⟩
theorem B4.ext (h : B4 A f a b c d) (x : A.Ext B) : B4 B f a b c d := ⟨Nat.lt_of_lt_of_le h.lt x.next, by rw [x.get f h.lt]; exact h.get⟩
theorem B4.but (h : B4 A f a b c d) (hn : A.next ≤ B.next) (hg : B.get f = A.get f) : B4 B f a b c d := ⟨Nat.lt_of_lt_of_le h.lt hn, by rw [hg]; exact h.get⟩
/-- All is written anew. -/
theorem B4.st (h : B4 A f a b c d) {a' b' c' d' : AV} (hf : [a', b', c', d'].all AV.flat = true) : ∃ B, storeV A 4 (.ptr (some (f, 0, 0))) (.agg [a', b', c', d']) = some (.bot, B) ∧ B4 B f a' b' c' d' ∧ A.next = B.next ∧ ∀ g, g ≠ f → B.get g = A.get g := by
  refine ⟨A.put f (.cells [a', b', c', d'] [⟨0, 0, 4, 1⟩] 1 false), ?_, ⟨h.lt, by rw [St.get_put, if_pos rfl]⟩, rfl, fun g hg => by rw [St.get_put, if_neg hg]⟩
  unfold storeV
  simp only [AV.cells, St.write, h.look]
  simp [splice, hf]
/-- The second cell is written. -/
theorem B4.st1 (h : B4 A f a b c d) {b' : AV} (hf : b'.flat = true) (hc : b'.cells = [b']) (hb : b'.isBot = false) : ∃ B, storeV A 1 (.ptr (some (f, 0, 1))) b' = some (.bot, B) ∧ B4 B f a b' c d ∧ A.next = B.next ∧ ∀ g, g ≠ f → B.get g = A.get g := by
  refine ⟨A.put f (.cells [a, b', c, d] [⟨0, 0, 4, 1⟩] 1 false), ?_, ⟨h.lt, by rw [St.get_put, if_pos rfl]⟩, rfl, fun g hg => by rw [St.get_put, if_neg hg]⟩
  unfold storeV
  cases b' <;> simp [AV.isBot] at hb <;> simp only [hc, St.write, h.look] <;> simp [splice] <;> simp_all [AV.flat]
@[simp] theorem make4_ld (A : St) (a b c d : AV) : loadV (A.make [a, b, c, d] 1).2 4 true (.ptr (some (A.next, 0, 0))) = some (.agg [a, b, c, d]) := (B4.make A a b c d).ld
@[simp] theorem make4_l0 (A : St) (a b c d : AV) : loadV (A.make [a, b, c, d] 1).2 1 false (.ptr (some (A.next, 0, 0))) = some a := (B4.make A a b c d).l0
@[simp] theorem make4_l1 (A : St) (a b c d : AV) : loadV (A.make [a, b, c, d] 1).2 1 false (.ptr (some (A.next, 0, 1))) = some b := (B4.make A a b c d).l1
@[simp] theorem make4_l2 (A : St) (a b c d : AV) : loadV (A.make [a, b, c, d] 1).2 1 false (.ptr (some (A.next, 0, 2))) = some c := (B4.make A a b c d).l2
@[simp] theorem make4_l3 (A : St) (a b c d : AV) : loadV (A.make [a, b, c, d] 1).2 1 false (.ptr (some (A.next, 0, 3))) = some d := (B4.make A a b c d).l3
end
@[simp] theorem boxV_op (o : OpD) : boxV (.agg o.cells) = some (o.cells, 1, .ptr) := rfl
end Go.AM
