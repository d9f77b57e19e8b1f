/- The abstract machine: slices of operations; calls of function values. -/
import Derived.Test.YteoioahkflcchaaGreatDoorAmBox
import Derived.Test.YteoioahkflcchaaGreatDoorAmNum
namespace Go.AM
set_option linter.unusedSimpArgs false
set_option linter.unusedVariables false
section
variable {D : Disp} {G0 : Env} {fns : Nat → Option AFn} {X : Calls'}
theorem ops_callv {f : FuncId} {first captured : List AV} {x : Operand} (args : List Operand) (d : Option Nat) (l : List AOper) {E : Env} (A : St) (Q : Ex → Env → St → Prop) (hx : ev E x = .func (.func f) first captured) (hk : allKnown (first ++ (evs E args ++ captured)) = true) :
    Ops D G0 fns X (⟨d, .callv x args, none⟩ :: l) E A Q = Ev D G0 fns X f (first ++ (evs E args ++ captured)) A (contR D G0 fns X d l E Q) := by
  refine propext ⟨fun ⟨k, E', A', h1, h2⟩ => ?_, fun h => WpO.call rfl rfl (by simp only [calleeOf, hx]) hk h⟩
  simp only [runOps, wantedA, opL_none (late_none (op := .callv x args) (by simp [AOp.cls]) _ _), opOf, AOp.cls, calleeOf, hx, hk, cond_true] at h1
  split at h1
  · rename_i v B hv
    exact ⟨k, v, B, hv, k, E', A', h1, h2⟩
  · cases h1
end
theorem opsCells_append : ∀ (l r : List OpD), opsCells (l ++ r) = opsCells l ++ opsCells r
  | [], r => rfl
  | o :: l, r => by simp only [List.cons_append, opsCells, opsCells_append l r, List.append_assoc]
theorem opsCells_at : ∀ {l : List OpD} {j : Nat} {o : OpD}, l[j]? = some o → ((opsCells l).drop (j * 4)).take 4 = o.cells
  | [], _, _, h => by simp at h
  | x :: l, 0, o, h => by
    simp at h
    subst h
    simp [opsCells, OpD.cells]
  | x :: l, j + 1, o, h => by
    simp only [List.getElem?_cons_succ] at h
    simp only [opsCells]
    rw [show (j + 1) * 4 = x.cells.length + j * 4 by simp [OpD.cells]; omega, List.drop_length_add_append]
    exact opsCells_at h
theorem opsCells_flat : ∀ l : List OpD, (opsCells l).all AV.flat = true
  | [] => rfl
  | o :: l => by simp only [opsCells, List.all_append, opsCells_flat l, Bool.and_true]; rfl
section
variable {A : St}
theorem Sl.ops_len {s : AV} {l : List OpD} (h : Sl A 4 s (opsCells l)) : s.slen = l.length := by
  have := h.length
  rw [opsCells_length] at this
  omega
theorem Sl.ops_lenV {s : AV} {l : List OpD} (h : Sl A 4 s (opsCells l)) : AM.lenV s = some (.int .i64 l.length) := by rw [h.lenV, h.ops_len]
theorem Sl.op_at {s : AV} {l : List OpD} (h : Sl A 4 s (opsCells l)) {j : Nat} {o : OpD} (hj : l[j]? = some o) (k : IntKind) :
    ∃ p, atSliceV 4 s (.int k j) = some (.ptr (some p)) ∧ loadV A 4 true (.ptr (some p)) = some (.agg o.cells) := by
  have hlt := (List.getElem?_eq_some_iff.1 hj).1
  obtain ⟨p, h1, h2⟩ := h.at (k := k) (j := j) (by rw [h.ops_len]; exact hlt)
  refine ⟨p, h1, ?_⟩
  rw [opsCells_at hj] at h2
  simp [loadV, h2]
theorem own_op (A : St) (o : OpD) : Own A.next (A.make o.cells 4).2 4 (.slice (some (A.next, 0, 0)) 0 1 1 0) (opsCells [o]) := by
  have := own_make_exact A (cs := o.cells) (sz := 4) (n := 1) (by simp [OpD.cells]) (Nat.le_refl _) (len := 1) (Nat.le_refl _)
  rw [List.take_of_length_le (by simp [OpD.cells])] at this
  simpa [opsCells] using this
/-- One more operation at the end of one's own. -/
theorem append_op {A0 A : St} {s : AV} {l : List OpD} (h : Own A0.next A 4 s (opsCells l)) (x : A0.Ext A) (hl : l.length < 1000000) (o : OpD) :
    ∃ s' B, appendV (A.make o.cells 4).2 false 4 40 s (.slice (some (A.next, 0, 0)) 0 1 1 0) = some (s', B) ∧ Own A0.next B 4 s' (opsCells (l ++ [o])) ∧ A0.Ext B := by
  have hx := ext_make A o.cells 4
  have h1 := h.ext hx
  have h2 := (own_op A o).sl
  have hn : s.slen = l.length := h.sl.ops_len
  obtain ⟨s', B, g1, g2, g3, g4, g5⟩ := appendV_own (bytes := 40) h1 h2 (Nat.le_trans x.next hx.next) (by decide) (opsCells_flat _) (by rw [hn, slen_slice]; omega) (by rw [hn, slen_slice]; omega)
  exact ⟨s', B, g1, by rw [opsCells_append]; exact g3, g4.ext (x.trans hx) h1⟩
end
end Go.AM
