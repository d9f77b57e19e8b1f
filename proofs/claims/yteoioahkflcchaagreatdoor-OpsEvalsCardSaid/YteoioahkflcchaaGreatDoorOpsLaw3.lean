/- The first law: what an operation does. -/
import Derived.Test.YteoioahkflcchaaGreatDoorOpsCut
import Derived.Test.YteoioahkflcchaaGreatDoorOpsAwake
namespace Go.Proofs.YteoioahkflcchaaGreatDoor
open Go.AM
set_option maxRecDepth 100000
set_option linter.unusedSimpArgs false

theorem awake_spec {A : St} (h : A0.Ext A) : Ev D0 G0 fnsL XA 12 [] A fun r B => A = B ∧ r = .bool true :=
  Ev.ext rfl (xa_true h.get) ⟨rfl, rfl⟩
theorem cut1_ok {o : OpD} (h : o.Ok) : (cut1 o).Ok := ⟨h.kind, by
  have := h.key
  show (o.key.take 20).length ≤ maxLen
  rw [List.length_take]; omega, h.n, h.lo⟩
theorem evalL_ok {o : OpD} (h : mayL o = true) (hf : failsL o = false) (old : Int) (there : Bool) : (evalL o old there).2.2.2 = 0 := by
  have hk := kind_of h
  simp [failsL] at hf
  unfold evalL
  rcases hk with hk | hk | hk | hk | hk | hk <;> simp [h, hk] <;> omega
theorem law3 {A : St} (hA : A0.Ext A) {o : OpD} (ho : o.Ok) {old : Int} (hold : i64ok old) (there : Bool) :
    Ev D0 G0 fnsL XA 3 [.agg o.cells, .int .i64 old, .bool there] A fun r _ => r = .bool true := by
  refine Ev.fnK (fn := a3) rfl ⟨by simp [a3], by decide⟩ ?_
  unfold a3
  have hb := B4.make A (.int .i64 o.kind) (.str o.key) (.int .i64 o.n) (.int .i64 o.lo)
  have x1 := ext_make A [.int .i64 o.kind, .str o.key, .int .i64 o.n, .int .i64 o.lo] 1
  simp [OpD.cells, boxV, AV.cells, AV.isBot, Made.value, AV.addr, ops_callf, allKnown, fillA, splice]
  generalize (A.make [.int .i64 o.kind, .str o.key, .int .i64 o.n, .int .i64 o.lo] 1).2 = A1 at *
  have o1 := own_op A1 o
  have x2 := ext_make A1 o.cells 4
  simp only [OpD.cells] at o1 x2
  generalize (A1.make [.int .i64 o.kind, .str o.key, .int .i64 o.n, .int .i64 o.lo] 4).2 = A2 at *
  refine (cut_spec o1.sl).mono fun r B ⟨x3, o2⟩ => ?_
  have hcut : cutL [o] = [cut1 o] := rfl
  rw [hcut] at o2
  obtain ⟨p, g1, g2⟩ := o2.sl.op_at (j := 0) (o := cut1 o) rfl .i64
  simp at g1
  have hb2 := hb.ext (x2.trans x3)
  obtain ⟨A3, k1, k2, k3, k4⟩ := hb2.st (a' := .int .i64 o.kind) (b' := .str (cut1 o).key) (c' := .int .i64 o.n) (d' := .int .i64 o.lo) rfl
  have hcc : (cut1 o).cells = [.int .i64 o.kind, .str (cut1 o).key, .int .i64 o.n, .int .i64 o.lo] := rfl
  rw [hcc] at g2
  have x4 : A.Ext A3 := ⟨by rw [← k3]; exact ((x1.trans x2).trans x3).next, fun f hf => by rw [k4 f (by omega)]; exact ((x1.trans x2).trans x3).get f hf⟩
  simp [g1, g2, k1, k2.ld]
  simp [ops_callf, allKnown]
  have ho1 := cut1_ok ho
  generalize ho' : cut1 o = o' at *
  have hcells : [AV.int .i64 o.kind, AV.str o'.key, AV.int .i64 o.n, AV.int .i64 o.lo] = o'.cells := hcc.symm
  rw [hcells]
  refine (eval_spec o' ho1 hold there).mono fun r B1 ⟨x5, hr⟩ => ?_
  subst hr
  have k5 := k2.ext x5
  simp [evalV, k5.ld]
  simp [ops_callf, allKnown]
  rw [hcells]
  refine (reval_spec o' ho1 hold there).mono fun r B2 ⟨x6, hr⟩ => ?_
  subst hr
  have k6 := k5.ext x6
  have hE : A0.Ext B2 := ((hA.trans x4).trans x5).trans x6
  by_cases he : (evalL o' old there).2.2.2 = 0
  · simp [evalV, he, ops_callf, allKnown]
    refine (awake_spec hE).mono fun r B3 ⟨_, hr⟩ => ?_
    subst hr
    simp
  · simp [evalV, he]
    have hld := k6.ld
    simp [hld, OpD.cells, AV.cells, AV.isBot, Made.value, ops_callf, allKnown, fillA, splice]
    rw [hcells]
    have o3 := own_op B2 o'
    have x7 := ext_make B2 o'.cells 4
    generalize (B2.make o'.cells 4).2 = B3 at *
    refine (total_spec o3.sl (by simp)).mono fun r B4' ⟨x8, hr⟩ => ?_
    subst hr
    cases hf : failsL o' with
    | true =>
      simp [hf, ops_callf, allKnown]
      refine (awake_spec ((hE.trans x7).trans x8)).mono fun r B5 ⟨_, hr⟩ => ?_
      subst hr
      simp
    | false =>
      have k8 := (k6.ext x7).ext x8
      have hld := k8.ld
      simp [hf, hld, ops_callf, allKnown]
      rw [hcells]
      refine (rmay_spec o').mono fun r B5 ⟨x9, hr⟩ => ?_
      subst hr
      cases hm : mayL o' with
      | true => exact absurd (evalL_ok hm hf old there) he
      | false =>
        simp [ops_callf, allKnown]
        refine (awake_spec (((hE.trans x7).trans x8).trans x9)).mono fun r B6 ⟨_, hr⟩ => ?_
        subst hr
        simp
end Go.Proofs.YteoioahkflcchaaGreatDoor
