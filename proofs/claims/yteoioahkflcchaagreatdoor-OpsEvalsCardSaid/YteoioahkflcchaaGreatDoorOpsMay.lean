/- Which operations there may be: the program's May, the document's. -/
import Derived.Test.YteoioahkflcchaaGreatDoorOpsLetters
namespace Go.Proofs.YteoioahkflcchaaGreatDoor
open Go.AM
set_option maxRecDepth 100000
set_option linter.unusedSimpArgs false
variable {D : Disp} {G0 : Env} {X : Calls'}

theorem key_spec {A : St} {s : List UInt8} : Ev D G0 fnsL X 16 [.str s] A fun r B => A.Ext B ∧ r = .bool (keyL s) := by
  refine Ev.fnK (fn := a16) rfl ⟨by simp [a16], by decide⟩ ?_
  unfold a16
  by_cases h : s.length ≤ 16
  · have h' : (s.length : Int) ≤ 16 := by omega
    simp [h', ops_callf, allKnown]
    refine (letters_spec (by omega)).mono fun r B ⟨hx, hr⟩ => ?_
    subst hr
    simp [keyL, h]
    exact hx
  · have h' : ¬ (s.length : Int) ≤ 16 := by omega
    simp [h', keyL, h]
    exact St.Ext.refl A
theorem prefix_spec {A : St} {s : List UInt8} : Ev D G0 fnsL X 54 [.str s, .str [126]] A fun r B => A = B ∧ r = .bool (decide (s.take 1 = [126])) := by
  refine Ev.fnK (fn := a54) rfl ⟨by simp [a54], by decide⟩ ?_
  unfold a54
  simp [ops_callf, allKnown]
  refine Ev.fnK (fn := a72) rfl ⟨by simp [a72], by decide⟩ ?_
  unfold a72
  cases s with
  | nil => simp
  | cons c s =>
    have h' : (1 : Int) ≤ (s.length : Int) + 1 := by omega
    have h2 : bound? (s.length + 1) (.int .i64 1) = some 1 := by simp [bound?]; omega
    simp [h', cutStrV, boundHi, h2, boundLo]
theorem sys_spec {A : St} {s : List UInt8} : Ev D G0 fnsL X 35 [.str s] A fun r B => A.Ext B ∧ r = .bool (sysL s) := by
  refine Ev.fnK (fn := a35) rfl ⟨by simp [a35], by decide⟩ ?_
  unfold a35
  by_cases h : s.length ≤ 16
  · have h' : (s.length : Int) ≤ 16 := by omega
    simp [h', ops_callf, allKnown]
    refine prefix_spec.mono fun r B ⟨hx, hr⟩ => ?_
    subst hx
    subst hr
    by_cases hp : s.take 1 = [126]
    · have hl : 1 ≤ s.length := by
        cases s with
        | nil => simp at hp
        | cons c s => simp
      have h2 : bound? s.length (.int .i64 1) = some 1 := by simp [bound?]; omega
      simp [hp, cutStrV, boundHi, h2, boundLo, ops_callf, allKnown]
      refine (letters_spec (by simp; omega)).mono fun r B ⟨hx, hr⟩ => ?_
      subst hr
      simp [hp, sysL, h]
      exact hx
    · simp [hp, sysL, h]
      exact St.Ext.refl A
  · have h' : ¬ (s.length : Int) ≤ 16 := by omega
    simp [h', sysL, h]
    exact St.Ext.refl A
theorem may_spec {A : St} (o : OpD) : Ev D G0 fnsL X 13 [.agg o.cells] A fun r B => A.Ext B ∧ r = .bool (mayL o) := by
  refine Ev.fnK (fn := a13) rfl ⟨by simp [a13], by decide⟩ ?_
  unfold a13
  simp [OpD.cells, boxV, AV.cells, Made.value, AV.addr, ops_callf, allKnown]
  have hb := B4.make A (.int .i64 o.kind) (.str o.key) (.int .i64 o.n) (.int .i64 o.lo)
  have hx := ext_make A [.int .i64 o.kind, .str o.key, .int .i64 o.n, .int .i64 o.lo] 1
  generalize (A.make [.int .i64 o.kind, .str o.key, .int .i64 o.n, .int .i64 o.lo] 1).2 = A1 at *
  refine (plain_spec o).mono fun r B ⟨hx2, hr⟩ => ?_
  subst hr
  have hb2 := hb.ext hx2
  cases hp : plainL o with
  | false => simp [mayL, hp]; exact hx.trans hx2
  | true =>
    simp [AV.addr, hb2.l1, ops_callf, allKnown]
    refine key_spec.mono fun r C ⟨hx3, hr⟩ => ?_
    subst hr
    have hb3 := hb2.ext hx3
    cases hk : keyL o.key with
    | true => simp [mayL, hp, hk]; exact (hx.trans hx2).trans hx3
    | false =>
      simp [AV.addr, hb3.l1, ops_callf, allKnown]
      refine sys_spec.mono fun r C2 ⟨hx4, hr⟩ => ?_
      subst hr
      simp [mayL, hp, hk]
      exact ((hx.trans hx2).trans hx3).trans hx4
end Go.Proofs.YteoioahkflcchaaGreatDoor
