/- What an operation does: the program's Eval, the document's. -/
import Derived.Test.YteoioahkflcchaaGreatDoorOpsRef
namespace Go.Proofs.YteoioahkflcchaaGreatDoor
open Go.AM
set_option maxRecDepth 100000
set_option linter.unusedSimpArgs false
variable {D : Disp} {G0 : Env} {X : Calls'}

theorem wrapI_eq (x : Int) : wrapI x = (x + 9223372036854775808) % 18446744073709551616 - 9223372036854775808 := IntKind.wrap_i64 x
theorem wrapI_fits {a b : Int} (h : fitsL a b = true) : wrapI (a + b) = a + b := by
  simp [fitsL] at h
  rw [wrapI_eq]; omega

theorem sum_spec {A : St} {a b : Int} (ha : i64ok a) (hb : i64ok b) : Ev D G0 fnsL X 45 [.int .i64 a, .int .i64 b] A fun r B => A = B ∧ r = .tuple [.int .i64 (wrapI (a + b)), .bool (fitsL a b)] := by
  refine Ev.fnK (fn := a45) rfl ⟨by simp [a45], by decide⟩ ?_
  unfold a45
  have hw : IntKind.i64.wrap (a + b) = wrapI (a + b) := rfl
  have h : (decide (wrapI (a + b) < a) == decide (b < 0)) = fitsL a b := by
    unfold i64ok at ha hb
    unfold fitsL
    rw [wrapI_eq, Bool.eq_iff_iff]
    simp only [beq_iff_eq, Bool.and_eq_true, decide_eq_true_eq, decide_eq_decide]
    omega
  simp [hw, h]

/-- What add and min do. -/
def growL (o : OpD) (old : Int) (there : Bool) : Int × Bool × Int × Int :=
  if fitsL old o.n = false then (old, there, 0, 25) else if o.kind = 5 ∧ old + o.n < o.lo then (old, there, 0, 24) else (old + o.n, true, old + o.n, 0)
def tupV (x : Int × Bool × Int × Int) : AV := .tuple [.int .i64 x.1, .bool x.2.1, .int .i64 x.2.2.1, .int .i64 x.2.2.2]
theorem grown_spec {A : St} (o : OpD) (ho : o.Ok) {old : Int} (hold : i64ok old) (there : Bool) : Ev D G0 fnsL X 27 [.agg o.cells, .int .i64 old, .bool there] A fun r B => A.Ext B ∧ r = tupV (growL o old there) := by
  refine Ev.fnK (fn := a27) rfl ⟨by simp [a27], by decide⟩ ?_
  unfold a27
  simp [OpD.cells, boxV, AV.cells, Made.value, AV.addr, ops_callf, allKnown]
  have hb := B4.make A (.int .i64 o.kind) (.str o.key) (.int .i64 o.n) (.int .i64 o.lo)
  have hx := ext_make A [.int .i64 o.kind, .str o.key, .int .i64 o.n, .int .i64 o.lo] 1
  generalize (A.make [.int .i64 o.kind, .str o.key, .int .i64 o.n, .int .i64 o.lo] 1).2 = A1 at *
  refine (sum_spec hold ho.n).mono fun r B ⟨hB, hr⟩ => ?_
  subst hB
  subst hr
  unfold growL
  cases hf : fitsL old o.n with
  | false => simp; exact ⟨hx, rfl⟩
  | true =>
    rw [wrapI_fits hf]
    by_cases hk : o.kind = 5
    · by_cases hl : old + o.n < o.lo
      · simp [AV.addr, hb.l0, hb.l3, hk, hl]; exact ⟨hx, rfl⟩
      · simp [AV.addr, hb.l0, hb.l3, hk, hl]; exact ⟨hx, rfl⟩
    · simp [AV.addr, hb.l0, hb.l3, hk]; exact ⟨hx, rfl⟩

theorem fits_spec {A : St} {a b : Int} (ha : i64ok a) (hb : i64ok b) : Ev D G0 fnsL X 28 [.int .i64 a, .int .i64 b] A fun r B => A = B ∧ r = (if fitsL a b = true then .tuple [.int .i64 (a + b), .bool true] else .tuple [.int .i64 0, .bool false]) := by
  refine Ev.fnK (fn := a28) rfl ⟨by simp [a28], by decide⟩ ?_
  unfold a28
  unfold i64ok at ha hb
  have w1 : ∀ x : Int, -9223372036854775808 ≤ x → x ≤ 9223372036854775807 → IntKind.i64.wrap x = x := fun x h1 h2 => wrap_i64 h1 (by omega)
  by_cases h1 : 0 < b
  · have e1 := w1 (9223372036854775807 - b) (by omega) (by omega)
    by_cases h2 : 9223372036854775807 - b < a
    · have hf : fitsL a b = false := by simp [fitsL]; omega
      simp [h1, e1, h2, hf]
    · have hf : fitsL a b = true := by simp [fitsL]; omega
      have e2 := w1 (a + b) (by omega) (by omega)
      have h3 : ¬ b < 0 := by omega
      simp [h1, e1, h2, hf, h3, e2]
  · by_cases h3 : b < 0
    · have e0 : unOf .neg (.int .i64 9223372036854775807) = some (.int .i64 (-9223372036854775807)) := by rfl
      have e00 := w1 (-9223372036854775808) (by omega) (by omega)
      have e1 := w1 (-9223372036854775808 - b) (by omega) (by omega)
      by_cases h2 : a < -9223372036854775808 - b
      · have hf : fitsL a b = false := by simp [fitsL]; omega
        simp [h1, h3, e0, e00, e1, h2, hf]
      · have hf : fitsL a b = true := by simp [fitsL]; omega
        have e2 := w1 (a + b) (by omega) (by omega)
        simp [h1, h3, e0, e00, e1, h2, hf, e2]
    · have hf : fitsL a b = true := by simp [fitsL]; omega
      have e2 := w1 (a + b) (by omega) (by omega)
      simp [h1, h3, hf, e2]

theorem evalV_bad {o : OpD} (h : mayL o = false) (old : Int) (there : Bool) : evalV o old there = .tuple [.int .i64 0, .bool false, .int .i64 0, .int .i64 2] := by
  simp [evalV, evalL, h]
/-- What is meant by what a key holds. -/
def oldOfD (old : Int) (there : Bool) : Int := if there then old else 0
theorem oldOk {old : Int} (h : i64ok old) (there : Bool) : i64ok (oldOfD old there) := by
  unfold oldOfD
  cases there
  · simp [i64ok]
  · simpa using h
theorem kind_of {o : OpD} (h : mayL o = true) : o.kind = 1 ∨ o.kind = 2 ∨ o.kind = 3 ∨ o.kind = 4 ∨ o.kind = 5 ∨ o.kind = 6 := by
  unfold mayL at h
  rw [Bool.and_eq_true] at h
  have h := h.1
  unfold plainL at h
  split at h
  · omega
  · split at h
    · omega
    · simp at h; omega
theorem evalV_one {o : OpD} (h : mayL o = true) (hk : o.kind = 1) (old : Int) (there : Bool) : evalV o old there = .tuple [.int .i64 (oldOfD old there), .bool there, .int .i64 (oldOfD old there), .int .i64 0] := by
  simp [evalV, evalL, h, hk, oldOfD]
theorem evalV_two {o : OpD} (h : mayL o = true) (hk : o.kind = 2) (old : Int) (there : Bool) : evalV o old there = .tuple [.int .i64 o.n, .bool true, .int .i64 o.n, .int .i64 0] := by
  simp [evalV, evalL, h, hk]
theorem evalV_three {o : OpD} (h : mayL o = true) (hk : o.kind = 3) (old : Int) (there : Bool) : evalV o old there = .tuple [.int .i64 0, .bool false, .int .i64 (oldOfD old there), .int .i64 0] := by
  simp [evalV, evalL, h, hk, oldOfD]
theorem evalV_six {o : OpD} (h : mayL o = true) (hk : o.kind = 6) (old : Int) (there : Bool) : evalV o old there = .tuple [.int .i64 (wrapI (oldOfD old there + o.n)), .bool true, .int .i64 (wrapI (oldOfD old there + o.n)), .int .i64 0] := by
  simp [evalV, evalL, h, hk, oldOfD]
theorem evalV_grown {o : OpD} (h : mayL o = true) (hk : o.kind = 4 ∨ o.kind = 5) (old : Int) (there : Bool) : evalV o old there = tupV (growL o (oldOfD old there) there) := by
  have h1 : ¬ o.kind = 1 := by omega
  have h2 : ¬ o.kind = 2 := by omega
  have h3 : ¬ o.kind = 3 := by omega
  have h6 : ¬ o.kind = 6 := by omega
  have : evalL o old there = growL o (oldOfD old there) there := by
    unfold evalL growL oldOfD
    simp only [h, h1, h2, h3, h6]
    rfl
  unfold evalV
  rw [this]
  rfl

theorem eval_spec {A : St} (o : OpD) (ho : o.Ok) {old : Int} (hold : i64ok old) (there : Bool) : Ev D G0 fnsL X 8 [.agg o.cells, .int .i64 old, .bool there] A fun r B => A.Ext B ∧ r = evalV o old there := by
  refine Ev.fnK (fn := a8) rfl ⟨by simp [a8], by decide⟩ ?_
  unfold a8
  refine wp_cut3 (fun E B => A.Ext B ∧ B4 B A.next (.int .i64 o.kind) (.str o.key) (.int .i64 o.n) (.int .i64 o.lo) ∧ Env.at E 1 = .int .i64 (oldOfD old there) ∧ Env.at E 2 = .bool there ∧ Env.at E 3 = .ptr (some (A.next, 0, 0)) ∧ mayL o = true) ?_ ?_
  · simp [OpD.cells, boxV, AV.cells, Made.value, AV.addr, ops_callf, allKnown]
    have hb := B4.make A (.int .i64 o.kind) (.str o.key) (.int .i64 o.n) (.int .i64 o.lo)
    have hx := ext_make A [.int .i64 o.kind, .str o.key, .int .i64 o.n, .int .i64 o.lo] 1
    generalize (A.make [.int .i64 o.kind, .str o.key, .int .i64 o.n, .int .i64 o.lo] 1).2 = A1 at *
    refine (may_spec o).mono fun r B ⟨hxB, hr⟩ => ?_
    subst hr
    have hb := hb.ext hxB
    have hx := hx.trans hxB
    cases hm : mayL o with
    | false => simp [evalV_bad hm]; exact ⟨hx, rfl⟩
    | true => cases there <;> simp [oldOfD] <;> exact ⟨hx, hb⟩
  · rintro E B ⟨hx, hb, e1, e2, e3, hm⟩
    have hold' := oldOk hold there
    have hko := kind_of hm
    have hv : ∀ v : Int, v = oldOfD old there → i64ok v := fun v h => h ▸ hold'
    obtain ⟨v, hve⟩ : ∃ v, v = oldOfD old there := ⟨_, rfl⟩
    have hvo := hv v hve
    rw [← hve] at e1
    rcases hko with hk | hk | hk | hk | hk | hk
    · rw [evalV_one hm hk, ← hve]
      simp [AV.addr, hb.l0, hk, e1, e2, e3]; exact ⟨hx, rfl⟩
    · rw [evalV_two hm hk]
      simp [AV.addr, hb.l0, hk, e1, e2, e3]
      refine Wp.draws ?_
      simp [AV.addr, hb.l2, InAll, AV.beq, e3, hk]
      exact ⟨hx, rfl⟩
    · rw [evalV_three hm hk, ← hve]
      simp [AV.addr, hb.l0, hk, e1, e2, e3]; exact ⟨hx, rfl⟩
    · have hg := grown_spec (D := D) (G0 := G0) (X := X) (A := B) o ho hvo there
      rw [evalV_grown hm (.inl hk), ← hve]
      generalize growL o v there = g at *
      have hld := hb.ld
      simp [AV.addr, hb.l0, hk, e1, e2, e3]
      simp [AV.addr, hb.l0, hk, e1, e2, e3, hld, ops_callf, allKnown]
      rw [← hk]
      refine hg.mono fun r C ⟨hxC, hr⟩ => ?_
      subst hr
      simp [tupV]
      exact ⟨hx.trans hxC, rfl⟩
    · have hg := grown_spec (D := D) (G0 := G0) (X := X) (A := B) o ho hvo there
      rw [evalV_grown hm (.inr hk), ← hve]
      generalize growL o v there = g at *
      have hld := hb.ld
      simp [AV.addr, hb.l0, hk, e1, e2, e3]
      simp [AV.addr, hb.l0, hk, e1, e2, e3, hld, ops_callf, allKnown]
      rw [← hk]
      refine hg.mono fun r C ⟨hxC, hr⟩ => ?_
      subst hr
      simp [tupV]
      exact ⟨hx.trans hxC, rfl⟩
    · rw [evalV_six hm hk, ← hve]
      simp [AV.addr, hb.l0, hk, e1, e2, e3]
      refine Wp.draws ?_
      have hw : IntKind.i64.wrap (v + o.n) = wrapI (v + o.n) := rfl
      simp [AV.addr, hb.l2, InAll, AV.beq, e1, e3, hk, hw]
      exact ⟨hx, rfl⟩
end Go.Proofs.YteoioahkflcchaaGreatDoor
