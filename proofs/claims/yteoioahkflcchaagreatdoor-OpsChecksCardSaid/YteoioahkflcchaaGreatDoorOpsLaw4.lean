/- The second law: which keys and operations there may be. -/
import Derived.Test.YteoioahkflcchaaGreatDoorOpsErr
namespace Go.Proofs.YteoioahkflcchaaGreatDoor
open Go.AM
set_option maxRecDepth 100000
set_option linter.unusedSimpArgs false

def growsL (o : OpD) : Bool := decide (o.kind ≠ 4) && decide (o.kind ≠ 5)
theorem total_grows {l : List OpD} (h : l.all mayL = true) : (!l.any failsL) = l.all growsL := by
  induction l with
  | nil => rfl
  | cons o l ih =>
    simp only [List.all_cons, Bool.and_eq_true] at h
    have hp : plainL o = true := by
      have := h.1
      unfold mayL at this
      rw [Bool.and_eq_true] at this
      exact this.1
    have hf : failsL o = !growsL o := by
      unfold failsL growsL
      rw [hp]
      by_cases h4 : o.kind = 4 <;> by_cases h5 : o.kind = 5 <;> simp [h4, h5]
    rw [List.any_cons, List.all_cons, ← ih h.2, hf, Bool.not_or, Bool.not_not]

def allB (p : OpD → Bool) (l : List OpD) : Bool := l.all p
theorem take_succ_all {p : OpD → Bool} {l : List OpD} {i : Nat} {o : OpD} (ho : l[i]? = some o) : allB p (l.take (i + 1)) = (allB p (l.take i) && p o) := by
  unfold allB
  rw [List.take_add_one, ho]
  simp [List.all_append]
theorem errIs_known {A : St} {v : AV} {e : Int} (h : ErrIs A v e) : allKnown [v] = true := by
  obtain ⟨v', S, B, h1, h2⟩ := h
  cases v <;> first | rfl | (simp [errS] at h1)
theorem code_check_spec {A : St} {s : AV} {l : List OpD} (hA : A0.Ext A) (hs : Sl A 4 s (opsCells l)) : Ev D0 G0 fnsL XA 14 [s] A fun r B => A.Ext B ∧ r = .int .i64 (checkL l) := by
  refine Ev.fnK (fn := a14) rfl ⟨by simp [a14], by decide⟩ ?_
  unfold a14
  simp [ops_callf, allKnown, hs.allKnown]
  refine (check_spec hs).mono fun r B ⟨x, he⟩ => ?_
  simp [ops_callf, allKnown, errIs_known he]
  refine (code_spec (hA.trans x) he).mono fun r1 C ⟨hC, hr⟩ => ?_
  subst hC
  subst hr
  simp
  exact x
theorem law4 {A : St} (hA : A0.Ext A) {s : AV} {l0 : List OpD} (hs : Sl A 4 s (opsCells l0)) (k0 : List UInt8) :
    Ev D0 G0 fnsL XA 4 [s, .str k0] A fun r _ => r = .bool true := by
  refine Ev.fnK (fn := a4) rfl ⟨by simp [a4], by decide⟩ ?_
  unfold a4
  simp [ops_callf, allKnown, hs.allKnown]
  refine (cut_spec hs).mono fun r B ⟨x1, o1⟩ => ?_
  have hlen : (cutL l0).length ≤ 12 := by unfold cutL; simp; omega
  generalize cutL l0 = l at *
  simp
  refine contC_join (fun E A' => A' = B ∧ Env.at E 0 = r ∧ Env.at E 1 = .str (k0.take 20)) (fun hc => ?_) (fun hc => ?_) ?_
  · simp at hc
    have hcut : cutStrV (.str k0) none (some (.int .i64 20)) = some (.str (k0.take 20)) := by
      have hb1 : bound? k0.length (.int .i64 20) = some 20 := by
        unfold bound?
        simp only
        rw [if_pos ⟨by decide, by omega⟩]
        rfl
      unfold cutStrV
      simp only [boundHi, boundLo, hb1]
      rfl
    simp [hcut]
  · simp at hc
    have : k0.take 20 = k0 := List.take_of_length_le (by omega)
    simp [this]
  rintro E A1 ⟨hAB, e0, e1⟩
  subst hAB
  have hE := hA.trans x1
  generalize k0.take 20 = k at *
  have hs1 := o1.sl
  simp [e0, e1, hs1.ops_lenV]
  refine Wp.loopK (fun d E A' => A1.Ext A' ∧ Env.at E 0 = r ∧ Env.at E 1 = .str k ∧ Env.at E 17 = r ∧ Env.at E 18 = .int .i64 l.length ∧ ∃ i : Nat, Env.at E 19 = .int .i64 i ∧ Env.at E 5 = .bool (allB growsL (l.take i)) ∧ i + d = l.length) l.length ?_ ?_
  · exact ⟨St.Ext.refl A1, by simp [e0], by simp [e1], by simp [e0], by simp, 0, by simp, by simp [allB], by simp⟩
  rintro d E A2 ⟨x2, e0, e1, e17, e18, i, e19, e5, hi⟩
  have hs2 := hs1.ext x2
  simp [e18, e19]
  refine contC_of (fun hc => ?_) (fun hc => ?_)
  · simp at hc
    obtain ⟨o, ho⟩ : ∃ o, l[i]? = some o := ⟨l[i], List.getElem?_eq_getElem hc⟩
    obtain ⟨p, g1, g2⟩ := hs2.op_at ho .i64
    have ea := add_one (i := i) (by omega)
    simp [e17, e18, e19, g1, g2, Made.value, OpD.cells]
    obtain ⟨A3, k1, k2, x3⟩ := slot A2 o
    simp [k1]
    refine Wp.draws ?_
    simp [k2.ld, opsD_callf, allKnown]
    refine (may_spec o).mono fun r1 B ⟨x4, hr⟩ => ?_
    subst hr
    have k4 := k2.ext x4
    simp [k4.ld, opsD_callf, allKnown]
    refine (rmay_spec o).mono fun r1 C ⟨x5, hr⟩ => ?_
    subst hr
    have k5 := k4.ext x5
    have hx : A1.Ext C := ((x2.trans x3).trans x4).trans x5
    have tk := take_succ_all (p := growsL) ho
    simp [k2.ld, k4.ld, k5.ld, InAll, AV.beq, AV.beqs]
    cases ht : allB growsL (l.take i) with
    | false =>
      rw [ht] at e5 tk
      simp [e0, e1, e5, e17, e18, e19, ea, -bin_add]
      exact ⟨d - 1, by omega, hx, i + 1, by omega, by rw [tk]; rfl, by omega⟩
    | true =>
      rw [ht] at e5 tk
      by_cases h4 : o.kind = 4
      · simp [e0, e1, e5, e17, e18, e19, ea, AV.addr, k5.l0, h4, -bin_add]
        exact ⟨d - 1, by omega, hx, i + 1, by omega, by rw [tk]; simp [growsL, h4], by omega⟩
      · by_cases h5 : o.kind = 5
        · simp [e0, e1, e5, e17, e18, e19, ea, AV.addr, k5.l0, h5, -bin_add]
          exact ⟨d - 1, by omega, hx, i + 1, by omega, by rw [tk]; simp [growsL, h5], by omega⟩
        · simp [e0, e1, e5, e17, e18, e19, ea, AV.addr, k5.l0, h4, h5, -bin_add]
          exact ⟨d - 1, by omega, hx, i + 1, by omega, by rw [tk]; simp [growsL, h4, h5], by omega⟩
  · simp at hc
    have hil : i = l.length := by omega
    subst hil
    rw [List.take_length] at e5
    simp [e0, e1, ops_callf, allKnown, hs2.allKnown]
    refine (code_check_spec (hE.trans x2) hs2).mono fun r1 A3 ⟨x3, hr⟩ => ?_
    subst hr
    have hs3 := hs2.ext x3
    simp [e0, e1, ops_callf, allKnown, hs3.allKnown]
    refine (rcheck_spec hs3).mono fun r1 A4 ⟨x4, hr⟩ => ?_
    subst hr
    have hs4 := hs3.ext x4
    simp [e0, e1, ops_callf, allKnown]
    refine key_spec.mono fun r1 A5 ⟨x5, hr⟩ => ?_
    subst hr
    simp [e0, e1, ops_callf, allKnown]
    refine rkey_spec.mono fun r1 A6 ⟨hA6, hr⟩ => ?_
    subst hA6
    subst hr
    have hs5 := hs4.ext x5
    simp [e0, e1, hs5.ops_lenV]
    have hx := ((x2.trans x3).trans x4).trans x5
    refine Wp.loopK (fun d E A' => A1.Ext A' ∧ Env.at E 0 = r ∧ Env.at E 5 = .bool (allB growsL l) ∧ Env.at E 52 = r ∧ Env.at E 53 = .int .i64 l.length ∧ ∃ i : Nat, Env.at E 54 = .int .i64 i ∧ i + d = l.length ∧ allB mayL (l.take i) = true) l.length ?_ ?_
    · exact ⟨hx, by simp [e0], by simp [e5], by simp [e0], by simp, 0, by simp, by simp, by simp [allB]⟩
    rintro d E A7 ⟨x7, e0, e5, e52, e53, i, e54, hi, hall⟩
    have hs7 := hs1.ext x7
    simp [e53, e54]
    refine contC_of (fun hc => ?_) (fun hc => ?_)
    · simp at hc
      obtain ⟨o, ho⟩ : ∃ o, l[i]? = some o := ⟨l[i], List.getElem?_eq_getElem hc⟩
      obtain ⟨p, g1, g2⟩ := hs7.op_at ho .i64
      have ea := add_one (i := i) (by omega)
      have tk := take_succ_all (p := mayL) ho
      simp [e52, e53, e54, g1, g2, Made.value, OpD.cells]
      obtain ⟨A8, k1, k2, x8⟩ := slot A7 o
      simp [k1, k2.ld, ops_callf, allKnown]
      refine (rmay_spec o).mono fun r1 A9 ⟨x9, hr⟩ => ?_
      subst hr
      cases hm : mayL o with
      | true =>
        simp [e0, e5, e52, e53, e54, ea, -bin_add]
        exact ⟨d - 1, by omega, (x7.trans x8).trans x9, i + 1, by omega, by omega, by rw [tk, hall, hm]; rfl⟩
      | false =>
        simp [ops_callf, allKnown]
        refine (awake_spec (((hE.trans x7).trans x8).trans x9)).mono fun r1 B5 ⟨_, hr⟩ => ?_
        subst hr
        simp
    · simp at hc
      have hil : i = l.length := by omega
      subst hil
      rw [List.take_length] at hall
      simp [e0, e5, ops_callf, allKnown, hs7.allKnown]
      refine (total_spec hs7 (by omega)).mono fun r1 A8 ⟨x8, hr⟩ => ?_
      subst hr
      have ht : (!l.any failsL) = allB growsL l := total_grows hall
      simp only [ht]
      simp [e0, e5, ops_callf, allKnown]
      refine (awake_spec ((hE.trans x7).trans x8)).mono fun r1 B5 ⟨_, hr⟩ => ?_
      subst hr
      simp
end Go.Proofs.YteoioahkflcchaaGreatDoor
