/- The first law: sums. -/
import Derived.Test.YtdgcflackljecaaCrcArg
import Derived.Test.YtdgcflackljecaaCrcSum
import Derived.Test.YtdgcflackljecaaCrcRef
import Derived.Test.YtdgcflackljecaaCrcAwake
namespace Go.Proofs.Ytdgcflackljecaa
open Go.AM
set_option maxRecDepth 100000
set_option linter.unusedSimpArgs false
variable {D : Disp} {X : Calls'}


theorem law3 {A : St} {s : AV} {l0 : List UInt8} {cut more : Int} (hs0 : Bs A s l0) :
    Ev D T.nil fns X 3 [s, .int .i64 cut, .int .i64 more] A fun r _ => r = .bool true := by
  refine Ev.fnK (fn := a3) rfl ⟨by simp [a3], by decide⟩ ?_
  unfold a3
  simp [ops_callf, allKnown, hs0.allKnown]
  refine (short_spec hs0).mono fun t B ⟨hB, hs⟩ => ?_
  subst hB
  have hll : (l0.take 200).length ≤ 200 := by rw [List.length_take]; omega
  generalize l0.take 200 = l at *
  obtain ⟨n, hn, en⟩ := add_nat (a := l.length) (b := 1) (by omega) (by omega)
  obtain ⟨r, er, hr1, hr2⟩ := rem_int cut (b := n) (by omega)
  simp [-bin_add] at en
  simp [hs.lenV, en, er, -bin_add]
  refine contC_join (fun E A' => A = A' ∧ Env.at E 0 = t ∧ Env.at E 2 = .int .i64 more ∧ ∃ i : Nat, i < n ∧ Env.at E 7 = .int .i64 i) (fun hc => ?_) (fun hc => ?_) ?_
  · simp at hc
    obtain ⟨i, hi, ei⟩ := neg_int hr1 hc (by omega)
    simp [ei]
    exact ⟨i, hi, rfl⟩
  · simp at hc
    simp
    exact ⟨r.toNat, by omega, by rw [Int.toNat_of_nonneg hc]⟩
  rintro E _ ⟨rfl, e0, e2, i, hi, e7⟩
  obtain ⟨m1, hm1, em1⟩ := sub_nat (a := l.length) (b := i) (by omega) (by omega)
  obtain ⟨m, hm, em⟩ := add_nat (a := m1) (b := 1) (by omega) (by omega)
  obtain ⟨r2, er2, hr3, hr4⟩ := rem_int more (b := m) (by omega)
  simp [-bin_add] at em
  simp [e0, e2, e7, hs.lenV, em1, em, er2, -bin_add, -bin_sub]
  refine contC_join (fun E A' => A = A' ∧ Env.at E 0 = t ∧ ∃ j : Nat, j < m ∧ Env.at E 7 = .int .i64 i ∧ Env.at E 8 = .int .i64 j) (fun hc => ?_) (fun hc => ?_) ?_
  · simp at hc
    obtain ⟨j, hj, ej⟩ := neg_int hr3 hc (by omega)
    simp [ej, e0, e7]
    exact ⟨j, hj, rfl⟩
  · simp at hc
    simp [e0, e7]
    exact ⟨r2.toNat, by omega, by rw [Int.toNat_of_nonneg hc]⟩
  rintro E _ ⟨rfl, e0, j, hj, e7, e8⟩
  simp
  refine Wp.draws ?_
  simp [e0, fillA, splice, Made.value, hs.cells, hs.notBot, opsD_callf, allKnown]
  have p1 : Own A.next (A.make [t] 1).2 1 (.slice (some (A.next, 0, 0)) 0 1 1 0) [t] := own_built A rfl
  have x1 := ext_make A [t] 1
  generalize (A.make [t] 1).2 = A1 at *
  have hs1 : Bs A1 t l := Sl.ext x1 hs
  refine (sum_spec (ls := [l]) p1.sl ⟨hs1, trivial⟩ (by simp) (by simp; omega)).mono fun r B ⟨q1, q2⟩ => ?_
  rw [q1, q2]
  simp [e0, opsD_callf, allKnown, hs1.allKnown]
  refine (refSum_spec hs1 (by omega)).mono fun r B ⟨q1, q2⟩ => ?_
  rw [← q1, q2]
  obtain ⟨k, hk, ek⟩ := add_nat (a := i) (b := j) (by omega) (by omega)
  obtain ⟨s1, g1, g2, g3⟩ := Sl.cutTo hs1 (hi := i) (by rw [hs1.len]; omega) (j := .i64)
  obtain ⟨s2, d1, d2, d3⟩ := Sl.cut hs1 (lo := i) (hi := k) (by omega) (by rw [hs1.len]; omega) (k := .i64) (j := .i64)
  obtain ⟨s3, f1, f2, f3⟩ := Sl.cutFrom hs1 (lo := k) (by rw [hs1.len]; omega) (k := .i64)
  rw [Nat.mul_one, bytesV_take] at g3
  rw [Nat.mul_one, Nat.mul_one, bytesV_take, bytesV_drop] at d3
  rw [Nat.mul_one, bytesV_drop] at f3
  simp [e0, e7, e8, ek, g1, d1, f1, -bin_add, fillA, splice, Made.value, g3.cells, g3.notBot, d3.cells, d3.notBot, f3.cells, f3.notBot, opsD_callf, allKnown]
  have p2 : Own A1.next (A1.make [s1, s2, .slice none 0 0 0 0, s3] 1).2 1 (.slice (some (A1.next, 0, 0)) 0 4 4 0) [s1, s2, .slice none 0 0 0 0, s3] := own_built A1 rfl
  have x2 := ext_make A1 [s1, s2, .slice none 0 0 0 0, s3] 1
  generalize (A1.make [s1, s2, .slice none 0 0 0 0, s3] 1).2 = A2 at *
  have hfl : [l.take i, (l.take k).drop i, [], l.drop k].flatten = l := by
    simp only [List.flatten_cons, List.flatten_nil, List.append_nil, List.nil_append]
    rw [← List.append_assoc]
    have e : l.take i ++ (l.take k).drop i = l.take k := by
      have : l.take i = (l.take k).take i := by rw [List.take_take, Nat.min_eq_left (by omega)]
      rw [this, List.take_append_drop]
    rw [e, List.take_append_drop]
  have hpp : PartsB A2 [s1, s2, .slice none 0 0 0 0, s3] [l.take i, (l.take k).drop i, [], l.drop k] := ⟨Sl.ext x2 g3, Sl.ext x2 d3, .nil _ _ _, Sl.ext x2 f3, trivial⟩
  have hln : ∀ q ∈ [l.take i, (l.take k).drop i, [], l.drop k], q.length < 2 ^ 62 := by
    intro q hq
    have : q.length ≤ 200 := by
      simp only [List.mem_cons, List.not_mem_nil, or_false] at hq
      rcases hq with rfl | rfl | rfl | rfl
      · rw [List.length_take]; omega
      · rw [List.length_drop, List.length_take]; omega
      · exact Nat.zero_le _
      · rw [List.length_drop]; omega
    omega
  refine (sum_spec p2.sl hpp (by simp) hln).mono fun r B ⟨q1, q2⟩ => ?_
  rw [q1, q2, hfl]
  have hs2 := Sl.ext x2 hs1
  simp [e0, opsD_callf, allKnown, hs2.allKnown]
  refine (refSum_spec hs2 (by omega)).mono fun r B ⟨q1, q2⟩ => ?_
  rw [← q1, q2]
  simp [opsD_callf, allKnown]
  refine (awake_spec A2).mono fun r B ⟨q1, q2⟩ => ?_
  rw [q2]
  simp
end Go.Proofs.Ytdgcflackljecaa
