/- The second law: frames. -/
import Derived.Test.YtdgcflackljecaaCrcLaw5
import Derived.Test.YtdgcflackljecaaCrcWrapR
namespace Go.Proofs.Ytdgcflackljecaa
open Go.AM
set_option maxRecDepth 100000
set_option linter.unusedSimpArgs false
attribute [-simp] List.length_flatten
variable {D : Disp} {X : Calls'}

theorem law4 {A : St} {s : AV} {l0 : List UInt8} {cut : Int} (hs0 : Bs A s l0) :
    Ev D T.nil fns X 4 [s, .int .i64 cut] A fun r _ => r = .bool true := by
  refine Ev.fnK (fn := a4) rfl ⟨by simp [a4], by decide⟩ ?_
  unfold a4
  simp [ops_callf, allKnown, hs0.allKnown]
  refine (short_spec hs0).mono fun t B ⟨hB, hs⟩ => ?_
  subst hB
  have hll : (l0.take 200).length ≤ 200 := by rw [List.length_take]; omega
  generalize l0.take 200 = l at *
  obtain ⟨n, hn, en⟩ := add_nat (a := l.length) (b := 1) (by omega) (by omega)
  obtain ⟨r, er, hr1, hr2⟩ := rem_int cut (b := n) (by omega)
  simp [-bin_add] at en
  simp [hs.lenV, en, er, -bin_add]
  refine contC_join (fun E A' => A = A' ∧ Env.at E 0 = t ∧ ∃ i : Nat, i < n ∧ Env.at E 5 = .int .i64 i) (fun hc => ?_) (fun hc => ?_) ?_
  · simp at hc
    obtain ⟨i, hi, ei⟩ := neg_int hr1 hc (by omega)
    simp [ei]
    exact ⟨i, hi, rfl⟩
  · simp at hc
    simp
    exact ⟨r.toNat, by omega, by rw [Int.toNat_of_nonneg hc]⟩
  rintro E _ ⟨rfl, e0, i, hi, e5⟩
  simp
  refine Wp.draws ?_
  obtain ⟨s1, g1, g2, g3⟩ := Sl.cutTo hs (hi := i) (by rw [hs.len]; omega) (j := .i64)
  obtain ⟨s3, f1, f2, f3⟩ := Sl.cutFrom hs (lo := i) (by rw [hs.len]; omega) (k := .i64)
  rw [Nat.mul_one, bytesV_take] at g3
  rw [Nat.mul_one, bytesV_drop] at f3
  simp [e0, e5, g1, f1, fillA, splice, Made.value, g3.cells, g3.notBot, f3.cells, f3.notBot, opsD_callf, allKnown]
  have p2 : Own A.next (A.make [s1, s3] 1).2 1 (.slice (some (A.next, 0, 0)) 0 2 2 0) [s1, s3] := own_built A rfl
  have x2 := ext_make A [s1, s3] 1
  generalize (A.make [s1, s3] 1).2 = A2 at *
  have hcat : [l.take i, l.drop i].flatten = l := by simp
  have hln : ∀ q ∈ [l.take i, l.drop i], q.length < 2 ^ 40 := by
    intro q hq
    have : q.length ≤ 200 := by
      simp only [List.mem_cons, List.not_mem_nil, or_false] at hq
      rcases hq with rfl | rfl
      · rw [List.length_take]; omega
      · rw [List.length_drop]; omega
    omega
  refine (wrap_spec p2.sl (ls := [l.take i, l.drop i]) ⟨Sl.ext x2 g3, Sl.ext x2 f3, trivial⟩ (by simp) hln).mono fun f B h => ?_
  rw [hcat] at h
  rcases h with ⟨_, x3, o3⟩ | ⟨hgt, _⟩
  rotate_left
  · omega
  have hsB : Bs B t l := Sl.ext (x2.trans x3) hs
  have hfB := o3.sl
  simp
  refine Wp.draws ?_
  simp [e0, hfB.text, opsD_callf, allKnown, hsB.allKnown]
  refine (refWrap_spec hsB (by omega)).mono fun w C ⟨x4, o4⟩ => ?_
  have hsC : Bs C t l := Sl.ext x4 hsB
  have hfC : Bs C f (frame l) := Sl.ext x4 hfB
  simp [o4.sl.text, e0, fillA, splice, Made.value, hsC.cells, hsC.notBot, opsD_callf, allKnown]
  have p5 : Own C.next (C.make [t] 1).2 1 (.slice (some (C.next, 0, 0)) 0 1 1 0) [t] := own_built C rfl
  have x5 := ext_make C [t] 1
  generalize (C.make [t] 1).2 = C1 at *
  have hsC1 : Bs C1 t l := Sl.ext x5 hsC
  have hfC1 : Bs C1 f (frame l) := Sl.ext x5 hfC
  refine (wrap_spec p5.sl (ls := [l]) ⟨hsC1, trivial⟩ (by simp) (by simp; omega)).mono fun f2 C2 h => ?_
  simp only [List.flatten_cons, List.flatten_nil, List.append_nil] at h
  rcases h with ⟨_, x6, o6⟩ | ⟨hgt, _⟩
  rotate_left
  · omega
  have hsC2 : Bs C2 t l := Sl.ext x6 hsC1
  have hfC2 : Bs C2 f (frame l) := Sl.ext x6 hfC1
  simp [e0, o6.sl.text, hfC2.text, hfC1.text, hfC.text, hfB.text, o4.sl.text, InAll, AV.beq]
  simp [ops_callf, allKnown, hfC2.allKnown]
  have hfl : (frame l).length = l.length + 7 := frame_length l
  refine (one_spec hfC2 (by omega)).mono fun r2 G h => ?_
  obtain ⟨x7, h⟩ := h
  rw [one_frame (by omega)] at h
  obtain ⟨v, rfl, o7⟩ := h
  have hsG : Bs G t l := Sl.ext x7 hsC2
  have hfG : Bs G f (frame l) := Sl.ext x7 hfC2
  simp [ops_callf, allKnown, hfG.allKnown]
  refine (peel_spec hfG (by omega)).mono fun r3 K h => ?_
  obtain ⟨x8, h⟩ := h
  rw [peel_frame_self (by omega)] at h
  obtain ⟨y, rfl, o8⟩ := h
  have hsK : Bs K t l := Sl.ext x8 hsG
  have hfK : Bs K f (frame l) := Sl.ext x8 hfG
  have hvK : OwnB C2.next K v l := o7.ext x8
  have hlf := hfK.lenV
  rw [hfl] at hlf
  have hlv := Bs.lenV hvK.sl
  have hneq := neq_nat .i64 (l.length + 7) (l.length + 7)
  rw [decide_eq_false (by simp)] at hneq
  generalize l.length + 7 = k7 at *
  simp [e0, hvK.sl.text, hsK.text, hlf, o8.sl.text, hneq, -bin_neq, hlv]
  refine Wp.loopK (fun d E A' => C2.Ext A' ∧ Env.at E 0 = t ∧ Env.at E 6 = f ∧ Env.at E 7 = v ∧ Env.at E 81 = .int .i64 l.length ∧ ∃ (j : Nat) (lx : List UInt8), Env.at E 82 = .int .i64 j ∧ j + d = l.length ∧ lx.length = l.length ∧ OwnB C2.next A' v lx) l.length ?_ ?_
  · exact ⟨x7.trans x8, by simp [e0], by simp, by simp, by simp, 0, l, by simp, by simp, rfl, hvK⟩
  rintro d E M ⟨xM, e0, e6, e7, e81, j, lx, e82, hj, hlx, hvM⟩
  simp [e81, e82, lss_nat, -bin_lss]
  refine contC_of (fun hc => ?_) (fun hc => ?_)
  · simp at hc
    have hcj := List.getElem?_eq_getElem (l := lx) (i := j) (by omega)
    generalize lx[j] = c at *
    obtain ⟨d1, _, ed⟩ := flip_byte c (k := 0) (b := 1) (by decide) rfl
    obtain ⟨p, M2, g1, g2, g3, g4, g5⟩ := OwnB.at_store hvM hcj .i64 d1
    have ea := add_one (i := j) (by omega)
    simp at ed
    simp [e82, e7, g1, g2, ed, g3, ea, -bin_add]
    refine ⟨d - 1, by omega, g5.ext xM hvM, e0, e6, e81, j + 1, by omega, by omega, lx.set j d1, by rw [List.length_set]; exact hlx, g4⟩
  · simp at hc
    have hsM : Bs M t l := Sl.ext xM hsC2
    have hfM : Bs M f (frame l) := Sl.ext xM hfC2
    simp [e6, ops_callf, allKnown, hfM.allKnown]
    refine (one_spec hfM (by rw [frame_length]; omega)).mono fun r2 G h => ?_
    obtain ⟨x9, h⟩ := h
    rw [one_frame (by omega)] at h
    obtain ⟨z, rfl, o9⟩ := h
    have hsG : Bs G t l := Sl.ext x9 hsM
    simp [e0, o9.sl.text, hsG.text, ops_callf, allKnown]
    refine (awake_spec G).mono fun r3 C3 ⟨x4, h⟩ => ?_
    subst h
    simp
end Go.Proofs.Ytdgcflackljecaa
