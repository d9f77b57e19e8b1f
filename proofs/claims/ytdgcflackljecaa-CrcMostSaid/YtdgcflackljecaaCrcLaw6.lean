/- The fourth law: the greatest body. -/
import Derived.Test.YtdgcflackljecaaCrcArg
import Derived.Test.YtdgcflackljecaaCrcAwake
namespace Go.Proofs.Ytdgcflackljecaa
open Go.AM
set_option maxRecDepth 100000
set_option linter.unusedSimpArgs false
attribute [-simp] List.length_flatten
variable {D : Disp} {X : Calls'}

theorem law6 {A : St} {over cut : Int} :
    Ev D T.nil fns X 6 [.int .i64 over, .int .i64 cut] A fun r _ => r = .bool true := by
  refine Ev.fnK (fn := a6) rfl ⟨by simp [a6], by decide⟩ ?_
  unfold a6
  obtain ⟨r1, er, hr1, hr2⟩ := rem_int over (b := 30) (by decide)
  obtain ⟨n, hn, en⟩ : ∃ n : Nat, (n : Int) = 16384 + r1 ∧ binOf .add (.int .i64 16384) (.int .i64 r1) = some (.int .i64 n) :=
    ⟨(16384 + r1).toNat, by omega, by rw [bin_add, wrap_i64 (by omega) (by omega)]; congr 2; omega⟩
  obtain ⟨r2, er2, hr3, hr4⟩ := rem_int cut (b := n) (by omega)
  have hmk : makeV 1 1 [.int .u8 0] (.int .i64 n) (.int .i64 n) = some ((List.replicate n [AV.int .u8 0]).flatten, 1, .slice n n 0) :=
    makeV_nat (l := n) (Nat.le_refl _) (by omega) (by omega) rfl
  have hfl : (List.replicate n [AV.int .u8 0]).flatten = bytesV (List.replicate n 0) := by
    rw [show [AV.int .u8 0] = bytesV [0] from rfl]
    clear hmk er2 en hn hr3 hr4
    induction n with
    | zero => rfl
    | succ n ih => rw [List.replicate_succ, List.flatten_cons, ih, List.replicate_succ]; rfl
  rw [hfl] at hmk
  simp at er
  simp [er, en, hmk, er2, -bin_add, Made.value]
  have ho : Own A.next (A.make (bytesV (List.replicate n 0)) 1).2 1 (.slice (some (A.next, 0, 0)) 0 n n 0) (bytesV (List.replicate n 0)) := own_built A (by simp)
  have x1 := ext_make A (bytesV (List.replicate n 0)) 1
  generalize (A.make (bytesV (List.replicate n 0)) 1).2 = A1 at *
  have hll : (List.replicate n (0 : UInt8)).length = n := by simp
  generalize List.replicate n (0 : UInt8) = l at *
  have hs : Bs A1 (.slice (some (A.next, 0, 0)) 0 n n 0) l := ho.sl
  generalize AV.slice (some (A.next, 0, 0)) 0 n n 0 = t at *
  refine contC_join (fun E A' => A1 = A' ∧ Env.at E 5 = t ∧ ∃ i : Nat, i < n ∧ Env.at E 1 = .int .i64 i) (fun hc => ?_) (fun hc => ?_) ?_
  · simp at hc
    obtain ⟨i, hi, ei⟩ := neg_int hr3 hc (by omega)
    simp [ei]
    exact ⟨i, hi, rfl⟩
  · simp at hc
    simp
    exact ⟨r2.toNat, by omega, by rw [Int.toNat_of_nonneg hc]⟩
  rintro E _ ⟨rfl, e5, i, hi, e1⟩
  simp
  refine Wp.draws ?_
  obtain ⟨s1, g1, g2, g3⟩ := Sl.cutTo hs (hi := i) (by rw [hs.len]; omega) (j := .i64)
  obtain ⟨s3, f1, f2, f3⟩ := Sl.cutFrom hs (lo := i) (by rw [hs.len]; omega) (k := .i64)
  rw [Nat.mul_one, bytesV_take] at g3
  rw [Nat.mul_one, bytesV_drop] at f3
  simp [e5, e1, g1, f1, fillA, splice, Made.value, g3.cells, g3.notBot, f3.cells, f3.notBot, opsD_callf, allKnown]
  have p2 : Own A1.next (A1.make [s1, s3] 1).2 1 (.slice (some (A1.next, 0, 0)) 0 2 2 0) [s1, s3] := own_built A1 rfl
  have x2 := ext_make A1 [s1, s3] 1
  generalize (A1.make [s1, s3] 1).2 = A2 at *
  have hcat : [l.take i, l.drop i].flatten = l := by simp
  have hln : ∀ q ∈ [l.take i, l.drop i], q.length < 2 ^ 40 := by
    intro q hq
    have : q.length ≤ n := by
      simp only [List.mem_cons, List.not_mem_nil, or_false] at hq
      rcases hq with rfl | rfl
      · rw [List.length_take]; omega
      · rw [List.length_drop]; omega
    omega
  refine (wrap_spec p2.sl (ls := [l.take i, l.drop i]) ⟨Sl.ext x2 g3, Sl.ext x2 f3, trivial⟩ (by simp) hln).mono fun r B h => ?_
  rw [hcat, hll] at h
  have hg := gtr_nat .i64 n 16384
  simp [-bin_gtr] at hg
  rcases h with ⟨hle, x3, o3⟩ | ⟨hgt, rfl, rfl⟩
  · rw [decide_eq_false (by omega)] at hg
    have hs3 : Bs B t l := Sl.ext (x2.trans x3) hs
    have hlv := hs3.lenV
    rw [hll] at hlv
    simp [e5, hlv, hg, -bin_gtr, ops_callf, allKnown, o3.sl.allKnown]
    refine (one_spec o3.sl (by rw [frame_length]; omega)).mono fun r2 C h => ?_
    obtain ⟨x4, h⟩ := h
    rw [one_frame (by omega)] at h
    obtain ⟨v, rfl, o4⟩ := h
    have hv := Bs.lenV o4.sl
    have ht := Bs.lenV (Sl.ext x4 hs3)
    rw [hll] at hv ht
    simp [e5, hv, ht, ops_callf, allKnown]
    refine (awake_spec C).mono fun r3 C3 ⟨x4, h⟩ => ?_
    subst h
    simp
  · rw [decide_eq_true (by omega)] at hg
    have hlv := Bs.lenV (Sl.ext x2 hs)
    rw [hll] at hlv
    simp [e5, hlv, hg, -bin_gtr, ops_callf, allKnown]
    refine (awake_spec A2).mono fun r3 C3 ⟨x4, h⟩ => ?_
    subst h
    simp
end Go.Proofs.Ytdgcflackljecaa
