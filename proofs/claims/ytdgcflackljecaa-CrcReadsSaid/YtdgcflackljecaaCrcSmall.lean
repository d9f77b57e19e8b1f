/- Small functions: short, bytes.Equal, bytes.Clone. -/
import Derived.Test.YtdgcflackljecaaCrcPure
import Derived.Test.YtdgcflackljecaaCrcCode
namespace Go.Proofs.Ytdgcflackljecaa
open Go.AM
set_option maxRecDepth 100000
set_option linter.unusedSimpArgs false
variable {D : Disp} {X : Calls'}

theorem short_spec {A : St} {s : AV} {l : List UInt8} (hs : Bs A s l) :
    Ev D T.nil fns X 9 [s] A fun r B => A = B ∧ Bs A r (l.take 200) := by
  refine Ev.fnK (fn := a9) rfl ⟨by simp [a9], by decide⟩ ?_
  unfold a9
  simp [hs.lenV]
  refine contC_of (fun hc => ?_) (fun hc => ?_)
  · simp at hc
    obtain ⟨s', h1, h2, h3⟩ := Sl.cutTo hs (hi := 200) (by rw [hs.len]; omega) (j := .i64)
    simp at h1
    simp [h1, h3.known]
    simpa [bytesV_take] using h3
  · simp at hc
    simp [hs.known]
    rw [List.take_of_length_le (by omega)]
    exact hs

theorem equal_spec {A : St} {s t : AV} {l k : List UInt8} (hs : Bs A s l) (ht : Bs A t k) :
    Ev D T.nil fns X 19 [s, t] A fun r B => A = B ∧ r = .bool (decide (l = k)) := by
  refine Ev.fnK (fn := a19) rfl ⟨by simp [a19], by decide⟩ ?_
  unfold a19
  simp [hs.text, ht.text]

theorem clone_spec {A : St} {s : AV} {l : List UInt8} (hs : Bs A s l) (hl : l.length < 2 ^ 40) :
    Ev D T.nil fns X 20 [s] A fun r B => A.Ext B ∧ OwnB A.next B r l := by
  refine Ev.fnK (fn := a20) rfl ⟨by simp [a20], by decide⟩ ?_
  unfold a20
  obtain ⟨b, hb, hb'⟩ := nil_test hs
  simp [hb]
  refine contC_of (fun hc => ?_) (fun hc => ?_)
  · have : l = [] := by simpa [bytesV] using hb' hc
    subst this
    simp
    exact ⟨St.Ext.refl A, .nil _ _ _⟩
  · have ho : Own A.next (A.make [] 1).2 1 (.slice (some (A.next, 0, 0)) 0 0 0 0) [] := by simpa using own_make_exact A (cs := []) (sz := 1) (n := 0) (by simp) (Nat.le_refl _) (len := 0) (Nat.le_refl _)
    have hx := Sl.ext (ext_make A [] 1) hs
    obtain ⟨s', B, h1, h2, h3, h4, h5⟩ := appendV_own (bytes := 1) ho hx (Nat.le_succ _) (by decide) (bytesV_flat l) (by have := Bs.len hx; simp [AV.slen] at *; omega) (by have := Bs.len hx; simp [AV.slen] at *; omega)
    simp [fillA, Made.value, h1, h3.sl.known]
    refine ⟨⟨Nat.le_trans (Nat.le_succ _) h4.next, fun f hf => ?_⟩, by simpa using h3⟩
    rw [h4.get f (Nat.lt_succ_of_lt hf) (by simp [AV.into]; omega)]
    exact (ext_make A [] 1).get f hf
end Go.Proofs.Ytdgcflackljecaa
