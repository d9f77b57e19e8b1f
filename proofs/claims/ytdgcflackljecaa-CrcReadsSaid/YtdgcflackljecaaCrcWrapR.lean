/- What the document's frame comes to. -/
import Derived.Test.YtdgcflackljecaaCrcRef
import Derived.Test.YtdgcflackljecaaCrcSmall
namespace Go.Proofs.Ytdgcflackljecaa
open Go.AM
set_option maxRecDepth 100000
set_option linter.unusedSimpArgs false
variable {D : Disp} {X : Calls'}

theorem refWrap_long {A : St} {s : AV} {l : List UInt8} (hs : Bs A s l) (hl : 16384 < l.length) :
    Ev D T.nil fns X 14 [s] A fun r B => A = B ∧ r = .slice none 0 0 0 0 := by
  refine Ev.fnK (fn := a14) rfl ⟨by simp [a14], by decide⟩ ?_
  unfold a14
  simp [hs.lenV]
  refine contC_of (fun hc => ?_) (fun hc => ?_)
  · simp
  · simp at hc; omega

theorem refWrap_spec {A : St} {s : AV} {l : List UInt8} (hs : Bs A s l) (hl : l.length ≤ 16384) :
    Ev D T.nil fns X 14 [s] A fun r B => A.Ext B ∧ OwnB A.next B r (frame l) := by
  refine Ev.fnK (fn := a14) rfl ⟨by simp [a14], by decide⟩ ?_
  unfold a14
  simp [hs.lenV]
  refine contC_of (fun hc => ?_) (fun hc => ?_)
  · simp at hc; omega
  · obtain ⟨q, hq, eq⟩ := quo_i64 (a := l.length) (b := 256) (by decide) (by omega)
    obtain ⟨m, hm, em⟩ := rem_nat (k := .i64) (a := l.length) (b := 256) (by decide)
    simp at eq em
    simp [hs.lenV, eq, em, conv_u8, -convV_int, fillA, splice, Made.value]
    have hcs : [AV.int .u8 167, byteV (UInt8.ofNat q), byteV (UInt8.ofNat m)] = bytesV [167, UInt8.ofNat q, UInt8.ofNat m] := rfl
    rw [hcs]
    have ho : Own A.next (A.make (bytesV [167, UInt8.ofNat q, UInt8.ofNat m]) 1).2 1 (.slice (some (A.next, 0, 0)) 0 3 3 0) (bytesV [167, UInt8.ofNat q, UInt8.ofNat m]) := by
      exact own_built A (by simp)
    have x1 := ext_make A (bytesV [167, UInt8.ofNat q, UInt8.ofNat m]) 1
    generalize (A.make (bytesV [167, UInt8.ofNat q, UInt8.ofNat m]) 1).2 = A1 at *
    have hs1 := Sl.ext x1 hs
    obtain ⟨s1, A2, h1, h2, h3, h4, h5⟩ := appendV_own (bytes := 1) ho hs1 x1.next (by decide) (bytesV_flat l) (by rw [slen_slice, hs.len]; omega) (by rw [slen_slice, hs.len]; omega)
    have x2 := h4.ext x1 ho
    rw [← bytesV_append, show [167, UInt8.ofNat q, UInt8.ofNat m] ++ l = headOf l by rw [hq, hm]; rfl] at h3
    have hlen : (headOf l).length = l.length + 3 := rfl
    simp [h1, ops_callf, h3.sl.allKnown, allKnown, h3.sl.allKnown]
    refine (refSum_spec (l := headOf l) h3.sl (by omega)).mono fun r B ⟨e1, e2⟩ => ?_
    subst e1; subst e2
    have hlt := crcSum_lt (headOf l)
    have hfr : frame l = headOf l ++ sumOf (crcSum (headOf l)) := rfl
    generalize crcSum (headOf l) = S at *
    obtain ⟨q1, hq1, eq1⟩ := quo_u32 (a := S) (b := 16777216) (by decide) hlt
    obtain ⟨q2, hq2, eq2⟩ := quo_u32 (a := S) (b := 65536) (by decide) hlt
    obtain ⟨q3, hq3, eq3⟩ := quo_u32 (a := S) (b := 256) (by decide) hlt
    simp at eq1 eq2 eq3
    simp [eq1, eq2, eq3, conv_u8, -convV_int, fillA, splice, Made.value]
    have hcs2 : [byteV (UInt8.ofNat q1), byteV (UInt8.ofNat q2), byteV (UInt8.ofNat q3), byteV (UInt8.ofNat S)] = bytesV (sumOf S) := by rw [hq1, hq2, hq3]; rfl
    rw [hcs2]
    have ho2 : Own A2.next (A2.make (bytesV (sumOf S)) 1).2 1 (.slice (some (A2.next, 0, 0)) 0 4 4 0) (bytesV (sumOf S)) := by
      exact own_built A2 (by simp [sumOf])
    have x3 := ext_make A2 (bytesV (sumOf S)) 1
    generalize (A2.make (bytesV (sumOf S)) 1).2 = A3 at *
    have h3' := h3.ext x3
    have hl1 : s1.slen = l.length + 3 := by rw [Bs.len h3.sl, hlen]
    obtain ⟨s4, A4, k1, k2, k3, k4, k5⟩ := appendV_own (bytes := 1) h3' ho2.sl (Nat.le_trans x2.next x3.next) (by decide) (bytesV_flat _) (by rw [hl1, slen_slice]; omega) (by rw [hl1, slen_slice]; omega)
    simp [k1, k3.sl.known]
    refine ⟨k4.ext (x2.trans x3) h3', ?_⟩
    rw [hfr]
    show Own A.next A4 1 s4 (bytesV (headOf l ++ sumOf S))
    rw [bytesV_append]
    exact k3
end Go.Proofs.Ytdgcflackljecaa
