/- The chapter's example. -/
import Derived.Test.YtdgcflackljecaaCrcWrap
import Derived.Test.YtdgcflackljecaaCrcFlip
import Derived.KernelRfl
namespace Go.Proofs.Ytdgcflackljecaa
open Go.AM
set_option maxRecDepth 100000
set_option linter.unusedSimpArgs false
variable {D : Disp} {X : Calls'}

theorem sum_digits : crcSum [49, 50, 51, 52, 53, 54, 55, 56, 57] = 3808858755 := by kernel_rfl
theorem frame_a0 : (frame [97])[0]? = some 167 := rfl
theorem frame_a2 : (frame [97])[2]? = some 1 := rfl

theorem awake_spec (A : St) : Ev D T.nil fns X 12 [] A fun r B => A.Ext B ∧ r = .bool true := by
  refine Ev.fnK (fn := a12) rfl ⟨by simp [a12], by decide⟩ ?_
  unfold a12
  have h0 : [AV.int .u8 97] = bytesV [97] := rfl
  have hd : [AV.int .u8 49, AV.int .u8 50, AV.int .u8 51, AV.int .u8 52, AV.int .u8 53, AV.int .u8 54, AV.int .u8 55, AV.int .u8 56, AV.int .u8 57] = bytesV [49, 50, 51, 52, 53, 54, 55, 56, 57] := rfl
  simp [fillA, splice, Made.value, h0]
  have o1 : Own A.next (A.make (bytesV [97]) 1).2 1 (.slice (some (A.next, 0, 0)) 0 1 1 0) (bytesV [97]) := own_built A rfl
  have m1 := mark_made A (cs := bytesV [97]) (sz := 1) (n := 1) (by decide) (by simp) (po := 0) (cap := 1) (q := 0)
  have x1 := ext_make A (bytesV [97]) 1
  generalize (A.make (bytesV [97]) 1).2 = A1 at *
  simp [m1, fillA, splice, Made.value]
  have o2 : Own A1.next (A1.make [AV.slice (some (A.next, 0, 0)) 0 1 1 0] 1).2 1 (.slice (some (A1.next, 0, 0)) 0 1 1 0) [AV.slice (some (A.next, 0, 0)) 0 1 1 0] := own_built A1 rfl
  have x2 := ext_make A1 [AV.slice (some (A.next, 0, 0)) 0 1 1 0] 1
  generalize (A1.make [AV.slice (some (A.next, 0, 0)) 0 1 1 0] 1).2 = A2 at *
  simp [ops_callf, allKnown]
  refine (wrap_spec (ls := [[97]]) o2.sl ⟨Sl.ext x2 o1.sl, trivial⟩ (by simp) (by simp)).mono fun r B h => ?_
  rcases h with ⟨_, x3, o3⟩ | ⟨h, _⟩
  rotate_left
  · simp at h
  simp only [List.flatten_cons, List.flatten_nil, List.append_nil] at o3
  simp [ops_callf, allKnown, o3.sl.allKnown]
  refine (one_spec o3.sl (by rw [frame_length]; simp)).mono fun r2 C h => ?_
  obtain ⟨x4, h⟩ := h
  rw [one_frame (by simp)] at h
  obtain ⟨v, rfl, o4⟩ := h
  simp [fillA, splice, Made.value, hd]
  have p1 : Own C.next (C.make (bytesV [49, 50, 51, 52, 53, 54, 55, 56, 57]) 1).2 1 (.slice (some (C.next, 0, 0)) 0 9 9 0) (bytesV [49, 50, 51, 52, 53, 54, 55, 56, 57]) := own_built C rfl
  have m2 := mark_made C (cs := bytesV [49, 50, 51, 52, 53, 54, 55, 56, 57]) (sz := 1) (n := 9) (by decide) (by simp) (po := 0) (cap := 9) (q := 0)
  have x5 := ext_make C (bytesV [49, 50, 51, 52, 53, 54, 55, 56, 57]) 1
  generalize (C.make (bytesV [49, 50, 51, 52, 53, 54, 55, 56, 57]) 1).2 = C1 at *
  simp [m2, fillA, splice, Made.value]
  have p2 : Own C1.next (C1.make [AV.slice (some (C.next, 0, 0)) 0 9 9 0] 1).2 1 (.slice (some (C1.next, 0, 0)) 0 1 1 0) [AV.slice (some (C.next, 0, 0)) 0 9 9 0] := own_built C1 rfl
  have x6 := ext_make C1 [AV.slice (some (C.next, 0, 0)) 0 9 9 0] 1
  generalize (C1.make [AV.slice (some (C.next, 0, 0)) 0 9 9 0] 1).2 = C2 at *
  simp [ops_callf, allKnown]
  refine (sum_spec (ls := [[49, 50, 51, 52, 53, 54, 55, 56, 57]]) p2.sl ⟨Sl.ext x6 p1.sl, trivial⟩ (by simp) (by simp)).mono fun r2 C3 ⟨q1, q2⟩ => ?_
  rw [q1, q2]
  simp only [List.flatten_cons, List.flatten_nil, List.append_nil, sum_digits]
  have xC2 := (x4.trans x5).trans x6
  have f1 := Sl.ext xC2 o3.sl
  have f2 := Sl.ext (x5.trans x6) o4.sl
  have hlen := Bs.lenV f1
  rw [frame_length] at hlen
  obtain ⟨p0, a0, b0⟩ := f1.at_one (j := 0) (v := byteV 167) rfl .i64
  obtain ⟨p3, a3, b3⟩ := f1.at_one (j := 2) (v := byteV 1) rfl .i64
  simp at hlen a0 a3
  have z1 : binOf .eql (byteV 167) (.int .u8 167) = some (.bool true) := by simp [byteV]
  have z2 : binOf .eql (byteV 1) (.int .u8 1) = some (.bool true) := by simp [byteV]
  simp [hlen, a0, a3, b0, b3, f2.text, z1, z2]
  exact (x1.trans x2).trans (x3.trans xC2)
end Go.Proofs.Ytdgcflackljecaa
