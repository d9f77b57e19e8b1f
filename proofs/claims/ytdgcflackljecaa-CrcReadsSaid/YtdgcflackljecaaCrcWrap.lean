/- What the program's frame comes to. -/
import Derived.Test.YtdgcflackljecaaCrcSum
import Derived.Test.YtdgcflackljecaaCrcSmall
namespace Go.Proofs.Ytdgcflackljecaa
open Go.AM
set_option maxRecDepth 100000
set_option linter.unusedSimpArgs false
attribute [-simp] List.length_flatten
variable {D : Disp} {X : Calls'}

theorem wrap_spec {A : St} {s : AV} {ps : List AV} {ls : List (List UInt8)} (hs : Sl A 1 s ps) (hp : PartsB A ps ls) (hl : ps.length < 2 ^ 40) (hll : ∀ l ∈ ls, l.length < 2 ^ 40) :
    Ev D T.nil fns X 13 [s] A fun r B => (ls.flatten.length ≤ 16384 ∧ A.Ext B ∧ OwnB A.next B r (frame ls.flatten)) ∨ (16384 < ls.flatten.length ∧ A = B ∧ r = .slice none 0 0 0 0) := by
  refine Ev.fnK (fn := a13) rfl ⟨by simp [a13], by decide⟩ ?_
  unfold a13
  simp [hs.lenV1]
  refine Wp.loopK (fun d E A' => A = A' ∧ Env.at E 0 = s ∧ Env.at E 10 = s ∧ Env.at E 11 = .int .i64 ps.length ∧ ∃ i : Nat, Env.at E 12 = .int .i64 i ∧ i + d = ps.length ∧ (ls.take i).flatten.length ≤ 16384 ∧ Env.at E 3 = .int .i64 (ls.take i).flatten.length) ps.length ?_ ?_
  · exact ⟨rfl, by simp, by simp, by simp, 0, by simp, by simp, by simp, by simp⟩
  rintro d E _ ⟨rfl, e0, e10, e11, i, e12, hi, hn, e3⟩
  simp [e12, e11, lss_nat, -bin_lss]
  refine contC_of (fun hc => ?_) (fun hc => ?_)
  · simp at hc
    obtain ⟨v, l, hv, hl', hb⟩ := hp.get hc
    obtain ⟨p, h1, h2⟩ := hs.at_one hv .i64
    have hln := hll l (List.mem_of_getElem? hl')
    have htk := take_flatten_succ hl'
    have hnn : (ls.take (i + 1)).flatten.length = (ls.take i).flatten.length + l.length := by rw [htk, List.length_append]
    have hle : (ls.take (i + 1)).flatten.length ≤ ls.flatten.length := by
      conv => rhs; rw [← List.take_append_drop (i + 1) ls, List.flatten_append, List.length_append]
      omega
    generalize (ls.take i).flatten.length = n at *
    obtain ⟨y, hy, ey⟩ := sub_nat (a := 16384) (b := n) hn (by decide)
    obtain ⟨z, hz, ez⟩ := add_nat (a := n) (b := l.length) (by omega) (by omega)
    have ea := add_one (i := i) (by omega)
    simp [-bin_sub] at ey
    simp [e10, e12, h1, h2, hb.lenV, e3, ey, -bin_sub]
    refine contC_of (fun hc2 => ?_) (fun hc2 => ?_)
    · simp at hc2
      simp
      omega
    · simp at hc2
      simp [e3, hb.lenV, ez, e12, ea, -bin_add]
      exact ⟨d - 1, by omega, e0, e10, e11, i + 1, by omega, by omega, by omega, by omega⟩
  · simp at hc
    have hil : i = ls.length := by rw [← hp.length]; omega
    rw [hil, List.take_length] at hn e3
    generalize hL : ls.flatten = L at *
    generalize hN : L.length = n at *
    obtain ⟨y, hy, ey⟩ := add_nat (a := n) (b := 3) (by omega) (by omega)
    obtain ⟨z, hz, ez⟩ := add_nat (a := y) (b := 4) (by omega) (by omega)
    obtain ⟨q, hq, eq⟩ := shr_nat (k := .i64) (j := .u64) (a := n) (s := 8) (by decide)
    simp [-bin_add] at ey ez
    simp at eq
    have hmk : makeV 1 1 [.int .u8 0] (.int .i64 0) (.int .i64 z) = some ((List.replicate z [AV.int .u8 0]).flatten, 1, .slice 0 z 0) :=
      makeV_nat (l := 0) (Nat.zero_le _) (by omega) (by omega) rfl
    simp [e0, e11, e12, e3, ey, ez, eq, hmk, conv_u8, -convV_int, -bin_add, -bin_lss, fillA, splice, Made.value]
    have hq' : q = n / 256 := hq
    have h3b : [AV.int .u8 167, byteV (UInt8.ofNat q), byteV (UInt8.ofNat n)] = bytesV [167, UInt8.ofNat (n / 256), UInt8.ofNat (n % 256)] := by rw [hq', ofNat_mod]; rfl
    rw [h3b]
    have ho : Own A.next (A.make (List.replicate z (AV.int .u8 0)) 1).2 1 (.slice (some (A.next, 0, 0)) 0 0 z 0) [] := by
      simpa using own_make_exact A (cs := List.replicate z (AV.int .u8 0)) (sz := 1) (n := z) (by simp) (Nat.le_refl _) (len := 0) (Nat.zero_le _)
    have x1 := ext_make A (List.replicate z (AV.int .u8 0)) 1
    generalize (A.make (List.replicate z (AV.int .u8 0)) 1).2 = A1 at *
    have ho3 : Own A1.next (A1.make (bytesV [167, UInt8.ofNat (n / 256), UInt8.ofNat (n % 256)]) 1).2 1 (.slice (some (A1.next, 0, 0)) 0 3 3 0) (bytesV [167, UInt8.ofNat (n / 256), UInt8.ofNat (n % 256)]) := own_built A1 (by simp)
    have x2 := ext_make A1 (bytesV [167, UInt8.ofNat (n / 256), UInt8.ofNat (n % 256)]) 1
    generalize (A1.make (bytesV [167, UInt8.ofNat (n / 256), UInt8.ofNat (n % 256)]) 1).2 = A2 at *
    obtain ⟨s1, A3, h1, h2, h3, h4, h5⟩ := appendV_own (bytes := 1) (ho.ext x2) ho3.sl (Nat.le_trans x1.next x2.next) (by decide) (bytesV_flat _) (by rw [slen_slice, slen_slice]; omega) (by rw [slen_slice, slen_slice]; omega)
    have x3 := h4.ext (x1.trans x2) (ho.ext x2)
    simp [h1, e0, hs.lenV1]
    refine Wp.loopK (fun d E A' => A.Ext A' ∧ Env.at E 37 = s ∧ Env.at E 38 = .int .i64 ps.length ∧ ∃ (i : Nat) (o : AV), Env.at E 39 = .int .i64 i ∧ i + d = ps.length ∧ Env.at E 6 = o ∧ Own A.next A' 1 o (bytesV ([167, UInt8.ofNat (n / 256), UInt8.ofNat (n % 256)] ++ (ls.take i).flatten))) ps.length ?_ ?_
    · exact ⟨x3, by simp, by simp, 0, s1, by simp, by simp, by simp, by simpa using h3⟩
    rintro d E B ⟨xB, f37, f38, i, o, f39, hi, f6, hoB⟩
    simp [f37, f38, f39, lss_nat, -bin_lss]
    refine contC_of (fun hc => ?_) (fun hc => ?_)
    · simp at hc
      obtain ⟨v, l, hv, hl', hb⟩ := (hp.ext xB).get hc
      obtain ⟨p, g1, g2⟩ := (Sl.ext xB hs).at_one hv .i64
      have htk := take_flatten_succ hl'
      have hle : (ls.take (i + 1)).flatten.length ≤ n := by
        rw [← hN, ← hL]
        conv => rhs; rw [← List.take_append_drop (i + 1) ls, List.flatten_append, List.length_append]
        omega
      rw [htk, List.length_append] at hle
      have ea := add_one (i := i) (by omega)
      have hol := Bs.len hoB.sl
      simp only [List.length_append, List.length_cons, List.length_nil] at hol
      obtain ⟨s2, B2, k1, k2, k3, k4, k5⟩ := appendV_own (bytes := 1) hoB hb xB.next (by decide) (bytesV_flat _) (by rw [hol, Bs.len hb]; omega) (by rw [hol, Bs.len hb]; omega)
      simp [f37, f38, f39, f6, g1, g2, k1, ea, -bin_add]
      refine ⟨d - 1, by omega, k4.ext xB hoB, i + 1, by omega, by omega, ?_⟩
      rw [htk]
      show Own A.next B2 1 s2 (bytesV (([167, UInt8.ofNat (n / 256), UInt8.ofNat (n % 256)] ++ (ls.take i).flatten) ++ l))
      rw [bytesV_append]
      exact k3
    · simp at hc
      have hil : i = ls.length := by rw [← hp.length]; omega
      rw [hil, List.take_length, hL] at hoB
      have hhd : [167, UInt8.ofNat (n / 256), UInt8.ofNat (n % 256)] ++ L = headOf L := by rw [← hN]; rfl
      rw [hhd] at hoB
      have hlen : (headOf L).length = n + 3 := by rw [← hN]; rfl
      have hol := Bs.len hoB.sl
      rw [hlen] at hol
      simp [f6, fillA, splice, Made.value, hoB.sl.cells, hoB.sl.notBot, allKnown, ops_callf]
      have hp1 : Sl (B.make [o] 1).2 1 (.slice (some (B.next, 0, 0)) 0 1 1 0) [o] := (own_built B (cs := [o]) rfl).sl
      have xB1 := ext_make B [o] 1
      generalize (B.make [o] 1).2 = B1 at *
      refine (sum_spec (ls := [headOf L]) hp1 ⟨Sl.ext xB1 hoB.sl, trivial⟩ (by simp) (by simp [hlen]; omega)).mono fun r B' ⟨e1, e2⟩ => ?_
      rw [e1, e2]
      simp only [List.flatten_cons, List.flatten_nil, List.append_nil]
      have hlt := crcSum_lt (headOf L)
      have hfr : frame L = headOf L ++ sumOf (crcSum (headOf L)) := rfl
      generalize crcSum (headOf L) = S at *
      obtain ⟨q1, hq1, eq1⟩ := shr_nat (k := .u32) (j := .u64) (a := S) (s := 24) (by decide)
      obtain ⟨q2, hq2, eq2⟩ := shr_nat (k := .u32) (j := .u64) (a := S) (s := 16) (by decide)
      obtain ⟨q3, hq3, eq3⟩ := shr_nat (k := .u32) (j := .u64) (a := S) (s := 8) (by decide)
      simp at eq1 eq2 eq3
      simp [f6, eq1, eq2, eq3, conv_u8, -convV_int, fillA, splice, Made.value]
      have hcs2 : [byteV (UInt8.ofNat q1), byteV (UInt8.ofNat q2), byteV (UInt8.ofNat q3), byteV (UInt8.ofNat S)] = bytesV (sumOf S) := by rw [hq1, hq2, hq3]; rfl
      rw [hcs2]
      have hoB1 := hoB.ext xB1
      have ho2 : Own B1.next (B1.make (bytesV (sumOf S)) 1).2 1 (.slice (some (B1.next, 0, 0)) 0 4 4 0) (bytesV (sumOf S)) := by
        exact own_built B1 (by simp [sumOf])
      have x4 := ext_make B1 (bytesV (sumOf S)) 1
      generalize (B1.make (bytesV (sumOf S)) 1).2 = B2 at *
      have xB2 := (xB.trans xB1).trans x4
      obtain ⟨s4, B3, k1, k2, k3, k4, k5⟩ := appendV_own (bytes := 1) (hoB1.ext x4) ho2.sl xB2.next (by decide) (bytesV_flat _) (by rw [hol, slen_slice]; omega) (by rw [hol, slen_slice]; omega)
      simp [k1, k3.sl.known]
      refine Or.inl ⟨hn, k4.ext xB2 (hoB1.ext x4), ?_⟩
      rw [hfr]
      show Own A.next B3 1 s4 (bytesV (headOf L ++ sumOf S))
      rw [bytesV_append]
      exact k3
end Go.Proofs.Ytdgcflackljecaa
