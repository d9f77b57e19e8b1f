/- What the program's first frame comes to. -/
import Derived.Test.YtdgcflackljecaaCrcSum
import Derived.Test.YtdgcflackljecaaCrcSmall
import Derived.Test.YtdgcflackljecaaAmTr
namespace Go.Proofs.Ytdgcflackljecaa
open Go.AM
set_option maxRecDepth 100000
set_option linter.unusedSimpArgs false
variable {D : Disp} {X : Calls'}

/-- What a first frame tells: its body, one's own, and how long it is. -/
def PeelR (A : St) (l : List UInt8) (r : AV) (B : St) : Prop := A.Ext B ∧ match peel l with
  | some m => ∃ v, r = .tuple [v, .int .i64 ((m.length + 7 : Nat) : Int)] ∧ OwnB A.next B v m
  | none => r = .tuple [.slice none 0 0 0 0, .int .i64 0]

theorem peel_spec {A : St} {s : AV} {l : List UInt8} (hs : Bs A s l) (hl : l.length < 2 ^ 40) :
    Ev D T.nil fns X 16 [s] A (PeelR A l) := by
  refine Ev.fnK (fn := a16) rfl ⟨by simp [a16], by decide⟩ ?_
  unfold a16
  have el := lss_nat .i64 l.length 7
  simp [-bin_lss] at el
  by_cases hc : l.length < 7
  · rw [decide_eq_true hc] at el
    simp [hs.lenV, el, -bin_lss, PeelR, peel_short hc]
    exact St.Ext.refl A
  rw [decide_eq_false hc] at el
  obtain ⟨c0, c1, c2, t, hl3⟩ := three_of (Nat.le_of_not_lt hc)
  obtain ⟨p0, a0, b0⟩ := hs.at_one (j := 0) (v := byteV c0) (by rw [hl3]; rfl) .i64
  obtain ⟨p1, a1, b1⟩ := hs.at_one (j := 1) (v := byteV c1) (by rw [hl3]; rfl) .i64
  obtain ⟨p2, a2, b2⟩ := hs.at_one (j := 2) (v := byteV c2) (by rw [hl3]; rfl) .i64
  have em : binOf .neq (byteV c0) (.int .u8 167) = some (.bool (decide (c0 ≠ 167))) := neq_byte c0 167
  simp at a0 a1 a2
  by_cases h0 : c0 ≠ 167
  · have hbad : peel l = none := by
      rw [hl3, peel_cons, if_neg]
      exact fun h => h0 h.2.2.1
    rw [decide_eq_true h0] at em
    simp [hs.lenV, el, a0, b0, em, -bin_lss, -bin_neq, PeelR, hbad]
    exact St.Ext.refl A
  have h0 : c0 = 167 := Decidable.not_not.1 h0
  rw [decide_eq_false (fun h => h h0)] at em
  simp [hs.lenV, el, a0, b0, em, -bin_lss, -bin_neq]
  refine Wp.draws ?_
  obtain ⟨y, hy, ey⟩ := shl_byte c1
  obtain ⟨n, hn, en⟩ := or_byte c1 c2 hy
  have hnl := lenOf_lt c1 c2
  rw [← hn] at hnl
  have eg := gtr_nat .i64 n 16384
  obtain ⟨z1, hz1, ez1⟩ := sub_nat (a := l.length) (b := 3) (by omega) (by omega)
  obtain ⟨z2, hz2, ez2⟩ := sub_nat (a := z1) (b := 4) (by omega) (by omega)
  have e2 := gtr_nat .i64 n z2
  obtain ⟨w, hw, ew⟩ := add_nat (a := 3) (b := n) (by omega) (by omega)
  obtain ⟨z, hz, ez⟩ := add_nat (a := w) (b := 4) (by omega) (by omega)
  simp [-bin_gtr, -bin_add, -bin_sub] at eg ez ew ez1 ez2
  have hbad : ¬ (n ≤ 16384 ∧ n ≤ z2) → peel l = none := fun h => peel_bad hl3 hn (fun h' => h ⟨h'.1, by omega⟩)
  have hin : ∀ {p : Pl} {c : UInt8}, loadV A 1 false (.ptr (some p)) = some (byteV c) → InAll [A, A, A, A, A, A, A, A, A, A, A, A] 0 11 (fun A' => loadV A' 1 false (AV.ptr (some p))) (byteV c) := fun h => by
    simp [InAll, h, byteV, AV.beq]
  by_cases hbig : n ≤ 16384
  · rw [decide_eq_false (by omega)] at eg
    by_cases hfit : n ≤ z2
    · rw [decide_eq_false (by omega)] at e2
      simp [a1, a2, b1, b2, conv_byte64, ey, en, eg, e2, ez1, ez2, hs.lenV, -convV_int, -bin_add, -bin_mul, -bin_gtr, -bin_lss, -bin_sub]
      refine ⟨⟨hin b1, hin b2⟩, ?_⟩
      obtain ⟨s1, g1, g2, g3⟩ := Sl.cutTo hs (hi := w) (by rw [hs.len]; omega) (j := .i64)
      obtain ⟨s2, d1, d2, d3⟩ := Sl.cut hs (lo := w) (hi := z) (by omega) (by rw [hs.len]; omega) (k := .i64) (j := .i64)
      obtain ⟨s3, f1, f2, f3⟩ := Sl.cut hs (lo := 3) (hi := w) (by omega) (by rw [hs.len]; omega) (k := .i64) (j := .i64)
      simp at f1
      rw [Nat.mul_one, bytesV_take] at g3
      rw [Nat.mul_one, Nat.mul_one, bytesV_take, bytesV_drop] at d3 f3
      have hpf := peel_sum hl3 hn h0 hbig (by omega)
      rw [← hw, show n + 7 = z by omega] at hpf
      have hml : ((l.take w).drop 3).length = n := by rw [List.length_drop, List.length_take]; omega
      have hwl : (l.take w).length ≤ l.length := by rw [List.length_take]; omega
      generalize (l.take w).drop 3 = m at *
      generalize l.take w = hd at *
      generalize (l.take z).drop w = tl at *
      simp [ew, g1, g3.notBot, g3.cells, fillA, splice, Made.value, ops_callf, allKnown, -bin_add]
      have ho1 : Own A.next (A.make [s1] 1).2 1 (.slice (some (A.next, 0, 0)) 0 1 1 0) [s1] := own_built A rfl
      have x1 := ext_make A [s1] 1
      generalize (A.make [s1] 1).2 = A1 at *
      refine (sum_spec (ls := [hd]) ho1.sl ⟨Sl.ext x1 g3, trivial⟩ (by simp) (by simp; omega)).mono fun r B ⟨q1, q2⟩ => ?_
      rw [q1, q2]
      simp only [List.flatten_cons, List.flatten_nil, List.append_nil]
      have hlt := crcSum_lt hd
      generalize crcSum hd = S at *
      obtain ⟨q1, hq1, eq1⟩ := shr_nat (k := .u32) (j := .u64) (a := S) (s := 24) (by decide)
      obtain ⟨q2, hq2, eq2⟩ := shr_nat (k := .u32) (j := .u64) (a := S) (s := 16) (by decide)
      obtain ⟨q3, hq3, eq3⟩ := shr_nat (k := .u32) (j := .u64) (a := S) (s := 8) (by decide)
      simp at eq1 eq2 eq3
      have hcs2 : [byteV (UInt8.ofNat q1), byteV (UInt8.ofNat q2), byteV (UInt8.ofNat q3), byteV (UInt8.ofNat S)] = bytesV (sumOf S) := by rw [hq1, hq2, hq3]; rfl
      simp [ez, d1, eq1, eq2, eq3, conv_u8, -convV_int, fillA, splice, Made.value, ops_callf, allKnown, d3.allKnown, -bin_add, hcs2]
      have ho2 : Own A1.next (A1.make (bytesV (sumOf S)) 1).2 1 (.slice (some (A1.next, 0, 0)) 0 4 4 0) (bytesV (sumOf S)) := own_built A1 (by simp [sumOf])
      have x2 := ext_make A1 (bytesV (sumOf S)) 1
      generalize (A1.make (bytesV (sumOf S)) 1).2 = A2 at *
      have x12 := x1.trans x2
      refine (equal_spec (Sl.ext x12 d3) ho2.sl).mono fun r B ⟨q1, q2⟩ => ?_
      rw [← q1, q2]
      simp
      refine contC_of (fun hc => ?_) (fun hc => ?_)
      · simp at hc
        rw [if_neg hc] at hpf
        simp [PeelR, hpf]
        exact x12
      · simp at hc
        rw [if_pos hc] at hpf
        simp [f1, ops_callf, allKnown, f3.allKnown]
        refine (clone_spec (Sl.ext x12 f3) (by omega)).mono fun r B ⟨x3, o3⟩ => ?_
        simp [ez, -bin_add, o3.sl.known, PeelR, hpf]
        exact ⟨x12.trans x3, r, ⟨rfl, by omega⟩, o3.mono x12.next⟩
    · rw [decide_eq_true (by omega)] at e2
      simp [a1, a2, b1, b2, conv_byte64, ey, en, eg, e2, ez1, ez2, hs.lenV, -convV_int, -bin_add, -bin_mul, -bin_gtr, -bin_lss, -bin_sub, PeelR, hbad (fun h => hfit h.2)]
      exact ⟨⟨hin b1, hin b2⟩, St.Ext.refl A⟩
  · rw [decide_eq_true (by omega)] at eg
    simp [a1, a2, b1, b2, conv_byte64, ey, en, eg, -convV_int, -bin_add, -bin_mul, -bin_gtr, PeelR, hbad (fun h => hbig h.1)]
    exact ⟨⟨hin b1, hin b2⟩, St.Ext.refl A⟩
end Go.Proofs.Ytdgcflackljecaa
