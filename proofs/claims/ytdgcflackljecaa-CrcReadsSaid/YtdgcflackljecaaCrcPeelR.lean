/- What the document's first frame comes to. -/
import Derived.Test.YtdgcflackljecaaCrcWrapR
import Derived.Test.YtdgcflackljecaaAmTr
namespace Go.Proofs.Ytdgcflackljecaa
open Go.AM
set_option maxRecDepth 100000
set_option linter.unusedSimpArgs false
variable {D : Disp} {X : Calls'}

theorem refPeel_spec {A : St} {s : AV} {l : List UInt8} (hs : Bs A s l) (_hl : l.length < 2 ^ 40) :
    Ev D T.nil fns X 17 [s] A fun r B => A.Ext B ∧ match peel l with
      | some m => ∃ v, r = .tuple [v, .int .i64 ((m.length + 7 : Nat) : Int)] ∧ Bs B v m
      | none => r = .tuple [.slice none 0 0 0 0, .int .i64 0] := by
  refine Ev.fnK (fn := a17) rfl ⟨by simp [a17], by decide⟩ ?_
  unfold a17
  have el := lss_nat .i64 l.length 7
  simp [-bin_lss] at el
  simp [hs.lenV, el, -bin_lss]
  refine contC_of (fun hc => ?_) (fun hc => ?_)
  · simp at hc
    simp [peel_short hc]
    exact St.Ext.refl A
  simp at hc
  obtain ⟨c0, c1, c2, t, hl3⟩ := three_of hc
  obtain ⟨p1, a1, b1⟩ := hs.at_one (j := 1) (v := byteV c1) (by rw [hl3]; rfl) .i64
  obtain ⟨p2, a2, b2⟩ := hs.at_one (j := 2) (v := byteV c2) (by rw [hl3]; rfl) .i64
  obtain ⟨y, hy, ey⟩ := mul_byte c1
  obtain ⟨n, hn, en⟩ : ∃ n : Nat, n = lenOf c1 c2 ∧ binOf .add (.int .i64 y) (.int .i64 c2.toNat) = some (.int .i64 n) := by
    have h1 := c1.toNat_lt
    have h2 := c2.toNat_lt
    exact ⟨_, rfl, by rw [bin_add, show (y : Int) + (c2.toNat : Int) = ((lenOf c1 c2 : Nat) : Int) by unfold lenOf; omega, wrap_i64_nat (by unfold lenOf; omega)]⟩
  have hnl := lenOf_lt c1 c2
  rw [← hn] at hnl
  simp at a1 a2
  simp
  refine Wp.draws ?_
  have eg := gtr_nat .i64 n 16384
  obtain ⟨z, hz, ez⟩ := add_nat (a := n) (b := 7) (by omega) (by omega)
  have e2 := lss_nat .i64 l.length z
  obtain ⟨w, hw, ew⟩ := add_nat (a := 3) (b := n) (by omega) (by omega)
  simp [-bin_gtr, -bin_add] at eg ez ew
  have hbad : ¬ (n ≤ 16384 ∧ z ≤ l.length) → peel l = none := fun h => peel_bad hl3 hn (fun h' => h ⟨h'.1, by omega⟩)
  have hin : ∀ {p : Pl} {c : UInt8}, loadV A 1 false (.ptr (some p)) = some (byteV c) → InAll [A, A, A, A, A, A, A, A, A, A, A, A] 0 11 (fun A' => loadV A' 1 false (AV.ptr (some p))) (byteV c) := fun h => by
    simp [InAll, h, byteV, AV.beq]
  by_cases hbig : n ≤ 16384
  · rw [decide_eq_false (by omega)] at eg
    by_cases hfit : z ≤ l.length
    · rw [decide_eq_false (by omega)] at e2
      simp [a1, a2, b1, b2, conv_byte64, ey, en, eg, e2, ez, hs.lenV, -convV_int, -bin_add, -bin_mul, -bin_gtr, -bin_lss]
      refine ⟨⟨hin b1, hin b2⟩, ?_⟩
      refine Wp.draws ?_
      obtain ⟨s1, g1, g2, g3⟩ := Sl.cut hs (lo := 3) (hi := w) (by omega) (by rw [hs.len]; omega) (k := .i64) (j := .i64)
      obtain ⟨s2, d1, d2, d3⟩ := Sl.cutTo hs (hi := z) (by rw [hs.len]; omega) (j := .i64)
      simp at g1
      rw [Nat.mul_one, bytesV_take] at d3
      rw [Nat.mul_one, Nat.mul_one, bytesV_take, bytesV_drop] at g3
      simp [ew, ez, g1, g3.allKnown, allKnown, opsD_callf, -bin_add]
      have hpf := peel_frame hl3 hn hbig (by omega)
      rw [← hw, ← hz] at hpf
      have hml : ((l.take w).drop 3).length = n := by rw [List.length_drop, List.length_take]; omega
      generalize (l.take w).drop 3 = m at *
      refine (refWrap_spec g3 (by omega)).mono fun r B ⟨x1, o1⟩ => ?_
      have d4 := Sl.ext x1 d3
      have g4 := Sl.ext x1 g3
      have hr := o1.sl
      simp [ew, ez, hr.text, d1, d3.text, d4.text, -bin_add]
      refine ⟨⟨?_, ?_⟩, ?_⟩
      · simp [InAll, hr.text, AV.beq]
      · simp [InAll, d3.text, d4.text, AV.beq]
      refine contC_of (fun hc => ?_) (fun hc => ?_)
      · simp at hc
        rw [if_neg hc] at hpf
        simp [hpf]
        exact x1
      · simp at hc
        rw [if_pos hc] at hpf
        simp [ew, ez, g1, hpf, g4.known, -bin_add]
        exact ⟨x1, s1, ⟨rfl, by omega⟩, g4⟩
    · rw [decide_eq_true (by omega)] at e2
      simp [a1, a2, b1, b2, conv_byte64, ey, en, eg, e2, ez, hs.lenV, -convV_int, -bin_add, -bin_mul, -bin_gtr, -bin_lss, hbad (fun h => hfit h.2)]
      exact ⟨⟨hin b1, hin b2⟩, St.Ext.refl A⟩
  · rw [decide_eq_true (by omega)] at eg
    simp [a1, a2, b1, b2, conv_byte64, ey, en, eg, -convV_int, -bin_add, -bin_mul, -bin_gtr, hbad (fun h => hbig h.1)]
    exact ⟨⟨hin b1, hin b2⟩, St.Ext.refl A⟩
end Go.Proofs.Ytdgcflackljecaa
