/- What the sums come to. -/
import Derived.Test.YtdgcflackljecaaCrcPure
import Derived.Test.YtdgcflackljecaaCrcCode
namespace Go.Proofs.Ytdgcflackljecaa
open Go.AM
set_option maxRecDepth 100000
set_option linter.unusedSimpArgs false
variable {D : Disp} {X : Calls'}

theorem sum_spec {A : St} {s : AV} {ps : List AV} {ls : List (List UInt8)} (hs : Sl A 1 s ps) (hp : PartsB A ps ls) (hl : ps.length < 2 ^ 62) (hll : ∀ l ∈ ls, l.length < 2 ^ 62) :
    Ev D T.nil fns X 10 [s] A fun r B => B = A ∧ r = .int .u32 (crcSum ls.flatten : Nat) := by
  refine Ev.fnK (fn := a10) rfl ⟨by simp [a10], by decide⟩ ?_
  unfold a10
  simp [hs.lenV1]
  refine Wp.loopK (fun d E A' => A = A' ∧ Env.at E 8 = s ∧ Env.at E 9 = .int .i64 ps.length ∧ ∃ i : Nat, Env.at E 10 = .int .i64 i ∧ i + d = ps.length ∧ Env.at E 3 = .int .u32 (crcAll 4294967295 (ls.take i).flatten : Nat)) ps.length ?_ ?_
  · exact ⟨rfl, by simp, by simp, 0, by simp, by simp, by simp [crcAll]⟩
  rintro d E _ ⟨rfl, e8, e9, i, e10, hi, e3⟩
  simp [e10, e9]
  refine contC_of (fun hc => ?_) (fun hc => ?_)
  · simp at hc
    obtain ⟨v, l, hv, hl', hb⟩ := hp.get hc
    obtain ⟨p, h1, h2⟩ := hs.at_one hv .i64
    simp [e8, e9, e10, h1, h2, hb.lenV]
    have hll' := hll l (List.mem_of_getElem? hl')
    refine Wp.loopK (fun d E A' => A = A' ∧ Env.at E 8 = s ∧ Env.at E 9 = .int .i64 ps.length ∧ Env.at E 10 = .int .i64 i ∧ Env.at E 14 = v ∧ Env.at E 15 = .int .i64 l.length ∧ ∃ j : Nat, Env.at E 16 = .int .i64 j ∧ j + d = l.length ∧ Env.at E 3 = .int .u32 (crcAll 4294967295 ((ls.take i).flatten ++ l.take j) : Nat)) l.length ?_ ?_
    · exact ⟨rfl, by simp [e8], by simp [e9], by simp [e10], by simp, by simp, 0, by simp, by simp, by simp [e3]⟩
    rintro d1 E1 _ ⟨rfl, f8, f9, f10, f14, f15, j, f16, hj, f3⟩
    simp [f15, f16]
    refine contC_of (fun hc1 => ?_) (fun hc1 => ?_)
    · simp at hc1
      have hlj : l[j]? = some l[j] := List.getElem?_eq_getElem hc1
      obtain ⟨p1, g1, g2⟩ := hb.at_one (j := j) (v := byteV l[j]) (by simp [bytesV, hc1]) .i64
      have hlt := crcAll_lt ((ls.take i).flatten ++ l.take j) (s := 4294967295) (by decide)
      generalize hS : crcAll 4294967295 ((ls.take i).flatten ++ l.take j) = S at *
      obtain ⟨T, hT, eT⟩ := xor_byte hlt l[j]
      simp [f14, f15, f16, f3, g1, g2, conv_byte, eT, -convV_int]
      refine Wp.loopK (fun d E A' => A = A' ∧ Env.at E 8 = s ∧ Env.at E 9 = .int .i64 ps.length ∧ Env.at E 10 = .int .i64 i ∧ Env.at E 14 = v ∧ Env.at E 15 = .int .i64 l.length ∧ Env.at E 16 = .int .i64 j ∧ ∃ n : Nat, Env.at E 24 = .int .i64 n ∧ n + d = 8 ∧ Env.at E 3 = .int .u32 (crcIt n T : Nat)) 8 ?_ ?_
      · exact ⟨rfl, by simp [f8], by simp [f9], by simp [f10], by simp [f14], by simp [f15], by simp [f16], 0, by simp, by simp, by simp [crcIt]⟩
      rintro d2 E2 _ ⟨rfl, k8, k9, k10, k14, k15, k16, n, k24, hn, k3⟩
      simp [k24]
      have hlt2 := crcIt_lt n (hT ▸ xor_byte_lt hlt l[j])
      have hstep := crcIt_succ n T
      generalize hxx : crcIt n T = x at *
      refine contC_of (fun hc2 => ?_) (fun hc2 => ?_)
      · simp at hc2
        obtain ⟨y, hy, ey⟩ := and_one hlt2
        obtain ⟨z, hz, ez⟩ := shr_one x
        obtain ⟨u, hu, eu⟩ := xor_poly (x := z) (by omega)
        have ea := add_one (i := n) (by omega)
        simp [k3, ey, ez, eu]
        refine contC_of (fun hc3 => ?_) (fun hc3 => ?_)
        · simp at hc3
          simp [k24, k3, ey, ez, eu, ea, -bin_add]
          refine ⟨d2 - 1, by omega, k8, k9, k10, k14, k15, k16, n + 1, by omega, by omega, ?_⟩
          rw [hstep, hu, hz]
          unfold crcBit
          rw [if_pos (by omega)]
        · simp at hc3
          simp [k24, k3, ey, ez, eu, ea, -bin_add]
          refine ⟨d2 - 1, by omega, k8, k9, k10, k14, k15, k16, n + 1, by omega, by omega, ?_⟩
          rw [hstep, hz]
          unfold crcBit
          rw [if_neg (by omega)]
      · simp at hc2
        have ea := add_one (i := j) (by omega)
        simp [k16, ea, -bin_add]
        refine ⟨d1 - 1, by omega, k8, k9, k10, k14, k15, j + 1, by omega, by omega, ?_⟩
        have hn8 : n = 8 := by omega
        rw [k3, ← hxx, hn8, hT, take_succ_of hlj, ← List.append_assoc, crcAll_append, hS]
        rfl
    · simp at hc1
      have ea := add_one (i := i) (by omega)
      have hjl : j = l.length := by omega
      simp [f10, ea, -bin_add]
      refine ⟨d - 1, by omega, f8, f9, i + 1, by omega, by omega, ?_⟩
      rw [f3, hjl, List.take_length, take_flatten_succ hl']
  · simp at hc
    obtain ⟨y, hy, ey⟩ := not_u32 (crcAll_lt (ls.take i).flatten (s := 4294967295) (by decide))
    simp [e3, ey]
    have hil : i = ls.length := by rw [← hp.length]; omega
    rw [hy, hil, List.take_length]
    rfl
end Go.Proofs.Ytdgcflackljecaa
