/- What the document's sum comes to. -/
import Derived.Test.YtdgcflackljecaaCrcPure
import Derived.Test.YtdgcflackljecaaCrcCode
namespace Go.Proofs.Ytdgcflackljecaa
open Go.AM
set_option maxRecDepth 100000
set_option linter.unusedSimpArgs false
variable {D : Disp} {X : Calls'}

theorem refSum_spec {A : St} {s : AV} {l : List UInt8} (hs : Bs A s l) (hl : l.length < 2 ^ 40) :
    Ev D T.nil fns X 11 [s] A fun r B => A = B ∧ r = .int .u32 (crcSum l : Nat) := by
  refine Ev.fnK (fn := a11) rfl ⟨by simp [a11], by decide⟩ ?_
  unfold a11
  simp
  refine Wp.loopK (fun d E A' => A = A' ∧ Env.at E 0 = s ∧ ∃ i : Nat, Env.at E 4 = .int .i64 i ∧ i + d = 8 * l.length ∧ Env.at E 3 = .int .u32 (rs l i : Nat)) (8 * l.length) ?_ ?_
  · exact ⟨rfl, by simp, 0, by simp, by simp, by simp [rs_zero]⟩
  rintro d E _ ⟨rfl, e0, i, e4, hi, e3⟩
  obtain ⟨n8, hn8, em⟩ : ∃ n8 : Nat, n8 = 8 * l.length ∧ binOf .mul (.int .i64 8) (.int .i64 l.length) = some (.int .i64 n8) := ⟨_, rfl, by
    rw [bin_mul, show (8 : Int) * (l.length : Int) = ((8 * l.length : Nat) : Int) by omega, wrap_i64_nat (by omega)]⟩
  have hlt := rs_lt l i
  generalize hS : rs l i = S at *
  simp [e0, e4, hs.lenV, em, lss_nat, -bin_mul, -bin_lss]
  refine contC_of (fun hc => ?_) (fun hc => ?_)
  · simp at hc
    have hq : i / 8 < l.length := by omega
    have hlj : l[i / 8]? = some l[i / 8] := List.getElem?_eq_getElem hq
    generalize l[i / 8] = c at *
    obtain ⟨q, hqq, eq⟩ := quo_i64 (a := i) (b := 8) (by decide) (by omega)
    obtain ⟨p, g1, g2⟩ := hs.at_one (j := q) (v := byteV c) (by rw [hqq]; simp [bytesV, hlj]) .i64
    obtain ⟨m, hm, em2⟩ := rem_nat (k := .i64) (a := i) (b := 8) (by decide)
    have cv1 : convV .u64 (.int .i64 m) = some (.int .u64 m) := by
      rw [convV_int, wrap_un_small rfl (Nat.lt_of_lt_of_le (show m < 8 by omega) (by decide))]
    have es : binOf .shr (byteV c) (.int .u64 m) = some (.int .u8 ((c.toNat / 2 ^ m : Nat) : Int)) := bin_shr_nat (k := .u8) (show m ≤ 8 by omega)
    have hb : c.toNat / 2 ^ m < 256 := Nat.lt_of_le_of_lt (Nat.div_le_self _ _) c.toNat_lt
    have hrs := rs_succ hlj
    rw [hS, ← hm] at hrs
    generalize c.toNat / 2 ^ m = v at *
    have cv2 : convV .u32 (.int .u8 v) = some (.int .u32 v) := by
      rw [convV_int, wrap_un_small rfl (Nat.lt_of_lt_of_le hb (by decide))]
    obtain ⟨b1, hb1, eb1⟩ := rem_nat (k := .u32) (a := v) (b := 2) (by decide)
    obtain ⟨b2, hb2, eb2⟩ := rem_nat (k := .u32) (a := S) (b := 2) (by decide)
    obtain ⟨z, hz, ez⟩ := quo_u32 (a := S) (b := 2) (by decide) hlt
    obtain ⟨u, hu, eu⟩ := xor_poly (x := z) (by omega)
    have ea := add_one (i := i) (by omega)
    simp at eq em2 eb1 eb2 ez
    simp [e0, e4, e3, eq, g1, g2, em2, cv1, es, cv2, eb1, eb2, ez, -convV_int]
    refine contC_of (fun hc3 => ?_) (fun hc3 => ?_)
    · simp at hc3
      simp [e0, e4, eu, ea, -bin_add]
      refine ⟨d - 1, by omega, i + 1, by omega, by omega, ?_⟩
      rw [hrs, hu, hz]
      unfold refBit
      rw [if_pos (by omega)]
    · simp at hc3
      simp [e0, e4, ea, -bin_add]
      refine ⟨d - 1, by omega, i + 1, by omega, by omega, ?_⟩
      rw [hrs, hz]
      unfold refBit
      rw [if_neg (by omega)]
  · simp at hc
    have hi8 : i = 8 * l.length := by omega
    have hsub : IntKind.u32.wrap (4294967295 - (S : Int)) = (crcSum l : Nat) := by
      rw [hi8, rs_end] at hS
      unfold crcSum
      rw [hS, ones_xor hlt, IntKind.wrap_u32]
      omega
    simp [e3, hsub]
end Go.Proofs.Ytdgcflackljecaa
