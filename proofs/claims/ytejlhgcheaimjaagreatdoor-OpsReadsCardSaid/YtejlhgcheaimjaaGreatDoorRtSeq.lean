/- Numbers and texts are written as bytes. -/
import Derived.Test.YtejlhgcheaimjaaGreatDoorRtRaw
import Derived.Test.YtejlhgcheaimjaaGreatDoorAmStr
import Derived.Test.YtejlhgcheaimjaaGreatDoorStCrc
namespace Go.Proofs.YtejlhgcheaimjaaGreatDoor
open Go.AM
set_option maxRecDepth 100000
set_option linter.unusedSimpArgs false
variable {D : Disp} {G0 : Env} {X : Calls'}
theorem ofNat_mod' (n : Nat) : UInt8.ofNat (n % 256) = UInt8.ofNat n := by
  apply UInt8.toNat_inj.1
  simp
theorem encNat_spec {A : St} {n : Nat} (hn : n < 18446744073709551616) : Ev D G0 fnsL X 50 [.int .u64 n] A fun r B => A.Ext B ∧ OwnB A.next B r (natB n) := by
  refine Ev.fnK (fn := a50) rfl ⟨by simp [a50], by decide⟩ ?_
  unfold a50
  simp [Made.value]
  have hcl := Cl.make A [AV.int .u8 0, AV.int .u8 0, AV.int .u8 0, AV.int .u8 0, AV.int .u8 0, AV.int .u8 0, AV.int .u8 0, AV.int .u8 0, AV.int .u8 0]
  have hx := ext_make A [AV.int .u8 0, AV.int .u8 0, AV.int .u8 0, AV.int .u8 0, AV.int .u8 0, AV.int .u8 0, AV.int .u8 0, AV.int .u8 0, AV.int .u8 0] 1
  have hrep : [AV.int .u8 0, AV.int .u8 0, AV.int .u8 0, AV.int .u8 0, AV.int .u8 0, AV.int .u8 0, AV.int .u8 0, AV.int .u8 0, AV.int .u8 0] = List.replicate 9 (byteV 0) := rfl
  rw [hrep] at hcl hx
  try rw [hrep]
  generalize (A.make (List.replicate 9 (byteV 0)) 1).2 = A1 at *
  refine Wp.loopK (fun d E A' => A.Ext A' ∧ Env.at E 3 = .ptr (some (A.next, 0, 0)) ∧ ∃ (k : Nat) (suf : List UInt8), Env.at E 4 = .int .i64 k ∧ Env.at E 5 = .int .u64 d ∧ beB n = beB d ++ suf ∧ suf.length = k ∧ d < 256 ^ (8 - k) ∧ k ≤ 8 ∧ Cl A' A.next (List.replicate (9 - k) (byteV 0) ++ bytesV suf)) n ?_ ?_
  · exact ⟨hx, by simp, 0, [], by simp, by simp, by simp, rfl, hn, by omega, by simpa [bytesV] using hcl⟩
  rintro d E A' ⟨x1, e3, k, suf, e4, e5, hb, hk, hd, hk8, hcl1⟩
  have eg : binOf .gtr (.int .u64 (d : Int)) (.int .u64 0) = some (.bool (decide (0 < d))) := by rw [bin_gtr]; simp
  simp [e4, e5, eg, -bin_gtr]
  refine contC_of (fun hc => ?_) (fun hc => ?_)
  · simp at hc
    have hk7 : k < 8 := by
      rcases Nat.lt_or_ge k 8 with h | h
      · exact h
      · rw [show 8 - k = 0 by omega] at hd
        simp at hd
        omega
    have ea := add_one (i := k) (by omega)
    obtain ⟨y, hy, ey⟩ := sub_nat (a := 9) (b := k + 1) (by omega) (by decide)
    have es : binOf .shr (.int .u64 (d : Int)) (.int .u64 8) = some (.int .u64 ((d / 256 : Nat) : Int)) := bin_shr_nat (k := .u64) (j := .u64) (a := d) (s := 8) (by decide)
    obtain ⟨st1, st2⟩ := hcl1.st (8 - k) (by simp; omega) (v := byteV (UInt8.ofNat d)) rfl rfl rfl
    have hset : (List.replicate (9 - k) (byteV 0) ++ bytesV suf).set (8 - k) (byteV (UInt8.ofNat d)) = List.replicate (8 - k) (byteV 0) ++ bytesV (UInt8.ofNat d :: suf) := by
      rw [show 9 - k = (8 - k) + 1 by omega, set_zero]
      rfl
    have hlen9 : (List.replicate (9 - k) (byteV 0) ++ bytesV suf).length = 9 := by simp; omega
    rw [hset, hlen9] at st1 st2
    have hi : index? 9 (.int .i64 (y : Int)) = some (8 - k) := by
      simp only [index?]
      rw [if_pos ⟨by omega, by omega⟩]
      congr 1
      omega
    simp [-bin_add, -bin_sub] at ea ey es
    simp [e3, e4, e5, ea, ey, es, hi, conv_u8, AV.addr, st1, -bin_add, -bin_sub, -convV_int]
    refine ⟨d / 256, by omega, ⟨x1.next, fun f hf => by rw [St.get_put, if_neg (by omega)]; exact x1.get f hf⟩, k + 1, by omega, by omega, UInt8.ofNat d :: suf, ?_, by simp [hk], ?_, by omega, by rw [show 9 - (k + 1) = 8 - k by omega]; exact st2⟩
    · rw [hb, beB_pos (by omega : d ≠ 0), ofNat_mod', List.append_assoc]
      rfl
    · rw [show 8 - k = (8 - (k + 1)) + 1 by omega, Nat.pow_succ] at hd
      exact Nat.div_lt_of_lt_mul (by omega)
  · simp at hc
    subst hc
    rw [beB_zero, List.nil_append] at hb
    have hkl : k = (beB n).length := by rw [hb, hk]
    obtain ⟨y, hy, ey⟩ := sub_nat (a := 8) (b := k) hk8 (by decide)
    have hi : index? 9 (.int .i64 (y : Int)) = some (8 - k) := by
      simp only [index?]
      rw [if_pos ⟨by omega, by omega⟩]
      congr 1
    obtain ⟨st1, st2⟩ := hcl1.st (8 - k) (by simp; omega) (v := byteV (UInt8.ofNat k)) rfl rfl rfl
    have hset : (List.replicate (9 - k) (byteV 0) ++ bytesV suf).set (8 - k) (byteV (UInt8.ofNat k)) = List.replicate (8 - k) (byteV 0) ++ bytesV (natB n) := by
      rw [show 9 - k = (8 - k) + 1 by omega, set_zero]
      unfold natB
      rw [← hkl, hb]
      rfl
    have hlen9 : (List.replicate (9 - k) (byteV 0) ++ bytesV suf).length = 9 := by simp; omega
    rw [hset, hlen9] at st1 st2
    simp [-bin_sub] at ey
    have xA : A.Ext (A'.put A.next (.cells (List.replicate (8 - k) (byteV 0) ++ bytesV (natB n)) [⟨0, 0, 9, 1⟩] 1 false)) := ⟨x1.next, fun f hf => by rw [St.get_put, if_neg (by omega)]; exact x1.get f hf⟩
    simp [e3, e4, ey, hi, conv_u8, AV.addr, st1, -bin_sub, -convV_int]
    generalize A'.put A.next (.cells (List.replicate (8 - k) (byteV 0) ++ bytesV (natB n)) [⟨0, 0, 9, 1⟩] 1 false) = A2 at *
    have hxs := Cl.sl st2
    have hl9 : (List.replicate (8 - k) (byteV 0) ++ bytesV (natB n)).length = 9 := by unfold natB; simp; omega
    rw [hl9] at hxs
    have x2 := ext_make A2 [] 1
    have ho : AM.Own A.next (A2.make [] 1).2 1 (.slice (some (A2.next, 0, 0)) 0 0 0 0) [] := by simpa using own_make_exact A2 (cs := []) (sz := 1) (n := 0) (by simp) xA.next (len := 0) (Nat.le_refl _)
    obtain ⟨s', c1, c2, c3⟩ := (Sl.ext x2 hxs).cutFrom (lo := y) (by simp [AV.slen]; omega) (k := .i64)
    have hdr : (List.replicate (8 - k) (byteV 0) ++ bytesV (natB n)).drop (y * 1) = bytesV (natB n) := by
      rw [Nat.mul_one, hy, List.drop_left' (by simp)]
    rw [hdr] at c3
    have hnl := natB_length hn
    have hsl : s'.slen = (natB n).length := by have := c3.length; rw [bytesV_length] at this; omega
    obtain ⟨r, B, h1, h2, h3, h4, h5⟩ := appendV_own (bytes := 1) ho c3 (Nat.le_trans xA.next x2.next) (by decide) (bytesV_flat _) (by rw [hsl, slen_slice]; omega) (by rw [hsl, slen_slice]; omega)
    simp [fillA, Made.value, pureOf, evo, e3, e4, ey, c1, h1, h3.sl.known, -bin_sub]
    exact ⟨h4.ext (xA.trans x2) ho, by simpa using h3⟩
theorem encStr_spec {A : St} {s : List UInt8} (hs : s.length < 2 ^ 40) : Ev D G0 fnsL X 52 [.str s] A fun r B => A.Ext B ∧ OwnB A.next B r (strB s) := by
  refine Ev.fnK (fn := a52) rfl ⟨by simp [a52], by decide⟩ ?_
  unfold a52
  have ec : convV .u64 (.int .i64 (s.length : Int)) = some (.int .u64 (s.length : Int)) := by rw [convV_int, wrap_un_small rfl (show s.length < 2 ^ 64 by omega)]
  simp [lenStrV, ec, ops_callf, allKnown, -convV_int]
  refine (encNat_spec (by omega)).mono fun r B ⟨x, ho⟩ => ?_
  have hn := natB_length (n := s.length) (by omega)
  have hrl := Bs.len ho.sl
  obtain ⟨s', B2, h1, h2, h3, h4, h5⟩ := appendV_str (l := s) (bytes := 1) ho x.next (by omega) (by omega)
  simp [h1, h3.sl.known]
  refine ⟨h4.ext x ho, ?_⟩
  rw [← bytesV_append] at h3
  exact h3
theorem xor_ones (x : Nat) (h : x < 18446744073709551616) : x ^^^ 18446744073709551615 = 18446744073709551615 - x := by
  have h1 : (BitVec.ofNat 64 x ^^^ BitVec.allOnes 64) = ~~~ (BitVec.ofNat 64 x) := BitVec.xor_allOnes
  have h2 := congrArg BitVec.toNat h1
  simp only [BitVec.toNat_xor, BitVec.toNat_ofNat, BitVec.toNat_allOnes, BitVec.toNat_not, Nat.mod_eq_of_lt (show x < 2 ^ 64 from h)] at h2
  exact h2
theorem shr63 (n : Int) : binOf .shr (.int .i64 n) (.int .u64 63) = some (.int .i64 (n / 9223372036854775808)) := by
  have e : binOf .shr (.int .i64 n) (.int .u64 63) = shiftInt .shr .i64 n 63 := by simp [binOf, isShift]
  rw [e]
  unfold shiftInt
  rw [if_neg (by decide)]
  dsimp only
  congr 2
  show n.fdiv (2 ^ 63) = _
  rw [Int.fdiv_eq_ediv_of_nonneg _ (by decide)]
  rfl
theorem encNum_spec {A : St} {n : Int} (hn : i64ok n) : Ev D G0 fnsL X 53 [.int .i64 n] A fun r B => A.Ext B ∧ OwnB A.next B r (numB n) := by
  refine Ev.fnK (fn := a53) rfl ⟨by simp [a53], by decide⟩ ?_
  unfold a53
  unfold i64ok at hn
  have hz := zig_lt (n := n) hn
  have key : ∃ u v w : Nat, convV .u64 (.int .i64 n) = some (.int .u64 (u : Int)) ∧ binOf .shl (.int .u64 (u : Int)) (.int .u64 1) = some (.int .u64 (v : Int)) ∧ binOf .xor (.int .u64 (v : Int)) (.int .u64 (w : Int)) = some (.int .u64 (zig n : Int)) ∧
      ∃ q : Int, binOf .shr (.int .i64 n) (.int .u64 63) = some (.int .i64 q) ∧ convV .u64 (.int .i64 q) = some (.int .u64 (w : Int)) := by
    by_cases h0 : n < 0
    · refine ⟨(18446744073709551616 + n).toNat, (18446744073709551616 + 2 * n).toNat, 18446744073709551615, ?_, ?_, ?_, -1, ?_, ?_⟩
      · rw [convV_int, wrap_un rfl]
        congr 2
        show n % 18446744073709551616 = _
        omega
      · have := bin_shl_nat (k := .u64) (j := .u64) (a := (18446744073709551616 + n).toNat) (s := 1) (by decide)
        rw [wrap_un_nat rfl] at this
        rw [show ((1 : Nat) : Int) = 1 from rfl] at this
        rw [this]
        congr 2
        show (((18446744073709551616 + n).toNat * 2 ^ 1 % 18446744073709551616 : Nat) : Int) = _
        omega
      · have := bin_xor_un (k := .u64) (a := (18446744073709551616 + 2 * n).toNat) (b := 18446744073709551615) rfl (show _ < 18446744073709551616 by omega) (by decide)
        rw [xor_ones _ (by omega)] at this
        rw [this]
        congr 2
        unfold zig
        rw [if_pos h0]
        omega
      · rw [shr63]
        congr 2
        omega
      · rfl
    · refine ⟨n.toNat, (2 * n).toNat, 0, ?_, ?_, ?_, 0, ?_, ?_⟩
      · rw [convV_int, wrap_un rfl]
        congr 2
        show n % 18446744073709551616 = _
        omega
      · have := bin_shl_nat (k := .u64) (j := .u64) (a := n.toNat) (s := 1) (by decide)
        rw [wrap_un_nat rfl] at this
        rw [show ((1 : Nat) : Int) = 1 from rfl] at this
        rw [this]
        congr 2
        show ((n.toNat * 2 ^ 1 % 18446744073709551616 : Nat) : Int) = _
        omega
      · have := bin_xor_un (k := .u64) (a := (2 * n).toNat) (b := 0) rfl (show _ < 18446744073709551616 by omega) (by decide)
        rw [Nat.xor_zero] at this
        rw [this]
        congr 2
        unfold zig
        rw [if_neg h0]
      · rw [shr63]
        congr 2
        omega
      · rfl
  obtain ⟨u, v, w, k1, k2, k3, q, k4, k5⟩ := key
  simp [k1, k2, k3, k4, k5, ops_callf, allKnown, -convV_int]
  refine (encNat_spec hz).mono fun r B ⟨x, ho⟩ => ?_
  simp [ho.sl.known]
  exact ⟨x, ho⟩
end Go.Proofs.YtejlhgcheaimjaaGreatDoor
/- Parts, one behind the other; a bool. -/
namespace Go.Proofs.YtejlhgcheaimjaaGreatDoor
open Go.AM
set_option maxRecDepth 100000
set_option linter.unusedSimpArgs false
attribute [-simp] List.length_flatten
variable {D : Disp} {G0 : Env} {X : Calls'}
theorem seq_spec {A : St} {s : AV} {ps : List AV} {ls : List (List UInt8)} (hs : Sl A 1 s ps) (hp : PartsB A ps ls) (hl : ps.length < 2 ^ 40) (hf : ls.flatten.length < 2 ^ 40) :
    Ev D G0 fnsL X 51 [s] A fun r B => A.Ext B ∧ OwnB A.next B r ls.flatten := by
  refine Ev.fnK (fn := a51) rfl ⟨by simp [a51], by decide⟩ ?_
  unfold a51
  simp [hs.lenV1]
  refine Wp.loopK (fun d E A' => A.Ext A' ∧ Env.at E 6 = s ∧ Env.at E 7 = .int .i64 ps.length ∧ ∃ (i : Nat) (o : AV), Env.at E 8 = .int .i64 i ∧ i + d = ps.length ∧ Env.at E 3 = o ∧ AM.Own A.next A' 1 o (bytesV (ls.take i).flatten)) ps.length ?_ ?_
  · exact ⟨St.Ext.refl A, by simp, by simp, 0, .slice none 0 0 0 0, by simp, by simp, by simp, by simpa [bytesV] using AM.Own.nil _ _ _⟩
  rintro d E B ⟨xB, e6, e7, i, o, e8, hi, e3, hoB⟩
  simp [e6, e7, e8, lss_nat, -bin_lss]
  refine contC_of (fun hc => ?_) (fun hc => ?_)
  · simp at hc
    obtain ⟨v, l, hv, hl', hb⟩ := (hp.ext xB).get hc
    obtain ⟨p, g1, g2⟩ := (Sl.ext xB hs).at_one hv .i64
    have htk := take_flatten_succ hl'
    have hle : (ls.take (i + 1)).flatten.length ≤ ls.flatten.length := by
      conv => rhs; rw [← List.take_append_drop (i + 1) ls, List.flatten_append, List.length_append]
      omega
    rw [htk, List.length_append] at hle
    have ea := add_one (i := i) (by omega)
    have hol := Bs.len hoB.sl
    obtain ⟨s2, B2, k1, k2, k3, k4, k5⟩ := appendV_own (bytes := 1) hoB hb xB.next (by decide) (bytesV_flat _) (by rw [hol, Bs.len hb]; omega) (by rw [hol, Bs.len hb]; omega)
    simp [-bin_add] at ea
    simp [e6, e7, e8, e3, g1, g2, k1, ea, -bin_add]
    refine ⟨d - 1, by omega, k4.ext xB hoB, i + 1, by omega, by omega, ?_⟩
    rw [htk, bytesV_append]
    exact k3
  · simp at hc
    have hil : i = ls.length := by rw [← hp.length]; omega
    rw [hil, List.take_length] at hoB
    simp [e3, hoB.sl.known]
    exact ⟨xB, hoB⟩
end Go.Proofs.YtejlhgcheaimjaaGreatDoor
