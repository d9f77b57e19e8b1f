/- The third law: one bit. -/
import Derived.Test.YtdgcflackljecaaCrcArg
import Derived.Test.YtdgcflackljecaaCrcAwake
import Derived.Test.YtdgcflackljecaaCrcFlip
namespace Go.Proofs.Ytdgcflackljecaa
open Go.AM
set_option maxRecDepth 100000
set_option linter.unusedSimpArgs false
variable {D : Disp} {X : Calls'}

theorem bit_u8 {k : Nat} (h : k < 8) : ∃ b : Nat, b = 2 ^ k ∧ binOf .shl (.int .u8 1) (.int .u64 k) = some (.int .u8 b) :=
  ⟨_, rfl, by
    have e := bin_shl_nat (k := .u8) (a := 1) (j := .u64) (s := k) (show k ≤ 8 by omega)
    rw [Nat.one_mul, wrap_un_small rfl (Nat.pow_lt_pow_right (by decide) h)] at e
    exact e⟩
theorem flip_byte (c : UInt8) {k b : Nat} (h : k < 8) (hb : b = 2 ^ k) : ∃ d : UInt8, d ≠ c ∧ binOf .xor (byteV c) (.int .u8 b) = some (byteV d) := by
  have hlt : b < 2 ^ 8 := by rw [hb]; exact Nat.pow_lt_pow_right (by decide) h
  have hx : c.toNat ^^^ b < 2 ^ 8 := Nat.xor_lt_two_pow c.toNat_lt hlt
  have ht : (UInt8.ofNat (c.toNat ^^^ b)).toNat = c.toNat ^^^ b := by rw [UInt8.toNat_ofNat']; exact Nat.mod_eq_of_lt hx
  refine ⟨UInt8.ofNat (c.toNat ^^^ b), fun e => ?_, ?_⟩
  · have e := congrArg UInt8.toNat e
    rw [ht] at e
    have e2 : c.toNat ^^^ b = c.toNat ^^^ 0 := by rw [e, Nat.xor_zero]
    have := xor_left e2
    have hp := Nat.two_pow_pos k
    omega
  · have e := bin_xor_un (k := .u8) (a := c.toNat) (b := b) rfl c.toNat_lt hlt
    unfold byteV
    rw [ht]
    exact e

theorem law5 {A : St} {s : AV} {l0 : List UInt8} {at0 : Int} (hs0 : Bs A s l0) :
    Ev D T.nil fns X 5 [s, .int .i64 at0] A fun r _ => r = .bool true := by
  refine Ev.fnK (fn := a5) rfl ⟨by simp [a5], by decide⟩ ?_
  unfold a5
  simp [ops_callf, allKnown, hs0.allKnown]
  refine (short_spec hs0).mono fun t B ⟨hB, hs⟩ => ?_
  subst hB
  simp [fillA, splice, Made.value, hs.cells, hs.notBot, ops_callf, allKnown]
  have p1 : Own A.next (A.make [t] 1).2 1 (.slice (some (A.next, 0, 0)) 0 1 1 0) [t] := own_built A rfl
  have x1 := ext_make A [t] 1
  generalize (A.make [t] 1).2 = A1 at *
  have hs1 : Bs A1 t _ := Sl.ext x1 hs
  have hll : (l0.take 200).length ≤ 200 := by rw [List.length_take]; omega
  refine (wrap_spec (ls := [l0.take 200]) p1.sl ⟨hs1, trivial⟩ (by simp) (by simp; omega)).mono fun r B h => ?_
  simp only [List.flatten_cons, List.flatten_nil, List.append_nil] at h
  rcases h with ⟨_, x2, o2⟩ | ⟨h, _⟩
  rotate_left
  · omega
  have hs2 : Bs B s _ := Sl.ext (x1.trans x2) hs0
  have hr := o2.sl
  generalize hm : l0.take 200 = m at *
  have hlr := Bs.lenV hr
  obtain ⟨n, hn⟩ : ∃ n, n = (frame m).length := ⟨_, rfl⟩
  have hfl := frame_length m
  rw [← hn] at hfl hlr
  simp [hlr, ops_callf, allKnown, hs2.allKnown]
  refine (short_spec hs2).mono fun t2 B2 ⟨hB, hs3⟩ => ?_
  subst hB
  rw [hm] at hs3
  obtain ⟨n2, hn2, en2⟩ := add_nat (a := m.length) (b := 7) (by omega) (by omega)
  have hnn : n2 = n := by omega
  subst hnn
  obtain ⟨n8, hn8, em⟩ : ∃ n8 : Nat, n8 = 8 * n2 ∧ binOf .mul (.int .i64 8) (.int .i64 n2) = some (.int .i64 n8) := ⟨_, rfl, by
    rw [bin_mul, show (8 : Int) * (n2 : Int) = ((8 * n2 : Nat) : Int) by omega, wrap_i64_nat (by omega)]⟩
  obtain ⟨r1, er, hr1, hr2⟩ := rem_int at0 (b := n8) (by omega)
  simp [-bin_add] at en2
  simp [hs3.lenV, en2, hlr, em, er, -bin_add, -bin_mul]
  refine contC_join (fun E A' => B = A' ∧ Env.at E 5 = r ∧ ∃ i : Nat, i < n8 ∧ Env.at E 1 = .int .i64 i) (fun hc => ?_) (fun hc => ?_) ?_
  · simp at hc
    obtain ⟨i, hi, ei⟩ := neg_int hr1 hc (by omega)
    simp [ei]
    exact ⟨i, hi, rfl⟩
  · simp at hc
    simp
    exact ⟨r1.toNat, by omega, by rw [Int.toNat_of_nonneg hc]⟩
  rintro E _ ⟨rfl, e5, i, hi, e1⟩
  obtain ⟨q, hq, eq⟩ := quo_i64 (a := i) (b := 8) (by decide) (by omega)
  obtain ⟨k, hk, ek⟩ := rem_nat (k := .i64) (a := i) (b := 8) (by decide)
  have cv : convV .u64 (.int .i64 k) = some (.int .u64 k) := by
    rw [convV_int, wrap_un_small rfl (Nat.lt_of_lt_of_le (show k < 8 by omega) (by decide))]
  obtain ⟨b, hb, eb⟩ := bit_u8 (k := k) (by omega)
  have hql : q < (frame m).length := by omega
  have hc := List.getElem?_eq_getElem hql
  generalize (frame m)[q] = c at *
  obtain ⟨d, hd, ed⟩ := flip_byte c (show k < 8 by omega) hb
  obtain ⟨p, C, g1, g2, g3, g4, g5⟩ := OwnB.at_store o2 hc .i64 d
  simp at eq ek
  simp [e5, e1, eq, ek, cv, eb, ed, g1, g2, g3, -convV_int, ops_callf, allKnown, g4.sl.allKnown]
  have hol := one_flip hc hd
  refine (one_spec g4.sl (by rw [List.length_set, frame_length]; omega)).mono fun r2 C2 ⟨x3, h⟩ => ?_
  rw [hol] at h
  subst h
  simp [ops_callf, allKnown]
  refine (awake_spec C2).mono fun r3 C3 ⟨x4, h⟩ => ?_
  subst h
  simp
end Go.Proofs.Ytdgcflackljecaa
