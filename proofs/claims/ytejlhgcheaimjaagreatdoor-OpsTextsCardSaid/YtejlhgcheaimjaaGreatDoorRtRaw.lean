/- A reader: the next bytes. -/
import Derived.Test.YtejlhgcheaimjaaGreatDoorRtCode
import Derived.Test.YtejlhgcheaimjaaGreatDoorRdPure
import Derived.Test.YtejlhgcheaimjaaGreatDoorAmFam
namespace Go.AM
theorem Sl.beq {A : St} {sz : Nat} {s : AV} {cs : List AV} (h : Sl A sz s cs) : AV.beq s s = true := by
  obtain ⟨a, po, cap, q, e⟩ := h.isSlice
  rw [e]
  simp [AV.beq]
theorem cut_into {sz : Nat} {s s' : AV} {lo hi : Option AV} (h : cutSliceOf sz s lo hi none = some s') {f : Nat} (hf : s'.into f = true) : s.into f = true := by
  cases s with
  | slice a po len cap q =>
    cases a with
    | none =>
      simp only [cutSliceOf] at h
      repeat' split at h
      all_goals first | (cases h; done) | (cases h; cases hf)
    | some p =>
      obtain ⟨g, v, o⟩ := p
      cases q with
      | zero =>
        simp only [cutSliceOf] at h
        repeat' split at h
        all_goals first | (cases h; done) | (cases h; exact hf)
      | succ q =>
        simp only [cutSliceOf] at h
        repeat' split at h
        all_goals first | (cases h; done) | (cases h; exact hf)
  | _ => simp [cutSliceOf] at h
/-- A reader: its bytes, its error, its place. -/
structure InC (A : St) (p : Nat) (b : List UInt8) (s e : AV) (i : Nat) : Prop where
  cl : Cl A p [s, .int .i64 i, e]
  sl : Sl A 1 s (bytesV b)
  below : ∀ f, s.into f = true → f < p
  le : i ≤ b.length
  few : b.length < 2 ^ 40
theorem InC.off {A : St} {p : Nat} {b : List UInt8} {s e : AV} {i : Nat} (h : InC A p b s e i) : s.into p = false := by
  cases hb : s.into p with
  | false => rfl
  | true => exact absurd (h.below p hb) (Nat.lt_irrefl p)
theorem InC.mod {W : Nat → Prop} {A B : St} {p : Nat} {b : List UInt8} {s e : AV} {i : Nat} (h : InC A p b s e i) (m : Mod W A B) (hp : ¬ W p) (hs : ∀ f, s.into f = true → ¬ W f) : InC B p b s e i :=
  ⟨h.cl.mod m hp, h.sl.mod m hs, h.below, h.le, h.few⟩
theorem InC.ext {A B : St} {p : Nat} {b : List UInt8} {s e : AV} {i : Nat} (h : InC A p b s e i) (x : A.Ext B) : InC B p b s e i := ⟨h.cl.ext x, Sl.ext x h.sl, h.below, h.le, h.few⟩
end Go.AM
namespace Go.Proofs.YtejlhgcheaimjaaGreatDoor
open Go.AM
set_option maxRecDepth 100000
set_option linter.unusedSimpArgs false
/-- The functions, but for those that have a row. -/
def fnsL : Nat → Option AFn := fun f => bif Nat.beq f 12 || (Nat.beq f 27 || (Nat.beq f 26 || (Nat.beq f 18 || (Nat.beq f 55 || Nat.beq f 89)))) then none else fns f
variable {D : Disp} {G0 : Env} {X : Calls'}
theorem raw_spec {A : St} {p : Nat} {b : List UInt8} {s e : AV} {i : Nat} (h : InC A p b s e i) {n : Nat} (hn : n < 18446744073709551616) :
    Ev D G0 fnsL X 100 [.ptr (some (p, 0, 0)), .int .u64 n] A fun r B =>
      (b.length - i < n ∧ A = B ∧ r = .tuple [.slice none 0 0 0 0, .bool false]) ∨
      (n ≤ b.length - i ∧ Mod (fun f => f = p) A B ∧ InC B p b s e (i + n) ∧ ∃ s', r = .tuple [s', .bool true] ∧ Sl B 1 s' (bytesV ((b.drop i).take n)) ∧ s'.into p = false) := by
  refine Ev.fnK (fn := a100) rfl ⟨by simp [a100], by decide⟩ ?_
  unfold a100
  have hle := h.le
  have hfew := h.few
  have l0 := h.cl.ld 0 (v := s) rfl
  have l1 := h.cl.ld 1 (v := .int .i64 i) rfl
  have hlen := h.sl.lenV1
  rw [bytesV_length] at hlen
  obtain ⟨d, hd, ed⟩ := sub_nat (a := b.length) (b := i) hle (by omega)
  have ec : convV .u64 (.int .i64 d) = some (.int .u64 d) := by rw [convV_int, wrap_un_small rfl (show d < 2 ^ 64 by omega)]
  have eg : binOf .gtr (.int .u64 n) (.int .u64 d) = some (.bool (decide (d < n))) := by rw [bin_gtr]; simp
  simp [AV.addr, -bin_sub, -bin_gtr, -convV_int] at *
  refine Wp.draws ?_
  simp [AV.addr, l0, l1, hlen, ed, ec, eg, InAll, -bin_sub, -bin_gtr, -convV_int]
  refine ⟨⟨h.sl.beq, by simp [AV.beq]⟩, ?_⟩
  refine contC_of (fun hc => ?_) (fun hc => ?_)
  · simp at hc
    simp
    omega
  · simp at hc
    have hin : i + n ≤ b.length := by omega
    obtain ⟨w, hw, ew⟩ := add_nat (a := i) (b := n) (by omega) (by omega)
    have ecn : convV .i64 (.int .u64 n) = some (.int .i64 n) := by rw [convV_int, wrap_i64_nat (by omega)]
    obtain ⟨s', c1, c2, c3⟩ := h.sl.cut (lo := i) (hi := w) (by omega) (by have := h.sl.length; rw [bytesV_length] at this; omega) (k := .i64) (j := .i64)
    have hoff : s'.into p = false := by
      cases hb : s'.into p with
      | false => rfl
      | true => exact absurd h.off (by simp [cut_into c1 hb])
    rw [Nat.mul_one, Nat.mul_one, bytesV_take, bytesV_drop] at c3
    have e3 : (b.take w).drop i = (b.drop i).take n := by rw [List.drop_take]; congr 1; omega
    rw [e3] at c3
    obtain ⟨st1, st2⟩ := h.cl.st 1 (by simp) (v := .int .i64 w) rfl rfl rfl
    try simp [-bin_add, -convV_int] at ew ecn
    simp only [Go.AM.wp_skip, seqK_normal, Go.AM.wp_seq]
    refine Wp.draws ?_
    simp [AV.addr, l0, l1, ew, ecn, c1, InAll, -bin_add, -convV_int]
    refine ⟨⟨h.sl.beq, by simp [AV.beq]⟩, ?_⟩
    simp [AV.addr, l0, l1, ew, ecn, st1, c3.known, -bin_add, -convV_int]
    have hm : Mod (fun f => f = p) A (A.put p (.cells [s, .int .i64 w, e] [⟨0, 0, 3, 1⟩] 1 false)) := mod_put A p _ rfl
    have hw' : ∀ {t : AV}, t.into p = false → ∀ f, t.into f = true → ¬ f = p := fun ht f hf he => by rw [he, ht] at hf; cases hf
    exact ⟨by omega, hm, ⟨by rw [← hw]; exact st2, h.sl.mod hm (hw' h.off), h.below, by omega, h.few⟩, c3.mod hm (hw' hoff), hoff⟩
theorem gtr_byte (c : UInt8) (k : Nat) : binOf .gtr (byteV c) (.int .u8 k) = some (.bool (decide (k < c.toNat))) := by unfold byteV; rw [bin_gtr]; simp
theorem eql_byte (c : UInt8) : binOf .eql (byteV c) (.int .u8 0) = some (.bool (decide (c = 0))) := by
  unfold byteV
  simp only [binOf, isShift, binInt, Option.some.injEq, AV.bool.injEq]
  by_cases h : c = 0
  · subst h; rfl
  · have : c.toNat ≠ 0 := fun h0 => h (UInt8.toNat_inj.1 (by simpa using h0))
    rw [decide_eq_false h]
    simp
    omega
theorem conv_byteU (c : UInt8) : convV .u64 (byteV c) = some (.int .u64 c.toNat) := by
  unfold byteV
  rw [convV_int, wrap_un_small rfl (show c.toNat < 2 ^ 64 by have := c.toNat_lt; omega)]
theorem beV_take_succ {l : List UInt8} {j : Nat} {c : UInt8} (hc : l[j]? = some c) : beV (l.take (j + 1)) = beV (l.take j) * 256 + c.toNat := by
  rw [List.take_add_one, hc]
  exact beV_append _ _
theorem or_step {n : Nat} (hn : n < 2 ^ 56) (c : UInt8) : ∃ y : Nat, binOf .shl (.int .u64 n) (.int .u64 8) = some (.int .u64 y) ∧ binOf .or (.int .u64 y) (.int .u64 c.toNat) = some (.int .u64 ((n * 256 + c.toNat : Nat) : Int)) := by
  have hc := c.toNat_lt
  refine ⟨n * 256, ?_, ?_⟩
  · have h := bin_shl_nat (k := .u64) (j := .u64) (a := n) (s := 8) (by decide)
    rw [wrap_un_small rfl (show n * 2 ^ 8 < 2 ^ 64 by omega)] at h
    exact h
  · rw [bin_or_un rfl (show n * 256 < 2 ^ 64 by omega) (show c.toNat < 2 ^ 64 by omega)]
    congr 3
    have := Nat.two_pow_add_eq_or_of_lt (i := 8) (show c.toNat < 2 ^ 8 from hc) n
    rw [Nat.mul_comm n 256]
    exact this.symm
/-- The next number, if it is there. -/
theorem nat_spec {A : St} {p : Nat} {b : List UInt8} {s e : AV} {i : Nat} (h : InC A p b s e i) :
    Ev D G0 fnsL X 75 [.ptr (some (p, 0, 0))] A fun r B => Mod (fun f => f = p) A B ∧ ∃ j, InC B p b s e j ∧
      match natP (b.drop i) with
      | some (n, l) => r = .tuple [.int .u64 n, .bool true] ∧ l = b.drop j
      | none => r = .tuple [.int .u64 0, .bool false] := by
  refine Ev.fnK (fn := a75) rfl ⟨by simp [a75], by decide⟩ ?_
  unfold a75
  simp [ops_callf, allKnown]
  refine (raw_spec h (n := 1) (by decide)).mono fun r B hr => ?_
  rcases hr with ⟨h1, rfl, rfl⟩ | ⟨h1, m1, h2, s1, rfl, sl1, off1⟩
  · have hb : b.drop i = [] := List.drop_eq_nil_of_le (by omega)
    simp [hb, natP]
    exact ⟨Mod.refl A, i, h⟩
  · obtain ⟨c, l, hcl⟩ : ∃ c l, b.drop i = c :: l := by
      cases hb : b.drop i with
      | nil => have := congrArg List.length hb; simp at this; omega
      | cons c l => exact ⟨c, l, rfl⟩
    have hl : b.drop (i + 1) = l := by rw [← List.drop_drop, hcl]; rfl
    have hll : l.length = b.length - (i + 1) := by rw [← hl, List.length_drop]
    rw [hcl, List.take_succ_cons, List.take_zero] at sl1
    obtain ⟨q, g1, g2⟩ := sl1.at_one (j := 0) (v := byteV c) rfl .i64
    have eg := gtr_byte c 8
    simp [-bin_gtr] at g1 eg
    by_cases h8 : 8 < c.toNat
    · have hn : natP (c :: l) = none := by simp only [natP]; rw [if_pos (.inl h8)]
      simp [g1, g2, eg, h8, hcl, hn, -bin_gtr]
      exact ⟨m1, i + 1, h2⟩
    · simp [g1, g2, eg, h8, conv_byteU, ops_callf, allKnown, -bin_gtr, -convV_int]
      refine (raw_spec h2 (n := c.toNat) (by omega)).mono fun r2 B2 hr => ?_
      rcases hr with ⟨k1, rfl, rfl⟩ | ⟨k1, m2, k2, s2, rfl, sl2, off2⟩
      · have hn : natP (c :: l) = none := by simp only [natP]; rw [if_pos (.inr (.inl (by omega)))]
        simp [hcl, hn]
        exact ⟨m1, i + 1, h2⟩
      · rw [hl] at sl2
        have hlen2 := sl2.lenV1
        have m12 := m1.trans m2
        have ht : (l.take c.toNat).length = c.toNat := by rw [List.length_take]; omega
        rw [bytesV_length, ht] at hlen2
        have hk8 : c.toNat ≤ 8 := by omega
        have eg0 : binOf .gtr (.int .i64 (c.toNat : Int)) (.int .i64 0) = some (.bool (decide (0 < c.toNat))) := by rw [bin_gtr]; simp
        by_cases hhd : (l.take c.toNat).head? = some 0
        · have hn : natP (c :: l) = none := by simp only [natP]; rw [if_pos (.inr (.inr hhd))]
          have hz : 0 < c.toNat := by
            rcases Nat.eq_zero_or_pos c.toNat with h0 | h0
            · rw [h0] at hhd; cases hhd
            · exact h0
          obtain ⟨q2, f1, f2⟩ := sl2.at_one (j := 0) (v := byteV 0) (by unfold bytesV; rw [List.getElem?_map, ← List.head?_eq_getElem?, hhd]; rfl) .i64
          have eb := eql_byte 0
          simp [-bin_eql, -bin_gtr] at f1 eb
          simp [hlen2, eg0, hz, f1, f2, eb, hcl, hn, -bin_gtr, -bin_eql]
          exact ⟨m12, _, k2⟩
        · have hn : natP (c :: l) = some (beV (l.take c.toNat), l.drop c.toNat) := by
            simp only [natP]
            rw [if_neg]
            simp only [not_or]
            exact ⟨h8, by omega, hhd⟩
          have hld : l.drop c.toNat = b.drop (i + 1 + c.toNat) := by rw [← hl, List.drop_drop]
          by_cases hz : 0 < c.toNat
          case' pos =>
            obtain ⟨y, hy⟩ : ∃ y, (l.take c.toNat)[0]? = some y := ⟨_, List.getElem?_eq_getElem (by omega)⟩
            have hy0 : y ≠ 0 := fun h0 => hhd (by rw [List.head?_eq_getElem?, hy, h0])
            obtain ⟨q2, f1, f2⟩ := sl2.at_one (j := 0) (v := byteV y) (by unfold bytesV; rw [List.getElem?_map, hy]; rfl) .i64
            have eb := eql_byte y
            rw [decide_eq_false hy0] at eb
            simp [-bin_eql, -bin_gtr] at f1 eb
            simp [hlen2, eg0, hz, f1, f2, eb, -bin_gtr, -bin_eql]
          case' neg => simp [hlen2, eg0, hz, -bin_gtr]
          all_goals
            refine Wp.loopK (fun d E A' => B2 = A' ∧ Env.at E 45 = s2 ∧ Env.at E 46 = .int .i64 c.toNat ∧ ∃ j : Nat, Env.at E 47 = .int .i64 j ∧ j + d = c.toNat ∧ Env.at E 7 = .int .u64 (beV ((l.take c.toNat).take j))) c.toNat ?_ ?_
            · exact ⟨rfl, by simp, by simp, 0, by simp, by simp, by simp [beV]⟩
            rintro d E A' ⟨rfl, e45, e46, j, e47, hj, e7⟩
            simp [e45, e46, e47, lss_nat, -bin_lss]
            refine contC_of (fun hc => ?_) (fun hc => ?_)
            · simp at hc
              obtain ⟨x, hx⟩ : ∃ x, (l.take c.toNat)[j]? = some x := ⟨_, List.getElem?_eq_getElem (by omega)⟩
              obtain ⟨q3, w1, w2⟩ := sl2.at_one (j := j) (v := byteV x) (by unfold bytesV; rw [List.getElem?_map, hx]; rfl) .i64
              have hb56 : beV ((l.take c.toNat).take j) < 2 ^ 56 := by
                have h1 := beV_lt ((l.take c.toNat).take j)
                have h2 : ((l.take c.toNat).take j).length = j := by rw [List.length_take, ht]; omega
                rw [h2] at h1
                exact Nat.lt_of_lt_of_le h1 (Nat.le_trans (Nat.pow_le_pow_right (by decide) (show j ≤ 7 by omega)) (by decide))
              obtain ⟨y, o1, o2⟩ := or_step hb56 x
              have ea := add_one (i := j) (by omega)
              simp [-bin_add] at ea
              simp [e45, e46, e47, e7, w1, w2, conv_byteU, o1, o2, ea, -bin_add, -convV_int]
              refine ⟨d - 1, by omega, j + 1, by omega, by omega, ?_⟩
              rw [beV_take_succ hx]
              push_cast
              rfl
            · simp at hc
              have hjk : j = c.toNat := by omega
              have htt : (l.take c.toNat).take c.toNat = l.take c.toNat := by rw [List.take_take]; simp
              rw [hjk, htt] at e7
              simp [e7, hcl, hn]
              exact ⟨m12, _, k2, hld⟩
end Go.Proofs.YtejlhgcheaimjaaGreatDoor
