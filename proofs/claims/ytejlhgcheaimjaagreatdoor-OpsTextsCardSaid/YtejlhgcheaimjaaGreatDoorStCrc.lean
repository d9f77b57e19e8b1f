/- Sums of bytes, in plain numbers. -/
import Derived.Test.YtejlhgcheaimjaaGreatDoorAmRows
namespace Go.AM

def poly : Nat := 2197175160
def crcBit (s : Nat) : Nat := if s % 2 = 1 then (s / 2) ^^^ poly else s / 2
def crcIt : Nat → Nat → Nat
  | 0, s => s
  | n + 1, s => crcIt n (crcBit s)
def crcByte (s : Nat) (c : UInt8) : Nat := crcIt 8 (s ^^^ c.toNat)
def crcAll (s : Nat) (l : List UInt8) : Nat := l.foldl crcByte s
def crcSum (l : List UInt8) : Nat := 4294967295 ^^^ crcAll 4294967295 l

theorem crcBit_lt {s : Nat} (h : s < 2 ^ 32) : crcBit s < 2 ^ 32 := by
  unfold crcBit
  split
  · exact Nat.xor_lt_two_pow (by omega) (by decide)
  · omega
theorem crcIt_lt : ∀ (n : Nat) {s : Nat}, s < 2 ^ 32 → crcIt n s < 2 ^ 32
  | 0, _, h => h
  | n + 1, _, h => crcIt_lt n (crcBit_lt h)
theorem crcIt_succ : ∀ (n s : Nat), crcIt (n + 1) s = crcBit (crcIt n s)
  | 0, _ => rfl
  | n + 1, s => by
    show crcIt (n + 1) (crcBit s) = _
    rw [crcIt_succ n (crcBit s)]
    rfl
theorem xor_byte_lt {s : Nat} (h : s < 2 ^ 32) (c : UInt8) : s ^^^ c.toNat < 2 ^ 32 := Nat.xor_lt_two_pow h (Nat.lt_of_lt_of_le c.toNat_lt (by decide))
theorem crcByte_lt {s : Nat} (h : s < 2 ^ 32) (c : UInt8) : crcByte s c < 2 ^ 32 := crcIt_lt 8 (xor_byte_lt h c)
theorem crcAll_lt : ∀ (l : List UInt8) {s : Nat}, s < 2 ^ 32 → crcAll s l < 2 ^ 32
  | [], _, h => h
  | c :: l, _, h => crcAll_lt l (crcByte_lt h c)
theorem crcSum_lt (l : List UInt8) : crcSum l < 2 ^ 32 := Nat.xor_lt_two_pow (by decide) (crcAll_lt l (by decide))
theorem crcAll_append (s : Nat) (a b : List UInt8) : crcAll s (a ++ b) = crcAll (crcAll s a) b := List.foldl_append

/-- Parts: slices of bytes. -/
def PartsB (A : St) : List AV → List (List UInt8) → Prop
  | [], [] => True
  | v :: vs, l :: ls => Bs A v l ∧ PartsB A vs ls
  | _, _ => False
theorem PartsB.length {A : St} : ∀ {vs : List AV} {ls : List (List UInt8)}, PartsB A vs ls → vs.length = ls.length
  | [], [], _ => rfl
  | _ :: _, _ :: _, h => by simp [PartsB.length h.2]
  | [], _ :: _, h => h.elim
  | _ :: _, [], h => h.elim
theorem PartsB.get {A : St} : ∀ {vs : List AV} {ls : List (List UInt8)}, PartsB A vs ls → ∀ {i : Nat}, i < vs.length → ∃ v l, vs[i]? = some v ∧ ls[i]? = some l ∧ Bs A v l
  | [], [], _, i, h => by simp at h
  | v :: _, l :: _, h, 0, _ => ⟨v, l, rfl, rfl, h.1⟩
  | _ :: _, _ :: _, h, i + 1, hi => by simpa using PartsB.get h.2 (by simpa using hi)
  | [], _ :: _, h, _, _ => h.elim
  | _ :: _, [], h, _, _ => h.elim
theorem PartsB.ext {A B : St} (h : A.Ext B) : ∀ {vs : List AV} {ls : List (List UInt8)}, PartsB A vs ls → PartsB B vs ls
  | [], [], _ => trivial
  | _ :: _, _ :: _, e => ⟨Sl.ext h e.1, e.2.ext h⟩
  | [], _ :: _, h => h.elim
  | _ :: _, [], h => h.elim
theorem take_flatten_succ {α : Type} {ls : List (List α)} {i : Nat} {l : List α} (h : ls[i]? = some l) : (ls.take (i + 1)).flatten = (ls.take i).flatten ++ l := by
  rw [List.take_add_one, h]; simp
theorem take_succ_of {α : Type} {ls : List α} {i : Nat} {l : α} (h : ls[i]? = some l) : ls.take (i + 1) = ls.take i ++ [l] := by
  rw [List.take_add_one, h]; rfl

theorem and_one {x : Nat} (h : x < 2 ^ 32) : ∃ y : Nat, y = x % 2 ∧ binOf .and (.int .u32 x) (.int .u32 1) = some (.int .u32 y) :=
  ⟨_, (Nat.and_one_is_mod x).symm ▸ rfl, bin_and_un (k := .u32) (a := x) (b := 1) rfl h (by decide)⟩
theorem shr_one (x : Nat) : ∃ y : Nat, y = x / 2 ∧ binOf .shr (.int .u32 x) (.int .u64 1) = some (.int .u32 y) :=
  ⟨_, by simp, bin_shr_nat (k := .u32) (a := x) (j := .u64) (s := 1) (by decide)⟩
theorem xor_poly {x : Nat} (h : x < 2 ^ 32) : ∃ y : Nat, y = x ^^^ poly ∧ binOf .xor (.int .u32 x) (.int .u32 2197175160) = some (.int .u32 y) :=
  ⟨_, rfl, bin_xor_un (k := .u32) (a := x) (b := 2197175160) rfl h (by decide)⟩
theorem xor_byte {x : Nat} (h : x < 2 ^ 32) (c : UInt8) : ∃ y : Nat, y = x ^^^ c.toNat ∧ binOf .xor (.int .u32 x) (.int .u32 c.toNat) = some (.int .u32 y) :=
  ⟨_, rfl, bin_xor_un (k := .u32) (a := x) rfl h (Nat.lt_of_lt_of_le c.toNat_lt (by decide))⟩
theorem conv_byte (c : UInt8) : convV .u32 (byteV c) = some (.int .u32 c.toNat) := by
  unfold byteV
  rw [convV_int, wrap_u32_nat, Nat.mod_eq_of_lt (Nat.lt_of_lt_of_le c.toNat_lt (by decide))]
theorem not_u32 {x : Nat} (h : x < 2 ^ 32) : ∃ y : Nat, y = 4294967295 ^^^ x ∧ unOf .xor (.int .u32 x) = some (.int .u32 y) :=
  ⟨_, rfl, by
    have e : unOf .xor (.int .u32 x) = binOf .xor (.int .u32 ((4294967295 : Nat) : Int)) (.int .u32 x) := rfl
    rw [e, bin_xor_un (k := .u32) rfl (by decide) h]⟩

/-! ### Bit by bit -/
/-- One bit told. -/
def refBit (s b : Nat) : Nat := if b ≠ s % 2 then (s / 2) ^^^ poly else s / 2
/-- The first n bits of a byte. -/
def refIt (c : Nat) : Nat → Nat → Nat
  | 0, s => s
  | n + 1, s => refBit (refIt c n s) (c / 2 ^ n % 2)

theorem crcBit_xor {s c : Nat} : crcBit (s ^^^ c) = refBit s (c % 2) ^^^ (c / 2) := by
  unfold crcBit refBit
  have h1 : (s ^^^ c) % 2 = (s % 2 + c % 2) % 2 := by
    have := Nat.testBit_xor s c 0
    simp only [Nat.testBit_zero] at this
    rcases Nat.mod_two_eq_zero_or_one s with a | a <;> rcases Nat.mod_two_eq_zero_or_one c with b | b <;> rcases Nat.mod_two_eq_zero_or_one (s ^^^ c) with e | e <;> simp_all
  have h2 : (s ^^^ c) / 2 = (s / 2) ^^^ (c / 2) := Nat.xor_div_two
  rw [h2]
  rcases Nat.mod_two_eq_zero_or_one s with a | a <;> rcases Nat.mod_two_eq_zero_or_one c with b | b
  · simp [h1, a, b]
  · simp [h1, a, b]; rw [Nat.xor_assoc, Nat.xor_assoc, Nat.xor_comm poly]
  · simp [h1, a, b]; rw [Nat.xor_assoc, Nat.xor_assoc, Nat.xor_comm poly]
  · simp [h1, a, b]
theorem crcIt_xor (s c : Nat) : ∀ n, crcIt n (s ^^^ c) = refIt c n s ^^^ (c / 2 ^ n)
  | 0 => by simp [crcIt, refIt]
  | n + 1 => by
    rw [crcIt_succ, crcIt_xor s c n, crcBit_xor]
    show _ = refBit (refIt c n s) (c / 2 ^ n % 2) ^^^ _
    rw [Nat.div_div_eq_div_mul, Nat.pow_succ]
theorem crcByte_ref (s : Nat) (c : UInt8) : crcByte s c = refIt c.toNat 8 s := by
  unfold crcByte
  rw [crcIt_xor, Nat.div_eq_of_lt (by have := c.toNat_lt; omega), Nat.xor_zero]

/-- Where the sum bit by bit stands behind i bits. -/
def rs (l : List UInt8) (i : Nat) : Nat := refIt ((l[i / 8]?).getD 0).toNat (i % 8) (crcAll 4294967295 (l.take (i / 8)))
theorem rs_zero (l : List UInt8) : rs l 0 = 4294967295 := by simp [rs, refIt, crcAll]
theorem rs_succ {l : List UInt8} {i : Nat} {c : UInt8} (h : l[i / 8]? = some c) : rs l (i + 1) = refBit (rs l i) (c.toNat / 2 ^ (i % 8) % 2) := by
  unfold rs
  rw [h]
  dsimp only [Option.getD_some]
  by_cases h7 : i % 8 = 7
  · have e1 : (i + 1) / 8 = i / 8 + 1 := by omega
    have e2 : (i + 1) % 8 = 0 := by omega
    rw [e1, e2, take_succ_of h, crcAll_append, h7]
    show crcByte _ c = refIt _ 8 _
    rw [crcByte_ref]
  · have e1 : (i + 1) / 8 = i / 8 := by omega
    have e2 : (i + 1) % 8 = i % 8 + 1 := by omega
    rw [e1, e2, h]
    rfl
theorem rs_end (l : List UInt8) : rs l (8 * l.length) = crcAll 4294967295 l := by
  unfold rs
  rw [show 8 * l.length / 8 = l.length by omega, show 8 * l.length % 8 = 0 by omega, List.take_length]
  rfl
theorem refBit_lt {s : Nat} (h : s < 2 ^ 32) (b : Nat) : refBit s b < 2 ^ 32 := by
  unfold refBit
  split
  · exact Nat.xor_lt_two_pow (by omega) (by decide)
  · omega
theorem refIt_lt (c : Nat) : ∀ (n : Nat) {s : Nat}, s < 2 ^ 32 → refIt c n s < 2 ^ 32
  | 0, _, h => h
  | n + 1, _, h => refBit_lt (refIt_lt c n h) _
theorem rs_lt (l : List UInt8) (i : Nat) : rs l i < 2 ^ 32 := refIt_lt _ _ (crcAll_lt _ (by decide))
theorem ones_xor {x : Nat} (h : x < 2 ^ 32) : 4294967295 ^^^ x = 4294967295 - x := by
  have e : (BitVec.allOnes 32 ^^^ BitVec.ofNat 32 x) = ~~~ (BitVec.ofNat 32 x) := by rw [BitVec.xor_comm, BitVec.xor_allOnes]
  have := congrArg BitVec.toNat e
  rw [BitVec.toNat_xor, BitVec.toNat_not, BitVec.toNat_ofNat, Nat.mod_eq_of_lt h] at this
  simpa using this
theorem rem_nat {k : IntKind} {a b : Nat} (h : b ≠ 0) : ∃ y : Nat, y = a % b ∧ binOf .rem (.int k a) (.int k b) = some (.int k y) := ⟨_, rfl, bin_rem_nat h⟩
theorem quo_i64 {a b : Nat} (h : b ≠ 0) (ha : a < 2 ^ 62) : ∃ y : Nat, y = a / b ∧ binOf .quo (.int .i64 a) (.int .i64 b) = some (.int .i64 y) :=
  ⟨_, rfl, bin_quo_nat h (wrap_i64_nat (Nat.lt_of_le_of_lt (Nat.div_le_self a b) (by omega)))⟩
theorem quo_u32 {a b : Nat} (h : b ≠ 0) (ha : a < 2 ^ 32) : ∃ y : Nat, y = a / b ∧ binOf .quo (.int .u32 a) (.int .u32 b) = some (.int .u32 y) :=
  ⟨_, rfl, bin_quo_nat h (wrap_un_small rfl (Nat.lt_of_le_of_lt (Nat.div_le_self a b) ha))⟩

/-! ### Frames -/
def headOf (l : List UInt8) : List UInt8 := 167 :: UInt8.ofNat (l.length / 256) :: UInt8.ofNat (l.length % 256) :: l
def sumOf (n : Nat) : List UInt8 := [UInt8.ofNat (n / 16777216), UInt8.ofNat (n / 65536), UInt8.ofNat (n / 256), UInt8.ofNat n]
def frame (l : List UInt8) : List UInt8 := headOf l ++ sumOf (crcSum (headOf l))
theorem frame_length (l : List UInt8) : (frame l).length = l.length + 7 := by simp [frame, headOf, sumOf]

theorem ofNat_mod (n : Nat) : UInt8.ofNat (n % 256) = UInt8.ofNat n := by
  apply UInt8.toNat_inj.1
  simp

/-! ### The first frame -/
def lenOf (c1 c2 : UInt8) : Nat := c1.toNat * 256 + c2.toNat
/-- The body of the frame that some bytes begin with. -/
def peel : List UInt8 → Option (List UInt8)
  | c0 :: c1 :: c2 :: t => if lenOf c1 c2 ≤ 16384 ∧ lenOf c1 c2 + 4 ≤ t.length ∧ c0 = 167 ∧ (t.drop (lenOf c1 c2)).take 4 = sumOf (crcSum (headOf (t.take (lenOf c1 c2)))) then some (t.take (lenOf c1 c2)) else none
  | _ => none
theorem lenOf_lt (c1 c2 : UInt8) : lenOf c1 c2 < 65536 := by
  have := c1.toNat_lt; have := c2.toNat_lt; unfold lenOf; omega
theorem lenOf_hi (c1 c2 : UInt8) : UInt8.ofNat (lenOf c1 c2 / 256) = c1 := by
  have := c1.toNat_lt; have := c2.toNat_lt
  rw [show lenOf c1 c2 / 256 = c1.toNat by unfold lenOf; omega]; simp
theorem lenOf_lo (c1 c2 : UInt8) : UInt8.ofNat (lenOf c1 c2 % 256) = c2 := by
  have := c1.toNat_lt; have := c2.toNat_lt
  rw [show lenOf c1 c2 % 256 = c2.toNat by unfold lenOf; omega]; simp
theorem headOf_take {c1 c2 : UInt8} {t : List UInt8} (h : lenOf c1 c2 ≤ t.length) : headOf (t.take (lenOf c1 c2)) = 167 :: c1 :: c2 :: t.take (lenOf c1 c2) := by
  unfold headOf
  rw [List.length_take, Nat.min_eq_left h, lenOf_hi, lenOf_lo]
theorem peel_short {l : List UInt8} (h : l.length < 7) : peel l = none := by
  unfold peel
  split
  · rename_i c0 c1 c2 t
    rw [if_neg]
    simp only [List.length_cons] at h
    omega
  · rfl
theorem three_of {l : List UInt8} (h : 7 ≤ l.length) : ∃ c0 c1 c2 t, l = c0 :: c1 :: c2 :: t := by
  match l, h with
  | c0 :: c1 :: c2 :: t, _ => exact ⟨c0, c1, c2, t, rfl⟩
/-- What the document compares. -/
theorem frame_take {c0 c1 c2 : UInt8} {t : List UInt8} (h : lenOf c1 c2 + 4 ≤ t.length) : frame (t.take (lenOf c1 c2)) = (c0 :: c1 :: c2 :: t).take (lenOf c1 c2 + 7) ↔ c0 = 167 ∧ (t.drop (lenOf c1 c2)).take 4 = sumOf (crcSum (headOf (t.take (lenOf c1 c2)))) := by
  have e : t.take (lenOf c1 c2 + 4) = t.take (lenOf c1 c2) ++ (t.drop (lenOf c1 c2)).take 4 := by rw [List.take_add]
  have e2 : (c0 :: c1 :: c2 :: t).take (lenOf c1 c2 + 7) = c0 :: c1 :: c2 :: (t.take (lenOf c1 c2) ++ (t.drop (lenOf c1 c2)).take 4) := by rw [← e]; rfl
  have e3 : frame (t.take (lenOf c1 c2)) = 167 :: c1 :: c2 :: (t.take (lenOf c1 c2) ++ sumOf (crcSum (headOf (t.take (lenOf c1 c2))))) := by
    unfold frame
    conv => lhs; rw [headOf_take (by omega)]
    rw [headOf_take (by omega)]
    rfl
  rw [e2, e3]
  constructor
  · intro h
    injection h with h1 h
    injection h with h2 h
    injection h with h3 h
    exact ⟨h1.symm, (List.append_cancel_left h).symm⟩
  · rintro ⟨rfl, h⟩
    rw [h]
theorem conv_byte64 (c : UInt8) : convV .i64 (byteV c) = some (.int .i64 c.toNat) := by
  unfold byteV
  rw [convV_int, wrap_i64_nat (Nat.lt_of_lt_of_le c.toNat_lt (by decide))]
theorem shl_byte (c : UInt8) : ∃ y : Nat, y = c.toNat * 256 ∧ binOf .shl (.int .i64 c.toNat) (.int .u64 8) = some (.int .i64 y) :=
  ⟨_, rfl, by
    have := bin_shl_nat (k := .i64) (a := c.toNat) (j := .u64) (s := 8) (by decide)
    rw [show c.toNat * 2 ^ 8 = c.toNat * 256 from rfl, wrap_i64_nat (by have := c.toNat_lt; omega)] at this
    exact this⟩
theorem or_byte {y : Nat} (c1 c2 : UInt8) (h : y = c1.toNat * 256) : ∃ n : Nat, n = lenOf c1 c2 ∧ binOf .or (.int .i64 y) (.int .i64 c2.toNat) = some (.int .i64 n) :=
  ⟨_, rfl, by
    have h1 := c1.toNat_lt
    have h2 := c2.toNat_lt
    rw [bin_or_i64 (by omega) (by omega)]
    have e : y ||| c2.toNat = lenOf c1 c2 := by
      rw [h]
      have := Nat.shiftLeft_add_eq_or_of_lt (i := 8) (b := c2.toNat) (by omega) c1.toNat
      rw [Nat.shiftLeft_eq] at this
      exact this.symm
    rw [e]⟩
theorem mul_byte (c : UInt8) : ∃ y : Nat, y = c.toNat * 256 ∧ binOf .mul (.int .i64 256) (.int .i64 c.toNat) = some (.int .i64 y) :=
  ⟨_, rfl, by
    have := c.toNat_lt
    rw [bin_mul, show (256 : Int) * (c.toNat : Int) = ((c.toNat * 256 : Nat) : Int) by omega, wrap_i64_nat (by omega)]⟩
theorem gtr_nat (k : IntKind) (i n : Nat) : binOf .gtr (.int k i) (.int k n) = some (.bool (decide (n < i))) := by
  rw [bin_gtr]; simp
theorem leq_nat (k : IntKind) (i n : Nat) : binOf .leq (.int k i) (.int k n) = some (.bool (decide (i ≤ n))) := by
  rw [bin_leq]; simp
theorem eql_nat (k : IntKind) (i n : Nat) : binOf .eql (.int k i) (.int k n) = some (.bool (decide (i = n))) := by
  rw [bin_eql]; simp; omega
theorem neq_nat (k : IntKind) (i n : Nat) : binOf .neq (.int k i) (.int k n) = some (.bool (decide (i ≠ n))) := by
  rw [bin_neq]; simp; omega
theorem neq_byte (c d : UInt8) : binOf .neq (byteV c) (byteV d) = some (.bool (decide (c ≠ d))) := by
  unfold byteV
  rw [bin_neq]
  have e : ((c.toNat : Int) = (d.toNat : Int)) ↔ c = d := ⟨fun h => UInt8.toNat_inj.1 (by omega), fun h => by rw [h]⟩
  simp [e]

theorem peel_cons (c0 c1 c2 : UInt8) (t : List UInt8) : peel (c0 :: c1 :: c2 :: t) = if lenOf c1 c2 ≤ 16384 ∧ lenOf c1 c2 + 4 ≤ t.length ∧ c0 = 167 ∧ (t.drop (lenOf c1 c2)).take 4 = sumOf (crcSum (headOf (t.take (lenOf c1 c2)))) then some (t.take (lenOf c1 c2)) else none := rfl
theorem peel_bad {l : List UInt8} {c0 c1 c2 : UInt8} {t : List UInt8} (h : l = c0 :: c1 :: c2 :: t) {n : Nat} (hn : n = lenOf c1 c2) (hb : ¬ (n ≤ 16384 ∧ n + 7 ≤ l.length)) : peel l = none := by
  rw [h] at *
  rw [peel_cons, if_neg]
  rintro ⟨h1, h2, _⟩
  exact hb ⟨by omega, by simp only [List.length_cons]; omega⟩
theorem peel_frame {l : List UInt8} {c0 c1 c2 : UInt8} {t : List UInt8} (h : l = c0 :: c1 :: c2 :: t) {n : Nat} (hn : n = lenOf c1 c2) (h1 : n ≤ 16384) (h2 : n + 7 ≤ l.length) :
    peel l = if frame ((l.take (3 + n)).drop 3) = l.take (n + 7) then some ((l.take (3 + n)).drop 3) else none := by
  subst h; subst hn
  have e : (((c0 :: c1 :: c2 :: t).take (3 + lenOf c1 c2)).drop 3) = t.take (lenOf c1 c2) := by
    rw [Nat.add_comm]; rfl
  simp only [List.length_cons] at h2
  rw [e, peel_cons]
  have := frame_take (c0 := c0) (c1 := c1) (c2 := c2) (t := t) (by omega)
  by_cases hf : frame (t.take (lenOf c1 c2)) = (c0 :: c1 :: c2 :: t).take (lenOf c1 c2 + 7)
  · rw [if_pos hf, if_pos ⟨h1, by omega, this.1 hf⟩]
  · rw [if_neg hf, if_neg (fun h => hf (this.2 h.2.2))]
/-- What the program compares. -/
theorem peel_sum {l : List UInt8} {c0 c1 c2 : UInt8} {t : List UInt8} (h : l = c0 :: c1 :: c2 :: t) {n : Nat} (hn : n = lenOf c1 c2) (h0 : c0 = 167) (h1 : n ≤ 16384) (h2 : n + 7 ≤ l.length) :
    peel l = if (l.take (n + 7)).drop (3 + n) = sumOf (crcSum (l.take (3 + n))) then some ((l.take (3 + n)).drop 3) else none := by
  subst h; subst hn; subst h0
  have e : (((167 :: c1 :: c2 :: t).take (3 + lenOf c1 c2)).drop 3) = t.take (lenOf c1 c2) := by
    rw [Nat.add_comm]; rfl
  simp only [List.length_cons] at h2
  have e2 : ((167 :: c1 :: c2 :: t).take (3 + lenOf c1 c2)) = headOf (t.take (lenOf c1 c2)) := by
    rw [headOf_take (by omega), Nat.add_comm]; rfl
  have e3 : ((167 :: c1 :: c2 :: t).take (lenOf c1 c2 + 7)).drop (3 + lenOf c1 c2) = (t.drop (lenOf c1 c2)).take 4 := by
    rw [show lenOf c1 c2 + 7 = (3 + lenOf c1 c2) + 4 by omega, List.drop_take, show 3 + lenOf c1 c2 + 4 - (3 + lenOf c1 c2) = 4 by omega, show 3 + lenOf c1 c2 = lenOf c1 c2 + 1 + 1 + 1 by omega, List.drop_succ_cons, List.drop_succ_cons, List.drop_succ_cons]
  rw [e, e2, e3, peel_cons]
  by_cases hf : (t.drop (lenOf c1 c2)).take 4 = sumOf (crcSum (headOf (t.take (lenOf c1 c2))))
  · rw [if_pos hf, if_pos ⟨h1, by omega, rfl, hf⟩]
  · rw [if_neg hf, if_neg (fun h => hf h.2.2.2)]

/-! ### All frames -/
def allN : Nat → List UInt8 → List (List UInt8)
  | 0, _ => []
  | n + 1, l => match peel l with
    | some m => m :: allN n (l.drop (m.length + 7))
    | none => []
/-- The bodies of the frames that some bytes begin with. -/
def bodies (l : List UInt8) : List (List UInt8) := allN l.length l
/-- How long frames are. -/
def span : List (List UInt8) → Nat
  | [] => 0
  | m :: ms => m.length + 7 + span ms
theorem span_append : ∀ (a b : List (List UInt8)), span (a ++ b) = span a + span b
  | [], b => by simp [span]
  | m :: a, b => by simp only [List.cons_append, span, span_append a b]; omega
theorem peel_len {l m : List UInt8} (h : peel l = some m) : m.length + 7 ≤ l.length ∧ m.length ≤ 16384 := by
  by_cases hc : l.length < 7
  · rw [peel_short hc] at h; cases h
  · obtain ⟨c0, c1, c2, t, rfl⟩ := three_of (Nat.le_of_not_lt hc)
    rw [peel_cons] at h
    split at h
    · rename_i hh
      cases h
      simp only [List.length_take, List.length_cons]
      omega
    · cases h
theorem allN_eq : ∀ {n : Nat} {l : List UInt8}, l.length ≤ n → allN n l = allN l.length l
  | 0, l, h => by rw [show l.length = 0 by omega]
  | n + 1, l, h => by
    cases hp : peel l with
    | none =>
      have e : ∀ k, allN k l = [] := fun k => by cases k with
        | zero => rfl
        | succ k => simp only [allN, hp]
      rw [e, e]
    | some m =>
      have hm := (peel_len hp).1
      obtain ⟨k, hk⟩ : ∃ k, l.length = k + 1 := ⟨l.length - 1, by omega⟩
      rw [hk]
      simp only [allN, hp]
      rw [allN_eq (n := n) (by rw [List.length_drop]; omega), allN_eq (n := k) (by rw [List.length_drop]; omega)]
theorem bodies_none {l : List UInt8} (h : peel l = none) : bodies l = [] := by
  unfold bodies
  cases l.length with
  | zero => rfl
  | succ k => simp only [allN, h]
theorem bodies_some {l m : List UInt8} (h : peel l = some m) : bodies l = m :: bodies (l.drop (m.length + 7)) := by
  have hm := (peel_len h).1
  unfold bodies
  obtain ⟨k, hk⟩ : ∃ k, l.length = k + 1 := ⟨l.length - 1, by omega⟩
  conv => lhs; rw [hk]
  simp only [allN, h]
  rw [allN_eq (n := k) (by rw [List.length_drop]; omega)]

theorem lenOf_ofNat {n : Nat} (h : n < 65536) : lenOf (UInt8.ofNat (n / 256)) (UInt8.ofNat (n % 256)) = n := by
  unfold lenOf
  rw [UInt8.toNat_ofNat', UInt8.toNat_ofNat']
  omega
theorem sumOf_length (n : Nat) : (sumOf n).length = 4 := rfl
theorem peel_app {m : List UInt8} (h : m.length ≤ 16384) (r : List UInt8) : peel (frame m ++ r) = some m := by
  have e : frame m ++ r = 167 :: UInt8.ofNat (m.length / 256) :: UInt8.ofNat (m.length % 256) :: (m ++ (sumOf (crcSum (headOf m)) ++ r)) := by
    unfold frame
    rw [List.append_assoc]
    rfl
  rw [e, peel_cons, lenOf_ofNat (by omega)]
  have e1 : (m ++ (sumOf (crcSum (headOf m)) ++ r)).take m.length = m := by simp
  have e2 : (m ++ (sumOf (crcSum (headOf m)) ++ r)).drop m.length = sumOf (crcSum (headOf m)) ++ r := by simp
  rw [e1, e2, List.take_append_of_le_length (by rw [sumOf_length]; exact Nat.le_refl _), List.take_of_length_le (by rw [sumOf_length]; exact Nat.le_refl _), if_pos]
  refine ⟨h, ?_, rfl, rfl⟩
  rw [List.length_append, List.length_append, sumOf_length]
  omega
theorem peel_frame_self {m : List UInt8} (h : m.length ≤ 16384) : peel (frame m) = some m := by
  have := peel_app h []
  rwa [List.append_nil] at this
end Go.AM
