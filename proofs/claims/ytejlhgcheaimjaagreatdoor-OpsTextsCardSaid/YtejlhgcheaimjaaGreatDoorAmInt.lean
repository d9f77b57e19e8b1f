/- The abstract machine: integers that are natural numbers. -/
import Derived.Test.YtejlhgcheaimjaaGreatDoorAmOwn
import Derived.Laws.BitsLemmas
namespace Go.AM
set_option linter.unusedVariables false
set_option linter.unusedSimpArgs false

theorem wrap_un {k : IntKind} (hs : k.signed = false) (x : Int) : k.wrap x = x % 2 ^ k.bits := by simp [IntKind.wrap, hs]
theorem wrap_un_nat {k : IntKind} (hs : k.signed = false) (n : Nat) : k.wrap (n : Int) = ((n % 2 ^ k.bits : Nat) : Int) := by rw [wrap_un hs]; simp
theorem wrap_un_small {k : IntKind} (hs : k.signed = false) {n : Nat} (h : n < 2 ^ k.bits) : k.wrap (n : Int) = n := by rw [wrap_un_nat hs, Nat.mod_eq_of_lt h]
theorem wrap_i64 {x : Int} (h1 : -9223372036854775808 ≤ x) (h2 : x < 9223372036854775808) : IntKind.i64.wrap x = x := by rw [IntKind.wrap_i64]; omega
theorem wrap_i64_nat {n : Nat} (h : n < 9223372036854775808) : IntKind.i64.wrap (n : Int) = n := wrap_i64 (by omega) (by omega)
theorem wrap_u8_nat (n : Nat) : IntKind.u8.wrap (n : Int) = ((n % 256 : Nat) : Int) := by rw [IntKind.wrap_u8]; simp
theorem wrap_u32_nat (n : Nat) : IntKind.u32.wrap (n : Int) = ((n % 4294967296 : Nat) : Int) := by rw [IntKind.wrap_u32]; simp

theorem ofInt_nat (n a : Nat) : (BitVec.ofInt n (a : Int)).toNat = a % 2 ^ n := by simp
section
variable {k : IntKind} {a b : Nat}
theorem bin_xor_un (hs : k.signed = false) (ha : a < 2 ^ k.bits) (hb : b < 2 ^ k.bits) : binOf .xor (.int k a) (.int k b) = some (.int k ((a ^^^ b : Nat) : Int)) := by
  have e : binOf .xor (.int k a) (.int k b) = some (.int k (k.wrap (BitVec.ofInt k.bits a ^^^ BitVec.ofInt k.bits b).toNat)) := by simp [binOf, isShift, binInt]
  rw [e, BitVec.toNat_xor, ofInt_nat, ofInt_nat, Nat.mod_eq_of_lt ha, Nat.mod_eq_of_lt hb, wrap_un_small hs (Nat.xor_lt_two_pow ha hb)]
theorem bin_and_un (hs : k.signed = false) (ha : a < 2 ^ k.bits) (hb : b < 2 ^ k.bits) : binOf .and (.int k a) (.int k b) = some (.int k ((a &&& b : Nat) : Int)) := by
  have e : binOf .and (.int k a) (.int k b) = some (.int k (k.wrap (BitVec.ofInt k.bits a &&& BitVec.ofInt k.bits b).toNat)) := by simp [binOf, isShift, binInt]
  rw [e, BitVec.toNat_and, ofInt_nat, ofInt_nat, Nat.mod_eq_of_lt ha, Nat.mod_eq_of_lt hb, wrap_un_small hs (Nat.and_lt_two_pow _ hb)]
theorem bin_or_un (hs : k.signed = false) (ha : a < 2 ^ k.bits) (hb : b < 2 ^ k.bits) : binOf .or (.int k a) (.int k b) = some (.int k ((a ||| b : Nat) : Int)) := by
  have e : binOf .or (.int k a) (.int k b) = some (.int k (k.wrap (BitVec.ofInt k.bits a ||| BitVec.ofInt k.bits b).toNat)) := by simp [binOf, isShift, binInt]
  rw [e, BitVec.toNat_or, ofInt_nat, ofInt_nat, Nat.mod_eq_of_lt ha, Nat.mod_eq_of_lt hb, wrap_un_small hs (Nat.or_lt_two_pow ha hb)]
theorem bin_or_i64 (ha : a < 2 ^ 63) (hb : b < 2 ^ 63) : binOf .or (.int .i64 a) (.int .i64 b) = some (.int .i64 ((a ||| b : Nat) : Int)) := by
  have e : binOf .or (.int .i64 a) (.int .i64 b) = some (.int .i64 (IntKind.i64.wrap (BitVec.ofInt 64 a ||| BitVec.ofInt 64 b).toNat)) := rfl
  have h := Nat.or_lt_two_pow ha hb
  rw [e, BitVec.toNat_or, ofInt_nat, ofInt_nat, Nat.mod_eq_of_lt (by omega), Nat.mod_eq_of_lt (by omega), wrap_i64_nat (by omega)]
theorem bin_shr_nat {j : IntKind} {s : Nat} (h : s ≤ k.bits) : binOf .shr (.int k a) (.int j s) = some (.int k ((a / 2 ^ s : Nat) : Int)) := by
  have e : binOf .shr (.int k a) (.int j s) = shiftInt .shr k a s := by simp [binOf, isShift]
  rw [e]
  unfold shiftInt
  rw [if_neg (by omega)]
  dsimp only
  rw [Int.toNat_natCast, Nat.min_eq_left h]
  congr 2
  rw [Int.fdiv_eq_ediv_of_nonneg _ (by exact Int.le_of_lt (Int.pow_pos (by decide)))]
  norm_cast
theorem bin_shl_nat {j : IntKind} {s : Nat} (h : s ≤ k.bits) : binOf .shl (.int k a) (.int j s) = some (.int k (k.wrap ((a * 2 ^ s : Nat) : Int))) := by
  have e : binOf .shl (.int k a) (.int j s) = shiftInt .shl k a s := by simp [binOf, isShift]
  rw [e]
  unfold shiftInt
  rw [if_neg (by omega)]
  dsimp only
  rw [Int.toNat_natCast, Nat.min_eq_left h]
  norm_cast
theorem bin_rem_nat (h : b ≠ 0) : binOf .rem (.int k a) (.int k b) = some (.int k ((a % b : Nat) : Int)) := by
  rw [bin_rem _ _ _ (by exact_mod_cast h)]
  congr 2
theorem bin_quo_nat (h : b ≠ 0) (hs : k.wrap ((a / b : Nat) : Int) = ((a / b : Nat) : Int)) : binOf .quo (.int k a) (.int k b) = some (.int k ((a / b : Nat) : Int)) := by
  rw [bin_quo _ _ _ (by exact_mod_cast h), show (a : Int).tdiv (b : Int) = ((a / b : Nat) : Int) from rfl, hs]
end

/-- Bytes as cells. -/
def byteV (b : UInt8) : AV := .int .u8 b.toNat
def bytesV (l : List UInt8) : List AV := l.map byteV
theorem textGo_bytes : ∀ (l : List UInt8), textGo (bytesV l) = some l
  | [] => rfl
  | b :: l => by
    show (match textGo (bytesV l) with | some s => some (UInt8.ofNat (Int.toNat (b.toNat : Int)) :: s) | none => none) = _
    rw [textGo_bytes l]
    simp
theorem bytesV_flat (l : List UInt8) : (bytesV l).all AV.flat = true := by
  simp [bytesV, byteV, AV.flat]
@[simp] theorem bytesV_length (l : List UInt8) : (bytesV l).length = l.length := by simp [bytesV]
@[simp] theorem bytesV_append (l k : List UInt8) : bytesV (l ++ k) = bytesV l ++ bytesV k := by simp [bytesV]
theorem bytesV_drop (l : List UInt8) (n : Nat) : (bytesV l).drop n = bytesV (l.drop n) := by simp [bytesV, List.map_drop]
theorem bytesV_take (l : List UInt8) (n : Nat) : (bytesV l).take n = bytesV (l.take n) := by simp [bytesV, List.map_take]

/-- A slice of bytes. -/
abbrev Bs (A : St) (s : AV) (l : List UInt8) : Prop := Sl A 1 s (bytesV l)
abbrev OwnB (lo : Nat) (A : St) (s : AV) (l : List UInt8) : Prop := Own lo A 1 s (bytesV l)
theorem Bs.len {A : St} {s : AV} {l : List UInt8} (h : Bs A s l) : s.slen = l.length := by
  have := Sl.length h
  simp at this
  omega

/-- A cell of a slice. -/
theorem Sl.at {A : St} {sz : Nat} {s : AV} {cs : List AV} (h : Sl A sz s cs) {j : Nat} {k : IntKind} (hj : j < s.slen) :
    ∃ p, atSliceV sz s (.int k j) = some (.ptr (some p)) ∧ A.cells p sz = some ((cs.drop (j * sz)).take sz) := by
  cases h with
  | nil po cap q => simp [AV.slen] at hj
  | @mem f v o po len cap q _ hf hc hq =>
    simp only [AV.slen] at hj
    refine ⟨(f, v, o + j * sz), ?_, ?_⟩
    · unfold atSliceV
      dsimp only
      rw [show index? len (.int k (j : Int)) = some j by simp [index?, hj]]
      rfl
    · exact cells_sub hc (by rw [← Nat.succ_mul]; exact Nat.mul_le_mul_right _ hj)
theorem loadV_one {A : St} {p : Pl} {v : AV} (h : A.cells p 1 = some [v]) : loadV A 1 false (.ptr (some p)) = some v := by
  simp [loadV, h]
theorem Sl.at_one {A : St} {s : AV} {cs : List AV} (h : Sl A 1 s cs) {j : Nat} {v : AV} (hj : cs[j]? = some v) (k : IntKind) :
    ∃ p, atSliceV 1 s (.int k j) = some (.ptr (some p)) ∧ loadV A 1 false (.ptr (some p)) = some v := by
  have hlt := (List.getElem?_eq_some_iff.1 hj).1
  obtain ⟨p, h1, h2⟩ := h.at (k := k) (j := j) (by have := h.length; simp at this; omega)
  refine ⟨p, h1, loadV_one ?_⟩
  rw [h2]
  congr 1
  rw [Nat.mul_one]
  have := List.getElem?_eq_some_iff.1 hj
  rw [List.drop_eq_getElem_cons hlt]
  simp [this.2]
theorem Sl.lenV {A : St} {sz : Nat} {s : AV} {cs : List AV} (h : Sl A sz s cs) : AM.lenV s = some (.int .i64 s.slen) := by
  cases h <;> rfl
theorem Sl.lenV1 {A : St} {s : AV} {cs : List AV} (h : Sl A 1 s cs) : AM.lenV s = some (.int .i64 cs.length) := by
  rw [h.lenV, h.length, Nat.mul_one]
theorem Bs.lenV {A : St} {s : AV} {l : List UInt8} (h : Bs A s l) : AM.lenV s = some (.int .i64 l.length) := by
  rw [Sl.lenV1 h, bytesV_length]
theorem Bs.text {A : St} {s : AV} {l : List UInt8} (h : Bs A s l) : textV A s = some (.str l) := by
  have h : Sl A 1 s (bytesV l) := h
  generalize hl : bytesV l = cs at h
  cases h with
  | nil po cap q =>
    have : l = [] := by simpa [bytesV] using hl
    subst this
    rfl
  | mem hf hc hq =>
    subst hl
    rw [Nat.mul_one] at hc
    simp [textV, hc, textGo_bytes]
theorem Sl.okSrc {A : St} {sz : Nat} {s : AV} {cs : List AV} (h : Sl A sz s cs) : AM.okSrc false s = true := by
  cases h <;> rfl
theorem Sl.known {A : St} {sz : Nat} {s : AV} {cs : List AV} (h : Sl A sz s cs) : AM.known s = some s := by
  cases h <;> rfl
theorem Sl.allKnown {A : St} {sz : Nat} {s : AV} {cs : List AV} (h : Sl A sz s cs) (l : List AV) : AM.allKnown (s :: l) = AM.allKnown l := by
  cases h <;> rfl

theorem nil_test {A : St} {sz : Nat} {s : AV} {cs : List AV} (h : Sl A sz s cs) : ∃ b, eqV A .nilSlice false s (.slice none 0 0 0 0) = some (.bool b) ∧ (b = true → cs = []) := by
  cases h with
  | nil po cap q =>
    by_cases hq : q = 0
    · subst hq; exact ⟨true, rfl, fun _ => rfl⟩
    · exact ⟨false, by simp [eqV, eqOf, hq], fun h => by cases h⟩
  | mem hf hc hq => exact ⟨false, by simp [eqV, eqOf], fun h => by cases h⟩

theorem appendV_own {lo : Nat} {A : St} {sz bytes : Nat} {s x : AV} {cs ds : List AV} (hs : Own lo A sz s cs) (hx : Sl A sz x ds) (hlo : lo ≤ A.next) (hz : sz ≠ 0) (hfl : ds.all AV.flat = true)
    (hb : (s.slen + x.slen) * bytes ≤ 70368744177664) (hb' : s.slen + x.slen ≤ 70368744177664) :
    ∃ s' B, appendV A false sz bytes s x = some (s', B) ∧ s'.slen = s.slen + x.slen ∧ Own lo B sz s' (cs ++ ds) ∧ But A B s ∧ ∀ f, s'.into f = true → s.into f = true ∨ A.next ≤ f := by
  obtain ⟨s', B, h1, h2⟩ := own_append hs hx hlo hz hfl hb hb'
  exact ⟨s', B, by unfold appendV; rw [hx.okSrc]; exact h1, h2⟩

theorem Own.into {lo : Nat} {A : St} {sz : Nat} {s : AV} {cs : List AV} (h : Own lo A sz s cs) {f : Nat} (hf : s.into f = true) : lo ≤ f := by
  cases h with
  | nil po cap q => simp [AV.into] at hf
  | mem hlo _ _ _ _ _ _ _ => simp [AV.into] at hf; omega
theorem But.ext {A0 A B : St} {sz : Nat} {s : AV} {cs : List AV} (b : But A B s) (h : A0.Ext A) (o : Own A0.next A sz s cs) : A0.Ext B :=
  ⟨Nat.le_trans h.next b.next, fun f hf => by
    rw [b.get f (Nat.lt_of_lt_of_le hf h.next) (by
      cases hi : s.into f with
      | false => rfl
      | true => have := o.into hi; omega)]
    exact h.get f hf⟩
@[simp] theorem byteV_bot (b : UInt8) : (byteV b).isBot = false := rfl
@[simp] theorem byteV_cells (b : UInt8) : (byteV b).cells = [byteV b] := rfl
@[simp] theorem byteV_known (b : UInt8) : known (byteV b) = some (byteV b) := rfl
@[simp] theorem int_bot (k : IntKind) (n : Int) : (AV.int k n).isBot = false := rfl
@[simp] theorem int_cells (k : IntKind) (n : Int) : (AV.int k n).cells = [.int k n] := rfl
@[simp] theorem slice_bot (a : Option Pl) (po len cap q : Nat) : (AV.slice a po len cap q).isBot = false := rfl
@[simp] theorem slice_cells (a : Option Pl) (po len cap q : Nat) : (AV.slice a po len cap q).cells = [.slice a po len cap q] := rfl
theorem Sl.notBot {A : St} {sz : Nat} {s : AV} {cs : List AV} (h : Sl A sz s cs) : s.isBot = false := by cases h <;> rfl
theorem Sl.cells {A : St} {sz : Nat} {s : AV} {cs : List AV} (h : Sl A sz s cs) : s.cells = [s] := by cases h <;> rfl
theorem Sl.flat {A : St} {sz : Nat} {s : AV} {cs : List AV} (h : Sl A sz s cs) : s.flat = true := by cases h <;> rfl
theorem conv_u8 (k : IntKind) (n : Nat) : convV .u8 (.int k n) = some (byteV (UInt8.ofNat n)) := by
  rw [convV_int, wrap_u8_nat]
  unfold byteV
  simp
@[simp] theorem slen_slice (a : Option Pl) (po n c q : Nat) : (AV.slice a po n c q).slen = n := rfl
theorem own_built (A : St) {cs : List AV} {n : Nat} (h : cs.length = n) : Own A.next (A.make cs 1).2 1 (.slice (some (A.next, 0, 0)) 0 n n 0) cs := by
  have := own_make_exact A (cs := cs) (sz := 1) (n := n) (by omega) (Nat.le_refl _) (len := n) (Nat.le_refl _)
  rwa [List.take_of_length_le (by omega)] at this
end Go.AM
