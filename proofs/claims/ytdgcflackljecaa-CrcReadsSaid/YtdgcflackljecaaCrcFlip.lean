/- A frame of which one byte was changed is no frame. -/
import Derived.Test.YtdgcflackljecaaCrcAll
namespace Go.Proofs.Ytdgcflackljecaa
open Go.AM
set_option maxRecDepth 100000

theorem one_frame {m : List UInt8} (h : m.length ≤ 16384) : one (frame m) = some m := by
  unfold one
  rw [peel_frame_self h]
  dsimp only
  rw [if_pos (frame_length m).symm]
theorem one_eq {l m : List UInt8} (h : one l = some m) : l = frame m ∧ m.length ≤ 16384 := by
  unfold one at h
  split at h
  · rename_i m' hp
    split at h
    · rename_i hl
      cases h
      have h7 := peel_len hp
      obtain ⟨c0, c1, c2, t, rfl⟩ := three_of (l := l) (by omega)
      rw [peel_cons] at hp
      split at hp
      · rename_i hh
        cases hp
        obtain ⟨g1, g2, g3, g4⟩ := hh
        have hfr := (frame_take (c0 := c0) (c1 := c1) (c2 := c2) (t := t) g2).2 ⟨g3, g4⟩
        rw [List.length_take, Nat.min_eq_left (by omega)] at hl
        refine ⟨?_, by omega⟩
        rw [hfr, hl, List.take_length]
      · cases hp
    · cases h
  · cases h

theorem xor_right {a b c : Nat} (h : a ^^^ c = b ^^^ c) : a = b := by
  have := congrArg (· ^^^ c) h
  simpa [Nat.xor_assoc] using this
theorem xor_left {a b c : Nat} (h : c ^^^ a = c ^^^ b) : a = b := by
  rw [Nat.xor_comm c a, Nat.xor_comm c b] at h
  exact xor_right h
theorem crcBit_inj {s t : Nat} (hs : s < 2 ^ 32) (ht : t < 2 ^ 32) (h : crcBit s = crcBit t) : s = t := by
  have hp : poly.testBit 31 = true := by decide
  have hh : ∀ x, x < 2 ^ 32 → (x / 2).testBit 31 = false := fun x hx => Nat.testBit_lt_two_pow (by omega)
  have top : ∀ x, x < 2 ^ 32 → (crcBit x).testBit 31 = decide (x % 2 = 1) := fun x hx => by
    unfold crcBit
    split
    · rename_i h1
      rw [Nat.testBit_xor, hh x hx, hp, decide_eq_true h1]
      rfl
    · rename_i h1
      rw [hh x hx, decide_eq_false h1]
  have h1 := top s hs
  have h2 := top t ht
  rw [h, h2] at h1
  have hpar : s % 2 = t % 2 := by
    have := decide_eq_decide.1 h1
    omega
  have hdiv : s / 2 = t / 2 := by
    unfold crcBit at h
    by_cases hs1 : s % 2 = 1
    · rw [if_pos hs1, if_pos (by omega)] at h
      exact xor_right h
    · rwa [if_neg hs1, if_neg (by omega)] at h
  omega
theorem crcIt_inj : ∀ (n : Nat) {s t : Nat}, s < 2 ^ 32 → t < 2 ^ 32 → crcIt n s = crcIt n t → s = t
  | 0, _, _, _, _, h => h
  | n + 1, _, _, hs, ht, h => crcBit_inj hs ht (crcIt_inj n (crcBit_lt hs) (crcBit_lt ht) h)
theorem crcByte_inj {s t : Nat} (hs : s < 2 ^ 32) (ht : t < 2 ^ 32) {c d : UInt8} (h : crcByte s c = crcByte t d) : s ^^^ c.toNat = t ^^^ d.toNat :=
  crcIt_inj 8 (xor_byte_lt hs c) (xor_byte_lt ht d) h
theorem crcAll_inj : ∀ (l : List UInt8) {s t : Nat}, s < 2 ^ 32 → t < 2 ^ 32 → crcAll s l = crcAll t l → s = t
  | [], _, _, _, _, h => h
  | c :: l, _, _, hs, ht, h => xor_right (crcByte_inj hs ht (crcAll_inj l (crcByte_lt hs c) (crcByte_lt ht c) h))
/-- One byte changed changes the sum. -/
theorem crcAll_set : ∀ {l : List UInt8} {s i : Nat} {c d : UInt8}, s < 2 ^ 32 → l[i]? = some c → crcAll s (l.set i d) = crcAll s l → d = c
  | [], _, _, _, _, _, h, _ => by simp at h
  | b :: l, s, 0, c, d, hs, h, e => by
    cases h
    have := crcByte_inj hs hs (crcAll_inj l (crcByte_lt hs d) (crcByte_lt hs b) e)
    exact UInt8.toNat_inj.1 (xor_left this)
  | b :: l, s, i + 1, c, d, hs, h, e => crcAll_set (l := l) (s := crcByte s b) (i := i) (crcByte_lt hs b) h e
theorem sumOf_inj {a b : Nat} (ha : a < 2 ^ 32) (hb : b < 2 ^ 32) (h : sumOf a = sumOf b) : a = b := by
  unfold sumOf at h
  injection h with h1 h
  injection h with h2 h
  injection h with h3 h
  injection h with h4 h
  have e : ∀ {x y : Nat}, UInt8.ofNat x = UInt8.ofNat y → x % 256 = y % 256 := fun h => by
    have := congrArg UInt8.toNat h
    rwa [UInt8.toNat_ofNat', UInt8.toNat_ofNat'] at this
  have h1 := e h1
  have h2 := e h2
  have h3 := e h3
  have h4 := e h4
  omega
theorem set_back {l : List UInt8} {i : Nat} {c d : UInt8} (h : l[i]? = some c) (e : l.set i d = l) : d = c := by
  have hi := (List.getElem?_eq_some_iff.1 h).1
  rw [← e, List.getElem?_set_self hi] at h
  cases h
  rfl
theorem one_flip {m : List UInt8} {i : Nat} {c d : UInt8} (hi : (frame m)[i]? = some c) (hne : d ≠ c) : one ((frame m).set i d) = none := by
  cases ho : one ((frame m).set i d) with
  | none => rfl
  | some m' =>
    exfalso
    have he := (one_eq ho).1
    have hl : m.length = m'.length := by
      have := congrArg List.length he
      rw [List.length_set, frame_length, frame_length] at this
      omega
    have hh : (headOf m).length = (headOf m').length := by simp [headOf, hl]
    unfold frame at he hi
    by_cases hlt : i < (headOf m).length
    · rw [List.set_append_left _ _ hlt] at he
      rw [List.getElem?_append_left hlt] at hi
      obtain ⟨h1, h2⟩ := List.append_inj he (by rw [List.length_set]; exact hh)
      have h3 := sumOf_inj (crcSum_lt _) (crcSum_lt _) h2
      rw [← h1] at h3
      unfold crcSum at h3
      exact hne (crcAll_set (by decide) hi (xor_left h3).symm)
    · rw [List.set_append_right _ _ (by omega)] at he
      rw [List.getElem?_append_right (by omega)] at hi
      obtain ⟨h1, h2⟩ := List.append_inj he hh
      rw [← h1] at h2
      exact hne (set_back hi h2)
end Go.Proofs.Ytdgcflackljecaa
