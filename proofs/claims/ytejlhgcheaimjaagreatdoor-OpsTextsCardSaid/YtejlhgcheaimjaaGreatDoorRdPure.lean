/- Numbers and texts as bytes, and read again: in plain Lean. -/
import Derived.Test.YtejlhgcheaimjaaGreatDoorAmArgB
namespace Go.AM
set_option linter.unusedSimpArgs false
set_option linter.unusedVariables false

theorem snocInd {α : Type} {P : List α → Prop} (h0 : P []) (h1 : ∀ l a, P l → P (l ++ [a])) (l : List α) : P l := by
  have h : ∀ l : List α, P l.reverse := fun l => by
    induction l with
    | nil => exact h0
    | cons a l ih => rw [List.reverse_cons]; exact h1 _ _ ih
  have := h l.reverse
  rwa [List.reverse_reverse] at this
/-- The number of bytes, the greatest first. -/
def beV (l : List UInt8) : Nat := l.foldl (fun n c => n * 256 + c.toNat) 0
/-- The bytes of a number, the greatest first. -/
def beF : Nat → Nat → List UInt8
  | 0, _ => []
  | f + 1, n => if n = 0 then [] else beF f (n / 256) ++ [UInt8.ofNat (n % 256)]
def beB (n : Nat) : List UInt8 := beF n n
theorem beF_more : ∀ {f g n : Nat}, n ≤ f → n ≤ g → beF f n = beF g n
  | 0, 0, n, _, _ => rfl
  | 0, g + 1, n, h, _ => by obtain rfl : n = 0 := by omega
                            simp [beF]
  | f + 1, 0, n, _, h => by obtain rfl : n = 0 := by omega
                            simp [beF]
  | f + 1, g + 1, n, h1, h2 => by
    simp only [beF]
    by_cases h : n = 0
    · rw [if_pos h, if_pos h]
    · rw [if_neg h, if_neg h, beF_more (f := f) (g := g) (by omega) (by omega)]
theorem beB_zero : beB 0 = [] := rfl
theorem beB_pos {n : Nat} (h : n ≠ 0) : beB n = beB (n / 256) ++ [UInt8.ofNat (n % 256)] := by
  unfold beB
  cases n with
  | zero => exact absurd rfl h
  | succ n =>
    conv => lhs; rw [beF, if_neg h]
    rw [beF_more (f := n) (g := (n + 1) / 256) (by omega) (Nat.le_refl _)]
theorem beV_append (l : List UInt8) (c : UInt8) : beV (l ++ [c]) = beV l * 256 + c.toNat := by simp [beV]
theorem beV_beB (n : Nat) : beV (beB n) = n := by
  induction n using Nat.strongRecOn with
  | ind n ih =>
    by_cases h : n = 0
    · subst h; rfl
    · rw [beB_pos h, beV_append, ih (n / 256) (by omega)]
      simp
      omega
theorem beB_length (n k : Nat) (h : n < 256 ^ k) : (beB n).length ≤ k := by
  induction k generalizing n with
  | zero => obtain rfl : n = 0 := by simpa using h
            simp [beB_zero]
  | succ k ih =>
    by_cases h0 : n = 0
    · subst h0; simp [beB_zero]
    · rw [beB_pos h0]
      have : n / 256 < 256 ^ k := Nat.div_lt_of_lt_mul (by rw [Nat.pow_succ] at h; omega)
      have := ih _ this
      simp
      omega
theorem beB_head (n : Nat) : ∀ c, (beB n).head? = some c → c ≠ 0 := by
  induction n using Nat.strongRecOn with
  | ind n ih =>
    intro c hc
    by_cases h : n = 0
    · subst h; cases hc
    · rw [beB_pos h] at hc
      by_cases h2 : n / 256 = 0
      · rw [h2, beB_zero] at hc
        simp at hc
        subst hc
        intro h3
        have h4 := congrArg UInt8.toNat h3
        simp at h4
        omega
      · have hne : beB (n / 256) ≠ [] := by rw [beB_pos h2]; simp
        refine ih (n / 256) (by omega) c ?_
        cases hb : beB (n / 256) with
        | nil => exact absurd hb hne
        | cons y ys => rw [hb] at hc; simpa using hc
theorem beV_pos {l : List UInt8} : (∀ c, l.head? = some c → c ≠ 0) → l ≠ [] → beV l ≠ 0 := by
  refine snocInd (P := fun l => (∀ c, l.head? = some c → c ≠ 0) → l ≠ [] → beV l ≠ 0) ?_ (fun l c ih => ?_) l
  · intro _ h; exact absurd rfl h
  · intro h _
    rw [beV_append]
    cases l with
    | nil =>
      have := h c rfl
      intro h0
      apply this
      have : c.toNat = 0 := by omega
      exact UInt8.toNat_inj.1 this
    | cons x l =>
      have := ih (fun d hd => h d (by simpa using hd)) (by simp)
      omega
theorem beB_beV {l : List UInt8} : (∀ c, l.head? = some c → c ≠ 0) → beB (beV l) = l := by
  refine snocInd (P := fun l => (∀ c, l.head? = some c → c ≠ 0) → beB (beV l) = l) ?_ (fun l c ih => ?_) l
  · intro _; rfl
  · intro h
    have hp := beV_pos h (by simp)
    rw [beB_pos hp, beV_append]
    have hc : c.toNat < 256 := c.toNat_lt
    have e1 : (beV l * 256 + c.toNat) / 256 = beV l := by omega
    have e2 : (beV l * 256 + c.toNat) % 256 = c.toNat := by omega
    rw [e1, e2]
    have e3 : UInt8.ofNat c.toNat = c := by simp
    rw [e3]
    congr 1
    cases l with
    | nil => rfl
    | cons x l => exact ih (fun d hd => h d (by simpa using hd))
theorem beV_lt (l : List UInt8) : beV l < 256 ^ l.length := by
  refine snocInd (P := fun l => beV l < 256 ^ l.length) ?_ (fun l c ih => ?_) l
  · simp [beV]
  · rw [beV_append]
    have hc : c.toNat < 256 := c.toNat_lt
    simp only [List.length_append, List.length_cons, List.length_nil, Nat.pow_succ, Nat.zero_add]
    omega

/-! ### A number -/
def natB (n : Nat) : List UInt8 := UInt8.ofNat (beB n).length :: beB n
/-- The number at the start of bytes, and what is behind it. -/
def natP : List UInt8 → Option (Nat × List UInt8)
  | [] => none
  | k :: l => if 8 < k.toNat ∨ l.length < k.toNat ∨ (l.take k.toNat).head? = some 0 then none else some (beV (l.take k.toNat), l.drop k.toNat)
theorem natP_some {b r : List UInt8} {n : Nat} (h : natP b = some (n, r)) : b = natB n ++ r ∧ n < 18446744073709551616 := by
  cases b with
  | nil => cases h
  | cons k l =>
    simp only [natP] at h
    split at h
    · cases h
    · rename_i hn
      simp only [not_or] at hn
      simp only [Option.some.injEq, Prod.mk.injEq] at h
      obtain ⟨rfl, rfl⟩ := h
      have hh : ∀ c, (l.take k.toNat).head? = some c → c ≠ 0 := fun c hc h0 => hn.2.2 (by rw [hc, h0])
      have hlen : (l.take k.toNat).length = k.toNat := by rw [List.length_take]; omega
      refine ⟨?_, ?_⟩
      · unfold natB
        rw [beB_beV hh, hlen]
        simp
      · have := beV_lt (l.take k.toNat)
        rw [hlen] at this
        exact Nat.lt_of_lt_of_le this (Nat.le_trans (Nat.pow_le_pow_right (by decide) (show k.toNat ≤ 8 by omega)) (by decide))
theorem natP_natB {n : Nat} (h : n < 18446744073709551616) (r : List UInt8) : natP (natB n ++ r) = some (n, r) := by
  have hl := beB_length n 8 (by exact h)
  have hk : (UInt8.ofNat (beB n).length).toNat = (beB n).length := by simp; omega
  unfold natB
  simp only [List.cons_append, natP, hk]
  rw [List.take_left, List.drop_left, if_neg, beV_beB]
  simp only [not_or, List.length_append]
  exact ⟨by omega, by omega, fun h0 => beB_head n _ h0 rfl⟩
theorem natB_length {n : Nat} (h : n < 18446744073709551616) : (natB n).length ≤ 9 := by
  have := beB_length n 8 (by exact h)
  unfold natB
  simp
  omega

/-! ### A number with a sign -/
def zag (u : Nat) : Int := if u % 2 = 1 then -1 - (u / 2 : Nat) else (u / 2 : Nat)
def zig (n : Int) : Nat := if n < 0 then (2 * (-1 - n) + 1).toNat else (2 * n).toNat
theorem zig_zag (u : Nat) : zig (zag u) = u := by
  unfold zig zag
  split <;> split <;> omega
theorem zag_zig (n : Int) : zag (zig n) = n := by
  unfold zig zag
  split <;> split <;> omega
theorem zag_ok {u : Nat} (h : u < 18446744073709551616) : i64ok (zag u) := by
  unfold zag i64ok
  split <;> omega
theorem zig_lt {n : Int} (h : i64ok n) : zig n < 18446744073709551616 := by
  unfold zig
  unfold i64ok at h
  split <;> omega
def numB (n : Int) : List UInt8 := natB (zig n)
def strB (s : List UInt8) : List UInt8 := natB s.length ++ s

/-! ### A reader: what is left; or nothing: something was wrong -/
abbrev RdS := Option (List UInt8)
def natS : RdS → Nat × RdS
  | none => (0, none)
  | some l => match natP l with
    | some (n, r) => (n, some r)
    | none => (0, none)
def numS (s : RdS) : Int × RdS := (zag (natS s).1, (natS s).2)
def strS (most : Nat) : RdS → List UInt8 × RdS
  | none => ([], none)
  | some l => match natP l with
    | some (n, r) => if most < n ∨ r.length < n then ([], none) else (r.take n, some (r.drop n))
    | none => ([], none)
theorem natS_some {s : RdS} {l : List UInt8} (h : (natS s).2 = some l) : ∃ b, s = some b ∧ b = natB (natS s).1 ++ l ∧ (natS s).1 < 18446744073709551616 := by
  cases s with
  | none => cases h
  | some b =>
    refine ⟨b, rfl, ?_⟩
    simp only [natS] at h ⊢
    cases hp : natP b with
    | none => rw [hp] at h; cases h
    | some x =>
      obtain ⟨n, r⟩ := x
      rw [hp] at h
      cases h
      exact natP_some hp
theorem natS_lt (s : RdS) : (natS s).1 < 18446744073709551616 := by
  cases s with
  | none => exact Nat.zero_lt_succ _
  | some b =>
    simp only [natS]
    cases hp : natP b with
    | none => exact Nat.zero_lt_succ _
    | some x => obtain ⟨n, r⟩ := x; exact (natP_some hp).2
theorem numS_some {s : RdS} {l : List UInt8} (h : (numS s).2 = some l) : ∃ b, s = some b ∧ b = numB (numS s).1 ++ l := by
  obtain ⟨b, h1, h2, _⟩ := natS_some h
  refine ⟨b, h1, ?_⟩
  unfold numB numS
  simp only [zig_zag]
  exact h2
theorem strS_some {most : Nat} {s : RdS} {l : List UInt8} (h : (strS most s).2 = some l) : ∃ b, s = some b ∧ b = strB (strS most s).1 ++ l ∧ (strS most s).1.length ≤ most := by
  cases s with
  | none => cases h
  | some b =>
    refine ⟨b, rfl, ?_⟩
    simp only [strS] at h ⊢
    cases hp : natP b with
    | none => rw [hp] at h; cases h
    | some x =>
      obtain ⟨n, r⟩ := x
      rw [hp] at h
      simp only at h ⊢
      split at h
      · cases h
      · rename_i hn
        cases h
        have hl : (r.take n).length = n := by rw [List.length_take]; omega
        rw [if_neg hn]
        refine ⟨?_, by simp only; omega⟩
        unfold strB
        simp only [hl]
        rw [List.append_assoc, List.take_append_drop]
        exact (natP_some hp).1
theorem natS_natB {n : Nat} (h : n < 18446744073709551616) (r : List UInt8) : natS (some (natB n ++ r)) = (n, some r) := by simp only [natS, natP_natB h]
theorem numS_numB {n : Int} (h : i64ok n) (r : List UInt8) : numS (some (numB n ++ r)) = (n, some r) := by
  unfold numS numB
  rw [natS_natB (zig_lt h)]
  simp only [zag_zig]
theorem strS_strB {s : List UInt8} {most : Nat} (h : s.length ≤ most) (h' : s.length < 18446744073709551616) (r : List UInt8) : strS most (some (strB s ++ r)) = (s, some r) := by
  unfold strB
  simp only [strS, List.append_assoc, natP_natB h']
  rw [if_neg (by simp only [List.length_append]; omega), List.take_left, List.drop_left]
end Go.AM
