/- Whose letters are a key's. -/
import Derived.Test.YteoioahkflcchaaGreatDoorOpsSmall
import Derived.Test.YteoioahkflcchaaGreatDoorAmNum
namespace Go.Proofs.YteoioahkflcchaaGreatDoor
open Go.AM
set_option maxRecDepth 100000
set_option linter.unusedSimpArgs false
variable {D : Disp} {G0 : Env} {X : Calls'}

/-- What six comparisons tell of a byte. -/
structure Cls (n : Nat) (b1 b2 b3 b4 b5 b6 : Bool) : Prop where
  e1 : ((97 : Int) ≤ n) = (b1 = true)
  e2 : ((n : Int) ≤ 122) = (b2 = true)
  e3 : ((48 : Int) ≤ n) = (b3 = true)
  e4 : ((n : Int) ≤ 57) = (b4 = true)
  e5 : ((n : Int) = 46) = (b5 = true)
  e6 : ((n : Int) = 95) = (b6 = true)
  f1 : ((n : Int) < 97) = (b1 = false)
  f2 : ((122 : Int) < n) = (b2 = false)
  f3 : ((n : Int) < 48) = (b3 = false)
  f4 : ((57 : Int) < n) = (b4 = false)
  l : letN n = (b1 && b2 || (b3 && b4 || (b5 || b6)))
theorem cls (n : Nat) : ∃ b1 b2 b3 b4 b5 b6, Cls n b1 b2 b3 b4 b5 b6 := by
  refine ⟨decide (97 ≤ n), decide (n ≤ 122), decide (48 ≤ n), decide (n ≤ 57), decide (n = 46), decide (n = 95), ?_, ?_, ?_, ?_, ?_, ?_, ?_, ?_, ?_, ?_, rfl⟩ <;> rw [eq_iff_iff] <;> simp <;> omega

/-- The first i bytes are letters. -/
def PreL (s : List UInt8) (i : Nat) : Prop := (s.take i).all (fun c => letN c.toNat) = true
theorem preL_zero (s : List UInt8) : PreL s 0 := by simp [PreL]
theorem letters_step {s : List UInt8} {i : Nat} {c : UInt8} (hc : s[i]? = some c) (h : PreL s i) :
    (letN c.toNat = true → PreL s (i + 1)) ∧ (letN c.toNat = false → lettersL s = false) := by
  obtain ⟨hi, rfl⟩ := List.getElem?_eq_some_iff.1 hc
  refine ⟨fun hl => ?_, fun hl => ?_⟩
  · unfold PreL at *
    rw [List.take_succ_eq_append_getElem hi, List.all_append, h]
    simpa using hl
  · unfold lettersL
    rw [Bool.and_eq_false_iff]
    left
    rw [List.all_eq_false]
    exact ⟨s[i], List.getElem_mem hi, by simpa using hl⟩
theorem preL_end {s : List UInt8} (h : PreL s s.length) : lettersL s = !s.isEmpty := by
  unfold PreL at h
  rw [List.take_length] at h
  unfold lettersL
  rw [h]; rfl

theorem letters_spec {A : St} {s : List UInt8} (hs : s.length ≤ 1000000) : Ev D G0 fnsL X 38 [.str s] A fun r B => A.Ext B ∧ r = .bool (lettersL s) := by
  refine Ev.fnK (fn := a38) rfl ⟨by simp [a38], by decide⟩ ?_
  unfold a38
  have hs1 : s.length ≤ 140737488355328 := by omega
  simp [bytesOfV, hs1, Made.value]
  have hx := ext_makeV A (s.map fun b => AV.int .u8 b.toNat) 1 1
  have hb : Sl (A.makeV (s.map fun b => AV.int .u8 b.toNat) 1 1).2 1 (.slice (some (A.next, 1, 0)) 0 s.length 0 1) (s.map fun b => AV.int .u8 b.toNat) :=
    (own_text A (by simp) (Nat.le_refl _)).sl
  generalize (A.makeV (s.map fun b => AV.int .u8 b.toNat) 1 1).2 = A1 at *
  refine Wp.loopK (fun d E A' => A1 = A' ∧ Env.at E 0 = .str s ∧ Env.at E 6 = .slice (some (A.next, 1, 0)) 0 s.length 0 1 ∧ Env.at E 7 = .int .i64 s.length ∧ ∃ i : Nat, Env.at E 8 = .int .i64 i ∧ i + d = s.length ∧ PreL s i) s.length ?_ ?_
  · exact ⟨rfl, by simp, by simp, by simp, 0, by simp, by simp, preL_zero s⟩
  rintro d E _ ⟨rfl, e0, e6, e7, i, e8, hi, hall⟩
  simp [e7, e8]
  refine contC_of (fun hc => ?_) (fun hc => ?_)
  · simp at hc
    have hgc : s[i]? = some s[i] := List.getElem?_eq_getElem hc
    obtain ⟨p, g1, g2⟩ := hb.at_one (j := i) (v := .int .u8 s[i].toNat) (by simp [hc]) .i64
    obtain ⟨s1, s2⟩ := letters_step hgc hall
    have ea := add_one (i := i) (by omega)
    generalize s[i].toNat = n at *
    obtain ⟨b1, b2, b3, b4, b5, b6, C⟩ := cls n
    have hl := C.l
    cases b1 <;> cases b2 <;> cases b3 <;> cases b4 <;> cases b5 <;> cases b6 <;> simp [e0, e6, e7, e8, g1, g2, C.e1, C.e2, C.e3, C.e4, C.e5, C.e6, ea, -bin_add] <;> simp at hl <;> first | (exact ⟨hx, (s2 hl).symm⟩) | (exact ⟨hx, s2 hl⟩) | (exact ⟨d - 1, by omega, i + 1, by omega, by omega, s1 hl⟩)
  · simp at hc
    have hid : i = s.length := by omega
    subst hid
    rw [preL_end hall]
    simp [e0]
    refine ⟨hx, ?_⟩
    cases s <;> simp
end Go.Proofs.YteoioahkflcchaaGreatDoor
