/- Frames one behind the other, cut anywhere. -/
import Derived.Test.YtdgcflackljecaaCrcAll
namespace Go.Proofs.Ytdgcflackljecaa
open Go.AM
set_option maxRecDepth 100000

def fr : List (List UInt8) → List UInt8
  | [] => []
  | m :: ms => frame m ++ fr ms
theorem fr_append : ∀ (a b : List (List UInt8)), fr (a ++ b) = fr a ++ fr b
  | [], _ => rfl
  | m :: a, b => by simp only [List.cons_append, fr, fr_append a b, List.append_assoc]
theorem fr_length : ∀ (a : List (List UInt8)), (fr a).length = span a
  | [] => rfl
  | m :: a => by simp only [fr, span, List.length_append, frame_length, fr_length a]
/-- Where frames end that begin at a. -/
def endsFrom : Nat → List (List UInt8) → List Nat
  | _, [] => []
  | a, m :: ms => (a + (m.length + 7)) :: endsFrom (a + (m.length + 7)) ms
theorem endsFrom_append : ∀ (a : Nat) (xs : List (List UInt8)) (m : List UInt8), endsFrom a (xs ++ [m]) = endsFrom a xs ++ [a + span (xs ++ [m])]
  | a, [], m => by simp [endsFrom, span]
  | a, x :: xs, m => by
    simp only [List.cons_append, endsFrom, endsFrom_append, span]
    rw [show a + (x.length + 7) + span (xs ++ [m]) = a + (x.length + 7 + span (xs ++ [m])) by omega]
/-- The frames that are whole behind a cut. -/
def wh : Nat → List (List UInt8) → List (List UInt8)
  | _, [] => []
  | c, m :: ms => if m.length + 7 ≤ c then m :: wh (c - (m.length + 7)) ms else []
theorem wh_prefix : ∀ (c : Nat) (ms : List (List UInt8)), wh c ms = ms.take (wh c ms).length
  | _, [] => rfl
  | c, m :: ms => by
    unfold wh
    split
    · rw [List.length_cons, List.take_succ_cons, ← wh_prefix]
    · rfl
theorem peel_cut {m : List UInt8} (hm : m.length ≤ 16384) {c : Nat} (hc : c < m.length + 7) : peel ((frame m).take c) = none := by
  by_cases h7 : c < 7
  · exact peel_short (by rw [List.length_take]; omega)
  · have hl : ((frame m).take c).length = c := by rw [List.length_take, frame_length]; omega
    obtain ⟨d, rfl⟩ : ∃ d, c = d + 3 := ⟨c - 3, by omega⟩
    have e : (frame m).take (d + 3) = 167 :: UInt8.ofNat (m.length / 256) :: UInt8.ofNat (m.length % 256) :: (m ++ sumOf (crcSum (headOf m))).take d := rfl
    refine peel_bad e rfl fun h => ?_
    rw [lenOf_ofNat (by omega), hl] at h
    omega
theorem bodies_cut : ∀ {ms : List (List UInt8)} {c : Nat}, (∀ m ∈ ms, m.length ≤ 16384) → bodies ((fr ms).take c) = wh c ms
  | [], c, _ => by
    rw [show (fr []).take c = [] by cases c <;> rfl]
    rfl
  | m :: ms, c, h => by
    have hm := h m List.mem_cons_self
    unfold wh
    by_cases hc : m.length + 7 ≤ c
    · rw [if_pos hc]
      have e : (fr (m :: ms)).take c = frame m ++ (fr ms).take (c - (m.length + 7)) := by
        show (frame m ++ fr ms).take c = _
        rw [List.take_append, frame_length, List.take_of_length_le (by rw [frame_length]; exact hc)]
      rw [e, bodies_some (peel_app hm _)]
      rw [show (frame m ++ (fr ms).take (c - (m.length + 7))).drop (m.length + 7) = (fr ms).take (c - (m.length + 7)) by rw [← frame_length, List.drop_left]]
      rw [bodies_cut fun q hq => h q (List.mem_cons_of_mem _ hq)]
    · rw [if_neg hc]
      have e : (fr (m :: ms)).take c = (frame m).take c := by
        show (frame m ++ fr ms).take c = _
        rw [List.take_append_of_le_length (by rw [frame_length]; omega)]
      rw [e]
      exact bodies_none (peel_cut hm (by omega))
/-- What the law counts. -/
def stepE (c : Nat) (x : Nat × Nat) (e : Nat) : Nat × Nat := if e ≤ c then (x.1 + 1, e) else x
theorem fold_beyond {c : Nat} : ∀ {ms : List (List UInt8)} {a : Nat} {x : Nat × Nat}, c < a → (endsFrom a ms).foldl (stepE c) x = x
  | [], _, _, _ => rfl
  | m :: ms, a, x, h => by
    simp only [endsFrom, List.foldl_cons]
    rw [show stepE c x (a + (m.length + 7)) = x by unfold stepE; rw [if_neg (by omega)]]
    exact fold_beyond (by omega)
theorem fold_ends {c : Nat} : ∀ {ms : List (List UInt8)} {a w : Nat}, a ≤ c → (endsFrom a ms).foldl (stepE c) (w, a) = (w + (wh (c - a) ms).length, a + span (wh (c - a) ms))
  | [], _, _, _ => rfl
  | m :: ms, a, w, h => by
    simp only [endsFrom, List.foldl_cons]
    by_cases hc : a + (m.length + 7) ≤ c
    · rw [show stepE c (w, a) (a + (m.length + 7)) = (w + 1, a + (m.length + 7)) by unfold stepE; rw [if_pos hc]]
      rw [fold_ends hc]
      have e : wh (c - a) (m :: ms) = m :: wh (c - (a + (m.length + 7))) ms := by
        conv => lhs; unfold wh
        rw [if_pos (by omega), Nat.sub_sub]
      rw [e]
      simp only [List.length_cons, span]
      congr 1 <;> omega
    · rw [show stepE c (w, a) (a + (m.length + 7)) = (w, a) by unfold stepE; rw [if_neg hc]]
      rw [fold_beyond (by omega)]
      have e : wh (c - a) (m :: ms) = [] := by
        unfold wh
        rw [if_neg (by omega)]
      rw [e]
      rfl
end Go.Proofs.Ytdgcflackljecaa
