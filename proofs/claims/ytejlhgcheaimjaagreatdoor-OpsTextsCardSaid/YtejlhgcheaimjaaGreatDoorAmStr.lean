/- The abstract machine: a text behind one's own bytes; a family as a slice. -/
import Derived.Test.YtejlhgcheaimjaaGreatDoorAmFam
namespace Go.AM
set_option linter.unusedVariables false
set_option linter.unusedSimpArgs false
theorem own_appendF {lo : Nat} {A : St} {sz bytes n : Nat} {s x : AV} {cs ds : List AV} (hs : Own lo A sz s cs) (hn : lenA x = some n) (hf : firstA A sz n x = some ds) (hlen : ds.length = n * sz) (hlo : lo ≤ A.next) (hz : sz ≠ 0) (hfl : ds.all AV.flat = true)
    (hb : (s.slen + n) * bytes ≤ 70368744177664) (hb' : s.slen + n ≤ 70368744177664) :
    ∃ s' B, appendOf A sz bytes s x = some (s', B) ∧ s'.slen = s.slen + n ∧ Own lo B sz s' (cs ++ ds) ∧ But A B s ∧ ∀ f, s'.into f = true → s.into f = true ∨ A.next ≤ f := by
  unfold appendOf
  rw [hn]
  dsimp only
  rw [hf]
  dsimp only
  rw [if_pos ⟨hfl, hlen, hz⟩]
  by_cases hn0 : n = 0
  · subst hn0
    have : ds = [] := by simpa using hlen
    subst this
    refine ⟨s, A, ?_, by simp, by simpa using hs, But.refl A s, fun f h => .inl h⟩
    cases hs with
    | nil po cap q => simp
    | @mem f v o po len cap q all vers nv y hlo' hf' hg hv h1 h2 h3 hq =>
      cases q with
      | zero =>
        have : len ≤ cap := by rcases hq with h | h; exact h.2.1; exact absurd rfl h.2
        simp [this]
      | succ q => simp
  · cases hs with
    | nil po cap q =>
      simp only [AV.slen, Nat.zero_add] at hb hb'
      refine ⟨.slice (some (A.next, 0, 0)) 0 n 0 sz, (A.make ds sz).2, ?_, by simp [AV.slen], by simpa using own_make A hlen hz hlo, But.of_ext (ext_make _ _ _) _, fun f h => .inr ?_⟩
      · simp only [ne_eq, not_true_eq_false, if_false, hn0]
        rw [if_pos ⟨hb, hb'⟩]
        rfl
      · simp [AV.into] at h; omega
    | @mem f v o po len cap q all vers nv y hlo' hf' hg hv h1 h2 h3 hq =>
      have hsl := (Own.mem (po := po) hlo' hf' hg hv h1 h2 h3 hq).sl
      simp only [AV.slen] at hb hb'
      cases q with
      | zero =>
        have hq' : len ≤ cap ∧ o + cap * sz ≤ y.hi := by rcases hq with h | h; exact h.2; exact absurd rfl h.2
        dsimp only
        by_cases hfit : len + n ≤ cap
        · have hfit' : o + (len + n) * sz ≤ y.hi := Nat.le_trans (Nat.add_le_add_left (Nat.mul_le_mul_right _ hfit) _) hq'.2
          obtain ⟨B, w1, w2, rfl⟩ := own_write (po := po) (cap := cap) (q := 0) hlo' hf' hg hv h1 h3 hlen hfl hfit' (.inl ⟨rfl, hfit, hq'.2⟩)
          refine ⟨.slice (some (f, v, o)) po (len + n) cap 0, _, ?_, by simp [AV.slen], w2, but_put _, fun g h => .inl (by simpa [AV.into] using h)⟩
          rw [if_pos hfit, if_neg hn0, w1]
        · have hcells : A.cells (f, v, o) (len * sz) = some ((all.drop o).take (len * sz)) := by
            cases hsl with
            | mem _ hc _ => exact hc
          have hcl := cells_length hcells
          refine ⟨.slice (some (A.next, 0, 0)) 0 (len + n) 0 sz, (A.make ((all.drop o).take (len * sz) ++ ds) sz).2, ?_, by simp [AV.slen], own_make A (by rw [List.length_append, hcl, hlen, Nat.add_mul]) hz hlo, But.of_ext (ext_make _ _ _) _, fun g h => .inr ?_⟩
          · rw [if_neg hfit, if_pos ⟨hb, hb'⟩, hcells]
            rfl
          · simp [AV.into] at h; omega
      | succ q =>
        have hq' : q + 1 = sz := by rcases hq with h | h; exact absurd h.1 (by omega); exact h.1
        dsimp only
        rw [if_neg hn0, if_pos ⟨hb, hb', hq'⟩, hg]
        dsimp only
        rw [hv]
        dsimp only
        rw [if_pos ⟨h1, h2, h3⟩]
        by_cases hfit : o + (len + n) * sz ≤ y.hi
        · obtain ⟨B, w1, w2, rfl⟩ := own_write (po := po) (cap := cap) (q := q + 1) hlo' hf' hg hv h1 h3 hlen hfl hfit (.inr ⟨hq', by omega⟩)
          refine ⟨.slice (some (f, v, o)) po (len + n) cap (q + 1), _, ?_, by simp [AV.slen], w2, but_put _, fun g h => .inl (by simpa [AV.into] using h)⟩
          rw [if_pos hfit, w1]
        · rw [if_neg hfit]
          refine ⟨_, _, rfl, by simp [AV.slen], ?_, but_put _, fun g h => .inl (by simpa [AV.into] using h)⟩
          have e := grown_cells (all := all) (ds := ds) (rest := []) (o := o) (a := len * sz) (b := n * sz) (by omega) hlen
          rw [List.append_nil] at e
          rw [← e, ← Nat.add_mul]
          exact .mem hlo' hf' (by rw [St.get_put, if_pos rfl]) (by simp [findVer]; rfl) (Nat.le_refl _) (Nat.le_refl _) (by simp [hlen, Nat.add_mul]; omega) (.inr ⟨hq', by omega⟩)

/-- A text is appended. -/
theorem appendV_str {lo : Nat} {A : St} {bytes : Nat} {s : AV} {cs : List AV} {l : List UInt8} (hs : Own lo A 1 s cs) (hlo : lo ≤ A.next) (hb : (s.slen + l.length) * bytes ≤ 70368744177664) (hb' : s.slen + l.length ≤ 70368744177664) :
    ∃ s' B, appendV A true 1 bytes s (.str l) = some (s', B) ∧ s'.slen = s.slen + l.length ∧ Own lo B 1 s' (cs ++ bytesV l) ∧ But A B s ∧ ∀ f, s'.into f = true → s.into f = true ∨ A.next ≤ f := by
  obtain ⟨s', B, h1, h2⟩ := own_appendF (bytes := bytes) (x := .str l) (n := l.length) (ds := bytesV l) hs rfl (by simp only [firstA, List.take_length]; rfl) (by simp) hlo (by decide) (bytesV_flat l) hb hb'
  exact ⟨s', B, by unfold appendV; exact h1, h2⟩
theorem Cl.sl {A : St} {f : Nat} {cs : List AV} (h : Cl A f cs) : Sl A 1 (.slice (some (f, 0, 0)) 0 cs.length cs.length 0) cs := by
  refine .mem h.lt ?_ (.inl ⟨rfl, Nat.le_refl _⟩)
  unfold St.cells
  rw [h.look]
  dsimp only
  rw [if_pos ⟨Nat.zero_le _, by omega, Nat.le_refl _⟩]
  simp
theorem set_zero {α : Type} {z v : α} {k : Nat} {l : List α} : (List.replicate (k + 1) z ++ l).set k v = List.replicate k z ++ (v :: l) := by
  rw [List.replicate_succ', List.append_assoc, List.set_append_right _ _ (by simp)]
  simp
end Go.AM
