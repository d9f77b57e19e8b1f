/- The abstract machine: a new slice under another name; what lies besides is forgotten. -/
import Derived.Test.YteoioahkflcchaaGreatDoorAmAny
import Derived.Test.YteoioahkflcchaaGreatDoorAmOwn
namespace Go.AM
set_option linter.unusedVariables false
set_option linter.unusedSimpArgs false
section
variable {F : Fr} {m m' : Mu} {A B : St} {w w' : World}

/-- What is said of a block by a smaller map of places, of a later world. -/
theorem CellsR.back {f : Nat} {cs : List AV} {ro : Bool} {x : Ver} {l l0 : Loc} (hle : m.le m') (c0 : CellsR F m w f cs ro x l0) (c : CellsR F m' w' f cs ro x l) : l = l0 ∧ CellsR F m w' f cs ro x l0 := by
  have h := hle.loc _ _ _ c0.mu
  rw [c.mu] at h
  cases h
  refine ⟨rfl, c0.mu, c0.lo, c0.sz, c0.hi, fun i a h1 h2 h3 => ?_, c.rw⟩
  obtain ⟨y, hy, _⟩ := c0.cell i a h1 h2 h3
  obtain ⟨y', hy', hw⟩ := c.cell i a h1 h2 h3
  rw [cvo_mono hle _ _ hy] at hy'
  cases hy'
  exact ⟨y, hy, hw⟩
theorem MapR.back (hle : m.le m') : ∀ {es : List (AV × AV × Nat)} {l0 l : List MapEntry}, MapR m es l0 → MapR m' es l → MapR m es l
  | [], [], [], _, _ => trivial
  | (k, v, b) :: es, e0 :: l0, e :: l, ⟨⟨h1, h2, h3⟩, h4⟩, ⟨⟨g1, g2, g3⟩, g4⟩ => by
    rw [cvo_mono hle _ _ h1] at g1
    rw [cvo_mono hle _ _ h2] at g2
    have g1 := Option.some.inj g1
    have g2 := Option.some.inj g2
    exact ⟨⟨by rw [h1, g1], by rw [h2, g2], g3⟩, MapR.back hle h4 g4⟩
  | [], _ :: _, _, h, _ => h.elim
  | [], [], _ :: _, _, h => h.elim
  | _ :: _, [], _, h, _ => h.elim
  | _ :: _, _ :: _, [], _, h => h.elim

theorem blkR.back {f : Nat} {b : Blk} (hle : m.le m') (h0 : blkR F m w f b) (h : blkR F m' w' f b) : blkR F m w' f b := by
  cases b with
  | cells cs vers nv ro =>
    refine ⟨fun x hx => ?_, h0.2⟩
    obtain ⟨l0, c0⟩ := h0.1 x hx
    obtain ⟨l, c⟩ := h.1 x hx
    exact ⟨l0, (c0.back hle c).2⟩
  | map es cl =>
    obtain ⟨l0, es0, h1, h2, h3, h4⟩ := h0
    obtain ⟨l, es', g1, g2, g3, g4⟩ := h
    rw [hle.loc _ _ _ h1] at g1
    cases g1
    exact ⟨l0, es', h1, g2, g3, MapR.back hle h4 g4⟩
  | iter io =>
    obtain ⟨l0, ob0, ⟨h1, h1'⟩, h2, h3, h4⟩ := h0
    obtain ⟨l, ob, ⟨g1, g1'⟩, g2, g3, g4⟩ := h
    rw [hle.loc _ _ _ h1] at g1
    cases g1
    refine ⟨l0, ob, ⟨h1, h1'⟩, g2, g3, ?_⟩
    cases io with
    | str s pos => exact g4
    | map gg since seen last =>
      cases gg with
      | none => exact g4
      | some gg =>
        obtain ⟨lg, k1, _⟩ := h4
        obtain ⟨lg', k1', k2'⟩ := g4
        rw [hle.loc _ _ _ k1] at k1'
        cases k1'
        exact ⟨lg, k1, k2'⟩

/-- What lay before is as it was; the rest is forgotten. -/
theorem canon0 (R : Rel F m A w) (R' : Rel F m' B w') (hle : m.le m') (hx : ∀ f, f < A.next → B.get f = A.get f) : Rel F m A w' := by
  have hBrw : ∀ g, g < A.next → A.Rw g → B.Rw g := fun g hgl ⟨b, hb, hr⟩ => ⟨b, by rw [hx g hgl]; exact hb, hr⟩
  refine ⟨fun g u k h => ⟨(R.dom _ _ _ h).1, (R'.dom _ _ _ (hle.loc _ _ _ h)).2⟩, fun g b h => ?_, R'.keep, R'.rest, fun g u k g' u' k' h h' hne hr => R'.apart g u k g' u' k' (hle.loc _ _ _ h) (hle.loc _ _ _ h') hne (hBrw g (R.dom _ _ _ h).1 hr),
    fun g u k h hr => R'.unf g u k (hle.loc _ _ _ h) (hBrw g (R.dom _ _ _ h).1 hr), fun g u k u' k' h h' he => R'.same g u k u' k' (hle.loc _ _ _ h) (hle.loc _ _ _ h') he, fun g k h hr => R'.orig g k (hle.loc _ _ _ h) (hBrw g (R.dom _ _ _ h).1 hr)⟩
  by_cases hgl : g < A.next
  · exact blkR.back hle (R.got g b h) (R'.got g b (by rw [hx g hgl]; exact h))
  · have h0 := R.got g b h
    have hno : ∀ u k, m g u = some k → False := fun u k hk => hgl (R.dom _ _ _ hk).1
    cases b with
    | cells cs vers nv' ro =>
      refine ⟨fun x hx' => ?_, h0.2⟩
      obtain ⟨k, ck⟩ := h0.1 x hx'
      exact (hno _ _ ck.mu).elim
    | map es cl => obtain ⟨k, _, hk, _⟩ := h0; exact (hno _ _ hk).elim
    | iter io => obtain ⟨k, _, ⟨hk, _⟩, _⟩ := h0; exact (hno _ _ hk).elim

end
end Go.AM
