/- The abstract machine: calls that only read a chain of errors, run once from a small start. -/
import Derived.Test.YtejlhgcheaimjaaGreatDoorAmLaid
import Derived.Test.YtejlhgcheaimjaaGreatDoorAmRefl
namespace Go.AM
set_option linter.unusedVariables false
set_option linter.unusedSimpArgs false

/-- The pointer types of errors that wrap another, which is their first cell, and how many cells they have; the pointer type of a plain one. -/
structure ErrT where
  wraps : List (TypeId × Nat)
  num : TypeId
/-- A chain of errors, laid behind a small start. -/
def errS (T : ErrT) (A : St) : Nat → AV → St → Option (AV × St)
  | 0, _, _ => none
  | k + 1, v, S => match v with
    | .nilIface => some (.nilIface, S)
    | .iface t (.ptr (some p)) =>
      bif Nat.beq t T.num then (match A.cells p 1 with
        | some cs => bif noPlaces cs then some (.iface t (.ptr (some (S.next, 0, 0))), S.push (.cells cs [⟨0, 0, cs.length, 1⟩] 1 true)) else none
        | none => none)
      else match elemP t T.wraps with
        | some n => (match A.cells p n with
          | some (e :: cs) => bif noPlaces cs then (match errS T A k e S with
            | some (e', S') => some (.iface t (.ptr (some (S'.next, 0, 0))), S'.push (.cells (e' :: cs) [⟨0, 0, (e' :: cs).length, 1⟩] 1 true))
            | none => none) else none
          | _ => none)
        | none => none
    | _ => none
section
variable {P : Program} {F : Fr} {mA m : Mu} {A S : St} {w : World}
theorem block_lt {b o : Nat} {y : Value} (h : w.cell? ⟨b, o, none⟩ = some y) : b < w.heap.size := by
  simp only [World.cell?] at h
  split at h
  · rename_i hh; exact (Array.getElem?_eq_some_iff.1 hh).1
  · cases h
theorem lay_one (R : Rel F mA A w) (I : Inp w m S) {p : Pl} {ad : Addr} (hp : plc mA p = some ad) {n : Nat} {cs l : List AV} {zs : List Value} (hc : A.cells p n = some cs) (hz : cvos mA cs = some zs) (hl : cvos m l = some zs) (hne : zs ≠ []) :
    ∃ m', m.le m' ∧ Inp w m' (S.push (.cells l [⟨0, 0, l.length, 1⟩] 1 true)) ∧ plc m' (S.next, 0, 0) = some ad := by
  obtain ⟨b, o, ys, g1, g2, g3, g4⟩ := R.cells hc
  rw [g2] at hz
  cases hz
  rw [g1] at hp
  cases hp
  have hlt : b < w.heap.size := by
    cases zs with
    | nil => exact absurd rfl hne
    | cons y zs => exact block_lt (g4 0 y rfl)
  obtain ⟨h1, h2⟩ := I.push (sz := 1) (cap := l.length) hl hlt (co := o) g4
  exact ⟨_, h1, h2, by simp [plc, Mu.add]⟩
theorem errS_sound (R : Rel F mA A w) {T : ErrT} : ∀ {k : Nat} {v v' : AV} {S S' : St} {m : Mu} {y : Value}, Inp w m S → errS T A k v S = some (v', S') → cvo mA v = some y → ∃ m', m.le m' ∧ Inp w m' S' ∧ cvo m' v' = some y
  | 0, _, _, _, _, _, _, _, h, _ => by cases h
  | k + 1, v, v', S, S', m, y, I, h, hy => by
    simp only [errS] at h
    split at h
    · cases h; exact ⟨m, Mu.le_refl m, I, hy⟩
    · rename_i t p
      simp only [cvo, Option.map_eq_some_iff] at hy
      obtain ⟨z, ⟨ad, hp, rfl⟩, rfl⟩ := hy
      cases hb : Nat.beq t T.num with
      | true =>
        rw [hb] at h
        simp only [cond_true] at h
        split at h
        rotate_left
        · cases h
        rename_i cs hcs
        cases hn : noPlaces cs with
        | false => rw [hn] at h; cases h
        | true =>
        rw [hn] at h
        cases h
        obtain ⟨b, o, ys, g1, g2, g3, g4⟩ := R.cells hcs
        obtain ⟨m', q1, q2, q3⟩ := lay_one R I hp hcs g2 (l := cs) (by rw [noPlaces_spec mA m cs hn]; exact g2) (by intro e; rw [e] at g3; cases g3)
        exact ⟨m', q1, q2, by simp [cvo, q3]⟩
      | false =>
        rw [hb] at h
        simp only [cond_false] at h
        split at h
        rotate_left
        · cases h
        rename_i n hn
        split at h
        rotate_left
        · cases h
        rename_i e cs hcs
        cases hnp : noPlaces cs with
        | false => rw [hnp] at h; cases h
        | true =>
        rw [hnp] at h
        simp only [cond_true] at h
        split at h
        rotate_left
        · cases h
        rename_i e' S1 hS1
        cases h
        obtain ⟨b, o, ys, g1, g2, g3, g4⟩ := R.cells hcs
        have g2' := g2
        simp only [cvos] at g2'
        split at g2'
        rotate_left
        · cases g2'
        rename_i ye yr hye hyr
        cases g2'
        obtain ⟨m1, q1, q2, q3⟩ := errS_sound R I hS1 hye
        have hl : cvos m1 (e' :: cs) = some (ye :: yr) := by
          simp only [cvos, q3]
          rw [noPlaces_spec mA m1 cs hnp, hyr]
        obtain ⟨m', k1, k2, k3⟩ := lay_one R q2 hp hcs g2 hl (by simp)
        exact ⟨m', Mu.le_trans q1 k1, k2, by simp [cvo, k3]⟩
    · cases h

/-- What lies at the start is an input still. -/
def GlobInp (M0 : Mu) (A0 : St) : Prop := ∀ F m A w, M0.le m → Rel F m A w → (∀ f, f < A0.next → A.get f = A0.get f) → Inp w M0 A0
theorem st1_far {cs : List AV} (f : Nat) (hf : (st1 cs).next ≤ f) : (st1 cs).get f = none := by
  cases h : (st1 cs).get f with
  | none => rfl
  | some b =>
    obtain ⟨rfl, _⟩ := st1_inv h
    exact absurd hf (by show ¬ 1 ≤ 0; omega)
theorem st1_still {cs : List AV} (f : Nat) : ¬ (st1 cs).Rw f := fun ⟨b, hb, hr⟩ => by
  obtain ⟨rfl, rfl⟩ := st1_inv hb
  cases hr
theorem st2_far {cs ds : List AV} (f : Nat) (hf : (st2 cs ds).next ≤ f) : (st2 cs ds).get f = none := by
  cases h : (st2 cs ds).get f with
  | none => rfl
  | some b =>
    rcases st2_inv h with ⟨rfl, _⟩ | ⟨rfl, _⟩
    · exact absurd hf (by show ¬ 2 ≤ 0; omega)
    · exact absurd hf (by show ¬ 2 ≤ 1; omega)
theorem st2_still {cs ds : List AV} (f : Nat) : ¬ (st2 cs ds).Rw f := fun ⟨b, hb, hr⟩ => by
  rcases st2_inv hb with ⟨rfl, rfl⟩ | ⟨rfl, rfl⟩ <;> cases hr
theorem globInp_one {P : Program} {t : List (Nat × (Array Value → Prop))} {g : Nat} {cs : List AV} (hcs : noPlaces cs = true) : GlobInp (mu1 P g cs.length t) (st1 cs) := fun F m A w hm R hs =>
  ⟨globOk_one hcs F m A w hm R hs, st1_still, st1_far, fun k _ => rfl⟩
theorem globInp_two {P : Program} {t : List (Nat × (Array Value → Prop))} {g h : Nat} {cs ds : List AV} (hgh : g ≠ h) (hcs : noPlaces cs = true) (hds : noPlaces ds = true) : GlobInp (mu2 P g cs.length h ds.length t) (st2 cs ds) := fun F m A w hm R hs =>
  ⟨globOk_two hgh hcs hds F m A w hm R hs, st2_still, st2_far, fun k _ => rfl⟩

/-- Calls of functions that look at a chain of errors, and at what tells of no place. -/
def errX (T : ErrT) (A0 : St) (G : Calls') (fs : Nat → Bool) : Calls' := fun f args A => bif fs f then (match args with
  | v :: rest => bif noPlaces rest && sameTo A0 A A0.next then (match errS T A 10 v A0 with
    | some (v', S) => (match G f (v' :: rest) S with | some (r, _) => bif noPlace r then some (r, A) else none | none => none)
    | none => none) else none
  | [] => none) else none
theorem errX_of {T : ErrT} {A0 A S B : St} {G : Calls'} {fs : Nat → Bool} {f : FuncId} {v v' r : AV} {rest : List AV} (hf : fs f = true) (hr : noPlaces rest = true) (hs : ∀ f, f < A0.next → A.get f = A0.get f) (h0 : sameTo A0 A0 A0.next = true) (he : errS T A 10 v A0 = some (v', S)) (hg : G f (v' :: rest) S = some (r, B)) (hp : noPlace r = true) : errX T A0 G fs f (v :: rest) A = some (r, A) := by
  unfold errX
  simp only [hf, cond_true, hr, sameTo_congr (B := A0) hs, h0, Bool.and_self, he, hg, hp]
theorem errX_sound {M0 : Mu} {A0 : St} {T : ErrT} {G : Calls'} (hG : CSound P M0 G) (hA : GlobInp M0 A0) (fs : Nat → Bool) (hy : fs yieldId = false) : GSound P M0 (errX T A0 G fs) := fun f args A r B h => by
  unfold errX at h
  cases hf : fs f with
  | false => rw [hf] at h; cases h
  | true =>
  rw [hf] at h
  have hfy : f ≠ yieldId := fun e => by rw [e, hy] at hf; cases hf
  simp only [cond_true] at h
  split at h
  rotate_left
  · cases h
  rename_i v rest
  cases hb : noPlaces rest && sameTo A0 A A0.next with
  | false => rw [hb] at h; cases h
  | true =>
  rw [hb] at h
  simp only [Bool.and_eq_true] at hb
  obtain ⟨hb, hs⟩ := hb
  have hs := sameTo_spec hs
  simp only [cond_true] at h
  split at h
  rotate_left
  · cases h
  rename_i v' S hS
  split at h
  rotate_left
  · cases h
  rename_i r0 B0 hg
  cases hr : noPlace r0 with
  | false => rw [hr] at h; cases h
  | true =>
  rw [hr] at h
  simp only [cond_true, Option.some.injEq, Prod.mk.injEq] at h
  obtain ⟨rfl, rfl⟩ := h
  have args' : ∀ (F : Fr) (m : Mu) (w : World) (cargs : List Value), M0.le m → Rel F m A w → cvos m (v :: rest) = some cargs → ∃ m', M0.le m' ∧ Inp w m' S ∧ cvos m' (v' :: rest) = some cargs := fun F m w cargs hm R hc => by
    simp only [cvos] at hc
    split at hc
    rotate_left
    · cases hc
    rename_i y ys hy hys
    cases hc
    obtain ⟨m', q1, q2, q3⟩ := errS_sound R (hA F m A w hm R hs) hS hy
    exact ⟨m', q1, q2, by simp only [cvos, q3]; rw [noPlaces_spec m m' rest hb, hys]⟩
  have fin : ∀ (F : Fr) (m : Mu) (w w' : World) (m' : Mu), Rel F m A w → Rel (frameOf w) m' B0 w' → Rel F m A w' := fun F m w w' m' R R' =>
    Rel.extended R (fun cb o h => R'.keep cb o h) R'.rest.1 R'.rest.2
  rcases (hG f (v' :: rest) S r0 B0 hg).2 hfy with ⟨h1, h2⟩ | h2
  · refine .inl ⟨h1, fun F m w cargs hm R hc => ?_⟩
    obtain ⟨m', q1, q2, q3⟩ := args' F m w cargs hm R hc
    refine (h2 (frameOf w) m' w cargs q1 q2.rel q3).mono fun e w' ⟨c, m2, g1, g2, g3, g4⟩ => ?_
    exact ⟨c, m, g1, Mu.le_refl m, fin F m w w' m2 R g3, by rw [noPlace_spec m2 m r0 hr]; exact g4⟩
  · refine .inr fun F m w cargs hm R hc => ?_
    obtain ⟨m', q1, q2, q3⟩ := args' F m w cargs hm R hc
    obtain ⟨c, w', m2, g1, g2, g3, g4⟩ := h2 (frameOf w) m' w cargs q1 q2.rel q3
    exact ⟨c, w', m, g1, Mu.le_refl m, fin F m w w' m2 R g3, by rw [noPlace_spec m2 m r0 hr]; exact g4⟩
end
end Go.AM
