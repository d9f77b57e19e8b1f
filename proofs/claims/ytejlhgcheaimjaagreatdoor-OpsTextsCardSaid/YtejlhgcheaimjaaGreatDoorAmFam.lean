/- The abstract machine: families of cells, one by one; what may have turned. -/
import Derived.Test.YtejlhgcheaimjaaGreatDoorAmAssoc
import Derived.Test.YtejlhgcheaimjaaGreatDoorAmRows
namespace Go.AM
set_option linter.unusedVariables false
set_option linter.unusedSimpArgs false

/-- A family of such cells. -/
structure Cl (A : St) (f : Nat) (cs : List AV) : Prop where
  lt : f < A.next
  get : A.get f = some (.cells cs [⟨0, 0, cs.length, 1⟩] 1 false)
/-- What may have turned: W alone. -/
structure Mod (W : Nat → Prop) (A B : St) : Prop where
  next : A.next ≤ B.next
  get : ∀ f, f < A.next → ¬ W f → B.get f = A.get f
section
variable {W W' : Nat → Prop} {A B C : St} {f : Nat} {cs : List AV}
theorem Mod.refl (A : St) : Mod W A A := ⟨Nat.le_refl _, fun _ _ _ => rfl⟩
theorem Mod.trans (h : Mod W A B) (k : Mod W B C) : Mod W A C := ⟨Nat.le_trans h.next k.next, fun f hf hw => (k.get f (Nat.lt_of_lt_of_le hf h.next) hw).trans (h.get f hf hw)⟩
theorem Mod.mono (h : Mod W A B) (hw : ∀ f, f < A.next → W f → W' f) : Mod W' A B := ⟨h.next, fun f hf hn => h.get f hf fun hW => hn (hw f hf hW)⟩
theorem Mod.of_ext (h : A.Ext B) : Mod W A B := ⟨h.next, fun f hf _ => h.get f hf⟩
theorem Mod.ext (h : Mod (fun _ => False) A B) : A.Ext B := ⟨h.next, fun f hf => h.get f hf id⟩
/-- What lay beyond the start may turn besides. -/
theorem Mod.new (h : Mod W A B) (k : Mod (fun f => W f ∨ A.next ≤ f) B C) : Mod W A C := ⟨Nat.le_trans h.next k.next, fun f hf hw => (k.get f (Nat.lt_of_lt_of_le hf h.next) (by rintro (h1 | h1); exact hw h1; omega)).trans (h.get f hf hw)⟩
theorem mod_put (A : St) (f : Nat) (b : Blk) (hw : W f) : Mod W A (A.put f b) := ⟨Nat.le_refl _, fun g _ hg => by rw [St.get_put, if_neg (by rintro rfl; exact hg hw)]⟩

theorem Cl.mod (h : Cl A f cs) (m : Mod W A B) (hw : ¬ W f) : Cl B f cs := ⟨Nat.lt_of_lt_of_le h.lt m.next, by rw [m.get f h.lt hw]; exact h.get⟩
theorem Cl.ext (h : Cl A f cs) (x : A.Ext B) : Cl B f cs := ⟨Nat.lt_of_lt_of_le h.lt x.next, by rw [x.get f h.lt]; exact h.get⟩
theorem Cl.make (A : St) (cs : List AV) : Cl (A.make cs 1).2 A.next cs := ⟨Nat.lt_succ_self _, get_make A cs 1⟩
theorem Cl.look (h : Cl A f cs) (o : Nat) : A.look (f, 0, o) = some (cs, ⟨0, 0, cs.length, 1⟩, 1, false) := by
  unfold St.look
  dsimp only
  rw [h.get]
  rfl
theorem Cl.ld (h : Cl A f cs) (o : Nat) {v : AV} (hv : cs[o]? = some v) : loadV A 1 false (.ptr (some (f, 0, o))) = some v := by
  have hlt := (List.getElem?_eq_some_iff.1 hv).1
  unfold loadV St.cells
  dsimp only
  rw [h.look]
  dsimp only
  rw [if_pos ⟨Nat.zero_le _, by omega, Nat.le_refl _⟩]
  have : (cs.drop o).take 1 = [v] := by
    rw [List.drop_eq_getElem_cons hlt, List.take_succ_cons, List.take_zero]
    rw [List.getElem?_eq_getElem hlt] at hv
    cases hv
    rfl
  rw [this]
  rfl
theorem Cl.lda (h : Cl A f cs) (o n : Nat) (hn : o + n ≤ cs.length) : loadV A n true (.ptr (some (f, 0, o))) = some (.agg ((cs.drop o).take n)) := by
  unfold loadV St.cells
  dsimp only
  rw [h.look]
  dsimp only
  rw [if_pos ⟨Nat.zero_le _, hn, Nat.le_refl _⟩]
  rfl
theorem splice_one {cs : List AV} {o : Nat} {v : AV} (h : o < cs.length) : splice cs o [v] = cs.set o v := by
  unfold splice
  rw [List.set_eq_take_append_cons_drop, if_pos h]
  rfl
/-- One cell is written. -/
theorem Cl.st (h : Cl A f cs) (o : Nat) (ho : o < cs.length) {v : AV} (hf : v.flat = true) (hc : v.cells = [v]) (hb : v.isBot = false) : storeV A 1 (.ptr (some (f, 0, o))) v = some (.bot, A.put f (.cells (cs.set o v) [⟨0, 0, cs.length, 1⟩] 1 false)) ∧ Cl (A.put f (.cells (cs.set o v) [⟨0, 0, cs.length, 1⟩] 1 false)) f (cs.set o v) := by
  refine ⟨?_, h.lt, by rw [St.get_put, if_pos rfl, List.length_set]⟩
  have hw : A.write (f, 0, o) [v] = some (A.put f (.cells (cs.set o v) [⟨0, 0, cs.length, 1⟩] 1 false)) := by
    simp only [St.write, h.look]
    rw [if_pos ⟨Nat.zero_le _, by simp only [List.length_singleton]; omega, Nat.le_refl _, by simp [hf]⟩, splice_one ho]
  unfold storeV
  cases v <;> simp [AV.isBot] at hb <;> simp only [hc, hw] <;> rfl
/-- All cells are written. -/
theorem Cl.sta (h : Cl A f cs) {l : List AV} (hl : l.length = cs.length) (hf : l.all AV.flat = true) : storeV A cs.length (.ptr (some (f, 0, 0))) (.agg l) = some (.bot, A.put f (.cells l [⟨0, 0, cs.length, 1⟩] 1 false)) ∧ Cl (A.put f (.cells l [⟨0, 0, cs.length, 1⟩] 1 false)) f l := by
  refine ⟨?_, h.lt, by rw [St.get_put, if_pos rfl, hl]⟩
  have hw : A.write (f, 0, 0) l = some (A.put f (.cells l [⟨0, 0, cs.length, 1⟩] 1 false)) := by
    simp only [St.write, h.look]
    rw [if_pos ⟨Nat.zero_le _, by simp [hl], Nat.le_refl _, hf⟩]
    have : splice cs 0 l = l := by
      unfold splice
      rw [Nat.zero_add, hl, List.drop_length, List.append_nil]
      rfl
    rw [this]
  unfold storeV
  simp only [AV.cells, hl, if_true, hw]
theorem Sl.mod {sz : Nat} {s : AV} {cs : List AV} (e : Sl A sz s cs) (m : Mod W A B) (hw : ∀ f, s.into f = true → ¬ W f) : Sl B sz s cs := by
  refine e.of_get m.next fun p po len cap q hs => ?_
  have hf : s.into p.1 = true := by rw [hs]; simp [AV.into]
  exact m.get _ (Sl.into_lt e hf) (hw _ hf)
section
variable {α : Type} [DecidableEq α] {enc : α → AV}
theorem MapE.mod {l : List (α × AV × Nat)} {c : Nat} (h : MapE enc A f l c) (m : Mod W A B) (hw : ¬ W f) : MapE enc B f l c := h.but m.next (m.get f h.lt hw)
end
end
end Go.AM
