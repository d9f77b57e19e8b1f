/- The abstract machine: what it says of a world of the model. -/
import Derived.Test.YtejlhgcheaimjaaGreatDoorAmDefs
import Derived.Deep.AppendSrc
import Derived.Laws.IdiomCopy
import Derived.Laws.IdiomStrings
namespace Go.AM
set_option linter.unusedVariables false
set_option linter.unusedSimpArgs false

theorem nbeq {a b : Nat} (h : a ≠ b) : Nat.beq a b = false := by
  cases h' : Nat.beq a b
  · rfl
  · exact absurd (Nat.eq_of_beq_eq_true h') h
theorem T.get_setF {α : Type} (a : α) : ∀ (k : Nat) (t : T α) (n m : Nat), n < k → (T.setF a k t n).get m = if m = n then some a else t.get m
  | 0, _, _, _, h => by omega
  | k + 1, .nil, n, m, h => by
    have ih := T.get_setF a k .nil
    simp only [T.setF]
    by_cases h0 : n = 0
    · subst h0
      simp only [Nat.beq_refl, cond_true, T.get]
      by_cases hm : m = 0
      · subst hm; simp
      · have : Nat.beq m 0 = false := nbeq hm
        simp [this, hm, T.get]
    · have e0 : Nat.beq n 0 = false := nbeq h0
      by_cases h1 : n % 2 = 1
      · have e1 : Nat.beq (n % 2) 1 = true := by simpa using h1
        simp only [e0, e1, cond_false, cond_true, T.get]
        by_cases hm : m = 0
        · subst hm; simp; omega
        · have f0 : Nat.beq m 0 = false := nbeq hm
          by_cases hm1 : m % 2 = 1
          · have f1 : Nat.beq (m % 2) 1 = true := by simpa using hm1
            simp only [f0, f1, cond_false, cond_true]
            rw [ih _ _ (by omega)]
            simp only [T.get]
            by_cases e : m = n
            · subst e; simp
            · rw [if_neg e, if_neg (by omega)]
          · have f1 : Nat.beq (m % 2) 1 = false := nbeq hm1
            simp only [f0, f1, cond_false, T.get]
            rw [if_neg (by intro e; subst e; exact hm1 h1)]
      · have e1 : Nat.beq (n % 2) 1 = false := nbeq h1
        simp only [e0, e1, cond_false, T.get]
        by_cases hm : m = 0
        · subst hm; simp; omega
        · have f0 : Nat.beq m 0 = false := nbeq hm
          by_cases hm1 : m % 2 = 1
          · have f1 : Nat.beq (m % 2) 1 = true := by simpa using hm1
            simp only [f0, f1, cond_false, cond_true, T.get]
            rw [if_neg (by intro e; subst e; exact h1 hm1)]
          · have f1 : Nat.beq (m % 2) 1 = false := nbeq hm1
            simp only [f0, f1, cond_false]
            rw [ih _ _ (by omega)]
            simp only [T.get]
            by_cases e : m = n
            · subst e; simp
            · rw [if_neg e, if_neg (by omega)]
  | k + 1, .node l v r, n, m, h => by
    have ihl := T.get_setF a k l
    have ihr := T.get_setF a k r
    simp only [T.setF]
    by_cases h0 : n = 0
    · subst h0
      simp only [Nat.beq_refl, cond_true, T.get]
      by_cases hm : m = 0
      · subst hm; simp
      · have : Nat.beq m 0 = false := nbeq hm
        simp [this, hm, T.get]
    · have e0 : Nat.beq n 0 = false := nbeq h0
      by_cases h1 : n % 2 = 1
      · have e1 : Nat.beq (n % 2) 1 = true := by simpa using h1
        simp only [e0, e1, cond_false, cond_true, T.get]
        by_cases hm : m = 0
        · subst hm; simp; omega
        · have f0 : Nat.beq m 0 = false := nbeq hm
          by_cases hm1 : m % 2 = 1
          · have f1 : Nat.beq (m % 2) 1 = true := by simpa using hm1
            simp only [f0, f1, cond_false, cond_true]
            rw [ihl _ _ (by omega)]
            by_cases e : m = n
            · subst e; simp
            · rw [if_neg e, if_neg (by omega)]
          · have f1 : Nat.beq (m % 2) 1 = false := nbeq hm1
            simp only [f0, f1, cond_false]
            rw [if_neg (by intro e; subst e; exact hm1 h1)]
      · have e1 : Nat.beq (n % 2) 1 = false := nbeq h1
        simp only [e0, e1, cond_false, T.get]
        by_cases hm : m = 0
        · subst hm; simp; omega
        · have f0 : Nat.beq m 0 = false := nbeq hm
          by_cases hm1 : m % 2 = 1
          · have f1 : Nat.beq (m % 2) 1 = true := by simpa using hm1
            simp only [f0, f1, cond_false, cond_true]
            rw [if_neg (by intro e; subst e; exact h1 hm1)]
          · have f1 : Nat.beq (m % 2) 1 = false := nbeq hm1
            simp only [f0, f1, cond_false]
            rw [ihr _ _ (by omega)]
            by_cases e : m = n
            · subst e; simp
            · rw [if_neg e, if_neg (by omega)]

theorem T.get_set {α : Type} (t : T α) (n m : Nat) (a : α) : (t.set n a).get m = if m = n then some a else t.get m := T.get_setF a (n + 1) t n m (by omega)

theorem St.get_put (A : St) (f g : Nat) (b : Blk) : (A.put f b).get g = if g = f then some b else A.get g := T.get_set _ _ _ _
theorem St.get_push (A : St) (g : Nat) (b : Blk) : (A.push b).get g = if g = A.next then some b else A.get g := T.get_set _ _ _ _
@[simp] theorem St.next_put (A : St) (f : Nat) (b : Blk) : (A.put f b).next = A.next := rfl
@[simp] theorem St.next_push (A : St) (b : Blk) : (A.push b).next = A.next + 1 := rfl

/-- Where a version lies: the block, the place of its first cell, which offset that is; how many elements of which size it has room for. -/
structure Loc where
  cb : Nat
  co : Nat
  lo : Nat
  cap : Nat
  sz : Nat

/-- Where the versions lie, and where the empty slices that are not nil point. -/
structure Mu where
  loc : Nat → Nat → Option Loc
  gho : Nat → Option Addr
  /-- The program. -/
  pg : Program
  /-- What is known of the blocks that nobody touches. -/
  tab : List (Nat × (Array Value → Prop))
instance : CoeFun Mu (fun _ => Nat → Nat → Option Loc) := ⟨Mu.loc⟩
structure Mu.le (m m' : Mu) : Prop where
  loc : ∀ f v l, m f v = some l → m' f v = some l
  gho : ∀ k a, m.gho k = some a → m'.gho k = some a
  pg : m'.pg = m.pg
  tab : m'.tab = m.tab
theorem Mu.le_refl (m : Mu) : m.le m := ⟨fun _ _ _ h => h, fun _ _ h => h, rfl, rfl⟩
theorem Mu.le_trans {a b c : Mu} (h : a.le b) (h' : b.le c) : a.le c := ⟨fun f v l e => h'.loc f v l (h.loc f v l e), fun k x e => h'.gho k x (h.gho k x e), h'.pg.trans h.pg, h'.tab.trans h.tab⟩
def Mu.add (m : Mu) (f v : Nat) (l : Loc) : Mu := ⟨fun g u => if g = f ∧ u = v then some l else m g u, m.gho, m.pg, m.tab⟩
theorem Mu.le_add {m : Mu} {f v : Nat} (l : Loc) (h : m f v = none) : m.le (m.add f v l) := by
  refine ⟨fun g u k e => ?_, fun _ _ e => e, rfl, rfl⟩
  unfold Mu.add
  dsimp only
  split
  · rename_i c; rw [c.1, c.2, h] at e; cases e
  · exact e

def plc (m : Mu) (p : Pl) : Option Addr :=
  match m p.1 p.2.1 with
  | some l => if l.lo ≤ p.2.2 then some ⟨l.cb, l.co + (p.2.2 - l.lo), none⟩ else none
  | none => none

mutual
def cvo (m : Mu) : AV → Option Value
  | .bool b => some (.bool b)
  | .int k n => some (.int k n)
  | .str s => some (.string ⟨s.toArray⟩)
  | .ptr none => some (.pointer none)
  | .ptr (some p) => (plc m p).map fun a => .pointer (some a)
  | .slice none po len cap q => if len = 0 ∧ cap = 0 then (if q = 0 then some (.slice none 0 0) else (m.gho po).map fun a => .slice (some a) 0 0) else none
  | .slice (some p) _ len cap 0 => if len ≤ cap then (plc m p).map fun a => .slice (some a) len cap else none
  | .slice (some p) po len skip (q + 1) =>
    match m p.1 p.2.1 with
    | some l => if l.lo + skip * l.sz = p.2.2 ∧ skip + len ≤ l.cap ∧ l.sz = q + 1 then (plc m (p.1, p.2.1, if l.cap = skip then po else p.2.2)).map fun a => .slice (some a) len (l.cap - skip) else none
    | none => none
  | .map none => some (.map none)
  | .map (some f) => (m f 0).map fun l => .map (some l.cb)
  | .func fn x y => match cvos m x, cvos m y with | some x', some y' => some (.func fn x'.toArray y'.toArray) | _, _ => none
  | .nilFunc => some .nilFunc
  | .iface t v => (cvo m v).map (.iface t)
  | .nilIface => some .nilIface
  | .agg l => (cvos m l).map fun l' => .agg l'.toArray
  | .tuple l => (cvos m l).map fun l' => .tuple l'.toArray
  | .ty b t => some (.pointer (some ⟨b, t, none⟩))
  | .yld f => (m f 0).map fun l => .func (.yield l.cb) #[] #[]
  | .bot => none
def cvos (m : Mu) : List AV → Option (List Value)
  | [] => some []
  | a :: l => match cvo m a, cvos m l with | some y, some ys => some (y :: ys) | _, _ => none
end

theorem plc_mono {m m' : Mu} (h : m.le m') {p : Pl} {a : Addr} (e : plc m p = some a) : plc m' p = some a := by
  unfold plc at *
  split at e
  · rename_i l hl; rw [h.loc _ _ _ hl]; exact e
  · cases e

mutual
theorem cvo_mono {m m' : Mu} (h : m.le m') : ∀ (a : AV) (y : Value), cvo m a = some y → cvo m' a = some y
  | .bool _, _, e => e
  | .int _ _, _, e => e
  | .str _, _, e => e
  | .ptr none, _, e => e
  | .ptr (some p), y, e => by
    simp only [cvo] at *
    cases hp : plc m p with
    | none => simp [hp] at e
    | some a => rw [plc_mono h hp]; simpa [hp] using e
  | .slice none po len cap q, y, e => by
    simp only [cvo] at *
    split at e
    · rename_i hz
      rw [if_pos hz]
      split at e
      · rename_i hq; rw [if_pos hq]; exact e
      · rename_i hq
        rw [if_neg hq]
        cases hp : m.gho po with
        | none => simp [hp] at e
        | some a => rw [h.gho _ _ hp]; simpa [hp] using e
    · cases e
  | .slice (some p) _ _ _ 0, y, e => by
    simp only [cvo] at *
    split at e
    · rename_i hle
      rw [if_pos hle]
      cases hp : plc m p with
      | none => simp [hp] at e
      | some a => rw [plc_mono h hp]; simpa [hp] using e
    · cases e
  | .slice (some p) po len skip (q + 1), y, e => by
    simp only [cvo] at *
    split at e
    · rename_i l hl
      rw [h.loc _ _ _ hl]
      dsimp only
      split at e
      · rename_i hc
        rw [if_pos hc]
        cases hp : plc m (p.1, p.2.1, if l.cap = skip then po else p.2.2) with
        | none => simp [hp] at e
        | some a => rw [plc_mono h hp]; simpa [hp] using e
      · cases e
    · cases e
  | .map none, _, e => e
  | .map (some f), y, e => by
    simp only [cvo] at *
    cases hp : m f 0 with
    | none => simp [hp] at e
    | some a => rw [h.loc _ _ _ hp]; simpa [hp] using e
  | .func fn u v, y, e => by
    simp only [cvo] at *
    split at e
    · rename_i x' y' hx hy
      rw [cvos_mono h u _ hx, cvos_mono h v _ hy]; exact e
    · cases e
  | .nilFunc, _, e => e
  | .iface t v, y, e => by
    simp only [cvo] at *
    cases hp : cvo m v with
    | none => simp [hp] at e
    | some a => rw [cvo_mono h v _ hp]; simpa [hp] using e
  | .nilIface, _, e => e
  | .agg l, y, e => by
    simp only [cvo] at *
    cases hp : cvos m l with
    | none => simp [hp] at e
    | some a => rw [cvos_mono h l _ hp]; simpa [hp] using e
  | .tuple l, y, e => by
    simp only [cvo] at *
    cases hp : cvos m l with
    | none => simp [hp] at e
    | some a => rw [cvos_mono h l _ hp]; simpa [hp] using e
  | .ty _ _, _, e => e
  | .yld f, y, e => by
    simp only [cvo] at *
    cases hp : m f 0 with
    | none => simp [hp] at e
    | some a => rw [h.loc _ _ _ hp]; simpa [hp] using e
  | .bot, _, e => by simp [cvo] at e
theorem cvos_mono {m m' : Mu} (h : m.le m') : ∀ (l : List AV) (ys : List Value), cvos m l = some ys → cvos m' l = some ys
  | [], _, e => e
  | a :: l, ys, e => by
    simp only [cvos] at *
    split at e
    · rename_i y zs hy hz
      rw [cvo_mono h a _ hy, cvos_mono h l _ hz]; exact e
    · cases e
end

theorem cvos_length {m : Mu} : ∀ {l : List AV} {ys : List Value}, cvos m l = some ys → ys.length = l.length
  | [], _, e => by simp [cvos] at e; subst e; rfl
  | a :: l, ys, e => by
    simp only [cvos] at e
    split at e
    · rename_i y zs hy hz
      simp at e; subst e; simp [cvos_length hz]
    · cases e
theorem cvos_get {m : Mu} : ∀ {l : List AV} {ys : List Value}, cvos m l = some ys → ∀ {j : Nat} {a : AV}, l[j]? = some a → ∃ y, cvo m a = some y ∧ ys[j]? = some y
  | [], _, e, j, a, h => by simp at h
  | b :: l, ys, e, j, a, h => by
    simp only [cvos] at e
    split at e
    · rename_i y zs hy hz
      simp at e; subst e
      cases j with
      | zero => simp at h; subst h; exact ⟨y, hy, rfl⟩
      | succ j => simp at h; simpa using cvos_get hz h
    · cases e
theorem cvos_get' {m : Mu} : ∀ {l : List AV} {ys : List Value}, cvos m l = some ys → ∀ {j : Nat} {y : Value}, ys[j]? = some y → ∃ a, l[j]? = some a ∧ cvo m a = some y
  | [], _, e, j, a, h => by simp [cvos] at e; subst e; simp at h
  | b :: l, ys, e, j, a, h => by
    simp only [cvos] at e
    split at e
    · rename_i y zs hy hz
      simp at e; subst e
      cases j with
      | zero => simp at h; subst h; exact ⟨b, rfl, hy⟩
      | succ j => simp at h; simpa using cvos_get' hz h
    · cases e
theorem cvos_of_all {m : Mu} : ∀ {l : List AV}, (∀ a ∈ l, ∃ y, cvo m a = some y) → ∃ ys, cvos m l = some ys
  | [], _ => ⟨[], rfl⟩
  | a :: l, h => by
    obtain ⟨y, hy⟩ := h a (by simp)
    obtain ⟨ys, hys⟩ := cvos_of_all (l := l) (fun b hb => h b (by simp [hb]))
    exact ⟨y :: ys, by simp [cvos, hy, hys]⟩
theorem cvos_append {m : Mu} : ∀ {l k : List AV} {ys zs : List Value}, cvos m l = some ys → cvos m k = some zs → cvos m (l ++ k) = some (ys ++ zs)
  | [], k, ys, zs, e, h => by simp [cvos] at e; subst e; simpa using h
  | a :: l, k, ys, zs, e, h => by
    simp only [cvos] at e
    split at e
    · rename_i y us hy hu
      simp at e; subst e
      simp [cvos, hy, cvos_append hu h]
    · cases e
theorem oneCell_of_flat {m : Mu} {a : AV} {y : Value} (hf : a.flat = true) (h : cvo m a = some y) : y.oneCell' = true := by
  cases a with
  | agg _ => simp [AV.flat] at hf
  | tuple _ => simp [AV.flat] at hf
  | bot => simp [AV.flat] at hf
  | ptr p =>
    cases p with
    | none => simp only [cvo] at h; cases h; rfl
    | some p => simp only [cvo, Option.map_eq_some_iff] at h; obtain ⟨_, _, rfl⟩ := h; rfl
  | slice p po len cap q =>
    cases p with
    | none =>
      simp only [cvo] at h
      split at h
      · split at h
        · cases h; rfl
        · simp only [Option.map_eq_some_iff] at h; obtain ⟨_, _, rfl⟩ := h; rfl
      · cases h
    | some p =>
      cases q with
      | zero =>
        simp only [cvo] at h
        split at h
        · simp only [Option.map_eq_some_iff] at h; obtain ⟨_, _, rfl⟩ := h; rfl
        · cases h
      | succ q =>
        simp only [cvo] at h
        split at h
        · split at h
          · simp only [Option.map_eq_some_iff] at h; obtain ⟨_, _, rfl⟩ := h; rfl
          · cases h
        · cases h
  | map r =>
    cases r with
    | none => simp only [cvo] at h; cases h; rfl
    | some p => simp only [cvo, Option.map_eq_some_iff] at h; obtain ⟨_, _, rfl⟩ := h; rfl
  | func fn x y =>
    simp only [cvo] at h
    split at h
    · cases h; rfl
    · cases h
  | iface t v => simp only [cvo, Option.map_eq_some_iff] at h; obtain ⟨_, _, rfl⟩ := h; rfl
  | bool _ => simp only [cvo] at h; cases h; rfl
  | int _ _ => simp only [cvo] at h; cases h; rfl
  | str _ => simp only [cvo] at h; cases h; rfl
  | nilFunc => simp only [cvo] at h; cases h; rfl
  | nilIface => simp only [cvo] at h; cases h; rfl
  | ty _ _ => simp only [cvo] at h; cases h; rfl
  | yld f => simp only [cvo, Option.map_eq_some_iff] at h; obtain ⟨_, _, rfl⟩ := h; rfl

end Go.AM
