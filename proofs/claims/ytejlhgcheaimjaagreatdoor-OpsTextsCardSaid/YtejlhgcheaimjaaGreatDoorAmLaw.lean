/- The abstract machine: a call's arguments as read-only families; a law's row from what the machine computes. -/
import Derived.Test.YtejlhgcheaimjaaGreatDoorAmWp
import Derived.ProofKit
namespace Go.AM
set_option linter.unusedVariables false
set_option linter.unusedSimpArgs false

/-- A world is its own frame. -/
def frameOf (W : World) : Fr := ⟨fun cb => W.heap[cb]?, W.os, W.output⟩
def muNone (P : Program) (t : List (Nat × (Array Value → Prop)) := []) : Mu := ⟨fun _ _ => none, fun _ => none, P, t⟩
/-- Blocks that are as they were at first. -/
def TabOk (t : List (Nat × (Array Value → Prop))) (h : Nat → Option Obj) : Prop := ∀ p, p ∈ t → ∃ c e fz, h p.1 = some (.cells c e fz) ∧ p.2 c
theorem tabOk_nil (h : Nat → Option Obj) : TabOk [] h := fun _ hp => by cases hp
def stNone : St := ⟨.nil, 0⟩

structure Inp (W : World) (m : Mu) (A : St) : Prop where
  rel : Rel (frameOf W) m A W
  still : ∀ f, ¬ A.Rw f
  far : ∀ f, A.next ≤ f → A.get f = none
  gfar : ∀ k, A.next ≤ k → m.gho k = none

structure St.Ext (A B : St) : Prop where
  next : A.next ≤ B.next
  get : ∀ f, f < A.next → B.get f = A.get f
theorem St.Ext.refl (A : St) : A.Ext A := ⟨Nat.le_refl _, fun _ _ => rfl⟩
theorem St.Ext.trans {A B C : St} (h : A.Ext B) (k : B.Ext C) : A.Ext C := ⟨Nat.le_trans h.next k.next, fun f hf => (k.get f (Nat.lt_of_lt_of_le hf h.next)).trans (h.get f hf)⟩

theorem inp_none (P : Program) (W : World) {t : List (Nat × (Array Value → Prop))} (ht : TabOk t (fun g => W.heap[g]?) := by exact tabOk_nil _) : Inp W (muNone P t) stNone :=
  ⟨⟨fun f v l h => (by cases h), fun f b h => (by cases h), fun cb o h => h, ⟨rfl, rfl⟩, fun f v l g u k h => (by cases h), fun f v l h => (by cases h), fun f v l u k h => (by cases h), fun f l h => (by cases h), ht⟩,
    fun f ⟨b, h, _⟩ => (by cases h), fun f _ => rfl, fun k _ => rfl⟩

section
variable {W : World} {m : Mu} {A : St}

/-- A read-only family more. -/
theorem Inp.push (I : Inp W m A) {cs : List AV} {ys : List Value} (hys : cvos m cs = some ys) {cb co sz cap : Nat} (hcb : cb < W.heap.size) (hcell : ∀ i y, ys[i]? = some y → W.cell? ⟨cb, co + i, none⟩ = some y) :
    m.le (m.add A.next 0 ⟨cb, co, 0, cap, sz⟩) ∧ Inp W (m.add A.next 0 ⟨cb, co, 0, cap, sz⟩) (A.push (.cells cs [⟨0, 0, cs.length, sz⟩] 1 true)) := by
  have hnone : ∀ v, m A.next v = none := fun v => by
    cases h : m A.next v with
    | none => rfl
    | some l => have := (I.rel.dom _ _ _ h).1; omega
  have hle := Mu.le_add (m := m) ⟨cb, co, 0, cap, sz⟩ (hnone 0)
  have hget : ∀ f v, f ≠ A.next → (m.add A.next 0 ⟨cb, co, 0, cap, sz⟩) f v = m f v := fun f v h => by
    show (if f = A.next ∧ v = 0 then _ else _) = _
    rw [if_neg (fun c => h c.1)]
  have hnew : ∀ v, (m.add A.next 0 ⟨cb, co, 0, cap, sz⟩) A.next v = if v = 0 then some ⟨cb, co, 0, cap, sz⟩ else none := fun v => by
    show (if A.next = A.next ∧ v = 0 then _ else _) = _
    by_cases h : v = 0
    · rw [if_pos ⟨rfl, h⟩, if_pos h]
    · rw [if_neg (fun c => h c.2), if_neg h]; exact hnone v
  have hnoRw : ∀ f, ¬ (A.push (.cells cs [⟨0, 0, cs.length, sz⟩] 1 true)).Rw f := by
    rintro f ⟨b, hb, hr⟩
    rw [St.get_push] at hb
    split at hb
    · cases hb; cases hr
    · exact I.still f ⟨b, hb, hr⟩
  refine ⟨hle, ⟨⟨?_, ?_, I.rel.keep, I.rel.rest, ?_, ?_, ?_, fun f l _ hr => absurd hr (hnoRw f), I.rel.frm⟩, hnoRw, ?_, fun k hk => I.gfar k (Nat.le_of_succ_le hk)⟩⟩
  · intro f v l h
    by_cases hf : f = A.next
    · subst hf
      rw [hnew] at h
      split at h
      · cases h; exact ⟨Nat.lt_succ_self _, hcb⟩
      · cases h
    · rw [hget f v hf] at h
      exact ⟨Nat.lt_succ_of_lt (I.rel.dom f v l h).1, (I.rel.dom f v l h).2⟩
  · intro f b h
    rw [St.get_push] at h
    split at h
    · rename_i hf
      subst hf
      cases h
      refine ⟨fun x hx => ?_, fun v hv => ?_⟩
      · simp only [List.mem_singleton] at hx
        subst hx
        refine ⟨⟨cb, co, 0, cap, sz⟩, ⟨by rw [hnew]; rfl, rfl, rfl, Nat.le_refl _, ?_, fun h => by cases h⟩⟩
        intro i a _ hi ha
        obtain ⟨y, hy, hj⟩ := cvos_get hys ha
        exact ⟨y, cvo_mono hle _ _ hy, by simpa using hcell i y hj⟩
      · rw [hnew, if_neg (by omega)]
    · rename_i hf
      have H := I.rel.got f b h
      cases b with
      | cells cs vers nv ro =>
        refine ⟨fun x hx => ?_, fun v hv => ?_⟩
        · obtain ⟨l, c⟩ := H.1 x hx
          exact ⟨l, ⟨hle.loc _ _ _ c.mu, c.lo, c.sz, c.hi, fun i a h1 h2 h3 => (let ⟨y, y1, y2⟩ := c.cell i a h1 h2 h3; ⟨y, cvo_mono hle _ _ y1, y2⟩), c.rw⟩⟩
        · rw [hget f v hf]; exact H.2 v hv
      | map es cl =>
        obtain ⟨l, es', h1, h2, h3, h4⟩ := H
        exact ⟨l, es', hle.loc _ _ _ h1, h2, h3, h4.mono hle⟩
      | iter io =>
        obtain ⟨l, ob, h1, h2, h3, h4⟩ := H
        exact ⟨l, ob, ⟨hle.loc _ _ _ h1.1, h1.2⟩, h2, h3, h4.mono hle⟩
  · intro f v l g u k _ _ _ hr
    exact absurd hr (hnoRw f)
  · intro f v l _ hr
    exact absurd hr (hnoRw f)
  · intro f v l u k h1 h2
    by_cases hf : f = A.next
    · subst hf
      rw [hnew] at h1 h2
      split at h1
      · split at h2
        · cases h1; cases h2; intro _; rfl
        · cases h2
      · cases h1
    · rw [hget f _ hf] at h1 h2
      exact I.rel.same f v l u k h1 h2
  · intro f hf
    have hf' : A.next + 1 ≤ f := hf
    rw [St.get_push, if_neg (by omega)]
    exact I.far f (by omega)

theorem ext_push (A : St) (b : Blk) : A.Ext (A.push b) := ⟨Nat.le_succ _, fun f hf => by rw [St.get_push, if_neg (by omega)]⟩

/-- An empty slice that is not nil. -/
def Mu.addG (m : Mu) (k : Nat) (a : Addr) : Mu := ⟨m.loc, fun j => if j = k then some a else m.gho j, m.pg, m.tab⟩
theorem Inp.ghost (I : Inp W m A) (a : Addr) : m.le (m.addG A.next a) ∧ Inp W (m.addG A.next a) (A.push (.cells [] [] 0 true)) := by
  have hnone : ∀ v, m A.next v = none := fun v => by
    cases h : m A.next v with
    | none => rfl
    | some l => have := (I.rel.dom _ _ _ h).1; omega
  have hle : m.le (m.addG A.next a) := ⟨fun _ _ _ h => h, fun k x h => by
    show (if k = A.next then some a else m.gho k) = some x
    rw [if_neg (fun c => by rw [c, I.gfar _ (Nat.le_refl _)] at h; cases h)]
    exact h, rfl, rfl⟩
  have hnoRw : ∀ f, ¬ (A.push (.cells [] [] 0 true)).Rw f := by
    rintro f ⟨b, hb, hr⟩
    rw [St.get_push] at hb
    split at hb
    · cases hb; cases hr
    · exact I.still f ⟨b, hb, hr⟩
  refine ⟨hle, ⟨⟨fun f v l h => ⟨Nat.lt_succ_of_lt (I.rel.dom f v l h).1, (I.rel.dom f v l h).2⟩, ?_, I.rel.keep, I.rel.rest, fun f v l g u k _ _ _ hr => absurd hr (hnoRw f), fun f v l _ hr => absurd hr (hnoRw f), I.rel.same, fun f l _ hr => absurd hr (hnoRw f), I.rel.frm⟩, hnoRw, ?_, ?_⟩⟩
  · intro f b h
    rw [St.get_push] at h
    split at h
    · rename_i hf
      subst hf
      cases h
      exact ⟨fun x hx => (by cases hx), fun v _ => hnone v⟩
    · rename_i hf
      have H := I.rel.got f b h
      cases b with
      | cells cs vers nv ro =>
        refine ⟨fun x hx => ?_, H.2⟩
        obtain ⟨l, c⟩ := H.1 x hx
        exact ⟨l, ⟨c.mu, c.lo, c.sz, c.hi, fun i a h1 h2 h3 => (let ⟨y, y1, y2⟩ := c.cell i a h1 h2 h3; ⟨y, cvo_mono hle _ _ y1, y2⟩), c.rw⟩⟩
      | map es cl =>
        obtain ⟨l, es', h1, h2, h3, h4⟩ := H
        exact ⟨l, es', h1, h2, h3, h4.mono hle⟩
      | iter io =>
        obtain ⟨l, ob, h1, h2, h3, h4⟩ := H
        exact ⟨l, ob, h1, h2, h3, h4.mono hle⟩
  · intro f hf
    have hf' : A.next + 1 ≤ f := hf
    rw [St.get_push, if_neg (by omega)]
    exact I.far f (by omega)
  · intro k hk
    have hk' : A.next + 1 ≤ k := hk
    show (if k = A.next then some a else m.gho k) = none
    rw [if_neg (by omega)]
    exact I.gfar k (by omega)
end

/-! ### Reading -/
section
variable {H : Type}

def rdAll (R : TypeId → List AV → DataW H → Prop) : List TypeId → List AV → List (DataW H) → Prop
  | [], l, ds => l = [] ∧ ds = []
  | t :: ts, l, ds => ∃ l1 l2 d ds', l = l1 ++ l2 ∧ ds = d :: ds' ∧ R t l1 d ∧ rdAll R ts l2 ds'

/-- What cells read as. -/
def ARd (P : Program) (A : St) : Nat → TypeId → List AV → DataW H → Prop
  | 0, _, _, _ => False
  | n + 1, t, l, d => match P.underlying t with
    | some .bool => ∃ b, l = [.bool b] ∧ d = .lit (.bool b)
    | some (.int k) => ∃ i, l = [.int k i] ∧ (Lit.int k i).wf = true ∧ d = .lit (.int k i)
    | some .string => ∃ s, l = [.str s] ∧ s.length ≤ maxLen ∧ d = .lit (.string s)
    | some (.slice e) => (l = [.slice none 0 0 0 0] ∧ d = .nil) ∨ (∃ k, l = [.slice none k 0 0 1] ∧ d = .slice [] []) ∨
      ∃ f len cap cs ds sp, l = [.slice (some (f, 0, 0)) 0 len cap 0] ∧ f < A.next ∧ 0 < cap ∧ cap ≤ maxLen ∧ A.get f = some (.cells cs [⟨0, 0, cs.length, P.cellsOf e⟩] 1 true) ∧
        d = .slice ds sp ∧ ds.length = len ∧ (ds ++ sp).length = cap ∧ cs.length = cap * P.cellsOf e ∧ rdAll (ARd P A n) (List.replicate cap e) cs (ds ++ sp)
    | some (.struct fs) => ∃ ds, d = .agg ds ∧ rdAll (ARd P A n) (fs.toList.map (·.type)) l ds
    | _ => False

theorem rdAll.mono {R R' : TypeId → List AV → DataW H → Prop} (h : ∀ t l d, R t l d → R' t l d) : ∀ {ts : List TypeId} {l : List AV} {ds : List (DataW H)}, rdAll R ts l ds → rdAll R' ts l ds
  | [], _, _, e => e
  | t :: ts, _, _, ⟨l1, l2, d, ds', h1, h2, h3, h4⟩ => ⟨l1, l2, d, ds', h1, h2, h _ _ _ h3, h4.mono h⟩

theorem ARd.ext {P : Program} {A B : St} (h : A.Ext B) : ∀ {n : Nat} {t : TypeId} {l : List AV} {d : DataW H}, ARd P A n t l d → ARd P B n t l d
  | 0, _, _, _, e => e
  | n + 1, t, l, d, e => by
    unfold ARd at *
    split at e
    · exact e
    · exact e
    · exact e
    · rcases e with e | e | ⟨f, len, cap, cs, ds, sp, h1, h2, h3, h4, h5, h6, h7, h8, h9, h10⟩
      · exact .inl e
      · exact .inr (.inl e)
      · exact .inr (.inr ⟨f, len, cap, cs, ds, sp, h1, Nat.lt_of_lt_of_le h2 h.next, h3, h4, (h.get f h2).trans h5, h6, h7, h8, h9, h10.mono fun _ _ _ => ARd.ext h⟩)
    · obtain ⟨ds, h1, h2⟩ := e
      exact ⟨ds, h1, h2.mono fun _ _ _ => ARd.ext h⟩
    · exact e
end

/-! ### The import -/
section
variable {H : Type} {enc : TypeId × Value → H} {P : Program} {W : World}

structure Imp (W : World) (m : Mu) (A : St) (m' : Mu) (A' : St) : Prop where
  le : m.le m'
  ext : A.Ext A'
  inp : Inp W m' A'

def trodAt (enc : TypeId × Value → H) (P : Program) (W : World) (n : Nat) : List TypeId → List (List Value) → List (DataW H) → Prop
  | [], [], [] => True
  | t :: ts, c :: cs, d :: ds => (∃ p, DataW.trod enc P W 0 (fun _ => true) true n t c = some (d, p)) ∧ trodAt enc P W n ts cs ds
  | _, _, _ => False

/-- Types of which a call's arguments may be. -/
def argOk (P : Program) : Nat → TypeId → Bool
  | 0, _ => false
  | k + 1, t => match P.underlying t with
    | some .bool | some (.int _) | some .string => true
    | some (.slice e) => decide (0 < P.cellsOf e) && argOk P k e
    | some (.struct fs) => fs.toList.all (fun f => argOk P k f.type) && P.cellsOf t == (fs.toList.map fun f => P.cellsOf f.type).sum &&
      (List.range fs.toList.length).all fun j => match fs.toList[j]? with | some f => f.offset == ((fs.toList.take j).map fun f => P.cellsOf f.type).sum | none => true
    | _ => false

theorem imp_all' (k n : Nat) (one : ∀ t, argOk P k t = true → ∀ cs d p, DataW.trod enc P W 0 (fun _ => true) true n t cs = some (d, p) → ∀ m A, Inp W m A → ∃ m' A' l, Imp W m A m' A' ∧ cvos m' l = some cs ∧ ARd P A' n t l d) :
    ∀ (ts : List TypeId) (css : List (List Value)) (ds : List (DataW H)), (∀ t ∈ ts, argOk P k t = true) → trodAt enc P W n ts css ds → ∀ m A, Inp W m A → ∃ m' A' l, Imp W m A m' A' ∧ cvos m' l = some css.flatten ∧ rdAll (ARd P A' n) ts l ds
  | [], [], [], _, _, m, A, I => ⟨m, A, [], ⟨Mu.le_refl m, St.Ext.refl A, I⟩, rfl, rfl, rfl⟩
  | t :: ts, c :: cs, d :: ds, ha, ⟨⟨p, h⟩, hs⟩, m, A, I => by
    obtain ⟨m1, A1, l1, i1, c1, r1⟩ := one t (ha t (by simp)) c d p h m A I
    obtain ⟨m2, A2, l2, i2, c2, r2⟩ := imp_all' k n one ts cs ds (fun t ht => ha t (by simp [ht])) hs m1 A1 i1.inp
    exact ⟨m2, A2, l1 ++ l2, ⟨Mu.le_trans i1.le i2.le, i1.ext.trans i2.ext, i2.inp⟩, by simpa using cvos_append (cvos_mono i2.le _ _ c1) c2, l1, l2, d, ds, rfl, rfl, r1.ext i2.ext, r2⟩
  | [], _ :: _, _, _, h, _, _, _ => h.elim
  | [], [], _ :: _, _, h, _, _, _ => h.elim
  | _ :: _, [], _, _, h, _, _, _ => h.elim
  | _ :: _, _ :: _, [], _, h, _, _, _ => h.elim

def cutBy : List Nat → List Value → List (List Value)
  | [], _ => []
  | n :: ns, cs => cs.take n :: cutBy ns (cs.drop n)
theorem cutBy_flatten : ∀ (ns : List Nat) (cs : List Value), cs.length = ns.sum → (cutBy ns cs).flatten = cs
  | [], cs, h => by simp at h; simp [cutBy, h]
  | n :: ns, cs, h => by
    simp only [List.sum_cons] at h
    simp only [cutBy, List.flatten_cons]
    rw [cutBy_flatten ns (cs.drop n) (by simp; omega), List.take_append_drop]

theorem trodAt_fields {n : Nat} {cs : List Value} : ∀ (fs : List Field) (off : Nat) (xs : List (DataW H × List MemPlace)), (∀ (i : Nat) (f : Field), fs[i]? = some f → DataW.trod enc P W 0 (fun _ => true) true n f.type ((cs.drop f.offset).take (P.cellsOf f.type)) = xs[i]?) → xs.length = fs.length →
    (∀ (i : Nat) (f : Field), fs[i]? = some f → f.offset = off + ((fs.take i).map fun f => P.cellsOf f.type).sum) →
    trodAt enc P W n (fs.map (·.type)) (cutBy (fs.map fun f => P.cellsOf f.type) (cs.drop off)) (xs.map (·.1))
  | [], off, xs, h, hl, ho => by
    have : xs = [] := by simpa using hl
    subst this
    trivial
  | f :: fs, off, [], h, hl, ho => by simp at hl
  | f :: fs, off, x :: xs, h, hl, ho => by
    have h0 := h 0 f rfl
    have o0 := ho 0 f rfl
    simp at o0
    refine ⟨⟨x.2, ?_⟩, ?_⟩
    · rw [o0] at h0; simpa using h0
    · show trodAt enc P W n (fs.map (·.type)) (cutBy (fs.map fun f => P.cellsOf f.type) ((cs.drop off).drop (P.cellsOf f.type))) (xs.map (·.1))
      rw [List.drop_drop]
      refine trodAt_fields fs (off + P.cellsOf f.type) xs (fun i g hg => ?_) (by simpa using hl) fun i g hg => ?_
      · have := h (i + 1) g (by simpa using hg)
        simpa using this
      · have := ho (i + 1) g (by simpa using hg)
        simp only [List.take_succ_cons, List.map_cons, List.sum_cons] at this
        omega

theorem trodAt_elems {n : Nat} {e : TypeId} {g : Nat → Option (List Value)} : ∀ (xs : List (DataW H × List MemPlace)) (k : Nat), (∀ i, i < xs.length → (g (k + i)).bind (DataW.trod enc P W 0 (fun _ => true) true n e) = xs[i]?) →
    ∃ css : List (List Value), css.length = xs.length ∧ (∀ i, i < xs.length → g (k + i) = css[i]?) ∧ trodAt enc P W n (List.replicate xs.length e) css (xs.map (·.1))
  | [], k, h => ⟨[], rfl, fun i hi => by simp at hi, trivial⟩
  | x :: xs, k, h => by
    have h0 := h 0 (by simp)
    simp only [Nat.add_zero, List.getElem?_cons_zero] at h0
    obtain ⟨c, hc, hx⟩ := Option.bind_eq_some_iff.1 h0
    obtain ⟨css, e1, e2, e3⟩ := trodAt_elems xs (k + 1) (fun i hi => by
      have := h (i + 1) (by simp; omega)
      rw [show k + 1 + i = k + (i + 1) by omega]
      simpa using this)
    refine ⟨c :: css, by simp [e1], fun i hi => ?_, ?_⟩
    · cases i with
      | zero => simpa using hc
      | succ i =>
        have := e2 i (by simpa using hi)
        rw [show k + (i + 1) = k + 1 + i by omega]
        simpa using this
    · exact ⟨⟨x.2, hx⟩, e3⟩

theorem flatten_get {α : Type} {sz : Nat} (hsz : 0 < sz) : ∀ (l : List (List α)), (∀ x ∈ l, x.length = sz) → ∀ i, l.flatten[i]? = (l[i / sz]?).bind (·[i % sz]?)
  | [], _, i => by simp
  | x :: l, h, i => by
    have hx := h x (by simp)
    simp only [List.flatten_cons]
    by_cases hi : i < sz
    · rw [List.getElem?_append_left (by omega), Nat.div_eq_of_lt hi, Nat.mod_eq_of_lt hi]
      simp
    · rw [List.getElem?_append_right (by omega), flatten_get hsz l (fun y hy => h y (by simp [hy])), hx]
      have e1 : i / sz = (i - sz) / sz + 1 := by
        have := Nat.add_div_right (i - sz) hsz
        rw [Nat.sub_add_cancel (by omega)] at this
        exact this
      have e2 : i % sz = (i - sz) % sz := by rw [Nat.mod_eq_sub_mod (by omega)]
      rw [e1, e2]
      simp

theorem imp_one : ∀ (k n : Nat) (t : TypeId), argOk P k t = true → ∀ (cs : List Value) (d : DataW H) (p : List MemPlace), DataW.trod enc P W 0 (fun _ => true) true n t cs = some (d, p) → ∀ m A, Inp W m A → ∃ m' A' l, Imp W m A m' A' ∧ cvos m' l = some cs ∧ ARd P A' n t l d
  | 0, _, _, h, _, _, _, _, _, _, _ => by cases h
  | k + 1, n, t, h, cs, d, p, ht, m, A, I => by
    have stay : Imp W m A m A := ⟨Mu.le_refl m, St.Ext.refl A, I⟩
    cases n with
    | zero => simp [DataW.trod] at ht
    | succ n =>
    unfold argOk at h
    split at h
    · rename_i hu
      obtain ⟨b, rfl, hx⟩ := DataW.trod_bool hu ht
      cases hx
      exact ⟨m, A, [.bool b], stay, rfl, by unfold ARd; rw [hu]; exact ⟨b, rfl, rfl⟩⟩
    · rename_i kd hu
      obtain ⟨i, rfl, hx, hw⟩ := DataW.trod_int hu ht
      cases hx
      exact ⟨m, A, [.int kd i], stay, rfl, by unfold ARd; rw [hu]; exact ⟨i, rfl, hw, rfl⟩⟩
    · rename_i hu
      obtain ⟨s, rfl, hx, hs⟩ := DataW.trod_string hu ht
      cases hx
      exact ⟨m, A, [.str s.data.toList], stay, rfl, by unfold ARd; rw [hu]; exact ⟨s.data.toList, rfl, hs, rfl⟩⟩
    · rename_i e hu
      simp only [Bool.and_eq_true, decide_eq_true_eq] at h
      obtain ⟨hsz, hk⟩ := h
      rcases DataW.trod_slice hu ht with ⟨rfl, hx⟩ | ⟨a, len, cap, elems, rest, n', hn, rfl, hx, _, hl, hm, hlen, hel, hsp, _⟩
      · cases hx
        exact ⟨m, A, [.slice none 0 0 0 0], stay, rfl, by unfold ARd; rw [hu]; exact .inl ⟨rfl, rfl⟩⟩
      · cases hn
        cases hx
        obtain ⟨hrl, hrest⟩ := hsp rfl
        by_cases hc0 : cap = 0
        · subst hc0
          have hl0 : len = 0 := by omega
          subst hl0
          have e1 : elems = [] := by simpa using hlen
          have e2 : rest = [] := by simpa using hrl
          subst e1; subst e2
          obtain ⟨hle, I'⟩ := I.ghost a
          refine ⟨_, _, [.slice none A.next 0 0 1], ⟨hle, ext_push _ _, I'⟩, ?_, by unfold ARd; rw [hu]; exact .inr (.inl ⟨A.next, rfl, rfl⟩)⟩
          have hg : (m.addG A.next a).gho A.next = some a := by show (if A.next = A.next then _ else _) = _; rw [if_pos rfl]
          simp [cvos, cvo, hg]
        · have hall : ∀ i, i < (elems ++ rest).length → ((fun i => W.cells? 0 (a.add (i * P.cellsOf e)) (P.cellsOf e)) (0 + i)).bind (DataW.trod enc P W 0 (fun _ => true) true n e) = (elems ++ rest)[i]? := by
            intro i hi
            simp only [Nat.zero_add]
            by_cases hi' : i < len
            · rw [hel i hi', List.getElem?_append_left (by omega)]
            · rw [List.length_append, hlen, hrl] at hi
              have := hrest (i - len) (by omega)
              rw [show len + (i - len) = i by omega] at this
              rw [this, List.getElem?_append_right (by omega), hlen]
          obtain ⟨css, c1, c2, c3⟩ := trodAt_elems (g := fun i => W.cells? 0 (a.add (i * P.cellsOf e)) (P.cellsOf e)) (elems ++ rest) 0 hall
          have hcap : (elems ++ rest).length = cap := by rw [List.length_append, hlen, hrl]; omega
          obtain ⟨m1, A1, l, i1, v1, r1⟩ := imp_all' k n (imp_one k n) _ css _ (by
            intro t ht
            rw [List.mem_replicate] at ht
            rw [ht.2]; exact hk) c3 m A I
          have hcell : ∀ i c, css[i]? = some c → c.length = P.cellsOf e ∧ ∀ j, j < P.cellsOf e → W.cell? ((a.add (i * P.cellsOf e)).add j) = c[j]? := by
            intro i c hc
            have hi : i < (elems ++ rest).length := by
              have := (List.getElem?_eq_some_iff.1 hc).1
              omega
            have := c2 i hi
            simp only [Nat.zero_add] at this
            rw [hc] at this
            obtain ⟨_, h1, h2⟩ := World.cells?_some this
            exact ⟨h1, h2⟩
          have hlens : ∀ x ∈ css, x.length = P.cellsOf e := fun x hx => by
            obtain ⟨i, hi⟩ := List.mem_iff_getElem?.1 hx
            exact (hcell i x hi).1
          have hfl : css.flatten.length = cap * P.cellsOf e := by
            rw [List.length_flatten, show css.map List.length = List.replicate css.length (P.cellsOf e) from List.eq_replicate_iff.2 ⟨by simp, fun b hb => by
              obtain ⟨x, hx, rfl⟩ := List.mem_map.1 hb
              exact hlens x hx⟩]
            simp [c1, hcap, hrl, hlen]
          have hcells : ∀ i y, css.flatten[i]? = some y → W.cell? ((a.add (i / P.cellsOf e * P.cellsOf e)).add (i % P.cellsOf e)) = some y := by
            intro i y hy
            rw [flatten_get hsz css hlens i] at hy
            obtain ⟨c, hc, hj⟩ := Option.bind_eq_some_iff.1 hy
            rw [(hcell _ c hc).2 _ (Nat.mod_lt _ hsz), hj]
          have h0 : ∃ y, css.flatten[0]? = some y := by
            have : 0 < css.flatten.length := by rw [hfl]; exact Nat.mul_pos (by omega) hsz
            exact ⟨_, List.getElem?_eq_getElem this⟩
          obtain ⟨y0, hy0⟩ := h0
          have hspot : a.spot = none ∧ a.block < W.heap.size := by
            have := hcells 0 y0 hy0
            simp only [Nat.zero_div, Nat.zero_mul, Nat.zero_mod] at this
            have e0 : (a.add 0).add 0 = a := by simp [Addr.add]
            rw [e0] at this
            exact ⟨World.cell?_spot this, World.block_lt_of_cell? W _ this⟩
          obtain ⟨ab, ao, as⟩ := a
          obtain ⟨rfl, hb⟩ := hspot
          have hcell' : ∀ i y, css.flatten[i]? = some y → W.cell? ⟨ab, ao + i, none⟩ = some y := by
            intro i y hy
            have := hcells i y hy
            rw [Addr.add_mk, Addr.add_mk] at this
            rw [← this, show ao + i / P.cellsOf e * P.cellsOf e + i % P.cellsOf e = ao + i by
              have := Nat.div_add_mod i (P.cellsOf e)
              rw [Nat.mul_comm] at this
              omega]
          obtain ⟨hle, I'⟩ := i1.inp.push (cs := l) v1 (cb := ab) (co := ao) (sz := P.cellsOf e) (cap := cap) hb hcell'
          refine ⟨_, _, [.slice (some (A1.next, 0, 0)) 0 len cap 0], ⟨Mu.le_trans i1.le hle, i1.ext.trans (ext_push _ _), I'⟩, ?_, ?_⟩
          · have hp : plc (m1.add A1.next 0 ⟨ab, ao, 0, cap, P.cellsOf e⟩) (A1.next, 0, 0) = some ⟨ab, ao, none⟩ := by
              unfold plc
              have : (m1.add A1.next 0 ⟨ab, ao, 0, cap, P.cellsOf e⟩) A1.next 0 = some ⟨ab, ao, 0, cap, P.cellsOf e⟩ := by
                show (if A1.next = A1.next ∧ 0 = 0 then _ else _) = _
                rw [if_pos ⟨rfl, rfl⟩]
              simp [this]
            simp [cvos, cvo, hp, hl]
          · unfold ARd
            rw [hu]
            refine .inr (.inr ⟨A1.next, len, cap, l, elems.map (·.1), rest.map (·.1), rfl, Nat.lt_succ_self _, by omega, hm, ?_, rfl, by simpa using hlen, ?_, ?_, ?_⟩)
            · rw [St.get_push, if_pos rfl]
            · rw [← List.map_append, List.length_map, hcap]
            · rw [← cvos_length v1, hfl]
            · rw [← List.map_append, ← hcap]
              exact r1.mono fun _ _ _ => ARd.ext (ext_push _ _)
    · rename_i fs hu
      simp only [Bool.and_eq_true, List.all_eq_true, beq_iff_eq, List.mem_range] at h
      obtain ⟨⟨hk, hsum⟩, hoff⟩ := h
      obtain ⟨xs, n', hn, hx, hl, hxl, hf⟩ := DataW.trod_struct hu ht
      cases hn
      cases hx
      have T := trodAt_fields (cs := cs) fs.toList 0 xs (fun i f hi => hf i f (by simpa using hi)) (by simpa using hxl) (fun i f hi => by
        have hlt := (List.getElem?_eq_some_iff.1 hi).1
        have := hoff i hlt
        rw [hi] at this
        simpa using this)
      simp only [List.drop_zero] at T
      obtain ⟨m1, A1, l, i1, v1, r1⟩ := imp_all' k n (imp_one k n) _ _ _ (by
        intro t ht
        obtain ⟨f, hf, rfl⟩ := List.mem_map.1 ht
        exact hk f hf) T m A I
      rw [cutBy_flatten _ _ (by rw [hl, hsum])] at v1
      exact ⟨m1, A1, l, i1, v1, by unfold ARd; rw [hu]; exact ⟨_, rfl, r1⟩⟩
    · cases h

/-! ### A call's arguments -/

/-- An argument reads as this. -/
def ARdV (P : Program) (A : St) (t : TypeId) (a : AV) (d : DataW H) : Prop :=
  ∃ n l, ARd P A n t l d ∧ (match P.underlying t with | some (.struct _) => a = .agg l | _ => l = [a])
def argsRd (P : Program) (A : St) : List TypeId → List AV → List (DataW H) → Prop
  | [], [], [] => True
  | t :: ts, a :: as, d :: ds => ARdV P A t a d ∧ argsRd P A ts as ds
  | _, _, _ => False

theorem imp_arg {k : Nat} {t : TypeId} (hk : argOk P k t = true) {base : Nat} {v : Value} {d : DataW H} {p : List MemPlace} (hv : Value.okWide P W .any base t v) (h : DataW.Trod enc P W 0 (fun _ => true) true t v d p) {m : Mu} {A : St} (I : Inp W m A) :
    ∃ m' A' a, Imp W m A m' A' ∧ cvo m' a = some v ∧ ARdV P A' t a d := by
  obtain ⟨n, hn⟩ := h
  obtain ⟨m1, A1, l, i1, v1, r1⟩ := imp_one k n t hk _ _ _ hn m A I
  have flat : ∀ (hv' : v.cells = #[v]) (hu : ∀ fs, P.underlying t ≠ some (.struct fs)), ∃ m' A' a, Imp W m A m' A' ∧ cvo m' a = some v ∧ ARdV P A' t a d := fun hv' hu => by
    rw [hv'] at v1
    cases l with
    | nil => simp [cvos] at v1
    | cons a l =>
      have hl := cvos_length v1
      simp at hl
      subst hl
      refine ⟨m1, A1, a, i1, ?_, n, [a], r1, ?_⟩
      · simp only [cvos] at v1
        split at v1
        · rename_i y ys h1 h2
          simp at v1
          rw [← v1.1]; exact h1
        · cases v1
      · split
        · rename_i fs hfs; exact absurd hfs (hu fs)
        · rfl
  cases k with
  | zero => cases hk
  | succ k =>
  unfold argOk at hk
  split at hk
  · rename_i hu
    obtain ⟨b, rfl⟩ := WideShapes.okWide_bool hu hv
    exact flat rfl (fun fs h => by rw [hu] at h; cases h)
  · rename_i kd hu
    obtain ⟨b, rfl⟩ := WideShapes.okWide_int hu hv
    exact flat rfl (fun fs h => by rw [hu] at h; cases h)
  · rename_i hu
    obtain ⟨b, rfl⟩ := WideShapes.okWide_string hu hv
    exact flat rfl (fun fs h => by rw [hu] at h; cases h)
  · rename_i e hu
    obtain ⟨a, len, cap, rfl⟩ := WideShapes.okWide_slice hu hv
    exact flat rfl (fun fs h => by rw [hu] at h; cases h)
  · rename_i fs hu
    simp only [Value.okWide, hu] at hv
    obtain ⟨cs, rfl, _, _⟩ := hv
    refine ⟨m1, A1, .agg l, i1, ?_, n, l, r1, by rw [hu]⟩
    have v1' : cvos m1 l = some cs.toList := v1
    simp [cvo, v1']
  · cases hk

theorem ARdV.ext {A B : St} (h : A.Ext B) {t : TypeId} {a : AV} {d : DataW H} : ARdV P A t a d → ARdV P B t a d := fun ⟨n, l, h1, h2⟩ => ⟨n, l, h1.ext h, h2⟩

theorem imp_args {k : Nat} : ∀ {ts : List TypeId} {vs : List Value} {ds : List (DataW H)} {ps : List MemPlace}, (∀ t ∈ ts, argOk P k t = true) → (∀ (j : Nat) t v, ts[j]? = some t → vs[j]? = some v → ∃ base, Value.okWide P W .any base t v) →
    DataW.TrodAll enc P W 0 (fun _ => true) true ts vs ds ps → ∀ {m : Mu} {A : St}, Inp W m A → ∃ m' A' as, Imp W m A m' A' ∧ cvos m' as = some vs ∧ argsRd P A' ts as ds
  | [], [], [], _, _, _, _, m, A, I => ⟨m, A, [], ⟨Mu.le_refl m, St.Ext.refl A, I⟩, rfl, trivial⟩
  | t :: ts, v :: vs, d :: ds, _, hk, hv, ⟨p, q, h, hs, _⟩, m, A, I => by
    obtain ⟨base, hb⟩ := hv 0 t v rfl rfl
    obtain ⟨m1, A1, a, i1, v1, r1⟩ := imp_arg (hk t (by simp)) hb h I
    obtain ⟨m2, A2, as, i2, v2, r2⟩ := imp_args (ts := ts) (fun t ht => hk t (by simp [ht])) (fun j t' v' h1 h2 => hv (j + 1) t' v' (by simpa using h1) (by simpa using h2)) hs i1.inp
    exact ⟨m2, A2, a :: as, ⟨Mu.le_trans i1.le i2.le, i1.ext.trans i2.ext, i2.inp⟩, by simp [cvos, cvo_mono i2.le _ _ v1, v2], r1.ext i2.ext, r2⟩
  | [], [], _ :: _, _, _, _, h, _, _, _ => h.elim
  | [], _ :: _, _, _, _, _, h, _, _, _ => h.elim
  | _ :: _, [], _, _, _, _, h, _, _, _ => h.elim
  | _ :: _, _ :: _, [], _, _, _, h, _, _, _ => h.elim

theorem trodAll_stays (hl : laidOutB P = true) {w' : World} (same : ∀ (i : Nat) (o : Obj), W.heap[i]? = some o → w'.heap[i]? = some o) : ∀ {ts : List TypeId} {vs : List Value} {ds : List (DataW H)} {ps : List MemPlace}, (∀ t ∈ ts, P.readableRec t = true ∧ t < P.types.size) →
    DataW.TrodAll enc P W 0 (fun _ => true) true ts vs ds ps → (∀ p ∈ ps, p.block < W.heap.size) → DataW.TrodAll enc P w' 0 (fun b => decide (b < W.heap.size)) true ts vs ds ps
  | [], [], [], _, _, h, _ => h
  | t :: ts, v :: vs, d :: ds, _, hr, ⟨p, q, h, hs, rfl⟩, hlt => by
    have hb : ∀ i, i < W.heap.size → w'.heap[i]? = W.heap[i]? := fun i hi => by
      have e : W.heap[i]? = some W.heap[i] := Array.getElem?_eq_getElem hi
      rw [e]; exact same i _ e
    refine ⟨p, q, WideElems.Trod_stays hl (hr t (by simp)).1 (hr t (by simp)).2 h (fun x hx => ?_) (fun x hx => by simpa using hlt x (by simp [hx])), trodAll_stays hl same (fun t ht => hr t (by simp [ht])) hs (fun x hx => hlt x (by simp [hx])), rfl⟩
    have hx' := hlt x (by simp [hx])
    cases x with
    | cell b o => exact World.cell?_of_block (w := W) (hb b hx')
    | map b => exact hb b hx'
  | [], [], _ :: _, _, _, h, _ => h.elim
  | [], _ :: _, _, _, _, h, _ => h.elim
  | _ :: _, [], _, _, _, h, _ => h.elim
  | _ :: _, _ :: _, [], _, _, h, _ => h.elim

/-- A law that comes to true, whatever it is told, in the row's own words. -/
theorem law_calls (hmx : P.follows .mixedOrders = true) {D : Disp} {G0 : Env} (hp : PgOk (muNone P) P) (hb : BaseOk (muNone P) G0) {fns : Nat → Option AFn} (hfns : ∀ f afn, fns f = some afn → ∃ fn, P.funcs[f]? = some fn ∧ compFn P fn = some afn ∧ fn.name ≠ "runtime.NumGoroutine") {X : Calls'} (hX : GSound P (muNone P) X)
    (hl : laidOutB P = true) {f : FuncId} {fn : Func} {s : ChangeSpec} {t : TypeId} (hvars : s.vars = []) (hres : fn.resultTypes = #[t]) (ht : P.underlying t = some .bool) {k : Nat} (hpar : ∀ t ∈ fn.params.toList, argOk P k t = true ∧ P.readableRec t = true ∧ t < P.types.size)
    {base : Nat} {args : Array Value} {ds gs : List (DataW H)} {before : List MemPlace} (hval : ∀ (j : Nat) t v, fn.params[j]? = some t → args[j]? = some v → Value.okWide P W .any base t v)
    (hW : DataW.Whole enc P fn.params.toList s.vars false W args.toList ds gs before) (hs : s.fn H (ds ++ gs) = { results := [.lit (.bool true)], args := ds })
    (law : ∀ A as, argsRd P A fn.params.toList as ds → Ev D G0 fns X f as A fun r _ => r = .bool true) (hff : ∃ afn, fns f = some afn := by exact ⟨_, rfl⟩) :
    Calls P f args W fun e W' => ∃ v, e = .returned v ∧ s.post enc P fn false true false false W args v W' := by
  have hW' := hW
  obtain ⟨p, q, hA, hV, rfl, hz, hn⟩ := hW
  obtain ⟨m, A, as, i, va, ra⟩ := imp_args (fun t ht => (hpar t ht).1) (fun j t v h1 h2 => ⟨base, hval j t v (by simpa using h1) (by simpa using h2)⟩) hA (inp_none P W)
  obtain ⟨n, r, B, hcall, rfl⟩ := law A as ra
  have hc := calls_ok hmx hp hb hfns hX hff hcall i.le i.inp.rel va
  have hc' : Calls P f args W fun e w' => ∃ c m', e = .returned c ∧ m.le m' ∧ Rel (frameOf W) m' B w' ∧ cvo m' (.bool true) = some c := by
    have e : args.toList.toArray = args := by simp
    rw [e] at hc
    exact hc
  refine hc'.mono fun e W' ⟨c, m', h1, _, R, h2⟩ => ?_
  cases h2
  refine ⟨_, h1, ds, gs, p ++ q, [], p, q, hW', ?_, ?_, ?_, ?_, fun h => by cases h⟩
  · rw [hs, hres]
    refine ⟨[], [], ⟨1, ?_⟩, rfl, rfl⟩
    simp [DataW.trod, ht, Value.cells]
  · rw [hs]
    exact trodAll_stays hl R.keep (fun t ht => (hpar t ht).2) hA (fun x hx => hW'.lt x (by simp [hx]))
  · rw [hs]
    rw [hvars] at hV ⊢
    cases gs with
    | nil => exact hV
    | cons g gs => exact hV.elim
  · refine ⟨R.rest.1, R.rest.2, fun j hj => ?_⟩
    have e : W.heap[j]? = some W.heap[j] := Array.getElem?_eq_getElem hj
    rw [R.keep j _ e, e]
    cases W.heap[j] <;> simp
end
end Go.AM
