/- The abstract machine: its heap and a world's. -/
import Derived.Test.YtejlhgcheaimjaaGreatDoorAmComp
namespace Go.AM
set_option linter.unusedVariables false
set_option linter.unusedSimpArgs false

def Blk.ro : Blk → Bool
  | .cells _ _ _ ro => ro
  | _ => false
def St.Rw (A : St) (f : Nat) : Prop := ∃ b, A.get f = some b ∧ b.ro = false

/-- What nobody touches: blocks; and what there is besides memory. -/
structure Fr where
  b : Nat → Option Obj
  os : Os
  out : Array (Nat × ByteArray)
instance : CoeFun Fr (fun _ => Nat → Option Obj) := ⟨Fr.b⟩

structure CellsR (F : Fr) (m : Mu) (w : World) (f : Nat) (cs : List AV) (ro : Bool) (x : Ver) (l : Loc) : Prop where
  mu : m f x.v = some l
  lo : l.lo = x.lo
  sz : l.sz = x.sz
  hi : x.hi ≤ cs.length
  cell : ∀ i a, x.lo ≤ i → i < x.hi → cs[i]? = some a → ∃ y, cvo m a = some y ∧ w.cell? ⟨l.cb, l.co + (i - x.lo), none⟩ = some y
  rw : ro = false → F l.cb = none ∧ x.hi - x.lo ≤ l.cap * l.sz ∧ ∀ j, j < l.cap * l.sz → (w.cell? ⟨l.cb, l.co + j, none⟩).isSome = true ∧ w.frozen? ⟨l.cb, l.co + j, none⟩ = false

def MapR (m : Mu) : List (AV × AV × Nat) → List MapEntry → Prop
  | [], [] => True
  | (k, v, b) :: l, e :: r => (cvo m k = some e.key ∧ cvo m v = some e.val ∧ e.born = b) ∧ MapR m l r
  | _, _ => False

/-- How a round has left, as code. -/
def Ex.code : Ex → Code
  | .normal => .skip
  | .exit id => .exit id
  | .ret => .ret
/-- The record of a range over a function. -/
structure LoopR (m : Mu) (r : LoopA) (lr : Loop) : Prop where
  tmp : ∀ t, t < 1000000 → Env.at r.E t = .bot ∨ cvo m (Env.at r.E t) = some (lr.tmps.getD t undef)
  glob : ∀ g, Env.at r.E (1000000 + g) = .bot ∨ cvo m (Env.at r.E (1000000 + g)) = some (.pointer (some ⟨g, 0, none⟩))
  size : lr.tmps.size = r.n
  ps : lr.params.toList = r.ps
  lt : ∀ p ∈ r.ps, p < r.n ∧ p < 1000000
  ca : comp m.pg r.n lr.assign = some r.a
  cb : comp m.pg r.n lr.body = some r.b
  na : r.a.noRF = true
  nb : r.b.noRF = true
  st : lr.state = (if r.st = 0 then .ready else if r.st = 1 then .busy else .done)
  pend : lr.pending = r.pend.map Ex.code
theorem LoopR.mono {m m' : Mu} (h : m.le m') {r : LoopA} {lr : Loop} (l : LoopR m r lr) : LoopR m' r lr :=
  ⟨fun t ht => (l.tmp t ht).imp id fun e => cvo_mono h _ _ e, fun g => (l.glob g).imp id fun e => cvo_mono h _ _ e, l.size, l.ps, l.lt, by rw [h.pg]; exact l.ca, by rw [h.pg]; exact l.cb, l.na, l.nb, l.st, l.pend⟩

def ItrR (m : Mu) : Itr → Obj → Prop
  | .str s pos, ob => ob = .stringIter ⟨s.toArray⟩ pos
  | .map none since seen last, ob => ob = .mapIter none since seen.toArray last
  | .map (some g) since seen last, ob => ∃ l, m g 0 = some l ∧ ob = .mapIter (some l.cb) since seen.toArray last
  | .loop r, ob => ∃ lr, ob = .loop lr ∧ LoopR m r lr
  | .gone, ob => ∃ lr, ob = .loop lr
theorem ItrR.mono {m m' : Mu} (h : m.le m') : ∀ {o : Itr} {ob : Obj}, ItrR m o ob → ItrR m' o ob
  | .str _ _, _, e => e
  | .map none _ _ _, _, e => e
  | .map (some _) _ _ _, _, ⟨l, e1, e2⟩ => ⟨l, h.loc _ _ _ e1, e2⟩
  | .loop _, _, ⟨lr, e1, e2⟩ => ⟨lr, e1, e2.mono h⟩
  | .gone, _, e => e
theorem ItrR.notCells {m : Mu} : ∀ {o : Itr} {ob : Obj}, ItrR m o ob → ∀ c e fz, ob ≠ .cells c e fz
  | .str _ _, _, e, _, _, _ => by cases e; intro h; cases h
  | .map none _ _ _, _, e, _, _, _ => by cases e; intro h; cases h
  | .map (some _) _ _ _, _, ⟨l, e1, e2⟩, _, _, _ => by subst e2; intro h; cases h
  | .loop _, _, ⟨_, e, _⟩, _, _, _ => by subst e; intro h; cases h
  | .gone, _, ⟨_, e⟩, _, _, _ => by subst e; intro h; cases h

def blkR (F : Fr) (m : Mu) (w : World) (f : Nat) : Blk → Prop
  | .cells cs vers nv ro => (∀ x ∈ vers, ∃ l, CellsR F m w f cs ro x l) ∧ ∀ v, nv ≤ v → m f v = none
  | .map es clock => ∃ l es', m f 0 = some l ∧ w.heap[l.cb]? = some (.map es' clock) ∧ F l.cb = none ∧ MapR m es es'.toList
  | .iter o => ∃ l ob, (m f 0 = some l ∧ l.co = 0) ∧ w.heap[l.cb]? = some ob ∧ F l.cb = none ∧ ItrR m o ob

/-- No cell of a block is frozen: at most what lies behind them. -/
def Unfz (v : Nat) (w : World) (cb : Nat) : Prop := ∀ c e fz, w.heap[cb]? = some (.cells c e fz) → fz.1 = fz.2 ∨ (v ≠ 0 ∧ c.size ≤ fz.1)

theorem Unfz.up {v u cb : Nat} {w : World} (h : Unfz v w cb) (hu : u ≠ 0) : Unfz u w cb := fun c e fz hc => (h c e fz hc).imp id fun x => ⟨hu, x.2⟩
/-- What an abstract state says of a world: 'm' tells where its families lie; 'F' are blocks that nobody touches. -/
structure Rel (F : Fr) (m : Mu) (A : St) (w : World) : Prop where
  dom : ∀ f v l, m f v = some l → f < A.next ∧ l.cb < w.heap.size
  got : ∀ f b, A.get f = some b → blkR F m w f b
  keep : ∀ cb o, F cb = some o → w.heap[cb]? = some o
  rest : w.os = F.os ∧ w.output = F.out
  apart : ∀ f v l g u k, m f v = some l → m g u = some k → f ≠ g → A.Rw f → l.cb ≠ k.cb
  unf : ∀ f v l, m f v = some l → A.Rw f → Unfz v w l.cb
  same : ∀ f v l u k, m f v = some l → m f u = some k → l.cb = k.cb → l.co + k.lo = k.co + l.lo
  orig : ∀ f l, m f 0 = some l → A.Rw f → l.co = 0
  frm : ∀ p, p ∈ m.tab → ∃ c e fz, F.b p.1 = some (.cells c e fz) ∧ p.2 c

theorem findVer_spec {v : Nat} : ∀ {vs : List Ver} {x : Ver}, findVer v vs = some x → x ∈ vs ∧ x.v = v
  | [], _, h => by simp [findVer] at h
  | y :: vs, x, h => by
    simp only [findVer] at h
    cases e : Nat.beq y.v v with
    | true => rw [e] at h; simp at h; subst h; exact ⟨by simp, Nat.eq_of_beq_eq_true e⟩
    | false => rw [e] at h; simp at h; have := findVer_spec h; exact ⟨by simp [this.1], this.2⟩

theorem look_spec {A : St} {p : Pl} {cs : List AV} {x : Ver} {nv : Nat} {ro : Bool} (h : A.look p = some (cs, x, nv, ro)) :
    ∃ vers, A.get p.1 = some (.cells cs vers nv ro) ∧ x ∈ vers ∧ x.v = p.2.1 := by
  unfold St.look at h
  split at h
  · rename_i cs' vers nv' ro' hg
    simp only [Option.map_eq_some_iff] at h
    obtain ⟨y, hy, he⟩ := h
    simp only [Prod.mk.injEq] at he
    obtain ⟨rfl, rfl, rfl, rfl⟩ := he
    exact ⟨vers, hg, findVer_spec hy⟩
  · cases h

theorem Addr.add_mk (b o j : Nat) : (⟨b, o, none⟩ : Addr).add j = ⟨b, o + j, none⟩ := by unfold Addr.add; split <;> simp_all

section
variable {F : Fr} {m : Mu} {A : St} {w : World}

/-- A look at a place: where it lies. -/
theorem Rel.look (R : Rel F m A w) {p : Pl} {cs : List AV} {x : Ver} {nv : Nat} {ro : Bool} (h : A.look p = some (cs, x, nv, ro)) (hlo : x.lo ≤ p.2.2) :
    ∃ l, CellsR F m w p.1 cs ro x l ∧ plc m p = some ⟨l.cb, l.co + (p.2.2 - x.lo), none⟩ := by
  obtain ⟨vers, hg, hx, hv⟩ := look_spec h
  obtain ⟨l, c⟩ := (R.got _ _ hg).1 x hx
  refine ⟨l, c, ?_⟩
  have hm := c.mu
  rw [hv] at hm
  unfold plc
  rw [hm]
  dsimp only
  rw [c.lo, if_pos hlo]

theorem cvos_drop_take {cs : List AV} {o n : Nat} (H : ∀ i a, o ≤ i → i < o + n → cs[i]? = some a → ∃ y, cvo m a = some y) : ∃ ys, cvos m ((cs.drop o).take n) = some ys := by
  refine cvos_of_all fun a ha => ?_
  obtain ⟨i, hi⟩ := List.mem_iff_getElem?.1 ha
  rw [List.getElem?_take] at hi
  split at hi
  · rename_i hin
    rw [List.getElem?_drop] at hi
    exact H (o + i) a (by omega) (by omega) hi
  · cases hi

/-- Cells that are read. -/
theorem Rel.cells (R : Rel F m A w) {p : Pl} {n : Nat} {l : List AV} (h : A.cells p n = some l) :
    ∃ b o ys, plc m p = some ⟨b, o, none⟩ ∧ cvos m l = some ys ∧ ys.length = n ∧ ∀ (j : Nat) (y : Value), ys[j]? = some y → w.cell? ⟨b, o + j, none⟩ = some y := by
  unfold St.cells at h
  split at h
  · rename_i cs x nv ro hl
    split at h
    · rename_i hc
      obtain ⟨h1, h2, h3⟩ := hc
      cases h
      obtain ⟨k, c, hp⟩ := R.look hl h1
      have H : ∀ i a, p.2.2 ≤ i → i < p.2.2 + n → cs[i]? = some a → ∃ y, cvo m a = some y := fun i a hi hj ha => by
        obtain ⟨y, hy, _⟩ := c.cell i a (by omega) (by omega) ha; exact ⟨y, hy⟩
      obtain ⟨ys, hys⟩ := cvos_drop_take H
      refine ⟨_, _, ys, hp, hys, ?_, ?_⟩
      · rw [cvos_length hys, List.length_take, List.length_drop]; omega
      · intro j y hy
        obtain ⟨a, ha, hv⟩ := cvos_get' hys hy
        rw [List.getElem?_take] at ha
        split at ha
        · rename_i hj
          rw [List.getElem?_drop] at ha
          obtain ⟨z, hz, hw⟩ := c.cell (p.2.2 + j) a (by omega) (by omega) ha
          rw [hv] at hz; cases hz
          rw [show k.co + (p.2.2 - x.lo) + j = k.co + (p.2.2 + j - x.lo) by omega]
          exact hw
        · cases ha
    · cases h
  · cases h

theorem MapR.mono {m m' : Mu} (h : m.le m') : ∀ {l : List (AV × AV × Nat)} {r : List MapEntry}, MapR m l r → MapR m' l r
  | [], [], _ => trivial
  | (k, v, b) :: l, e :: r, ⟨⟨h1, h2, h3⟩, h4⟩ => ⟨⟨cvo_mono h _ _ h1, cvo_mono h _ _ h2, h3⟩, MapR.mono h h4⟩

theorem Rel.drew (R : Rel F m A w) : Rel F m A w.drew := ⟨R.dom, fun f b h => by
  have := R.got f b h
  cases b with
  | cells cs vers nv ro =>
    refine ⟨fun x hx => ?_, this.2⟩
    obtain ⟨l, c⟩ := this.1 x hx
    exact ⟨l, c.mu, c.lo, c.sz, c.hi, c.cell, c.rw⟩
  | map es cl => exact this
  | iter io => exact this, R.keep, R.rest, R.apart, R.unf, R.same, R.orig, R.frm⟩

/-- The world has one more block: of a family that 'm' may now tell of. -/
theorem Rel.alloc_other (R : Rel F m A w) (o : Obj) : Rel F m A (w.alloc o) := by
  have hold : ∀ cb, cb < w.heap.size → (w.alloc o).heap[cb]? = w.heap[cb]? := fun cb h => by
    show (w.heap.push o)[cb]? = _
    rw [Array.getElem?_push, if_neg (Nat.ne_of_lt h)]
  refine ⟨fun f v l h => ?_, fun f b h => ?_, fun cb x h => ?_, R.rest, R.apart, fun f v l h1 h2 c e fz h3 => R.unf f v l h1 h2 c e fz (by rwa [hold _ (R.dom _ _ _ h1).2] at h3), R.same, R.orig, R.frm⟩
  · have := R.dom f v l h; simp; omega
  · have H := R.got f b h
    cases b with
    | cells cs vers nv ro =>
      refine ⟨fun x hx => ?_, H.2⟩
      obtain ⟨l, c⟩ := H.1 x hx
      have hb := (R.dom _ _ _ c.mu).2
      refine ⟨l, c.mu, c.lo, c.sz, c.hi, fun i a h1 h2 h3 => ?_, fun hr => ?_⟩
      · obtain ⟨y, hy, hw⟩ := c.cell i a h1 h2 h3
        exact ⟨y, hy, by rw [World.cell?_alloc_lt _ _ _ (by simpa using hb)]; exact hw⟩
      · obtain ⟨h1, h2, h3⟩ := c.rw hr
        refine ⟨h1, h2, fun j hj => ?_⟩
        have := h3 j hj
        rw [World.cell?_alloc_lt _ _ _ (by simpa using hb)]
        refine ⟨this.1, ?_⟩
        rw [World.frozen?_of_block (hold _ hb)]; exact this.2
    | map es cl =>
      obtain ⟨l, es', h1, h2, h3, h4⟩ := H
      exact ⟨l, es', h1, by rw [hold _ (R.dom _ _ _ h1).2]; exact h2, h3, h4⟩
    | iter io =>
      obtain ⟨l, ob, h1, h2, h3, h4⟩ := H
      exact ⟨l, ob, h1, by rw [hold _ (R.dom _ _ _ h1.1).2]; exact h2, h3, h4⟩
  · have := R.keep cb x h
    rw [hold _ (by
      rcases Nat.lt_or_ge cb w.heap.size with h' | h'
      · exact h'
      · simp [Array.getElem?_eq_none h'] at this)]
    exact this

/-- A new family over the world's newest block. -/
theorem Rel.new_cellsV (u0 : Nat) (R : Rel F m A w) {cs : List AV} {ys : List Value} (hys : cvos m cs = some ys) {C : Array Value} {e : TypeId} {fz : Nat × Nat} {cap sz : Nat}
    (hC : ∀ (j : Nat) (y : Value), ys[j]? = some y → C[j]? = some y) (hcap : cap * sz ≤ C.size) (hlen : cs.length ≤ cap * sz) (hu : fz.1 = fz.2 ∨ (u0 ≠ 0 ∧ C.size ≤ fz.1)) :
    Rel F (m.add A.next u0 ⟨w.heap.size, 0, 0, cap, sz⟩) (A.push (.cells cs [⟨u0, 0, cs.length, sz⟩] (u0 + 1) false)) (w.alloc (.cells C e fz)) ∧ m.le (m.add A.next u0 ⟨w.heap.size, 0, 0, cap, sz⟩) := by
  have hfz : ∀ j, j < C.size → (decide (fz.1 ≤ j) && decide (j < fz.2)) = false := fun j hj => by
    rw [Bool.and_eq_false_iff, decide_eq_false_iff_not, decide_eq_false_iff_not]; omega
  have hnone : ∀ v, m A.next v = none := fun v => by
    cases h : m A.next v with
    | none => rfl
    | some l => exact absurd (R.dom _ _ _ h).1 (by omega)
  have hle := Mu.le_add ⟨w.heap.size, 0, 0, cap, sz⟩ (hnone u0)
  have R1 := R.alloc_other (.cells C e fz)
  have hF : F w.heap.size = none := by
    cases h : F w.heap.size with
    | none => rfl
    | some o => have := R.keep _ _ h; simp at this
  have hof : ∀ g u k, (m.add A.next u0 ⟨w.heap.size, 0, 0, cap, sz⟩) g u = some k → (g = A.next ∧ u = u0 ∧ k = ⟨w.heap.size, 0, 0, cap, sz⟩) ∨ (g ≠ A.next ∧ m g u = some k) := by
    intro g u k h
    unfold Mu.add at h
    dsimp only at h
    split at h
    · rename_i c; cases h; exact .inl ⟨c.1, c.2, rfl⟩
    · refine .inr ⟨?_, h⟩
      intro hg; subst hg; rw [hnone] at h; cases h
  refine ⟨⟨fun f v l h => ?_, fun f b h => ?_, R1.keep, R1.rest, fun f v l g u k h1 h2 hne hf => ?_, fun f v l h1 h2 => ?_, fun f v l u k h1 h2 he => ?_, fun f l h1 h2 => ?_, R.frm⟩, hle⟩
  · rcases hof f v l h with ⟨rfl, rfl, rfl⟩ | ⟨_, h⟩
    · simp
    · have := R1.dom f v l h; exact ⟨by simp; omega, this.2⟩
  · rw [St.get_push] at h
    split at h
    · rename_i hf
      subst hf
      cases h
      refine ⟨fun x hx => ?_, fun v hv => ?_⟩
      · simp at hx; subst hx
        refine ⟨⟨w.heap.size, 0, 0, cap, sz⟩, by simp [Mu.add], rfl, rfl, Nat.le_refl _, fun i a _ hi ha => ?_, fun _ => ⟨hF, by simpa using hlen, fun j hj => ?_⟩⟩
        · obtain ⟨y, hy, hj⟩ := cvos_get hys ha
          exact ⟨y, cvo_mono hle _ _ hy, by simp [World.cell?_alloc_mark]; exact hC i y hj⟩
        · have hj' : j < C.size := Nat.lt_of_lt_of_le hj hcap
          constructor
          · simp [World.cell?_alloc_mark, hj']
          · have h1 := World.frozen?_alloc_mark w C e fz.1 fz.2 j
            simp only [Nat.zero_add]
            rw [h1]; exact hfz j hj'
      · simp only [Mu.add]
        rw [if_neg (by rintro ⟨_, h⟩; omega)]
        exact hnone v
    · rename_i hf
      have H := R1.got f b h
      cases b with
      | cells cs vers nv ro =>
        refine ⟨fun x hx => ?_, fun v hv => ?_⟩
        · obtain ⟨l, c⟩ := H.1 x hx
          refine ⟨l, hle.loc _ _ _ c.mu, c.lo, c.sz, c.hi, fun i a h1 h2 h3 => ?_, c.rw⟩
          obtain ⟨y, hy, hw⟩ := c.cell i a h1 h2 h3
          exact ⟨y, cvo_mono hle _ _ hy, hw⟩
        · simp only [Mu.add]
          rw [if_neg (by rintro ⟨h, _⟩; exact hf h)]
          exact H.2 v hv
      | map es cl =>
        obtain ⟨l, es', h1, h2, h3, h4⟩ := H
        exact ⟨l, es', hle.loc _ _ _ h1, h2, h3, h4.mono hle⟩
      | iter io =>
        obtain ⟨l, ob, h1, h2, h3, h4⟩ := H
        exact ⟨l, ob, ⟨hle.loc _ _ _ h1.1, h1.2⟩, h2, h3, h4.mono hle⟩
  · have hrw : ∀ g, g ≠ A.next → (A.push (.cells cs [⟨u0, 0, cs.length, sz⟩] (u0 + 1) false)).Rw g → A.Rw g := fun g hg ⟨b, hb, hr⟩ => by
      rw [St.get_push, if_neg hg] at hb; exact ⟨b, hb, hr⟩
    rcases hof f v l h1 with ⟨rfl, _, rfl⟩ | ⟨n1, h1⟩ <;> rcases hof g u k h2 with ⟨rfl, _, rfl⟩ | ⟨n2, h2⟩
    · exact absurd rfl hne
    · have := (R.dom _ _ _ h2).2; intro h; simp only at h; omega
    · have := (R.dom _ _ _ h1).2; intro h; simp only at h; omega
    · exact R.apart f v l g u k h1 h2 hne (hrw _ n1 hf)
  · rcases hof f v l h1 with ⟨rfl, hv0, rfl⟩ | ⟨n1, h1⟩
    · rw [hv0]
      intro c e' fz' hc
      have : (w.alloc (.cells C e fz)).heap[w.heap.size]? = some (.cells C e fz) := by
        show (w.heap.push _)[w.heap.size]? = _
        rw [Array.getElem?_push, if_pos rfl]
      rw [this] at hc; cases hc; exact hu
    · refine R1.unf f v l h1 ?_
      obtain ⟨b, hb, hr⟩ := h2
      rw [St.get_push, if_neg n1] at hb
      exact ⟨b, hb, hr⟩
  · rcases hof f v l h1 with ⟨rfl, _, rfl⟩ | ⟨n1, h1⟩ <;> rcases hof _ u k h2 with ⟨e, _, rfl⟩ | ⟨n2, h2⟩
    · rfl
    · exact absurd rfl n2
    · exact absurd e n1
    · exact R.same f v l u k h1 h2 he
  · rcases hof f 0 l h1 with ⟨rfl, _, rfl⟩ | ⟨n1, h1⟩
    · rfl
    · obtain ⟨b, hb, hr⟩ := h2
      rw [St.get_push, if_neg n1] at hb
      exact R.orig f l h1 ⟨b, hb, hr⟩

theorem Rel.new_cells (R : Rel F m A w) {cs : List AV} {ys : List Value} (hys : cvos m cs = some ys) {C : Array Value} {e : TypeId} {fz : Nat × Nat} {cap sz : Nat}
    (hC : ∀ (j : Nat) (y : Value), ys[j]? = some y → C[j]? = some y) (hcap : cap * sz ≤ C.size) (hlen : cs.length ≤ cap * sz) (hu : fz.1 = fz.2) :
    Rel F (m.add A.next 0 ⟨w.heap.size, 0, 0, cap, sz⟩) (A.push (.cells cs [⟨0, 0, cs.length, sz⟩] 1 false)) (w.alloc (.cells C e fz)) ∧ m.le (m.add A.next 0 ⟨w.heap.size, 0, 0, cap, sz⟩) :=
  R.new_cellsV 0 hys hC hcap hlen (.inl hu)

theorem heap_setCell_other (w : World) (a : Addr) (v : Value) {c : Nat} (h : c ≠ a.block) : (w.setCell a v).heap[c]? = w.heap[c]? := by
  unfold World.setCell
  rw [Array.getElem?_modify, if_neg (fun e => h e.symm)]
theorem heap_setCells_other (b : Nat) : ∀ (vs : List Value) (o : Nat) (w : World) {c : Nat}, c ≠ b → (w.setCells b o vs).heap[c]? = w.heap[c]?
  | [], _, _, _, _ => rfl
  | v :: r, o, w, c, h => by rw [World.setCells, heap_setCells_other b r (o + 1) _ h, heap_setCell_other _ _ _ h]
theorem size_setCells (b : Nat) : ∀ (vs : List Value) (o : Nat) (w : World), (w.setCells b o vs).heap.size = w.heap.size
  | [], _, _ => rfl
  | v :: r, o, w => by rw [World.setCells, size_setCells b r, World.size_setCell]

theorem unfz_setCells {u cb : Nat} (b : Nat) : ∀ (vs : List Value) (o : Nat) (w : World), Unfz u w cb → Unfz u (w.setCells b o vs) cb
  | [], _, _, h => h
  | v :: r, o, w, h => by
    rw [World.setCells]
    refine unfz_setCells b r (o + 1) _ fun c e fz hc => ?_
    unfold World.setCell at hc
    simp only [Array.getElem?_modify] at hc
    split at hc
    · simp only [Option.map_eq_some_iff] at hc
      obtain ⟨ob, h1, h2⟩ := hc
      cases ob with
      | cells c0 e0 fz0 =>
        have := h c0 e0 fz0 h1
        simp only [Obj.cells.injEq] at h2
        obtain ⟨h3, _, rfl⟩ := h2
        have hs : c.size = c0.size := by rw [← h3]; simp
        rw [hs]; exact this
      | _ => cases h2
    · exact h c e fz hc
theorem os_setCells (b : Nat) : ∀ (vs : List Value) (o : Nat) (w : World), (w.setCells b o vs).os = w.os ∧ (w.setCells b o vs).output = w.output
  | [], _, _ => ⟨rfl, rfl⟩
  | v :: r, o, w => by rw [World.setCells]; exact os_setCells b r (o + 1) _
theorem rest_setCells {F : Fr} {w : World} (h : w.os = F.os ∧ w.output = F.out) (b o : Nat) (vs : List Value) : (w.setCells b o vs).os = F.os ∧ (w.setCells b o vs).output = F.out := by
  rw [(os_setCells b vs o w).1, (os_setCells b vs o w).2]; exact h

/-- Writing elsewhere leaves a block's relation. -/
theorem blkR_other {f : Nat} {b : Blk} {bb o : Nat} {vs : List Value} (H : blkR F m w f b) (hne : ∀ v l, m f v = some l → l.cb ≠ bb) : blkR F m (w.setCells bb o vs) f b := by
  have hcell : ∀ cb j, cb ≠ bb → (w.setCells bb o vs).cell? ⟨cb, j, none⟩ = w.cell? ⟨cb, j, none⟩ := fun cb j h => World.cell?_of_block (heap_setCells_other bb vs o w h)
  have hfro : ∀ cb j, cb ≠ bb → (w.setCells bb o vs).frozen? ⟨cb, j, none⟩ = w.frozen? ⟨cb, j, none⟩ := fun cb j h => World.frozen?_of_block (heap_setCells_other bb vs o w h)
  cases b with
  | cells cs vers nv ro =>
    refine ⟨fun x hx => ?_, H.2⟩
    obtain ⟨l, c⟩ := H.1 x hx
    have hb := hne _ _ c.mu
    refine ⟨l, c.mu, c.lo, c.sz, c.hi, fun i a h1 h2 h3 => ?_, fun hr => ?_⟩
    · rw [hcell _ _ hb]; exact c.cell i a h1 h2 h3
    · obtain ⟨h1, h2, h3⟩ := c.rw hr
      exact ⟨h1, h2, fun j hj => by rw [hcell _ _ hb, hfro _ _ hb]; exact h3 j hj⟩
  | map es cl =>
    obtain ⟨l, es', h1, h2, h3, h4⟩ := H
    exact ⟨l, es', h1, by rw [heap_setCells_other bb vs o w (hne _ _ h1)]; exact h2, h3, h4⟩
  | iter io =>
    obtain ⟨l, ob, h1, h2, h3, h4⟩ := H
    exact ⟨l, ob, h1, by rw [heap_setCells_other bb vs o w (hne _ _ h1.1)]; exact h2, h3, h4⟩

theorem splice_get (cs l : List AV) (o i : Nat) (h : o + l.length ≤ cs.length) : (splice cs o l)[i]? = if o ≤ i ∧ i < o + l.length then l[i - o]? else cs[i]? := by
  unfold splice
  rw [List.getElem?_append, List.length_take, Nat.min_eq_left (by omega)]
  split
  · rename_i h1
    rw [if_neg (by omega), List.getElem?_take, if_pos h1]
  · rename_i h1
    rw [List.getElem?_append]
    split
    · rename_i h2; rw [if_pos (by omega)]
    · rename_i h2; rw [if_neg (by omega), List.getElem?_drop]; congr 1; omega
theorem splice_length (cs l : List AV) (o : Nat) (h : o + l.length ≤ cs.length) : (splice cs o l).length = cs.length := by
  unfold splice; simp; omega

theorem Rw_put {f g : Nat} {b b' : Blk} (hg : A.get f = some b) (hb : b.ro = false) (h : (A.put f b').Rw g) : A.Rw g := by
  obtain ⟨c, hc, hr⟩ := h
  rw [St.get_put] at hc
  split at hc
  · rename_i e; subst e; exact ⟨b, hg, hb⟩
  · exact ⟨c, hc, hr⟩

/-- Cells that are written. -/
theorem Rel.write (R : Rel F m A w) {p : Pl} {l : List AV} {B : St} (h : A.write p l = some B) {ys : List Value} (hys : cvos m l = some ys) :
    ∃ b o, plc m p = some ⟨b, o, none⟩ ∧ (∀ j, j < ys.length → (w.cell? ⟨b, o + j, none⟩).isSome = true ∧ w.frozen? ⟨b, o + j, none⟩ = false) ∧ (∀ v ∈ ys, v.oneCell' = true) ∧ Rel F m B (w.setCells b o ys) := by
  unfold St.write at h
  split at h
  · rename_i cs x nv hl
    split at h
    · rename_i hc
      obtain ⟨h1, h2, h3, h4⟩ := hc
      cases h
      obtain ⟨k, c, hp⟩ := R.look hl h1
      obtain ⟨vers, hg, hx, hv⟩ := look_spec hl
      obtain ⟨r1, r2, r3⟩ := c.rw rfl
      have hlen := cvos_length hys
      have hin : ∀ j, j < ys.length → p.2.2 - x.lo + j < k.cap * k.sz := fun j hj => by omega
      refine ⟨_, _, hp, fun j hj => ?_, fun v hv => ?_, ?_⟩
      · rw [show k.co + (p.2.2 - x.lo) + j = k.co + (p.2.2 - x.lo + j) by omega]; exact r3 _ (hin j hj)
      · obtain ⟨j, hj⟩ := List.mem_iff_getElem?.1 hv
        obtain ⟨a, ha, hav⟩ := cvos_get' hys hj
        exact oneCell_of_flat (List.all_eq_true.1 h4 a (List.mem_of_getElem? ha)) hav
      · refine ⟨fun f v l h => ?_, fun f b h => ?_, fun cb o h => ?_, rest_setCells R.rest _ _ _, fun f v l' g u k' q1 q2 hne hf => ?_, fun f v l' h1 h2 => unfz_setCells _ _ _ _ (R.unf f v l' h1 (Rw_put hg rfl h2)), R.same, fun f l' h1 h2 => R.orig f l' h1 (Rw_put hg rfl h2), R.frm⟩
        · have := R.dom f v l h; rw [size_setCells]; exact this
        · rw [St.get_put] at h
          split at h
          · rename_i hf
            subst hf
            cases h
            refine ⟨fun y hy => ?_, (R.got _ _ hg).2⟩
            have hyx : y = x := by simpa using hy
            rw [hyx]
            refine ⟨k, c.mu, c.lo, c.sz, by rw [splice_length _ _ _ (by omega)]; exact c.hi, fun i a i1 i2 ha => ?_, fun _ => ⟨r1, r2, fun j hj => ?_⟩⟩
            · rw [splice_get _ _ _ _ (by omega)] at ha
              split at ha
              · rename_i hio
                obtain ⟨y, hy, hj⟩ := cvos_get hys ha
                refine ⟨y, hy, ?_⟩
                have hj' : i - p.2.2 < ys.length := by omega
                have := World.cell?_setCells_in k.cb ys (k.co + (p.2.2 - x.lo)) w (fun j hj => by
                  rw [show k.co + (p.2.2 - x.lo) + j = k.co + (p.2.2 - x.lo + j) by omega]; exact (r3 _ (hin j hj)).1) (i - p.2.2) hj'
                rw [show k.co + (p.2.2 - x.lo) + (i - p.2.2) = k.co + (i - x.lo) by omega] at this
                rw [this, ← hj, List.getElem?_eq_getElem hj']
              · rename_i hio
                obtain ⟨y, hy, hw⟩ := c.cell i a i1 i2 ha
                refine ⟨y, hy, ?_⟩
                rw [World.cell?_setCells_out _ _ _ _ _ (fun _ _ => by simp only; omega)]
                exact hw
            · have := r3 j hj
              rw [World.frozen?_setCells]
              refine ⟨?_, this.2⟩
              by_cases hi : p.2.2 - x.lo ≤ j ∧ j < p.2.2 - x.lo + ys.length
              · have := World.cell?_setCells_in k.cb ys (k.co + (p.2.2 - x.lo)) w (fun j hj => by
                  rw [show k.co + (p.2.2 - x.lo) + j = k.co + (p.2.2 - x.lo + j) by omega]; exact (r3 _ (hin j hj)).1) (j - (p.2.2 - x.lo)) (by omega)
                rw [show k.co + (p.2.2 - x.lo) + (j - (p.2.2 - x.lo)) = k.co + j by omega] at this
                rw [this]; rfl
              · rw [World.cell?_setCells_out _ _ _ _ _ (fun _ _ => by simp only; omega)]
                exact this.1
          · rename_i hf
            refine blkR_other (R.got f b h) fun v l' hm hcb => ?_
            exact R.apart _ _ _ _ _ _ c.mu hm (fun e => hf e.symm) ⟨_, hg, rfl⟩ hcb.symm
        · have := R.keep cb o h
          rw [heap_setCells_other]
          · exact this
          · intro e; subst e; rw [r1] at h; cases h
        · refine R.apart f v l' g u k' q1 q2 hne ?_
          obtain ⟨b, hb, hr⟩ := hf
          rw [St.get_put] at hb
          split at hb
          · rename_i e; subst e; exact ⟨_, hg, rfl⟩
          · exact ⟨b, hb, hr⟩
    · cases h
  · cases h

/-- What a fork of a family leaves of the elder versions' relation. -/
theorem CellsR.fork {f : Nat} {cs cs' : List AV} {x : Ver} {l : Loc} {m' : Mu} {w' : World} {e : Nat} (c : CellsR F m w f cs false x l) (hle : m.le m') (hx : x.hi ≤ e) (hcs : cs' = cs.take e) (new : List AV)
    (hcell : ∀ j v, j < e - x.lo → w.cell? ⟨l.cb, l.co + j, none⟩ = some v → w'.cell? ⟨l.cb, l.co + j, none⟩ = some v)
    (hrw : ∀ j, j < l.cap * l.sz → (w.cell? ⟨l.cb, l.co + j, none⟩).isSome = true ∧ w.frozen? ⟨l.cb, l.co + j, none⟩ = false → (w'.cell? ⟨l.cb, l.co + j, none⟩).isSome = true ∧ w'.frozen? ⟨l.cb, l.co + j, none⟩ = false) :
    CellsR F m' w' f (cs' ++ new) false x l := by
  have hh := c.hi
  refine ⟨hle.loc _ _ _ c.mu, c.lo, c.sz, by rw [hcs]; simp; omega, fun i a h1 h2 h3 => ?_, fun hr => ?_⟩
  · rw [List.getElem?_append_left (by rw [hcs]; simp; omega), hcs, List.getElem?_take, if_pos (by omega)] at h3
    obtain ⟨y, hy, hw⟩ := c.cell i a h1 h2 h3
    exact ⟨y, cvo_mono hle _ _ hy, hcell _ _ (by omega) hw⟩
  · obtain ⟨r1, r2, r3⟩ := c.rw hr
    exact ⟨r1, r2, fun j hj => hrw j hj (r3 j hj)⟩

theorem blkR_mono {m' : Mu} {w' : World} {f : Nat} {b : Blk} (hle : m.le m') (hnew : ∀ v, m f v = none → m' f v = none) (H : blkR F m w f b)
    (hheap : ∀ v l, m f v = some l → w'.heap[l.cb]? = w.heap[l.cb]?) : blkR F m' w' f b := by
  cases b with
  | cells cs vers nv ro =>
    refine ⟨fun x hx => ?_, fun v hv => hnew v (H.2 v hv)⟩
    obtain ⟨l, c⟩ := H.1 x hx
    have hh := hheap _ _ c.mu
    refine ⟨l, hle.loc _ _ _ c.mu, c.lo, c.sz, c.hi, fun i a h1 h2 h3 => ?_, fun hr => ?_⟩
    · obtain ⟨y, hy, hw⟩ := c.cell i a h1 h2 h3
      exact ⟨y, cvo_mono hle _ _ hy, by rw [World.cell?_of_block hh]; exact hw⟩
    · obtain ⟨h1, h2, h3⟩ := c.rw hr
      exact ⟨h1, h2, fun j hj => by rw [World.cell?_of_block hh, World.frozen?_of_block hh]; exact h3 j hj⟩
  | map es cl =>
    obtain ⟨l, es', h1, h2, h3, h4⟩ := H
    exact ⟨l, es', hle.loc _ _ _ h1, by rw [hheap _ _ h1]; exact h2, h3, h4.mono hle⟩
  | iter io =>
    obtain ⟨l, ob, h1, h2, h3, h4⟩ := H
    exact ⟨l, ob, ⟨hle.loc _ _ _ h1.1, h1.2⟩, by rw [hheap _ _ h1.1]; exact h2, h3, h4.mono hle⟩

/-- An append onto a slice of unknown capacity: in place. -/
theorem Rel.fork_in (R : Rel F m A w) {f v o len n skip size nv : Nat} {cs : List AV} {vers : List Ver} {y : Ver} {k : Loc} {new : List AV} {ys : List Value}
    (hg : A.get f = some (.cells cs vers nv false)) (hy : y ∈ vers) (hyv : y.v = v) (hk : m f v = some k) (h1 : y.lo ≤ o) (h2 : o + len * size ≤ y.hi) (h3 : y.hi ≤ cs.length)
    (hs : k.sz = size) (hskip : k.lo + skip * k.sz = o) (hroom : skip + (len + n) ≤ k.cap) (hnew : cvos m new = some ys) (hl : new.length = n * size) (hone : ∀ v ∈ ys, v.oneCell' = true) :
    (∀ j, j < ys.length → (w.cell? ⟨k.cb, k.co + (o - k.lo) + len * size + j, none⟩).isSome = true ∧ w.frozen? ⟨k.cb, k.co + (o - k.lo) + len * size + j, none⟩ = false) ∧
    m.le (m.add f nv ⟨k.cb, k.co + (o - k.lo), o, k.cap - skip, size⟩) ∧
    Rel F (m.add f nv ⟨k.cb, k.co + (o - k.lo), o, k.cap - skip, size⟩)
      (A.put f (.cells (cs.take (o + len * size) ++ new) (⟨nv, o, o + (len + n) * size, size⟩ :: vers.filter fun z => decide (z.hi ≤ o + len * size)) (nv + 1) false))
      (w.setCells k.cb (k.co + (o - k.lo) + len * size) ys) := by
  have H := R.got _ _ hg
  obtain ⟨k', c⟩ := H.1 y hy
  obtain rfl : k' = k := by have := c.mu; rw [hyv, hk] at this; cases this; rfl
  have hnone : m f nv = none := H.2 nv (Nat.le_refl _)
  have hle := Mu.le_add ⟨k'.cb, k'.co + (o - k'.lo), o, k'.cap - skip, size⟩ hnone
  obtain ⟨r1, r2, r3⟩ := c.rw rfl
  have hlen := cvos_length hnew
  have hlo := c.lo
  have hmul : (skip + (len + n)) * size ≤ k'.cap * size := Nat.mul_le_mul_right _ hroom
  have e1 : (skip + (len + n)) * size = skip * size + len * size + n * size := by rw [Nat.add_mul, Nat.add_mul]; omega
  have e2 : (len + n) * size = len * size + n * size := Nat.add_mul _ _ _
  rw [hs] at hskip r2 r3
  have hregion : ∀ j, j < ys.length → k'.co + (o - k'.lo) + len * size + j = k'.co + (skip * size + len * size + j) ∧ skip * size + len * size + j < k'.cap * size := fun j hj => by
    constructor <;> omega
  have hthere : ∀ j, j < ys.length → (w.cell? ⟨k'.cb, k'.co + (o - k'.lo) + len * size + j, none⟩).isSome = true ∧ w.frozen? ⟨k'.cb, k'.co + (o - k'.lo) + len * size + j, none⟩ = false := fun j hj => by
    rw [(hregion j hj).1]; exact r3 _ (hregion j hj).2
  -- what a write does to the cells of this block
  have hout : ∀ j v, j < o + len * size → w.cell? ⟨k'.cb, j + k'.co - k'.lo, none⟩ = some v → k'.lo ≤ j + k'.co → (w.setCells k'.cb (k'.co + (o - k'.lo) + len * size) ys).cell? ⟨k'.cb, j + k'.co - k'.lo, none⟩ = some v := fun j v hj h hge => by
    rw [World.cell?_setCells_out _ _ _ _ _ (fun _ _ => by simp only; omega)]; exact h
  have hrest : ∀ a, ((w.cell? ⟨k'.cb, a, none⟩).isSome = true ∧ w.frozen? ⟨k'.cb, a, none⟩ = false) → ((w.setCells k'.cb (k'.co + (o - k'.lo) + len * size) ys).cell? ⟨k'.cb, a, none⟩).isSome = true ∧ (w.setCells k'.cb (k'.co + (o - k'.lo) + len * size) ys).frozen? ⟨k'.cb, a, none⟩ = false := fun a h => by
    rw [World.frozen?_setCells]
    refine ⟨?_, h.2⟩
    by_cases hi : k'.co + (o - k'.lo) + len * size ≤ a ∧ a < k'.co + (o - k'.lo) + len * size + ys.length
    · have := World.cell?_setCells_in k'.cb ys (k'.co + (o - k'.lo) + len * size) w (fun j hj => (hthere j hj).1) (a - (k'.co + (o - k'.lo) + len * size)) (by omega)
      rw [show k'.co + (o - k'.lo) + len * size + (a - (k'.co + (o - k'.lo) + len * size)) = a by omega] at this
      rw [this]; rfl
    · rw [World.cell?_setCells_out _ _ _ _ _ (fun _ _ => by simp only; omega)]; exact h.1
  have hadd : ∀ g u l, (m.add f nv ⟨k'.cb, k'.co + (o - k'.lo), o, k'.cap - skip, size⟩) g u = some l → (g = f ∧ u = nv ∧ l = ⟨k'.cb, k'.co + (o - k'.lo), o, k'.cap - skip, size⟩) ∨ m g u = some l := fun g u l h => by
    unfold Mu.add at h
    dsimp only at h
    split at h
    · rename_i q; cases h; exact .inl ⟨q.1, q.2, rfl⟩
    · exact .inr h
  refine ⟨hthere, hle, ⟨fun g u l h => ?_, fun g b h => ?_, fun cb ob h => ?_, rest_setCells R.rest _ _ _, fun g u l g' u' l' q1 q2 hne hf => ?_, fun g u l q1 hf => ?_, fun g u l u' l' q1 q2 he => ?_, fun g l q1 hf => ?_, R.frm⟩⟩
  · rw [size_setCells]
    rcases hadd g u l h with ⟨rfl, rfl, rfl⟩ | h
    · exact ⟨(R.dom _ _ _ hk).1, (R.dom _ _ _ hk).2⟩
    · exact R.dom _ _ _ h
  · rw [St.get_put] at h
    split at h
    · rename_i e; subst e
      cases h
      refine ⟨fun x hx => ?_, fun u hu => ?_⟩
      · rcases List.mem_cons.1 hx with rfl | hx
        · refine ⟨⟨k'.cb, k'.co + (o - k'.lo), o, k'.cap - skip, size⟩, by simp [Mu.add], rfl, rfl, by simp; omega, fun i a i1 i2 ha => ?_, fun _ => ⟨r1, ?_, fun j hj => ?_⟩⟩
          · simp only at i1 i2 ⊢
            by_cases hi : i < o + len * size
            · rw [List.getElem?_append_left (by simp; omega), List.getElem?_take, if_pos hi] at ha
              obtain ⟨z, hz, hw⟩ := c.cell i a (by omega) (by omega) ha
              refine ⟨z, cvo_mono hle _ _ hz, ?_⟩
              rw [show k'.co + (o - k'.lo) + (i - o) = i + k'.co - k'.lo by omega]
              exact hout i z hi (by rw [show i + k'.co - k'.lo = k'.co + (i - y.lo) by omega]; exact hw) (by omega)
            · rw [List.getElem?_append_right (by simp; omega)] at ha
              have : (cs.take (o + len * size)).length = o + len * size := by simp; omega
              rw [this] at ha
              obtain ⟨z, hz, hj⟩ := cvos_get hnew ha
              refine ⟨z, cvo_mono hle _ _ hz, ?_⟩
              have hj' : i - (o + len * size) < ys.length := by omega
              have := World.cell?_setCells_in k'.cb ys (k'.co + (o - k'.lo) + len * size) w (fun j hj => (hthere j hj).1) (i - (o + len * size)) hj'
              rw [show k'.co + (o - k'.lo) + len * size + (i - (o + len * size)) = k'.co + (o - k'.lo) + (i - o) by omega] at this
              rw [this, ← hj, List.getElem?_eq_getElem hj']
          · simp only
            have e3 : (k'.cap - skip) * size = k'.cap * size - skip * size := Nat.sub_mul _ _ _
            omega
          · simp only at hj ⊢
            have e3 : (k'.cap - skip) * size = k'.cap * size - skip * size := Nat.sub_mul _ _ _
            rw [show k'.co + (o - k'.lo) + j = k'.co + (skip * size + j) by omega]
            exact hrest _ (r3 _ (by omega))
        · obtain ⟨hx1, hx2⟩ := List.mem_filter.1 hx
          have hx3 : x.hi ≤ o + len * size := of_decide_eq_true hx2
          obtain ⟨lx, cx⟩ := H.1 x hx1
          refine ⟨lx, cx.fork (e := o + len * size) hle hx3 rfl new (fun j z hj hz => ?_) (fun j hj hz => ?_)⟩
          · by_cases hcb : lx.cb = k'.cb
            · have hal := R.same _ _ _ _ _ cx.mu hk hcb
              have hxl := cx.lo
              rw [hcb] at hz ⊢
              have := hout (j + x.lo) z (by omega) (by rw [show j + x.lo + k'.co - k'.lo = lx.co + j by omega]; exact hz) (by omega)
              rw [show j + x.lo + k'.co - k'.lo = lx.co + j by omega] at this
              exact this
            · rw [World.cell?_of_block (heap_setCells_other _ _ _ _ hcb)]; exact hz
          · by_cases hcb : lx.cb = k'.cb
            · rw [hcb] at hz ⊢; exact hrest _ hz
            · rw [World.cell?_of_block (heap_setCells_other _ _ _ _ hcb), World.frozen?_of_block (heap_setCells_other _ _ _ _ hcb)]; exact hz
      · simp only [Mu.add]
        rw [if_neg (by rintro ⟨_, e⟩; omega)]
        exact H.2 u (by omega)
    · rename_i e
      have Hb := R.got g b h
      refine blkR_mono hle (fun u hu => ?_) Hb (fun u l hu => ?_)
      · simp only [Mu.add]; rw [if_neg (by rintro ⟨q, _⟩; exact e q)]; exact hu
      · exact heap_setCells_other _ _ _ _ (fun q => R.apart f v k' g u l hk hu (fun e' => e e'.symm) ⟨_, hg, rfl⟩ q.symm)
  · rw [heap_setCells_other]
    · exact R.keep cb ob h
    · intro q; subst q; rw [r1] at h; cases h
  · have hf' := Rw_put hg rfl hf
    rcases hadd g u l q1 with ⟨rfl, rfl, rfl⟩ | p1 <;> rcases hadd g' u' l' q2 with ⟨rfl, rfl, rfl⟩ | p2
    · exact absurd rfl hne
    · exact fun e => R.apart _ _ _ _ _ _ hk p2 hne hf' e
    · have := R.apart _ _ _ _ _ _ hk p1 (fun e => hne e.symm) ⟨_, hg, rfl⟩
      exact fun e => this e.symm
    · exact R.apart _ _ _ _ _ _ p1 p2 hne hf'
  · have hf' := Rw_put hg rfl hf
    rcases hadd g u l q1 with ⟨rfl, rfl, rfl⟩ | p1
    · exact unfz_setCells k'.cb ys _ w (Unfz.up (R.unf _ v k' hk hf') (fun e0 => by
        have := H.2 v (by omega)
        rw [hk] at this; cases this))
    · exact unfz_setCells _ _ _ _ (R.unf _ _ _ p1 hf')
  · rcases hadd g u l q1 with ⟨rfl, rfl, rfl⟩ | p1 <;> rcases hadd _ u' l' q2 with ⟨e, rfl, rfl⟩ | p2
    · rfl
    · have := R.same _ _ _ _ _ hk p2 he; simp only; omega
    · have e' := e; subst e'
      have := R.same _ _ _ _ _ p1 hk he; simp only; omega
    · exact R.same _ _ _ _ _ p1 p2 he
  · have hf' := Rw_put hg rfl hf
    rcases hadd g 0 l q1 with ⟨rfl, h0, rfl⟩ | p1
    · subst h0
      have hy0 : m g y.v = none := H.2 _ (Nat.zero_le _)
      obtain ⟨ky, cy⟩ := H.1 y hy
      rw [cy.mu] at hy0
      cases hy0
    · exact R.orig _ _ p1 hf'

/-- An append onto a slice of unknown capacity: a new block. -/
theorem Rel.fork_out (R : Rel F m A w) {f v o len n size nv : Nat} {cs : List AV} {vers : List Ver} {y : Ver} {new : List AV} {ys : List Value}
    (hg : A.get f = some (.cells cs vers nv false)) (hy : y ∈ vers) (h1 : y.lo ≤ o) (h2 : o + len * size ≤ y.hi) (h3 : y.hi ≤ cs.length)
    (hnew : cvos m new = some ys) (hl : new.length = n * size) {olds : List Value} (holds : cvos m ((cs.drop o).take (len * size)) = some olds)
    {C : Array Value} {e : TypeId} {cap : Nat} (hC : ∀ (j : Nat) (z : Value), (olds ++ ys)[j]? = some z → C[j]? = some z) (hcap : cap * size ≤ C.size) (hfit : len + n ≤ cap) :
    m.le (m.add f nv ⟨w.heap.size, 0, o, cap, size⟩) ∧
    Rel F (m.add f nv ⟨w.heap.size, 0, o, cap, size⟩)
      (A.put f (.cells (cs.take (o + len * size) ++ new) (⟨nv, o, o + (len + n) * size, size⟩ :: vers.filter fun z => decide (z.hi ≤ o + len * size)) (nv + 1) false))
      (w.alloc (.cells C e)) := by
  have H := R.got _ _ hg
  have hnone : m f nv = none := H.2 nv (Nat.le_refl _)
  have hle := Mu.le_add ⟨w.heap.size, 0, o, cap, size⟩ hnone
  have R1 := R.alloc_other (.cells C e)
  have H1 := R1.got _ _ hg
  have hF : F w.heap.size = none := by
    cases h : F w.heap.size with
    | none => rfl
    | some o => have := R.keep _ _ h; simp at this
  have hlen := cvos_length hnew
  have holen := cvos_length holds
  rw [List.length_take, List.length_drop] at holen
  have e2 : (len + n) * size = len * size + n * size := Nat.add_mul _ _ _
  have hcm : (len + n) * size ≤ cap * size := Nat.mul_le_mul_right _ hfit
  have hadd : ∀ g u l, (m.add f nv ⟨w.heap.size, 0, o, cap, size⟩) g u = some l → (g = f ∧ u = nv ∧ l = ⟨w.heap.size, 0, o, cap, size⟩) ∨ m g u = some l := fun g u l h => by
    unfold Mu.add at h
    dsimp only at h
    split at h
    · rename_i q; cases h; exact .inl ⟨q.1, q.2, rfl⟩
    · exact .inr h
  have hdom : ∀ g u l, m g u = some l → l.cb ≠ w.heap.size := fun g u l h => Nat.ne_of_lt (R.dom _ _ _ h).2
  refine ⟨hle, ⟨fun g u l h => ?_, fun g b h => ?_, R1.keep, R1.rest, fun g u l g' u' l' q1 q2 hne hf => ?_, fun g u l q1 hf => ?_, fun g u l u' l' q1 q2 he => ?_, fun g l q1 hf => ?_, R.frm⟩⟩
  · rcases hadd g u l h with ⟨rfl, rfl, rfl⟩ | h
    · have hf : g < A.next := by
        obtain ⟨k, c⟩ := H.1 y hy
        exact (R.dom _ _ _ c.mu).1
      simp; exact hf
    · exact R1.dom _ _ _ h
  · rw [St.get_put] at h
    split at h
    · rename_i e'; subst e'
      cases h
      refine ⟨fun x hx => ?_, fun u hu => ?_⟩
      · rcases List.mem_cons.1 hx with rfl | hx
        · refine ⟨⟨w.heap.size, 0, o, cap, size⟩, by simp [Mu.add], rfl, rfl, by simp; omega, fun i a i1 i2 ha => ?_, fun _ => ⟨hF, by simp only; omega, fun j hj => ?_⟩⟩
          · simp only at i1 i2 ⊢
            have hgoal : ∃ z, cvo m a = some z ∧ (olds ++ ys)[i - o]? = some z := by
              by_cases hi : i < o + len * size
              · rw [List.getElem?_append_left (by simp; omega), List.getElem?_take, if_pos hi] at ha
                obtain ⟨z, hz, hj⟩ := cvos_get holds (j := i - o) (a := a) (by rw [List.getElem?_take, if_pos (by omega), List.getElem?_drop, show o + (i - o) = i by omega]; exact ha)
                exact ⟨z, hz, by rw [List.getElem?_append_left (by omega)]; exact hj⟩
              · rw [List.getElem?_append_right (by simp; omega)] at ha
                have : (cs.take (o + len * size)).length = o + len * size := by simp; omega
                rw [this] at ha
                obtain ⟨z, hz, hj⟩ := cvos_get hnew ha
                exact ⟨z, hz, by rw [List.getElem?_append_right (by omega), show i - o - olds.length = i - (o + len * size) by omega]; exact hj⟩
            obtain ⟨z, hz, hj⟩ := hgoal
            refine ⟨z, cvo_mono hle _ _ hz, ?_⟩
            rw [Nat.zero_add, World.cell?_alloc_mark]
            exact hC _ _ hj
          · simp only [Nat.zero_add] at hj ⊢
            rw [World.cell?_alloc_mark, World.frozen?_alloc_mark]
            have : j < C.size := by omega
            simp [this]
        · obtain ⟨hx1, hx2⟩ := List.mem_filter.1 hx
          have hx3 : x.hi ≤ o + len * size := of_decide_eq_true hx2
          obtain ⟨lx, cx⟩ := H1.1 x hx1
          exact ⟨lx, cx.fork (e := o + len * size) hle hx3 rfl new (fun j z _ hz => hz) (fun j _ hz => hz)⟩
      · simp only [Mu.add]
        rw [if_neg (by rintro ⟨_, e⟩; omega)]
        exact H.2 u (by omega)
    · rename_i e'
      refine blkR_mono hle (fun u hu => ?_) (R1.got g b h) (fun u l hu => rfl)
      simp only [Mu.add]; rw [if_neg (by rintro ⟨q, _⟩; exact e' q)]; exact hu
  · have hf' := Rw_put hg rfl hf
    rcases hadd g u l q1 with ⟨rfl, rfl, rfl⟩ | p1 <;> rcases hadd g' u' l' q2 with ⟨rfl, rfl, rfl⟩ | p2
    · exact absurd rfl hne
    · exact fun h => hdom _ _ _ p2 h.symm
    · exact hdom _ _ _ p1
    · exact R.apart _ _ _ _ _ _ p1 p2 hne hf'
  · have hf' := Rw_put hg rfl hf
    rcases hadd g u l q1 with ⟨rfl, rfl, rfl⟩ | p1
    · intro c e' fz' hc
      have : (w.alloc (.cells C e)).heap[w.heap.size]? = some (.cells C e) := by
        show (w.heap.push _)[w.heap.size]? = _
        rw [Array.getElem?_push, if_pos rfl]
      rw [this] at hc; cases hc; exact .inl rfl
    · exact R1.unf _ _ _ p1 hf'
  · rcases hadd g u l q1 with ⟨rfl, rfl, rfl⟩ | p1 <;> rcases hadd _ u' l' q2 with ⟨e, rfl, rfl⟩ | p2
    · rfl
    · exact absurd he.symm (hdom _ _ _ p2)
    · exact absurd he (hdom _ _ _ p1)
    · exact R.same _ _ _ _ _ p1 p2 he
  · have hf' := Rw_put hg rfl hf
    rcases hadd g 0 l q1 with ⟨rfl, h0, rfl⟩ | p1
    · subst h0
      rfl
    · exact R.orig _ _ p1 hf'

theorem freeze_heap_other (w : World) (a : Addr) (k : Nat) {c : Nat} (h : c ≠ a.block) : (w.freeze a k).heap[c]? = w.heap[c]? := by
  unfold World.freeze
  split
  · rfl
  · simp only []; rw [Array.getElem?_modify, if_neg (fun e => h e.symm)]
theorem freeze_size (w : World) (a : Addr) (k : Nat) : (w.freeze a k).heap.size = w.heap.size := by
  unfold World.freeze; split <;> simp

end
end Go.AM
