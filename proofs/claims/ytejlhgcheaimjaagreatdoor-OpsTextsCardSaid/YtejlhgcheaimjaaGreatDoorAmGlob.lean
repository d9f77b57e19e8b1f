/- The abstract machine: a start in which tables of the library lie; calls from nowhere but these; a row's law out of such a start. -/
import Derived.Test.YtejlhgcheaimjaaGreatDoorAmExt
namespace Go.AM
set_option linter.unusedVariables false
set_option linter.unusedSimpArgs false

theorem sameTo_congr {A0 A B : St} : ∀ {n : Nat}, (∀ f, f < n → A.get f = B.get f) → sameTo A0 A n = sameTo A0 B n
  | 0, _ => rfl
  | n + 1, h => by
    simp only [sameTo]
    rw [h n (Nat.lt_succ_self n), sameTo_congr (fun f hf => h f (Nat.lt_succ_of_lt hf))]
/-- What lies at the start is known wherever it lies still. -/
def GlobOk (M0 : Mu) (A0 : St) : Prop := ∀ F m A w, M0.le m → Rel F m A w → (∀ f, f < A0.next → A.get f = A0.get f) → Rel (frameOf w) M0 A0 w
theorem globOk_none {P : Program} : GlobOk (muNone P) stNone := fun F m A w _ R _ => (inp_none P w).rel
theorem Rel.tabOk {F : Fr} {M0 m : Mu} {A : St} {w : World} (R : Rel F m A w) (hm : M0.le m) : TabOk M0.tab (fun g => w.heap[g]?) := fun p hp =>
  let ⟨c, e, fz, h1, h2⟩ := R.frm p (by rw [hm.tab]; exact hp)
  ⟨c, e, fz, R.keep _ _ h1, h2⟩
/-- One table. -/
def mu1 (P : Program) (g n : Nat) (t : List (Nat × (Array Value → Prop)) := []) : Mu := (muNone P t).add 0 0 ⟨g, 0, 0, n, 1⟩
def st1 (cs : List AV) : St := stNone.push (.cells cs [⟨0, 0, cs.length, 1⟩] 1 true)
theorem mu1_inv {P : Program} {t : List (Nat × (Array Value → Prop))} {g n f v : Nat} {l : Loc} (h : mu1 P g n t f v = some l) : f = 0 ∧ v = 0 ∧ l = ⟨g, 0, 0, n, 1⟩ := by
  unfold mu1 Mu.add at h
  dsimp only at h
  split at h
  · rename_i c; cases h; exact ⟨c.1, c.2, rfl⟩
  · cases h
theorem st1_inv {cs : List AV} {f : Nat} {b : Blk} (h : (st1 cs).get f = some b) : f = 0 ∧ b = .cells cs [⟨0, 0, cs.length, 1⟩] 1 true := by
  unfold st1 at h
  rw [St.get_push] at h
  split at h
  · rename_i e; cases h; exact ⟨e, rfl⟩
  · cases h
theorem globOk_one {P : Program} {t : List (Nat × (Array Value → Prop))} {g : Nat} {cs : List AV} (hcs : noPlaces cs = true) : GlobOk (mu1 P g cs.length t) (st1 cs) := fun F m A w hm R hs => by
  have h0 : m 0 0 = some ⟨g, 0, 0, cs.length, 1⟩ := hm.loc 0 0 _ (by simp [mu1, Mu.add])
  refine ⟨fun f v l h => ?_, fun f b h => ?_, fun cb o h => h, ⟨rfl, rfl⟩, fun f v l f' v' l' _ _ _ ⟨b, hb, hr⟩ => ?_, fun f v l _ ⟨b, hb, hr⟩ => ?_, fun f v l u k h h' he => ?_, fun f l _ ⟨b, hb, hr⟩ => (by obtain ⟨rfl, rfl⟩ := st1_inv hb; cases hr), R.tabOk hm⟩
  · obtain ⟨rfl, rfl, rfl⟩ := mu1_inv h
    exact ⟨Nat.zero_lt_one, (R.dom _ _ _ h0).2⟩
  · obtain ⟨rfl, rfl⟩ := st1_inv h
    have hb := R.got 0 _ (by rw [hs 0 Nat.zero_lt_one]; exact h)
    refine ⟨fun x hx => ?_, fun v hv => ?_⟩
    · obtain ⟨l, c⟩ := hb.1 x hx
      have hx' := List.mem_singleton.1 hx
      subst hx'
      have hl := c.mu
      rw [h0] at hl
      cases hl
      refine ⟨_, by simp [mu1, Mu.add], c.lo, c.sz, c.hi, fun i a h1 h2 h3 => ?_, fun h => by cases h⟩
      obtain ⟨y, hy, hw⟩ := c.cell i a h1 h2 h3
      have hp : ∀ (l : List AV) (i : Nat), noPlaces l = true → l[i]? = some a → noPlace a = true := fun l => by
        induction l with
        | nil => intro i _ h; simp at h
        | cons b l ih =>
          intro i h1 h2
          simp only [noPlaces, Bool.and_eq_true] at h1
          cases i with
          | zero => simp at h2; subst h2; exact h1.1
          | succ i => exact ih i h1.2 (by simpa using h2)
      exact ⟨y, by rw [noPlace_spec m _ a (hp cs i hcs h3)]; exact hy, hw⟩
    · cases hh : mu1 P g cs.length t 0 v with
      | none => rfl
      | some l => have := mu1_inv hh; omega
  · obtain ⟨rfl, rfl⟩ := st1_inv hb; cases hr
  · obtain ⟨rfl, rfl⟩ := st1_inv hb; cases hr
  · obtain ⟨rfl, rfl, rfl⟩ := mu1_inv h
    obtain ⟨_, rfl, rfl⟩ := mu1_inv h'
    rfl
theorem inp_one {P : Program} {t : List (Nat × (Array Value → Prop))} {W : World} {g : Nat} {cs : List AV} {ys : List Value} (hys : cvos (muNone P t) cs = some ys) (hcb : g < W.heap.size) (hcell : ∀ i y, ys[i]? = some y → W.cell? ⟨g, i, none⟩ = some y) (ht : TabOk t (fun g => W.heap[g]?) := by exact tabOk_nil _) : Inp W (mu1 P g cs.length t) (st1 cs) :=
  ((inp_none P W ht).push (sz := 1) (cap := cs.length) hys hcb (co := 0) (by simpa using hcell)).2
def env1 (g : Nat) : Env := T.set T.nil (1000000 + g) (.ptr (some (0, 0, 0)))
theorem baseOk_one {P : Program} {t : List (Nat × (Array Value → Prop))} {g n : Nat} : BaseOk (mu1 P g n t) (env1 g) := by
  have hat : ∀ t, Env.at (env1 g) t = if t = 1000000 + g then .ptr (some (0, 0, 0)) else .bot := fun t => by
    unfold env1 Env.at
    rw [T.get_set]
    split
    · rfl
    · rfl
  refine ⟨fun t ht => ?_, fun k => ?_⟩
  · rw [hat, if_neg (by omega)]
  · show slotR _ (Env.at _ (1000000 + k)) _
    rw [hat]
    split
    · rename_i h
      obtain rfl : k = g := by omega
      exact .inr (by simp [cvo, plc, mu1, Mu.add])
    · exact .inl rfl

/-- A table's call from nowhere but the start, told wherever that lies still. -/
def nowhereG (A0 : St) (G : Calls') (fs : Nat → Bool) : Calls' := fun f args A => bif fs f && (noPlaces args && sameTo A0 A A0.next) then (match G f args A0 with | some (r, _) => bif noPlace r then some (r, A) else none | none => none) else none
theorem nowhereG_of {A0 A : St} {G : Calls'} {fs : Nat → Bool} {f : FuncId} {args : List AV} {r : AV} {B : St} (hf : fs f = true) (ha : noPlaces args = true) (hs : ∀ f, f < A0.next → A.get f = A0.get f) (hr : sameTo A0 A0 A0.next = true) (hg : G f args A0 = some (r, B)) (hp : noPlace r = true) : nowhereG A0 G fs f args A = some (r, A) := by
  unfold nowhereG
  rw [hf, ha, sameTo_congr (B := A0) hs, hr, hg]
  simp [hp]
section
variable {P : Program} {M0 : Mu} {A0 : St}
theorem nowhereG_sound {G : Calls'} (hG : CSound P M0 G) (hA : GlobOk M0 A0) (fs : Nat → Bool) (hy : fs yieldId = false) : GSound P M0 (nowhereG A0 G fs) := fun f args A r B h => by
  unfold nowhereG at h
  cases hb : fs f && (noPlaces args && sameTo A0 A A0.next) with
  | false => rw [hb] at h; cases h
  | true =>
  rw [hb] at h
  simp only [Bool.and_eq_true] at hb
  have hfy : f ≠ yieldId := fun e => by rw [e, hy] at hb; exact absurd hb.1 (by simp)
  obtain ⟨_, hb, hs⟩ := hb
  have hs := sameTo_spec hs
  simp only [cond_true] at h
  split at h
  rotate_left
  · cases h
  rename_i r0 B0 hg
  cases hr : noPlace r0 with
  | false => rw [hr] at h; cases h
  | true =>
  rw [hr] at h
  simp only [cond_true, Option.some.injEq, Prod.mk.injEq] at h
  obtain ⟨rfl, rfl⟩ := h
  have fin : ∀ (F : Fr) (m : Mu) (w w' : World) (m' : Mu), Rel F m A w → Rel (frameOf w) m' B0 w' → Rel F m A w' := fun F m w w' m' R R' =>
    Rel.extended R (fun cb o h => R'.keep cb o h) R'.rest.1 R'.rest.2
  rcases (hG f args A0 r0 B0 hg).2 hfy with ⟨h1, h2⟩ | h2
  · refine .inl ⟨h1, fun F m w cargs hm R hc => ?_⟩
    have hc' : cvos M0 args = some cargs := by rw [noPlaces_spec m M0 args hb]; exact hc
    refine (h2 (frameOf w) M0 w cargs (Mu.le_refl _) (hA F m A w hm R hs) hc').mono fun e w' ⟨c, m', g1, g2, g3, g4⟩ => ?_
    exact ⟨c, m, g1, Mu.le_refl m, fin F m w w' m' R g3, by rw [noPlace_spec m' m r0 hr]; exact g4⟩
  · refine .inr fun F m w cargs hm R hc => ?_
    have hc' : cvos M0 args = some cargs := by rw [noPlaces_spec m M0 args hb]; exact hc
    obtain ⟨c, w', m', g1, g2, g3, g4⟩ := h2 (frameOf w) M0 w cargs (Mu.le_refl _) (hA F m A w hm R hs) hc'
    exact ⟨c, w', m, g1, Mu.le_refl m, fin F m w w' m' R g3, by rw [noPlace_spec m' m r0 hr]; exact g4⟩
end
/-- One table, then another. -/
def orX (X Y : Calls') : Calls' := fun f args A => match X f args A with
  | some r => some r
  | none => Y f args A
theorem orX_sound {P : Program} {M0 : Mu} {X Y : Calls'} (hX : GSound P M0 X) (hY : GSound P M0 Y) : GSound P M0 (orX X Y) := fun f args A r B h => by
  unfold orX at h
  split at h
  · rename_i r' hr
    cases h
    exact hX _ _ _ _ _ hr
  · exact hY _ _ _ _ _ h

section
variable {P : Program} {W : World} {H : Type} {enc : TypeId × Value → H}
theorem callsN_ok {P : Program} {M0 : Mu} {D : Disp} {G0 : Env} {fns : Nat → Option AFn} {X : Calls'} (b : Base P M0 G0 fns X) (nd : Nat → Bool) {k : Nat} {f : FuncId} {args : List AV} {A B : St} {r : AV} (hff : ∃ afn, fns f = some afn) (h : callsN D G0 fns nd X k f args A = some (r, B))
    {F : Fr} {m : Mu} {w : World} {cargs : List Value} (hm : M0.le m) (R : Rel F m A w) (hc : cvos m args = some cargs) : CallOk P F m r B f cargs.toArray w := by
  cases k with
  | zero => cases h
  | succ k =>
    obtain ⟨afn, hafn⟩ := hff
    simp only [callsN, hafn] at h
    obtain ⟨fn, h1, h2, h3⟩ := b.fns f afn hafn
    cases hnd : nd f with
    | true => rw [hnd] at h; exact runFnN_sound b.mx b.pg (callsN_sound b nd k) b.base h1 h2 h3 h hm R hc
    | false => rw [hnd] at h; exact runFn_sound b.mx b.pg (callsN_sound b nd k) b.base h1 h2 h hm R hc
/-- A call out of the start, told in a later state in which that lies still. -/
theorem callsN_from {P : Program} {M0 : Mu} {A0 : St} (hA : GlobOk M0 A0) {D : Disp} {G0 : Env} {fns : Nat → Option AFn} {X : Calls'} (b : Base P M0 G0 fns X) (nd : Nat → Bool) {k : Nat} {f : FuncId} {args : List AV} {A B : St} {r : AV} (hff : ∃ afn, fns f = some afn) (h : callsN D G0 fns nd X k f args A0 = some (r, B))
    (ha : noPlaces args = true) (hr : noPlace r = true) (hs : ∀ f, f < A0.next → A.get f = A0.get f)
    {F : Fr} {m : Mu} {w : World} {cargs : List Value} (hm : M0.le m) (R : Rel F m A w) (hc : cvos m args = some cargs) : CallOk P F m r A f cargs.toArray w := by
  have hc' : cvos M0 args = some cargs := by rw [noPlaces_spec m M0 args ha]; exact hc
  refine (callsN_ok b nd hff h (Mu.le_refl _) (hA F m A w hm R hs) hc').mono fun e w' ⟨c, m', g1, g2, g3, g4⟩ => ?_
  exact ⟨c, m, g1, Mu.le_refl m, Rel.extended R (fun cb o h => g3.keep cb o h) g3.rest.1 g3.rest.2, by rw [noPlace_spec m' m r hr]; exact g4⟩
/-- A law that comes to true, whatever it is told, in the row's own words. -/
theorem law_callsO {M0 : Mu} {A0 : St} (hI : Inp W M0 A0)
    (hl : laidOutB P = true) {f : FuncId} {fn : Func} {s : ChangeSpec} {t : TypeId} (hvars : s.vars = []) (hres : fn.resultTypes = #[t]) (ht : P.underlying t = some .bool) {k : Nat} (hpar : ∀ t ∈ fn.params.toList, argOk P k t = true ∧ P.readableRec t = true ∧ t < P.types.size)
    {base : Nat} {args : Array Value} {ds gs : List (DataW H)} {before : List MemPlace} (hval : ∀ (j : Nat) t v, fn.params[j]? = some t → args[j]? = some v → Value.okWide P W .any base t v)
    (hW : DataW.Whole enc P fn.params.toList s.vars false W args.toList ds gs before) (hs : s.fn H (ds ++ gs) = { results := [.lit (.bool true)], args := ds })
    (law : ∀ A vs, A0.Ext A → (∀ f, A.next ≤ f → A.get f = none) → argsRd P A fn.params.toList vs ds → ∃ B, ∀ (m : Mu) (w : World) (cargs : List Value), M0.le m → Rel (frameOf W) m A w → cvos m vs = some cargs → CallOk P (frameOf W) m (.bool true) B f cargs.toArray w) :
    Calls P f args W fun e W' => ∃ v, e = .returned v ∧ s.post enc P fn false true false false W args v W' := by
  have hW' := hW
  obtain ⟨p, q, hA, hV, rfl, hz, hn⟩ := hW
  obtain ⟨m, A, vs, i, va, ra⟩ := imp_args (fun t ht => (hpar t ht).1) (fun j t v h1 h2 => ⟨base, hval j t v (by simpa using h1) (by simpa using h2)⟩) hA hI
  obtain ⟨B, hcall⟩ := law A vs i.ext i.inp.far ra
  have hc := hcall m W args.toList i.le i.inp.rel va
  have hc' : Calls P f args W fun e w' => ∃ c m', e = .returned c ∧ m.le m' ∧ Rel (frameOf W) m' B w' ∧ cvo m' (.bool true) = some c := by
    have e : args.toList.toArray = args := by simp
    rw [e] at hc
    exact hc
  refine hc'.mono fun e W' ⟨c, m', h1, _, R, h2⟩ => ?_
  cases h2
  refine ⟨_, h1, ds, gs, p ++ q, [], p, q, hW', ?_, ?_, ?_, ?_, fun h => by cases h⟩
  · rw [hs, hres]
    refine ⟨[], [], ⟨1, ?_⟩, rfl, rfl⟩
    simp [DataW.trod, ht, Value.cells]
  · rw [hs]
    exact trodAll_stays hl R.keep (fun t ht => (hpar t ht).2) hA (fun x hx => hW'.lt x (by simp [hx]))
  · rw [hs]
    rw [hvars] at hV ⊢
    cases gs with
    | nil => exact hV
    | cons g gs => exact hV.elim
  · refine ⟨R.rest.1, R.rest.2, fun j hj => ?_⟩
    have e : W.heap[j]? = some W.heap[j] := Array.getElem?_eq_getElem hj
    rw [R.keep j _ e, e]
    cases W.heap[j] <;> simp
theorem law_callsG (hmx : P.follows .mixedOrders = true) {M0 : Mu} (hp : PgOk M0 P) {A0 : St} (hI : Inp W M0 A0) {D : Disp} {G0 : Env} (hb : BaseOk M0 G0) {fns : Nat → Option AFn} (hfns : ∀ f afn, fns f = some afn → ∃ fn, P.funcs[f]? = some fn ∧ compFn P fn = some afn ∧ fn.name ≠ "runtime.NumGoroutine") {X : Calls'} (hX : GSound P M0 X)
    (hl : laidOutB P = true) {f : FuncId} {fn : Func} {s : ChangeSpec} {t : TypeId} (hvars : s.vars = []) (hres : fn.resultTypes = #[t]) (ht : P.underlying t = some .bool) {k : Nat} (hpar : ∀ t ∈ fn.params.toList, argOk P k t = true ∧ P.readableRec t = true ∧ t < P.types.size)
    {base : Nat} {args : Array Value} {ds gs : List (DataW H)} {before : List MemPlace} (hval : ∀ (j : Nat) t v, fn.params[j]? = some t → args[j]? = some v → Value.okWide P W .any base t v)
    (hW : DataW.Whole enc P fn.params.toList s.vars false W args.toList ds gs before) (hs : s.fn H (ds ++ gs) = { results := [.lit (.bool true)], args := ds })
    (law : ∀ A vs, A0.Ext A → (∀ f, A.next ≤ f → A.get f = none) → argsRd P A fn.params.toList vs ds → Ev D G0 fns X f vs A fun r _ => r = .bool true) (hff : ∃ afn, fns f = some afn := by exact ⟨_, rfl⟩) :
    Calls P f args W fun e W' => ∃ v, e = .returned v ∧ s.post enc P fn false true false false W args v W' :=
  law_callsO hI hl hvars hres ht hpar hval hW hs fun A vs h1 h2 h3 => by
    obtain ⟨n, r, B, hcall, rfl⟩ := law A vs h1 h2 h3
    exact ⟨B, fun m w cargs hm R hc => calls_ok hmx hp hb hfns hX hff hcall hm R hc⟩
end
end Go.AM
