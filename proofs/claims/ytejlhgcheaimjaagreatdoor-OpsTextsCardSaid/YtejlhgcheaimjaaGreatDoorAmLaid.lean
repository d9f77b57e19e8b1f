/- The abstract machine: rows of the library that read what nobody touches (a table, an error that is laid); a family of which nothing is known. -/
import Derived.Test.YtejlhgcheaimjaaGreatDoorAmExt
import Derived.Test.YtejlhgcheaimjaaGreatDoorAmGlob
import Derived.Lib.ItoaNum
import Derived.Lib.ParseIntB
import Derived.Lib.AtoiErrMem
import Derived.Lib.LaidTab
import Derived.Sort.Grow
import Derived.Deep.Draws
import Derived.OpenShut
import Derived.FnData
import Derived.LaidHandle
namespace Go.AM
set_option linter.unusedVariables false
set_option linter.unusedSimpArgs false

/-- A family of which nothing is known. -/
def St.ghost (A : St) : St := A.push (.cells [] [] 1 true)
section
variable {P : Program} {F : Fr} {M0 m : Mu} {A B : St} {w w' : World}
theorem Rel.ghost (R : Rel F m A w) {N : Nat} (hN : N < w.heap.size) (hn : ∀ f v l, m f v = some l → l.cb ≠ N) : Rel F (m.add A.next 0 ⟨N, 0, 0, 0, 1⟩) A.ghost w ∧ m.le (m.add A.next 0 ⟨N, 0, 0, 0, 1⟩) := by
  have hnone : ∀ v, m A.next v = none := fun v => by
    cases h : m A.next v with
    | none => rfl
    | some l => exact absurd (R.dom _ _ _ h).1 (by omega)
  have hle := Mu.le_add ⟨N, 0, 0, 0, 1⟩ (hnone 0)
  have hof : ∀ g u k, (m.add A.next 0 ⟨N, 0, 0, 0, 1⟩) g u = some k → (g = A.next ∧ u = 0 ∧ k = ⟨N, 0, 0, 0, 1⟩) ∨ (g ≠ A.next ∧ m g u = some k) := by
    intro g u k h
    unfold Mu.add at h
    dsimp only at h
    split at h
    · rename_i c; cases h; exact .inl ⟨c.1, c.2, rfl⟩
    · refine .inr ⟨?_, h⟩
      intro hg; subst hg; rw [hnone] at h; cases h
  have hRw : ∀ f, A.ghost.Rw f → f ≠ A.next ∧ A.Rw f := fun f ⟨b, hb, hr⟩ => by
    unfold St.ghost at hb
    rw [St.get_push] at hb
    split at hb
    · cases hb; cases hr
    · rename_i h; exact ⟨h, b, hb, hr⟩
  refine ⟨⟨fun f v l h => ?_, fun f b h => ?_, R.keep, R.rest, fun f v l g u k h1 h2 hne hf => ?_, fun f v l h1 h2 => ?_, fun f v l u k h1 h2 he => ?_, fun f l h1 h2 => ?_, R.frm⟩, hle⟩
  · rcases hof f v l h with ⟨rfl, rfl, rfl⟩ | ⟨_, h⟩
    · exact ⟨Nat.lt_succ_self _, hN⟩
    · exact ⟨Nat.lt_succ_of_lt (R.dom _ _ _ h).1, (R.dom _ _ _ h).2⟩
  · unfold St.ghost at h
    rw [St.get_push] at h
    split at h
    · rename_i hf
      subst hf
      cases h
      refine ⟨fun x hx => (by cases hx), fun v hv => ?_⟩
      simp only [Mu.add]
      rw [if_neg (by rintro ⟨_, h⟩; omega)]
      exact hnone v
    · rename_i hf
      exact blkR_mono hle (fun u hu => by simp only [Mu.add]; rw [if_neg (by rintro ⟨q, _⟩; exact hf q)]; exact hu) (R.got f b h) (fun _ _ _ => rfl)
  · obtain ⟨hfn, hf⟩ := hRw f hf
    rcases hof f v l h1 with ⟨rfl, _, _⟩ | ⟨_, h1⟩
    · exact absurd rfl hfn
    · rcases hof g u k h2 with ⟨_, _, rfl⟩ | ⟨_, h2⟩
      · exact hn _ _ _ h1
      · exact R.apart f v l g u k h1 h2 hne hf
  · obtain ⟨hfn, hf⟩ := hRw f h2
    rcases hof f v l h1 with ⟨rfl, _, _⟩ | ⟨_, h1⟩
    · exact absurd rfl hfn
    · exact R.unf f v l h1 hf
  · rcases hof f v l h1 with ⟨rfl, _, rfl⟩ | ⟨n1, h1⟩ <;> rcases hof _ u k h2 with ⟨e, _, rfl⟩ | ⟨n2, h2⟩
    · rfl
    · exact absurd rfl n2
    · exact absurd e n1
    · exact R.same f v l u k h1 h2 he
  · obtain ⟨hfn, hf⟩ := hRw f h2
    rcases hof f 0 l h1 with ⟨rfl, _, _⟩ | ⟨_, h1⟩
    · exact absurd rfl hfn
    · exact R.orig f l h1 hf
theorem ext_ghost (A : St) : A.Ext A.ghost := ext_push _ _

/-- A number's text. -/
def fmtX : List AV → St → Option (AV × St)
  | [.int .i64 n, .int .i64 b], A => if b = 10 ∧ -9223372036854775808 ≤ n ∧ n ≤ 9223372036854775807 then some (.str (Lib.itoa n), A) else none
  | _, _ => none
theorem fmt_ok {f : FuncId} {name : String} (hfmt : ∀ (n : Int), -9223372036854775808 ≤ n → n ≤ 9223372036854775807 → ∀ w : World, Lib.TabIs P w name .u64 Lib.pow10Tab → Calls P f #[.int .i64 n, .int .i64 10] w fun e w' => e = .returned (.string ⟨(Lib.itoa n).toArray⟩) ∧ ∃ k os, w' = Sort.grow (w.drewN k) os)
    (htab : ∀ w : World, TabOk M0.tab (fun g => w.heap[g]?) → Lib.TabIs P w name .u64 Lib.pow10Tab) {args : List AV} {r : AV} (h : fmtX args A = some (r, B)) (hm : M0.le m) (R : Rel F m A w) {cargs : List Value} (hc : cvos m args = some cargs) : CallOk P F m r B f cargs.toArray w := by
  unfold fmtX at h
  split at h
  · rename_i n b
    split at h
    · rename_i hb
      obtain ⟨rfl, h0, h1⟩ := hb
      simp only [Option.some.injEq, Prod.mk.injEq] at h
      obtain ⟨rfl, rfl⟩ := h
      simp only [cvos, cvo, Option.some.injEq] at hc
      subst hc
      refine (hfmt n h0 h1 w (htab w (R.tabOk hm))).mono fun e w' ⟨he, k, os, hw⟩ => ?_
      subst he hw
      exact ⟨_, m, rfl, Mu.le_refl m, R.extended (fun cb o ho => by
        show (w.heap ++ os)[cb]? = some o
        rw [Array.getElem?_append_left (Array.getElem?_eq_some_iff.1 ho).1]
        exact ho) rfl rfl, by simp [cvo]⟩
    · cases h
  · cases h
/-- The number of a text, if it is one; the number beside an error. -/
def parseV (s : List UInt8) : Option Int × Int :=
  match Lib.parseIntB 64 s with
  | .ok v => (some v, v)
  | .range => (none, Lib.intSat 64 s)
  | _ => (none, 0)
def parseX (T : TypeId) : List AV → St → Option (AV × St)
  | [.str s, .int .i64 b, .int .i64 z], A => if b = 10 ∧ z = 64 ∧ s.length ≤ 281474976710656 then (match parseV s with
    | (some v, _) => some (.tuple [.int .i64 v, .nilIface], A)
    | (none, v) => some (.tuple [.int .i64 v, .iface T (.ptr (some (A.next, 0, 0)))], A.ghost)) else none
  | _, _ => none
theorem parse_ok {f : FuncId} {T T5 : TypeId}
    (hok : ∀ (s : ByteArray), s.size ≤ 9223372036854775806 → ∀ v : Int, Lib.parseIntB 64 s.data.toList = .ok v → ∀ w : World, Calls P f #[.string s, .int .i64 10, .int .i64 64] w fun e w' => e = .returned (.tuple #[.int .i64 v, .nilIface]) ∧ (w' = w ∨ ∃ t, w' = Lib.bytesWorld w T5 t))
    (hbad : ∀ (s : ByteArray), s.size ≤ 281474976710656 → (parseV s.data.toList).1 = none → ∀ w : World, TabOk M0.tab (fun g => w.heap[g]?) → Calls P f #[.string s, .int .i64 10, .int .i64 64] w fun e w' => ∃ N, e = .returned (.tuple #[.int .i64 (parseV s.data.toList).2, .iface T (.pointer (some ⟨N, 0, none⟩))]) ∧ w.heap.size ≤ N ∧ (∃ o, w'.heap[N]? = some o) ∧ RowKit.Below w.heap.size w w')
    {args : List AV} {r : AV} (h : parseX T args A = some (r, B)) (hm : M0.le m) (R : Rel F m A w) {cargs : List Value} (hc : cvos m args = some cargs) : CallOk P F m r B f cargs.toArray w := by
  unfold parseX at h
  split at h
  · rename_i s b z
    split at h
    · rename_i hb
      obtain ⟨rfl, rfl, hl⟩ := hb
      simp only [cvos, cvo, Option.some.injEq] at hc
      subst hc
      have hsz : (⟨s.toArray⟩ : ByteArray).size ≤ 281474976710656 := by show s.toArray.size ≤ _; simpa using hl
      split at h
      · rename_i v x hv
        simp only [Option.some.injEq, Prod.mk.injEq] at h
        obtain ⟨rfl, rfl⟩ := h
        have hp : Lib.parseIntB 64 s = .ok v := by
          unfold parseV at hv
          split at hv
          · rename_i v' hv'
            cases hv
            exact hv'
          · cases hv
          · cases hv
        refine (hok ⟨s.toArray⟩ (by omega) v (by simpa using hp) w).mono fun e w' ⟨he, hw⟩ => ?_
        subst he
        refine ⟨_, m, rfl, Mu.le_refl m, ?_, by simp [cvo, cvos]⟩
        rcases hw with rfl | ⟨t, rfl⟩
        · exact R
        · exact R.below (Nat.le_refl _) (Lib.bytesWorld_below _ _ _)
      · rename_i v hv
        simp only [Option.some.injEq, Prod.mk.injEq] at h
        obtain ⟨rfl, rfl⟩ := h
        have h1 : (parseV s).1 = none := by rw [hv]
        have h2 : (parseV s).2 = v := by rw [hv]
        refine (hbad ⟨s.toArray⟩ hsz (by simpa using h1) w (R.tabOk hm)).mono fun e w' ⟨N, he, hN, ⟨o, ho⟩, hw⟩ => ?_
        subst he
        have R' := R.below (Nat.le_refl _) hw
        obtain ⟨R2, hle⟩ := R'.ghost (N := N) (Array.getElem?_eq_some_iff.1 ho).1 (fun f v l hf => by have := (R.dom f v l hf).2; omega)
        refine ⟨_, _, rfl, hle, R2, ?_⟩
        simp [cvo, cvos, plc, Mu.add, h2]
    · cases h
  · cases h
end
end Go.AM
/- The abstract machine: starts in which variables of the library lie: tables of numbers, the handle of the type 'error'. -/
namespace Go.AM
set_option linter.unusedVariables false
set_option linter.unusedSimpArgs false
section
variable {P : Program} {W : World}
theorem laidVars_mem : ∀ {l : List (String × DataW Unit)} {ps : List MemPlace}, DataW.LaidVars P W l ps → ∀ {n : String} {d : DataW Unit}, (n, d) ∈ l →
    ∃ g t cs fuel p, P.globalNamed n = some g ∧ (P.globals[g]?).map (·.type) = some t ∧ W.var? P n = some cs ∧ DataW.trod (fun _ => ()) P W 0 (fun _ => true) false fuel t cs.toList = some (d, p)
  | [], _, _, _, _, h => by cases h
  | (m, e) :: r, ps, ⟨g, t, cs, fuel, p, q, h1, h2, h3, h4, h5, _⟩, n, d, h => by
    rcases List.mem_cons.1 h with h | h
    · cases h; exact ⟨g, t, cs, fuel, p, h1, h2, h3, h4⟩
    · exact laidVars_mem h5 h
/-- A table of numbers: its cells. -/
theorem table_cells {l : List (String × DataW Unit)} {ps : List MemPlace} (h : DataW.LaidVars P W l ps) {name : String} {g : Nat} {t e : TypeId} {k : IntKind} {ns : List Int} (hm : (name, (.agg (ns.map fun i => .lit (.int k i)) : DataW Unit)) ∈ l) (hg : P.globalNamed name = some g) (ht : (P.globals[g]?).map (·.type) = some t)
    (hu : P.underlying t = some (.array ns.length e)) (he : P.underlying e = some (.int k)) (hc : P.cellsOf e = 1) (hct : P.cellsOf t = ns.length) : g < W.heap.size ∧ ∀ i y, (ns.map (Value.int k))[i]? = some y → W.cell? ⟨g, i, none⟩ = some y := by
  obtain ⟨g', t', cs, fuel, p, h1, h2, h3, h4⟩ := laidVars_mem h hm
  rw [hg] at h1
  cases h1
  rw [ht] at h2
  cases h2
  obtain ⟨xs, m, rfl, hx, hl, hn, hall⟩ := DataW.trod_array hu h4
  have hcell : ∀ i y, (ns.map (Value.int k))[i]? = some y → W.cell? ⟨g, i, none⟩ = some y := fun i y hy => by
    rw [World.var?_cell hg h3 i]
    rw [List.getElem?_map, Option.map_eq_some_iff] at hy
    obtain ⟨z, hz, rfl⟩ := hy
    have hi : i < ns.length := (List.getElem?_eq_some_iff.1 hz).1
    have ha := hall i hi
    rw [hc, Nat.mul_one] at ha
    have hil : i < cs.toList.length := by rw [hl, hct]; exact hi
    obtain ⟨x, hxi⟩ : ∃ x, xs[i]? = some x := ⟨xs[i]'(by omega), List.getElem?_eq_getElem (by omega)⟩
    rw [hxi, List.drop_eq_getElem_cons hil] at ha
    simp only [List.take_succ_cons, List.take_zero] at ha
    obtain ⟨n, hn1, hn2, _⟩ := DataW.trod_int he ha
    have hlit : (xs.map (·.1))[i]? = some (.lit (.int k z)) := by
      have : xs.map (·.1) = ns.map fun i => (.lit (.int k i) : DataW Unit) := by
        simp only [Prod.mk.injEq, DataW.agg.injEq] at hx
        exact hx.1.symm
      rw [this, List.getElem?_map, hz]; rfl
    rw [List.getElem?_map, hxi] at hlit
    simp only [Option.map_some, Option.some.injEq] at hlit
    rw [hn2] at hlit
    simp only [DataW.lit.injEq, Lit.int.injEq, true_and] at hlit
    subst hlit
    simp only [List.cons.injEq, and_true] at hn1
    have : cs[i]? = some cs.toList[i] := by rw [← Array.getElem?_toList, List.getElem?_eq_getElem hil]
    rw [this, hn1]
  refine ⟨?_, hcell⟩
  simp only [World.var?, hg, Option.bind_some] at h3
  split at h3
  · rename_i hh
    exact (Array.getElem?_eq_some_iff.1 hh).1
  · cases h3
/-- A table of numbers: the variable, whole. -/
theorem table_var {l : List (String × DataW Unit)} {ps : List MemPlace} (h : DataW.LaidVars P W l ps) {name : String} {g : Nat} {t e : TypeId} {k : IntKind} {ns : List Int} (hm : (name, (.agg (ns.map fun i => .lit (.int k i)) : DataW Unit)) ∈ l) (hg : P.globalNamed name = some g) (ht : (P.globals[g]?).map (·.type) = some t)
    (hu : P.underlying t = some (.array ns.length e)) (he : P.underlying e = some (.int k)) (hc : P.cellsOf e = 1) (hct : P.cellsOf t = ns.length) : W.var? P name = some (ns.map (Value.int k)).toArray := by
  obtain ⟨_, hcells⟩ := table_cells h hm hg ht hu he hc hct
  obtain ⟨g', t', cs, fuel, p, h1, h2, h3, h4⟩ := laidVars_mem h hm
  rw [hg] at h1
  cases h1
  rw [ht] at h2
  cases h2
  obtain ⟨xs, m, rfl, hx, hl, hn, hall⟩ := DataW.trod_array hu h4
  rw [h3]
  congr 1
  apply Array.ext
  · simp only [List.size_toArray, List.length_map]
    rw [← Array.length_toList, hl, hct]
  · intro i hi1 hi2
    have hi : i < ns.length := by simpa using hi2
    have hq := hcells i _ (List.getElem?_eq_getElem (by simpa using hi))
    rw [World.var?_cell hg h3 i, Array.getElem?_eq_getElem hi1] at hq
    simpa using hq
theorem var_block {name : String} {g : Nat} {cs : Array Value} (hg : P.globalNamed name = some g) (h : W.var? P name = some cs) : ∃ e fz, W.heap[g]? = some (.cells cs e fz) := by
  unfold World.var? at h
  rw [hg] at h
  simp only [Option.bind_some] at h
  split at h
  · rename_i c e fz hh
    cases h
    exact ⟨e, fz, hh⟩
  · cases h
/-- The handle of a type. -/
theorem handle_cell {l : List (String × DataW Unit)} (h : handlesMet P l W) {name : String} {txt : List UInt8} {g rt ty : Nat} (hm : (name, (.iface "internal/reflectlite.rtype" (.agg [.ptr (.lit (.string txt))]) : DataW Unit)) ∈ l) (hg : P.globalNamed name = some g)
    (hrt : (P.cutTypes.find? (·.1 == "internal/reflectlite.rtype")).map (·.2) = some rt) {sz : Nat} (hsz : P.types.size = sz) (hone : ((List.range sz).filter fun t => P.rowNamed t txt) = [ty]) {ng : Nat} (hh : typeHandle P ty = .pointer (some ⟨ng, ty, none⟩)) :
    g < W.heap.size ∧ W.cell? ⟨g, 0, none⟩ = some (.iface rt (.agg #[.pointer (some ⟨ng, ty, none⟩)])) := by
  obtain ⟨nm, u, ty', e1, e2, e3, e4, e5⟩ := h _ hm
  have en : nm = txt := (Option.some.inj e1).symm
  subst en
  rw [hrt] at e2
  cases e2
  have hmem : ty' ∈ (List.range sz).filter fun t => P.rowNamed t nm := List.mem_filter.2 ⟨List.mem_range.2 (by rw [← hsz]; exact e3), e4⟩
  rw [hone] at hmem
  obtain rfl := List.mem_singleton.1 hmem
  rw [hh] at e5
  refine ⟨?_, by simpa using World.var?_cell hg e5 0⟩
  simp only [World.var?, hg, Option.bind_some] at e5
  split at e5
  · rename_i hq
    exact (Array.getElem?_eq_some_iff.1 hq).1
  · cases e5

/-! ### Two of them -/
def mu2 (P : Program) (g n h k : Nat) (t : List (Nat × (Array Value → Prop)) := []) : Mu := (mu1 P g n t).add 1 0 ⟨h, 0, 0, k, 1⟩
def st2 (cs ds : List AV) : St := (st1 cs).push (.cells ds [⟨0, 0, ds.length, 1⟩] 1 true)
def env2 (g h : Nat) : Env := T.set (env1 g) (1000000 + h) (.ptr (some (1, 0, 0)))
theorem mu2_inv {P : Program} {t : List (Nat × (Array Value → Prop))} {g n h k f v : Nat} {l : Loc} (e : mu2 P g n h k t f v = some l) : (f = 0 ∧ v = 0 ∧ l = ⟨g, 0, 0, n, 1⟩) ∨ (f = 1 ∧ v = 0 ∧ l = ⟨h, 0, 0, k, 1⟩) := by
  unfold mu2 Mu.add at e
  dsimp only at e
  split at e
  · rename_i c; cases e; exact .inr ⟨c.1, c.2, rfl⟩
  · exact .inl (mu1_inv e)
theorem st2_inv {cs ds : List AV} {f : Nat} {b : Blk} (e : (st2 cs ds).get f = some b) : (f = 0 ∧ b = .cells cs [⟨0, 0, cs.length, 1⟩] 1 true) ∨ (f = 1 ∧ b = .cells ds [⟨0, 0, ds.length, 1⟩] 1 true) := by
  unfold st2 at e
  rw [St.get_push] at e
  split at e
  · rename_i h; cases e; exact .inr ⟨h, rfl⟩
  · exact .inl (st1_inv e)
theorem noPlaces_get : ∀ {l : List AV} {i : Nat} {a : AV}, noPlaces l = true → l[i]? = some a → noPlace a = true
  | [], _, _, _, h => by simp at h
  | b :: l, i, a, h1, h2 => by
    simp only [noPlaces, Bool.and_eq_true] at h1
    cases i with
    | zero => simp at h2; subst h2; exact h1.1
    | succ i => exact noPlaces_get h1.2 (by simpa using h2)
theorem globOk_two {P : Program} {t : List (Nat × (Array Value → Prop))} {g h : Nat} {cs ds : List AV} (hgh : g ≠ h) (hcs : noPlaces cs = true) (hds : noPlaces ds = true) : GlobOk (mu2 P g cs.length h ds.length t) (st2 cs ds) := fun F m A w hm R hs => by
  have h0 : m 0 0 = some ⟨g, 0, 0, cs.length, 1⟩ := hm.loc 0 0 _ (by simp [mu2, mu1, Mu.add])
  have h1 : m 1 0 = some ⟨h, 0, 0, ds.length, 1⟩ := hm.loc 1 0 _ (by simp [mu2, mu1, Mu.add])
  have blk : ∀ (f : Nat) (l : List AV) (L : Loc), f < 2 → noPlaces l = true → (st2 cs ds).get f = some (.cells l [⟨0, 0, l.length, 1⟩] 1 true) → m f 0 = some L → mu2 P g cs.length h ds.length t f 0 = some L → blkR (frameOf w) (mu2 P g cs.length h ds.length t) w f (.cells l [⟨0, 0, l.length, 1⟩] 1 true) := fun f l L hf hl hg hmf hmu => by
    have hb := R.got f _ (by rw [hs f hf]; exact hg)
    refine ⟨fun x hx => ?_, fun v hv => ?_⟩
    · obtain ⟨lc, c⟩ := hb.1 x hx
      have hx' := List.mem_singleton.1 hx
      subst hx'
      have hl' := c.mu
      rw [hmf] at hl'
      cases hl'
      refine ⟨_, hmu, c.lo, c.sz, c.hi, fun i a q1 q2 q3 => ?_, fun q => by cases q⟩
      obtain ⟨y, hy, hw⟩ := c.cell i a q1 q2 q3
      exact ⟨y, by rw [noPlace_spec m _ a (noPlaces_get hl q3)]; exact hy, hw⟩
    · cases hh : mu2 P g cs.length h ds.length t f v with
      | none => rfl
      | some l => rcases mu2_inv hh with ⟨_, e, _⟩ | ⟨_, e, _⟩ <;> omega
  refine ⟨fun f v l e => ?_, fun f b e => ?_, fun cb o h => h, ⟨rfl, rfl⟩, fun f v l f' v' l' _ _ _ ⟨b, hb, hr⟩ => ?_, fun f v l _ ⟨b, hb, hr⟩ => ?_, fun f v l u k e e' he => ?_, fun f l _ ⟨b, hb, hr⟩ => (by rcases st2_inv hb with ⟨rfl, rfl⟩ | ⟨rfl, rfl⟩ <;> cases hr), R.tabOk hm⟩
  · rcases mu2_inv e with ⟨rfl, rfl, rfl⟩ | ⟨rfl, rfl, rfl⟩
    · exact ⟨Nat.zero_lt_succ 1, (R.dom _ _ _ h0).2⟩
    · exact ⟨Nat.lt_succ_self 1, (R.dom _ _ _ h1).2⟩
  · rcases st2_inv e with ⟨rfl, rfl⟩ | ⟨rfl, rfl⟩
    · exact blk 0 cs _ (by decide) hcs e h0 (by simp [mu2, mu1, Mu.add])
    · exact blk 1 ds _ (by decide) hds e h1 (by simp [mu2, mu1, Mu.add])
  · rcases st2_inv hb with ⟨rfl, rfl⟩ | ⟨rfl, rfl⟩ <;> cases hr
  · rcases st2_inv hb with ⟨rfl, rfl⟩ | ⟨rfl, rfl⟩ <;> cases hr
  · rcases mu2_inv e with ⟨rfl, rfl, rfl⟩ | ⟨rfl, rfl, rfl⟩ <;> rcases mu2_inv e' with ⟨q, rfl, rfl⟩ | ⟨q, rfl, rfl⟩ <;> first | rfl | (cases q)
theorem inp_two {P : Program} {t : List (Nat × (Array Value → Prop))} {g h : Nat} {cs ds : List AV} {ys zs : List Value} (hys : cvos (muNone P t) cs = some ys) (hzs : cvos (mu1 P g cs.length t) ds = some zs) (hcb : g < W.heap.size) (hcb2 : h < W.heap.size) (hcell : ∀ i y, ys[i]? = some y → W.cell? ⟨g, i, none⟩ = some y) (hcell2 : ∀ i y, zs[i]? = some y → W.cell? ⟨h, i, none⟩ = some y) (ht : TabOk t (fun g => W.heap[g]?) := by exact tabOk_nil _) : Inp W (mu2 P g cs.length h ds.length t) (st2 cs ds) :=
  ((inp_one hys hcb hcell ht).push (sz := 1) (cap := ds.length) hzs hcb2 (co := 0) (by simpa using hcell2)).2
theorem baseOk_two {P : Program} {t : List (Nat × (Array Value → Prop))} {g n h k : Nat} (hgh : g ≠ h) : BaseOk (mu2 P g n h k t) (env2 g h) := by
  have hat : ∀ t, Env.at (env2 g h) t = if t = 1000000 + h then .ptr (some (1, 0, 0)) else if t = 1000000 + g then .ptr (some (0, 0, 0)) else .bot := fun t => by
    unfold env2 env1 Env.at
    rw [T.get_set, T.get_set]
    split
    · rfl
    · split
      · rfl
      · rfl
  refine ⟨fun t ht => ?_, fun q => ?_⟩
  · rw [hat, if_neg (by omega), if_neg (by omega)]
  · show slotR _ (Env.at _ (1000000 + q)) _
    rw [hat]
    split
    · rename_i e
      obtain rfl : q = h := by omega
      exact .inr (by simp [cvo, plc, mu2, Mu.add])
    · split
      · rename_i e
        obtain rfl : q = g := by omega
        exact .inr (by simp [cvo, plc, mu2, mu1, Mu.add])
      · exact .inl rfl
end
end Go.AM
