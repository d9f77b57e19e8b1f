/- The abstract machine: starts in which variables of the library lie: tables of numbers, the handle of the type 'error'. -/
import Derived.Test.YtejlhgcheaimjaaGreatDoorAmGlob
import Derived.OpenShut
import Derived.FnData
import Derived.LaidHandle
namespace Go.AM
set_option linter.unusedVariables false
set_option linter.unusedSimpArgs false
section
variable {P : Program} {W : World}
theorem laidVars_mem : ∀ {l : List (String × DataW Unit)} {ps : List MemPlace}, DataW.LaidVars P W l ps → ∀ {n : String} {d : DataW Unit}, (n, d) ∈ l →
    ∃ g t cs fuel p, P.globalNamed n = some g ∧ (P.globals[g]?).map (·.type) = some t ∧ W.var? P n = some cs ∧ DataW.trod (fun _ => ()) P W 0 (fun _ => true) false fuel t cs.toList = some (d, p)
  | [], _, _, _, _, h => by cases h
  | (m, e) :: r, ps, ⟨g, t, cs, fuel, p, q, h1, h2, h3, h4, h5, _⟩, n, d, h => by
    rcases List.mem_cons.1 h with h | h
    · cases h; exact ⟨g, t, cs, fuel, p, h1, h2, h3, h4⟩
    · exact laidVars_mem h5 h
/-- A table of numbers: its cells. -/
theorem table_cells {l : List (String × DataW Unit)} {ps : List MemPlace} (h : DataW.LaidVars P W l ps) {name : String} {g : Nat} {t e : TypeId} {k : IntKind} {ns : List Int} (hm : (name, (.agg (ns.map fun i => .lit (.int k i)) : DataW Unit)) ∈ l) (hg : P.globalNamed name = some g) (ht : (P.globals[g]?).map (·.type) = some t)
    (hu : P.underlying t = some (.array ns.length e)) (he : P.underlying e = some (.int k)) (hc : P.cellsOf e = 1) (hct : P.cellsOf t = ns.length) : g < W.heap.size ∧ ∀ i y, (ns.map (Value.int k))[i]? = some y → W.cell? ⟨g, i, none⟩ = some y := by
  obtain ⟨g', t', cs, fuel, p, h1, h2, h3, h4⟩ := laidVars_mem h hm
  rw [hg] at h1
  cases h1
  rw [ht] at h2
  cases h2
  obtain ⟨xs, m, rfl, hx, hl, hn, hall⟩ := DataW.trod_array hu h4
  have hcell : ∀ i y, (ns.map (Value.int k))[i]? = some y → W.cell? ⟨g, i, none⟩ = some y := fun i y hy => by
    rw [World.var?_cell hg h3 i]
    rw [List.getElem?_map, Option.map_eq_some_iff] at hy
    obtain ⟨z, hz, rfl⟩ := hy
    have hi : i < ns.length := (List.getElem?_eq_some_iff.1 hz).1
    have ha := hall i hi
    rw [hc, Nat.mul_one] at ha
    have hil : i < cs.toList.length := by rw [hl, hct]; exact hi
    obtain ⟨x, hxi⟩ : ∃ x, xs[i]? = some x := ⟨xs[i]'(by omega), List.getElem?_eq_getElem (by omega)⟩
    rw [hxi, List.drop_eq_getElem_cons hil] at ha
    simp only [List.take_succ_cons, List.take_zero] at ha
    obtain ⟨n, hn1, hn2, _⟩ := DataW.trod_int he ha
    have hlit : (xs.map (·.1))[i]? = some (.lit (.int k z)) := by
      have : xs.map (·.1) = ns.map fun i => (.lit (.int k i) : DataW Unit) := by
        simp only [Prod.mk.injEq, DataW.agg.injEq] at hx
        exact hx.1.symm
      rw [this, List.getElem?_map, hz]; rfl
    rw [List.getElem?_map, hxi] at hlit
    simp only [Option.map_some, Option.some.injEq] at hlit
    rw [hn2] at hlit
    simp only [DataW.lit.injEq, Lit.int.injEq, true_and] at hlit
    subst hlit
    simp only [List.cons.injEq, and_true] at hn1
    have : cs[i]? = some cs.toList[i] := by rw [← Array.getElem?_toList, List.getElem?_eq_getElem hil]
    rw [this, hn1]
  refine ⟨?_, hcell⟩
  simp only [World.var?, hg, Option.bind_some] at h3
  split at h3
  · rename_i hh
    exact (Array.getElem?_eq_some_iff.1 hh).1
  · cases h3
/-- The handle of a type. -/
theorem handle_cell {l : List (String × DataW Unit)} (h : handlesMet P l W) {name : String} {txt : List UInt8} {g rt ty : Nat} (hm : (name, (.iface "internal/reflectlite.rtype" (.agg [.ptr (.lit (.string txt))]) : DataW Unit)) ∈ l) (hg : P.globalNamed name = some g)
    (hrt : (P.cutTypes.find? (·.1 == "internal/reflectlite.rtype")).map (·.2) = some rt) {sz : Nat} (hsz : P.types.size = sz) (hone : ((List.range sz).filter fun t => P.rowNamed t txt) = [ty]) {ng : Nat} (hh : typeHandle P ty = .pointer (some ⟨ng, ty, none⟩)) :
    g < W.heap.size ∧ W.cell? ⟨g, 0, none⟩ = some (.iface rt (.agg #[.pointer (some ⟨ng, ty, none⟩)])) := by
  obtain ⟨nm, u, ty', e1, e2, e3, e4, e5⟩ := h _ hm
  have en : nm = txt := (Option.some.inj e1).symm
  subst en
  rw [hrt] at e2
  cases e2
  have hmem : ty' ∈ (List.range sz).filter fun t => P.rowNamed t nm := List.mem_filter.2 ⟨List.mem_range.2 (by rw [← hsz]; exact e3), e4⟩
  rw [hone] at hmem
  obtain rfl := List.mem_singleton.1 hmem
  rw [hh] at e5
  refine ⟨?_, by simpa using World.var?_cell hg e5 0⟩
  simp only [World.var?, hg, Option.bind_some] at e5
  split at e5
  · rename_i hq
    exact (Array.getElem?_eq_some_iff.1 hq).1
  · cases e5

/-! ### Two of them -/
def mu2 (P : Program) (g n h k : Nat) : Mu := (mu1 P g n).add 1 0 ⟨h, 0, 0, k, 1⟩
def st2 (cs ds : List AV) : St := (st1 cs).push (.cells ds [⟨0, 0, ds.length, 1⟩] 1 true)
def env2 (g h : Nat) : Env := T.set (env1 g) (1000000 + h) (.ptr (some (1, 0, 0)))
theorem mu2_inv {P : Program} {g n h k f v : Nat} {l : Loc} (e : mu2 P g n h k f v = some l) : (f = 0 ∧ v = 0 ∧ l = ⟨g, 0, 0, n, 1⟩) ∨ (f = 1 ∧ v = 0 ∧ l = ⟨h, 0, 0, k, 1⟩) := by
  unfold mu2 Mu.add at e
  dsimp only at e
  split at e
  · rename_i c; cases e; exact .inr ⟨c.1, c.2, rfl⟩
  · exact .inl (mu1_inv e)
theorem st2_inv {cs ds : List AV} {f : Nat} {b : Blk} (e : (st2 cs ds).get f = some b) : (f = 0 ∧ b = .cells cs [⟨0, 0, cs.length, 1⟩] 1 true) ∨ (f = 1 ∧ b = .cells ds [⟨0, 0, ds.length, 1⟩] 1 true) := by
  unfold st2 at e
  rw [St.get_push] at e
  split at e
  · rename_i h; cases e; exact .inr ⟨h, rfl⟩
  · exact .inl (st1_inv e)
theorem noPlaces_get : ∀ {l : List AV} {i : Nat} {a : AV}, noPlaces l = true → l[i]? = some a → noPlace a = true
  | [], _, _, _, h => by simp at h
  | b :: l, i, a, h1, h2 => by
    simp only [noPlaces, Bool.and_eq_true] at h1
    cases i with
    | zero => simp at h2; subst h2; exact h1.1
    | succ i => exact noPlaces_get h1.2 (by simpa using h2)
theorem globOk_two {P : Program} {g h : Nat} {cs ds : List AV} (hgh : g ≠ h) (hcs : noPlaces cs = true) (hds : noPlaces ds = true) : GlobOk (mu2 P g cs.length h ds.length) (st2 cs ds) := fun F m A w hm R hs => by
  have h0 : m 0 0 = some ⟨g, 0, 0, cs.length, 1⟩ := hm.loc 0 0 _ (by simp [mu2, mu1, Mu.add])
  have h1 : m 1 0 = some ⟨h, 0, 0, ds.length, 1⟩ := hm.loc 1 0 _ (by simp [mu2, mu1, Mu.add])
  have blk : ∀ (f : Nat) (l : List AV) (L : Loc), f < 2 → noPlaces l = true → (st2 cs ds).get f = some (.cells l [⟨0, 0, l.length, 1⟩] 1 true) → m f 0 = some L → mu2 P g cs.length h ds.length f 0 = some L → blkR (frameOf w) (mu2 P g cs.length h ds.length) w f (.cells l [⟨0, 0, l.length, 1⟩] 1 true) := fun f l L hf hl hg hmf hmu => by
    have hb := R.got f _ (by rw [hs f hf]; exact hg)
    refine ⟨fun x hx => ?_, fun v hv => ?_⟩
    · obtain ⟨lc, c⟩ := hb.1 x hx
      have hx' := List.mem_singleton.1 hx
      subst hx'
      have hl' := c.mu
      rw [hmf] at hl'
      cases hl'
      refine ⟨_, hmu, c.lo, c.sz, c.hi, fun i a q1 q2 q3 => ?_, fun q => by cases q⟩
      obtain ⟨y, hy, hw⟩ := c.cell i a q1 q2 q3
      exact ⟨y, by rw [noPlace_spec m _ a (noPlaces_get hl q3)]; exact hy, hw⟩
    · cases hh : mu2 P g cs.length h ds.length f v with
      | none => rfl
      | some l => rcases mu2_inv hh with ⟨_, e, _⟩ | ⟨_, e, _⟩ <;> omega
  refine ⟨fun f v l e => ?_, fun f b e => ?_, fun cb o h => h, ⟨rfl, rfl⟩, fun f v l f' v' l' _ _ _ ⟨b, hb, hr⟩ => ?_, fun f v l _ ⟨b, hb, hr⟩ => ?_, fun f v l u k e e' he => ?_, fun f l _ ⟨b, hb, hr⟩ => by rcases st2_inv hb with ⟨rfl, rfl⟩ | ⟨rfl, rfl⟩ <;> cases hr⟩
  · rcases mu2_inv e with ⟨rfl, rfl, rfl⟩ | ⟨rfl, rfl, rfl⟩
    · exact ⟨Nat.zero_lt_succ 1, (R.dom _ _ _ h0).2⟩
    · exact ⟨Nat.lt_succ_self 1, (R.dom _ _ _ h1).2⟩
  · rcases st2_inv e with ⟨rfl, rfl⟩ | ⟨rfl, rfl⟩
    · exact blk 0 cs _ (by decide) hcs e h0 (by simp [mu2, mu1, Mu.add])
    · exact blk 1 ds _ (by decide) hds e h1 (by simp [mu2, mu1, Mu.add])
  · rcases st2_inv hb with ⟨rfl, rfl⟩ | ⟨rfl, rfl⟩ <;> cases hr
  · rcases st2_inv hb with ⟨rfl, rfl⟩ | ⟨rfl, rfl⟩ <;> cases hr
  · rcases mu2_inv e with ⟨rfl, rfl, rfl⟩ | ⟨rfl, rfl, rfl⟩ <;> rcases mu2_inv e' with ⟨q, rfl, rfl⟩ | ⟨q, rfl, rfl⟩ <;> first | rfl | (cases q)
theorem inp_two {P : Program} {g h : Nat} {cs ds : List AV} {ys zs : List Value} (hys : cvos (muNone P) cs = some ys) (hzs : cvos (mu1 P g cs.length) ds = some zs) (hcb : g < W.heap.size) (hcb2 : h < W.heap.size) (hcell : ∀ i y, ys[i]? = some y → W.cell? ⟨g, i, none⟩ = some y) (hcell2 : ∀ i y, zs[i]? = some y → W.cell? ⟨h, i, none⟩ = some y) : Inp W (mu2 P g cs.length h ds.length) (st2 cs ds) :=
  ((inp_one hys hcb hcell).push (sz := 1) (cap := ds.length) hzs hcb2 (co := 0) (by simpa using hcell2)).2
theorem baseOk_two {P : Program} {g n h k : Nat} (hgh : g ≠ h) : BaseOk (mu2 P g n h k) (env2 g h) := by
  have hat : ∀ t, Env.at (env2 g h) t = if t = 1000000 + h then .ptr (some (1, 0, 0)) else if t = 1000000 + g then .ptr (some (0, 0, 0)) else .bot := fun t => by
    unfold env2 env1 Env.at
    rw [T.get_set, T.get_set]
    split
    · rfl
    · split
      · rfl
      · rfl
  refine ⟨fun t ht => ?_, fun q => ?_⟩
  · rw [hat, if_neg (by omega), if_neg (by omega)]
  · show slotR _ (Env.at _ (1000000 + q)) _
    rw [hat]
    split
    · rename_i e
      obtain rfl : q = h := by omega
      exact .inr (by simp [cvo, plc, mu2, Mu.add])
    · split
      · rename_i e
        obtain rfl : q = g := by omega
        exact .inr (by simp [cvo, plc, mu2, mu1, Mu.add])
      · exact .inl rfl
end
end Go.AM
