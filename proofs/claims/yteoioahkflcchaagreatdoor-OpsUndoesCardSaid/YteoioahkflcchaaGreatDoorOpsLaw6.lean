/- The rows of the fourth law. -/
import Derived.Test.YteoioahkflcchaaGreatDoorOpsUnd23
import Derived.Test.YteoioahkflcchaaGreatDoorOpsSort
namespace Go.Proofs.YteoioahkflcchaaGreatDoor
open Go Go.AM
set_option maxRecDepth 100000
set_option linter.unusedSimpArgs false

theorem fnsL_comp6 : ∀ f afn, fnsL f = some afn → ∃ fn, Tryz.prog.funcs[f]? = some fn ∧ compFn Tryz.prog fn = some afn ∧ fn.name ≠ "runtime.NumGoroutine" := fun f afn hf => fns_ok f afn (by
  unfold fnsL at hf
  cases hc : Nat.beq f 12 || (Nat.beq f 23 || (Nat.beq f 36 || (Nat.beq f 43 || Nat.beq f 44))) with
  | true => rw [hc] at hf; cases hf
  | false => rw [hc] at hf; exact hf)
theorem baseA : Base Tryz.prog M0 G0 fnsL XA := ⟨mixed, baseOk_two (by decide), fnsL_comp6, xa_ok⟩
theorem has23 : Has Tryz.prog 23 a23 := ⟨fns_ok 23 a23 rfl⟩
/-- What a call comes to, whichever way, as a row. -/
theorem evS_row {P : Program} {M0 : Mu} {f : FuncId} {args : List AV} {A : St} {r0 : AV} (h : EvS P M0 f args A (fun r B => A.Ext B ∧ r = r0)) (hr : noPlace r0 = true) :
    (∃ fn, P.funcs[f]? = some fn ∧ fn.body.isSome = true ∧ fn.name ≠ "runtime.NumGoroutine") ∧ ∀ F m w cargs, M0.le m → Rel F m A w → cvos m args = some cargs → CallOk P F m r0 A f cargs.toArray w :=
  ⟨h.1, fun F m w cargs hm R hc => (h.2 F m w cargs hm R hc).mono fun e w' ⟨r, B, c, m', ⟨hx, hr1⟩, he, hle, R', hcv⟩ => ⟨c, m, he, Mu.le_refl m, canon0 R R' hle hx.get, by rw [← noPlace_spec m m' r0 hr, ← hr1]; exact hcv⟩⟩
def UndoArgs (args : List AV) (A : St) (p : AV × AV × List OpD × List OpD) : Prop :=
  args = [p.1, p.2.1] ∧ Sl A 4 p.1 (opsCells p.2.2.1) ∧ Sl A 4 p.2.1 (opsCells p.2.2.2) ∧ p.2.2.1.length < 100000 ∧ p.2.2.2.length < 100000
open Classical in
noncomputable def undoX : Calls' := fun f args A => if h : f = 23 ∧ ∃ p, UndoArgs args A p then some (.bool (undoesL (Classical.choose h.2).2.2.1 (Classical.choose h.2).2.2.2), A) else none
theorem undoX_ok : GSound Tryz.prog M0 undoX := fun f args A r B h => by
  unfold undoX at h
  split at h
  · rename_i hh
    obtain ⟨hf, hex⟩ := hh
    subst hf
    cases h
    obtain ⟨h1, h2, h3, h4, h5⟩ := Classical.choose_spec hex
    have := evS_row (undoes_any baseA has23 h2 h3 h4 h5) rfl
    rw [← h1] at this
    exact .inl this
  · cases h
theorem sl_fun {A : St} {sz : Nat} {s : AV} {cs ds : List AV} (h : Sl A sz s cs) (h' : Sl A sz s ds) : cs = ds := by
  cases h with
  | nil => cases h'; rfl
  | mem hf hc hq =>
    cases h' with
    | mem hf' hc' hq' => rw [hc] at hc'; exact Option.some.inj hc'
theorem opsCells_inj : ∀ {l r : List OpD}, opsCells l = opsCells r → l = r
  | [], [], _ => rfl
  | [], o :: r, h => by simp [opsCells, OpD.cells] at h
  | o :: l, [], h => by simp [opsCells, OpD.cells] at h
  | o :: l, x :: r, h => by
    simp [opsCells, OpD.cells] at h
    obtain ⟨h1, h2, h3, h4, h5⟩ := h
    rw [opsCells_inj h5]
    cases o
    cases x
    simp_all
theorem undoX_at {A : St} {s t : AV} {l u : List OpD} (hs : Sl A 4 s (opsCells l)) (ht : Sl A 4 t (opsCells u)) (h1 : l.length < 100000) (h2 : u.length < 100000) : undoX 23 [s, t] A = some (.bool (undoesL l u), A) := by
  have hex : ∃ p, UndoArgs [s, t] A p := ⟨(s, t, l, u), rfl, hs, ht, h1, h2⟩
  unfold undoX
  rw [dif_pos ⟨rfl, hex⟩]
  obtain ⟨e1, e2, e3, _, _⟩ := Classical.choose_spec hex
  generalize Classical.choose hex = p at *
  simp at e1
  rw [← e1.1] at e2
  rw [← e1.2] at e3
  rw [opsCells_inj (sl_fun e2 hs), opsCells_inj (sl_fun e3 ht)]
def XK : Calls' := fun f args A => match f, args with
  | 43, [s] => sortSX A s
  | 44, [s] => compactX A s
  | _, _ => none
theorem xk_ok : GSound Tryz.prog M0 XK := fun f args A r B h => by
  unfold XK at h
  split at h
  · exact .inl ⟨⟨_, Tryz.func43, by kernel_rfl, by unfold Tryz.f43; decide⟩, fun F m w cargs _ R hc => sortS_by (fun p cap w => Tryz.slices_Sort_string_none p cap w) (fun blk off cap zs w h1 h2 h3 => Tryz.slices_Sort_string blk off cap zs w h1 h2 h3) h R hc⟩
  · exact .inl ⟨⟨_, Tryz.func44, by kernel_rfl, by unfold Tryz.f44; decide⟩, fun F m w cargs _ R hc => compactX_ok (fun p cap w => Tryz.slices_Compact_string_empty p cap w) (fun blk off cap zs w h1 h2 h3 => Tryz.slices_Compact_string blk off cap zs w h1 h2 h3) h R hc⟩
  · cases h
noncomputable def X6 : Calls' := orX XA (orX XK undoX)
theorem x6_ok : GSound Tryz.prog M0 X6 := orX_sound xa_ok (orX_sound xk_ok undoX_ok)
theorem x6_43 (s : AV) (A : St) (r : AV × St) (h : sortSX A s = some r) : X6 43 [s] A = some r := by
  have h1 : XA 43 [s] A = none := rfl
  have h2 : XK 43 [s] A = some r := h
  unfold X6 orX
  rw [h1]
  simp only [h2]
theorem x6_44 (s : AV) (A : St) (r : AV × St) (h : compactX A s = some r) : X6 44 [s] A = some r := by
  have h1 : XA 44 [s] A = none := rfl
  have h2 : XK 44 [s] A = some r := h
  unfold X6 orX
  rw [h1]
  simp only [h2]
theorem x6_23 {A : St} {s t : AV} {l u : List OpD} (hs : Sl A 4 s (opsCells l)) (ht : Sl A 4 t (opsCells u)) (h1 : l.length < 100000) (h2 : u.length < 100000) : X6 23 [s, t] A = some (.bool (undoesL l u), A) := by
  have e1 : XA 23 [s, t] A = none := rfl
  have e2 : XK 23 [s, t] A = none := rfl
  unfold X6 orX
  rw [e1]
  simp only [e2]
  exact undoX_at hs ht h1 h2
theorem undoes_spec {A : St} {s t : AV} {l u : List OpD} (hs : Sl A 4 s (opsCells l)) (ht : Sl A 4 t (opsCells u)) (h1 : l.length < 100000) (h2 : u.length < 100000) : Ev D0 G0 fnsL X6 23 [s, t] A fun r B => A = B ∧ r = .bool (undoesL l u) :=
  Ev.ext rfl (x6_23 hs ht h1 h2) ⟨rfl, rfl⟩
theorem awake6_spec {A : St} (h : A0.Ext A) : Ev D0 G0 fnsL X6 12 [] A fun r B => A = B ∧ r = .bool true := by
  refine Ev.ext rfl (r := .bool true) (B := A) ?_ ⟨rfl, rfl⟩
  have := xa_true h.get
  unfold X6 orX
  simp only [this]
end Go.Proofs.YteoioahkflcchaaGreatDoor
/- The fourth law: what takes back what others did, and the keys. -/
namespace Go.Proofs.YteoioahkflcchaaGreatDoor
open Go.AM
set_option maxRecDepth 100000
set_option linter.unusedSimpArgs false

theorem undoes_backs {l : List OpD} (h : invOk l = true) : undoesL l (backsL l) = true := by
  have hg := backs_good (invOk_good h)
  have hk : kindsL [1, 4, 5, 6] l = true := by
    unfold invOk at h
    rw [Bool.and_eq_true] at h
    exact h.1
  have hk2 : kindsL [1, 6] (backsL l) = true := by
    unfold kindsL
    rw [Bool.not_eq_true', List.any_eq_false]
    intro o ho
    simp [(hg o ho).2]
  unfold undoesL allB2
  rw [hk, hk2, Bool.true_and, Bool.true_and, List.all_eq_true]
  intro o _
  unfold zeroS
  rw [decide_eq_true_eq, sum_append, wrapU_eq]
  have := sum_backs o.key l
  omega
theorem leq_str (a b : List UInt8) : binOf .leq (.str a) (.str b) = some (.bool (leS a b)) := by
  have : (bytesLess a b || a == b) = leS a b := by
    unfold leS
    cases h1 : bytesLess b a with
    | true =>
      have h2 : bytesLess a b = false := by
        cases h3 : bytesLess a b with
        | false => rfl
        | true =>
          have e1 : leS a b = false := by unfold leS; rw [h1]; rfl
          have e2 : leS b a = false := by unfold leS; rw [h3]; rfl
          have := leS_total a b
          rw [e1, e2] at this
          cases this
      have h3 : (a == b) = false := by
        cases h4 : a == b with
        | false => rfl
        | true =>
          have : a = b := by simpa using h4
          subst this
          rw [h1] at h2
          cases h2
      rw [h2, h3]
      rfl
    | false =>
      cases h2 : bytesLess a b with
      | true => rfl
      | false =>
        have e1 : leS a b = true := by unfold leS; rw [h1]; rfl
        have e2 : leS b a = true := by unfold leS; rw [h2]; rfl
        have := leS_anti e1 e2
        subst this
        simp
  show some (AV.bool (bytesLess a b || a == b)) = _
  rw [this]
theorem law6 {A : St} (hA : A0.Ext A) {s t : AV} {l0 u0 : List OpD} (hs : Sl A 4 s (opsCells l0)) (ht : Sl A 4 t (opsCells u0)) :
    Ev D0 G0 fnsL X6 6 [s, t] A fun r _ => r = .bool true := by
  refine Ev.fnK (fn := a6) rfl ⟨by simp [a6], by decide⟩ ?_
  unfold a6
  dsimp only
  have hlen : (cutL l0).length ≤ 12 := by unfold cutL; simp; omega
  have hlen2 : (cutL u0).length ≤ 12 := by unfold cutL; simp; omega
  refine wp_cut5 (fun E A' => A.Ext A' ∧ ∃ v, Env.at E 0 = v ∧ Sl A' 4 v (opsCells (cutL l0))) ?_ ?_
  · simp [ops_callf, allKnown, hs.allKnown]
    refine (cut_spec hs).mono fun r B ⟨x1, o1⟩ => ?_
    generalize cutL l0 = l at *
    have ht1 := ht.ext x1
    simp [ops_callf, allKnown, ht1.allKnown]
    refine (cut_spec ht1).mono fun q C ⟨x2, o2⟩ => ?_
    generalize cutL u0 = u at *
    have hr := o1.sl.ext x2
    have hq := o2.sl
    simp [ops_callf, allKnown, hr.allKnown]
    refine (inverse_spec hr (by omega)).mono fun r1 A3 ⟨x3, w, hr1, hw⟩ => ?_
    subst hr1
    have hr3 := hr.ext x3
    simp [ops_callf, allKnown, hr3.allKnown]
    refine (rinverse_spec hr3 (by omega)).mono fun r1 A4 ⟨x4, w2, hr1, hw2⟩ => ?_
    subst hr1
    have hr4 := hr3.ext x4
    have hq4 := (hq.ext x3).ext x4
    have hw4 := hw.ext x4
    simp [ops_callf, allKnown, hr4.allKnown, hq4.allKnown]
    refine (undoes_spec hr4 hq4 (by omega) (by omega)).mono fun r1 A5 ⟨hA5, hr1⟩ => ?_
    subst hA5
    subst hr1
    simp [ops_callf, allKnown, hr4.allKnown, hq4.allKnown]
    refine (rundoes_spec hr4 hq4 (by omega) (by omega)).mono fun r1 A5 ⟨x5, hr1⟩ => ?_
    subst hr1
    have hr5 := hr4.ext x5
    have hw5 := hw4.ext x5
    have hw25 := hw2.ext x5
    have hbl := backs_length l
    have hil : (if invOk l = true then backsL l else []).length < 100000 := by
      split
      · omega
      · decide
    simp [ops_callf, allKnown, hw5.allKnown, hw25.allKnown]
    refine (same_spec hw5 hw25 hil).mono fun r1 A6 ⟨hA6, hr1⟩ => ?_
    subst hA6
    subst hr1
    have hx := (((x1.trans x2).trans x3).trans x4).trans x5
    cases hinv : invOk l with
    | false =>
      simp
      exact ⟨hx, hr5⟩
    | true =>
      rw [hinv] at hw5
      simp [ops_callf, allKnown, hr5.allKnown, hw5.allKnown]
      refine (undoes_spec hr5 hw5 (by omega) (by simp; omega)).mono fun r1 A7 ⟨hA7, hr1⟩ => ?_
      subst hA7
      subst hr1
      simp only [if_true, undoes_backs hinv]
      simp
      exact ⟨hx, hr5⟩
  rintro E A1 ⟨x1, rv, e0, hr⟩
  generalize cutL l0 = l at *
  have hE := hA.trans x1
  simp [e0, ops_callf, allKnown, hr.allKnown]
  refine (keys_spec x6_43 x6_44 hr (by omega)).mono fun kv A2 ⟨x2, hk⟩ => ?_
  obtain ⟨hmem, hord⟩ := keysU_spec (l.map OpD.key)
  have hkl : (keysU (l.map OpD.key)).length ≤ l.length := by have := keysU_length (l.map OpD.key); rwa [List.length_map] at this
  generalize keysU (l.map OpD.key) = ks at *
  have hkv := hk.lenV1
  simp only [List.length_map] at hkv
  simp [hkv]
  have hr2 := hr.ext x2
  refine Wp.loopK (fun d E A' => A2.Ext A' ∧ Env.at E 0 = rv ∧ Env.at E 9 = kv ∧ Env.at E 63 = kv ∧ Env.at E 64 = .int .i64 ks.length ∧ ∃ i : Nat, Env.at E 65 = .int .i64 i ∧ i + d = ks.length) ks.length ?_ ?_
  · exact ⟨St.Ext.refl A2, by simp [e0], by simp, by simp, by simp, 0, by simp, by simp⟩
  rintro d E A3 ⟨x3, e0, e9, e63, e64, i, e65, hi⟩
  have hk3 := hk.ext x3
  have hr3 := hr2.ext x3
  simp [e64, e65]
  refine contC_of (fun hc => ?_) (fun hc => ?_)
  · simp at hc
    obtain ⟨k, ho⟩ : ∃ k, ks[i]? = some k := ⟨ks[i], List.getElem?_eq_getElem hc⟩
    obtain ⟨p, g1, g2⟩ := hk3.at_one (j := i) (v := .str k) (by rw [List.getElem?_map, ho]; rfl) .i64
    have ea := add_one (i := i) (by omega)
    have hany : anyB2 (fun o => decide (o.key = k)) l = true := by
      obtain ⟨o, h1, h2⟩ := List.mem_map.1 ((hmem k).1 (List.mem_of_getElem? ho))
      exact List.any_eq_true.2 ⟨o, h1, decide_eq_true h2⟩
    have both : (¬ 0 < i) ∨ (0 < i ∧ ∃ (j : Nat) (k' : List UInt8) (p' : Pl), binOf .sub (.int .i64 (i : Int)) (.int .i64 1) = some (.int .i64 (j : Int)) ∧ atSliceV 1 kv (.int .i64 (j : Int)) = some (.ptr (some p')) ∧ loadV A3 1 false (.ptr (some p')) = some (.str k') ∧ leS k k' = false) := by
      by_cases hi0 : 0 < i
      · obtain ⟨i', rfl⟩ : ∃ i', i = i' + 1 := ⟨i - 1, by omega⟩
        obtain ⟨k', ho'⟩ : ∃ k', ks[i']? = some k' := ⟨ks[i'], List.getElem?_eq_getElem (by omega)⟩
        obtain ⟨p', g3, g4⟩ := hk3.at_one (j := i') (v := .str k') (by rw [List.getElem?_map, ho']; rfl) .i64
        refine .inr ⟨hi0, i', k', p', ?_, g3, g4, ?_⟩
        · rw [bin_sub_ok (by omega) (by omega)]
          congr 2
          omega
        · have := List.pairwise_iff_getElem.1 hord i' (i' + 1) (by omega) hc (by omega)
          rw [(List.getElem?_eq_some_iff.1 ho).2, (List.getElem?_eq_some_iff.1 ho').2] at this
          exact this
      · exact .inl hi0
    rcases both with hi0 | ⟨hi0, j, k', p', g3, g4, g5, hle⟩
    case' inl => simp [e0, e9, e63, e64, e65, g1, g2, hi0, hr3.ops_lenV]
    case' inr => simp [e0, e9, e63, e64, e65, g1, g2, g3, g4, g5, leq_str, hle, hi0, hr3.ops_lenV, -bin_sub]
    all_goals
      refine Wp.loopK (fun d E A' => A3.Ext A' ∧ Env.at E 0 = rv ∧ Env.at E 9 = kv ∧ Env.at E 11 = .str k ∧ Env.at E 63 = kv ∧ Env.at E 64 = .int .i64 ks.length ∧ Env.at E 65 = .int .i64 i ∧ Env.at E 81 = rv ∧ Env.at E 82 = .int .i64 l.length ∧ ∃ j : Nat, Env.at E 83 = .int .i64 j ∧ j + d = l.length ∧ Env.at E 12 = .bool (anyB2 (fun o => decide (o.key = k)) (l.take j))) l.length ?_ ?_
      · exact ⟨St.Ext.refl A3, by simp [e0], by simp [e9], by simp, by simp [e63], by simp [e64], by simp [e65], by simp [e0], by simp, 0, by simp, by simp, by simp [anyB2]⟩
      rintro d' E A4 ⟨x4, e0, e9, e11, e63, e64, e65, e81, e82, j, e83, hj, e12⟩
      have hr4 := hr3.ext x4
      simp [e82, e83]
      refine contC_of (fun hc2 => ?_) (fun hc2 => ?_)
      · simp at hc2
        obtain ⟨o, hoj⟩ : ∃ o, l[j]? = some o := ⟨l[j], List.getElem?_eq_getElem hc2⟩
        obtain ⟨p2, z1, z2⟩ := hr4.op_at hoj .i64
        have eaj := add_one (i := j) (by omega)
        have tk := take_succ_any2 (p := fun o : OpD => decide (o.key = k)) hoj
        simp [e81, e83, z1, z2, Made.value, OpD.cells]
        obtain ⟨A5, k1, k2, x5⟩ := slot A4 o
        simp [k1]
        cases ht : anyB2 (fun o => decide (o.key = k)) (l.take j) with
        | true =>
          rw [ht] at e12 tk
          simp [e0, e9, e11, e12, e63, e64, e65, e81, e82, e83, eaj, -bin_add]
          exact ⟨d' - 1, by omega, x4.trans x5, j + 1, by omega, by omega, by rw [tk]; rfl⟩
        | false =>
          rw [ht] at e12 tk
          by_cases hkey : o.key = k
          · rw [decide_eq_true hkey] at tk
            simp [k2.l1, AV.addr, hkey, e0, e9, e11, e12, e63, e64, e65, e81, e82, e83, eaj, -bin_add]
            exact ⟨d' - 1, by omega, x4.trans x5, j + 1, by omega, by omega, by rw [tk]; rfl⟩
          · rw [decide_eq_false hkey] at tk
            simp [k2.l1, AV.addr, hkey, e0, e9, e11, e12, e63, e64, e65, e81, e82, e83, eaj, -bin_add]
            exact ⟨d' - 1, by omega, x4.trans x5, j + 1, by omega, by omega, by rw [tk]; rfl⟩
      · simp at hc2
        have hjl : j = l.length := by omega
        subst hjl
        rw [List.take_length, hany] at e12
        simp [e0, e9, e12, e63, e64, e65, ea, -bin_add]
        exact ⟨d - 1, by omega, x3.trans x4, i + 1, by omega, by omega⟩
  · simp [e0, hr3.ops_lenV]
    refine Wp.loopK (fun d E A' => A2.Ext A' ∧ Env.at E 9 = kv ∧ Env.at E 98 = rv ∧ Env.at E 99 = .int .i64 l.length ∧ ∃ i : Nat, Env.at E 100 = .int .i64 i ∧ i + d = l.length) l.length ?_ ?_
    · exact ⟨x3, by simp [e9], by simp [e0], by simp, 0, by simp, by simp⟩
    rintro d E A4 ⟨x4, e9, e98, e99, i, e100, hi⟩
    have hr4 := hr2.ext x4
    have hk4 := hk.ext x4
    simp [e99, e100]
    refine contC_of (fun hc2 => ?_) (fun hc2 => ?_)
    · simp at hc2
      obtain ⟨o, ho⟩ : ∃ o, l[i]? = some o := ⟨l[i], List.getElem?_eq_getElem hc2⟩
      obtain ⟨p, g1, g2⟩ := hr4.op_at ho .i64
      have ea := add_one (i := i) (by omega)
      have hany : anyB2 (fun k => decide (k = o.key)) ks = true :=
        List.any_eq_true.2 ⟨o.key, (hmem o.key).2 (List.mem_map.2 ⟨o, List.mem_of_getElem? ho, rfl⟩), decide_eq_true rfl⟩
      simp [e98, e100, g1, g2, Made.value, OpD.cells]
      obtain ⟨A5, k1, k2, x5⟩ := slot A4 o
      have hk5 := hk4.ext x5
      have hk5v := hk5.lenV1
      simp only [List.length_map] at hk5v
      simp [k1, e9, hk5v]
      refine Wp.loopK (fun d E A' => A' = A5 ∧ Env.at E 9 = kv ∧ Env.at E 16 = .ptr (some (A4.next, 0, 0)) ∧ Env.at E 98 = rv ∧ Env.at E 99 = .int .i64 l.length ∧ Env.at E 100 = .int .i64 i ∧ Env.at E 104 = kv ∧ Env.at E 105 = .int .i64 ks.length ∧ ∃ j : Nat, Env.at E 106 = .int .i64 j ∧ j + d = ks.length ∧ Env.at E 17 = .bool (anyB2 (fun k => decide (k = o.key)) (ks.take j))) ks.length ?_ ?_
      · exact ⟨rfl, by simp [e9], by simp, by simp [e98], by simp [e99], by simp [e100], by simp [e9], by simp, 0, by simp, by simp, by simp [anyB2]⟩
      rintro d' E A6 ⟨rfl, e9, e16, e98, e99, e100, e104, e105, j, e106, hj, e17⟩
      simp [e105, e106]
      refine contC_of (fun hc3 => ?_) (fun hc3 => ?_)
      · simp at hc3
        obtain ⟨k, hoj⟩ : ∃ k, ks[j]? = some k := ⟨ks[j], List.getElem?_eq_getElem hc3⟩
        obtain ⟨p2, z1, z2⟩ := hk5.at_one (j := j) (v := .str k) (by rw [List.getElem?_map, hoj]; rfl) .i64
        have eaj := add_one (i := j) (by omega)
        have tk := take_succ_any2 (p := fun k : List UInt8 => decide (k = o.key)) hoj
        cases ht : anyB2 (fun k => decide (k = o.key)) (ks.take j) with
        | true =>
          rw [ht] at e17 tk
          simp [z1, z2, e9, e16, e17, e98, e99, e100, e104, e105, e106, eaj, -bin_add]
          exact ⟨d' - 1, by omega, j + 1, by omega, by omega, by rw [tk]; rfl⟩
        | false =>
          rw [ht] at e17 tk
          by_cases hkey : k = o.key
          · rw [decide_eq_true hkey] at tk
            simp [z1, z2, k2.l1, AV.addr, hkey, e9, e16, e17, e98, e99, e100, e104, e105, e106, eaj, -bin_add]
            exact ⟨d' - 1, by omega, j + 1, by omega, by omega, by rw [tk]; rfl⟩
          · rw [decide_eq_false hkey] at tk
            simp [z1, z2, k2.l1, AV.addr, hkey, e9, e16, e17, e98, e99, e100, e104, e105, e106, eaj, -bin_add]
            exact ⟨d' - 1, by omega, j + 1, by omega, by omega, by rw [tk]; rfl⟩
      · simp at hc3
        have hjl : j = ks.length := by omega
        subst hjl
        rw [List.take_length, hany] at e17
        simp [e9, e17, e98, e99, e100, ea, -bin_add]
        exact ⟨d - 1, by omega, x4.trans x5, i + 1, by omega, by omega⟩
    · simp [ops_callf, allKnown]
      refine (awake6_spec ((hE.trans x2).trans x4)).mono fun r1 B5 ⟨_, hr⟩ => ?_
      subst hr
      simp
end Go.Proofs.YteoioahkflcchaaGreatDoor
