/- The laws' Cut; the document's Eval; Total. -/
import Derived.Test.YteoioahkflcchaaGreatDoorOpsEval
import Derived.Test.YteoioahkflcchaaGreatDoorAmOpsD
namespace Go.Proofs.YteoioahkflcchaaGreatDoor
open Go.AM
set_option maxRecDepth 100000
set_option linter.unusedSimpArgs false
variable {D : Disp} {G0 : Env} {X : Calls'}

theorem cut1_short {o : OpD} (h : ¬ (20 : Int) < o.key.length) : cut1 o = o := by
  unfold cut1
  rw [List.take_of_length_le (by omega)]

theorem cut_spec {A : St} {s : AV} {l : List OpD} (hs : Sl A 4 s (opsCells l)) : Ev D G0 fnsL X 7 [s] A fun r B => A.Ext B ∧ Own A.next B 4 r (opsCells (cutL l)) := by
  refine Ev.fnK (fn := a7) rfl ⟨by simp [a7], by decide⟩ ?_
  unfold a7
  simp [hs.ops_lenV]
  refine Wp.loopK (fun d E A' => A.Ext A' ∧ Env.at E 6 = s ∧ Env.at E 7 = .int .i64 l.length ∧ ∃ (i : Nat) (v : AV), Env.at E 8 = .int .i64 i ∧ Env.at E 3 = v ∧ i + d = l.length ∧ i ≤ 12 ∧ Own A.next A' 4 v (opsCells ((l.take i).map cut1))) l.length ?_ ?_
  · exact ⟨St.Ext.refl A, by simp, by simp, 0, .slice none 0 0 0 0, by simp, by simp, by simp, by simp, by simpa [opsCells] using Own.nil _ _ _⟩
  rintro d E A1 ⟨x1, e6, e7, i, v, e8, e3, hi, h12, hown⟩
  have hs1 := hs.ext x1
  simp [e7, e8]
  refine contC_of (fun hc => ?_) (fun hc => ?_)
  · simp at hc
    obtain ⟨o, ho⟩ : ∃ o, l[i]? = some o := ⟨l[i], List.getElem?_eq_getElem hc⟩
    obtain ⟨p, g1, g2⟩ := hs1.op_at ho .i64
    have ea := add_one (i := i) (by omega)
    simp [e6, e8, g1, g2, Made.value, OpD.cells]
    have x2 := ext_make A1 [.int .i64 0, .str [], .int .i64 0, .int .i64 0] 1
    have hb := B4.make A1 (.int .i64 0) (.str []) (.int .i64 0) (.int .i64 0)
    generalize (A1.make [.int .i64 0, .str [], .int .i64 0, .int .i64 0] 1).2 = A2 at *
    obtain ⟨A3, k1, k2, k3, k4⟩ := hb.st (a' := .int .i64 o.kind) (b' := .str o.key) (c' := .int .i64 o.n) (d' := .int .i64 o.lo) rfl
    have x3 : A1.Ext A3 := ⟨by rw [← k3]; exact x2.next, fun f hf => by rw [k4 f (by omega)]; exact x2.get f hf⟩
    simp [k1]
    by_cases hi12 : 12 ≤ i
    · have hi12' : (12 : Int) ≤ i := by omega
      have : i = 12 := by omega
      subst this
      simp [e3, hown.sl.known, packRes]
      exact ⟨x1.trans x3, hown.ext x3⟩
    · have hi12' : ¬ (12 : Int) ≤ i := by omega
      simp [hi12', AV.addr, k2.l1]
      refine contC_join (fun E A' => A1.Ext A' ∧ B4 A' A1.next (.int .i64 o.kind) (.str (cut1 o).key) (.int .i64 o.n) (.int .i64 o.lo) ∧ Env.at E 3 = v ∧ Env.at E 5 = .ptr (some (A1.next, 0, 0)) ∧ Env.at E 6 = s ∧ Env.at E 7 = .int .i64 l.length ∧ Env.at E 8 = .int .i64 i) (fun hc2 => ?_) (fun hc2 => ?_) ?_
      · simp at hc2
        have hcut : cutStrV (.str o.key) none (some (.int .i64 20)) = some (.str (o.key.take 20)) := by
          have hb1 : bound? o.key.length (.int .i64 20) = some 20 := by
            unfold bound?
            simp only
            rw [if_pos ⟨by decide, by omega⟩]
            rfl
          unfold cutStrV
          simp only [boundHi, boundLo, hb1]
          rfl
        obtain ⟨A4, q1, q2, q3, q4⟩ := k2.st1 (b' := .str (o.key.take 20)) rfl rfl rfl
        simp [AV.addr, k2.l1, hcut, q1, e3, e6, e7, e8]
        exact ⟨⟨by rw [← q3]; exact x3.next, fun f hf => by rw [q4 f (by omega)]; exact x3.get f hf⟩, q2⟩
      · simp at hc2
        simp [e3, e6, e7, e8]
        refine ⟨x3, ?_⟩
        rw [cut1_short (by omega)]
        exact k2
      rintro E A4 ⟨x4, hb4, f3, f5, f6, f7, f8⟩
      have hld := hb4.ld
      have hown4 := hown.ext x4
      obtain ⟨s', B, q1, q2, q3⟩ := append_op hown4 (x1.trans x4) (by simp; omega) (cut1 o)
      have hcc : (cut1 o).cells = [.int .i64 o.kind, .str (cut1 o).key, .int .i64 o.n, .int .i64 o.lo] := rfl
      rw [hcc] at q1
      simp [f3, f5, f6, f7, f8, AV.addr, hld, fillA, AV.isBot, AV.cells, splice, Made.value, q1, ea, -bin_add]
      refine ⟨d - 1, by omega, q3, i + 1, by omega, by omega, by omega, ?_⟩
      have hmap : List.map cut1 (List.take (i + 1) l) = List.map cut1 (List.take i l) ++ [cut1 o] := by
        rw [List.take_add_one, ho]
        simp
      rw [← List.map_take, hmap]
      exact q2
  · simp at hc
    have hil : i = l.length := by omega
    subst hil
    rw [List.take_length] at hown
    have hcut : cutL l = l.map cut1 := by unfold cutL; rw [List.take_of_length_le h12]
    simp [e3, hown.sl.known, hcut]
    exact ⟨x1, hown⟩

theorem reval_spec {A : St} (o : OpD) (ho : o.Ok) {old : Int} (hold : i64ok old) (there : Bool) : Ev D G0 fnsL X 9 [.agg o.cells, .int .i64 old, .bool there] A fun r B => A.Ext B ∧ r = evalV o old there := by
  refine Ev.fnK (fn := a9) rfl ⟨by simp [a9], by decide⟩ ?_
  unfold a9
  refine wp_cut3 (fun E B => A.Ext B ∧ B4 B A.next (.int .i64 o.kind) (.str o.key) (.int .i64 o.n) (.int .i64 o.lo) ∧ Env.at E 1 = .int .i64 (oldOfD old there) ∧ Env.at E 2 = .bool there ∧ Env.at E 3 = .ptr (some (A.next, 0, 0)) ∧ mayL o = true) ?_ ?_
  · simp [OpD.cells, boxV, AV.cells, Made.value, AV.addr, ops_callf, allKnown]
    have hb := B4.make A (.int .i64 o.kind) (.str o.key) (.int .i64 o.n) (.int .i64 o.lo)
    have hx := ext_make A [.int .i64 o.kind, .str o.key, .int .i64 o.n, .int .i64 o.lo] 1
    generalize (A.make [.int .i64 o.kind, .str o.key, .int .i64 o.n, .int .i64 o.lo] 1).2 = A1 at *
    refine (rmay_spec o).mono fun r B ⟨hxB, hr⟩ => ?_
    subst hr
    have hb := hb.ext hxB
    have hx := hx.trans hxB
    cases hm : mayL o with
    | false => simp [evalV_bad hm]; exact ⟨hx, rfl⟩
    | true => cases there <;> simp [oldOfD] <;> exact ⟨hx, hb⟩
  · rintro E B ⟨hx, hb, e1, e2, e3, hm⟩
    have hold' := oldOk hold there
    have hko := kind_of hm
    have hv : ∀ v : Int, v = oldOfD old there → i64ok v := fun v h => h ▸ hold'
    obtain ⟨v, hve⟩ : ∃ v, v = oldOfD old there := ⟨_, rfl⟩
    have hvo := hv v hve
    rw [← hve] at e1
    simp [AV.addr, hb.l2, e1, e2, e3, ops_callf, allKnown]
    refine (fits_spec hvo ho.n).mono fun r B2 ⟨hB, hr⟩ => ?_
    subst hB
    rcases hko with hk | hk | hk | hk | hk | hk
    · rw [evalV_one hm hk, ← hve]
      cases hf : fitsL v o.n <;> simp [hf] at hr <;> subst hr <;> simp [AV.addr, hb.l0, hk, e1, e2, e3] <;> exact ⟨hx, rfl⟩
    · rw [evalV_two hm hk]
      cases hf : fitsL v o.n <;> simp [hf] at hr <;> subst hr <;> simp [AV.addr, hb.l0, hk, e1, e2, e3] <;> refine Wp.draws ?_ <;> simp [AV.addr, hb.l2, InAll, AV.beq, e3, hk] <;> exact ⟨hx, rfl⟩
    · rw [evalV_three hm hk, ← hve]
      cases hf : fitsL v o.n <;> simp [hf] at hr <;> subst hr <;> simp [AV.addr, hb.l0, hk, e1, e2, e3] <;> exact ⟨hx, rfl⟩
    · rw [evalV_grown hm (.inl hk), ← hve]
      unfold growL
      cases hf : fitsL v o.n <;> simp [hf] at hr <;> subst hr <;> simp [AV.addr, hb.l0, hk, e1, e2, e3] <;> exact ⟨hx, rfl⟩
    · rw [evalV_grown hm (.inr hk), ← hve]
      unfold growL
      cases hf : fitsL v o.n <;> simp [hf] at hr <;> subst hr
      · simp [AV.addr, hb.l0, hk, e1, e2, e3]; exact ⟨hx, rfl⟩
      · by_cases hl : v + o.n < o.lo
        · simp [AV.addr, hb.l0, hb.l3, hk, e1, e2, e3, hl]; exact ⟨hx, rfl⟩
        · simp [AV.addr, hb.l0, hb.l3, hk, e1, e2, e3, hl]; exact ⟨hx, rfl⟩
    · rw [evalV_six hm hk, ← hve]
      have hw : convV .i64 (.int .u64 (IntKind.u64.wrap (IntKind.u64.wrap v + IntKind.u64.wrap o.n))) = some (.int .i64 (wrapI (v + o.n))) := by
        rw [convV_int]
        congr 2
        have e1 : ∀ x : Int, IntKind.u64.wrap x = x % 18446744073709551616 := fun x => wrap_un rfl x
        rw [e1, e1, e1, wrapI_eq, IntKind.wrap_i64]
        omega
      cases hf : fitsL v o.n <;> simp [hf] at hr <;> subst hr <;> simp [AV.addr, hb.l0, hb.l2, hk, e1, e2, e3, hw] <;> exact ⟨hx, rfl⟩

/-- An operation that may fail. -/
theorem fails_spec {A : St} (o : OpD) : Ev D G0 fnsL X 30 [.agg o.cells] A fun r B => A.Ext B ∧ r = .bool (failsL o) := by
  refine Ev.fnK (fn := a30) rfl ⟨by simp [a30], by decide⟩ ?_
  unfold a30
  have hb := B4.make A (.int .i64 o.kind) (.str o.key) (.int .i64 o.n) (.int .i64 o.lo)
  have hx := ext_make A [.int .i64 o.kind, .str o.key, .int .i64 o.n, .int .i64 o.lo] 1
  simp [OpD.cells, boxV, AV.cells, Made.value, AV.addr, ops_callf, allKnown]
  generalize (A.make [.int .i64 o.kind, .str o.key, .int .i64 o.n, .int .i64 o.lo] 1).2 = A1 at *
  by_cases h4 : o.kind = 4
  · simp [h4, failsL]; exact hx
  by_cases h5 : o.kind = 5
  · simp [h4, h5, failsL]; exact hx
  · simp [h4, h5, hb.ld, ops_callf, allKnown]
    refine (plain_spec o).mono fun r B ⟨hxB, hr⟩ => ?_
    subst hr
    simp [failsL, h4, h5]
    exact hx.trans hxB
/-- The first that a test is true of, or -1. -/
def firstL (p : OpD → Bool) : List OpD → Nat → Int
  | [], _ => -1
  | o :: l, i => if p o then i else firstL p l (i + 1)
theorem index_spec {A : St} {s : AV} {l : List OpD} (hs : Sl A 4 s (opsCells l)) (hlen : l.length < 2 ^ 62) {g : FuncId} {p : OpD → Bool} (hp : ∀ (A : St) (o : OpD), Ev D G0 fnsL X g [.agg o.cells] A fun r B => A.Ext B ∧ r = .bool (p o)) :
    Ev D G0 fnsL X 46 [s, .func (.func g) [] []] A fun r B => A.Ext B ∧ ∃ i : Int, r = .int .i64 i ∧ (0 ≤ i ↔ l.any p = true) := by
  refine Ev.fnK (fn := a46) rfl ⟨by simp [a46], by decide⟩ ?_
  unfold a46
  simp [hs.ops_lenV]
  refine Wp.loopK (fun d E A' => A.Ext A' ∧ Env.at E 0 = s ∧ Env.at E 1 = .func (.func g) [] [] ∧ Env.at E 7 = .int .i64 l.length ∧ ∃ i : Nat, Env.at E 8 = .int .i64 i ∧ i + d = l.length ∧ (l.take i).any p = false) l.length ?_ ?_
  · exact ⟨St.Ext.refl A, by simp, by simp, by simp, 0, by simp, by simp, by simp⟩
  rintro d E A1 ⟨x1, e0, e1, e7, i, e8, hi, hany⟩
  have hs1 := hs.ext x1
  simp [e7, e8]
  refine contC_of (fun hc => ?_) (fun hc => ?_)
  · simp at hc
    obtain ⟨o, ho⟩ : ∃ o, l[i]? = some o := ⟨l[i], List.getElem?_eq_getElem hc⟩
    obtain ⟨q, g1, g2⟩ := hs1.op_at ho .i64
    have ea := add_one63 (i := i) (by omega)
    simp [e0, e1, e8, g1, g2]
    rw [ops_callv (f := g) (first := []) (captured := []) _ _ _ _ _ (by simp) (by simp [allKnown])]
    simp
    refine (hp A1 o).mono fun r B ⟨xB, hr⟩ => ?_
    subst hr
    cases hpo : p o with
    | true =>
      simp
      refine ⟨x1.trans xB, o, List.mem_of_getElem? ho, hpo⟩
    | false =>
      simp [e0, e1, e7, e8, ea, -bin_add]
      refine ⟨d - 1, by omega, x1.trans xB, i + 1, by omega, by omega, ?_⟩
      intro x hx
      rw [List.take_add_one, ho] at hx
      simp at hx
      rcases hx with hx | rfl
      · have := List.any_eq_false.1 hany x hx
        simpa using this
      · exact hpo
  · simp at hc
    have hil : i = l.length := by omega
    subst hil
    rw [List.take_length] at hany
    simp
    refine ⟨x1, fun x hx => ?_⟩
    have := List.any_eq_false.1 hany x hx
    simpa using this
/-- Do they never fail? -/
theorem total_spec {A : St} {s : AV} {l : List OpD} (hs : Sl A 4 s (opsCells l)) (hl : l.length < 2 ^ 62) : Ev D G0 fnsL X 10 [s] A fun r B => A.Ext B ∧ r = .bool (!l.any failsL) := by
  refine Ev.fnK (fn := a10) rfl ⟨by simp [a10], by decide⟩ ?_
  unfold a10
  simp [ops_callf, allKnown, hs.allKnown]
  refine Ev.fnK (fn := a29) rfl ⟨by simp [a29], by decide⟩ ?_
  unfold a29
  simp [ops_callf, allKnown, hs.allKnown]
  refine (index_spec hs hl (p := failsL) fun A o => fails_spec o).mono fun r B ⟨xB, i, hr, hi⟩ => ?_
  subst hr
  by_cases h : 0 ≤ i
  · have := hi.1 h
    simp [h, this]
    exact xB
  · have : l.any failsL = false := by
      cases ha : l.any failsL with
      | false => rfl
      | true => exact absurd (hi.2 ha) h
    simp [h, this]
    exact xB
end Go.Proofs.YteoioahkflcchaaGreatDoor
