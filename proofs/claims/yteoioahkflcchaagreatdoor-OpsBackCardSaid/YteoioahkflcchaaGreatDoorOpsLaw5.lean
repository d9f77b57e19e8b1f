/- The third law: operations, and then their inverse, leave what was. -/
import Derived.Test.YteoioahkflcchaaGreatDoorOpsBackP
namespace Go.Proofs.YteoioahkflcchaaGreatDoor
open Go.AM
set_option maxRecDepth 100000
set_option linter.unusedSimpArgs false

theorem cutL_ok {l : List OpD} (h : ∀ o ∈ l, o.Ok) : ∀ o ∈ cutL l, o.Ok := by
  intro o ho
  unfold cutL at ho
  obtain ⟨p, hp, rfl⟩ := List.mem_map.1 ho
  have := h p (List.mem_of_mem_take hp)
  exact ⟨this.kind, by
    have := this.key
    show (p.key.take 20).length ≤ maxLen
    rw [List.length_take]; omega, this.n, this.lo⟩
theorem runL_length : ∀ (rows : List RowD) (l : List OpD), (runL rows l).1.length ≤ rows.length + l.length
  | rows, [] => by rw [runL_nil]; exact Nat.le_refl _
  | rows, o :: l => by
    rw [runL_cons]
    split
    · have := runL_length (withL rows o.key (evalL o (atL rows o.key).1 (atL rows o.key).2).1 (evalL o (atL rows o.key).1 (atL rows o.key).2).2.1) l
      have := withL_length rows o.key (evalL o (atL rows o.key).1 (atL rows o.key).2).1 (evalL o (atL rows o.key).1 (atL rows o.key).2).2.1
      simp only [List.length_cons]
      omega
    · simp
theorem backs_length (l : List OpD) : (backsL l).length ≤ l.length := by
  unfold backsL
  rw [List.length_map]
  refine Nat.le_trans (List.length_filter_le _ _) ?_
  simp
theorem law5 {A : St} (hA : A0.Ext A) {s t : AV} {l0 : List OpD} {rows0 : List RowD} (hs : Sl A 4 s (opsCells l0)) (hl0 : ∀ o ∈ l0, o.Ok) (ht : Sl A 2 t (rowR.all rows0)) (hr0 : ∀ r ∈ rows0, r.Ok) :
    Ev D0 G0 fnsL XA 5 [s, t] A fun r _ => r = .bool true := by
  refine Ev.fnK (fn := a5) rfl ⟨by simp [a5], by decide⟩ ?_
  unfold a5
  simp [ops_callf, allKnown, hs.allKnown]
  refine (cut_spec hs).mono fun r B ⟨x1, o1⟩ => ?_
  have hlen : (cutL l0).length ≤ 12 := by unfold cutL; simp; omega
  have hok := cutL_ok hl0
  generalize cutL l0 = l at *
  have ht1 := ht.ext x1
  simp [ht1.rec_lenV]
  refine contC_join (fun E A' => A' = B ∧ Env.at E 0 = r ∧ ∃ u rows, Env.at E 1 = u ∧ Sl B 2 u (rowR.all rows) ∧ rows.length ≤ 10 ∧ ∀ r ∈ rows, r.Ok) (fun hc => ?_) (fun hc => ?_) ?_
  · simp at hc
    obtain ⟨u, g1, g2, g3⟩ := ht1.cutTo (hi := 10) (j := .i64) (by rw [ht1.rec_len]; omega)
    rw [rowR.take] at g3
    have g1' : cutSliceOf 2 t none (some (.int .i64 10)) none = some u := g1
    simp [g1', g3.known]
    exact ⟨rows0.take 10, g3, by simp; omega, fun r hr => hr0 r (List.mem_of_mem_take hr)⟩
  · simp at hc
    simp
    exact ⟨rows0, ht1, by omega, hr0⟩
  rintro E A1 ⟨hAB, e0, u, rows, e1, hu, hrl, hro⟩
  subst hAB
  have hE := hA.trans x1
  have hs1 := o1.sl
  simp [e0, e1, hu.rec_lenV]
  refine Wp.loopK (fun d E A' => A1.Ext A' ∧ Env.at E 0 = r ∧ Env.at E 28 = u ∧ Env.at E 29 = .int .i64 rows.length ∧ ∃ (i : Nat) (v : AV) (first : List RowD), Env.at E 30 = .int .i64 i ∧ Env.at E 5 = v ∧ i + d = rows.length ∧ Sl A' 2 v (rowR.all first) ∧ first.length ≤ i ∧ InL first ∧ Uniq first) rows.length ?_ ?_
  · exact ⟨St.Ext.refl A1, by simp [e0], by simp, by simp, 0, .slice none 0 0 0 0, [], by simp, by simp, by simp, .nil _ _ _, by simp, fun r hr => by simp at hr, by simp [Uniq]⟩
  rintro d E A2 ⟨x2, e0, e28, e29, i, v, first, e30, e5, hi, hv, hfl, hfi, hfu⟩
  have hu2 := hu.ext x2
  simp [e29, e30]
  refine contC_of (fun hc => ?_) (fun hc => ?_)
  · simp at hc
    obtain ⟨o, ho⟩ : ∃ o, rows[i]? = some o := ⟨rows[i], List.getElem?_eq_getElem hc⟩
    obtain ⟨p, g1, g2⟩ := hu2.rec_at ho .i64
    have ea := add_one (i := i) (by omega)
    have hoo := hro o (List.mem_of_getElem? ho)
    simp at g2
    simp [e28, e30, g1, g2, Made.value]
    obtain ⟨A3, k1, k2, x3⟩ := Bx.slot A2 [.str [], .int .i64 0] (ds := rowR.cells o) (n := 2) rfl rfl rfl
    have m0 := k2.at (o := 0) (v := .str o.key) rfl
    simp at k1
    simp [k1, m0, AV.addr]
    refine contC_join (fun E A' => A2.Ext A' ∧ Bx A' A2.next [.str (o.key.take 20), .int .i64 o.n] ∧ Env.at E 0 = r ∧ Env.at E 5 = v ∧ Env.at E 7 = .ptr (some (A2.next, 0, 0)) ∧ Env.at E 28 = u ∧ Env.at E 29 = .int .i64 rows.length ∧ Env.at E 30 = .int .i64 i) (fun hc2 => ?_) (fun hc2 => ?_) ?_
    · simp at hc2
      have hcut : cutStrV (.str o.key) none (some (.int .i64 20)) = some (.str (o.key.take 20)) := by
        have hb1 : bound? o.key.length (.int .i64 20) = some 20 := by
          unfold bound?
          simp only
          rw [if_pos ⟨by decide, by omega⟩]
          rfl
        unfold cutStrV
        simp only [boundHi, boundLo, hb1]
        rfl
      obtain ⟨A4, q1, q2, q3, q4⟩ := k2.st1 (o := 0) (by simp) (v := .str (o.key.take 20)) rfl rfl rfl
      simp [AV.addr, m0, hcut, q1, e0, e5, e28, e29, e30]
      exact ⟨⟨by rw [← q3]; exact x3.next, fun f hf => by rw [q4 f (by omega)]; exact x3.get f hf⟩, q2⟩
    · simp at hc2
      have : o.key.take 20 = o.key := List.take_of_length_le (by omega)
      simp [e0, e5, e28, e29, e30, this]
      exact ⟨x3, k2⟩
    rintro E A4 ⟨x4, hb4, f0, f5, f7, f28, f29, f30⟩
    have m0 := hb4.at (o := 0) (v := .str (o.key.take 20)) rfl
    have m1 := hb4.at (o := 1) (v := .int .i64 o.n) rfl
    have hv4 := hv.ext x4
    simp [f0, f5, f7, f28, f29, f30, AV.addr, m0, m1, ops_callf, allKnown, hv.allKnown]
    refine (with_spec hv4 (by omega)).mono fun r1 A5 ⟨x5, hown⟩ => ?_
    have hwl := withL_length first (o.key.take 20) o.n true
    simp [f0, f28, f29, f30, ea, -bin_add, hown.sl.known]
    exact ⟨d - 1, by omega, (x2.trans x4).trans x5, i + 1, by omega, by omega, _, hown.sl, by omega, withL_in hfi hoo.n _, with_uniq hfu _ _ _⟩
  · simp at hc
    have hil : i = rows.length := by omega
    subst hil
    have hs2 := hs1.ext x2
    simp [e0, e5, ops_callf, allKnown, hs2.allKnown]
    refine (inverse_spec hs2 (by omega)).mono fun r1 A3 ⟨x3, w, hr1, hw⟩ => ?_
    subst hr1
    have hs3 := hs2.ext x3
    have hv3 := hv.ext x3
    simp [e0, e5, ops_callf, allKnown, hs3.allKnown, hv3.allKnown]
    refine (run_spec hv3 hfi hs3 hok (by omega)).mono fun r1 A4 ⟨x4, u1, hr1, hu1⟩ => ?_
    subst hr1
    have hE4 := ((hE.trans x2).trans x3).trans x4
    have hv4 := hv3.ext x4
    have hw4 := hw.ext x4
    simp [e0, e5]
    cases hinv : invOk l with
    | false =>
      simp [ops_callf, allKnown]
      refine (awake_spec hE4).mono fun r1 B5 ⟨_, hr⟩ => ?_
      subst hr
      simp
    | true =>
      cases hfine : (runL first l).2 with
      | false =>
        simp [ops_callf, allKnown]
        refine (awake_spec hE4).mono fun r1 B5 ⟨_, hr⟩ => ?_
        subst hr
        simp
      | true =>
        rw [hinv] at hw4
        simp only [if_true] at hw4
        have hrun : runL first l = ((runL first l).1, true) := Prod.ext rfl hfine
        have hlen1 := runL_length first l
        have hin1 := (run_good (invOk_good hinv) hok hfi hfu hrun).1
        generalize (runL first l).1 = then_ at *
        have hbl := backs_length l
        obtain ⟨c1, c2, c3⟩ := back_law hinv hok hfi hfu hrun rfl
        simp [ops_callf, allKnown, hu1.allKnown, hw4.allKnown]
        refine (run_spec hu1 hin1 hw4 (backs_ok hok) (by omega)).mono fun r1 A5 ⟨x5, u2, hr1, hu2'⟩ => ?_
        subst hr1
        have hlen2 := runL_length then_ (backsL l)
        have hE5 := hE4.trans x5
        have hv5 := hv4.ext x5
        generalize (runL then_ (backsL l)).1 = last at *
        simp [c1, e5, hv5.rec_lenV]
        refine Wp.loopK (fun d E A' => A5.Ext A' ∧ Env.at E 5 = v ∧ Env.at E 12 = u2 ∧ Env.at E 75 = v ∧ Env.at E 76 = .int .i64 first.length ∧ ∃ i : Nat, Env.at E 77 = .int .i64 i ∧ i + d = first.length) first.length ?_ ?_
        · exact ⟨St.Ext.refl A5, by simp [e5], by simp, by simp [e5], by simp, 0, by simp, by simp⟩
        rintro d E A6 ⟨x6, e5, e12, e75, e76, i, e77, hi⟩
        have hv6 := hv5.ext x6
        have hu6 := hu2'.ext x6
        simp [e76, e77]
        refine contC_of (fun hc => ?_) (fun hc => ?_)
        · simp at hc
          obtain ⟨o, ho⟩ : ∃ o, first[i]? = some o := ⟨first[i], List.getElem?_eq_getElem hc⟩
          obtain ⟨p, g1, g2⟩ := hv6.rec_at ho .i64
          have ea := add_one (i := i) (by omega)
          have hat := c2 o (List.mem_of_getElem? ho)
          simp at g2
          simp [e75, e77, g1, g2, Made.value]
          obtain ⟨A7, k1, k2, x7⟩ := Bx.slot A6 [.str [], .int .i64 0] (ds := rowR.cells o) (n := 2) rfl rfl rfl
          have m0 := k2.at (o := 0) (v := .str o.key) rfl
          simp at k1
          have hu7 := hu6.ext x7
          simp [k1, m0, AV.addr, e12, ops_callf, allKnown, hu7.allKnown]
          refine (rowat_spec hu7 (by omega)).mono fun r1 A8 ⟨x8, hr1⟩ => ?_
          subst hr1
          have m1 := (k2.ext x8).at (o := 1) (v := .int .i64 o.n) rfl
          simp [hat, m1, AV.addr, e5, e12, e75, e76, e77, ea, -bin_add]
          exact ⟨d - 1, by omega, (x6.trans x7).trans x8, i + 1, by omega, by omega⟩
        · simp at hc
          simp [e12, hu6.rec_lenV]
          refine Wp.loopK (fun d E A' => A5.Ext A' ∧ Env.at E 5 = v ∧ Env.at E 97 = u2 ∧ Env.at E 98 = .int .i64 last.length ∧ ∃ i : Nat, Env.at E 99 = .int .i64 i ∧ i + d = last.length) last.length ?_ ?_
          · exact ⟨x6, by simp [e5], by simp [e12], by simp, 0, by simp, by simp⟩
          rintro d E A9 ⟨x9, e5, e97, e98, i, e99, hi⟩
          have hv9 := hv5.ext x9
          have hu9 := hu2'.ext x9
          simp [e98, e99]
          refine contC_of (fun hc => ?_) (fun hc => ?_)
          · simp at hc
            obtain ⟨o, ho⟩ : ∃ o, last[i]? = some o := ⟨last[i], List.getElem?_eq_getElem hc⟩
            obtain ⟨p, g1, g2⟩ := hu9.rec_at ho .i64
            have ea := add_one (i := i) (by omega)
            have hat := c3 o (List.mem_of_getElem? ho)
            simp at g2
            simp [e97, e99, g1, g2, Made.value]
            obtain ⟨A10, k1, k2, x10⟩ := Bx.slot A9 [.str [], .int .i64 0] (ds := rowR.cells o) (n := 2) rfl rfl rfl
            have m0 := k2.at (o := 0) (v := .str o.key) rfl
            simp at k1
            have hv10 := hv9.ext x10
            simp [k1, m0, AV.addr, e5, ops_callf, allKnown, hv10.allKnown]
            refine (rowat_spec hv10 (by omega)).mono fun r1 A11 ⟨x11, hr1⟩ => ?_
            subst hr1
            have m1 := (k2.ext x11).at (o := 1) (v := .int .i64 o.n) rfl
            cases hth : (atL first o.key).2 with
            | true =>
              simp [AV.addr, e5, e97, e98, e99, ea, -bin_add]
              exact ⟨d - 1, by omega, (x9.trans x10).trans x11, i + 1, by omega, by omega⟩
            | false =>
              have hz := hat hth
              rw [hz] at m1
              simp [m1, AV.addr, e5, e97, e98, e99, ea, -bin_add]
              exact ⟨d - 1, by omega, (x9.trans x10).trans x11, i + 1, by omega, by omega⟩
          · simp [ops_callf, allKnown]
            refine (awake_spec (hE5.trans x9)).mono fun r1 B5 ⟨_, hr⟩ => ?_
            subst hr
            simp
end Go.Proofs.YteoioahkflcchaaGreatDoor
