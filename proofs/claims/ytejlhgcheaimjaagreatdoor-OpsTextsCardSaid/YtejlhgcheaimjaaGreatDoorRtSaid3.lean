/- Operations of a text. -/
import Derived.Test.YtejlhgcheaimjaaGreatDoorRtTx7
import Derived.Test.YtejlhgcheaimjaaGreatDoorRtSame
import Derived.Test.YtejlhgcheaimjaaGreatDoorRtRow
namespace Go.Proofs.YtejlhgcheaimjaaGreatDoor
open Go.AM
set_option maxRecDepth 100000
set_option linter.unusedSimpArgs false
set_option linter.unusedVariables false
/-- A variable of a loop: what is stored into it. -/
theorem slotT (A : St) (o : OpD) : ∃ B, storeV (A.make [.int .i64 0, .str [], .int .i64 0, .int .i64 0] 1).2 4 (.ptr (some (A.next, 0, 0))) (.agg [.int .i64 o.kind, .str o.key, .int .i64 o.n, .int .i64 o.lo]) = some (.bot, B) ∧
    B4 B A.next (.int .i64 o.kind) (.str o.key) (.int .i64 o.n) (.int .i64 o.lo) ∧ A.Ext B := by
  have x2 := ext_make A [.int .i64 0, .str [], .int .i64 0, .int .i64 0] 1
  have hb := B4.make A (.int .i64 0) (.str []) (.int .i64 0) (.int .i64 0)
  obtain ⟨B, k1, k2, k3, k4⟩ := hb.st (a' := .int .i64 o.kind) (b' := .str o.key) (c' := .int .i64 o.n) (d' := .int .i64 o.lo) rfl
  exact ⟨B, k1, k2, ⟨by rw [← k3]; exact x2.next, fun f hf => by rw [k4 f (by omega)]; exact x2.get f hf⟩⟩
theorem place_spec {A : St} (h : A0.Ext A) {v : AV} {e : Int} (he : PlaceIs A v e) : Ev D0 G0 fnsL XA 26 [v] A fun r B => A = B ∧ r = .int .i64 e :=
  Ev.ext rfl (xa_place h.get he) ⟨rfl, rfl⟩
theorem at_nil {D : Disp} {G0 : Env} {X : Calls'} {A : St} {i : Int} : Ev D G0 fnsL X 25 [.int .i64 i, .nilIface] A fun r B => A = B ∧ r = .nilIface := by
  refine Ev.fnK (fn := a25) rfl ⟨by simp [a25], by decide⟩ ?_
  unfold a25
  simp [eqV, eqOf]
/-- An error with its place. -/
theorem at_bad {A : St} {v : AV} {i : Int} (h : BadE A v) : ErrIs (A.make [v, .int .i64 i] 1).2 (.iface 95 (.ptr (some (A.next, 0, 0)))) 6 ∧ PlaceIs (A.make [v, .int .i64 i] 1).2 (.iface 95 (.ptr (some (A.next, 0, 0)))) i := by
  have x := ext_make A [v, .int .i64 i] 1
  have c := cells_made A (cs := [v, .int .i64 i]) (n := 2) rfl
  generalize (A.make [v, .int .i64 i] 1).2 = A1 at *
  rcases h with ⟨f, g, s, rfl, _, h2, h3, h4, h5⟩ | ⟨g, rfl, h2, h3⟩
  · exact errIs_atin c (cells_kept x h2 h4) (cells_kept x h3 h5)
  · exact ⟨errIs_at c (cells_kept x h2 h3), placeIs_at c (cells_kept x h2 h3)⟩
theorem onesT_step {ps : List (List UInt8)} {i : Nat} {p : List UInt8} (h : ps[i]? = some p) : onesT i (ps.drop i) = match oneW (wordsS p) with
    | none => .inl i
    | some o => match onesT (i + 1) (ps.drop (i + 1)) with
      | .inl j => .inl j
      | .inr l => .inr (o :: l) := by
  obtain ⟨hlt, hg⟩ := List.getElem?_eq_some_iff.1 h
  rw [List.drop_eq_getElem_cons hlt, hg]
  rfl
/-- What has been read, and what is still to be read. -/
def upT (l : List OpD) (r : Nat ⊕ List OpD) : Nat ⊕ List OpD := match r with
  | .inl j => .inl j
  | .inr r => .inr (l ++ r)
theorem upT_some {l : List OpD} {ps : List (List UInt8)} {i : Nat} {p : List UInt8} {o : OpD} (h : ps[i]? = some p) (ho : oneW (wordsS p) = some o) : upT l (onesT i (ps.drop i)) = upT (l ++ [o]) (onesT (i + 1) (ps.drop (i + 1))) := by
  rw [onesT_step h, ho]
  cases onesT (i + 1) (ps.drop (i + 1)) with
  | inl j => rfl
  | inr r => simp [upT]
theorem parse_spec {A : St} (hA : A0.Ext A) {s : List UInt8} (hs : s.length ≤ 100000) : Ev D0 G0 fnsL XA 8 [.str s] A fun r B => A.Ext B ∧ ∃ v, r = .tuple [v, .int .i64 (parseT s).2.1, .int .i64 (parseT s).2.2] ∧ Sl B 4 v (opsCells (parseT s).1) := by
  refine Ev.fnK (fn := a8) rfl ⟨by simp [a8], by decide⟩ ?_
  unfold a8
  simp [ops_callf, allKnown]
  refine (words_spec hs).mono fun r B ⟨x1, hr, _⟩ => ?_
  have hlen := hr.lenV1
  rw [strsV_length] at hlen
  simp [hlen]
  by_cases h0 : wordsS s = []
  · have hp : parseT s = ([], 0, 0) := by unfold parseT; rw [if_pos h0]
    rw [h0]
    simp [hp]
    exact ⟨x1, .nil _ _ _⟩
  have hne : ¬ (wordsS s).length = 0 := fun h => h0 (List.length_eq_zero_iff.1 h)
  simp [hne, h0, ops_callf, allKnown]
  refine (split_spec hs).mono fun q C ⟨x2, hq⟩ => ?_
  have hl := splitS_len_le 59 s
  have hmem := splitS_mem 59 s
  have hlq := hq.lenV1
  rw [strsV_length] at hlq
  have hpT : parseT s = match onesT 0 (splitS 59 s) with
    | .inl i => ([], i, 6)
    | .inr l => if 8 < l.length then ([], 0, 7) else (l, 0, 0) := by
    unfold parseT
    rw [if_neg h0]
    cases onesT 0 (splitS 59 s) <;> rfl
  simp [hlq]
  generalize splitS 59 s = L at *
  refine Wp.loopK (fun d E A' => C.Ext A' ∧ Env.at E 15 = q ∧ Env.at E 16 = .int .i64 L.length ∧ ∃ (i : Nat) (o : AV) (l : List OpD), Env.at E 17 = .int .i64 i ∧ i + d = L.length ∧ Env.at E 5 = o ∧ AM.Own C.next A' 4 o (opsCells l) ∧ l.length = i ∧ onesT 0 L = upT l (onesT i (L.drop i))) L.length ?_ ?_
  · refine ⟨St.Ext.refl C, by simp, by simp, 0, .slice none 0 0 0 0, [], by simp, by simp, by simp, by simpa [opsCells] using AM.Own.nil _ _ _, rfl, ?_⟩
    rw [List.drop_zero]
    cases onesT 0 L <;> rfl
  rintro d E D ⟨xD, e15, e16, i, o, l, e17, hid, e5, ho, hli, hone⟩
  simp [e15, e16, e17, lss_nat, -bin_lss]
  refine contC_of (fun hc => ?_) (fun hc => ?_)
  · simp at hc
    obtain ⟨p, hp⟩ : ∃ p, L[i]? = some p := ⟨L[i], List.getElem?_eq_getElem hc⟩
    have hpl : p.length ≤ 100000 := Nat.le_trans (hmem p (List.mem_of_getElem? hp)) hs
    obtain ⟨a, g1, g2⟩ := Sl.str_at (hq.ext xD) hp .i64
    obtain ⟨i1, hi1, eai⟩ : ∃ y : Nat, y = i + 1 ∧ binOf .add (.int .i64 (i : Int)) (.int .i64 1) = some (.int .i64 (y : Int)) := ⟨_, rfl, add_one (i := i) (by omega)⟩
    simp [e15, e17, g1, g2, ops_callf, allKnown]
    refine (parse1_spec hpl).mono fun r2 F ⟨xF, hr2⟩ => ?_
    cases hw : oneW (wordsS p) with
    | some w =>
      rw [hw] at hr2
      simp only at hr2
      subst hr2
      obtain ⟨F2, k1, k2, x4⟩ := slotT F w
      have hcells : w.cells = [.int .i64 w.kind, .str w.key, .int .i64 w.n, .int .i64 w.lo] := rfl
      rw [← hcells] at k1
      have hld := k2.ld
      rw [← hcells] at hld
      simp [Made.value, k1, ops_callf, allKnown]
      refine at_nil.mono fun r3 F' ⟨hF, hr3⟩ => ?_
      subst hF hr3
      have hx4 := xF.trans x4
      obtain ⟨s', F3, h1, h2, h3⟩ := append_op (ho.ext hx4) (xD.trans hx4) (by omega) w
      rw [hcells] at h1 hld
      simp [e5, e17, eqV, eqOf, hld, fillA, AV.isBot, AV.cells, splice, Made.value, h1, eai, -bin_add]
      exact ⟨d - 1, by omega, h3, e15, e16, i1, rfl, by omega, l ++ [w], h2, by simp; omega, by rw [hone, upT_some hp hw, hi1]⟩
    | none =>
      rw [hw] at hr2
      obtain ⟨w, v, rfl, hbad⟩ := hr2
      obtain ⟨F2, k1, k2, x4⟩ := slotT F w
      have hcells : w.cells = [.int .i64 w.kind, .str w.key, .int .i64 w.n, .int .i64 w.lo] := rfl
      rw [← hcells] at k1
      have hbad2 := hbad.ext x4
      obtain ⟨t, pv, hv⟩ : ∃ t pv, v = .iface t pv := by
        rcases hbad with ⟨f, g, s, h, _⟩ | ⟨g, h, _⟩
        · exact ⟨_, _, h⟩
        · exact ⟨_, _, h⟩
      have xa := ext_make F2 [v, .int .i64 i] 1
      obtain ⟨er, pl⟩ := at_bad (i := (i : Int)) hbad2
      simp [Made.value, k1, ops_callf, allKnown, hv]
      rw [hv] at xa er pl
      refine at_spec.mono fun r3 F' ⟨hr3, hF⟩ => ?_
      subst hF hr3
      have hx5 := (((((hA.trans x1).trans x2).trans xD).trans xF).trans x4).trans xa
      simp [e17, eqV, eqOf, ops_callf, allKnown]
      refine (place_spec hx5 pl).mono fun r4 F' ⟨hF, hr4⟩ => ?_
      subst hF hr4
      simp [ops_callf, allKnown]
      refine (code_spec hx5 er).mono fun r4 F' ⟨hF, hr4⟩ => ?_
      subst hF hr4
      have hpp : parseT s = ([], (i : Int), 6) := by
        rw [hpT, hone, onesT_step hp, hw]
        rfl
      simp [hpp]
      exact ⟨(((((x1.trans x2).trans xD).trans xF).trans x4).trans xa), .nil _ _ _⟩
  · simp at hc
    have hil : i = L.length := by omega
    have hp2 : onesT 0 L = .inr l := by
      rw [hone, hil, List.drop_length]
      simp [onesT, upT]
    have hll := ho.sl.ops_lenV
    have hxx := (x1.trans x2).trans xD
    have eg : binOf .gtr (.int .i64 (l.length : Int)) (.int .i64 8) = some (.bool (decide (8 < l.length))) := gtr_nat .i64 l.length 8
    simp [e5, hll, eg, -bin_gtr]
    by_cases h8 : 8 < l.length
    · have hpp : parseT s = ([], 0, 7) := by rw [hpT, hp2]; simp [h8]
      simp [h8, hpp]
      exact ⟨hxx, .nil _ _ _⟩
    · have hpp : parseT s = (l, 0, 0) := by rw [hpT, hp2]; simp [h8]
      simp [h8, hpp, e5, ho.sl.known]
      exact ⟨hxx, ho.sl⟩
theorem rparse_spec {D : Disp} {G0 : Env} {X : Calls'} {A : St} {s : List UInt8} (hs : s.length ≤ 100000) : Ev D G0 fnsL X 9 [.str s] A fun r B => A.Ext B ∧ ∃ v, r = .tuple [v, .int .i64 (parseT s).2.1, .int .i64 (parseT s).2.2] ∧ Sl B 4 v (opsCells (parseT s).1) := by
  refine Ev.fnK (fn := a9) rfl ⟨by simp [a9], by decide⟩ ?_
  unfold a9
  simp [ops_callf, allKnown]
  refine (fields_spec hs).mono fun r B ⟨x1, hr, _⟩ => ?_
  have hlen := hr.lenV1
  rw [strsV_length] at hlen
  simp [hlen]
  by_cases h0 : wordsS s = []
  · have hp : parseT s = ([], 0, 0) := by unfold parseT; rw [if_pos h0]
    rw [h0]
    simp [hp]
    exact ⟨x1, .nil _ _ _⟩
  have hne : ¬ (wordsS s).length = 0 := fun h => h0 (List.length_eq_zero_iff.1 h)
  simp [hne, h0, ops_callf, allKnown]
  refine (rsplit_spec (c := 59) hs).mono fun q C ⟨x2, hq⟩ => ?_
  have hl := splitS_len_le 59 s
  have hmem := splitS_mem 59 s
  have hlq := hq.lenV1
  rw [strsV_length] at hlq
  have hpT : parseT s = match onesT 0 (splitS 59 s) with
    | .inl i => ([], i, 6)
    | .inr l => if 8 < l.length then ([], 0, 7) else (l, 0, 0) := by
    unfold parseT
    rw [if_neg h0]
    cases onesT 0 (splitS 59 s) <;> rfl
  simp [hlq]
  generalize splitS 59 s = L at *
  refine Wp.loopK (fun d E A' => C.Ext A' ∧ Env.at E 15 = q ∧ Env.at E 16 = .int .i64 L.length ∧ ∃ (i : Nat) (o : AV) (l : List OpD), Env.at E 17 = .int .i64 i ∧ i + d = L.length ∧ Env.at E 5 = o ∧ AM.Own C.next A' 4 o (opsCells l) ∧ l.length = i ∧ onesT 0 L = upT l (onesT i (L.drop i))) L.length ?_ ?_
  · refine ⟨St.Ext.refl C, by simp, by simp, 0, .slice none 0 0 0 0, [], by simp, by simp, by simp, by simpa [opsCells] using AM.Own.nil _ _ _, rfl, ?_⟩
    rw [List.drop_zero]
    cases onesT 0 L <;> rfl
  rintro d E D' ⟨xD, e15, e16, i, o, l, e17, hid, e5, ho, hli, hone⟩
  simp [e15, e16, e17, lss_nat, -bin_lss]
  refine contC_of (fun hc => ?_) (fun hc => ?_)
  · simp at hc
    obtain ⟨p, hp⟩ : ∃ p, L[i]? = some p := ⟨L[i], List.getElem?_eq_getElem hc⟩
    have hpl : p.length ≤ 100000 := Nat.le_trans (hmem p (List.mem_of_getElem? hp)) hs
    obtain ⟨a, g1, g2⟩ := Sl.str_at (hq.ext xD) hp .i64
    obtain ⟨i1, hi1, eai⟩ : ∃ y : Nat, y = i + 1 ∧ binOf .add (.int .i64 (i : Int)) (.int .i64 1) = some (.int .i64 (y : Int)) := ⟨_, rfl, add_one (i := i) (by omega)⟩
    simp [e15, e17, g1, g2, ops_callf, allKnown]
    refine (rone_spec hpl).mono fun r2 F ⟨xF, hr2⟩ => ?_
    cases hw : oneW (wordsS p) with
    | some w =>
      rw [hw] at hr2
      simp only at hr2
      subst hr2
      obtain ⟨F2, k1, k2, x4⟩ := slotT F w
      have hcells : w.cells = [.int .i64 w.kind, .str w.key, .int .i64 w.n, .int .i64 w.lo] := rfl
      rw [← hcells] at k1
      have hld := k2.ld
      have hx4 := xF.trans x4
      obtain ⟨s', F3, h1, h2, h3⟩ := append_op (ho.ext hx4) (xD.trans hx4) (by omega) w
      rw [hcells] at h1
      simp [Made.value, k1, e5, e17, hld, fillA, AV.isBot, AV.cells, splice, h1, eai, -bin_add]
      exact ⟨d - 1, by omega, h3, e15, e16, i1, rfl, by omega, l ++ [w], h2, by simp; omega, by rw [hone, upT_some hp hw, hi1]⟩
    | none =>
      rw [hw] at hr2
      obtain ⟨w, rfl⟩ := hr2
      obtain ⟨F2, k1, k2, x4⟩ := slotT F w
      have hcells : w.cells = [.int .i64 w.kind, .str w.key, .int .i64 w.n, .int .i64 w.lo] := rfl
      rw [← hcells] at k1
      have hpp : parseT s = ([], (i : Int), 6) := by
        rw [hpT, hone, onesT_step hp, hw]
        rfl
      simp [Made.value, k1, e17, hpp]
      exact ⟨((((x1.trans x2).trans xD).trans xF).trans x4), .nil _ _ _⟩
  · simp at hc
    have hil : i = L.length := by omega
    have hp2 : onesT 0 L = .inr l := by
      rw [hone, hil, List.drop_length]
      simp [onesT, upT]
    have hll := ho.sl.ops_lenV
    have hxx := (x1.trans x2).trans xD
    have eg : binOf .gtr (.int .i64 (l.length : Int)) (.int .i64 8) = some (.bool (decide (8 < l.length))) := gtr_nat .i64 l.length 8
    simp [e5, hll, eg, -bin_gtr]
    by_cases h8 : 8 < l.length
    · have hpp : parseT s = ([], 0, 7) := by rw [hpT, hp2]; simp [h8]
      simp [h8, hpp]
      exact ⟨hxx, .nil _ _ _⟩
    · have hpp : parseT s = (l, 0, 0) := by rw [hpT, hp2]; simp [h8]
      simp [h8, hpp, e5, ho.sl.known]
      exact ⟨hxx, ho.sl⟩
end Go.Proofs.YtejlhgcheaimjaaGreatDoor
/- The first law of the seat: operations are printed, and read, as the chapter says. -/
namespace Go.Proofs.YtejlhgcheaimjaaGreatDoor
open Go.AM
set_option maxRecDepth 100000
set_option linter.unusedSimpArgs false
set_option linter.unusedVariables false
def askT (o : OpD) : Bool := mayL o && keyL o.key
def checkT (l : List OpD) : Int := if 8 < l.length then 7 else if l.all askT = true then 0 else 2
theorem rcheck_spec {D : Disp} {G0 : Env} {X : Calls'} {A : St} {s : AV} {l : List OpD} (hs : Sl A 4 s (opsCells l)) (hl : l.length ≤ 100000) : Ev D G0 fnsL X 11 [s] A fun r B => A.Ext B ∧ r = .int .i64 (checkT l) := by
  refine Ev.fnK (fn := a11) rfl ⟨by simp [a11], by decide⟩ ?_
  unfold a11
  have eg : binOf .gtr (.int .i64 (l.length : Int)) (.int .i64 8) = some (.bool (decide (8 < l.length))) := gtr_nat .i64 l.length 8
  by_cases h8 : 8 < l.length
  · simp [hs.ops_lenV, eg, h8, checkT, -bin_gtr]
    exact St.Ext.refl A
  simp [hs.ops_lenV, eg, h8, checkT, -bin_gtr]
  refine Wp.loopK (fun d E A' => A.Ext A' ∧ Env.at E 8 = s ∧ Env.at E 9 = .int .i64 l.length ∧ ∃ i : Nat, Env.at E 10 = .int .i64 i ∧ i + d = l.length ∧ (l.take i).all askT = true) l.length ?_ ?_
  · exact ⟨St.Ext.refl A, by simp, by simp, 0, by simp, by simp, by simp⟩
  rintro d E B ⟨x1, e8, e9, i, e10, hid, hall⟩
  simp [e8, e9, e10, lss_nat, -bin_lss]
  refine contC_of (fun hc => ?_) (fun hc => ?_)
  · simp at hc
    obtain ⟨o, ho⟩ : ∃ o, l[i]? = some o := ⟨l[i], List.getElem?_eq_getElem hc⟩
    obtain ⟨p, g1, g2⟩ := (Sl.ext x1 hs).op_at ho .i64
    obtain ⟨i1, hi1, eai⟩ : ∃ y : Nat, y = i + 1 ∧ binOf .add (.int .i64 (i : Int)) (.int .i64 1) = some (.int .i64 (y : Int)) := ⟨_, rfl, add_one (i := i) (by omega)⟩
    obtain ⟨B2, k1, k2, x2⟩ := slotT B o
    have hcells : o.cells = [.int .i64 o.kind, .str o.key, .int .i64 o.n, .int .i64 o.lo] := rfl
    rw [← hcells] at k1
    have hld := k2.ld
    rw [← hcells] at hld
    simp [e8, e10, g1, g2, Made.value, k1, hld, ops_callf, allKnown]
    refine (rmay_spec o).mono fun r B3 ⟨x3, hr⟩ => ?_
    subst hr
    have l1 := (k2.ext x3).l1
    cases hm : mayL o with
    | false =>
      simp [pickV]
      exact ⟨(x1.trans x2).trans x3, o, List.mem_of_getElem? ho, by simp [askT, hm]⟩
    | true =>
      simp [AV.addr, l1, ops_callf, allKnown]
      refine rkey_spec.mono fun r B4' ⟨hB, hr⟩ => ?_
      subst hB hr
      cases hk : keyL o.key with
      | false =>
        simp [pickV]
        exact ⟨(x1.trans x2).trans x3, o, List.mem_of_getElem? ho, by simp [askT, hm, hk]⟩
      | true =>
        simp [pickV, e8, e9, e10, eai, -bin_add]
        refine ⟨d - 1, by omega, (x1.trans x2).trans x3, i1, rfl, by omega, ?_⟩
        rw [hi1, List.take_add_one, ho]
        intro x hx
        rcases List.mem_append.1 hx with hx | hx
        · exact List.all_eq_true.1 hall x hx
        · simp at hx
          subst hx
          simp [askT, hm, hk]
  · simp at hc
    have hil : i = l.length := by omega
    rw [hil, List.take_length] at hall
    simp
    exact ⟨x1, List.all_eq_true.1 hall⟩
theorem cutL_ok {l : List OpD} (h : ∀ o ∈ l, o.Ok) : ∀ o ∈ cutL l, o.Ok ∧ o.key.length ≤ 20 := fun o ho => by
  unfold cutL at ho
  obtain ⟨q, hq, rfl⟩ := List.mem_map.1 ho
  have hk : (q.key.take 20).length ≤ 20 := by simp; omega
  have h1 := h q (List.mem_of_mem_take hq)
  refine ⟨⟨h1.kind, ?_, h1.n, h1.lo⟩, hk⟩
  show (q.key.take 20).length ≤ maxLen
  have : (20 : Nat) ≤ maxLen := by decide
  omega
theorem print_len {l : List OpD} (hl : l.length ≤ 100) (h : ∀ o ∈ l, o.Ok ∧ o.key.length ≤ 20) : (printT l).length ≤ 7200 := by
  have := joinT_len 70 (l.map showT) fun x hx => by
    obtain ⟨o, ho, rfl⟩ := List.mem_map.1 hx
    exact show_len (h o ho).1 (h o ho).2
  rw [List.length_map] at this
  unfold printT
  omega
theorem onesT_len : ∀ {ps : List (List UInt8)} {i : Nat} {l : List OpD}, onesT i ps = .inr l → l.length = ps.length
  | [], i, l, h => by
    simp only [onesT] at h
    cases h
    rfl
  | p :: ps, i, l, h => by
    simp only [onesT] at h
    split at h
    · cases h
    · rename_i o ho
      split at h
      · cases h
      · rename_i r hr
        cases h
        simp [onesT_len hr]
theorem parseT_len (s : List UInt8) : (parseT s).1.length ≤ 8 := by
  unfold parseT
  split
  · simp
  · split
    · simp
    · split
      · simp
      · simp; omega
theorem law3 {A : St} (hA : A0.Ext A) {s : AV} {t0 : List UInt8} {l : List OpD} (hs : Sl A 4 s (opsCells l)) (hok : ∀ o ∈ l, o.Ok) :
    Ev D0 G0 fnsL XA 3 [s, .str t0] A fun r _ => r = .bool true := by
  refine Ev.fnK (fn := a3) rfl ⟨by simp [a3], by decide⟩ ?_
  unfold a3
  simp [ops_callf, allKnown, hs.allKnown]
  refine (cut_spec hs).mono fun r B ⟨x1, o1⟩ => ?_
  have hok2 := cutL_ok hok
  have hlen : (cutL l).length ≤ 12 := by unfold cutL; simp; omega
  generalize cutL l = L at *
  simp
  refine contC_join (fun E A' => B = A' ∧ Env.at E 0 = r ∧ ∃ t, Env.at E 1 = .str t ∧ t.length ≤ 300) (fun hc => ?_) (fun hc => ?_) ?_
  · simp at hc
    have hcut : cutStrV (.str t0) none (some (.int .i64 300)) = some (.str (t0.take 300)) := by
      have hb1 : bound? t0.length (.int .i64 300) = some 300 := by
        unfold bound?
        simp only
        rw [if_pos ⟨by decide, by omega⟩]
        rfl
      unfold cutStrV
      simp only [boundHi, boundLo, hb1]
      rfl
    simp [hcut]
    omega
  · simp at hc
    simp
    omega
  rintro E B' ⟨rfl, e0, t, e1, ht⟩
  simp [e0, ops_callf, allKnown, o1.sl.allKnown]
  refine (print_spec o1.sl (by omega) hok2).mono fun r1 C ⟨x2, hr⟩ => ?_
  subst hr
  have h2 := o1.sl.ext x2
  simp [e0, ops_callf, allKnown, h2.allKnown]
  refine (rprint_spec h2 (by omega) hok2).mono fun r1 C2 ⟨x3, hr⟩ => ?_
  subst hr
  have h3 := h2.ext x3
  have hA3 := ((hA.trans x1).trans x2).trans x3
  simp [e1, ops_callf, allKnown]
  refine (parse_spec hA3 (s := t) (by omega)).mono fun r1 C3 ⟨x4, va, hr, hva⟩ => ?_
  subst hr
  have hpl := parseT_len t
  simp [e1, ops_callf, allKnown]
  refine (rparse_spec (s := t) (by omega)).mono fun r1 C4 ⟨x5, vb, hr, hvb⟩ => ?_
  subst hr
  have hva5 := hva.ext x5
  simp [pickV, ops_callf, allKnown, hva5.allKnown, hvb.allKnown]
  refine (same_spec hva5 hvb (by omega)).mono fun r1 C5 ⟨hC, hr⟩ => ?_
  subst hC hr
  have h5 := (h3.ext x4).ext x5
  have hA5 := (hA3.trans x4).trans x5
  simp [pickV, e0, ops_callf, allKnown, h5.allKnown]
  refine (rcheck_spec h5 (by omega)).mono fun r1 C5 ⟨x6, hr⟩ => ?_
  subst hr
  have h6 := h5.ext x6
  have hA6 := hA5.trans x6
  by_cases hck : checkT L = 0
  · have hall : L.length ≤ 8 ∧ ∀ o ∈ L, mayL o = true ∧ keyL o.key = true := by
      unfold checkT at hck
      split at hck
      · cases hck
      · split at hck
        · rename_i h8 ha
          refine ⟨by omega, fun o ho => ?_⟩
          have := List.all_eq_true.1 ha o ho
          unfold askT at this
          rw [Bool.and_eq_true] at this
          exact this
        · cases hck
    have hpp := parse_print hall.1 fun o ho => ⟨(hok2 o ho).1, hall.2 o ho⟩
    have hprl := print_len (l := L) (by omega) hok2
    simp [hck, ops_callf, allKnown]
    refine (parse_spec hA6 (s := printT L) (by omega)).mono fun r1 C7 ⟨x7, vc, hr, hvc⟩ => ?_
    subst hr
    rw [hpp] at hvc
    have h7 := h6.ext x7
    simp [hpp, e0, pickV, ops_callf, allKnown, hvc.allKnown, h7.allKnown]
    refine (same_spec (l := L) hvc h7 (by omega)).mono fun r1 C8 ⟨hC, hr⟩ => ?_
    subst hC hr
    simp [pickV, ops_callf, allKnown]
    refine (awake_spec (hA6.trans x7)).mono fun r1 C8 ⟨hC, hr⟩ => ?_
    subst hC hr
    simp [pickV]
  · simp [hck, ops_callf, allKnown]
    refine (awake_spec hA6).mono fun r1 C8 ⟨hC, hr⟩ => ?_
    subst hC hr
    simp
end Go.Proofs.YtejlhgcheaimjaaGreatDoor
/- The statement OpsTexts: operations are printed, and any text is read, as the chapter says; what may be asked is read again. Nothing is asked of the input. -/
namespace Go.Proofs.YtejlhgcheaimjaaGreatDoor
open Go Go.AM Go.ChangeShapes Go.WideShapes Go.ChangeAt Go.RowKit
set_option maxRecDepth 100000

theorem opsTexts_lifted (os : Os) (started : os.Started) (H : Type) (enc : TypeId × Value → H) :
    ReturnsInHanded {} Tryz.checked os 3 .any (fun w args => (Rows.opsTextsSpec.pre enc Tryz.prog Tryz.f3 [] false w args ∧ laidMetH Tryz.prog laidL w) ∧ sizedMet enc Tryz.prog Tryz.f3 (OpenSpec.ofChange Rows.opsTextsSpec) false w args)
      (Rows.opsTextsSpec.post enc Tryz.prog Tryz.f3 false true false false) := by
  refine returnsInHanded_of_change_and (C := Tryz.checked) (X := fun w _ => laidMetH Tryz.prog laidL w) (fun _ _ _ hh h => h.of_heap hh) own started (by kernel_rfl) Tryz.func3
    (ChangeSpec.witness_shaped (enc := enc) (C := Tryz.checked) (os := os) (X := fun w _ => laidMetH Tryz.prog laidL w) false (w0 os) #[.slice none 0 0, .string ⟨#[]⟩] 8 (w0_os os) (World.shaped_of_ZipB (by kernel_rfl) (by kernel_rfl)) (by kernel_rfl) (by kernel_rfl) (by kernel_rfl) (door_met os _)) ?_
  intro W base args ds gs before hval0 hW _ _ hL _
  have hval : ∀ (j : Nat) t v, Tryz.f3.params[j]? = some t → args[j]? = some v → Value.okWide Tryz.prog W .any base t v := hval0
  have hW' := hW
  obtain ⟨p, q, hA0, hV, _, _, _⟩ := hW'
  have hA : DataW.TrodAll enc Tryz.prog W 0 (fun _ => true) true Tryz.f3.params.toList args.toList ds p := hA0
  have hp : Tryz.f3.params.toList = [22, 9] := by rw [Tryz.params3]
  rw [hp] at hA
  obtain ⟨v0, v1, d0, d1, p0, p1, rfl, rfl, h0, h1⟩ := trodAll_two hA
  obtain ⟨rfl, rfl⟩ := trodVars_none hV
  refine law_callsG (P := Tryz.prog) (fn := Tryz.f3) (s := Rows.opsTextsSpec) (t := 4) (k := 5) (D := D0) (fns := fnsL) mixed ⟨rfl, few⟩ (start hL) (baseOk_two (by decide)) fnsL_comp xa_ok laidOut rfl (by kernel_rfl) Tryz.underlying4 ?_ hval hW rfl ?_
  · rw [hp]
    intro t ht
    simp only [List.mem_cons, List.not_mem_nil, or_false] at ht
    rcases ht with rfl | rfl
    · exact par22
    · exact par9
  · rw [hp]
    intro A vs hA0 _ hvs
    match vs, hvs with
    | [a0, a1], ⟨r0, r1, _⟩ =>
      obtain ⟨l0, ok0, sl0, ll0⟩ := argOps Tryz.underlying22 (by kernel_rfl) opT41 r0
      obtain ⟨s1, rfl, ls1⟩ := argStr Tryz.underlying9 r1
      exact law3 hA0 sl0 ok0

theorem opsTexts_said : Rows.OpsTextsSaid :=
  OpenClaim.holds_of_wide 3 Tryz.f3 rfl rfl rfl rfl rfl rfl rfl ⟨rfl, rfl, rfl, rfl, rfl⟩ rfl rfl rfl rfl rfl (by kernel_rfl) Tryz.func3 (by kernel_rfl)
    (of_decide_eq_true (by kernel_rfl)) (by unfold Func.isWrapper; first | (rw [if_pos (by decide +kernel)]; kernel_rfl) | (rw [if_neg (by decide +kernel)]; exact ⟨rfl, rfl⟩))
    (fun os started H enc _ => opsTexts_lifted os started H enc)

theorem opsTexts_holds : Rows.OpsTextsCardSaid :=
  Claim7.holds_tied_plain_at .later [] [.data, .data, .data, .data, .handle, .sentinel, .sentinel, .pinned] true (true, "f47f2856b14d585c07ac66f5877d153b1fb7d271b8846f5c0bbb0d4c0a5f080e") true
    opsTexts_said (fun _ h => by cases h) (by kernel_rfl) (fun _ h => by cases h) opsTexts_row_tie rfl ⟨rfl, rfl⟩ (by kernel_rfl) rfl
    (fun f fn hf hfn => by
      obtain rfl : f = 3 := Option.some.inj ((show Tryz.prog.funcNamed "byroad/byroadlaw06.OpsTexts" = some 3 by kernel_rfl).symm.trans hf) |>.symm
      obtain rfl : fn = Tryz.f3 := (Option.some.inj (Tryz.func3.symm.trans hfn)).symm
      exact ⟨by kernel_rfl, fun j t ht => by
        rw [Tryz.params3] at ht
        have h3 : t = 22 ∨ t = 9 := by
          rcases j with _ | _ | j
          · left; simpa using ht.symm
          · right; simpa using ht.symm
          · simp at ht
        rcases h3 with rfl | rfl
        · exact (show Tryz.prog.wantsStandIn 22 = false by kernel_rfl)
        · exact (show Tryz.prog.wantsStandIn 9 = false by kernel_rfl)⟩)
    (by kernel_rfl)
end Go.Proofs.YtejlhgcheaimjaaGreatDoor
