/- Rows: what a key holds, rows with something, operations that are run, their inverse. -/
import Derived.Test.YteoioahkflcchaaGreatDoorOpsCut
import Derived.Test.YteoioahkflcchaaGreatDoorAmRows
import Derived.Test.YteoioahkflcchaaGreatDoorOpsErr
namespace Go.Proofs.YteoioahkflcchaaGreatDoor
open Go.AM
set_option maxRecDepth 100000
set_option linter.unusedSimpArgs false
variable {D : Disp} {G0 : Env} {X : Calls'}

def atL (l : List RowD) (k : List UInt8) : Int × Bool := match l.find? (fun r => r.key == k) with | some r => (r.n, true) | none => (0, false)
def withL (l : List RowD) (k : List UInt8) (n : Int) (there : Bool) : List RowD := l.filter (fun r => r.key != k) ++ (if there then [⟨k, n⟩] else [])
theorem take_find {l : List RowD} {i : Nat} {o : RowD} {p : RowD → Bool} (ho : l[i]? = some o) (h : (l.take i).find? p = none) : (p o = true → l.find? p = some o) ∧ (p o = false → (l.take (i + 1)).find? p = none) := by
  refine ⟨fun hp => ?_, fun hp => ?_⟩
  · have : l = l.take i ++ (o :: l.drop (i + 1)) := by
      have hlt := (List.getElem?_eq_some_iff.1 ho)
      obtain ⟨h1, h2⟩ := hlt
      conv => lhs; rw [← List.take_append_drop i l]
      rw [List.drop_eq_getElem_cons h1, h2]
    rw [this, List.find?_append, h]
    simp [List.find?, hp]
  · rw [List.take_add_one, ho, List.find?_append, h]
    simp [List.find?, hp]
def noneIn (l : List RowD) (k : List UInt8) : Prop := l.find? (fun r => r.key == k) = none
theorem rowat_spec {A : St} {s : AV} {l : List RowD} {k : List UInt8} (hs : Sl A 2 s (rowR.all l)) (hlen : l.length < 2 ^ 62) : Ev D G0 fnsL X 21 [s, .str k] A fun r B => A.Ext B ∧ r = .tuple [.int .i64 (atL l k).1, .bool (atL l k).2] := by
  refine Ev.fnK (fn := a21) rfl ⟨by simp [a21], by decide⟩ ?_
  unfold a21
  simp [hs.rec_lenV]
  refine Wp.loopK (fun d E A' => A.Ext A' ∧ Env.at E 1 = .str k ∧ Env.at E 8 = s ∧ Env.at E 9 = .int .i64 l.length ∧ ∃ i : Nat, Env.at E 10 = .int .i64 i ∧ i + d = l.length ∧ noneIn (l.take i) k) l.length ?_ ?_
  · exact ⟨St.Ext.refl A, by simp, by simp, by simp, 0, by simp, by simp, rfl⟩
  rintro d E A1 ⟨x1, e1, e8, e9, i, e10, hi, hall⟩
  have hs1 := hs.ext x1
  simp [e9, e10]
  refine contC_of (fun hc => ?_) (fun hc => ?_)
  · simp at hc
    obtain ⟨o, ho⟩ : ∃ o, l[i]? = some o := ⟨l[i], List.getElem?_eq_getElem hc⟩
    obtain ⟨p, g1, g2⟩ := hs1.rec_at ho .i64
    obtain ⟨n1, n2⟩ := take_find ho hall
    have ea := add_one (i := i) (by omega)
    simp [e8, e10, g1, g2, Made.value]
    obtain ⟨A3, k1, k2, x3⟩ := Bx.slot A1 [.str [], .int .i64 0] (ds := rowR.cells o) (n := 2) rfl rfl rfl
    have l0 := k2.at (o := 0) (v := .str o.key) rfl
    have l1 := k2.at (o := 1) (v := .int .i64 o.n) rfl
    simp [k1, l0, l1, AV.addr, e1]
    by_cases hk : o.key = k
    · simp [hk, k2, l1, AV.addr]
      have := n1 (by simp [hk])
      simp [atL, this]
      exact x1.trans x3
    · simp [hk, e1, e8, e9, e10, ea, -bin_add]
      exact ⟨d - 1, by omega, x1.trans x3, i + 1, by omega, by omega, n2 (by simp [hk])⟩
  · simp at hc
    have hil : i = l.length := by omega
    subst hil
    rw [List.take_length] at hall
    have : atL l k = (0, false) := by unfold atL; rw [show l.find? (fun r => r.key == k) = none from hall]
    simp [this]
    exact x1
@[simp] theorem rowR_cells (o : RowD) : rowR.cells o = [.str o.key, .int .i64 o.n] := rfl
theorem with_spec {A : St} {s : AV} {l : List RowD} {k : List UInt8} {n : Int} {there : Bool} (hs : Sl A 2 s (rowR.all l)) (hlen : l.length < 1000000) : Ev D G0 fnsL X 18 [s, .str k, .int .i64 n, .bool there] A fun r B => A.Ext B ∧ Own A.next B 2 r (rowR.all (withL l k n there)) := by
  refine Ev.fnK (fn := a18) rfl ⟨by simp [a18], by decide⟩ ?_
  unfold a18
  simp [hs.rec_lenV]
  refine Wp.loopK (fun d E A' => A.Ext A' ∧ Env.at E 1 = .str k ∧ Env.at E 2 = .int .i64 n ∧ Env.at E 3 = .bool there ∧ Env.at E 12 = s ∧ Env.at E 13 = .int .i64 l.length ∧ ∃ (i : Nat) (v : AV), Env.at E 14 = .int .i64 i ∧ Env.at E 9 = v ∧ i + d = l.length ∧ Own A.next A' 2 v (rowR.all ((l.take i).filter (fun r => r.key != k)))) l.length ?_ ?_
  · exact ⟨St.Ext.refl A, by simp, by simp, by simp, by simp, by simp, 0, .slice none 0 0 0 0, by simp, by simp, by simp, by simpa [Rec.all] using Own.nil _ _ _⟩
  rintro d E A1 ⟨x1, e1, e2, e3, e12, e13, i, v, e14, e9, hi, hown⟩
  have hs1 := hs.ext x1
  have hle : ((l.take i).filter (fun r => r.key != k)).length ≤ i := Nat.le_trans (List.length_filter_le _ _) (by simp; omega)
  simp [e13, e14]
  refine contC_of (fun hc => ?_) (fun hc => ?_)
  · simp at hc
    obtain ⟨o, ho⟩ : ∃ o, l[i]? = some o := ⟨l[i], List.getElem?_eq_getElem hc⟩
    obtain ⟨p, g1, g2⟩ := hs1.rec_at ho .i64
    have ea := add_one (i := i) (by omega)
    simp at g2
    simp [e12, e14, g1, g2, Made.value]
    obtain ⟨A3, k1, k2, x3⟩ := Bx.slot A1 [.str [], .int .i64 0] (ds := rowR.cells o) (n := 2) rfl rfl rfl
    have l0 := k2.at (o := 0) (v := .str o.key) rfl
    have l1 := k2.at (o := 1) (v := .int .i64 o.n) rfl
    have ld := k2.ld (n := 2) rfl
    simp at k1 ld
    have hx := x1.trans x3
    simp [k1, l0, l1, AV.addr, e1]
    have hf : (l.take (i + 1)).filter (fun r => r.key != k) = (l.take i).filter (fun r => r.key != k) ++ (if o.key != k then [o] else []) := by
      rw [List.take_add_one, ho, List.filter_append]
      by_cases hk : o.key = k <;> simp [hk]
    by_cases hk : o.key = k
    · have hk' : (o.key != k) = false := by simp [hk]
      rw [hk'] at hf
      simp only [Bool.false_eq_true, if_false, List.append_nil] at hf
      simp [hk, e1, e2, e3, e9, e12, e13, e14, ea, -bin_add]
      exact ⟨d - 1, by omega, hx, i + 1, by omega, by omega, by rw [hf]; exact hown.ext x3⟩
    · have hk' : (o.key != k) = true := by simp [hk]
      rw [hk'] at hf
      simp only [if_true] at hf
      have hown3 := hown.ext x3
      obtain ⟨s', B, q1, q2, q3⟩ := append_rec (bytes := 24) hown3 hx (by omega) (by omega) o
      simp at q1
      simp [hk, e1, e2, e3, e9, e12, e13, e14, ea, ld, fillA, AV.isBot, AV.cells, splice, Made.value, q1, -bin_add]
      exact ⟨d - 1, by omega, q3, i + 1, by omega, by omega, by rw [hf]; exact q2⟩
  · simp at hc
    have hil : i = l.length := by omega
    subst hil
    rw [List.take_length] at hown hle
    cases there with
    | false =>
      simp [e3, e9, hown.sl.known, withL]
      exact ⟨x1, hown⟩
    | true =>
      obtain ⟨s', B, q1, q2, q3⟩ := append_rec (bytes := 24) hown x1 (by omega) (by omega) ⟨k, n⟩
      simp at q1
      simp [e1, e2, e3, e9, fillA, AV.isBot, AV.cells, splice, Made.value, q1, withL, q2.sl.known]
      exact ⟨q3, q2⟩
end Go.Proofs.YteoioahkflcchaaGreatDoor
/- The inverse of operations; operations that are run. -/
namespace Go.Proofs.YteoioahkflcchaaGreatDoor
open Go.AM
set_option maxRecDepth 100000
set_option linter.unusedSimpArgs false
variable {D : Disp} {G0 : Env} {X : Calls'}

theorem pureOf_mkFunc (E : Env) (fn : Fn) (first captured : List Operand) : pureOf E (.mkFunc fn first captured) = bif allKnown (evs E first) && allKnown (evs E captured) then some (.func fn (evs E first) (evs E captured)) else none := rfl
theorem bin_sub_ok {a b : Int} (h1 : -9223372036854775808 ≤ a - b) (h2 : a - b ≤ 9223372036854775807) : binOf .sub (.int .i64 a) (.int .i64 b) = some (.int .i64 (a - b)) := by
  have : IntKind.i64.wrap (a - b) = a - b := by rw [IntKind.wrap_i64]; omega
  simp [this]
theorem un_neg (n : Int) : unOf .neg (.int .i64 n) = some (.int .i64 (wrapI (-n))) := by
  rw [← Int.zero_sub]
  rfl
theorem int_index_spec {A : St} {s : AV} {ks : List Int} {x : Int} (hs : Sl A 1 s (ks.map (AV.int .i64))) (hlen : ks.length < 2 ^ 62) :
    Ev D G0 fnsL X 77 [s, .int .i64 x] A fun r B => A = B ∧ ∃ i : Int, r = .int .i64 i ∧ (0 ≤ i ↔ x ∈ ks) := by
  refine Ev.fnK (fn := a77) rfl ⟨by simp [a77], by decide⟩ ?_
  unfold a77
  have hl := hs.lenV1
  simp only [List.length_map] at hl
  simp [hl]
  refine Wp.loopK (fun d E A' => A = A' ∧ Env.at E 0 = s ∧ Env.at E 1 = .int .i64 x ∧ Env.at E 7 = .int .i64 ks.length ∧ ∃ i : Nat, Env.at E 8 = .int .i64 i ∧ i + d = ks.length ∧ x ∉ ks.take i) ks.length ?_ ?_
  · exact ⟨rfl, by simp, by simp, by simp, 0, by simp, by simp, by simp⟩
  rintro d E A1 ⟨rfl, e0, e1, e7, i, e8, hi, hany⟩
  simp [e7, e8]
  refine contC_of (fun hc => ?_) (fun hc => ?_)
  · simp at hc
    obtain ⟨o, ho⟩ : ∃ o, ks[i]? = some o := ⟨ks[i], List.getElem?_eq_getElem hc⟩
    obtain ⟨q, g1, g2⟩ := hs.at_one (j := i) (v := .int .i64 o) (by rw [List.getElem?_map, ho]; rfl) .i64
    have ea := add_one63 (i := i) (by omega)
    simp [e0, e1, e8, g1, g2]
    by_cases hx : x = o
    · simp [hx]
      exact List.mem_of_getElem? ho
    · simp [hx, e0, e1, e7, e8, ea, -bin_add]
      refine ⟨d - 1, by omega, i + 1, by omega, by omega, ?_⟩
      rw [List.take_add_one, ho]
      simp [hany, hx]
  · simp at hc
    have hil : i = ks.length := by omega
    subst hil
    rw [List.take_length] at hany
    simp [hany]
theorem int_contains_spec {A : St} {s : AV} {ks : List Int} {x : Int} (hs : Sl A 1 s (ks.map (AV.int .i64))) (hlen : ks.length < 2 ^ 62) :
    Ev D G0 fnsL X 59 [s, .int .i64 x] A fun r B => A = B ∧ r = .bool (decide (x ∈ ks)) := by
  refine Ev.fnK (fn := a59) rfl ⟨by simp [a59], by decide⟩ ?_
  unfold a59
  simp [ops_callf, allKnown, hs.allKnown]
  refine (int_index_spec hs hlen).mono fun r B ⟨hB, i, hr, hi⟩ => ?_
  subst hB
  subst hr
  by_cases h : 0 ≤ i
  · simp [h, hi.1 h]
  · simp [h, show ¬ x ∈ ks from fun hx => h (hi.2 hx)]
/-- A test with captured variables, over states that go on from here. -/
theorem index_spec2 {A : St} {s : AV} {l : List OpD} (hs : Sl A 4 s (opsCells l)) (hlen : l.length < 2 ^ 62) {g : FuncId} {p : OpD → Bool} {cap : List AV} (hc : allKnown cap = true) (hp : ∀ (B : St) (o : OpD), A.Ext B → Ev D G0 fnsL X g (.agg o.cells :: cap) B fun r C => B.Ext C ∧ r = .bool (p o)) :
    Ev D G0 fnsL X 46 [s, .func (.func g) [] cap] A fun r B => A.Ext B ∧ ∃ i : Int, r = .int .i64 i ∧ (0 ≤ i ↔ l.any p = true) := by
  refine Ev.fnK (fn := a46) rfl ⟨by simp [a46], by decide⟩ ?_
  unfold a46
  simp [hs.ops_lenV]
  refine Wp.loopK (fun d E A' => A.Ext A' ∧ Env.at E 0 = s ∧ Env.at E 1 = .func (.func g) [] cap ∧ Env.at E 7 = .int .i64 l.length ∧ ∃ i : Nat, Env.at E 8 = .int .i64 i ∧ i + d = l.length ∧ (l.take i).any p = false) l.length ?_ ?_
  · exact ⟨St.Ext.refl A, by simp, by simp, by simp, 0, by simp, by simp, by simp⟩
  rintro d E A1 ⟨x1, e0, e1, e7, i, e8, hi, hany⟩
  have hs1 := hs.ext x1
  simp [e7, e8]
  refine contC_of (fun hc2 => ?_) (fun hc2 => ?_)
  · simp at hc2
    obtain ⟨o, ho⟩ : ∃ o, l[i]? = some o := ⟨l[i], List.getElem?_eq_getElem hc2⟩
    obtain ⟨q, g1, g2⟩ := hs1.op_at ho .i64
    have ea := add_one63 (i := i) (by omega)
    simp [e0, e1, e8, g1, g2]
    rw [ops_callv (f := g) (first := []) (captured := cap) _ _ _ _ _ (by simp) (by simp [allKnown, hc])]
    simp
    refine (hp A1 o x1).mono fun r B ⟨xB, hr⟩ => ?_
    subst hr
    cases hpo : p o with
    | true =>
      simp
      refine ⟨x1.trans xB, o, List.mem_of_getElem? ho, hpo⟩
    | false =>
      simp [e0, e1, e7, e8, ea, -bin_add]
      refine ⟨d - 1, by omega, x1.trans xB, i + 1, by omega, by omega, ?_⟩
      intro x hx
      rw [List.take_add_one, ho] at hx
      simp at hx
      rcases hx with hx | rfl
      · have := List.any_eq_false.1 hany x hx
        simpa using this
      · exact hpo
  · simp at hc2
    have hil : i = l.length := by omega
    subst hil
    rw [List.take_length] at hany
    simp
    refine ⟨x1, fun x hx => ?_⟩
    have := List.any_eq_false.1 hany x hx
    simpa using this
theorem any_spec {A : St} {s : AV} {l : List OpD} (hs : Sl A 4 s (opsCells l)) (hlen : l.length < 2 ^ 62) {g : FuncId} {p : OpD → Bool} {cap : List AV} (hc : allKnown cap = true) (hp : ∀ (B : St) (o : OpD), A.Ext B → Ev D G0 fnsL X g (.agg o.cells :: cap) B fun r C => B.Ext C ∧ r = .bool (p o)) :
    Ev D G0 fnsL X 29 [s, .func (.func g) [] cap] A fun r B => A.Ext B ∧ r = .bool (l.any p) := by
  refine Ev.fnK (fn := a29) rfl ⟨by simp [a29], by decide⟩ ?_
  unfold a29
  simp [ops_callf, allKnown, hs.allKnown]
  refine (index_spec2 hs hlen hc hp).mono fun r B ⟨xB, i, hr, hi⟩ => ?_
  subst hr
  by_cases h : 0 ≤ i
  · have := hi.1 h
    simp [h, this]
    exact xB
  · have : l.any p = false := by
      cases ha : l.any p with
      | false => rfl
      | true => exact absurd (hi.2 ha) h
    simp [h, this]
    exact xB
def kindsL (ks : List Int) (l : List OpD) : Bool := !l.any (fun o => !decide (o.kind ∈ ks))
theorem grows_spec {A : St} {s t : AV} {l : List OpD} {ks : List Int} (hs : Sl A 4 s (opsCells l)) (hlen : l.length < 2 ^ 62) (ht : Sl A 1 t (ks.map (AV.int .i64))) (hk : ks.length < 2 ^ 62) :
    Ev D G0 fnsL X 39 [s, t] A fun r B => A.Ext B ∧ r = .bool (kindsL ks l) := by
  refine Ev.fnK (fn := a39) rfl ⟨by simp [a39], by decide⟩ ?_
  unfold a39
  have hx := ext_make A [t] 1
  have hb := Bx.make A [t]
  have hbox := ht.boxV
  simp [hbox, Made.value]
  generalize (A.make [t] 1).2 = A1 at *
  simp [ops_callf, allKnown, hs.allKnown, pureOf_mkFunc]
  refine (any_spec (hs.ext hx) hlen (p := fun o => !decide (o.kind ∈ ks)) rfl fun B o xB => ?_).mono fun r B ⟨xB, hr⟩ => ?_
  · refine Ev.fnK (fn := a58) rfl ⟨by simp [a58], by decide⟩ ?_
    unfold a58
    have hb1 := hb.ext xB
    have ht1 := (ht.ext hx).ext xB
    have x2 := ext_make B o.cells 1
    have hb2 := (hb1.ext x2).at (o := 0) (v := t) rfl
    have hb3 := (Bx.make B o.cells).at (o := 0) (v := .int .i64 o.kind) rfl
    simp [Made.value]
    generalize (B.make o.cells 1).2 = B1 at *
    simp [AV.addr, hb2, hb3, ops_callf, allKnown, ht.allKnown]
    refine (int_contains_spec (ht1.ext x2) hk).mono fun r C ⟨hC, hr⟩ => ?_
    subst hC
    subst hr
    simp
    exact x2
  · subst hr
    simp [kindsL]
    exact hx.trans xB
/-- The inverse of operations. -/
def backL (o : OpD) : OpD := ⟨6, o.key, wrapI (-o.n), 0⟩
def backsL (l : List OpD) : List OpD := (l.reverse.filter (fun o => decide (o.kind ≠ 1))).map backL
def invOk (l : List OpD) : Bool := kindsL [1, 4, 5, 6] l && !l.any (fun o => !mayL o)
theorem notmay_spec {A : St} (o : OpD) : Ev D G0 fnsL X 40 [.agg o.cells] A fun r B => A.Ext B ∧ r = .bool (!mayL o) := by
  refine Ev.fnK (fn := a40) rfl ⟨by simp [a40], by decide⟩ ?_
  unfold a40
  have x2 := ext_make A o.cells 1
  have hb := (Bx.make A o.cells).ld (n := 4) rfl
  simp [Made.value]
  generalize (A.make o.cells 1).2 = B1 at *
  simp [hb, ops_callf, allKnown]
  refine (may_spec o).mono fun r C ⟨x3, hr⟩ => ?_
  subst hr
  simp
  exact x2.trans x3
theorem inverse_spec {A : St} {s : AV} {l : List OpD} (hs : Sl A 4 s (opsCells l)) (hlen : l.length < 1000000) :
    Ev D G0 fnsL X 19 [s] A fun r B => A.Ext B ∧ ∃ t, r = .tuple [t, .bool (invOk l)] ∧ Sl B 4 t (opsCells (if invOk l then backsL l else [])) := by
  refine Ev.fnK (fn := a19) rfl ⟨by simp [a19], by decide⟩ ?_
  unfold a19
  simp [fillA, AV.isBot, AV.cells, splice, Made.value]
  have x1 := ext_make A [.int .i64 1, .int .i64 4, .int .i64 5, .int .i64 6] 1
  have o1 := own_built A (cs := [.int .i64 1, .int .i64 4, .int .i64 5, .int .i64 6]) (n := 4) rfl
  generalize (A.make [.int .i64 1, .int .i64 4, .int .i64 5, .int .i64 6] 1).2 = A1 at *
  simp [ops_callf, allKnown, hs.allKnown]
  have hs1 := hs.ext x1
  refine (grows_spec hs1 (by omega) (ks := [1, 4, 5, 6]) o1.sl (by simp)).mono fun r A2 ⟨x2, hr⟩ => ?_
  subst hr
  cases hk : kindsL [1, 4, 5, 6] l with
  | false =>
    simp [invOk, hk]
    exact ⟨x1.trans x2, .nil _ _ _⟩
  | true =>
    have hs2 := hs1.ext x2
    simp [ops_callf, allKnown, hs2.allKnown]
    refine (any_spec hs2 (by omega) (p := fun o => !mayL o) rfl fun B o xB => notmay_spec o).mono fun r A3 ⟨x3, hr⟩ => ?_
    subst hr
    have hx := (x1.trans x2).trans x3
    have hs3 := hs2.ext x3
    cases hm : l.any (fun o => !mayL o) with
    | true =>
      simp [invOk, hk, hm]
      exact ⟨hx, .nil _ _ _⟩
    | false =>
      have hsub : binOf .sub (.int .i64 (l.length : Int)) (.int .i64 1) = some (.int .i64 ((l.length : Int) - 1)) := bin_sub_ok (by omega) (by omega)
      simp [hs3.ops_lenV, hsub, -bin_sub]
      refine Wp.loopK (fun d E A' => A.Ext A' ∧ Env.at E 0 = s ∧ Env.at E 5 = .int .i64 ((d : Int) - 1) ∧ d ≤ l.length ∧ ∃ v : AV, Env.at E 4 = v ∧ Own A.next A' 4 v (opsCells (backsL (l.drop d)))) l.length ?_ ?_
      · exact ⟨hx, by simp, by simp, Nat.le_refl _, .slice none 0 0 0 0, by simp, by simpa [opsCells, backsL] using Own.nil _ _ _⟩
      rintro d E A4 ⟨x4, e0, e5, hd, v, e4, hown⟩
      have hs4 := hs.ext x4
      simp [e5]
      refine contC_of (fun hc => ?_) (fun hc => ?_)
      · simp at hc
        obtain ⟨d, rfl⟩ : ∃ d', d = d' + 1 := ⟨d - 1, by omega⟩
        obtain ⟨o, ho⟩ : ∃ o, l[d]? = some o := ⟨l[d], List.getElem?_eq_getElem (by omega)⟩
        have hd1 : ((d + 1 : Nat) : Int) - 1 = (d : Int) := by omega
        rw [hd1] at e5
        obtain ⟨p, g1, g2, f0, f1, f2, f3⟩ := hs4.op_at_f ho .i64
        have hsub2 : binOf .sub (.int .i64 (d : Int)) (.int .i64 1) = some (.int .i64 ((d : Int) - 1)) := bin_sub_ok (by omega) (by omega)
        have hdrop : l.drop d = o :: l.drop (d + 1) := by
          rw [List.drop_eq_getElem_cons (List.getElem?_eq_some_iff.1 ho).1, (List.getElem?_eq_some_iff.1 ho).2]
        simp [e0, e5, g1, f0]
        by_cases hk1 : o.kind = 1
        · have hb : backsL (l.drop d) = backsL (l.drop (d + 1)) := by
            rw [hdrop]
            unfold backsL
            simp [hk1]
          simp [hk1, e0, e4, e5, hsub2, -bin_sub]
          exact ⟨d, by omega, x4, rfl, by omega, by rw [hb]; exact hown⟩
        · have hb : backsL (l.drop d) = backsL (l.drop (d + 1)) ++ [backL o] := by
            rw [hdrop]
            unfold backsL
            simp [hk1]
          have hle : (backsL (l.drop (d + 1))).length ≤ l.length := by
            unfold backsL
            rw [List.length_map]
            refine Nat.le_trans (List.length_filter_le _ _) ?_
            simp
          obtain ⟨s', B, q1, q2, q3⟩ := append_op hown x4 (by omega) (backL o)
          have hcc : (backL o).cells = [.int .i64 6, .str o.key, .int .i64 (wrapI (-o.n)), .int .i64 0] := rfl
          rw [hcc] at q1
          simp [hk1]
          refine Wp.draws ?_
          simp [e0, e4, e5, g1, f1, f2, un_neg, fillA, AV.isBot, AV.cells, splice, Made.value, q1, InAll, AV.beq, AV.beqs, hsub2, -bin_sub]
          exact ⟨d, by omega, q3, rfl, by omega, by rw [hb]; exact q2⟩
      · simp at hc
        have hd0 : d = 0 := by omega
        subst hd0
        rw [List.drop_zero] at hown
        simp [e4, hown.sl.known, invOk, hk, hm]
        exact ⟨x4, hown.sl⟩
end Go.Proofs.YteoioahkflcchaaGreatDoor
/- Operations that are run over rows. -/
namespace Go.Proofs.YteoioahkflcchaaGreatDoor
open Go.AM
set_option maxRecDepth 100000
set_option linter.unusedSimpArgs false
variable {D : Disp} {G0 : Env} {X : Calls'}

def runL : List RowD → List OpD → List RowD × Bool
  | rows, [] => (rows, true)
  | rows, o :: l =>
    let x := evalL o (atL rows o.key).1 (atL rows o.key).2
    if x.2.2.2 = 0 then runL (withL rows o.key x.1 x.2.1) l else (rows, false)
theorem evalL_in {o : OpD} (ho : o.Ok) {old : Int} (hold : i64ok old) (there : Bool) : i64ok (evalL o old there).1 := by
  have hw : ∀ x, i64ok (wrapI x) := fun x => by unfold i64ok; rw [wrapI_eq]; omega
  have hn := ho.n
  have hz : i64ok 0 := by unfold i64ok; omega
  have hif : i64ok (if there then old else 0) := by cases there <;> simp [hz, hold]
  unfold evalL
  by_cases hm : mayL o = false
  · rw [if_pos hm]; exact hz
  · rw [if_neg hm]
    dsimp only
    generalize (if there = true then old else 0) = v at *
    by_cases h1 : o.kind = 1
    · rw [if_pos h1]; exact hif
    · rw [if_neg h1]
      by_cases h2 : o.kind = 2
      · rw [if_pos h2]; exact hn
      · rw [if_neg h2]
        by_cases h3 : o.kind = 3
        · rw [if_pos h3]; exact hz
        · rw [if_neg h3]
          by_cases h6 : o.kind = 6
          · rw [if_pos h6]; exact hw _
          · rw [if_neg h6]
            by_cases hf : fitsL v o.n = false
            · rw [if_pos hf]; exact hif
            · rw [if_neg hf]
              by_cases h5 : o.kind = 5 ∧ v + o.n < o.lo
              · rw [if_pos h5]; exact hif
              · rw [if_neg h5]
                have : fitsL v o.n = true := by simpa using hf
                show i64ok (v + o.n)
                rw [← wrapI_fits this]
                exact hw _
theorem runL_nil (rows : List RowD) : runL rows [] = (rows, true) := by unfold runL; rfl
theorem runL_cons (rows : List RowD) (o : OpD) (l : List OpD) : runL rows (o :: l) = if (evalL o (atL rows o.key).1 (atL rows o.key).2).2.2.2 = 0 then runL (withL rows o.key (evalL o (atL rows o.key).1 (atL rows o.key).2).1 (evalL o (atL rows o.key).1 (atL rows o.key).2).2.1) l else (rows, false) := by
  conv => lhs; unfold runL
theorem atL_in {rows : List RowD} (h : ∀ r ∈ rows, i64ok r.n) (k : List UInt8) : i64ok (atL rows k).1 := by
  unfold atL
  split
  · rename_i r hr
    exact h r (List.mem_of_find?_eq_some hr)
  · unfold i64ok; simp
theorem withL_in {rows : List RowD} (h : ∀ r ∈ rows, i64ok r.n) {k : List UInt8} {n : Int} (hn : i64ok n) (there : Bool) : ∀ r ∈ withL rows k n there, i64ok r.n := by
  intro r hr
  unfold withL at hr
  rw [List.mem_append] at hr
  rcases hr with hr | hr
  · exact h r ((List.mem_filter.1 hr).1)
  · cases there with
    | false => simp at hr
    | true => simp at hr; subst hr; exact hn
theorem withL_length (rows : List RowD) (k : List UInt8) (n : Int) (there : Bool) : (withL rows k n there).length ≤ rows.length + 1 := by
  unfold withL
  rw [List.length_append]
  have := List.length_filter_le (fun r : RowD => r.key != k) rows
  cases there <;> simp <;> omega
theorem run_spec {A : St} {s t : AV} {rows : List RowD} {l : List OpD} (hs : Sl A 2 s (rowR.all rows)) (hr : ∀ r ∈ rows, i64ok r.n) (ht : Sl A 4 t (opsCells l)) (hl : ∀ o ∈ l, o.Ok) (hlen : rows.length + l.length < 1000000) :
    Ev D G0 fnsL X 20 [s, t] A fun r B => A.Ext B ∧ ∃ u, r = .tuple [u, .bool (runL rows l).2] ∧ Sl B 2 u (rowR.all (runL rows l).1) := by
  refine Ev.fnK (fn := a20) rfl ⟨by simp [a20], by decide⟩ ?_
  unfold a20
  simp [ht.ops_lenV]
  refine Wp.loopK (fun d E A' => A.Ext A' ∧ Env.at E 14 = t ∧ Env.at E 15 = .int .i64 l.length ∧ ∃ (i : Nat) (u : AV) (rows' : List RowD), Env.at E 16 = .int .i64 i ∧ Env.at E 0 = u ∧ i + d = l.length ∧ Sl A' 2 u (rowR.all rows') ∧ (∀ r ∈ rows', i64ok r.n) ∧ rows'.length ≤ rows.length + i ∧ runL rows l = runL rows' (l.drop i)) l.length ?_ ?_
  · exact ⟨St.Ext.refl A, by simp, by simp, 0, s, rows, by simp, by simp, by simp, hs, hr, by simp, rfl⟩
  rintro d E A1 ⟨x1, e14, e15, i, u, rows', e16, e0, hi, hu, hr', hle, hrun⟩
  have ht1 := ht.ext x1
  simp [e15, e16]
  refine contC_of (fun hc => ?_) (fun hc => ?_)
  · simp at hc
    obtain ⟨o, ho⟩ : ∃ o, l[i]? = some o := ⟨l[i], List.getElem?_eq_getElem hc⟩
    obtain ⟨p, g1, g2⟩ := ht1.op_at ho .i64
    have ea := add_one (i := i) (by omega)
    have hok := hl o (List.mem_of_getElem? ho)
    have hdrop : l.drop i = o :: l.drop (i + 1) := by
      rw [List.drop_eq_getElem_cons (List.getElem?_eq_some_iff.1 ho).1, (List.getElem?_eq_some_iff.1 ho).2]
    rw [hdrop] at hrun
    simp [e14, e16, g1, g2, Made.value, OpD.cells]
    obtain ⟨A3, k1, k2, x3⟩ := slot A1 o
    have hu3 := hu.ext x3
    simp [k1, k2.l1, AV.addr, e0, ops_callf, allKnown, hu.allKnown]
    refine (rowat_spec hu3 (by omega)).mono fun r B ⟨x4, hrr⟩ => ?_
    subst hrr
    have k4 := k2.ext x4
    have hold := atL_in hr' o.key
    have hin := evalL_in hok hold (atL rows' o.key).2
    simp [k4.ld, ops_callf, allKnown]
    refine (eval_spec o hok hold _).mono fun r C ⟨x5, hrr⟩ => ?_
    subst hrr
    have k5 := k4.ext x5
    have hx := ((x1.trans x3).trans x4).trans x5
    have hu5 := (hu3.ext x4).ext x5
    rw [runL_cons] at hrun
    simp [evalV]
    by_cases he : (evalL o (atL rows' o.key).1 (atL rows' o.key).2).2.2.2 = 0
    · rw [if_pos he] at hrun
      simp [he, e0, AV.addr, k5.l1, ops_callf, allKnown, hu.allKnown]
      refine (with_spec hu5 (by omega)).mono fun r F ⟨x6, hown⟩ => ?_
      have hwl := withL_length rows' o.key (evalL o (atL rows' o.key).1 (atL rows' o.key).2).1 (evalL o (atL rows' o.key).1 (atL rows' o.key).2).2.1
      simp [e14, e15, e16, ea, -bin_add, hown.sl.known]
      exact ⟨d - 1, by omega, hx.trans x6, i + 1, by omega, by omega, withL rows' o.key (evalL o (atL rows' o.key).1 (atL rows' o.key).2).1 (evalL o (atL rows' o.key).1 (atL rows' o.key).2).2.1, hown.sl, withL_in hr' hin _, by omega, hrun⟩
    · rw [if_neg he] at hrun
      rw [hrun]
      simp [he, e0, hu.known]
      exact ⟨hx, hu5⟩
  · simp at hc
    have hil : i = l.length := by omega
    subst hil
    rw [List.drop_length] at hrun
    rw [runL_nil] at hrun
    rw [hrun]
    simp [e0, hu.known]
    exact ⟨x1, hu⟩
end Go.Proofs.YteoioahkflcchaaGreatDoor
/- Operations, and then their inverse, leave what was: in plain Lean. -/
namespace Go.Proofs.YteoioahkflcchaaGreatDoor
open Go.AM
set_option maxRecDepth 100000
set_option linter.unusedSimpArgs false

def Uniq (l : List RowD) : Prop := (l.map RowD.key).Nodup
def InL (l : List RowD) : Prop := ∀ r ∈ l, i64ok r.n
theorem at_mem : ∀ {l : List RowD}, Uniq l → ∀ {r}, r ∈ l → atL l r.key = (r.n, true)
  | [], _, _, h => by simp at h
  | x :: l, hu, r, h => by
    unfold Uniq at hu
    rw [List.map_cons, List.nodup_cons] at hu
    rcases List.mem_cons.1 h with rfl | h
    · unfold atL; simp
    · have hne : ¬ x.key = r.key := fun he => hu.1 (by rw [he]; exact List.mem_map_of_mem h)
      have ih := at_mem hu.2 h
      unfold atL at ih ⊢
      rw [List.find?_cons_of_neg (by simp [hne])]
      exact ih
theorem at_none {l : List RowD} {k : List UInt8} (h : (atL l k).2 = false) : (atL l k).1 = 0 := by
  unfold atL at *
  split <;> simp_all
theorem find_filter_ne (l : List RowD) (k : List UInt8) : (l.filter (fun r => r.key != k)).find? (fun r => r.key == k) = none := by
  rw [List.find?_eq_none]
  intro r hr
  have := (List.mem_filter.1 hr).2
  simpa using this
theorem find_filter_of (l : List RowD) {k k' : List UInt8} (h : k' ≠ k) : (l.filter (fun r => r.key != k)).find? (fun r => r.key == k') = l.find? (fun r => r.key == k') := by
  induction l with
  | nil => rfl
  | cons x l ih =>
    by_cases hx : x.key = k
    · rw [List.filter_cons_of_neg (by simp [hx]), ih, List.find?_cons_of_neg (by simp [hx]; exact fun e => h e.symm)]
    · rw [List.filter_cons_of_pos (by simp [hx])]
      by_cases hx' : x.key = k'
      · rw [List.find?_cons_of_pos (by simp [hx']), List.find?_cons_of_pos (by simp [hx'])]
      · rw [List.find?_cons_of_neg (by simp [hx']), List.find?_cons_of_neg (by simp [hx']), ih]
theorem at_with_same (l : List RowD) (k : List UInt8) (n : Int) (there : Bool) : atL (withL l k n there) k = if there then (n, true) else (0, false) := by
  unfold atL withL
  rw [List.find?_append, find_filter_ne]
  cases there <;> simp
theorem at_with_other (l : List RowD) {k k' : List UInt8} (n : Int) (there : Bool) (h : k' ≠ k) : atL (withL l k n there) k' = atL l k' := by
  have hs : (if there = true then [⟨k, n⟩] else []).find? (fun r : RowD => r.key == k') = none := by
    cases there with
    | false => rfl
    | true => simp; exact fun e => h e.symm
  have : (withL l k n there).find? (fun r => r.key == k') = l.find? (fun r => r.key == k') := by
    unfold withL
    rw [List.find?_append, find_filter_of l h, hs, Option.or_none]
  unfold atL
  rw [this]
theorem with_uniq {l : List RowD} (h : Uniq l) (k : List UInt8) (n : Int) (there : Bool) : Uniq (withL l k n there) := by
  unfold Uniq withL at *
  rw [List.map_append]
  have h1 : ((l.filter (fun r => r.key != k)).map RowD.key).Nodup := List.Sublist.nodup ((List.filter_sublist).map _) h
  cases there with
  | false => simpa using h1
  | true =>
    rw [List.nodup_append]
    refine ⟨h1, by simp, fun a ha b hb => ?_⟩
    simp at hb
    subst hb
    intro he
    subst he
    obtain ⟨r, hr, hk⟩ := List.mem_map.1 ha
    have := (List.mem_filter.1 hr).2
    simp [hk] at this
/-- The kinds that can be taken back. -/
def back4 (o : OpD) : Bool := decide (o.kind = 1) || (decide (o.kind = 4) || (decide (o.kind = 5) || decide (o.kind = 6)))
def goodL (o : OpD) : Prop := back4 o = true ∧ mayL o = true
def sumL (k : List UInt8) : List OpD → Int
  | [] => 0
  | o :: l => (if o.kind ≠ 1 ∧ o.key = k then o.n else 0) + sumL k l
def touchL (k : List UInt8) (l : List OpD) : Bool := l.any (fun o => decide (o.kind ≠ 1) && decide (o.key = k))
theorem wrap_mod {a b : Int} (h : a % 18446744073709551616 = b % 18446744073709551616) : wrapI a = wrapI b := by
  rw [wrapI_eq, wrapI_eq]
  omega
theorem wrap_self (x : Int) : wrapI x % 18446744073709551616 = x % 18446744073709551616 := by
  rw [wrapI_eq]
  omega
theorem wrap_in {x : Int} (h : i64ok x) : wrapI x = x := by
  unfold i64ok at h
  rw [wrapI_eq]
  omega
/-- What one operation does. -/
theorem eval_good {o : OpD} (h : goodL o) {old : Int} {there : Bool} (hold : i64ok old) (hno : there = false → old = 0) (he : (evalL o old there).2.2.2 = 0) :
    (evalL o old there).1 = wrapI (old + (if o.kind ≠ 1 then o.n else 0)) ∧ (evalL o old there).2.1 = (there || decide (o.kind ≠ 1)) := by
  obtain ⟨hb, hm⟩ := h
  have hv : (if there = true then old else 0) = old := by
    cases there with
    | true => rfl
    | false => rw [hno rfl]; rfl
  unfold evalL at he ⊢
  rw [hv] at he ⊢
  rw [if_neg (by simp [hm])] at he ⊢
  dsimp only at he ⊢
  by_cases h1 : o.kind = 1
  · rw [if_pos h1]
    simp [h1, wrap_in hold]
  · have h2 : ¬ o.kind = 2 := fun e => by simp [back4, e] at hb
    have h3 : ¬ o.kind = 3 := fun e => by simp [back4, e] at hb
    rw [if_neg h1, if_neg h2, if_neg h3] at he ⊢
    by_cases h6 : o.kind = 6
    · rw [if_pos h6]
      simp [h1]
    · rw [if_neg h6] at he ⊢
      by_cases hf : fitsL old o.n = false
      · rw [if_pos hf] at he
        simp at he
      · rw [if_neg hf] at he ⊢
        by_cases h5 : o.kind = 5 ∧ old + o.n < o.lo
        · rw [if_pos h5] at he
          simp at he
        · rw [if_neg h5]
          have : fitsL old o.n = true := by simpa using hf
          simp [h1, wrapI_fits this]
theorem run_good : ∀ {l : List OpD} {rows rows' : List RowD}, (∀ o ∈ l, goodL o) → (∀ o ∈ l, o.Ok) → InL rows → Uniq rows → runL rows l = (rows', true) →
    InL rows' ∧ Uniq rows' ∧ ∀ k, (atL rows' k).1 = wrapI ((atL rows k).1 + sumL k l) ∧ (atL rows' k).2 = ((atL rows k).2 || touchL k l)
  | [], rows, rows', _, _, hin, hu, h => by
    rw [runL_nil] at h
    cases h
    refine ⟨hin, hu, fun k => ⟨?_, by simp [touchL]⟩⟩
    show _ = wrapI (_ + 0)
    rw [Int.add_zero, wrap_in (atL_in hin k)]
  | o :: l, rows, rows', hg, hok, hin, hu, h => by
    rw [runL_cons] at h
    by_cases he : (evalL o (atL rows o.key).1 (atL rows o.key).2).2.2.2 = 0
    · rw [if_pos he] at h
      have hold := atL_in hin o.key
      obtain ⟨e1, e2⟩ := eval_good (hg o (by simp)) hold (fun h => at_none h) he
      have hin1 := evalL_in (hok o (by simp)) hold (atL rows o.key).2
      obtain ⟨i1, i2, i3⟩ := run_good (fun x hx => hg x (by simp [hx])) (fun x hx => hok x (by simp [hx])) (withL_in hin hin1 _) (with_uniq hu _ _ _) h
      refine ⟨i1, i2, fun k => ?_⟩
      obtain ⟨j1, j2⟩ := i3 k
      rw [j1, j2]
      by_cases hk : k = o.key
      · subst hk
        rw [at_with_same, e1, e2]
        by_cases h1 : o.kind = 1
        · cases ht : (atL rows o.key).2 with
          | true =>
            simp [h1, sumL, touchL, wrap_in hold]
          | false =>
            have := at_none ht
            simp [h1, sumL, touchL, this]
        · simp [h1, sumL, touchL]
          refine wrap_mod ?_
          have := wrap_self ((atL rows o.key).1 + o.n)
          omega
      · have hk' : ¬ o.key = k := fun e => hk e.symm
        rw [at_with_other _ _ _ hk]
        simp [sumL, touchL, hk']
    · rw [if_neg he] at h
      simp at h
theorem sum_append (k : List UInt8) : ∀ (a b : List OpD), sumL k (a ++ b) = sumL k a + sumL k b
  | [], b => by simp [sumL]
  | o :: a, b => by simp only [List.cons_append, sumL, sum_append k a b]; omega
theorem backs_cons (o : OpD) (l : List OpD) : backsL (o :: l) = backsL l ++ (if o.kind ≠ 1 then [backL o] else []) := by
  unfold backsL
  by_cases h : o.kind = 1 <;> simp [h]
theorem sum_backs (k : List UInt8) : ∀ l : List OpD, (sumL k (backsL l) + sumL k l) % 18446744073709551616 = 0
  | [] => by simp [backsL, sumL]
  | o :: l => by
    have ih := sum_backs k l
    rw [backs_cons, sum_append]
    by_cases h1 : o.kind = 1
    · simp [h1, sumL]
      omega
    · by_cases hk : o.key = k
      · simp [h1, sumL, backL, hk]
        have := wrap_self (-o.n)
        omega
      · simp [h1, sumL, backL, hk]
        omega
theorem touch_backs (k : List UInt8) : ∀ l : List OpD, touchL k (backsL l) = touchL k l
  | [] => rfl
  | o :: l => by
    have ih := touch_backs k l
    unfold touchL at *
    rw [backs_cons, List.any_append, ih]
    by_cases h1 : o.kind = 1
    · simp [h1]
    · by_cases hk : o.key = k <;> simp [h1, backL, hk]
theorem backs_good {l : List OpD} (h : ∀ o ∈ l, goodL o) : ∀ o ∈ backsL l, goodL o ∧ o.kind = 6 := by
  intro o ho
  unfold backsL at ho
  obtain ⟨p, hp, rfl⟩ := List.mem_map.1 ho
  have hp' := h p (by simpa using (List.mem_filter.1 hp).1)
  have hm := hp'.2
  unfold mayL at hm
  rw [Bool.and_eq_true] at hm
  refine ⟨⟨by simp [back4, backL], ?_⟩, rfl⟩
  unfold mayL
  rw [Bool.and_eq_true]
  exact ⟨by simp [plainL, backL], hm.2⟩
theorem backs_ok {l : List OpD} (h : ∀ o ∈ l, o.Ok) : ∀ o ∈ backsL l, o.Ok := by
  intro o ho
  unfold backsL at ho
  obtain ⟨p, hp, rfl⟩ := List.mem_map.1 ho
  have hp' := h p (by simpa using (List.mem_filter.1 hp).1)
  exact ⟨by unfold backL i64ok; simp, hp'.key, by unfold backL i64ok; dsimp only; rw [wrapI_eq]; omega, by unfold backL i64ok; simp⟩
theorem run_backs : ∀ {l : List OpD} (rows : List RowD), (∀ o ∈ l, goodL o ∧ o.kind = 6) → (runL rows l).2 = true
  | [], rows, _ => by rw [runL_nil]
  | o :: l, rows, h => by
    obtain ⟨⟨_, hm⟩, hk⟩ := h o (by simp)
    rw [runL_cons]
    have he : (evalL o (atL rows o.key).1 (atL rows o.key).2).2.2.2 = 0 := by
      unfold evalL
      rw [if_neg (by simp [hm])]
      simp [hk]
    rw [if_pos he]
    exact run_backs _ fun x hx => h x (by simp [hx])
theorem invOk_good {l : List OpD} (h : invOk l = true) : ∀ o ∈ l, goodL o := by
  intro o ho
  unfold invOk kindsL at h
  simp at h
  have h1 := h.1 o ho
  have h2 := h.2 o ho
  refine ⟨?_, h2⟩
  unfold back4
  simp
  by_cases e1 : o.kind = 1
  · exact .inl e1
  · by_cases e4 : o.kind = 4
    · exact .inr (.inl e4)
    · by_cases e5 : o.kind = 5
      · exact .inr (.inr (.inl e5))
      · exact .inr (.inr (.inr (h1 e1 e4 e5)))
/-- Operations, and then their inverse. -/
theorem back_law {l : List OpD} {first then_ last : List RowD} (hinv : invOk l = true) (hok : ∀ o ∈ l, o.Ok) (hin : InL first) (hu : Uniq first) (h1 : runL first l = (then_, true)) (h2 : (runL then_ (backsL l)).1 = last) :
    (runL then_ (backsL l)).2 = true ∧ (∀ r ∈ first, atL last r.key = (r.n, true)) ∧ (∀ r ∈ last, (atL first r.key).2 = false → r.n = 0) := by
  have hg := invOk_good hinv
  have hb := backs_good hg
  have hfine := run_backs then_ hb
  obtain ⟨a1, a2, a3⟩ := run_good hg hok hin hu h1
  obtain ⟨b1, b2, b3⟩ := run_good (rows' := last) (fun o ho => (hb o ho).1) (backs_ok hok) a1 a2 (by rw [← h2, ← hfine])
  have key : ∀ k, (atL last k).1 = (atL first k).1 ∧ (atL last k).2 = ((atL first k).2 || touchL k l) := by
    intro k
    obtain ⟨p1, p2⟩ := a3 k
    obtain ⟨q1, q2⟩ := b3 k
    rw [q1, q2, p1, p2, touch_backs]
    refine ⟨?_, by cases (atL first k).2 <;> cases touchL k l <;> rfl⟩
    conv => rhs; rw [← wrap_in (atL_in hin k)]
    refine wrap_mod ?_
    have := wrap_self ((atL first k).1 + sumL k l)
    have := sum_backs k l
    omega
  refine ⟨hfine, fun r hr => ?_, fun r hr hn => ?_⟩
  · have := at_mem hu hr
    obtain ⟨p, q⟩ := key r.key
    rw [this] at p q
    exact Prod.ext p (by rw [q]; rfl)
  · have := at_mem b2 hr
    obtain ⟨p, q⟩ := key r.key
    rw [this] at p
    rw [at_none hn] at p
    exact p
theorem cutL_ok {l : List OpD} (h : ∀ o ∈ l, o.Ok) : ∀ o ∈ cutL l, o.Ok := by
  intro o ho
  unfold cutL at ho
  obtain ⟨p, hp, rfl⟩ := List.mem_map.1 ho
  have := h p (List.mem_of_mem_take hp)
  exact ⟨this.kind, by
    have := this.key
    show (p.key.take 20).length ≤ maxLen
    rw [List.length_take]; omega, this.n, this.lo⟩
theorem runL_length : ∀ (rows : List RowD) (l : List OpD), (runL rows l).1.length ≤ rows.length + l.length
  | rows, [] => by rw [runL_nil]; exact Nat.le_refl _
  | rows, o :: l => by
    rw [runL_cons]
    split
    · have := runL_length (withL rows o.key (evalL o (atL rows o.key).1 (atL rows o.key).2).1 (evalL o (atL rows o.key).1 (atL rows o.key).2).2.1) l
      have := withL_length rows o.key (evalL o (atL rows o.key).1 (atL rows o.key).2).1 (evalL o (atL rows o.key).1 (atL rows o.key).2).2.1
      simp only [List.length_cons]
      omega
    · simp
theorem backs_length (l : List OpD) : (backsL l).length ≤ l.length := by
  unfold backsL
  rw [List.length_map]
  refine Nat.le_trans (List.length_filter_le _ _) ?_
  simp
end Go.Proofs.YteoioahkflcchaaGreatDoor
