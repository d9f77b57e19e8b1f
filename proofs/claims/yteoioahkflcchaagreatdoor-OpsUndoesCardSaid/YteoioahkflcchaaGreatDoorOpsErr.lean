/- Errors that are made; which operations may be asked. -/
import Derived.Test.YteoioahkflcchaaGreatDoorOpsCut
import Derived.Test.YteoioahkflcchaaGreatDoorOpsAwake
namespace Go.Proofs.YteoioahkflcchaaGreatDoor
open Go.AM
set_option maxRecDepth 100000
set_option linter.unusedSimpArgs false

theorem awake_spec {A : St} (h : A0.Ext A) : Ev D0 G0 fnsL XA 12 [] A fun r B => A = B ∧ r = .bool true :=
  Ev.ext rfl (xa_true h.get) ⟨rfl, rfl⟩
theorem code_spec {A : St} (h : A0.Ext A) {v : AV} {e : Int} (he : ErrIs A v e) : Ev D0 G0 fnsL XA 36 [v] A fun r B => A = B ∧ r = .int .i64 e :=
  Ev.ext rfl (xa_code h.get he) ⟨rfl, rfl⟩
variable {D : Disp} {G0 : Env} {X : Calls'}
theorem new_spec {A : St} {e : Int} (he : e ≠ 0) : Ev D G0 fnsL X 57 [.int .i64 e] A fun r B => r = .iface 77 (.ptr (some (A.next, 0, 0))) ∧ B = (A.make [.int .i64 e] 1).2 := by
  refine Ev.fnK (fn := a57) rfl ⟨by simp [a57], by decide⟩ ?_
  unfold a57
  simp [he, fillA, AV.isBot, AV.cells, splice, boxV, Made.value, mkIfaceV]
theorem at_spec {A : St} {i : Int} {t : TypeId} {v : AV} : Ev D G0 fnsL X 50 [.int .i64 i, .iface t v] A fun r B => r = .iface 98 (.ptr (some (A.next, 0, 0))) ∧ B = (A.make [.iface t v, .int .i64 i] 1).2 := by
  refine Ev.fnK (fn := a50) rfl ⟨by simp [a50], by decide⟩ ?_
  unfold a50
  simp [eqV, eqOf, fillA, AV.isBot, AV.cells, splice, boxV, Made.value, mkIfaceV]
theorem bound_spec {A : St} {i j : Int} {t : TypeId} {v : AV} : Ev D G0 fnsL X 56 [.int .i64 i, .int .i64 j, .iface t v] A fun r B => r = .iface 124 (.ptr (some (A.next, 0, 0))) ∧ B = (A.make [.iface t v, .int .i64 i, .int .i64 j] 1).2 := by
  refine Ev.fnK (fn := a56) rfl ⟨by simp [a56], by decide⟩ ?_
  unfold a56
  simp [eqV, eqOf, fillA, AV.isBot, AV.cells, splice, boxV, Made.value, mkIfaceV]

theorem errIs_atnew (C : St) (i e : Int) : C.Ext ((C.make [.int .i64 e] 1).2.make [.iface 77 (.ptr (some (C.next, 0, 0))), .int .i64 i] 1).2 ∧ ErrIs ((C.make [.int .i64 e] 1).2.make [.iface 77 (.ptr (some (C.next, 0, 0))), .int .i64 i] 1).2 (.iface 98 (.ptr (some ((C.make [.int .i64 e] 1).2.next, 0, 0)))) e := by
  have x1 := ext_make C [.int .i64 e] 1
  have c1 := cells_made C (cs := [.int .i64 e]) (n := 1) rfl
  have hlt : C.next < (C.make [.int .i64 e] 1).2.next := Nat.lt_succ_self _
  generalize (C.make [.int .i64 e] 1).2 = A1 at *
  have x2 := ext_make A1 [.iface 77 (.ptr (some (C.next, 0, 0))), .int .i64 i] 1
  have c2 := cells_made A1 (cs := [.iface 77 (.ptr (some (C.next, 0, 0))), .int .i64 i]) (n := 2) rfl
  have c3 := cells_kept x2 (p := (C.next, 0, 0)) hlt c1
  exact ⟨x1.trans x2, errIs_at c2 c3⟩
/-- A variable of the loop: what is stored into it. -/
theorem slot (A : St) (o : OpD) : ∃ B, storeV (A.make [.int .i64 0, .str [], .int .i64 0, .int .i64 0] 1).2 4 (.ptr (some (A.next, 0, 0))) (.agg [.int .i64 o.kind, .str o.key, .int .i64 o.n, .int .i64 o.lo]) = some (.bot, B) ∧
    B4 B A.next (.int .i64 o.kind) (.str o.key) (.int .i64 o.n) (.int .i64 o.lo) ∧ A.Ext B := by
  have x2 := ext_make A [.int .i64 0, .str [], .int .i64 0, .int .i64 0] 1
  have hb := B4.make A (.int .i64 0) (.str []) (.int .i64 0) (.int .i64 0)
  obtain ⟨B, k1, k2, k3, k4⟩ := hb.st (a' := .int .i64 o.kind) (b' := .str o.key) (c' := .int .i64 o.n) (d' := .int .i64 o.lo) rfl
  exact ⟨B, k1, k2, ⟨by rw [← k3]; exact x2.next, fun f hf => by rw [k4 f (by omega)]; exact x2.get f hf⟩⟩
/-- May an operation be asked? -/
def askL (o : OpD) : Bool := plainL o && keyL o.key
theorem ask_may (o : OpD) : askL o = (mayL o && keyL o.key) := by
  unfold askL mayL
  cases plainL o <;> cases keyL o.key <;> simp
/-- What is wrong with operations. -/
def checkL (l : List OpD) : Int := if 8 < l.length then 7 else if l.all askL = true then 0 else 2
theorem take_all {p : OpD → Bool} {l : List OpD} {i : Nat} {o : OpD} (ho : l[i]? = some o) (h : (l.take i).all p = true) : (p o = true → (l.take (i + 1)).all p = true) ∧ (p o = false → l.all p = false) := by
  refine ⟨fun hp => ?_, fun hp => ?_⟩
  · rw [List.take_add_one, ho]
    simp only [List.all_append, h, Bool.true_and]
    simp [hp]
  · rw [List.all_eq_false]
    exact ⟨o, List.mem_of_getElem? ho, by simp [hp]⟩
def AllT (p : OpD → Bool) (l : List OpD) : Prop := l.all p = true
theorem check_spec {A : St} {s : AV} {l : List OpD} (hs : Sl A 4 s (opsCells l)) : Ev D G0 fnsL X 37 [s] A fun r B => A.Ext B ∧ ErrIs B r (checkL l) := by
  refine Ev.fnK (fn := a37) rfl ⟨by simp [a37], by decide⟩ ?_
  unfold a37
  by_cases h8 : 8 < l.length
  · have h8' : (8 : Int) < l.length := by omega
    simp [hs.ops_lenV, h8', ops_callf, allKnown]
    refine (new_spec (by decide)).mono fun r B ⟨hr, hB⟩ => ?_
    have x1 := ext_make A [.int .i64 7] 1
    have c1 := cells_made A (cs := [.int .i64 7]) (n := 1) rfl
    have hlt : A.next < (A.make [.int .i64 7] 1).2.next := Nat.lt_succ_self _
    subst hr
    subst hB
    generalize (A.make [.int .i64 7] 1).2 = A1 at *
    simp [ops_callf, allKnown]
    refine bound_spec.mono fun r B ⟨hr, hB⟩ => ?_
    have x2 := ext_make A1 [.iface 77 (.ptr (some (A.next, 0, 0))), .int .i64 8, .int .i64 l.length] 1
    have c2 := cells_made A1 (cs := [.iface 77 (.ptr (some (A.next, 0, 0))), .int .i64 8, .int .i64 l.length]) (n := 3) rfl
    subst hr
    subst hB
    have c3 := cells_kept x2 (p := (A.next, 0, 0)) hlt c1
    generalize (A1.make [.iface 77 (.ptr (some (A.next, 0, 0))), .int .i64 8, .int .i64 l.length] 1).2 = A2 at *
    simp [checkL, h8]
    exact ⟨x1.trans x2, errIs_bound c2 c3⟩
  · have h8' : ¬ (8 : Int) < l.length := by omega
    simp [hs.ops_lenV, h8']
    refine Wp.loopK (fun d E A' => A.Ext A' ∧ Env.at E 12 = s ∧ Env.at E 13 = .int .i64 l.length ∧ ∃ i : Nat, Env.at E 14 = .int .i64 i ∧ i + d = l.length ∧ AllT askL (l.take i)) l.length ?_ ?_
    · exact ⟨St.Ext.refl A, by simp, by simp, 0, by simp, by simp, rfl⟩
    rintro d E A1 ⟨x1, e12, e13, i, e14, hi, hall⟩
    have hs1 := hs.ext x1
    simp [e13, e14]
    refine contC_of (fun hc => ?_) (fun hc => ?_)
    · simp at hc
      obtain ⟨o, ho⟩ : ∃ o, l[i]? = some o := ⟨l[i], List.getElem?_eq_getElem hc⟩
      obtain ⟨p, g1, g2⟩ := hs1.op_at ho .i64
      obtain ⟨n1, n2⟩ := take_all ho hall
      have ea := add_one (i := i) (by omega)
      simp [e12, e13, e14, g1, g2, Made.value, OpD.cells]
      obtain ⟨A3, k1, k2, x3⟩ := slot A1 o
      simp [k1, k2.ld, ops_callf, allKnown]
      refine (plain_spec o).mono fun r B ⟨x4, hr⟩ => ?_
      subst hr
      have k5 := k2.ext x4
      have hbad : askL o = false → checkL l = 2 := fun h => by
        unfold checkL
        rw [if_neg h8, n2 h]
        rfl
      cases hp : plainL o with
      | false =>
        have hask : askL o = false := by simp [askL, hp]
        simp [ops_callf, allKnown]
        refine (new_spec (by decide)).mono fun r C1 ⟨hr, hC⟩ => ?_
        subst hr
        subst hC
        simp [ops_callf, allKnown]
        refine at_spec.mono fun r C2 ⟨hr, hC⟩ => ?_
        subst hr
        subst hC
        obtain ⟨y1, y2⟩ := errIs_atnew B i 2
        simp [hbad hask]
        exact ⟨((x1.trans x3).trans x4).trans y1, y2⟩
      | true =>
        simp [AV.addr, k5.l1, ops_callf, allKnown]
        refine key_spec.mono fun r B2 ⟨x5, hr⟩ => ?_
        subst hr
        cases hk : keyL o.key with
        | false =>
          have hask : askL o = false := by simp [askL, hk]
          simp [ops_callf, allKnown]
          refine (new_spec (by decide)).mono fun r C1 ⟨hr, hC⟩ => ?_
          subst hr
          subst hC
          simp [ops_callf, allKnown]
          refine at_spec.mono fun r C2 ⟨hr, hC⟩ => ?_
          subst hr
          subst hC
          obtain ⟨y1, y2⟩ := errIs_atnew B2 i 2
          simp [hbad hask]
          exact ⟨(((x1.trans x3).trans x4).trans x5).trans y1, y2⟩
        | true =>
          have hask : askL o = true := by simp [askL, hp, hk]
          simp [e12, e13, e14, ea, -bin_add]
          exact ⟨d - 1, by omega, ((x1.trans x3).trans x4).trans x5, i + 1, by omega, by omega, n1 hask⟩
    · simp at hc
      have hil : i = l.length := by omega
      subst hil
      rw [List.take_length] at hall
      have hck : checkL l = 0 := by unfold checkL; rw [if_neg h8, show l.all askL = true from hall]; rfl
      simp [hck]
      exact ⟨x1, errIs_nil A1⟩

theorem rcheck_spec {A : St} {s : AV} {l : List OpD} (hs : Sl A 4 s (opsCells l)) : Ev D G0 fnsL X 15 [s] A fun r B => A.Ext B ∧ r = .int .i64 (checkL l) := by
  refine Ev.fnK (fn := a15) rfl ⟨by simp [a15], by decide⟩ ?_
  unfold a15
  by_cases h8 : 8 < l.length
  · have h8' : (8 : Int) < l.length := by omega
    simp [hs.ops_lenV, h8', checkL, h8]
    exact St.Ext.refl A
  · have h8' : ¬ (8 : Int) < l.length := by omega
    simp [hs.ops_lenV, h8']
    refine Wp.loopK (fun d E A' => A.Ext A' ∧ Env.at E 8 = s ∧ Env.at E 9 = .int .i64 l.length ∧ ∃ i : Nat, Env.at E 10 = .int .i64 i ∧ i + d = l.length ∧ AllT askL (l.take i)) l.length ?_ ?_
    · exact ⟨St.Ext.refl A, by simp, by simp, 0, by simp, by simp, rfl⟩
    rintro d E A1 ⟨x1, e8, e9, i, e10, hi, hall⟩
    have hs1 := hs.ext x1
    simp [e9, e10]
    refine contC_of (fun hc => ?_) (fun hc => ?_)
    · simp at hc
      obtain ⟨o, ho⟩ : ∃ o, l[i]? = some o := ⟨l[i], List.getElem?_eq_getElem hc⟩
      obtain ⟨p, g1, g2⟩ := hs1.op_at ho .i64
      obtain ⟨n1, n2⟩ := take_all ho hall
      have ea := add_one (i := i) (by omega)
      simp [e8, e9, e10, g1, g2, Made.value, OpD.cells]
      obtain ⟨A3, k1, k2, x3⟩ := slot A1 o
      simp [k1, k2.ld, ops_callf, allKnown]
      refine (rmay_spec o).mono fun r B ⟨x4, hr⟩ => ?_
      subst hr
      have k5 := k2.ext x4
      have hbad : askL o = false → checkL l = 2 := fun h => by
        unfold checkL
        rw [if_neg h8, n2 h]
        rfl
      cases hm : mayL o with
      | false =>
        have hask : askL o = false := by rw [ask_may, hm]; rfl
        simp [hbad hask]
        exact (x1.trans x3).trans x4
      | true =>
        simp [AV.addr, k5.l1, ops_callf, allKnown]
        refine rkey_spec.mono fun r B2 ⟨hB, hr⟩ => ?_
        subst hB
        subst hr
        cases hk : keyL o.key with
        | false =>
          have hask : askL o = false := by rw [ask_may, hm, hk]; rfl
          simp [hbad hask]
          exact (x1.trans x3).trans x4
        | true =>
          have hask : askL o = true := by rw [ask_may, hm, hk]; rfl
          simp [e8, e9, e10, ea, -bin_add]
          exact ⟨d - 1, by omega, (x1.trans x3).trans x4, i + 1, by omega, by omega, n1 hask⟩
    · simp at hc
      have hil : i = l.length := by omega
      subst hil
      rw [List.take_length] at hall
      have hck : checkL l = 0 := by unfold checkL; rw [if_neg h8, show l.all askL = true from hall]; rfl
      simp [hck]
      exact x1
end Go.Proofs.YteoioahkflcchaaGreatDoor
