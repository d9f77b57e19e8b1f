/- What the reference says of operations that take back what others did. -/
import Derived.Test.YteoioahkflcchaaGreatDoorOpsBackP
import Derived.Test.YteoioahkflcchaaGreatDoorAmUniq
import Derived.Test.YteoioahkflcchaaGreatDoorAmAnySim
namespace Go.Proofs.YteoioahkflcchaaGreatDoor
open Go.AM
set_option maxRecDepth 100000
set_option linter.unusedSimpArgs false
variable {D : Disp} {G0 : Env} {X : Calls'}

/-- The kinds that digits name. -/
def digOk (ks : List UInt8) : Prop := ∀ c ∈ ks, 48 ≤ c.toNat
def kindIn (ks : List UInt8) (o : OpD) : Bool := ks.any (fun c => decide (o.kind = ((c.toNat - 48 : Nat) : Int)))
def allB2 {α : Type} (p : α → Bool) (l : List α) : Bool := l.all p
def anyB2 {α : Type} (p : α → Bool) (l : List α) : Bool := l.any p
theorem take_succ_all2 {α : Type} {p : α → Bool} {l : List α} {i : Nat} {o : α} (ho : l[i]? = some o) : allB2 p (l.take (i + 1)) = (allB2 p (l.take i) && p o) := by
  unfold allB2
  rw [List.take_add_one, ho]
  simp [List.all_append]
theorem take_succ_any2 {α : Type} {p : α → Bool} {l : List α} {i : Nat} {o : α} (ho : l[i]? = some o) : anyB2 p (l.take (i + 1)) = (anyB2 p (l.take i) || p o) := by
  unfold anyB2
  rw [List.take_add_one, ho]
  simp [List.any_append]
theorem byte_at {s : List UInt8} {i : Nat} {c : UInt8} (h : s[i]? = some c) : byteAtV (.str s) (.int .i64 (i : Int)) = some (.int .u8 (c.toNat : Int)) := by
  have hlt := (List.getElem?_eq_some_iff.1 h).1
  unfold byteAtV index?
  simp [hlt]
  rw [(List.getElem?_eq_some_iff.1 h).2]
theorem kinds_spec {A : St} {s : AV} {l : List OpD} {ks : List UInt8} (hk : digOk ks) (hkl : ks.length < 1000) (hs : Sl A 4 s (opsCells l)) (hlen : l.length < 2 ^ 62) :
    Ev D G0 fnsL X 41 [s, .str ks] A fun r B => A.Ext B ∧ r = .bool (allB2 (kindIn ks) l) := by
  refine Ev.fnK (fn := a41) rfl ⟨by simp [a41], by decide⟩ ?_
  unfold a41
  simp [hs.ops_lenV]
  refine Wp.loopK (fun d E A' => A.Ext A' ∧ Env.at E 1 = .str ks ∧ Env.at E 9 = s ∧ Env.at E 10 = .int .i64 l.length ∧ ∃ i : Nat, Env.at E 11 = .int .i64 i ∧ i + d = l.length ∧ allB2 (kindIn ks) (l.take i) = true) l.length ?_ ?_
  · exact ⟨St.Ext.refl A, by simp, by simp, by simp, 0, by simp, by simp, by simp [allB2]⟩
  rintro d E A1 ⟨x1, e1, e9, e10, i, e11, hi, hall⟩
  have hs1 := hs.ext x1
  simp [e10, e11]
  refine contC_of (fun hc => ?_) (fun hc => ?_)
  · simp at hc
    obtain ⟨o, ho⟩ : ∃ o, l[i]? = some o := ⟨l[i], List.getElem?_eq_getElem hc⟩
    obtain ⟨p, g1, g2⟩ := hs1.op_at ho .i64
    have ea := add_one (i := i) (by omega)
    have tk := take_succ_all2 (p := kindIn ks) ho
    rw [hall, Bool.true_and] at tk
    simp [e9, e11, g1, g2, Made.value, OpD.cells]
    obtain ⟨A3, k1, k2, x3⟩ := slot A1 o
    simp [k1]
    refine Wp.loopK (fun d' E A' => A' = A3 ∧ Env.at E 1 = .str ks ∧ Env.at E 6 = .ptr (some (A1.next, 0, 0)) ∧ Env.at E 9 = s ∧ Env.at E 10 = .int .i64 l.length ∧ Env.at E 11 = .int .i64 i ∧ ∃ j : Nat, Env.at E 8 = .int .i64 j ∧ j + d' = ks.length ∧ Env.at E 7 = .bool (anyB2 (fun c => decide (o.kind = ((c.toNat - 48 : Nat) : Int))) (ks.take j))) ks.length ?_ ?_
    · exact ⟨rfl, by simp [e1], by simp, by simp [e9], by simp [e10], by simp [e11], 0, by simp, by simp, by simp [anyB2]⟩
    rintro d' E A4 ⟨rfl, e1, e6, e9, e10, e11, j, e8, hj, e7⟩
    simp [e1, e8]
    refine contC_of (fun hc2 => ?_) (fun hc2 => ?_)
    · simp at hc2
      obtain ⟨c, hcj⟩ : ∃ c, ks[j]? = some c := ⟨ks[j], List.getElem?_eq_getElem hc2⟩
      have hb := byte_at hcj
      have h48 := hk c (List.mem_of_getElem? hcj)
      have eaj := add_one (i := j) (by omega)
      have tkj := take_succ_any2 (p := fun c : UInt8 => decide (o.kind = ((c.toNat - 48 : Nat) : Int))) hcj
      have hc256 := c.toNat_lt
      have hsub : binOf .sub (.int .u8 (c.toNat : Int)) (.int .u8 48) = some (.int .u8 ((c.toNat - 48 : Nat) : Int)) := by
        rw [bin_sub, show (c.toNat : Int) - 48 = ((c.toNat - 48 : Nat) : Int) by omega, wrap_u8_nat, Nat.mod_eq_of_lt (by omega)]
      have hconv : convV .i64 (.int .u8 ((c.toNat - 48 : Nat) : Int)) = some (.int .i64 ((c.toNat - 48 : Nat) : Int)) := by
        rw [convV_int, wrap_i64_nat (by omega)]
      simp
      refine Wp.draws ?_
      cases ht : anyB2 (fun c : UInt8 => decide (o.kind = ((c.toNat - 48 : Nat) : Int))) (ks.take j) with
      | true =>
        rw [ht] at e7 tkj
        simp [e1, e6, e7, e8, e9, e10, e11, eaj, InAll, -bin_add]
        exact ⟨d' - 1, by omega, j + 1, by omega, by omega, by rw [tkj]; rfl⟩
      | false =>
        rw [ht] at e7 tkj
        simp [e1, e6, e7, e8, e9, e10, e11, eaj, hb, hsub, hconv, AV.addr, k2.l0, InAll, AV.beq, -bin_add, -bin_sub]
        exact ⟨d' - 1, by omega, j + 1, by omega, by omega, by rw [tkj]; rfl⟩
    · simp at hc2
      have hjl : j = ks.length := by omega
      subst hjl
      rw [List.take_length] at e7
      have e7' : Env.at E 7 = .bool (kindIn ks o) := e7
      cases hko : kindIn ks o with
      | true =>
        rw [hko] at e7' tk
        simp [e1, e7', e9, e10, e11, ea, -bin_add]
        exact ⟨d - 1, by omega, x1.trans x3, i + 1, by omega, by omega, tk⟩
      | false =>
        rw [hko] at e7'
        have hno : allB2 (kindIn ks) l = false := by
          unfold allB2
          rw [List.all_eq_false]
          exact ⟨o, List.mem_of_getElem? ho, by simp [hko]⟩
        simp [e7', hno]
        exact x1.trans x3
  · simp at hc
    have hil : i = l.length := by omega
    subst hil
    rw [List.take_length] at hall
    simp [hall]
    exact x1
def d1456 : List UInt8 := [49, 52, 53, 54]
def d16 : List UInt8 := [49, 54]
theorem kind_1456 (l : List OpD) : allB2 (kindIn d1456) l = kindsL [1, 4, 5, 6] l := by
  unfold allB2 kindsL
  rw [List.not_any_eq_all_not]
  congr 1
  funext o
  simp [kindIn, d1456]
theorem kind_16 (l : List OpD) : allB2 (kindIn d16) l = kindsL [1, 6] l := by
  unfold allB2 kindsL
  rw [List.not_any_eq_all_not]
  congr 1
  funext o
  simp [kindIn, d16]
theorem neg_u64 (n : Int) : ∃ y, binOf .sub (.int .u64 0) (.int .u64 (IntKind.u64.wrap n)) = some (.int .u64 y) ∧ convV .i64 (.int .u64 y) = some (.int .i64 (wrapI (-n))) := by
  refine ⟨_, bin_sub _ _ _, ?_⟩
  rw [convV_int]
  unfold wrapI
  congr 2
  simp only [IntKind.wrap_i64, IntKind.wrap_u64]
  omega
theorem rinverse_spec {A : St} {s : AV} {l : List OpD} (hs : Sl A 4 s (opsCells l)) (hlen : l.length < 100000) :
    Ev D G0 fnsL X 22 [s] A fun r B => A.Ext B ∧ ∃ t, r = .tuple [t, .bool (invOk l)] ∧ Sl B 4 t (opsCells (if invOk l then backsL l else [])) := by
  refine Ev.fnK (fn := a22) rfl ⟨by simp [a22], by decide⟩ ?_
  unfold a22
  simp [hs.ops_lenV]
  refine Wp.loopK (fun d E A' => A.Ext A' ∧ Env.at E 0 = s ∧ Env.at E 7 = s ∧ Env.at E 8 = .int .i64 l.length ∧ ∃ (i : Nat) (v : AV), Env.at E 9 = .int .i64 i ∧ Env.at E 4 = v ∧ i + d = l.length ∧ Sl A' 4 v (opsCells (backsL (l.take i))) ∧ anyB2 (fun o => !mayL o) (l.take i) = false) l.length ?_ ?_
  · exact ⟨St.Ext.refl A, by simp, by simp, by simp, 0, .slice none 0 0 0 0, by simp, by simp, by simp, .nil _ _ _, by simp [anyB2]⟩
  rintro d E A1 ⟨x1, e0, e7, e8, i, v, e9, e4, hi, hv, hany⟩
  have hs1 := hs.ext x1
  have hle := backs_length (l.take i)
  rw [List.length_take] at hle
  simp [e8, e9]
  refine contC_of (fun hc => ?_) (fun hc => ?_)
  · simp at hc
    obtain ⟨o, ho⟩ : ∃ o, l[i]? = some o := ⟨l[i], List.getElem?_eq_getElem hc⟩
    obtain ⟨p, g1, g2⟩ := hs1.op_at ho .i64
    have ea := add_one (i := i) (by omega)
    have tk := take_succ_any2 (p := fun o => !mayL o) ho
    have hback : backsL (l.take (i + 1)) = (if o.kind ≠ 1 then [backL o] else []) ++ backsL (l.take i) := by
      rw [List.take_add_one, ho]
      unfold backsL
      by_cases h1 : o.kind = 1 <;> simp [h1]
    simp [e7, e9, g1, g2, Made.value, OpD.cells]
    obtain ⟨A3, k1, k2, x3⟩ := slot A1 o
    simp [k1, k2.ld, ops_callf, allKnown]
    refine (rmay_spec o).mono fun r B ⟨x4, hr⟩ => ?_
    subst hr
    have k4 := k2.ext x4
    have hx := (x1.trans x3).trans x4
    cases hm : mayL o with
    | false =>
      have hno : invOk l = false := by
        unfold invOk
        have : l.any (fun o => !mayL o) = true := List.any_eq_true.2 ⟨o, List.mem_of_getElem? ho, by simp [hm]⟩
        rw [this]
        simp
      simp [hno]
      exact ⟨hx, .nil _ _ _⟩
    | true =>
      rw [hany, hm] at tk
      by_cases h1 : o.kind = 1
      · rw [if_neg (by simp [h1])] at hback
        simp [AV.addr, k4.l0, h1, e0, e4, e7, e8, e9, ea, -bin_add]
        exact ⟨d - 1, by omega, hx, i + 1, by omega, by omega, by rw [hback]; exact (hv.ext x3).ext x4, by rw [tk]; rfl⟩
      · rw [if_pos h1] at hback
        obtain ⟨y, hy1, hy2⟩ := neg_u64 o.n
        have hv4 := (hv.ext x3).ext x4
        have x5 := ext_make B (backL o).cells 4
        have hown := own_op B (backL o)
        obtain ⟨s', C, q1, q2, q3, q4, q5⟩ := appendV_own (bytes := 40) hown (hv4.ext x5) (Nat.le_of_lt (Nat.lt_succ_self _)) (by decide) (opsCells_flat _) (by rw [slen_slice, hv.ops_len]; omega) (by rw [slen_slice, hv.ops_len]; omega)
        have hcc : (backL o).cells = [.int .i64 6, .str o.key, .int .i64 (wrapI (-o.n)), .int .i64 0] := rfl
        rw [hcc] at q1
        have x6 : B.Ext C := q4.ext x5 hown
        simp [AV.addr, k4.l0, k4.l1, k4.l2, h1, hy1, hy2, fillA, AV.isBot, AV.cells, splice, Made.value, q1, e0, e4, e7, e8, e9, ea, -bin_add, -bin_sub]
        exact ⟨d - 1, by omega, hx.trans x6, i + 1, by omega, by omega, by rw [hback, opsCells_append]; exact q3.sl, by rw [tk]; rfl⟩
  · simp at hc
    have hil : i = l.length := by omega
    subst hil
    rw [List.take_length] at hany hv
    simp [e0, ops_callf, allKnown, hs1.allKnown]
    refine (kinds_spec (ks := d1456) (by unfold digOk d1456; decide) (by decide) hs1 (by omega)).mono fun r B ⟨x2, hr⟩ => ?_
    subst hr
    rw [kind_1456]
    have hany' : l.any (fun o => !mayL o) = false := hany
    cases hk : kindsL [1, 4, 5, 6] l with
    | false =>
      simp [invOk, hk]
      exact ⟨x1.trans x2, .nil _ _ _⟩
    | true =>
      simp [invOk, hk, hany', e4, hv.known]
      exact ⟨x1.trans x2, hv.ext x2⟩
end Go.Proofs.YteoioahkflcchaaGreatDoor
/- What the reference says of operations that take back what others did: sums, sameness. -/
namespace Go.Proofs.YteoioahkflcchaaGreatDoor
open Go.AM
set_option maxRecDepth 100000
set_option linter.unusedSimpArgs false
variable {D : Disp} {G0 : Env} {X : Calls'}

def wrapU (x : Int) : Int := IntKind.u64.wrap x
theorem wrapU_eq (x : Int) : wrapU x = x % 18446744073709551616 := IntKind.wrap_u64 x
def zeroS (l : List OpD) (o : OpD) : Bool := decide (wrapU (sumL o.key l) = 0)
def undoesL (l u : List OpD) : Bool := kindsL [1, 4, 5, 6] l && (kindsL [1, 6] u && allB2 (zeroS (l ++ u)) (l ++ u))
theorem own_empty (A : St) : Own A.next (A.make [] 4).2 4 (.slice (some (A.next, 0, 0)) 0 0 0 0) (opsCells []) := by
  have := own_make_exact A (cs := []) (sz := 4) (n := 0) rfl (Nat.le_refl _) (len := 0) (Nat.le_refl _)
  simpa [opsCells] using this
theorem sum_take {l : List OpD} {j : Nat} {o : OpD} (h : l[j]? = some o) (k : List UInt8) : sumL k (l.take (j + 1)) = sumL k (l.take j) + (if o.kind ≠ 1 ∧ o.key = k then o.n else 0) := by
  rw [List.take_add_one, h, Option.toList_some, sum_append]
  simp [sumL]
theorem rundoes_spec {A : St} {s t : AV} {l u : List OpD} (hs : Sl A 4 s (opsCells l)) (ht : Sl A 4 t (opsCells u)) (hlen : l.length < 100000) (hlen2 : u.length < 100000) :
    Ev D G0 fnsL X 24 [s, t] A fun r B => A.Ext B ∧ r = .bool (undoesL l u) := by
  refine Ev.fnK (fn := a24) rfl ⟨by simp [a24], by decide⟩ ?_
  unfold a24
  simp [ops_callf, allKnown, hs.allKnown]
  refine (kinds_spec (ks := d1456) (by unfold digOk d1456; decide) (by decide) hs (by omega)).mono fun r B ⟨x1, hr⟩ => ?_
  subst hr
  rw [kind_1456]
  cases hk : kindsL [1, 4, 5, 6] l with
  | false =>
    simp [undoesL, hk]
    exact x1
  | true =>
    have ht1 := ht.ext x1
    simp [ops_callf, allKnown, ht1.allKnown]
    refine (kinds_spec (ks := d16) (by unfold digOk d16; decide) (by decide) ht1 (by omega)).mono fun r C ⟨x2, hr⟩ => ?_
    subst hr
    rw [kind_16]
    cases hk2 : kindsL [1, 6] u with
    | false =>
      simp [undoesL, hk, hk2]
      exact x1.trans x2
    | true =>
      simp [fillA, AV.isBot, AV.cells, splice, Made.value]
      have x3 := ext_make C [] 4
      have o1 := own_empty C
      have hs3 := ((hs.ext x1).ext x2).ext x3
      have hcx := x1.trans x2
      generalize (C.make [] 4).2 = A3 at *
      obtain ⟨s1, B1, q1, q2, q3, q4, q5⟩ := appendV_own (bytes := 40) o1 hs3 x3.next (by decide) (opsCells_flat _) (by rw [slen_slice, hs.ops_len]; omega) (by rw [slen_slice, hs.ops_len]; omega)
      have x4 : C.Ext B1 := q4.ext x3 o1
      have ht4 := (ht1.ext x2).ext x4
      simp only [opsCells, List.nil_append] at q3
      simp only [slen_slice, Nat.zero_add, hs.ops_len] at q2
      obtain ⟨s2, B2, p1, p2, p3, p4, p5⟩ := appendV_own (bytes := 40) q3 ht4 x4.next (by decide) (opsCells_flat _) (by rw [q2, ht.ops_len]; omega) (by rw [q2, ht.ops_len]; omega)
      have x5 : C.Ext B2 := p4.ext x4 q3
      rw [← opsCells_append] at p3
      have hl := p3.sl
      simp [q1, p1, hl.ops_lenV]
      have hx := hcx.trans x5
      have hund : undoesL l u = allB2 (zeroS (l ++ u)) (l ++ u) := by simp [undoesL, hk, hk2]
      rw [hund]
      have hln : (l ++ u).length < 200000 := by rw [List.length_append]; omega
      have hln2 : (l.length : Int) + (u.length : Int) = ((l ++ u).length : Nat) := by rw [List.length_append]; omega
      rw [hln2]
      clear hln2
      generalize l ++ u = m at *
      refine Wp.loopK (fun d E A' => B2.Ext A' ∧ Env.at E 5 = s2 ∧ Env.at E 24 = s2 ∧ Env.at E 25 = .int .i64 m.length ∧ ∃ i : Nat, Env.at E 26 = .int .i64 i ∧ i + d = m.length ∧ allB2 (zeroS m) (m.take i) = true) m.length ?_ ?_
      · exact ⟨St.Ext.refl B2, by simp, by simp, by simp, 0, by simp, by simp, by simp [allB2]⟩
      rintro d E A4 ⟨y4, e5, e24, e25, i, e26, hi, hall⟩
      have hs4 := hl.ext y4
      simp [e25, e26]
      refine contC_of (fun hc => ?_) (fun hc => ?_)
      · simp at hc
        obtain ⟨o, ho⟩ : ∃ o, m[i]? = some o := ⟨m[i], List.getElem?_eq_getElem hc⟩
        obtain ⟨p, g1, g2⟩ := hs4.op_at ho .i64
        have ea := add_one (i := i) (by omega)
        have tk := take_succ_all2 (p := zeroS m) ho
        rw [hall, Bool.true_and] at tk
        simp [e24, e26, g1, g2, Made.value, OpD.cells]
        obtain ⟨A5, k1, k2, y5⟩ := slot A4 o
        simp [k1, e5, (hs4.ext y5).ops_lenV]
        refine Wp.loopK (fun d' E A' => A5.Ext A' ∧ Env.at E 5 = s2 ∧ Env.at E 7 = .ptr (some (A4.next, 0, 0)) ∧ Env.at E 24 = s2 ∧ Env.at E 25 = .int .i64 m.length ∧ Env.at E 26 = .int .i64 i ∧ Env.at E 30 = s2 ∧ Env.at E 31 = .int .i64 m.length ∧ ∃ j : Nat, Env.at E 32 = .int .i64 j ∧ j + d' = m.length ∧ Env.at E 8 = .int .u64 (wrapU (sumL o.key (m.take j)))) m.length ?_ ?_
        · exact ⟨St.Ext.refl A5, by simp [e5], by simp, by simp [e24], by simp [e25], by simp [e26], by simp [e5], by simp, 0, by simp, by simp, by simp [sumL, wrapU_eq]⟩
        rintro d' E A6 ⟨y6, e5, e7, e24, e25, e26, e30, e31, j, e32, hj, e8⟩
        have hs6 := (hs4.ext y5).ext y6
        have k6 := k2.ext y6
        simp [e31, e32]
        refine contC_of (fun hc2 => ?_) (fun hc2 => ?_)
        · simp at hc2
          obtain ⟨x, hxj⟩ : ∃ x, m[j]? = some x := ⟨m[j], List.getElem?_eq_getElem hc2⟩
          obtain ⟨p', g3, g4⟩ := hs6.op_at hxj .i64
          have eaj := add_one (i := j) (by omega)
          have st := sum_take hxj o.key
          simp [e30, e32, g3, g4, Made.value, OpD.cells]
          obtain ⟨A7, z1, z2, y7⟩ := slot A6 x
          have k7 := k6.ext y7
          simp [z1, z2.l1, e7, AV.addr, k7.l1]
          have hx7 := y6.trans y7
          by_cases hkey : x.key = o.key
          · by_cases h1 : x.kind = 1
            · rw [if_neg (by simp [h1])] at st
              simp [hkey, h1, z2.l0, e5, e7, e8, e24, e25, e26, e30, e31, e32, eaj, AV.addr, -bin_add]
              exact ⟨d' - 1, by omega, hx7, j + 1, by omega, by omega, by rw [st, Int.add_zero]⟩
            · rw [if_pos ⟨h1, hkey⟩] at st
              have hadd : binOf .add (.int .u64 (wrapU (sumL o.key (m.take j)))) (.int .u64 (IntKind.u64.wrap x.n)) = some (.int .u64 (wrapU (sumL o.key (m.take (j + 1))))) := by
                rw [bin_add, st]
                congr 2
                show wrapU (wrapU _ + wrapU _) = _
                simp only [wrapU_eq]
                omega
              simp [hkey, h1, z2.l0, z2.l2, e5, e7, e8, e24, e25, e26, e30, e31, e32, eaj, hadd, AV.addr, -bin_add]
              exact ⟨d' - 1, by omega, hx7, j + 1, by omega, by omega, rfl⟩
          · rw [if_neg (by simp [hkey])] at st
            simp [hkey, e5, e7, e8, e24, e25, e26, e30, e31, e32, eaj, AV.addr, -bin_add]
            exact ⟨d' - 1, by omega, hx7, j + 1, by omega, by omega, by rw [st, Int.add_zero]⟩
        · simp at hc2
          have hjl : j = m.length := by omega
          subst hjl
          rw [List.take_length] at e8
          by_cases hz : wrapU (sumL o.key m) = 0
          · have hzo : zeroS m o = true := by simp [zeroS, hz]
            rw [hzo] at tk
            simp [e5, e8, e24, e25, e26, hz, ea, -bin_add]
            exact ⟨d - 1, by omega, (y4.trans y5).trans y6, i + 1, by omega, by omega, tk⟩
          · have hno : allB2 (zeroS m) m = false := by
              unfold allB2
              rw [List.all_eq_false]
              exact ⟨o, List.mem_of_getElem? ho, by simp [zeroS, hz]⟩
            simp [e8, hz, hno]
            exact hx.trans ((y4.trans y5).trans y6)
      · simp at hc
        have hil : i = m.length := by omega
        subst hil
        rw [List.take_length] at hall
        simp [hall]
        exact hx.trans y4
end Go.Proofs.YteoioahkflcchaaGreatDoor
/- Lists of operations that are the same. -/
namespace Go.Proofs.YteoioahkflcchaaGreatDoor
open Go.AM
set_option maxRecDepth 100000
set_option linter.unusedSimpArgs false
variable {D : Disp} {G0 : Env} {X : Calls'}
theorem op_same (o : OpD) : eqAggOf true [.int .i64, .str, .int .i64, .int .i64] (.agg [.int .i64 o.kind, .str o.key, .int .i64 o.n, .int .i64 o.lo]) (.agg [.int .i64 o.kind, .str o.key, .int .i64 o.n, .int .i64 o.lo]) = some (.bool false) := by
  simp [eqAggOf, flatEqs, keyOk, keySame]
@[simp] theorem opsD_eqAgg {fns : Nat → Option AFn} (neg : Bool) (ks : List KK) (x y : Operand) (d : Option Nat) (l0 h0 : Nat) (l : List (AOper × Nat × Nat)) (S : List St) (C : List St → Prop) (E : Env) (A : St) (Q : Ex → Env → St → Prop) : OpsD D G0 fns X ((⟨d, .eqAgg neg ks x y, none⟩, l0, h0) :: l) S C E A Q = contVD D G0 fns X (eqAggOf neg ks (ev E x) (ev E y)) d l S C E A Q := opsD_pure rfl d l0 h0 l S C E A Q
theorem same_spec {A : St} {s t : AV} {l : List OpD} (hs : Sl A 4 s (opsCells l)) (ht : Sl A 4 t (opsCells l)) (hlen : l.length < 100000) :
    Ev D G0 fnsL X 25 [s, t] A fun r B => A = B ∧ r = .bool true := by
  refine Ev.fnK (fn := a25) rfl ⟨by simp [a25], by decide⟩ ?_
  unfold a25
  simp [hs.ops_lenV, ht.ops_lenV]
  refine Wp.loopK (fun d E A' => A = A' ∧ Env.at E 0 = s ∧ Env.at E 1 = t ∧ Env.at E 12 = .int .i64 l.length ∧ ∃ i : Nat, Env.at E 13 = .int .i64 i ∧ i + d = l.length) l.length ?_ ?_
  · exact ⟨rfl, by simp, by simp, by simp, 0, by simp, by simp⟩
  rintro d E A1 ⟨rfl, e0, e1, e12, i, e13, hi⟩
  simp [e12, e13]
  refine contC_of (fun hc => ?_) (fun hc => ?_)
  · simp at hc
    obtain ⟨o, ho⟩ : ∃ o, l[i]? = some o := ⟨l[i], List.getElem?_eq_getElem hc⟩
    obtain ⟨p, g1, g2⟩ := hs.op_at ho .i64
    obtain ⟨p', g3, g4⟩ := ht.op_at ho .i64
    have ea := add_one (i := i) (by omega)
    simp [OpD.cells] at g2 g4
    simp [e13]
    refine Wp.draws ?_
    simp [e0, e1, e12, e13, g1, g2, g3, g4, op_same, InAll, AV.beq, AV.beqs, ea, -bin_add]
    exact ⟨d - 1, by omega, i + 1, by omega, by omega⟩
  · simp
end Go.Proofs.YteoioahkflcchaaGreatDoor
/- slices.Concat of lists of operations. -/
namespace Go.Proofs.YteoioahkflcchaaGreatDoor
open Go.AM
set_option maxRecDepth 100000
set_option linter.unusedSimpArgs false
variable {D : Disp} {G0 : Env} {X : Calls'}
theorem zeros_flat (n : Nat) (z : List AV) (hz : z.all AV.flat = true) : ((List.replicate n z).flatten).all AV.flat = true := by
  induction n with
  | zero => rfl
  | succ n ih => rw [List.replicate_succ, List.flatten_cons, List.all_append, hz, ih]; rfl
@[simp] theorem ops_cap {fns : Nat → Option AFn} (x : Operand) (d : Option Nat) (l : List AOper) (E : Env) (A : St) (Q : Ex → Env → St → Prop) : Ops D G0 fns X (⟨d, .cap x, none⟩ :: l) E A Q = contV D G0 fns X (capOf (ev E x)) d l E A Q := ops_pure rfl (fun _ _ => rfl) d l E A Q
@[simp] theorem ops_appendZ {fns : Nat → Option AFn} (size bytes : Nat) (zero : List AV) (s n : Operand) (d : Option Nat) (l : List AOper) (E : Env) (A : St) (Q : Ex → Env → St → Prop) : Ops D G0 fns X (⟨d, .appendZ size bytes zero s n, none⟩ :: l) E A Q = contN D G0 fns X (newOf E (.appendZ size bytes zero s n)) d l E A Q := ops_new rfl d l E A Q
def totL (vs : List (AV × List OpD)) : Nat := (vs.flatMap Prod.snd).length
/-- Room for operations that are still to come. -/
theorem grow_spec {A : St} {n : Nat} (hn : n < 1000000) : Ev D G0 fnsL X 60 [.slice none 0 0 0 0, .int .i64 n] A fun r B => A.Ext B ∧ Own A.next B 4 r (opsCells []) := by
  refine Ev.fnK (fn := a60) rfl ⟨by simp [a60], by decide⟩ ?_
  unfold a60
  have hneg : ¬ (n : Int) < 0 := by omega
  simp [hneg]
  have wz : IntKind.i64.wrap 0 = 0 := rfl
  have wn : IntKind.i64.wrap (n : Int) = n := wrap_i64_nat (by omega)
  by_cases h0 : n = 0
  · subst h0
    simp [lenV, capOf, wz]
    exact ⟨St.Ext.refl A, by simpa [opsCells] using Own.nil _ _ _⟩
  · have hpos : (0 : Int) < n := by omega
    simp [lenV, capOf, hpos, wz, wn, newOf]
    refine contC_of (fun hc => ?_) (fun hc => by simp at hc; omega)
    have hcut : cutSliceOf 4 (.slice none 0 0 0 0) none (some (.int .i64 0)) none = some (.slice none 0 0 0 0) := by rfl
    have hcond : 0 < (n : Int) ∧ (n : Int) * 40 ≤ 70368744177664 ∧ (n : Int) ≤ 70368744177664 := by omega
    have hp : 0 < n := by omega
    simp [capOf, lenV, newOf, hcut, hcond, hp, Made.value]
    have x1 := ext_make A (List.replicate n [AV.int IntKind.i64 0, AV.str [], AV.int IntKind.i64 0, AV.int IntKind.i64 0]).flatten 4
    have g1 := get_make A (List.replicate n [AV.int IntKind.i64 0, AV.str [], AV.int IntKind.i64 0, AV.int IntKind.i64 0]).flatten 4
    have hfl : (List.replicate n [AV.int IntKind.i64 0, AV.str [], AV.int IntKind.i64 0, AV.int IntKind.i64 0]).flatten.length = n * 4 := by simp
    have hnx : A.next < (A.make (List.replicate n [AV.int IntKind.i64 0, AV.str [], AV.int IntKind.i64 0, AV.int IntKind.i64 0]).flatten 4).2.next := Nat.lt_succ_self _
    generalize (A.make (List.replicate n [AV.int IntKind.i64 0, AV.str [], AV.int IntKind.i64 0, AV.int IntKind.i64 0]).flatten 4).2 = A1 at *
    have hcut2 : cutSliceOf 4 (.slice (some (A.next, 0, 0)) 0 n 0 4) none (some (.int .i64 0)) none = some (.slice (some (A.next, 0, 0)) 0 0 0 4) := by
      simp [cutSliceOf, boundHi, boundLo, bound?]
    simp [hcut2]
    exact ⟨x1, by
      have := Own.mem (sz := 4) (po := 0) (len := 0) (cap := 0) (q := 4) (v := 0) (o := 0) (Nat.le_refl A.next) hnx g1 (y := ⟨0, 0, _, 4⟩) rfl (Nat.le_refl 0) (Nat.zero_le _) (Nat.le_refl _) (.inr ⟨rfl, by decide⟩)
      simpa [opsCells] using this⟩
theorem concat_spec {A : St} {s : AV} {vs : List (AV × List OpD)} (hs : Sl A 1 s (vs.map Prod.fst)) (hv : ∀ x ∈ vs, Sl A 4 x.1 (opsCells x.2)) (hlen : (vs.flatMap Prod.snd).length < 1000000) (hvl : vs.length < 1000000) :
    Ev D G0 fnsL X 42 [s] A fun r B => A.Ext B ∧ Own A.next B 4 r (opsCells (vs.flatMap Prod.snd)) := by
  refine Ev.fnK (fn := a42) rfl ⟨by simp [a42], by decide⟩ ?_
  unfold a42
  have hl := hs.lenV1
  simp only [List.length_map] at hl
  simp [hl]
  refine Wp.loopK (fun d E A' => A' = A ∧ Env.at E 0 = s ∧ Env.at E 9 = s ∧ Env.at E 10 = .int .i64 vs.length ∧ ∃ i : Nat, Env.at E 11 = .int .i64 i ∧ i + d = vs.length ∧ Env.at E 3 = .int .i64 (totL (vs.take i) : Nat)) vs.length ?_ ?_
  · exact ⟨rfl, by simp, by simp, by simp, 0, by simp, by simp, by simp [totL]⟩
  rintro d E A1 ⟨rfl, e0, e9, e10, i, e11, hi, e3⟩
  simp [e10, e11]
  refine contC_of (fun hc => ?_) (fun hc => ?_)
  · simp at hc
    obtain ⟨x, ho⟩ : ∃ o, vs[i]? = some o := ⟨vs[i], List.getElem?_eq_getElem hc⟩
    obtain ⟨p, g1, g2⟩ := hs.at_one (j := i) (v := x.1) (by rw [List.getElem?_map, ho]; rfl) .i64
    have ea := add_one (i := i) (by omega)
    have hx := hv x (List.mem_of_getElem? ho)
    have htk : totL (vs.take (i + 1)) = totL (vs.take i) + x.2.length := by
      unfold totL
      rw [List.take_add_one, ho, List.flatMap_append]
      simp
    have hle : totL (vs.take (i + 1)) < 1000000 := by
      unfold totL
      have : vs.flatMap Prod.snd = (vs.take (i + 1)).flatMap Prod.snd ++ (vs.drop (i + 1)).flatMap Prod.snd := by
        rw [← List.flatMap_append, List.take_append_drop]
      rw [this, List.length_append] at hlen
      omega
    have hadd : binOf .add (.int .i64 (totL (vs.take i) : Nat)) (.int .i64 (x.2.length : Nat)) = some (.int .i64 (totL (vs.take (i + 1)) : Nat)) := by
      rw [bin_add, htk, ← Int.natCast_add, wrap_i64_nat (by omega)]
    have hlss : ¬ ((totL (vs.take (i + 1)) : Nat) : Int) < 0 := by omega
    simp [e0, e3, e9, e10, e11, g1, g2, hx.ops_lenV, hadd, hlss, ea, -bin_add]
    exact ⟨d - 1, by omega, i + 1, by omega, by omega⟩
  · simp at hc
    have hil : i = vs.length := by omega
    subst hil
    rw [List.take_length] at e3
    simp [e3, ops_callf, allKnown]
    refine (grow_spec (n := totL vs) hlen).mono fun r B ⟨x1, hown⟩ => ?_
    have hs1 := hs.ext x1
    simp [e0, hl]
    refine Wp.loopK (fun d E A' => A1.Ext A' ∧ Env.at E 25 = s ∧ Env.at E 26 = .int .i64 vs.length ∧ ∃ (i : Nat) (v : AV), Env.at E 27 = .int .i64 i ∧ i + d = vs.length ∧ Env.at E 6 = v ∧ Own A1.next A' 4 v (opsCells ((vs.take i).flatMap Prod.snd))) vs.length ?_ ?_
    · exact ⟨x1, by simp [e0], by simp, 0, r, by simp, by simp, by simp, by simpa using hown⟩
    rintro d E A2 ⟨x2, e25, e26, i, v, e27, hi, e6, hown⟩
    have hs2 := hs.ext x2
    simp [e26, e27]
    refine contC_of (fun hc => ?_) (fun hc => ?_)
    · simp at hc
      obtain ⟨x, ho⟩ : ∃ o, vs[i]? = some o := ⟨vs[i], List.getElem?_eq_getElem hc⟩
      obtain ⟨p, g1, g2⟩ := hs2.at_one (j := i) (v := x.1) (by rw [List.getElem?_map, ho]; rfl) .i64
      have ea := add_one (i := i) (by omega)
      have hx := (hv x (List.mem_of_getElem? ho)).ext x2
      have htk : (vs.take (i + 1)).flatMap Prod.snd = (vs.take i).flatMap Prod.snd ++ x.2 := by
        rw [List.take_add_one, ho, List.flatMap_append]
        simp
      have hle : ((vs.take (i + 1)).flatMap Prod.snd).length < 1000000 := by
        have : vs.flatMap Prod.snd = (vs.take (i + 1)).flatMap Prod.snd ++ (vs.drop (i + 1)).flatMap Prod.snd := by
          rw [← List.flatMap_append, List.take_append_drop]
        rw [this, List.length_append] at hlen
        omega
      rw [htk, List.length_append] at hle
      obtain ⟨s', B', q1, q2, q3, q4, q5⟩ := appendV_own (bytes := 40) hown hx x2.next (by decide) (opsCells_flat _) (by rw [hown.sl.ops_len, hx.ops_len]; omega) (by rw [hown.sl.ops_len, hx.ops_len]; omega)
      have x3 : A1.Ext B' := q4.ext x2 hown
      simp [e6, e25, e26, e27, g1, g2, q1, ea, -bin_add]
      exact ⟨d - 1, by omega, x3, i + 1, by omega, by omega, by rw [htk, opsCells_append]; exact q3⟩
    · simp at hc
      have hil : i = vs.length := by omega
      subst hil
      rw [List.take_length] at hown
      simp [e6, hown.sl.known]
      exact ⟨x2, hown⟩
end Go.Proofs.YteoioahkflcchaaGreatDoor
/- The keys of operations. -/
namespace Go.Proofs.YteoioahkflcchaaGreatDoor
open Go.AM
set_option maxRecDepth 100000
set_option linter.unusedSimpArgs false
variable {D : Disp} {G0 : Env} {X : Calls'}
def strR : Rec (List UInt8) 1 := ⟨fun s => [.str s], fun _ => rfl, fun _ => rfl, by decide⟩
@[simp] theorem strR_cells (s : List UInt8) : strR.cells s = [.str s] := rfl
theorem strR_all : ∀ l : List (List UInt8), strR.all l = l.map AV.str
  | [] => rfl
  | s :: l => by simp [Rec.all, strR_all l]
theorem keys_spec (h43 : ∀ s A r, sortSX A s = some r → X 43 [s] A = some r) (h44 : ∀ s A r, compactX A s = some r → X 44 [s] A = some r) {A : St} {s : AV} {l : List OpD} (hs : Sl A 4 s (opsCells l)) (hlen : l.length < 100000) :
    Ev D G0 fnsL X 26 [s] A fun r B => A.Ext B ∧ Sl B 1 r ((keysU (l.map OpD.key)).map AV.str) := by
  refine Ev.fnK (fn := a26) rfl ⟨by simp [a26], by decide⟩ ?_
  unfold a26
  simp [hs.ops_lenV]
  refine Wp.loopK (fun d E A' => A.Ext A' ∧ Env.at E 6 = s ∧ Env.at E 7 = .int .i64 l.length ∧ ∃ (i : Nat) (v : AV), Env.at E 8 = .int .i64 i ∧ Env.at E 3 = v ∧ i + d = l.length ∧ Own A.next A' 1 v (strR.all ((l.take i).map OpD.key))) l.length ?_ ?_
  · exact ⟨St.Ext.refl A, by simp, by simp, 0, .slice none 0 0 0 0, by simp, by simp, by simp, by simpa [Rec.all] using Own.nil _ _ _⟩
  rintro d E A1 ⟨x1, e6, e7, i, v, e8, e3, hi, hown⟩
  have hs1 := hs.ext x1
  simp [e7, e8]
  refine contC_of (fun hc => ?_) (fun hc => ?_)
  · simp at hc
    obtain ⟨o, ho⟩ : ∃ o, l[i]? = some o := ⟨l[i], List.getElem?_eq_getElem hc⟩
    obtain ⟨p, g1, g2⟩ := hs1.op_at ho .i64
    have ea := add_one (i := i) (by omega)
    have htk : (l.take (i + 1)).map OpD.key = (l.take i).map OpD.key ++ [o.key] := by
      rw [List.take_add_one, ho]
      simp
    simp [e6, e8, g1, g2, Made.value, OpD.cells]
    obtain ⟨A3, k1, k2, x3⟩ := slot A1 o
    have hx := x1.trans x3
    have hl2 : ((l.take i).map OpD.key).length ≤ l.length := by rw [List.length_map, List.length_take]; omega
    obtain ⟨s', B, q1, q2, q3⟩ := append_rec (bytes := 16) (hown.ext x3) hx (by omega) (by omega) o.key
    simp at q1
    simp [k1, k2.l1, AV.addr, e3, e6, e7, e8, fillA, AV.isBot, AV.cells, splice, Made.value, q1, ea, -bin_add]
    exact ⟨d - 1, by omega, q3, i + 1, by omega, by omega, by rw [List.map_take] at htk; rw [htk]; exact q2⟩
  · simp at hc
    have hil : i = l.length := by omega
    subst hil
    rw [List.take_length, strR_all] at hown
    simp [e3, ops_callf, allKnown, hown.sl.allKnown]
    have hl2 : (l.map OpD.key).length = l.length := List.length_map _
    obtain ⟨B, q1, q2, q3⟩ := Own.sorted (dec := strsOf) (enc := AV.str) (le := leS) strsOf_map (fun _ => rfl) hown (by omega)
    have x2 : A.Ext B := q3.ext x1 hown
    refine Ev.ext rfl (h43 _ _ _ q1) ?_
    have hl3 : (sortB leS (l.map OpD.key)).length = l.length := by rw [(sortB_perm leS _).length_eq, hl2]
    obtain ⟨s', C, p1, p2, p3⟩ := Own.compacted q2 (by omega)
    have x3 : A.Ext C := p3.ext x2 q2
    simp [e3, ops_callf, allKnown, hown.sl.allKnown]
    refine Ev.ext rfl (h44 _ _ _ p1) ?_
    simp [p2.sl.known]
    exact ⟨x3, p2.sl⟩
end Go.Proofs.YteoioahkflcchaaGreatDoor
/- Sums by key, in a map: in plain Lean. -/
namespace Go.Proofs.YteoioahkflcchaaGreatDoor
open Go.AM
set_option maxRecDepth 100000
set_option linter.unusedSimpArgs false

abbrev Ent := List UInt8 × Int × Nat
def mapC (ms : List Ent) : List (AV × AV × Nat) := ms.map fun e => (.str e.1, .int .i64 e.2.1, e.2.2)
theorem find_none {k : List UInt8} : ∀ {ms : List Ent} (i : Nat), (∀ e ∈ ms, e.1 ≠ k) → mapFind (.str k) (mapC ms) i = some none
  | [], _, _ => rfl
  | e :: ms, i, h => by
    have hne : (k == e.1) = false := by
      have := h e (by simp)
      simpa using fun he => this he.symm
    show mapFind (.str k) ((.str e.1, .int .i64 e.2.1, e.2.2) :: mapC ms) i = _
    unfold mapFind
    simp only [keySame, hne]
    exact find_none (i + 1) fun x hx => h x (by simp [hx])
theorem find_some {k : List UInt8} {v : Int} {b : Nat} {c : List Ent} : ∀ {a : List Ent} (i : Nat), (∀ e ∈ a, e.1 ≠ k) → mapFind (.str k) (mapC (a ++ (k, v, b) :: c)) i = some (some (i + a.length, .int .i64 v, b))
  | [], i, _ => by
    show mapFind (.str k) ((.str k, .int .i64 v, b) :: mapC c) i = _
    unfold mapFind
    simp [keySame]
  | e :: a, i, h => by
    have hne : (k == e.1) = false := by
      have := h e (by simp)
      simpa using fun he => this he.symm
    show mapFind (.str k) ((.str e.1, .int .i64 e.2.1, e.2.2) :: mapC (a ++ (k, v, b) :: c)) i = _
    unfold mapFind
    simp only [keySame, hne]
    rw [find_some (i + 1) fun x hx => h x (by simp [hx])]
    simp
    omega
theorem modify_mid {α : Type} (f : α → α) (x : α) (c : List α) : ∀ a : List α, (a ++ x :: c).modify a.length f = a ++ f x :: c
  | [] => by simp [List.modify]
  | e :: a => by simp [modify_mid f x c a]
theorem set_mid {k : List UInt8} {v : Int} {b : Nat} {a c : List Ent} (v' : Int) : setVal a.length (.int .i64 v') (mapC (a ++ (k, v, b) :: c)) = mapC (a ++ (k, v', b) :: c) := by
  unfold setVal mapC
  rw [List.map_append, List.map_cons]
  have := modify_mid (fun e : AV × AV × Nat => (e.1, AV.int .i64 v', e.2.2)) (.str k, .int .i64 v, b) (c.map fun e => (.str e.1, .int .i64 e.2.1, e.2.2)) (a.map fun e => (.str e.1, .int .i64 e.2.1, e.2.2))
  rw [List.length_map] at this
  rw [this]
  simp
/-- A map of sums. -/
structure SumsM (l : List OpD) (ms : List Ent) (clock : Nat) : Prop where
  keys : (ms.map (fun e => e.1)).Nodup
  stamps : (ms.map (fun e => e.2.2)).Nodup
  lt : ∀ e ∈ ms, e.2.2 < clock
  val : ∀ e ∈ ms, e.2.1 = wrapI (sumL e.1 l)
  has : ∀ o ∈ l, o.kind ≠ 1 → ∃ e ∈ ms, e.1 = o.key
theorem sums_nil : SumsM [] [] 0 := ⟨by simp, by simp, by simp, by simp, by simp⟩
theorem sum_none {k : List UInt8} : ∀ {l : List OpD}, (∀ o ∈ l, o.kind ≠ 1 → o.key ≠ k) → sumL k l = 0
  | [], _ => rfl
  | o :: l, h => by
    unfold sumL
    rw [sum_none fun x hx => h x (by simp [hx])]
    by_cases hk : o.kind ≠ 1 ∧ o.key = k
    · exact absurd hk.2 (h o (by simp) hk.1)
    · rw [if_neg hk]; rfl
theorem sum_snoc (l : List OpD) (o : OpD) (k : List UInt8) : sumL k (l ++ [o]) = sumL k l + (if o.kind ≠ 1 ∧ o.key = k then o.n else 0) := by
  rw [sum_append]
  simp [sumL]
theorem sums_get {l : List OpD} {ms : List Ent} {c : Nat} (h : SumsM l ms c) {o : OpD} (h1 : o.kind = 1) : SumsM (l ++ [o]) ms c :=
  ⟨h.keys, h.stamps, h.lt, fun e he => by rw [sum_snoc, if_neg (by simp [h1]), Int.add_zero]; exact h.val e he, fun x hx hk => by
    rcases List.mem_append.1 hx with hx | hx
    · exact h.has x hx hk
    · simp at hx
      subst hx
      exact absurd h1 hk⟩
theorem wrap_add (a b : Int) : wrapI (wrapI a + b) = wrapI (a + b) := by
  refine wrap_mod ?_
  have := wrap_self a
  omega
/-- One more number is added. -/
theorem sums_put {l : List OpD} {ms : List Ent} {c : Nat} (h : SumsM l ms c) {o : OpD} (h1 : o.kind ≠ 1) :
    ∃ v x, mapFind (.str o.key) (mapC ms) 0 = x ∧ (x = some none ∧ v = 0 ∨ ∃ i b, x = some (some (i, .int .i64 v, b))) ∧
      ∃ ms' c', mapSet (.str o.key) (.int .i64 (wrapI (v + o.n))) (mapC ms) c = some (.map (mapC ms') c') ∧ SumsM (l ++ [o]) ms' c' := by
  by_cases hin : ∃ e ∈ ms, e.1 = o.key
  · obtain ⟨⟨k, v, b⟩, he, hk⟩ := hin
    dsimp only at hk
    subst hk
    obtain ⟨a, d, rfl⟩ := List.append_of_mem he
    have hkeys := h.keys
    rw [List.map_append, List.map_cons, List.nodup_append] at hkeys
    have ha : ∀ e ∈ a, e.1 ≠ o.key := fun e he hk => hkeys.2.2 e.1 (List.mem_map_of_mem he) o.key (by simp) hk
    have hd : ∀ e ∈ d, e.1 ≠ o.key := fun e he hk => (List.nodup_cons.1 hkeys.2.1).1 (List.mem_map.2 ⟨e, he, hk⟩)
    have hv := h.val _ he
    dsimp only at hv
    refine ⟨v, _, find_some 0 ha, .inr ⟨_, _, rfl⟩, a ++ (o.key, wrapI (v + o.n), b) :: d, c, ?_, ?_, ?_, ?_, ?_, ?_⟩
    · unfold mapSet
      rw [find_some 0 ha]
      dsimp only
      rw [Nat.zero_add, set_mid]
    · have := h.keys; simpa using this
    · have := h.stamps; simpa using this
    · intro e he
      rcases List.mem_append.1 he with he | he
      · exact h.lt e (List.mem_append_left _ he)
      · rcases List.mem_cons.1 he with rfl | he
        · exact h.lt (o.key, v, b) (by simp)
        · exact h.lt e (by simp [he])
    · intro e he
      rw [sum_snoc]
      rcases List.mem_append.1 he with he | he
      · rw [if_neg (fun hk => ha e he hk.2.symm), Int.add_zero]
        exact h.val e (List.mem_append_left _ he)
      · rcases List.mem_cons.1 he with rfl | he
        · dsimp only
          rw [if_pos ⟨h1, rfl⟩, hv, wrap_add]
        · rw [if_neg (fun hk => hd e he hk.2.symm), Int.add_zero]
          exact h.val e (by simp [he])
    · intro x hx hk
      have key : ∀ k', (∃ e ∈ a ++ (o.key, v, b) :: d, e.1 = k') → ∃ e ∈ a ++ (o.key, wrapI (v + o.n), b) :: d, e.1 = k' := by
        rintro k' ⟨e, he, rfl⟩
        rcases List.mem_append.1 he with he | he
        · exact ⟨e, List.mem_append_left _ he, rfl⟩
        · rcases List.mem_cons.1 he with rfl | he
          · exact ⟨(o.key, wrapI (v + o.n), b), by simp, rfl⟩
          · exact ⟨e, by simp [he], rfl⟩
      rcases List.mem_append.1 hx with hx | hx
      · exact key _ (h.has x hx hk)
      · simp at hx
        subst hx
        exact ⟨(x.key, wrapI (v + x.n), b), by simp, rfl⟩
  · have hno : ∀ e ∈ ms, e.1 ≠ o.key := fun e he hk => hin ⟨e, he, hk⟩
    have hz : sumL o.key l = 0 := sum_none fun x hx hk he => by
      obtain ⟨e, h2, h3⟩ := h.has x hx hk
      exact hno e h2 (by rw [h3, he])
    refine ⟨0, _, find_none 0 hno, .inl ⟨rfl, rfl⟩, ms ++ [(o.key, wrapI (0 + o.n), c)], c + 1, ?_, ?_, ?_, ?_, ?_, ?_⟩
    · unfold mapSet
      rw [find_none 0 hno]
      unfold mapC
      simp
    · rw [List.map_append, List.nodup_append]
      refine ⟨h.keys, by simp, fun a ha b hb => ?_⟩
      simp at hb
      subst hb
      obtain ⟨e, he, rfl⟩ := List.mem_map.1 ha
      exact hno e he
    · rw [List.map_append, List.nodup_append]
      refine ⟨h.stamps, by simp, fun a ha b hb => ?_⟩
      simp at hb
      subst hb
      obtain ⟨e, he, rfl⟩ := List.mem_map.1 ha
      have := h.lt e he
      omega
    · intro e he
      rcases List.mem_append.1 he with he | he
      · have := h.lt e he; omega
      · simp at he; subst he; exact Nat.lt_succ_self _
    · intro e he
      rw [sum_snoc]
      rcases List.mem_append.1 he with he | he
      · rw [if_neg (fun hk => hno e he hk.2.symm), Int.add_zero]
        exact h.val e he
      · rw [List.mem_singleton] at he
        subst he
        dsimp only
        rw [if_pos ⟨h1, rfl⟩, hz]
    · intro x hx hk
      rcases List.mem_append.1 hx with hx | hx
      · obtain ⟨e, h2, h3⟩ := h.has x hx hk
        exact ⟨e, List.mem_append_left _ h2, h3⟩
      · simp at hx
        subst hx
        exact ⟨(x.key, wrapI (0 + x.n), c), List.mem_append_right _ (List.mem_singleton.2 rfl), rfl⟩
theorem wrap_zero {x : Int} : wrapI x = 0 ↔ wrapU x = 0 := by
  rw [wrapI_eq, wrapU_eq]
  omega
/-- All sums are 0. -/
theorem sums_zero {l : List OpD} {ms : List Ent} {c : Nat} (h : SumsM l ms c) : allB2 (zeroS l) l = ms.all (fun e => decide (e.2.1 = 0)) := by
  unfold allB2
  rw [Bool.eq_iff_iff, List.all_eq_true, List.all_eq_true]
  refine ⟨fun ha e he => ?_, fun ha o ho => ?_⟩
  · rw [decide_eq_true_eq, h.val e he, wrap_zero]
    by_cases hx : ∃ o ∈ l, o.key = e.1
    · obtain ⟨o, ho, hk⟩ := hx
      have := ha o ho
      unfold zeroS at this
      rw [decide_eq_true_eq, hk] at this
      exact this
    · rw [sum_none fun o ho _ hk => hx ⟨o, ho, hk⟩]
      rfl
  · unfold zeroS
    rw [decide_eq_true_eq]
    by_cases hx : ∃ x ∈ l, x.kind ≠ 1 ∧ x.key = o.key
    · obtain ⟨x, hx, hk, hkey⟩ := hx
      obtain ⟨e, he, h3⟩ := h.has x hx hk
      have := ha e he
      rw [decide_eq_true_eq, h.val e he, wrap_zero, h3, hkey] at this
      exact this
    · rw [sum_none fun x hx' hk hkey => hx ⟨x, hx', hk, hkey⟩]
      rfl
end Go.Proofs.YteoioahkflcchaaGreatDoor
/- ops.Undoes, whichever way the map is walked. -/
namespace Go.Proofs.YteoioahkflcchaaGreatDoor
open Go.AM
set_option maxRecDepth 100000
set_option linter.unusedSimpArgs false
variable {P : Program} {M0 : Mu} {G0 : Env} {X : Calls'}

def D1 : Disp := fun _ _ => none
/-- All lies as it did, but for the map. -/
structure ExtB (g : Nat) (A B : St) : Prop where
  next : A.next ≤ B.next
  get : ∀ f, f < A.next → f ≠ g → B.get f = A.get f
theorem ExtB.refl (g : Nat) (A : St) : ExtB g A A := ⟨Nat.le_refl _, fun _ _ _ => rfl⟩
theorem ExtB.ext {g : Nat} {A B C : St} (h : ExtB g A B) (x : B.Ext C) : ExtB g A C := ⟨Nat.le_trans h.next x.next, fun f hf hn => by rw [x.get f (Nat.lt_of_lt_of_le hf h.next)]; exact h.get f hf hn⟩
theorem ExtB.put {g : Nat} {A B : St} (h : ExtB g A B) (b : Blk) : ExtB g A (B.put g b) := ⟨h.next, fun f hf hn => by rw [St.get_put, if_neg hn]; exact h.get f hf hn⟩
def lookR (z : AV) : Option (Option (Nat × AV × Nat)) → Option AV
  | some (some (_, v, _)) => some v
  | some none => some z
  | none => none
theorem lookup_at {E : Env} {A : St} {m k : Operand} {z : AV} {g c : Nat} {key : List UInt8} {es : List (AV × AV × Nat)} (hm : ev E m = .map (some g)) (hk : ev E k = .str key) (hg : A.get g = some (.map es c)) :
    readOf E A (.lookup .str z false m k) = lookR z (mapFind (.str key) es 0) := by
  unfold readOf lookR
  simp only [hm, hk, hg, keyOk, cond_true]
  split <;> simp_all
theorem put_at {E : Env} {A : St} {m k x : Operand} {g c : Nat} {key : List UInt8} {v : Int} {es : List (AV × AV × Nat)} {bl : Blk} (hm : ev E m = .map (some g)) (hk : ev E k = .str key) (hx : ev E x = .int .i64 v) (hg : A.get g = some (.map es c)) (hs : mapSet (.str key) (.int .i64 v) es c = some bl) :
    effOf E A (.mapPut .str m k x) = some (.bot, A.put g bl) := by
  unfold effOf
  simp only [hm, hk, hg, hx, keyOk, cond_true, hs]
theorem range_at {E : Env} {A : St} {x : Operand} {g c : Nat} {es : List (AV × AV × Nat)} (hx : ev E x = .map (some g)) (hg : A.get g = some (.map es c)) : effOf E A (.range true x) = some (.ptr (some (A.next, 0, 0)), A.push (.iter (.map (some g) c [] c))) := by
  unfold effOf
  simp only [hx, hg]
theorem stamp_at : ∀ {ms : List Ent} {e : Ent}, (ms.map (fun e => e.2.2)).Nodup → e ∈ ms → stampAt e.2.2 (mapC ms) = some (.str e.1, .int .i64 e.2.1)
  | [], _, _, h => by simp at h
  | x :: ms, e, hn, h => by
    rw [List.map_cons, List.nodup_cons] at hn
    show stampAt e.2.2 ((.str x.1, .int .i64 x.2.1, x.2.2) :: mapC ms) = _
    unfold stampAt
    rcases List.mem_cons.1 h with rfl | h
    · simp
    · have : Nat.beq x.2.2 e.2.2 = false := by
        cases hb : Nat.beq x.2.2 e.2.2 with
        | false => rfl
        | true => exact absurd (List.mem_map.2 ⟨e, h, (Nat.eq_of_beq_eq_true hb).symm⟩) hn.1
      rw [this]
      exact stamp_at hn.2 h
theorem entry_at {E : Env} {A : St} {x : Operand} {it g c since b : Nat} {seen : List Nat} {es : List (AV × AV × Nat)} {k v : AV} (hx : ev E x = .ptr (some (it, 0, 0))) (hi : A.get it = some (.iter (.map (some g) since (seen ++ [b]) c))) (hg : A.get g = some (.map es c)) (hs : stampAt b es = some (k, v)) :
    readOf E A (.entry x) = some (.tuple [k, v]) := by
  unfold readOf
  simp only [hx, hi, hg, Nat.beq_refl, cond_true, List.getLast?_concat, hs]
theorem old_in {ms : List Ent} {c : Nat} {seen : List Nat} {k v : AV} {b : Nat} (h : (k, v, b) ∈ oldOf c seen (mapC ms)) : ∃ e ∈ ms, k = .str e.1 ∧ v = .int .i64 e.2.1 ∧ b = e.2.2 ∧ b ∉ seen := by
  unfold oldOf at h
  have h1 := (List.mem_filter.1 h).1
  have h2 := List.mem_filter.1 h1
  obtain ⟨e, he, heq⟩ := List.mem_map.1 h2.1
  cases heq
  exact ⟨e, he, rfl, rfl, rfl, by simpa using h2.2⟩
theorem old_nil {ms : List Ent} {c : Nat} {seen : List Nat} (hlt : ∀ e ∈ ms, e.2.2 < c) (h : oldOf c seen (mapC ms) = []) : ∀ e ∈ ms, e.2.2 ∈ seen := by
  intro e he
  refine Classical.byContradiction fun hn => ?_
  have : ((.str e.1, .int .i64 e.2.1, e.2.2) : AV × AV × Nat) ∈ oldOf c seen (mapC ms) := by
    unfold oldOf
    exact List.mem_filter.2 ⟨List.mem_filter.2 ⟨List.mem_map.2 ⟨e, he, rfl⟩, by simpa using hn⟩, by simpa using hlt e he⟩
  rw [h] at this
  cases this
theorem new_nil {ms : List Ent} {c : Nat} {seen : List Nat} (hlt : ∀ e ∈ ms, e.2.2 < c) : newOf' c seen (mapC ms) = [] := by
  unfold newOf'
  rw [List.filter_eq_nil_iff]
  intro a ha
  have h1 := (List.mem_filter.1 ha).1
  obtain ⟨e, he, rfl⟩ := List.mem_map.1 h1
  have := hlt e he
  simp
  omega
theorem old_less {ms : List Ent} {c : Nat} {seen : List Nat} {x : AV × AV × Nat} (h : x ∈ oldOf c seen (mapC ms)) : (oldOf c (seen ++ [x.2.2]) (mapC ms)).length < (oldOf c seen (mapC ms)).length := by
  have he : oldOf c (seen ++ [x.2.2]) (mapC ms) = (oldOf c seen (mapC ms)).filter (fun e => !(e.2.2 == x.2.2)) := by
    unfold oldOf
    rw [List.filter_filter, List.filter_filter, List.filter_filter]
    congr 1
    funext e
    cases h1 : seen.contains e.2.2 <;> cases h2 : (e.2.2 == x.2.2) <;> simp_all
  rw [he]
  have := List.length_filter_lt_length_iff_exists (l := oldOf c seen (mapC ms)) (p := fun e => !(e.2.2 == x.2.2))
  exact this.2 ⟨x, h, by simp⟩
theorem undoes_any (b : Base P M0 G0 fnsL X) (hf : Has P 23 a23) {A : St} {s t : AV} {l u : List OpD} (hs : Sl A 4 s (opsCells l)) (ht : Sl A 4 t (opsCells u)) (hlen : l.length < 100000) (hlen2 : u.length < 100000) :
    EvS P M0 23 [s, t] A fun r B => A.Ext B ∧ r = .bool (undoesL l u) := by
  refine EvS.fnM b hf ⟨by simp [a23], by decide⟩ fun n => ?_
  unfold a23
  dsimp only
  refine MW.seqM (MW.wp (D := D1) b ?_)
  simp
  refine MW.seqM (MW.wp (D := D1) b ?_)
  simp [fillA, AV.isBot, AV.cells, splice, Made.value]
  have x1 := ext_make A [.int .i64 1, .int .i64 4, .int .i64 5, .int .i64 6] 1
  have o1 := own_built A (cs := [.int .i64 1, .int .i64 4, .int .i64 5, .int .i64 6]) (n := 4) rfl
  generalize (A.make [.int .i64 1, .int .i64 4, .int .i64 5, .int .i64 6] 1).2 = A1 at *
  simp [ops_callf, allKnown, hs.allKnown]
  have hs1 := hs.ext x1
  refine (grows_spec hs1 (by omega) (ks := [1, 4, 5, 6]) o1.sl (by simp)).mono fun r A2 ⟨x2, hr⟩ => ?_
  subst hr
  cases hk : kindsL [1, 4, 5, 6] l with
  | false =>
    simp [undoesL, hk]
    exact x1.trans x2
  | true =>
    have ht2 := (ht.ext x1).ext x2
    simp [fillA, AV.isBot, AV.cells, splice, Made.value]
    have x3 := ext_make A2 [.int .i64 1, .int .i64 6] 1
    have o3 := own_built A2 (cs := [.int .i64 1, .int .i64 6]) (n := 2) rfl
    generalize (A2.make [.int .i64 1, .int .i64 6] 1).2 = A3 at *
    have ht3 := ht2.ext x3
    simp [ops_callf, allKnown, ht3.allKnown]
    refine (grows_spec ht3 (by omega) (ks := [1, 6]) o3.sl (by simp)).mono fun r A4 ⟨x4, hr⟩ => ?_
    subst hr
    have hx4 := ((x1.trans x2).trans x3).trans x4
    cases hk2 : kindsL [1, 6] u with
    | false =>
      simp [undoesL, hk, hk2]
      exact hx4
    | true =>
      simp
      refine MW.seqM (MW.wp (D := D1) b ?_)
      simp [effOf]
      have x5 : A4.Ext (A4.push (.map [] 0)) := ext_push _ _
      have hg5 : (A4.push (.map [] 0)).get A4.next = some (.map [] 0) := by rw [St.get_push, if_pos rfl]
      have hlt5 : A4.next < (A4.push (.map [] 0)).next := Nat.lt_succ_self _
      have hlo : A.next ≤ A4.next := hx4.next
      generalize A4.push (.map [] 0) = A5 at *
      have hx5 := hx4.trans x5
      generalize A4.next = g at *
      have hs5 := hs.ext hx5
      have ht5 := ht.ext hx5
      refine MW.seqM (MW.wp (D := D1) b ?_)
      have x6 := ext_make A5 [s, t] 1
      have o6 := own_built A5 (cs := [s, t]) (n := 2) rfl
      simp [fillA, splice, Made.value, hs.cells, ht.cells, hs.notBot, ht.notBot]
      generalize (A5.make [s, t] 1).2 = A6 at *
      have hln : (l ++ u).length < 200000 := by rw [List.length_append]; omega
      simp [ops_callf, allKnown]
      refine (concat_spec (vs := [(s, l), (t, u)]) o6.sl (by
        intro x hx
        simp at hx
        rcases hx with rfl | rfl
        · exact hs5.ext x6
        · exact ht5.ext x6) (by simp; omega) (by simp)).mono fun r A7 ⟨x7, o7⟩ => ?_
      have hfm : [(s, l), (t, u)].flatMap Prod.snd = l ++ u := by simp
      rw [hfm] at o7
      have hund : undoesL l u = allB2 (zeroS (l ++ u)) (l ++ u) := by simp [undoesL, hk, hk2]
      rw [hund]
      generalize l ++ u = m at *
      have hg7 : A7.get g = some (.map [] 0) := by rw [x7.get g (Nat.lt_of_lt_of_le hlt5 x6.next), x6.get g hlt5, hg5]
      have hlt7 : g < A7.next := Nat.lt_of_lt_of_le (Nat.lt_of_lt_of_le hlt5 x6.next) x7.next
      have hx7 := (hx5.trans x6).trans x7
      simp [o7.sl.ops_lenV]
      refine Wp.loopK (fun d E A' => ExtB g A7 A' ∧ Env.at E 5 = .map (some g) ∧ Env.at E 24 = r ∧ Env.at E 25 = .int .i64 m.length ∧ ∃ (i : Nat) (ms : List Ent) (c : Nat), Env.at E 26 = .int .i64 i ∧ i + d = m.length ∧ A'.get g = some (.map (mapC ms) c) ∧ SumsM (m.take i) ms c) m.length ?_ ?_
      · exact ⟨ExtB.refl _ _, by simp, by simp, by simp, 0, [], 0, by simp, by simp, hg7, sums_nil⟩
      rintro d E A8 ⟨x8, e5, e24, e25, i, ms, c, e26, hi, hg8, hsum⟩
      have hr8 : Sl A8 4 r (opsCells m) := o7.sl.of_get x8.next fun p po len cap q he => by
        have hp := o7.into (f := p.1) (by rw [he]; simp [AV.into])
        have := Sl.into_lt o7.sl (f := p.1) (by rw [he]; simp [AV.into])
        have hgA6 : g < A6.next := Nat.lt_of_lt_of_le hlt5 x6.next
        exact x8.get _ this (by omega)
      simp [e25, e26]
      refine contC_of (fun hc => ?_) (fun hc => ?_)
      · simp at hc
        obtain ⟨o, ho⟩ : ∃ o, m[i]? = some o := ⟨m[i], List.getElem?_eq_getElem hc⟩
        obtain ⟨p, g1, g2⟩ := hr8.op_at ho .i64
        have ea := add_one (i := i) (by omega)
        have htk : m.take (i + 1) = m.take i ++ [o] := by
          rw [List.take_add_one, ho]
          rfl
        simp [e24, e26, g1, g2, Made.value, OpD.cells]
        obtain ⟨A9, k1, k2, x9⟩ := slot A8 o
        have hlt8 : g < A8.next := Nat.lt_of_lt_of_le hlt7 x8.next
        have hg9 : A9.get g = some (.map (mapC ms) c) := by rw [x9.get g hlt8, hg8]
        have hx9 := x8.ext x9
        simp [k1, k2.l0, AV.addr]
        by_cases h1 : o.kind = 1
        · simp [h1, e5, e24, e25, e26, ea, -bin_add]
          exact ⟨d - 1, by omega, hx9, i + 1, by omega, by omega, ms, c, hg9, by rw [htk]; exact sums_get hsum h1⟩
        · obtain ⟨v, x, f1, f2, ms', c', f3, f4⟩ := sums_put hsum h1
          have f3' : mapSet (.str o.key) (.int .i64 (IntKind.i64.wrap (v + o.n))) (mapC ms) c = some (.map (mapC ms') c') := f3
          have hlk : lookR (.int .i64 0) x = some (AV.int .i64 v) := by
            rcases f2 with ⟨rfl, rfl⟩ | ⟨_, _, rfl⟩ <;> rfl
          simp [h1, e5, k2.l1, k2.l2, AV.addr]
          rw [lookup_at (g := g) (key := o.key) (by simp) (by simp) hg9, f1, hlk]
          simp [e5, k2.l1, k2.l2, AV.addr]
          rw [put_at (g := g) (key := o.key) (by simp) (by simp) (by simp) hg9 f3']
          simp [h1, e5, e24, e25, e26, ea, -bin_add]
          exact ⟨d - 1, by omega, hx9.put _, i + 1, by omega, by omega, ms', c', by rw [St.get_put, if_pos rfl], by rw [htk]; exact f4⟩
      · simp at hc
        have hil : i = m.length := by omega
        subst hil
        rw [List.take_length] at hsum
        have hzero := sums_zero hsum
        have hx8 : A.Ext A8 := ⟨Nat.le_trans hx7.next x8.next, fun f hf => by rw [x8.get f (Nat.lt_of_lt_of_le hf hx7.next) (by omega)]; exact hx7.get f hf⟩
        simp
        refine MW.seqM (MW.seqM (MW.wp (D := D1) b ?_))
        simp [e5]
        rw [range_at (g := g) (by simp) hg8]
        simp
        have x9 : A8.Ext (A8.push (.iter (.map (some g) c [] c))) := ext_push _ _
        have hit : (A8.push (.iter (.map (some g) c [] c))).get A8.next = some (.iter (.map (some g) c [] c)) := by rw [St.get_push, if_pos rfl]
        have hlt8 : g < A8.next := Nat.lt_of_lt_of_le hlt7 x8.next
        have hg9 := hg8
        rw [← x9.get g hlt8] at hg9
        have hx9 := hx8.trans x9
        have hit0 : A.next ≤ A8.next := hx8.next
        generalize A8.push (.iter (.map (some g) c [] c)) = A9 at *
        generalize A8.next = it at *
        refine MW.blockM (MW.loopM (fun d E A' => A.Ext A' ∧ Env.at E 42 = .ptr (some (it, 0, 0)) ∧ A'.get g = some (.map (mapC ms) c) ∧ ∃ seen, A'.get it = some (.iter (.map (some g) c seen c)) ∧ d = (oldOf c seen (mapC ms)).length ∧ ∀ e ∈ ms, e.2.2 ∈ seen → e.2.1 = 0) _ ⟨hx9, by simp, hg9, [], hit, rfl, by simp⟩ ?_)
        rintro d E A10 ⟨x10, e42, hg10, seen, hit10, rfl, hz⟩
        refine MW.seqM (MW.region ?_)
        refine MRun.next (f := it) (g := g) (by simpa using e42) hit10 hg10 ?_ (fun hover => ?_) (fun k v bs hmem => ?_)
        · cases hms : ms with
          | nil => simp [mapC]
          | cons e r =>
            have := hsum.lt e (by simp [hms])
            have hne : decide (e.2.2 ≥ c) = false := by simpa using this
            simp [mapC]
            intro _ h
            omega
        · refine MRun.ops (D := D1) (Q := seqM P M0 n _ _) b ?_
          simp
          refine MW.wp (D := D1) b ?_
          simp
          have hall : allB2 (zeroS m) m = true := by
            rw [hzero, List.all_eq_true]
            intro e he
            exact decide_eq_true (hz e he (old_nil hsum.lt hover e he))
          rw [hall]
          refine MW.wp (D := D1) b ?_
          simp
          exact x10
        · rw [new_nil hsum.lt, List.append_nil] at hmem
          have hless := old_less hmem
          obtain ⟨e, he, rfl, rfl, rfl, hns⟩ := old_in hmem
          have hgi : g ≠ it := by omega
          have hit11 : (A10.put it (.iter (.map (some g) c (seen ++ [e.2.2]) c))).get it = some (.iter (.map (some g) c (seen ++ [e.2.2]) c)) := by rw [St.get_put, if_pos rfl]
          have hg11 : (A10.put it (.iter (.map (some g) c (seen ++ [e.2.2]) c))).get g = some (.map (mapC ms) c) := by rw [St.get_put, if_neg hgi]; exact hg10
          have x11 : A.Ext (A10.put it (.iter (.map (some g) c (seen ++ [e.2.2]) c))) := ⟨x10.next, fun f hf => by rw [St.get_put, if_neg (by omega)]; exact x10.get f hf⟩
          generalize A10.put it (.iter (.map (some g) c (seen ++ [e.2.2]) c)) = A11 at *
          refine MRun.ops (D := D1) (Q := seqM P M0 n _ _) b ?_
          simp
          refine MW.wp (D := D1) b ?_
          simp
          rw [entry_at (it := it) (g := g) (by simpa using e42) hit11 hg11 (stamp_at hsum.stamps he)]
          simp
          by_cases hv : e.2.1 = 0
          · simp [hv, e42]
            refine ⟨_, hless, x11, hg11, seen ++ [e.2.2], hit11, rfl, ?_⟩
            have hz' : ∀ e' ∈ ms, e'.2.2 ∈ seen ++ [e.2.2] → e'.2.1 = 0 := ?_
            · first | exact hz' | (intro a b c' h1 h2; exact hz' (a, b, c') h1 (by simpa using h2))
            intro e' he' hs'
            rcases List.mem_append.1 hs' with hs' | hs'
            · exact hz e' he' hs'
            · rw [List.mem_singleton] at hs'
              have h1 := stamp_at hsum.stamps he
              have h2 := stamp_at hsum.stamps he'
              rw [hs', h1] at h2
              simp at h2
              rw [← h2.2]
              exact hv
          · have hall : allB2 (zeroS m) m = false := by
              rw [hzero, List.all_eq_false]
              exact ⟨e, he, by simp [hv]⟩
            simp [hv, hall]
            exact x11
end Go.Proofs.YteoioahkflcchaaGreatDoor
