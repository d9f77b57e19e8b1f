/- Operations of bytes. -/
import Derived.Test.YtejlhgcheaimjaaGreatDoorRtIn
import Derived.Test.YtejlhgcheaimjaaGreatDoorRtSame
import Derived.Test.YtejlhgcheaimjaaGreatDoorRdOps
import Derived.Test.YtejlhgcheaimjaaGreatDoorRtSeq
namespace Go.Proofs.YtejlhgcheaimjaaGreatDoor
open Go.AM
set_option maxRecDepth 100000
set_option linter.unusedSimpArgs false
set_option linter.unusedVariables false
theorem plain_big {o : OpD} (h : 6 < o.kind) : plainL o = false := by
  unfold plainL
  rw [if_neg (by omega), if_neg (by omega)]
  exact decide_eq_false (by omega)
theorem may_min (k : Nat) (s : List UInt8) (n lo : Int) : mayL ⟨((min k 99 : Nat) : Int), s, n, lo⟩ = mayL ⟨(k : Int), s, n, lo⟩ := by
  by_cases h : k ≤ 99
  · rw [Nat.min_eq_left h]
  · unfold mayL
    rw [plain_big (o := ⟨((min k 99 : Nat) : Int), s, n, lo⟩) (by simp only; omega), plain_big (o := ⟨(k : Int), s, n, lo⟩) (by simp only; omega)]
theorem may_kind {k : Nat} {s : List UInt8} {n lo : Int} (h : mayL ⟨(k : Int), s, n, lo⟩ = true) : k ≤ 6 := by
  rcases Nat.lt_or_ge 6 k with h6 | h6
  · unfold mayL at h
    rw [plain_big (by simp only; omega)] at h
    cases h
  · exact h6
theorem InR.ext {lo : Nat} {A B : St} {p : Nat} {b : List UInt8} {st : RdS} (h : InR lo A p b st) (x : A.Ext B) : InR lo B p b st := h.mod (Mod.of_ext (W := fun _ => False) x) fun _ hf => hf.elim
/-- A variable of the loop: what is stored into it. -/
theorem slot (A : St) (o : OpD) : ∃ B, storeV (A.make [.int .i64 0, .str [], .int .i64 0, .int .i64 0] 1).2 4 (.ptr (some (A.next, 0, 0))) (.agg [.int .i64 o.kind, .str o.key, .int .i64 o.n, .int .i64 o.lo]) = some (.bot, B) ∧
    B4 B A.next (.int .i64 o.kind) (.str o.key) (.int .i64 o.n) (.int .i64 o.lo) ∧ A.Ext B := by
  have x2 := ext_make A [.int .i64 0, .str [], .int .i64 0, .int .i64 0] 1
  have hb := B4.make A (.int .i64 0) (.str []) (.int .i64 0) (.int .i64 0)
  obtain ⟨B, k1, k2, k3, k4⟩ := hb.st (a' := .int .i64 o.kind) (b' := .str o.key) (c' := .int .i64 o.n) (d' := .int .i64 o.lo) rfl
  exact ⟨B, k1, k2, ⟨by rw [← k3]; exact x2.next, fun f hf => by rw [k4 f (by omega)]; exact x2.get f hf⟩⟩
theorem dec_spec {A : St} (h0 : A0.Ext A) {s : AV} {b : List UInt8} (hs : Sl A 1 s (bytesV b)) (hb : b.length < 2 ^ 40) :
    Ev D0 G0 fnsL XA 14 [s] A fun r B => A.Ext B ∧ match decP mayL b with
      | some l => ∃ v, r = .tuple [v, .int .i64 0] ∧ AM.Own A.next B 4 v (opsCells l)
      | none => r = .tuple [.slice none 0 0 0 0, .int .i64 6] := by
  refine Ev.fnK (fn := a14) rfl ⟨by simp [a14], by decide⟩ ?_
  unfold a14
  simp [ops_callf, allKnown, hs.allKnown]
  refine (of_spec hs hb h0).mono fun r B ⟨hr, x1, hn1, hi1⟩ => ?_
  subst hr
  simp [ops_callf, allKnown]
  refine (inNat_spec hi1).mono fun r B2 ⟨hr, m2, hi2⟩ => ?_
  subst hr
  have x2 : A.Ext B2 := ⟨Nat.le_trans x1.next m2.next, fun f hf => (m2.get f (Nat.lt_of_lt_of_le hf x1.next) (by omega)).trans (x1.get f hf)⟩
  have hnlt := natS_lt (some b)
  have hdec : decP mayL b = if 64 < (natS (some b)).1 then none else match opsS (natS (some b)).1 (natS (some b)).2 with
    | (l, some []) => if l.all mayL = true then some l else none
    | _ => none := rfl
  generalize hN : (natS (some b)).1 = N at *
  generalize (natS (some b)).2 = st1 at *
  have eg : binOf .gtr (.int .u64 (N : Int)) (.int .u64 64) = some (.bool (decide (64 < N))) := by rw [bin_gtr]; simp; omega
  simp [eg, -bin_gtr]
  refine contC_of (fun hc => ?_) (fun hc => ?_)
  · simp at hc
    rw [if_pos hc] at hdec
    simp [hdec]
    exact x2
  · simp at hc
    rw [if_neg (by omega)] at hdec
    simp
    refine Wp.loopK (fun d E A' => A.Ext A' ∧ Env.at E 4 = .ptr (some (A.next, 0, 0)) ∧ Env.at E 5 = .int .u64 N ∧ ∃ (i : Nat) (v : AV) (l : List OpD), Env.at E 7 = .int .u64 i ∧ i + d = N ∧ Env.at E 6 = v ∧ AM.Own (A.next + 1) A' 4 v (opsCells l) ∧
      ∃ st, InR (A.next + 1) A' A.next b st ∧ match st with
        | some t => l.all mayL = true ∧ l.length = i ∧ opsS N st1 = (l ++ (opsS (N - i) (some t)).1, (opsS (N - i) (some t)).2)
        | none => ∀ t, (opsS N st1).2 ≠ some t) N ?_ ?_
    · refine ⟨x2, by simp, by simp, 0, .slice none 0 0 0 0, [], by simp, by simp, by simp, by simpa [opsCells] using AM.Own.nil _ _ _, st1, hi2, ?_⟩
      cases st1 with
      | none => cases N <;> simp [opsS]
      | some t => simp
    rintro d E A1 ⟨x3, e4, e5, i, v, l, e7, hid, e6, hv, st, hi, hst⟩
    have el := lss_nat .u64 i N
    have h64 : l.length < 1000000 ∨ st = none := by
      cases st with
      | none => exact .inr rfl
      | some t => left; have := hst.2.1; omega
    by_cases hiN : i < N
    · rw [decide_eq_true hiN] at el
      simp [e4, e5, e7, el, ops_callf, allKnown, -bin_lss]
      refine (err_spec hi).mono fun r B3 ⟨hB, c, hr, hc'⟩ => ?_
      subst hB hr
      cases st with
      | none =>
        simp at hc'
        simp [hc', e4, ops_callf, allKnown]
        refine (end_spec hi).mono fun r B3 ⟨m, c2, hr, hc2⟩ => ?_
        subst hr
        simp at hc2
        have hd : decP mayL b = none := by
          rw [hdec]
          cases ho : opsS N st1 with
          | mk l' s' =>
            cases s' with
            | none => rfl
            | some t => exact absurd (by rw [ho]) (hst t)
        simp [hc2, hd]
        exact ⟨Nat.le_trans x3.next m.next, fun f hf => (m.get f (Nat.lt_of_lt_of_le hf x3.next) (by omega)).trans (x3.get f hf)⟩
      | some t =>
        simp at hc'
        simp [hc', e4, ops_callf, allKnown]
        obtain ⟨q1, q2, q3⟩ := hst
        have hA1 : A.next < A1.next := Nat.lt_of_lt_of_le hi.low hi.top
        have hi' := hi.raise (lo' := A1.next) hA1 (Nat.le_refl _)
        refine (inNat_spec hi').mono fun r C1 ⟨hr, n1, j1⟩ => ?_
        subst hr
        have hklt := natS_lt (some t)
        generalize hk : (natS (some t)).1 = k at *
        generalize hs1 : (natS (some t)).2 = s1 at *
        have emn : foldA min2 (.int .u64 (k : Int)) [.int .u64 99] = some (.int .u64 ((min k 99 : Nat) : Int)) := by
          simp only [foldA, min2]
          rw [if_pos trivial]
          simp only [Option.some.injEq, AV.int.injEq, true_and]
          split <;> omega
        have ecv : convV .i64 (.int .u64 ((min k 99 : Nat) : Int)) = some (.int .i64 ((min k 99 : Nat) : Int)) := by rw [convV_int, wrap_i64_nat (by omega)]
        generalize hkm : min k 99 = km at *
        simp [pureOf, emn, ecv, e4, ops_callf, allKnown, -convV_int]
        refine (inStr_spec j1 (most := 16) (by decide)).mono fun r C2 ⟨hr, n2, j2⟩ => ?_
        subst hr
        generalize hky : (strS 16 s1).1 = key at *
        generalize hs2 : (strS 16 s1).2 = s2 at *
        simp [e4, ops_callf, allKnown]
        refine (inNum_spec j2).mono fun r C3 ⟨hr, n3, j3⟩ => ?_
        subst hr
        generalize hn : (numS s2).1 = n at *
        generalize hs3 : (numS s2).2 = s3 at *
        simp [e4, ops_callf, allKnown]
        refine (inNum_spec j3).mono fun r C4 ⟨hr, n4, j4⟩ => ?_
        subst hr
        generalize hlo : (numS s3).1 = lo at *
        generalize hs4 : (numS s3).2 = s4 at *
        have hop : opS (some t) = (⟨k, key, n, lo⟩, s4) := by
          unfold opS
          simp only [hk, hs1, hky, hs2, hn, hs3, hlo, hs4]
        have n14 := ((n1.trans n2).trans n3).trans n4
        obtain ⟨C5, k1, k2, k3⟩ := slot C4 ⟨km, key, n, lo⟩
        simp only at k1 k2
        simp [fillA, AV.isBot, AV.cells, splice, Made.value, k1, e4, ops_callf, allKnown]
        have j5 := j4.ext k3
        refine (err_spec j5).mono fun r B6 ⟨hB, c2, hr, hc2⟩ => ?_
        subst hB hr
        have hNi : N - i = (N - (i + 1)) + 1 := by omega
        have hstep : opsS (N - i) (some t) = (⟨k, key, n, lo⟩ :: (opsS (N - (i + 1)) s4).1, (opsS (N - (i + 1)) s4).2) := by
          rw [hNi]
          simp only [opsS, hop]
        rw [hstep] at q3
        simp only at q3
        -- one more at the end
        have hv4 := hv.of_get n14.next fun p po len cap q hs => n14.get p.1 (Sl.into_lt hv.sl (by rw [hs]; simp [AV.into])) (by have := hv.into (f := p.1) (by rw [hs]; simp [AV.into]); omega)
        have hvl : v.slen = l.length := hv.sl.ops_len
        have app : ∀ C : St, C5.Ext C → ∃ s' C7, appendV (C.make [.int .i64 km, .str key, .int .i64 n, .int .i64 lo] 4).2 false 4 40 v (.slice (some (C.next, 0, 0)) 0 1 1 0) = some (s', C7) ∧ AM.Own (A.next + 1) C7 4 s' (opsCells (l ++ [⟨km, key, n, lo⟩])) ∧ InR (A.next + 1) C7 A.next b s4 ∧ A.Ext C7 := fun C xc => by
          have hv5 := (hv4.ext k3).ext xc
          have x6 := ext_make C (OpD.cells ⟨km, key, n, lo⟩) 4
          have hv6 := hv5.ext x6
          have hlow : A.next + 1 ≤ (C.make (OpD.cells ⟨km, key, n, lo⟩) 4).2.next := Nat.le_trans hA1 (Nat.le_trans n14.next (Nat.le_trans k3.next (Nat.le_trans xc.next x6.next)))
          obtain ⟨s', C7, g1, g2, g3, g4, g5⟩ := appendV_own (bytes := 40) hv6 (own_op C ⟨km, key, n, lo⟩).sl hlow (by decide) (opsCells_flat _) (by rw [hvl, slen_slice]; omega) (by rw [hvl, slen_slice]; omega)
          rw [← opsCells_append] at g3
          have m7 : Mod (fun f => v.into f = true) (C.make (OpD.cells ⟨km, key, n, lo⟩) 4).2 C7 := ⟨g4.next, fun f hf hw => g4.get f hf (by simpa using hw)⟩
          have j7 := (((j5.ext xc).ext x6).mod m7 fun f hf => ⟨Sl.into_lt hv.sl hf, hv.into hf⟩).lower (lo' := A.next + 1) (Nat.lt_succ_self _) hA1
          refine ⟨s', C7, g1, g3, j7, Nat.le_trans x3.next (Nat.le_trans n14.next (Nat.le_trans k3.next (Nat.le_trans xc.next (Nat.le_trans x6.next g4.next)))), fun f hf => ?_⟩
          have h1 := Nat.lt_of_lt_of_le hf x3.next
          have h4 := Nat.lt_of_lt_of_le h1 n14.next
          have h5 := Nat.lt_of_lt_of_le h4 k3.next
          have hc := Nat.lt_of_lt_of_le h5 xc.next
          have h6 := Nat.lt_of_lt_of_le hc x6.next
          rw [m7.get f h6 (fun hw => by have := hv.into hw; omega), x6.get f hc, xc.get f h5, k3.get f h4, n14.get f h1 (by omega), x3.get f hf]
        have e25 : binOf .add (.int .u64 (i : Int)) (.int .u64 1) = some (.int .u64 ((i + 1 : Nat) : Int)) := by
          rw [bin_add, show (i : Int) + 1 = ((i + 1 : Nat) : Int) by omega, wrap_un_small rfl (show i + 1 < 2 ^ 64 by omega)]
        cases s4 with
        | none =>
          simp at hc2
          obtain ⟨s', C7, g1, g3, j7, x7⟩ := app C5 (St.Ext.refl C5)
          simp [hc2, e4, e6, e7, AV.addr, k2.ld, fillA, AV.isBot, AV.cells, splice, Made.value, g1, e25, -bin_add]
          refine ⟨d - 1, by omega, x7, e5, i + 1, by omega, by omega, _, g3, none, j7, ?_⟩
          rw [q3]
          cases (N - (i + 1)) <;> simp [opsS]
        | some t' =>
          simp at hc2
          simp [hc2, k2.ld, ops_callf, allKnown]
          refine (may_spec (⟨km, key, n, lo⟩ : OpD)).mono fun r B7 ⟨xm, hr⟩ => ?_
          subst hr
          have hmm : mayL ⟨(km : Int), key, n, lo⟩ = mayL ⟨(k : Int), key, n, lo⟩ := by rw [← hkm]; exact may_min k key n lo
          rw [hmm]
          obtain ⟨s', C7, g1, g3, j7, x7⟩ := app B7 xm
          cases hmay : mayL ⟨(k : Int), key, n, lo⟩ with
          | false =>
            have hd : decP mayL b = none := by
              rw [hdec, q3]
              cases (opsS (N - (i + 1)) (some t')).2 with
              | none => rfl
              | some u =>
                cases u with
                | nil => simp [hmay]
                | cons w u => rfl
            simp [hmay, hd]
            refine ⟨Nat.le_trans x3.next (Nat.le_trans n14.next (Nat.le_trans k3.next xm.next)), fun f hf => ?_⟩
            have h1 := Nat.lt_of_lt_of_le hf x3.next
            have h4 := Nat.lt_of_lt_of_le h1 n14.next
            have h5 := Nat.lt_of_lt_of_le h4 k3.next
            rw [xm.get f h5, k3.get f h4, n14.get f h1 (by omega), x3.get f hf]
          | true =>
            have hkk : km = k := by have := may_kind hmay; omega
            have hld := (k2.ext xm).ld
            simp [hmay, e4, e6, e7, AV.addr, hld, fillA, AV.isBot, AV.cells, splice, Made.value, g1, e25, -bin_add]
            refine ⟨d - 1, by omega, x7, e5, i + 1, by omega, by omega, _, g3, some t', j7, ?_, by simp [q2], ?_⟩
            · intro x hx
              rcases List.mem_append.1 hx with hx | hx
              · exact List.all_eq_true.1 q1 x hx
              · rw [List.mem_singleton] at hx; subst hx; rw [hkk]; exact hmay
            · rw [q3, hkk, List.append_assoc]; rfl
    · rw [decide_eq_false hiN] at el
      simp [e4, e5, e7, el, ops_callf, allKnown, -bin_lss]
      refine (end_spec hi).mono fun r B3 ⟨m, c2, hr, hc2⟩ => ?_
      subst hr
      have xB : A.Ext B3 := ⟨Nat.le_trans x3.next m.next, fun f hf => (m.get f (Nat.lt_of_lt_of_le hf x3.next) (by omega)).trans (x3.get f hf)⟩
      obtain rfl : i = N := by omega
      cases st with
      | none =>
        simp at hc2
        have hd : decP mayL b = none := by
          rw [hdec]
          cases ho : opsS i st1 with
          | mk l' s' =>
            cases s' with
            | none => rfl
            | some t => exact absurd (by rw [ho]) (hst t)
        simp [hc2, hd]
        exact xB
      | some t =>
        obtain ⟨q1, q2, q3⟩ := hst
        rw [Nat.sub_self] at q3
        simp only [opsS, List.append_nil] at q3
        rw [q3] at hdec
        cases t with
        | nil =>
          simp at hc2
          have hd : decP mayL b = some l := by rw [hdec]; simp only [if_pos q1]
          have hv2 := hv.of_get m.next fun p po len cap q hs => m.get p.1 (Sl.into_lt hv.sl (by rw [hs]; simp [AV.into])) (by have := hv.into (f := p.1) (by rw [hs]; simp [AV.into]); omega)
          simp [hc2, hd, e6, hv2.sl.known]
          exact ⟨xB, hv2.mono (Nat.le_succ _)⟩
        | cons u t =>
          simp at hc2
          have hd : decP mayL b = none := by rw [hdec]
          simp [hc2, hd]
          exact xB
end Go.Proofs.YtejlhgcheaimjaaGreatDoor
/- Operations are written as bytes. -/
namespace Go.Proofs.YtejlhgcheaimjaaGreatDoor
open Go.AM
set_option maxRecDepth 100000
set_option linter.unusedSimpArgs false
set_option linter.unusedVariables false
variable {D : Disp} {G0 : Env} {X : Calls'}
theorem encOp_length {o : OpD} (h : o.Ok) (hk : o.key.length ≤ 20) : (encOp o).length ≤ 100 := by
  have h1 := natB_length (n := encOp.toU o.kind) (by unfold encOp.toU; omega)
  have h2 := natB_length (n := o.key.length) (by omega)
  have h3 := natB_length (zig_lt h.n)
  have h4 := natB_length (zig_lt h.lo)
  unfold encOp strB numB
  simp only [List.length_append]
  omega
theorem encOps_length : ∀ {l : List OpD}, (∀ o ∈ l, o.Ok ∧ o.key.length ≤ 20) → (encOps l).length ≤ 100 * l.length
  | [], _ => Nat.zero_le _
  | o :: l, h => by
    have h1 := encOp_length (h o List.mem_cons_self).1 (h o List.mem_cons_self).2
    have h2 := encOps_length (l := l) fun x hx => h x (List.mem_cons_of_mem _ hx)
    simp only [encOps, List.length_append, List.length_cons]
    omega
theorem enc_spec {A : St} {s : AV} {l : List OpD} (hs : Sl A 4 s (opsCells l)) (hl : l.length ≤ 100) (hok : ∀ o ∈ l, o.Ok ∧ o.key.length ≤ 20) :
    Ev D G0 fnsL X 16 [s] A fun r B => A.Ext B ∧ OwnB A.next B r (encL l) := by
  refine Ev.fnK (fn := a16) rfl ⟨by simp [a16], by decide⟩ ?_
  unfold a16
  have ec : convV .u64 (.int .i64 (l.length : Int)) = some (.int .u64 (l.length : Int)) := by rw [convV_int, wrap_un_small rfl (show l.length < 2 ^ 64 by omega)]
  simp [hs.ops_lenV, ec, ops_callf, allKnown, -convV_int]
  refine (encNat_spec (by omega)).mono fun r B ⟨x, ho⟩ => ?_
  simp [hs.ops_lenV]
  refine Wp.loopK (fun d E A' => A.Ext A' ∧ Env.at E 10 = s ∧ Env.at E 11 = .int .i64 l.length ∧ ∃ (i : Nat) (o : AV), Env.at E 12 = .int .i64 i ∧ i + d = l.length ∧ Env.at E 3 = o ∧ OwnB A.next A' o (natB l.length ++ encOps (l.take i))) l.length ?_ ?_
  · exact ⟨x, by simp, by simp, 0, r, by simp, by simp, by simp, by simpa [encOps] using ho⟩
  rintro d E B1 ⟨x1, e10, e11, i, o, e12, hi, e3, ho1⟩
  simp [e10, e11, e12, lss_nat, -bin_lss]
  refine contC_of (fun hc => ?_) (fun hc => ?_)
  · simp at hc
    obtain ⟨op, hop⟩ : ∃ o, l[i]? = some o := ⟨l[i], List.getElem?_eq_getElem hc⟩
    have hmem : op ∈ l := List.mem_of_getElem? hop
    obtain ⟨ok1, ok2⟩ := hok op hmem
    obtain ⟨p, g1, g2⟩ := (Sl.ext x1 hs).op_at hop .i64
    obtain ⟨B2, k1, k2, x2⟩ := slot B1 op
    have ea := add_one (i := i) (by omega)
    have eck : convV .u64 (.int .i64 op.kind) = some (.int .u64 (encOp.toU op.kind : Int)) := by
      rw [convV_int, wrap_un rfl]
      congr 2
      unfold encOp.toU
      show op.kind % 18446744073709551616 = _
      omega
    simp [OpD.cells] at g2
    simp [e10, e12, g1, g2, fillA, AV.isBot, AV.cells, splice, Made.value, k1]
    refine Wp.draws ?_
    simp [e3, AV.addr, k2.l0, opsD_callf, allKnown, eck, -convV_int]
    refine (encNat_spec (by unfold encOp.toU; omega)).mono fun r1 C1 ⟨y1, o1⟩ => ?_
    have m1 := k2.ext y1
    simp [AV.addr, m1.l1, opsD_callf, allKnown, o1.sl.allKnown]
    refine (encStr_spec (by omega)).mono fun r2 C2 ⟨y2, o2⟩ => ?_
    have m2 := m1.ext y2
    simp [AV.addr, m2.l2, opsD_callf, allKnown]
    refine (encNum_spec ok1.n).mono fun r3 C3 ⟨y3, o3⟩ => ?_
    have m3 := m2.ext y3
    simp [AV.addr, m3.l3, opsD_callf, allKnown]
    refine (encNum_spec ok1.lo).mono fun r4 C4 ⟨y4, o4⟩ => ?_
    have m4 := m3.ext y4
    have hsl : Sl (C4.make [r1, r2, r3, r4] 1).2 1 (.slice (some (C4.next, 0, 0)) 0 4 4 0) [r1, r2, r3, r4] := (own_make_exact C4 (cs := [r1, r2, r3, r4]) (sz := 1) (n := 4) rfl (Nat.le_refl _) (len := 4) (Nat.le_refl _)).sl
    have x5 := ext_make C4 [r1, r2, r3, r4] 1
    have hpp : PartsB (C4.make [r1, r2, r3, r4] 1).2 [r1, r2, r3, r4] [natB (encOp.toU op.kind), strB op.key, numB op.n, numB op.lo] :=
      ⟨Sl.ext x5 (Sl.ext y4 (Sl.ext y3 (Sl.ext y2 o1.sl))), Sl.ext x5 (Sl.ext y4 (Sl.ext y3 o2.sl)), Sl.ext x5 (Sl.ext y4 o3.sl), Sl.ext x5 o4.sl, trivial⟩
    have hfl : [natB (encOp.toU op.kind), strB op.key, numB op.n, numB op.lo].flatten = encOp op := by simp [encOp]
    have hlen := encOp_length ok1 ok2
    simp [fillA, o1.sl.notBot, o2.sl.notBot, o3.sl.notBot, o4.sl.notBot, o1.sl.cells, o2.sl.cells, o3.sl.cells, o4.sl.cells, splice, Made.value, opsD_callf, allKnown]
    have x6 := ((((x2.trans y1).trans y2).trans y3).trans y4).trans x5
    refine (seq_spec hsl hpp (by simp) (by rw [hfl]; omega)).mono fun r5 C5 ⟨y5, o5⟩ => ?_
    rw [hfl] at o5
    have ho5 := (ho1.ext x6).ext y5
    have hlo := Bs.len ho5.sl
    have hl5 := Bs.len o5.sl
    have he := encOps_length (l := l.take i) fun o ho => hok o (List.mem_of_mem_take ho)
    have hn9 := natB_length (n := l.length) (by omega)
    rw [List.length_append] at hlo
    rw [List.length_take] at he
    have hnx := Nat.le_trans x1.next (Nat.le_trans x6.next y5.next)
    obtain ⟨s', C6, q1, q2, q3, q4, q5⟩ := appendV_own (bytes := 1) ho5 o5.sl hnx (by decide) (bytesV_flat _) (by omega) (by omega)
    simp [q1]
    simp [InAll, AV.beq, k2.l0, k2.l1, k2.l2, k2.l3, m1.l0, m1.l1, m1.l2, m1.l3, m2.l0, m2.l1, m2.l2, m2.l3, m3.l0, m3.l1, m3.l2, m3.l3, m4.l0, m4.l1, m4.l2, m4.l3, e12, ea, -bin_add]
    refine ⟨d - 1, by omega, q4.ext ((x1.trans x6).trans y5) ho5, e10, e11, i + 1, by omega, by omega, ?_⟩
    have htk : l.take (i + 1) = l.take i ++ [op] := by rw [List.take_add_one, hop]; rfl
    rw [htk, encOps_append, ← List.append_assoc]
    have e1 : encOps [op] = encOp op := by simp [encOps]
    rw [e1, OwnB, bytesV_append]
    exact q3
  · simp at hc
    have hil : i = l.length := by omega
    rw [hil, List.take_length] at ho1
    simp [e3, ho1.sl.known]
    exact ⟨x1, ho1⟩
end Go.Proofs.YtejlhgcheaimjaaGreatDoor
/- The document writes operations as bytes: some bytes, not many. -/
namespace Go.Proofs.YtejlhgcheaimjaaGreatDoor
open Go.AM
set_option maxRecDepth 100000
set_option linter.unusedSimpArgs false
set_option linter.unusedVariables false
variable {D : Disp} {G0 : Env} {X : Calls'}
/-- Some bytes of one's own. -/
def SomeB (lo : Nat) (B : St) (r : AV) (n : Nat) : Prop := ∃ l : List UInt8, OwnB lo B r l ∧ l.length ≤ n
theorem wrapU (x : Int) : ∃ v : Nat, v < 18446744073709551616 ∧ IntKind.u64.wrap x = (v : Int) := by
  refine ⟨(x % 18446744073709551616).toNat, by omega, ?_⟩
  rw [wrap_un rfl]
  show x % 18446744073709551616 = _
  omega
theorem rencNat_spec {A : St} {n : Nat} (hn : n < 18446744073709551616) : Ev D G0 fnsL X 35 [.int .u64 n] A fun r B => A.Ext B ∧ SomeB A.next B r 9 := by
  refine Ev.fnK (fn := a35) rfl ⟨by simp [a35], by decide⟩ ?_
  unfold a35
  simp
  refine Wp.loopK (fun d E A' => A.Ext A' ∧ Env.at E 0 = .int .u64 d ∧ ∃ (o : AV) (l : List UInt8), Env.at E 3 = o ∧ OwnB A.next A' o l ∧ l.length ≤ 8 ∧ d < 256 ^ (8 - l.length)) n ?_ ?_
  · exact ⟨St.Ext.refl A, by simp, .slice none 0 0 0 0, [], by simp, AM.Own.nil _ _ _, by simp, hn⟩
  rintro d E A1 ⟨x1, e0, o, l, e3, ho, hl8, hd⟩
  have eg : binOf .gtr (.int .u64 (d : Int)) (.int .u64 0) = some (.bool (decide (0 < d))) := by rw [bin_gtr]; simp
  simp [e0, eg, -bin_gtr]
  refine contC_of (fun hc => ?_) (fun hc => ?_)
  · simp at hc
    have hd64 : d < 18446744073709551616 := Nat.lt_of_lt_of_le hd (Nat.le_trans (Nat.pow_le_pow_right (by decide) (Nat.sub_le 8 _)) (by decide))
    obtain ⟨y, hy, er⟩ : ∃ y : Nat, y = d % 256 ∧ binOf .rem (.int .u64 (d : Int)) (.int .u64 256) = some (.int .u64 (y : Int)) := ⟨_, rfl, bin_rem_nat (b := 256) (by decide)⟩
    obtain ⟨z, hz, eq⟩ : ∃ z : Nat, z = d / 256 ∧ binOf .quo (.int .u64 (d : Int)) (.int .u64 256) = some (.int .u64 (z : Int)) := ⟨_, rfl, bin_quo_nat (b := 256) (by decide) (wrap_un_small rfl (show d / 256 < 2 ^ 64 by omega))⟩
    have hl7 : l.length < 8 := by
      rcases Nat.lt_or_ge l.length 8 with h | h
      · exact h
      · rw [show 8 - l.length = 0 by omega] at hd
        simp at hd
        omega
    have ob := own_make_exact A1 (cs := [byteV (UInt8.ofNat y)]) (sz := 1) (n := 1) rfl (Nat.le_refl _) (len := 1) (Nat.le_refl _)
    have x2 := ext_make A1 [byteV (UInt8.ofNat y)] 1
    obtain ⟨s', B, h1, h2, h3, h4, h5⟩ := appendV_own (bytes := 1) ob (ho.ext x2).sl x2.next (by decide) (bytesV_flat _) (by rw [Bs.len ho.sl, slen_slice]; omega) (by rw [Bs.len ho.sl, slen_slice]; omega)
    have h3' : OwnB A.next B s' (UInt8.ofNat y :: l) := h3.mono x1.next
    simp [e0, e3, er, eq, conv_u8, fillA, splice, Made.value, h1, -convV_int]
    refine ⟨z, by omega, x1.trans (h4.ext x2 ob), rfl, _, h3', by simp; omega, ?_⟩
    simp only [List.length_cons]
    rw [show 8 - l.length = (8 - (l.length + 1)) + 1 by omega, Nat.pow_succ] at hd
    rw [hz]
    exact Nat.div_lt_of_lt_mul (by omega)
  · have el : convV .u8 (.int .i64 (l.length : Int)) = some (byteV (UInt8.ofNat l.length)) := conv_u8 _ _
    have hlen := Bs.lenV ho.sl
    have ob := own_make_exact A1 (cs := [byteV (UInt8.ofNat l.length)]) (sz := 1) (n := 1) rfl (Nat.le_refl _) (len := 1) (Nat.le_refl _)
    have x2 := ext_make A1 [byteV (UInt8.ofNat l.length)] 1
    obtain ⟨s', B, h1, h2, h3, h4, h5⟩ := appendV_own (bytes := 1) ob (ho.ext x2).sl x2.next (by decide) (bytesV_flat _) (by rw [Bs.len ho.sl, slen_slice]; omega) (by rw [Bs.len ho.sl, slen_slice]; omega)
    have h3' : OwnB A.next B s' (UInt8.ofNat l.length :: l) := h3.mono x1.next
    simp [e3, hlen, el, fillA, splice, Made.value, h1, h3.sl.known, -convV_int]
    exact ⟨x1.trans (h4.ext x2 ob), _, h3', by simp; omega⟩
theorem rencStr_spec {A : St} {s : List UInt8} (hs : s.length < 2 ^ 40) : Ev D G0 fnsL X 36 [.str s] A fun r B => A.Ext B ∧ SomeB A.next B r (9 + s.length) := by
  refine Ev.fnK (fn := a36) rfl ⟨by simp [a36], by decide⟩ ?_
  unfold a36
  have ec : convV .u64 (.int .i64 (s.length : Int)) = some (.int .u64 (s.length : Int)) := by rw [convV_int, wrap_un_small rfl (show s.length < 2 ^ 64 by omega)]
  simp [lenStrV, ec, ops_callf, allKnown, -convV_int]
  refine (rencNat_spec (by omega)).mono fun r B ⟨x, l, ho, hl⟩ => ?_
  have hrl := Bs.len ho.sl
  have ot := own_text B (cs := bytesV s) (n := s.length) (by simp) (lo := B.next) (Nat.le_refl _)
  have xt := ext_makeV B (bytesV s) 1 1
  obtain ⟨s', B2, h1, h2, h3, h4, h5⟩ := appendV_own (bytes := 1) (ho.ext xt) ot.sl (Nat.le_trans x.next xt.next) (by decide) (bytesV_flat _) (by rw [slen_slice]; omega) (by rw [slen_slice]; omega)
  have hmx : s.length ≤ 140737488355328 := by omega
  have hmap : s.map (fun b => AV.int IntKind.u8 (b.toNat : Int)) = bytesV s := rfl
  simp [bytesOfV, hmx, hmap, Made.value, Made.ver, h1, h3.sl.known]
  refine ⟨h4.ext (x.trans xt) (ho.ext xt), l ++ s, by rw [OwnB, bytesV_append]; exact h3, by simp; omega⟩
theorem rencNum_spec {A : St} {n : Int} : Ev D G0 fnsL X 37 [.int .i64 n] A fun r B => A.Ext B ∧ SomeB A.next B r 9 := by
  refine Ev.fnK (fn := a37) rfl ⟨by simp [a37], by decide⟩ ?_
  unfold a37
  simp
  refine contC_of (fun hc => ?_) (fun hc => ?_)
  · obtain ⟨u, hu, eu⟩ := wrapU (IntKind.i64.wrap (-1 - n))
    obtain ⟨v, hv, ev⟩ := wrapU (2 * (u : Int))
    obtain ⟨w, hw, ew⟩ := wrapU ((v : Int) + 1)
    simp [eu, ev, ew, ops_callf, allKnown]
    refine (rencNat_spec hw).mono fun r B ⟨x, l, ho, hl⟩ => ?_
    simp [ho.sl.known]
    exact ⟨x, l, ho, hl⟩
  · obtain ⟨u, hu, eu⟩ := wrapU n
    obtain ⟨v, hv, ev⟩ := wrapU (2 * (u : Int))
    simp [eu, ev, ops_callf, allKnown]
    refine (rencNat_spec hv).mono fun r B ⟨x, l, ho, hl⟩ => ?_
    simp [ho.sl.known]
    exact ⟨x, l, ho, hl⟩
theorem renc_spec {A : St} {s : AV} {l : List OpD} (hs : Sl A 4 s (opsCells l)) (hl : l.length ≤ 100) (hok : ∀ o ∈ l, o.key.length ≤ 20) :
    Ev D G0 fnsL X 13 [s] A fun r B => A.Ext B ∧ SomeB A.next B r 10000 := by
  refine Ev.fnK (fn := a13) rfl ⟨by simp [a13], by decide⟩ ?_
  unfold a13
  have ec : convV .u64 (.int .i64 (l.length : Int)) = some (.int .u64 (l.length : Int)) := by rw [convV_int, wrap_un_small rfl (show l.length < 2 ^ 64 by omega)]
  simp [hs.ops_lenV, ec, ops_callf, allKnown, -convV_int]
  refine (rencNat_spec (by omega)).mono fun r B ⟨x, ho⟩ => ?_
  simp [hs.ops_lenV]
  refine Wp.loopK (fun d E A' => A.Ext A' ∧ Env.at E 10 = s ∧ Env.at E 11 = .int .i64 l.length ∧ ∃ (i : Nat) (o : AV), Env.at E 12 = .int .i64 i ∧ i + d = l.length ∧ Env.at E 3 = o ∧ SomeB A.next A' o (9 + 60 * i)) l.length ?_ ?_
  · exact ⟨x, by simp, by simp, 0, r, by simp, by simp, by simp, by simpa using ho⟩
  rintro d E B1 ⟨x1, e10, e11, i, o, e12, hi, e3, bs, ho1, hbs⟩
  simp [e10, e11, e12, lss_nat, -bin_lss]
  refine contC_of (fun hc => ?_) (fun hc => ?_)
  · simp at hc
    obtain ⟨op, hop⟩ : ∃ o, l[i]? = some o := ⟨l[i], List.getElem?_eq_getElem hc⟩
    have hmem : op ∈ l := List.mem_of_getElem? hop
    have hk20 := hok op hmem
    obtain ⟨p, g1, g2⟩ := (Sl.ext x1 hs).op_at hop .i64
    obtain ⟨B2, k1, k2, x2⟩ := slot B1 op
    have ea := add_one (i := i) (by omega)
    obtain ⟨u, hu, eu⟩ := wrapU op.kind
    simp [OpD.cells] at g2
    simp [e10, e12, g1, g2, fillA, AV.isBot, AV.cells, splice, Made.value, k1]
    simp [e3, AV.addr, k2.l0, eu, ops_callf, allKnown]
    have hoff : o.into B1.next = false := by
      cases hb : o.into B1.next with
      | false => rfl
      | true => exact absurd (Sl.into_lt ho1.sl hb) (Nat.lt_irrefl _)
    -- one thing more at the end
    have more : ∀ {C C1 : St} {o r1 : AV} {m k : Nat} {a b c d : AV}, A.Ext C → C.Ext C1 → SomeB A.next C o m → SomeB C.next C1 r1 k → m + k ≤ 20000 → B4 C B1.next a b c d → o.into B1.next = false →
        ∃ s' C2, appendV C1 false 1 1 o r1 = some (s', C2) ∧ SomeB A.next C2 s' (m + k) ∧ A.Ext C2 ∧ B4 C2 B1.next a b c d ∧ s'.into B1.next = false := by
      rintro C C1 o r1 m k a b c d xa xc ⟨l1, a1, a2⟩ ⟨l2, b1, b2⟩ hmk hb4 hof
      have hl1 := Bs.len a1.sl
      have hl2 := Bs.len b1.sl
      obtain ⟨s', C2, h1, h2, h3, h4, h5⟩ := appendV_own (bytes := 1) (a1.ext xc) b1.sl (Nat.le_trans xa.next xc.next) (by decide) (bytesV_flat _) (by omega) (by omega)
      have hb1 := hb4.ext xc
      refine ⟨s', C2, h1, ⟨l1 ++ l2, by rw [OwnB, bytesV_append]; exact h3, by simp; omega⟩, h4.ext (xa.trans xc) (a1.ext xc), hb1.but h4.next (h4.get _ hb1.lt hof), ?_⟩
      cases hb : s'.into B1.next with
      | false => rfl
      | true =>
        rcases h5 _ hb with h | h
        · rw [hof] at h; cases h
        · exact absurd h (Nat.not_le.2 hb1.lt)
    have xB2 := x1.trans x2
    refine (rencNat_spec hu).mono fun r1 C1 ⟨y1, z1⟩ => ?_
    obtain ⟨s1, D1, q1, q2, q3, q4, q5⟩ := more xB2 y1 ⟨bs, ho1.ext x2, hbs⟩ z1 (by omega) k2 hoff
    simp [q1, AV.addr, q4.l1, ops_callf, allKnown]
    refine (rencStr_spec (by omega)).mono fun r2 C2 ⟨y2, z2⟩ => ?_
    obtain ⟨s2, D2, p1, p2, p3, p4, p5⟩ := more q3 y2 q2 z2 (by omega) q4 q5
    simp [p1, AV.addr, p4.l2, ops_callf, allKnown]
    refine rencNum_spec.mono fun r3 C3 ⟨y3, z3⟩ => ?_
    obtain ⟨s3, D3, m1, m2, m3, m4, m5⟩ := more p3 y3 p2 z3 (by omega) p4 p5
    simp [m1, AV.addr, m4.l3, ops_callf, allKnown]
    refine rencNum_spec.mono fun r4 C4 ⟨y4, z4⟩ => ?_
    obtain ⟨s4, D4, n1, n2, n3, n4, n5⟩ := more m3 y4 m2 z4 (by omega) m4 m5
    obtain ⟨bs', w1, w2⟩ := n2
    simp [n1, e10, e11, e12, ea, -bin_add]
    exact ⟨d - 1, by omega, n3, i + 1, by omega, by omega, bs', w1, by omega⟩
  · simp at hc
    simp [e3, ho1.sl.known]
    exact ⟨x1, bs, ho1, by omega⟩
end Go.Proofs.YtejlhgcheaimjaaGreatDoor
