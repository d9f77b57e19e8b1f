/- Errors that are made. -/
import Derived.Test.YtejlhgcheaimjaaGreatDoorRtRaw
import Derived.Test.YtejlhgcheaimjaaGreatDoorRtAwake
import Derived.Test.YtejlhgcheaimjaaGreatDoorRtSeq
namespace Go.Proofs.YtejlhgcheaimjaaGreatDoor
open Go.AM
set_option maxRecDepth 100000
set_option linter.unusedSimpArgs false
theorem awake_spec {A : St} (h : A0.Ext A) : Ev D0 G0 fnsL XA 12 [] A fun r B => A = B ∧ r = .bool true :=
  Ev.ext rfl (xa_true h.get) ⟨rfl, rfl⟩
theorem code_spec {A : St} (h : A0.Ext A) {v : AV} {e : Int} (he : ErrIs A v e) : Ev D0 G0 fnsL XA 27 [v] A fun r B => A = B ∧ r = .int .i64 e :=
  Ev.ext rfl (xa_code h.get he) ⟨rfl, rfl⟩
variable {D : Disp} {G0 : Env} {X : Calls'}
theorem new_spec {A : St} {e : Int} (he : e ≠ 0) : Ev D G0 fnsL X 63 [.int .i64 e] A fun r B => r = .iface 102 (.ptr (some (A.next, 0, 0))) ∧ B = (A.make [.int .i64 e] 1).2 := by
  refine Ev.fnK (fn := a63) rfl ⟨by simp [a63], by decide⟩ ?_
  unfold a63
  simp [he, fillA, AV.isBot, AV.cells, splice, boxV, Made.value, mkIfaceV]
theorem at_spec {A : St} {i : Int} {t : TypeId} {v : AV} : Ev D G0 fnsL X 25 [.int .i64 i, .iface t v] A fun r B => r = .iface 95 (.ptr (some (A.next, 0, 0))) ∧ B = (A.make [.iface t v, .int .i64 i] 1).2 := by
  refine Ev.fnK (fn := a25) rfl ⟨by simp [a25], by decide⟩ ?_
  unfold a25
  simp [eqV, eqOf, fillA, AV.isBot, AV.cells, splice, boxV, Made.value, mkIfaceV]
theorem in_spec {A : St} {s : List UInt8} {t : TypeId} {v : AV} : Ev D G0 fnsL X 65 [.str s, .iface t v] A fun r B => r = .iface 129 (.ptr (some (A.next, 0, 0))) ∧ B = (A.make [.iface t v, .str s] 1).2 := by
  refine Ev.fnK (fn := a65) rfl ⟨by simp [a65], by decide⟩ ?_
  unfold a65
  simp [eqV, eqOf, fillA, AV.isBot, AV.cells, splice, boxV, Made.value, mkIfaceV]

theorem errIs_atnew (C : St) (i e : Int) : C.Ext ((C.make [.int .i64 e] 1).2.make [.iface 102 (.ptr (some (C.next, 0, 0))), .int .i64 i] 1).2 ∧ ErrIs ((C.make [.int .i64 e] 1).2.make [.iface 102 (.ptr (some (C.next, 0, 0))), .int .i64 i] 1).2 (.iface 95 (.ptr (some ((C.make [.int .i64 e] 1).2.next, 0, 0)))) e := by
  have x1 := ext_make C [.int .i64 e] 1
  have c1 := cells_made C (cs := [.int .i64 e]) (n := 1) rfl
  have hlt : C.next < (C.make [.int .i64 e] 1).2.next := Nat.lt_succ_self _
  generalize (C.make [.int .i64 e] 1).2 = A1 at *
  have x2 := ext_make A1 [.iface 102 (.ptr (some (C.next, 0, 0))), .int .i64 i] 1
  have c2 := cells_made A1 (cs := [.iface 102 (.ptr (some (C.next, 0, 0))), .int .i64 i]) (n := 2) rfl
  have c3 := cells_kept x2 (p := (C.next, 0, 0)) hlt c1
  exact ⟨x1.trans x2, errIs_at c2 c3⟩
end Go.Proofs.YtejlhgcheaimjaaGreatDoor
/- A reader: numbers, texts; what was wrong. -/
namespace Go.Proofs.YtejlhgcheaimjaaGreatDoor
open Go.AM
set_option maxRecDepth 100000
set_option linter.unusedSimpArgs false
set_option linter.unusedVariables false
/-- An error whose families lie from a number on. -/
def ErrF (lo : Nat) (A : St) (v : AV) (e : Int) : Prop := ∀ B : St, A.next ≤ B.next → (∀ f, lo ≤ f → f < A.next → B.get f = A.get f) → ErrIs B v e
theorem ErrF.is {lo : Nat} {A : St} {v : AV} {e : Int} (h : ErrF lo A v e) : ErrIs A v e := h A (Nat.le_refl _) fun _ _ _ => rfl
theorem ErrF.mod {W : Nat → Prop} {lo : Nat} {A B : St} {v : AV} {e : Int} (h : ErrF lo A v e) (m : Mod W A B) (hw : ∀ f, W f → f < lo) : ErrF lo B v e := fun C hn hg => h C (Nat.le_trans m.next hn) fun f h1 h2 => (hg f h1 (Nat.lt_of_lt_of_le h2 m.next)).trans (m.get f h2 fun hW => by have := hw f hW; omega)
theorem ErrF.mono {lo lo' : Nat} {A : St} {v : AV} {e : Int} (h : ErrF lo A v e) (hl : lo' ≤ lo) : ErrF lo' A v e := fun C hn hg => h C hn fun f h1 h2 => hg f (by omega) h2
/-- A reader and what is left to read. -/
structure InR (lo : Nat) (A : St) (p : Nat) (b : List UInt8) (st : RdS) : Prop where
  glob : A0.Ext A
  base : A0.next ≤ p
  low : p < lo
  top : lo ≤ A.next
  ex : ∃ s e i, InC A p b s e i ∧ match st with
    | some l => e = .nilIface ∧ l = b.drop i
    | none => ∃ t q c, e = .iface t (.ptr q) ∧ c ≠ 0 ∧ ErrF lo A e c
theorem glob_mod {A B : St} {p : Nat} (h : A0.Ext A) (hp : A0.next ≤ p) (m : Mod (fun f => f = p) A B) : A0.Ext B := ⟨Nat.le_trans h.next m.next, fun f hf => (m.get f (Nat.lt_of_lt_of_le hf h.next) (by omega)).trans (h.get f hf)⟩
theorem InR.mod {W : Nat → Prop} {lo : Nat} {A B : St} {p : Nat} {b : List UInt8} {st : RdS} (h : InR lo A p b st) (m : Mod W A B) (hp : ∀ f, W f → f < lo ∧ p < f) : InR lo B p b st := by
  obtain ⟨s, e, i, h1, h2⟩ := h.ex
  refine ⟨⟨Nat.le_trans h.glob.next m.next, fun f hf => (m.get f (Nat.lt_of_lt_of_le hf h.glob.next) (fun hW => by have := hp f hW; have := h.base; omega)).trans (h.glob.get f hf)⟩, h.base, h.low, Nat.le_trans h.top m.next, s, e, i, h1.mod m (fun hW => by have := hp p hW; omega) (fun f hf hW => by have := hp f hW; have := h1.below f hf; omega), ?_⟩
  cases st with
  | some l => exact h2
  | none =>
    obtain ⟨t, v, c, q1, q2, q3⟩ := h2
    exact ⟨t, v, c, q1, q2, q3.mod m fun f hW => (hp f hW).1⟩
/-- Where nothing was wrong yet, what was made since may be left out of account. -/
theorem InR.raise {lo lo' : Nat} {A : St} {p : Nat} {b l : List UInt8} (h : InR lo A p b (some l)) (h1 : p < lo') (h2 : lo' ≤ A.next) : InR lo' A p b (some l) := by
  obtain ⟨s, e, i, q1, q2⟩ := h.ex
  exact ⟨h.glob, h.base, h1, h2, s, e, i, q1, q2⟩
theorem InR.lower {lo lo' : Nat} {A : St} {p : Nat} {b : List UInt8} {st : RdS} (h : InR lo A p b st) (h1 : p < lo') (h2 : lo' ≤ lo) : InR lo' A p b st := by
  obtain ⟨s, e, i, q1, q2⟩ := h.ex
  refine ⟨h.glob, h.base, h1, Nat.le_trans h2 h.top, s, e, i, q1, ?_⟩
  cases st with
  | some l => exact q2
  | none =>
    obtain ⟨t, q, c, e1, e2, e3⟩ := q2
    exact ⟨t, q, c, e1, e2, e3.mono h2⟩
section
variable {D : Disp} {G0 : Env} {X : Calls'}
theorem bad_spec {A : St} {p : Nat} {b : List UInt8} {s e : AV} {i : Nat} (h : InC A p b s e i) (he : e = .nilIface ∨ ∃ t v, e = .iface t v) : Ev D G0 fnsL X 74 [.ptr (some (p, 0, 0))] A fun r B => A = B ∧ r = .bool (match e with | .nilIface => false | _ => true) := by
  refine Ev.fnK (fn := a74) rfl ⟨by simp [a74], by decide⟩ ?_
  unfold a74
  have l2 := h.cl.ld 2 (v := e) rfl
  rcases he with rfl | ⟨t, v, rfl⟩
  · simp [AV.addr, l2, eqV, eqOf]
  · simp [AV.addr, l2, eqV, eqOf]
theorem fail_spec {A : St} {p : Nat} {b : List UInt8} {s : AV} {i : Nat} (h : InC A p b s .nilIface i) {k : Nat} (hk : k ≤ b.length) {c : Int} (hc : c ≠ 0) :
    Ev D G0 fnsL X 76 [.ptr (some (p, 0, 0)), .int .i64 k, .int .i64 c] A fun r B => r = .tuple [] ∧ Mod (fun f => f = p) A B ∧ ∃ q, InC B p b s (.iface 95 (.ptr q)) k ∧ ErrF A.next B (.iface 95 (.ptr q)) c := by
  refine Ev.fnK (fn := a76) rfl ⟨by simp [a76], by decide⟩ ?_
  unfold a76
  have l2 := h.cl.ld 2 (v := .nilIface) rfl
  simp [AV.addr, l2, eqV, eqOf, ops_callf, allKnown]
  refine (new_spec hc).mono fun r B ⟨hr, hB⟩ => ?_
  subst hr
  simp [AV.addr, ops_callf, allKnown]
  refine (at_spec).mono fun r2 B2 ⟨hr2, hB2⟩ => ?_
  subst hr2
  have xa := ext_make A [.int .i64 c] 1
  have c1 := cells_made A (cs := [.int .i64 c]) (n := 1) rfl
  have hBn : B.next = A.next + 1 := by rw [hB]; rfl
  rw [← hB] at xa c1
  have xb := ext_make B [.iface 102 (.ptr (some (A.next, 0, 0))), .int .i64 k] 1
  have c2 := cells_made B (cs := [.iface 102 (.ptr (some (A.next, 0, 0))), .int .i64 k]) (n := 2) rfl
  have hB2n : B2.next = B.next + 1 := by rw [hB2]; rfl
  rw [← hB2] at xb c2
  have c1' := cells_kept xb (p := (A.next, 0, 0)) (by rw [hBn]; exact Nat.lt_succ_self _) c1
  clear hB hB2
  have x := xa.trans xb
  have hin := h.ext x
  have hlt := h.cl.lt
  obtain ⟨st1, st2⟩ := hin.cl.st 2 (by simp) (v := .iface 95 (.ptr (some (B.next, 0, 0)))) rfl rfl rfl
  have st1' : storeV B2 1 (.ptr (some (p, 0, 2))) (.iface 95 (.ptr (some (B.next, 0, 0)))) = some (.bot, B2.put p (.cells [s, .int .i64 i, .iface 95 (.ptr (some (B.next, 0, 0)))] [⟨0, 0, 3, 1⟩] 1 false)) := st1
  have st2' : Cl (B2.put p (.cells [s, .int .i64 i, .iface 95 (.ptr (some (B.next, 0, 0)))] [⟨0, 0, 3, 1⟩] 1 false)) p [s, .int .i64 i, .iface 95 (.ptr (some (B.next, 0, 0)))] := st2
  clear st1 st2
  have m1 := mod_put (W := fun f => f = p) B2 p (.cells [s, .int .i64 i, .iface 95 (.ptr (some (B.next, 0, 0)))] [⟨0, 0, 3, 1⟩] 1 false) rfl
  have hn1 : (B2.put p (.cells [s, .int .i64 i, .iface 95 (.ptr (some (B.next, 0, 0)))] [⟨0, 0, 3, 1⟩] 1 false)).next = B2.next := rfl
  simp [AV.addr, st1']
  generalize B2.put p (.cells [s, .int .i64 i, .iface 95 (.ptr (some (B.next, 0, 0)))] [⟨0, 0, 3, 1⟩] 1 false) = B3 at *
  obtain ⟨st3, st4⟩ := st2'.st 1 (by simp) (v := .int .i64 k) rfl rfl rfl
  have st3' : storeV B3 1 (.ptr (some (p, 0, 1))) (.int .i64 k) = some (.bot, B3.put p (.cells [s, .int .i64 k, .iface 95 (.ptr (some (B.next, 0, 0)))] [⟨0, 0, 3, 1⟩] 1 false)) := st3
  have st4' : Cl (B3.put p (.cells [s, .int .i64 k, .iface 95 (.ptr (some (B.next, 0, 0)))] [⟨0, 0, 3, 1⟩] 1 false)) p [s, .int .i64 k, .iface 95 (.ptr (some (B.next, 0, 0)))] := st4
  clear st3 st4
  have m2 := mod_put (W := fun f => f = p) B3 p (.cells [s, .int .i64 k, .iface 95 (.ptr (some (B.next, 0, 0)))] [⟨0, 0, 3, 1⟩] 1 false) rfl
  have hn2 : (B3.put p (.cells [s, .int .i64 k, .iface 95 (.ptr (some (B.next, 0, 0)))] [⟨0, 0, 3, 1⟩] 1 false)).next = B3.next := rfl
  try simp [AV.addr, st3']
  generalize B3.put p (.cells [s, .int .i64 k, .iface 95 (.ptr (some (B.next, 0, 0)))] [⟨0, 0, 3, 1⟩] 1 false) = B4 at *
  have m : Mod (fun f => f = p) B2 B4 := m1.trans m2
  have hw : ∀ f, s.into f = true → ¬ f = p := fun f hf he => by rw [he, h.off] at hf; cases hf
  refine ⟨(Mod.of_ext x).trans m, _, ⟨st4', hin.sl.mod m hw, h.below, hk, h.few⟩, fun C hn hg => ?_⟩
  have e1 : C.cells (B.next, 0, 0) 2 = B2.cells (B.next, 0, 0) 2 := St.cells_ext ((hg B.next (by omega) (by omega)).trans (m.get B.next (by omega) (by omega)))
  have e2 : C.cells (A.next, 0, 0) 1 = B2.cells (A.next, 0, 0) 1 := St.cells_ext ((hg A.next (by omega) (by omega)).trans (m.get A.next (by omega) (by omega)))
  exact errIs_at (e1.trans c2) (e2.trans c1')
theorem inNat_spec {lo : Nat} {A : St} {p : Nat} {b : List UInt8} {st : RdS} (h : InR lo A p b st) :
    Ev D G0 fnsL X 39 [.ptr (some (p, 0, 0))] A fun r B => r = .int .u64 (natS st).1 ∧ Mod (fun f => f = p) A B ∧ InR lo B p b (natS st).2 := by
  refine Ev.fnK (fn := a39) rfl ⟨by simp [a39], by decide⟩ ?_
  unfold a39
  obtain ⟨s, e, i, hC, he⟩ := h.ex
  cases st with
  | none =>
    obtain ⟨t, v, c, rfl, _⟩ := he
    simp [ops_callf, allKnown]
    refine (bad_spec hC (.inr ⟨t, _, rfl⟩)).mono fun r B ⟨hB, hr⟩ => ?_
    subst hB hr
    simp [natS]
    exact ⟨Mod.refl A, h⟩
  | some l =>
    obtain ⟨rfl, hl⟩ := he
    simp [ops_callf, allKnown]
    refine (bad_spec hC (.inl rfl)).mono fun r B ⟨hB, hr⟩ => ?_
    subst hB hr
    have l1 := hC.cl.ld 1 (v := .int .i64 i) rfl
    simp [AV.addr, l1, ops_callf, allKnown]
    refine (nat_spec hC).mono fun r B ⟨m1, j, hC1, hr⟩ => ?_
    rw [← hl] at hr
    have g1 := glob_mod h.glob h.base m1
    cases hp : natP l with
    | some x =>
      obtain ⟨n, l'⟩ := x
      rw [hp] at hr
      obtain ⟨rfl, hl'⟩ := hr
      simp [natS, hp]
      exact ⟨m1, g1, h.base, h.low, Nat.le_trans h.top m1.next, s, .nilIface, j, hC1, rfl, hl'⟩
    | none =>
      rw [hp] at hr
      simp only at hr
      subst hr
      simp [natS, hp, ops_callf, allKnown]
      refine (fail_spec hC1 hC.le (by decide)).mono fun r B2 ⟨hr, m2, v, hC2, hF⟩ => ?_
      subst hr
      simp
      exact ⟨m1.trans m2, glob_mod g1 h.base m2, h.base, h.low, Nat.le_trans h.top (Nat.le_trans m1.next m2.next), s, _, i, hC2, _, v, 6, rfl, by decide, hF.mono (Nat.le_trans h.top m1.next)⟩
/-- The next text, or what is wrong with it. -/
theorem str_spec {A : St} {p : Nat} {b : List UInt8} {s : AV} {i : Nat} (h : InC A p b s .nilIface i) {most : Nat} (hm : most < 2 ^ 40) :
    Ev D G0 fnsL X 77 [.ptr (some (p, 0, 0)), .int .i64 most] A fun r B => Mod (fun f => f = p) A B ∧ ∃ j, InC B p b s .nilIface j ∧
      match natP (b.drop i) with
      | none => r = .tuple [.str [], .int .i64 6]
      | some (n, l) => (most < n ∧ r = .tuple [.str [], .int .i64 7]) ∨ (n ≤ most ∧ l.length < n ∧ r = .tuple [.str [], .int .i64 6]) ∨ (n ≤ most ∧ n ≤ l.length ∧ r = .tuple [.str (l.take n), .int .i64 0] ∧ l.drop n = b.drop j) := by
  refine Ev.fnK (fn := a77) rfl ⟨by simp [a77], by decide⟩ ?_
  unfold a77
  simp [ops_callf, allKnown]
  refine (nat_spec h).mono fun r B ⟨m1, j, h1, hr⟩ => ?_
  cases hp : natP (b.drop i) with
  | none =>
    rw [hp] at hr
    simp only at hr
    subst hr
    simp
    exact ⟨m1, j, h1⟩
  | some x =>
    obtain ⟨n, l⟩ := x
    rw [hp] at hr
    obtain ⟨rfl, hl⟩ := hr
    have hn := (natP_some hp).2
    have ec : convV .u64 (.int .i64 (most : Int)) = some (.int .u64 (most : Int)) := by rw [convV_int, wrap_un_small rfl (show most < 2 ^ 64 by omega)]
    have eg : binOf .gtr (.int .u64 (n : Int)) (.int .u64 (most : Int)) = some (.bool (decide (most < n))) := by rw [bin_gtr]; simp
    have emx : foldA max2 (.int .i64 (most : Int)) [.int .i64 0] = some (.int .i64 (most : Int)) := by
      simp only [foldA, max2]
      rw [if_pos trivial, if_neg (by omega)]
    simp [pureOf, emx, ec, eg, -bin_gtr, -convV_int]
    refine contC_of (fun hc => ?_) (fun hc => ?_)
    · simp at hc
      simp
      exact ⟨m1, ⟨j, h1⟩, hc⟩
    · simp at hc
      simp [ops_callf, allKnown]
      refine (raw_spec h1 hn).mono fun r B2 hr => ?_
      have hll : l.length = b.length - j := by rw [hl, List.length_drop]
      rcases hr with ⟨q1, rfl, rfl⟩ | ⟨q1, m2, h2, s', rfl, sl, off⟩
      · simp
        exact ⟨m1, ⟨j, h1⟩, hc, by omega⟩
      · have ht := Sl.text sl
        rw [← hl] at ht
        simp [ht]
        exact ⟨m1.trans m2, j + n, h2, hc, by omega, by rw [hl, List.drop_drop]⟩
theorem inStr_spec {lo : Nat} {A : St} {p : Nat} {b : List UInt8} {st : RdS} (h : InR lo A p b st) {most : Nat} (hm : most < 2 ^ 40) :
    Ev D G0 fnsL X 41 [.ptr (some (p, 0, 0)), .int .i64 most] A fun r B => r = .str (strS most st).1 ∧ Mod (fun f => f = p) A B ∧ InR lo B p b (strS most st).2 := by
  refine Ev.fnK (fn := a41) rfl ⟨by simp [a41], by decide⟩ ?_
  unfold a41
  obtain ⟨s, e, i, hC, he⟩ := h.ex
  cases st with
  | none =>
    obtain ⟨t, v, c, rfl, _⟩ := he
    simp [ops_callf, allKnown]
    refine (bad_spec hC (.inr ⟨t, _, rfl⟩)).mono fun r B ⟨hB, hr⟩ => ?_
    subst hB hr
    simp [strS]
    exact ⟨Mod.refl A, h⟩
  | some l =>
    obtain ⟨rfl, hl⟩ := he
    simp [ops_callf, allKnown]
    refine (bad_spec hC (.inl rfl)).mono fun r B ⟨hB, hr⟩ => ?_
    subst hB hr
    have l1 := hC.cl.ld 1 (v := .int .i64 i) rfl
    simp [AV.addr, l1, ops_callf, allKnown]
    refine (str_spec hC hm).mono fun r B ⟨m1, j, hC1, hr⟩ => ?_
    rw [← hl] at hr
    have g1 := glob_mod h.glob h.base m1
    have fin : ∀ (c : Int), c ≠ 0 → Ev D G0 fnsL X 76 [.ptr (some (p, 0, 0)), .int .i64 i, .int .i64 c] B fun r B2 => r = .tuple [] ∧ Mod (fun f => f = p) A B2 ∧ InR lo B2 p b none := fun c hc => by
      refine (fail_spec hC1 hC.le hc).mono fun r B2 ⟨hr, m2, v, hC2, hF⟩ => ?_
      exact ⟨hr, m1.trans m2, glob_mod g1 h.base m2, h.base, h.low, Nat.le_trans h.top (Nat.le_trans m1.next m2.next), s, _, i, hC2, _, v, c, rfl, hc, hF.mono (Nat.le_trans h.top m1.next)⟩
    cases hp : natP l with
    | none =>
      rw [hp] at hr
      simp only at hr
      subst hr
      simp [strS, hp, ops_callf, allKnown]
      refine (fin 6 (by decide)).mono fun r B2 ⟨hr, hm, hi⟩ => ?_
      subst hr
      simp
      exact ⟨hm, hi⟩
    | some x =>
      obtain ⟨n, l'⟩ := x
      rw [hp] at hr
      rcases hr with ⟨hn, rfl⟩ | ⟨hn, hk, rfl⟩ | ⟨hn, hk, rfl, hd⟩
      · simp [strS, hp, hn, ops_callf, allKnown]
        refine (fin 7 (by decide)).mono fun r B2 ⟨hr, hm, hi⟩ => ?_
        subst hr
        simp
        exact ⟨hm, hi⟩
      · simp [strS, hp, hk, ops_callf, allKnown]
        refine (fin 6 (by decide)).mono fun r B2 ⟨hr, hm, hi⟩ => ?_
        subst hr
        simp
        exact ⟨hm, hi⟩
      · have hno : ¬ (most < n ∨ l'.length < n) := by omega
        simp only [strS, hp, if_neg hno]
        simp
        exact ⟨m1, g1, h.base, h.low, Nat.le_trans h.top m1.next, s, .nilIface, j, hC1, rfl, hd⟩
end
end Go.Proofs.YtejlhgcheaimjaaGreatDoor
/- A reader: numbers with a sign, its error, its end. -/
namespace Go.Proofs.YtejlhgcheaimjaaGreatDoor
open Go.AM
set_option maxRecDepth 100000
set_option linter.unusedSimpArgs false
set_option linter.unusedVariables false
section
variable {D : Disp} {G0 : Env} {X : Calls'}
theorem xor_i64_zero {a : Nat} (h : a < 2 ^ 63) : binOf .xor (.int .i64 (a : Int)) (.int .i64 0) = some (.int .i64 (a : Int)) := by
  have e : binOf .xor (.int .i64 (a : Int)) (.int .i64 0) = some (.int .i64 (IntKind.i64.wrap (BitVec.ofInt 64 a ^^^ BitVec.ofInt 64 0).toNat)) := rfl
  rw [e, BitVec.toNat_xor, ofInt_nat, show (BitVec.ofInt 64 0).toNat = 0 from rfl, Nat.xor_zero, Nat.mod_eq_of_lt (by omega), wrap_i64_nat (by omega)]
theorem xor_i64_ones {a : Nat} (h : a < 2 ^ 63) : binOf .xor (.int .i64 (a : Int)) (.int .i64 (-1)) = some (.int .i64 (-1 - (a : Int))) := by
  have e : binOf .xor (.int .i64 (a : Int)) (.int .i64 (-1)) = some (.int .i64 (IntKind.i64.wrap (BitVec.ofInt 64 a ^^^ BitVec.ofInt 64 (-1)).toNat)) := rfl
  have h1 : (BitVec.ofInt 64 (-1)).toNat = 18446744073709551615 := by decide
  have h2 : IntKind.i64.wrap ((18446744073709551615 - a : Nat) : Int) = -1 - (a : Int) := by rw [IntKind.wrap_i64]; omega
  rw [e, BitVec.toNat_xor, ofInt_nat, h1, Nat.mod_eq_of_lt (show a < 2 ^ 64 by omega), xor_ones _ (by omega), h2]
theorem signed_spec {A : St} {u : Nat} (hu : u < 18446744073709551616) : Ev D G0 fnsL X 78 [.int .u64 u] A fun r B => A = B ∧ r = .int .i64 (zag u) := by
  refine Ev.fnK (fn := a78) rfl ⟨by simp [a78], by decide⟩ ?_
  unfold a78
  have es : binOf .shr (.int .u64 (u : Int)) (.int .u64 1) = some (.int .u64 ((u / 2 : Nat) : Int)) := bin_shr_nat (k := .u64) (j := .u64) (a := u) (s := 1) (by decide)
  have ec : convV .i64 (.int .u64 ((u / 2 : Nat) : Int)) = some (.int .i64 ((u / 2 : Nat) : Int)) := by rw [convV_int, wrap_i64_nat (by omega)]
  have ea : binOf .and (.int .u64 (u : Int)) (.int .u64 1) = some (.int .u64 ((u % 2 : Nat) : Int)) := by
    have := bin_and_un (k := .u64) (a := u) (b := 1) rfl hu (by decide)
    rw [Nat.and_one_is_mod] at this
    exact this
  have hm : u % 2 = 0 ∨ u % 2 = 1 := by omega
  rcases hm with hm | hm
  · have ex := xor_i64_zero (a := u / 2) (by omega)
    rw [hm] at ea
    have hz : zag u = ((u / 2 : Nat) : Int) := by unfold zag; rw [if_neg (by omega)]
    rw [hz]
    generalize u / 2 = q at *
    simp at ea
    have ec0 : convV .i64 (.int .u64 0) = some (.int .i64 0) := rfl
    have ec1 : convV .i64 (.int .u64 1) = some (.int .i64 1) := rfl
    have en0 : unOf .neg (.int .i64 0) = some (.int .i64 0) := rfl
    have en1 : unOf .neg (.int .i64 1) = some (.int .i64 (-1)) := rfl
    simp [es, ec, ec0, ec1, ea, ex, en0, en1, -convV_int]
  · have ex := xor_i64_ones (a := u / 2) (by omega)
    rw [hm] at ea
    have hz : zag u = -1 - ((u / 2 : Nat) : Int) := by unfold zag; rw [if_pos hm]
    rw [hz]
    generalize u / 2 = q at *
    simp at ea
    have ec0 : convV .i64 (.int .u64 0) = some (.int .i64 0) := rfl
    have ec1 : convV .i64 (.int .u64 1) = some (.int .i64 1) := rfl
    have en0 : unOf .neg (.int .i64 0) = some (.int .i64 0) := rfl
    have en1 : unOf .neg (.int .i64 1) = some (.int .i64 (-1)) := rfl
    simp [es, ec, ec0, ec1, ea, ex, en0, en1, -convV_int]
theorem inNum_spec {lo : Nat} {A : St} {p : Nat} {b : List UInt8} {st : RdS} (h : InR lo A p b st) :
    Ev D G0 fnsL X 42 [.ptr (some (p, 0, 0))] A fun r B => r = .int .i64 (numS st).1 ∧ Mod (fun f => f = p) A B ∧ InR lo B p b (numS st).2 := by
  refine Ev.fnK (fn := a42) rfl ⟨by simp [a42], by decide⟩ ?_
  unfold a42
  simp [ops_callf, allKnown]
  refine (inNat_spec h).mono fun r B ⟨hr, hm, hi⟩ => ?_
  subst hr
  simp [ops_callf, allKnown]
  refine (signed_spec (natS_lt st)).mono fun r B2 ⟨hB, hr⟩ => ?_
  subst hB hr
  simp [numS]
  exact ⟨hm, hi⟩
theorem of_spec {A : St} {s : AV} {b : List UInt8} (hs : Sl A 1 s (bytesV b)) (hb : b.length < 2 ^ 40) (hg : A0.Ext A) :
    Ev D G0 fnsL X 38 [s] A fun r B => r = .ptr (some (A.next, 0, 0)) ∧ A.Ext B ∧ B.next = A.next + 1 ∧ InR (A.next + 1) B A.next b (some b) := by
  refine Ev.fnK (fn := a38) rfl ⟨by simp [a38], by decide⟩ ?_
  unfold a38
  simp [fillA, hs.notBot, hs.cells, splice, boxV, Made.value, show (AV.agg [s, .int .i64 0, .nilIface]).cells = [s, .int .i64 0, .nilIface] from rfl]
  have x := ext_make A [s, .int .i64 0, .nilIface] 1
  have hc := Cl.make A [s, .int .i64 0, .nilIface]
  have hn : (A.make [s, .int .i64 0, .nilIface] 1).2.next = A.next + 1 := rfl
  generalize (A.make [s, .int .i64 0, .nilIface] 1).2 = B at *
  refine ⟨x, hn, hg.trans x, hg.next, Nat.lt_succ_self _, by omega, s, .nilIface, 0, ⟨hc, Sl.ext x hs, fun f hf => Sl.into_lt hs hf, Nat.zero_le _, hb⟩, rfl, rfl⟩
end
/-- What was wrong first. -/
theorem err_spec {lo : Nat} {A : St} {p : Nat} {b : List UInt8} {st : RdS} (h : InR lo A p b st) :
    Ev D0 G0 fnsL XA 40 [.ptr (some (p, 0, 0))] A fun r B => A = B ∧ ∃ c : Int, r = .int .i64 c ∧ (c = 0 ↔ st.isSome = true) := by
  refine Ev.fnK (fn := a40) rfl ⟨by simp [a40], by decide⟩ ?_
  unfold a40
  obtain ⟨s, e, i, hC, he⟩ := h.ex
  have l2 := hC.cl.ld 2 (v := e) rfl
  cases st with
  | some l =>
    obtain ⟨rfl, _⟩ := he
    simp [AV.addr, l2, eqV, eqOf, ops_callf, allKnown]
    refine (code_spec h.glob (errIs_nil A)).mono fun r B ⟨hB, hr⟩ => ?_
    subst hB hr
    simp
  | none =>
    obtain ⟨t, v, c, rfl, hc, hF⟩ := he
    simp [AV.addr, l2, eqV, eqOf, ops_callf, allKnown]
    refine (code_spec h.glob hF.is).mono fun r B ⟨hB, hr⟩ => ?_
    subst hB hr
    simp [hc]
theorem end_spec {lo : Nat} {A : St} {p : Nat} {b : List UInt8} {st : RdS} (h : InR lo A p b st) :
    Ev D0 G0 fnsL XA 44 [.ptr (some (p, 0, 0))] A fun r B => Mod (fun f => f = p) A B ∧ ∃ c : Int, r = .int .i64 c ∧ (c = 0 ↔ st = some []) := by
  refine Ev.fnK (fn := a44) rfl ⟨by simp [a44], by decide⟩ ?_
  unfold a44
  obtain ⟨s, e, i, hC, he⟩ := h.ex
  have l0 := hC.cl.ld 0 (v := s) rfl
  have l1 := hC.cl.ld 1 (v := .int .i64 i) rfl
  have l2 := hC.cl.ld 2 (v := e) rfl
  have hlen := hC.sl.lenV1
  rw [bytesV_length] at hlen
  have el := lss_nat .i64 i b.length
  cases st with
  | none =>
    obtain ⟨t, v, c, rfl, hc, hF⟩ := he
    simp
    refine Wp.draws ?_
    simp [AV.addr, l2, eqV, eqOf, InAll, AV.beq, ops_callf, allKnown]
    refine (err_spec h).mono fun r B ⟨hB, c', hr, hc'⟩ => ?_
    subst hB hr
    simp at hc'
    simp [hc']
    exact Mod.refl A
  | some l =>
    obtain ⟨rfl, hl⟩ := he
    simp
    refine Wp.draws ?_
    simp [AV.addr, l0, l1, l2, hlen, el, eqV, eqOf, InAll, AV.beq, hC.sl.beq, -bin_lss]
    refine contC_of (fun hc => ?_) (fun hc => ?_)
    · simp at hc
      simp [AV.addr, l1, ops_callf, allKnown]
      refine (fail_spec hC hC.le (by decide)).mono fun r B ⟨hr, m, q, hC2, hF⟩ => ?_
      subst hr
      have g := glob_mod h.glob h.base m
      have hi : InR lo B p b none := ⟨g, h.base, h.low, Nat.le_trans h.top m.next, s, _, i, hC2, _, q, 6, rfl, by decide, hF.mono h.top⟩
      simp [ops_callf, allKnown]
      refine (err_spec hi).mono fun r B2 ⟨hB, c', hr, hc'⟩ => ?_
      subst hB hr
      simp at hc'
      have hne : l ≠ [] := by rw [hl]; intro h0; have := congrArg List.length h0; simp at this; omega
      simp [hc', hne]
      exact m
    · simp at hc
      simp [ops_callf, allKnown]
      refine (err_spec h).mono fun r B ⟨hB, c', hr, hc'⟩ => ?_
      subst hB hr
      simp at hc'
      have hnil : l = [] := by rw [hl]; exact List.drop_eq_nil_of_le hc
      simp [hc', hnil]
      exact Mod.refl A
end Go.Proofs.YtejlhgcheaimjaaGreatDoor
