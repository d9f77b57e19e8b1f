/- The program reads an operation. -/
import Derived.Test.YtejlhgcheaimjaaGreatDoorRtTx6
namespace Go.Proofs.YtejlhgcheaimjaaGreatDoor
open Go.AM
set_option maxRecDepth 100000
set_option linter.unusedSimpArgs false
set_option linter.unusedVariables false
section
variable {D : Disp} {G0 : Env} {fns : Nat → Option AFn} {X : Calls'}
theorem wp_cut6 {a b c d e f g : ACode} {E : Env} {A : St} {Q : Ex → Env → St → Prop} (I : Env → St → Prop) (h : Wp D G0 fns X (.seq a (.seq b (.seq c (.seq d (.seq e f))))) E A (cutK I Q)) (h2 : ∀ E A, I E A → Wp D G0 fns X g E A Q) : Wp D G0 fns X (.seq a (.seq b (.seq c (.seq d (.seq e (.seq f g)))))) E A Q := by
  rw [Go.AM.wp_seq] at h ⊢
  refine h.mono fun ex E A h => ?_
  cases ex with
  | normal => exact wp_cut5 I h h2
  | exit i => exact h
  | ret => exact h
end
/-- An error that is no more than a number. -/
def BadNew (B : St) (v : AV) : Prop := ∃ g, v = .iface 102 (.ptr (some (g, 0, 0))) ∧ g < B.next ∧ B.cells (g, 0, 0) 1 = some [.int .i64 6]
def BadE (B : St) (v : AV) : Prop := BadIn 0 B v ∨ BadNew B v
theorem BadE.ext {A B : St} {v : AV} (h : BadE A v) (x : A.Ext B) : BadE B v := by
  rcases h with h | ⟨g, h1, h2, h3⟩
  · exact .inl (h.ext x)
  · exact .inr ⟨g, h1, Nat.lt_of_lt_of_le h2 x.next, cells_kept x h2 h3⟩
/-- No error, or one in a text. -/
def ErrV (lo : Nat) (B : St) (v : AV) : Prop := v = .nilIface ∨ BadIn lo B v
theorem ErrV.val {lo : Nat} {B : St} {v : AV} (h : ErrV lo B v) : v = .nilIface ∨ ∃ t p, v = .iface t (.ptr (some p)) := by
  rcases h with h | h
  · exact .inl h
  · obtain ⟨p, hp⟩ := h.iface; exact .inr ⟨_, _, hp⟩
theorem ErrV.mod {W : Nat → Prop} {lo : Nat} {A B : St} {v : AV} (h : ErrV lo A v) (m : Mod W A B) (hw : ∀ f, lo ≤ f → ¬ W f) : ErrV lo B v := h.imp id fun h => h.mod m hw
theorem ErrV.down {lo lo' : Nat} {A : St} {v : AV} (h : ErrV lo A v) (hl : lo' ≤ lo) : ErrV lo' A v := h.imp id fun h => h.down hl
theorem ErrV.ext {lo : Nat} {A B : St} {v : AV} (h : ErrV lo A v) (x : A.Ext B) : ErrV lo B v := h.imp id fun h => h.ext x
theorem first_spec {D : Disp} {G0 : Env} {X : Calls'} {A : St} {s e1 e2 : AV} (hs : Sl A 1 s [e1, e2]) (h1 : e1 = .nilIface ∨ ∃ t p, e1 = .iface t (.ptr (some p))) (h2 : e2 = .nilIface ∨ ∃ t p, e2 = .iface t (.ptr (some p))) :
    Ev D G0 fnsL X 66 [s] A fun r B => A = B ∧ ((e1 = .nilIface ∧ r = e2) ∨ (e1 ≠ .nilIface ∧ r = e1)) := by
  refine Ev.fnK (fn := a66) rfl ⟨by simp [a66], by decide⟩ ?_
  unfold a66
  have hl := hs.lenV1
  simp at hl
  obtain ⟨p0, g1, g2⟩ := hs.at_one (j := 0) (v := e1) rfl .i64
  obtain ⟨p1, g3, g4⟩ := hs.at_one (j := 1) (v := e2) rfl .i64
  simp at g1 g3
  have ea0 : binOf .add (.int .i64 0) (.int .i64 1) = some (.int .i64 1) := rfl
  have ea1 : binOf .add (.int .i64 1) (.int .i64 1) = some (.int .i64 2) := rfl
  simp [hl]
  refine Wp.loopK (fun d E A' => A = A' ∧ Env.at E 5 = s ∧ Env.at E 6 = .int .i64 2 ∧ ((d = 2 ∧ Env.at E 7 = .int .i64 0) ∨ (d = 1 ∧ Env.at E 7 = .int .i64 1 ∧ e1 = .nilIface) ∨ (d = 0 ∧ Env.at E 7 = .int .i64 2 ∧ e1 = .nilIface ∧ e2 = .nilIface))) 2 ?_ ?_
  · exact ⟨rfl, by simp, by simp, .inl ⟨rfl, by simp⟩⟩
  rintro d E A' ⟨rfl, e5, e6, h⟩
  rcases h with ⟨rfl, e7⟩ | ⟨rfl, e7, rfl⟩ | ⟨rfl, e7, rfl, rfl⟩
  · rcases h1 with rfl | ⟨t, p, rfl⟩
    · simp [e5, e6, e7, g1, g2, eqV, eqOf, ea0, -bin_add]
    · simp [e5, e6, e7, g1, g2, eqV, eqOf]
  · rcases h2 with rfl | ⟨t, p, rfl⟩
    · simp [e5, e6, e7, g3, g4, eqV, eqOf, ea1, -bin_add]
    · simp [e5, e6, e7, g3, g4, eqV, eqOf]
  · simp [e6, e7]
theorem kindUp_word {w : List UInt8} {i : Nat} (h1 : 1 ≤ i) (h6 : i ≤ 6) : kindUp w (i + 1) = if wordK i = w then i else kindUp w i := by
  have hk := wordsK_at (k := (i : Int)) (by omega) (by omega)
  rw [Int.toNat_natCast] at hk
  show (if 0 < i ∧ wordsK[i]? = some w then i else kindUp w i) = _
  rw [hk]
  by_cases h : wordK (i : Int) = w
  · rw [if_pos h, if_pos ⟨by omega, by rw [h]⟩]
  · rw [if_neg h, if_neg]
    rintro ⟨_, he⟩
    cases he
    exact h rfl
/-- What has been read before the key is looked at. -/
def midW (L : List (List UInt8)) (o : OpD) (e1 e2 : AV) : Prop := (keyL o.key = true → e1 = .nilIface → e2 = .nilIface → oneW L = some o) ∧ (¬ (keyL o.key = true ∧ e1 = .nilIface ∧ e2 = .nilIface) → oneW L = none)
theorem number_spec' {A : St} {s : List UInt8} (hs : s.length ≤ 100000) : Ev D0 G0 fnsL XA 62 [.str s] A fun r B => A.Ext B ∧ ∃ v, r = .tuple [.int .i64 ((numT s).getD 0), v] ∧ ErrV A.next B v ∧ (v = .nilIface ↔ ∃ n, numT s = some n) :=
  (number_spec hs).mono fun r B ⟨h1, h2⟩ => ⟨h1, by
    cases hn : numT s with
    | none =>
      rw [hn] at h2
      obtain ⟨v, rfl, hv⟩ := h2
      obtain ⟨p, hp⟩ := hv.iface
      exact ⟨v, rfl, .inr hv, fun h => (by rw [hp] at h; cases h), fun ⟨n, h⟩ => (by cases h)⟩
    | some n =>
      rw [hn] at h2
      exact ⟨.nilIface, h2, .inl rfl, fun _ => ⟨n, rfl⟩, fun _ => rfl⟩⟩
/-- What stands when the key is looked at. -/
def MidI (A : St) (L : List (List UInt8)) (E : Env) (C : St) : Prop := ∃ (res slot : Nat) (o : OpD) (e1 e2 : AV), A.Ext C ∧ A.next ≤ res ∧ res < slot ∧ Env.at E 5 = .ptr (some (slot, 0, 0)) ∧ Env.at E 2 = .ptr (some (res, 0, 0)) ∧ Env.at E 7 = e1 ∧ Env.at E 8 = e2 ∧ Cl C slot o.cells ∧ Cl C res [.int .i64 0, .str [], .int .i64 0, .int .i64 0] ∧ ErrV (slot + 1) C e1 ∧ ErrV (slot + 1) C e2 ∧ midW L o e1 e2
theorem parse1_spec {A : St} {s : List UInt8} (hs : s.length ≤ 100000) : Ev D0 G0 fnsL XA 24 [.str s] A fun r B => A.Ext B ∧ match oneW (wordsS s) with
    | some o => r = .tuple [.agg o.cells, .nilIface]
    | none => ∃ (o : OpD) (v : AV), r = .tuple [.agg o.cells, v] ∧ BadE B v := by
  refine Ev.fnK (fn := a24) rfl ⟨by simp [a24], by decide⟩ ?_
  unfold a24
  dsimp only
  refine wp_cut6 (MidI A (wordsS s)) ?_ ?_
  · have x1 := ext_make A [AV.int .i64 0, .str [], .int .i64 0, .int .i64 0] 1
    have hb := Cl.make A [AV.int .i64 0, .str [], .int .i64 0, .int .i64 0]
    simp [Made.value, ops_callf, allKnown]
    generalize (A.make [AV.int .i64 0, .str [], .int .i64 0, .int .i64 0] 1).2 = A1 at *
    refine (words_spec hs).mono fun r B ⟨x2, hr, hri⟩ => ?_
    have hmem : ∀ w ∈ wordsS s, w.length ≤ 100000 := fun w hw => Nat.le_trans (wordsS_mem hw).2 hs
    have hlen := hr.lenV1
    rw [strsV_length] at hlen
    have hb1 := hb.ext x2
    generalize wordsS s = L at *
    have x3 := ext_make B [AV.int .i64 0, .str [], .int .i64 0, .int .i64 0] 1
    have hc := Cl.make B [AV.int .i64 0, .str [], .int .i64 0, .int .i64 0]
    obtain ⟨B2, k1, k2, k3⟩ := setA hc (l := [AV.int .i64 0, .str [], .int .i64 0, .int .i64 0]) rfl rfl
    simp at k1
    have hr1 := hr.ext x3
    have hb2 := hb1.ext x3
    have hne : A.next < B.next := hb1.lt
    have hrB : r.into B.next = false := by
      cases hi : r.into B.next with
      | false => rfl
      | true => exact absurd (Sl.into_lt hr hi) (Nat.lt_irrefl _)
    have hrB2 : ∀ f, r.into f = true → ¬ f = B.next := fun f hf he => by rw [he, hrB] at hf; cases hf
    obtain ⟨n, hLn⟩ : ∃ n, n = L.length := ⟨_, rfl⟩
    rw [← hLn] at hlen
    simp [fillA, splice, Made.value, k1]
    have hr2 := hr1.mod k2 hrB2
    have hx2 : A.Ext B2 := ⟨Nat.le_trans ((x1.trans x2).trans x3).next k2.next, fun f hf => by
      have h1 := ((x1.trans x2).trans x3)
      rw [k2.get f (Nat.lt_of_lt_of_le hf h1.next) (by omega), h1.get f hf]⟩
    have hb3 := hb2.mod k2 (by omega)
    refine Wp.loopK (fun d E A' => Mod (fun f => f = B.next) B2 A' ∧ Env.at E 4 = r ∧ Env.at E 5 = .ptr (some (B.next, 0, 0)) ∧ Env.at E 2 = .ptr (some (A.next, 0, 0)) ∧ ∃ i : Nat, Env.at E 6 = .int .i64 i ∧ i + d = 8 ∧ 1 ≤ i ∧ i ≤ 7 ∧ (L = [] → i = 1) ∧ Cl A' B.next [.int .i64 ((match L with | [] => 0 | w :: _ => kindUp w i : Nat)), .str [], .int .i64 0, .int .i64 0]) 7 ?_ ?_
    · refine ⟨Mod.refl _, by simp, by simp, by simp, 1, by simp, rfl, by omega, by omega, fun _ => rfl, ?_⟩
      cases L with
      | nil => exact k3
      | cons w l => exact k3
    rintro d E A' ⟨m, e4, e5, e2, i, e6, hid, hi1, hi7, hnil, hcl⟩
    have el : binOf .leq (.int .i64 (i : Int)) (.int .i64 6) = some (.bool (decide (i ≤ 6))) := leq_nat .i64 i 6
    have eg : binOf .gtr (.int .i64 (n : Int)) (.int .i64 0) = some (.bool (decide (0 < n))) := gtr_nat .i64 n 0
    by_cases hcond : i ≤ 6 ∧ 0 < n
    · obtain ⟨hi6, hn0⟩ := hcond
      obtain ⟨w, rest, rfl⟩ : ∃ w rest, L = w :: rest := List.exists_cons_of_length_pos (by omega)
      simp only at hcl
      have rm := hr2.mod m hrB2
      obtain ⟨q, q1, q2⟩ := Sl.str_at rm (j := 0) (t := w) rfl .i64
      simp at q1
      obtain ⟨i1, hi1', eai⟩ : ∃ y : Nat, y = i + 1 ∧ binOf .add (.int .i64 (i : Int)) (.int .i64 1) = some (.int .i64 (y : Int)) := ⟨_, rfl, add_one (i := i) (by omega)⟩
      have hku := kindUp_word (w := w) hi1 hi6
      rw [← hi1'] at hku
      simp [e4, e5, e2, e6, hlen, el, eg, hi6, hn0, pickV, -bin_leq, -bin_gtr]
      refine Wp.draws ?_
      simp [e4, e5, e2, e6, q1, q2, opsD_callf, allKnown]
      refine word_spec.mono fun r' C' ⟨hC', hr'⟩ => ?_
      subst hC' hr'
      by_cases hw : wordK (i : Int) = w
      · rw [if_pos hw] at hku
        obtain ⟨C2, f1, f2, f3⟩ := setC hcl 0 (by simp) (v := .int .i64 i) rfl rfl rfl
        simp at f3
        simp [e4, e5, e2, e6, q1, q2, hw, InAll, AV.beq, AV.addr, f1, eai, -bin_add]
        exact ⟨d - 1, by omega, m.trans f2, i1, rfl, by omega, by omega, by omega, by rw [hku]; exact f3⟩
      · rw [if_neg hw] at hku
        simp [e4, e5, e2, e6, q1, q2, hw, InAll, AV.beq, AV.addr, eai, -bin_add]
        exact ⟨d - 1, by omega, m, i1, rfl, by omega, by omega, by omega, by rw [hku]; exact hcl⟩
    · have dflt : ∀ {C : St} {cs : List AV}, Mod (fun f => f = B.next) B2 C → Cl C B.next cs → cs.length = 4 → cs.all AV.flat = true →
          ∃ C', loadV C 4 true (.ptr (some (B.next, 0, 0))) = some (.agg cs) ∧ loadV (C.make [.int .i64 6] 1).2 4 true (.ptr (some (B.next, 0, 0))) = some (.agg cs) ∧ storeV (C.make [.int .i64 6] 1).2 4 (.ptr (some (A.next, 0, 0))) (.agg cs) = some (.bot, C') ∧ loadV C' 4 true (.ptr (some (A.next, 0, 0))) = some (.agg cs) ∧ A.Ext C' ∧ BadE C' (.iface 102 (.ptr (some (C.next, 0, 0)))) := fun {C cs} m h h4 hf => by
        have xm := ext_make C [.int .i64 6] 1
        have c1 := cells_made C (cs := [.int .i64 6]) (n := 1) rfl
        have hlt : C.next < (C.make [.int .i64 6] 1).2.next := Nat.lt_succ_self _
        generalize (C.make [.int .i64 6] 1).2 = C1 at *
        have l1 := h.lda 0 4 (by omega)
        have l2 := (h.ext xm).lda 0 4 (by omega)
        rw [List.drop_zero, List.take_of_length_le (by omega)] at l1 l2
        obtain ⟨C', f1, f2, f3⟩ := setA ((hb3.mod m (by omega)).ext xm) (l := cs) h4 hf
        have l3 := f3.lda 0 4 (by omega)
        rw [List.drop_zero, List.take_of_length_le (by omega)] at l3
        simp at f1
        have hAC : A.next < C.next := Nat.lt_of_lt_of_le hb3.lt m.next
        refine ⟨C', l1, l2, f1, l3, ⟨Nat.le_trans hx2.next (Nat.le_trans m.next (Nat.le_trans xm.next f2.next)), fun f hf => ?_⟩, .inr ⟨C.next, rfl, Nat.lt_of_lt_of_le hlt f2.next, ?_⟩⟩
        · have hf2 := Nat.lt_of_lt_of_le hf hx2.next
          have hfC := Nat.lt_of_lt_of_le hf2 m.next
          rw [f2.get f (Nat.lt_of_lt_of_le hfC xm.next) (by omega), xm.get f hfC, m.get f hf2 (by omega), hx2.get f hf]
        · rw [St.cells_ext (f2.get C.next hlt (by omega))]
          exact c1
      by_cases hn0 : n = 0
      · have hL0 : L = [] := List.length_eq_zero_iff.1 (by omega)
        subst hL0
        have hi1' := hnil rfl
        subst hi1' hn0
        simp only at hcl
        have hone : oneW [] = none := rfl
        obtain ⟨C', d1, d2, d3, d4, d5, d6⟩ := dflt m hcl rfl rfl
        have l0 := hcl.ld 0 (v := .int .i64 0) rfl
        simp at hlen
        simp at d1 d2 d3 d4
        simp [e4, e5, e2, e6, hlen, l0, pickV, AV.addr]
        refine Wp.draws ?_
        simp [e5, e2, d1, opsD_callf, allKnown]
        refine (new_spec (by decide)).mono fun r' C1 ⟨hr', hC1⟩ => ?_
        subst hr' hC1
        simp [e5, e2, d1, d2, d3, d4, InAll, AV.beq, hone]
        exact ⟨rfl, d5, ⟨0, [], 0, 0⟩, _, ⟨rfl, rfl⟩, d6⟩
      · obtain ⟨w, rest, rfl⟩ : ∃ w rest, L = w :: rest := List.exists_cons_of_length_pos (by omega)
        have hi7' : i = 7 := by
          rcases Nat.lt_or_ge i 7 with h | h
          · exact absurd ⟨by omega, by omega⟩ hcond
          · omega
        subst hi7'
        simp only [kindUp_all] at hcl
        have rm := hr2.mod m hrB2
        have l0 := hcl.ld 0 (v := .int .i64 (kindW w)) rfl
        have hK := kindW_le w
        by_cases hgood : needK (kindW w) = n
        · have hKs : kindW w = 0 ∨ kindW w = 1 ∨ kindW w = 2 ∨ kindW w = 3 ∨ kindW w = 4 ∨ kindW w = 5 ∨ kindW w = 6 := by omega
          have hn2 : 2 ≤ n := by
            rcases hKs with hk | hk | hk | hk | hk | hk | hk <;> rw [hk] at hgood <;> simp [needK] at hgood <;> omega
          obtain ⟨key, r', rfl⟩ : ∃ key r', rest = key :: r' := List.exists_cons_of_length_pos (by simp only [List.length_cons] at hLn; omega)
          have hnr : n = r'.length + 2 := hLn
          have hone : oneW (w :: key :: r') = if keyL key = true then tailW w key r' else none := by
            rw [oneW_cons]
            by_cases h : keyL key = true
            · rw [if_pos ⟨by rw [hgood, hnr], h⟩, if_pos h]
            · rw [if_neg (fun hc => h hc.2), if_neg h]
          have hslot : B.next < A'.next := hcl.lt
          obtain ⟨u, u1, u2⟩ := Sl.str_at rm (j := 1) (t := key) rfl .i64
          simp at u1
          -- the key is laid into the slot
          have fin : ∀ {C : St} {cs : List AV}, Mod (fun f => f = B.next) B2 C → Cl C B.next cs → cs.length = 4 → ∃ C', storeV C 1 (.ptr (some (B.next, 0, 1))) (.str key) = some (.bot, C') ∧ Mod (fun f => f = B.next) B2 C' ∧ Mod (fun f => f = B.next) C C' ∧ Cl C' B.next (cs.set 1 (.str key)) ∧ A.Ext C' ∧ Cl C' A.next [AV.int .i64 0, .str [], .int .i64 0, .int .i64 0] ∧ loadV C 1 false (.ptr (some u)) = some (.str key) := fun {C cs} m' h h4 => by
            obtain ⟨C', f1, f2, f3⟩ := setC h 1 (by omega) (v := .str key) rfl rfl rfl
            have hmm := m'.trans f2
            refine ⟨C', f1, hmm, f2, f3, ⟨Nat.le_trans hx2.next hmm.next, fun f hf => by rw [hmm.get f (Nat.lt_of_lt_of_le hf hx2.next) (by omega), hx2.get f hf]⟩, hb3.mod hmm (by omega), ?_⟩
            obtain ⟨u', w1, w2⟩ := Sl.str_at (hr2.mod m' hrB2) (j := 1) (t := key) rfl .i64
            simp at w1
            rw [u1] at w1
            cases w1
            exact w2
          rcases hKs with hk | hk | hk | hk | hk | hk | hk
          · rw [hk] at hgood
            simp [needK] at hgood
            omega
          · have hk' : ((kindW w : Nat) : Int) = 1 := by rw [hk]; rfl
            rw [hk] at hgood
            simp [needK] at hgood
            subst hgood
            obtain rfl : r' = [] := List.length_eq_zero_iff.1 (by omega)
            rw [hk'] at l0 hcl
            obtain ⟨C', f1, f2, f2', f3, f4, f5, f6⟩ := fin m hcl rfl
            simp at f3 hlen
            simp [e4, e5, e2, e6, hlen, l0, pickV, AV.addr, u1, f6, f1]
            refine ⟨A.next, B.next, ⟨1, key, 0, 0⟩, .nilIface, .nilIface, f4, Nat.le_refl _, hne, by simp [e5], by simp [e2], by simp, by simp, f3, f5, .inl rfl, .inl rfl, fun h _ _ => ?_, fun h => ?_⟩
            · rw [hone, if_pos h]
              unfold tailW
              rw [hk']
            · rw [hone, if_neg (fun hc => h ⟨hc, rfl, rfl⟩)]
          · have hk' : ((kindW w : Nat) : Int) = 2 := by rw [hk]; rfl
            rw [hk] at hgood
            simp [needK] at hgood
            subst hgood
            obtain ⟨a, r2, rfl⟩ : ∃ a r2, r' = a :: r2 := List.exists_cons_of_length_pos (by omega)
            obtain rfl : r2 = [] := List.length_eq_zero_iff.1 (by simp only [List.length_cons] at hnr; omega)
            rw [hk'] at l0 hcl
            obtain ⟨t, t1, t2⟩ := Sl.str_at rm (j := 2) (t := a) rfl .i64
            simp at hlen t1
            simp [e4, e5, e2, e6, hlen, l0, pickV, AV.addr, t1, t2, ops_callf, allKnown]
            refine (number_spec (hmem a (by simp))).mono fun r3 C1 ⟨y1, hr3⟩ => ?_
            have hm1 := m.trans (Mod.of_ext (W := fun f => f = B.next) y1)
            cases hna : numT a with
            | none =>
              rw [hna] at hr3
              obtain ⟨v, rfl, hv⟩ := hr3
              obtain ⟨C2, z1, z2, z3⟩ := setC (hcl.ext y1) 2 (by simp) (v := .int .i64 0) rfl rfl rfl
              simp at z3
              obtain ⟨C', f1, f2, f2', f3, f4, f5, f6⟩ := fin (hm1.trans z2) z3 rfl
              simp at f3
              simp [e4, e5, e2, z1, AV.addr, u1, f6, f1]
              have hv' : BadIn (B.next + 1) C' v := ((hv.down (by omega)).mod z2 (by omega)).mod f2' (by omega)
              obtain ⟨pv, hpv⟩ := hv.iface
              refine ⟨A.next, B.next, ⟨2, key, 0, 0⟩, .nilIface, v, f4, Nat.le_refl _, hne, by simp [e5], by simp [e2], by simp, by simp, f3, f5, .inl rfl, .inr hv', fun _ _ h => ?_, fun h => ?_⟩
              · rw [hpv] at h; cases h
              · rw [hone]
                simp [tailW, hna]
            | some x =>
              rw [hna] at hr3
              simp only at hr3
              subst hr3
              obtain ⟨C2, z1, z2, z3⟩ := setC (hcl.ext y1) 2 (by simp) (v := .int .i64 x) rfl rfl rfl
              simp at z3
              obtain ⟨C', f1, f2, f2', f3, f4, f5, f6⟩ := fin (hm1.trans z2) z3 rfl
              simp at f3
              simp [e4, e5, e2, z1, AV.addr, u1, f6, f1]
              refine ⟨A.next, B.next, ⟨2, key, x, 0⟩, .nilIface, .nilIface, f4, Nat.le_refl _, hne, by simp [e5], by simp [e2], by simp, by simp, f3, f5, .inl rfl, .inl rfl, fun h _ _ => ?_, fun h => ?_⟩
              · rw [hone, if_pos h]
                simp [tailW, hna, hk']
              · rw [hone, if_neg (fun hc => h ⟨hc, rfl, rfl⟩)]
          · have hk' : ((kindW w : Nat) : Int) = 3 := by rw [hk]; rfl
            rw [hk] at hgood
            simp [needK] at hgood
            subst hgood
            obtain rfl : r' = [] := List.length_eq_zero_iff.1 (by omega)
            rw [hk'] at l0 hcl
            obtain ⟨C', f1, f2, f2', f3, f4, f5, f6⟩ := fin m hcl rfl
            simp at f3 hlen
            simp [e4, e5, e2, e6, hlen, l0, pickV, AV.addr, u1, f6, f1]
            refine ⟨A.next, B.next, ⟨3, key, 0, 0⟩, .nilIface, .nilIface, f4, Nat.le_refl _, hne, by simp [e5], by simp [e2], by simp, by simp, f3, f5, .inl rfl, .inl rfl, fun h _ _ => ?_, fun h => ?_⟩
            · rw [hone, if_pos h]
              unfold tailW
              rw [hk']
            · rw [hone, if_neg (fun hc => h ⟨hc, rfl, rfl⟩)]
          · have hk' : ((kindW w : Nat) : Int) = 4 := by rw [hk]; rfl
            rw [hk] at hgood
            simp [needK] at hgood
            subst hgood
            obtain ⟨a, r2, rfl⟩ : ∃ a r2, r' = a :: r2 := List.exists_cons_of_length_pos (by omega)
            obtain rfl : r2 = [] := List.length_eq_zero_iff.1 (by simp only [List.length_cons] at hnr; omega)
            rw [hk'] at l0 hcl
            obtain ⟨t, t1, t2⟩ := Sl.str_at rm (j := 2) (t := a) rfl .i64
            simp at hlen t1
            simp [e4, e5, e2, e6, hlen, l0, pickV, AV.addr, t1, t2, ops_callf, allKnown]
            refine (number_spec (hmem a (by simp))).mono fun r3 C1 ⟨y1, hr3⟩ => ?_
            have hm1 := m.trans (Mod.of_ext (W := fun f => f = B.next) y1)
            cases hna : numT a with
            | none =>
              rw [hna] at hr3
              obtain ⟨v, rfl, hv⟩ := hr3
              obtain ⟨C2, z1, z2, z3⟩ := setC (hcl.ext y1) 2 (by simp) (v := .int .i64 0) rfl rfl rfl
              simp at z3
              obtain ⟨C', f1, f2, f2', f3, f4, f5, f6⟩ := fin (hm1.trans z2) z3 rfl
              simp at f3
              simp [e4, e5, e2, z1, AV.addr, u1, f6, f1]
              have hv' : BadIn (B.next + 1) C' v := ((hv.down (by omega)).mod z2 (by omega)).mod f2' (by omega)
              obtain ⟨pv, hpv⟩ := hv.iface
              refine ⟨A.next, B.next, ⟨4, key, 0, 0⟩, .nilIface, v, f4, Nat.le_refl _, hne, by simp [e5], by simp [e2], by simp, by simp, f3, f5, .inl rfl, .inr hv', fun _ _ h => ?_, fun h => ?_⟩
              · rw [hpv] at h; cases h
              · rw [hone]
                simp [tailW, hna]
            | some x =>
              rw [hna] at hr3
              simp only at hr3
              subst hr3
              obtain ⟨C2, z1, z2, z3⟩ := setC (hcl.ext y1) 2 (by simp) (v := .int .i64 x) rfl rfl rfl
              simp at z3
              obtain ⟨C', f1, f2, f2', f3, f4, f5, f6⟩ := fin (hm1.trans z2) z3 rfl
              simp at f3
              simp [e4, e5, e2, z1, AV.addr, u1, f6, f1]
              refine ⟨A.next, B.next, ⟨4, key, x, 0⟩, .nilIface, .nilIface, f4, Nat.le_refl _, hne, by simp [e5], by simp [e2], by simp, by simp, f3, f5, .inl rfl, .inl rfl, fun h _ _ => ?_, fun h => ?_⟩
              · rw [hone, if_pos h]
                simp [tailW, hna, hk']
              · rw [hone, if_neg (fun hc => h ⟨hc, rfl, rfl⟩)]
          · have hk' : ((kindW w : Nat) : Int) = 5 := by rw [hk]; rfl
            rw [hk] at hgood
            simp [needK] at hgood
            subst hgood
            obtain ⟨a, r2, rfl⟩ : ∃ a r2, r' = a :: r2 := List.exists_cons_of_length_pos (by omega)
            obtain ⟨b, r3, rfl⟩ : ∃ b r3, r2 = b :: r3 := List.exists_cons_of_length_pos (by simp only [List.length_cons] at hnr; omega)
            obtain rfl : r3 = [] := List.length_eq_zero_iff.1 (by simp only [List.length_cons] at hnr; omega)
            rw [hk'] at l0 hcl
            obtain ⟨t, t1, t2⟩ := Sl.str_at rm (j := 3) (t := b) rfl .i64
            simp at hlen t1
            simp [e4, e5, e2, e6, hlen, l0, pickV, AV.addr, t1, t2, ops_callf, allKnown]
            refine (number_spec' (hmem b (by simp))).mono fun r3 C1 ⟨y1, vb, hr3, hvb1, hvb2⟩ => ?_
            subst hr3
            obtain ⟨xb, hxb⟩ : ∃ xb, xb = (numT b).getD 0 := ⟨_, rfl⟩
            rw [← hxb]
            have hm1 := m.trans (Mod.of_ext (W := fun f => f = B.next) y1)
            obtain ⟨C2, z1, z2, z3⟩ := setC (hcl.ext y1) 3 (by simp) (v := .int .i64 xb) rfl rfl rfl
            simp at z3
            have hm2 := hm1.trans z2
            obtain ⟨t', t3, t4⟩ := Sl.str_at (hr2.mod hm2 hrB2) (j := 2) (t := a) rfl .i64
            simp at t3
            simp [e4, e5, e2, z1, AV.addr, t3, t4, ops_callf, allKnown]
            refine (number_spec' (hmem a (by simp))).mono fun r3 C3 ⟨y2, va, hr3, hva1, hva2⟩ => ?_
            subst hr3
            obtain ⟨xa, hxa⟩ : ∃ xa, xa = (numT a).getD 0 := ⟨_, rfl⟩
            rw [← hxa]
            have hm3 := hm2.trans (Mod.of_ext (W := fun f => f = B.next) y2)
            obtain ⟨C4, z4, z5, z6⟩ := setC (z3.ext y2) 2 (by simp) (v := .int .i64 xa) rfl rfl rfl
            simp at z6
            obtain ⟨C', f1, f2, f2', f3, f4, f5, f6⟩ := fin (hm3.trans z5) z6 rfl
            simp at f3
            simp [e4, e5, e2, z4, AV.addr, u1, f6, f1]
            have hlo1 : B.next + 1 ≤ C2.next := Nat.lt_of_lt_of_le z3.lt (Nat.le_refl _)
            have hE0 : ErrV (B.next + 1) C1 vb := ErrV.down hvb1 hslot
            have hE1 : ErrV (B.next + 1) C' vb := ((((hE0.mod z2 (by omega)).ext y2).mod z5 (by omega)).mod f2' (by omega))
            have hE2 : ErrV (B.next + 1) C' va := ((hva1.down hlo1).mod z5 (by omega)).mod f2' (by omega)
            refine ⟨A.next, B.next, ⟨5, key, xa, xb⟩, vb, va, f4, Nat.le_refl _, hne, by simp [e5], by simp [e2], by simp, by simp, f3, f5, hE1, hE2, fun h h1 h2 => ?_, fun h => ?_⟩
            · obtain ⟨nb, hnb⟩ := hvb2.1 h1
              obtain ⟨na, hna⟩ := hva2.1 h2
              rw [hone, if_pos h]
              simp [tailW, hna, hnb, hk', hxa, hxb]
            · rw [hone]
              by_cases hkey : keyL key = true
              · rw [if_pos hkey]
                cases hna : numT a with
                | none => simp [tailW, hna]
                | some na =>
                  cases hnb : numT b with
                  | none => simp [tailW, hna, hnb]
                  | some nb => exact absurd ⟨hkey, hvb2.2 ⟨nb, hnb⟩, hva2.2 ⟨na, hna⟩⟩ h
              · rw [if_neg hkey]
          · have hk' : ((kindW w : Nat) : Int) = 6 := by rw [hk]; rfl
            rw [hk] at hgood
            simp [needK] at hgood
            subst hgood
            obtain ⟨a, r2, rfl⟩ : ∃ a r2, r' = a :: r2 := List.exists_cons_of_length_pos (by omega)
            obtain rfl : r2 = [] := List.length_eq_zero_iff.1 (by simp only [List.length_cons] at hnr; omega)
            rw [hk'] at l0 hcl
            obtain ⟨t, t1, t2⟩ := Sl.str_at rm (j := 2) (t := a) rfl .i64
            simp at hlen t1
            simp [e4, e5, e2, e6, hlen, l0, pickV, AV.addr, t1, t2, ops_callf, allKnown]
            refine (number_spec (hmem a (by simp))).mono fun r3 C1 ⟨y1, hr3⟩ => ?_
            have hm1 := m.trans (Mod.of_ext (W := fun f => f = B.next) y1)
            cases hna : numT a with
            | none =>
              rw [hna] at hr3
              obtain ⟨v, rfl, hv⟩ := hr3
              obtain ⟨C2, z1, z2, z3⟩ := setC (hcl.ext y1) 2 (by simp) (v := .int .i64 0) rfl rfl rfl
              simp at z3
              obtain ⟨C', f1, f2, f2', f3, f4, f5, f6⟩ := fin (hm1.trans z2) z3 rfl
              simp at f3
              simp [e4, e5, e2, z1, AV.addr, u1, f6, f1]
              have hv' : BadIn (B.next + 1) C' v := ((hv.down (by omega)).mod z2 (by omega)).mod f2' (by omega)
              obtain ⟨pv, hpv⟩ := hv.iface
              refine ⟨A.next, B.next, ⟨6, key, 0, 0⟩, .nilIface, v, f4, Nat.le_refl _, hne, by simp [e5], by simp [e2], by simp, by simp, f3, f5, .inl rfl, .inr hv', fun _ _ h => ?_, fun h => ?_⟩
              · rw [hpv] at h; cases h
              · rw [hone]
                simp [tailW, hna]
            | some x =>
              rw [hna] at hr3
              simp only at hr3
              subst hr3
              obtain ⟨C2, z1, z2, z3⟩ := setC (hcl.ext y1) 2 (by simp) (v := .int .i64 x) rfl rfl rfl
              simp at z3
              obtain ⟨C', f1, f2, f2', f3, f4, f5, f6⟩ := fin (hm1.trans z2) z3 rfl
              simp at f3
              simp [e4, e5, e2, z1, AV.addr, u1, f6, f1]
              refine ⟨A.next, B.next, ⟨6, key, x, 0⟩, .nilIface, .nilIface, f4, Nat.le_refl _, hne, by simp [e5], by simp [e2], by simp, by simp, f3, f5, .inl rfl, .inl rfl, fun h _ _ => ?_, fun h => ?_⟩
              · rw [hone, if_pos h]
                simp [tailW, hna, hk']
              · rw [hone, if_neg (fun hc => h ⟨hc, rfl, rfl⟩)]
        · have hone : oneW (w :: rest) = none := by
            cases rest with
            | nil => rfl
            | cons key r => rw [oneW_cons, if_neg (fun h => hgood (by rw [h.1, hLn]; rfl))]
          obtain ⟨C', d1, d2, d3, d4, d5, d6⟩ := dflt m hcl rfl rfl
          have hKs : kindW w = 0 ∨ kindW w = 1 ∨ kindW w = 2 ∨ kindW w = 3 ∨ kindW w = 4 ∨ kindW w = 5 ∨ kindW w = 6 := by omega
          rcases hKs with hk | hk | hk | hk | hk | hk | hk
          · have hk' : ((kindW w : Nat) : Int) = 0 := by rw [hk]; rfl
            rw [hk] at hgood
            rw [hk'] at l0 d1 d2 d3 d4
            have hnn : ¬ (n : Int) = 0 := by simp [needK] at hgood; omega
            simp [e4, e5, e2, e6, hlen, l0, pickV, AV.addr, hnn]
            refine Wp.draws ?_
            simp [e5, e2, d1, opsD_callf, allKnown]
            refine (new_spec (by decide)).mono fun r' C1 ⟨hr', hC1⟩ => ?_
            subst hr' hC1
            simp [e5, e2, d1, d2, d3, d4, InAll, AV.beq, AV.beqs, hone]
            exact ⟨d5, ⟨0, [], 0, 0⟩, _, ⟨rfl, rfl⟩, d6⟩
          · have hk' : ((kindW w : Nat) : Int) = 1 := by rw [hk]; rfl
            rw [hk] at hgood
            rw [hk'] at l0 d1 d2 d3 d4
            have hnn : ¬ (n : Int) = 2 := by simp [needK] at hgood; omega
            simp [e4, e5, e2, e6, hlen, l0, pickV, AV.addr, hnn]
            refine Wp.draws ?_
            simp [e5, e2, d1, opsD_callf, allKnown]
            refine (new_spec (by decide)).mono fun r' C1 ⟨hr', hC1⟩ => ?_
            subst hr' hC1
            simp [e5, e2, d1, d2, d3, d4, InAll, AV.beq, AV.beqs, hone]
            exact ⟨d5, ⟨1, [], 0, 0⟩, _, ⟨rfl, rfl⟩, d6⟩
          · have hk' : ((kindW w : Nat) : Int) = 2 := by rw [hk]; rfl
            rw [hk] at hgood
            rw [hk'] at l0 d1 d2 d3 d4
            have hnn : ¬ (n : Int) = 3 := by simp [needK] at hgood; omega
            simp [e4, e5, e2, e6, hlen, l0, pickV, AV.addr, hnn]
            refine Wp.draws ?_
            simp [e5, e2, d1, opsD_callf, allKnown]
            refine (new_spec (by decide)).mono fun r' C1 ⟨hr', hC1⟩ => ?_
            subst hr' hC1
            simp [e5, e2, d1, d2, d3, d4, InAll, AV.beq, AV.beqs, hone]
            exact ⟨d5, ⟨2, [], 0, 0⟩, _, ⟨rfl, rfl⟩, d6⟩
          · have hk' : ((kindW w : Nat) : Int) = 3 := by rw [hk]; rfl
            rw [hk] at hgood
            rw [hk'] at l0 d1 d2 d3 d4
            have hnn : ¬ (n : Int) = 2 := by simp [needK] at hgood; omega
            simp [e4, e5, e2, e6, hlen, l0, pickV, AV.addr, hnn]
            refine Wp.draws ?_
            simp [e5, e2, d1, opsD_callf, allKnown]
            refine (new_spec (by decide)).mono fun r' C1 ⟨hr', hC1⟩ => ?_
            subst hr' hC1
            simp [e5, e2, d1, d2, d3, d4, InAll, AV.beq, AV.beqs, hone]
            exact ⟨d5, ⟨3, [], 0, 0⟩, _, ⟨rfl, rfl⟩, d6⟩
          · have hk' : ((kindW w : Nat) : Int) = 4 := by rw [hk]; rfl
            rw [hk] at hgood
            rw [hk'] at l0 d1 d2 d3 d4
            have hnn : ¬ (n : Int) = 3 := by simp [needK] at hgood; omega
            simp [e4, e5, e2, e6, hlen, l0, pickV, AV.addr, hnn]
            refine Wp.draws ?_
            simp [e5, e2, d1, opsD_callf, allKnown]
            refine (new_spec (by decide)).mono fun r' C1 ⟨hr', hC1⟩ => ?_
            subst hr' hC1
            simp [e5, e2, d1, d2, d3, d4, InAll, AV.beq, AV.beqs, hone]
            exact ⟨d5, ⟨4, [], 0, 0⟩, _, ⟨rfl, rfl⟩, d6⟩
          · have hk' : ((kindW w : Nat) : Int) = 5 := by rw [hk]; rfl
            rw [hk] at hgood
            rw [hk'] at l0 d1 d2 d3 d4
            have hnn : ¬ (n : Int) = 4 := by simp [needK] at hgood; omega
            simp [e4, e5, e2, e6, hlen, l0, pickV, AV.addr, hnn]
            refine Wp.draws ?_
            simp [e5, e2, d1, opsD_callf, allKnown]
            refine (new_spec (by decide)).mono fun r' C1 ⟨hr', hC1⟩ => ?_
            subst hr' hC1
            simp [e5, e2, d1, d2, d3, d4, InAll, AV.beq, AV.beqs, hone]
            exact ⟨d5, ⟨5, [], 0, 0⟩, _, ⟨rfl, rfl⟩, d6⟩
          · have hk' : ((kindW w : Nat) : Int) = 6 := by rw [hk]; rfl
            rw [hk] at hgood
            rw [hk'] at l0 d1 d2 d3 d4
            have hnn : ¬ (n : Int) = 3 := by simp [needK] at hgood; omega
            simp [e4, e5, e2, e6, hlen, l0, pickV, AV.addr, hnn]
            refine Wp.draws ?_
            simp [e5, e2, d1, opsD_callf, allKnown]
            refine (new_spec (by decide)).mono fun r' C1 ⟨hr', hC1⟩ => ?_
            subst hr' hC1
            simp [e5, e2, d1, d2, d3, d4, InAll, AV.beq, AV.beqs, hone]
            exact ⟨d5, ⟨6, [], 0, 0⟩, _, ⟨rfl, rfl⟩, d6⟩
  · rintro E C ⟨res, slot, o, e1, e2, hx, hlo, hrs, f5, f2, f7, f8, hcl, hre, he1, he2, hmid⟩
    -- what is told, when the first of two errors is looked for
    have fin : ∀ {C1 : St} {v1 v2 : AV}, C.Ext C1 → ErrV 0 C1 v1 → ErrV 0 C1 v2 → Sl (C1.make [v1, v2] 1).2 1 (.slice (some (C1.next, 0, 0)) 0 2 2 0) [v1, v2] ∧ loadV C1 4 true (.ptr (some (slot, 0, 0))) = some (.agg o.cells) ∧ loadV (C1.make [v1, v2] 1).2 4 true (.ptr (some (slot, 0, 0))) = some (.agg o.cells) ∧
        ∃ C2, storeV (C1.make [v1, v2] 1).2 4 (.ptr (some (res, 0, 0))) (.agg o.cells) = some (.bot, C2) ∧ loadV C2 4 true (.ptr (some (res, 0, 0))) = some (.agg o.cells) ∧ A.Ext C2 ∧ (v1 = .nilIface ∨ (v1 ≠ .nilIface ∧ BadE C2 v1)) ∧ (v2 = .nilIface ∨ (v2 ≠ .nilIface ∧ BadE C2 v2)) := fun {C1 v1 v2} x h1 h2 => by
      have hs := (own_make_exact C1 (cs := [v1, v2]) (sz := 1) (n := 2) rfl (Nat.le_refl _) (len := 2) (Nat.le_refl _)).sl
      have xm := ext_make C1 [v1, v2] 1
      generalize (C1.make [v1, v2] 1).2 = C1' at *
      have l1 := (hcl.ext x).lda 0 4 (by simp [OpD.cells])
      have l2 := ((hcl.ext x).ext xm).lda 0 4 (by simp [OpD.cells])
      obtain ⟨C2, k1, k2, k3⟩ := setA ((hre.ext x).ext xm) (l := o.cells) rfl rfl
      have l3 := k3.lda 0 4 (by simp [OpD.cells])
      have hbad : ∀ {v : AV}, ErrV 0 C1 v → v = .nilIface ∨ (v ≠ .nilIface ∧ BadE C2 v) := fun {v} h => by
        rcases h with rfl | h
        · exact .inl rfl
        · obtain ⟨p, hp⟩ := h.iface
          refine .inr ⟨by rw [hp]; simp, .inl ?_⟩
          obtain ⟨f, g, s, q1, q2, q3, q4, q5, q6⟩ := h.ext xm
          have hfr : f ≠ res := fun e => by
            subst e
            have := ((hre.ext x).ext xm).lda 0 2 (by simp)
            unfold loadV at this
            dsimp only at this
            rw [q5] at this
            simp at this
          have hgr : g ≠ res := fun e => by
            subst e
            have := ((hre.ext x).ext xm).ld 0 (v := .int .i64 0) rfl
            unfold loadV at this
            dsimp only at this
            rw [q6] at this
            simp at this
          exact ⟨f, g, s, q1, q2, Nat.lt_of_lt_of_le q3 k2.next, Nat.lt_of_lt_of_le q4 k2.next, by rw [St.cells_ext (k2.get _ q3 hfr)]; exact q5, by rw [St.cells_ext (k2.get _ q4 hgr)]; exact q6⟩
      refine ⟨hs, l1, l2, C2, k1, l3, ?_, hbad h1, hbad h2⟩
      have hA1 := (hx.trans x).trans xm
      exact ⟨Nat.le_trans hA1.next k2.next, fun f hf => by rw [k2.get f (Nat.lt_of_lt_of_le hf hA1.next) (by omega), hA1.get f hf]⟩
    have l1 := hcl.ld 1 (v := .str o.key) rfl
    simp [f5, AV.addr, l1, ops_callf, allKnown]
    refine key_spec.mono fun r C1 ⟨xk, hr⟩ => ?_
    subst hr
    have l1' := (hcl.ext xk).ld 1 (v := .str o.key) rfl
    have g1 := (he1.down (Nat.zero_le _)).ext xk
    have g2 := (he2.down (Nat.zero_le _)).ext xk
    have b1 : ∀ {v : AV}, (v = .nilIface ∨ ∃ t p, v = .iface t (.ptr (some p))) → v.isBot = false ∧ v.cells = [v] ∧ AV.beq v v = true := fun {v} h => by
      rcases h with rfl | ⟨t, p, rfl⟩
      · exact ⟨rfl, rfl, rfl⟩
      · exact ⟨rfl, rfl, by simp [AV.beq]⟩
    obtain ⟨i2, c2, q2⟩ := b1 g2.val
    cases hkey : keyL o.key with
    | true =>
      obtain ⟨i1, c1, q1⟩ := b1 g1.val
      obtain ⟨hs, la, lb, C2, k1, k2, k3, w1, w2⟩ := fin xk g1 g2
      have hbe : AV.beq (.agg o.cells) (.agg o.cells) = true := by simp [OpD.cells, AV.beq, AV.beqs]
      simp
      refine Wp.draws ?_
      simp [f5, f2, f7, f8, la, fillA, i1, i2, c1, c2, splice, Made.value, opsD_callf, allKnown]
      refine (first_spec hs g1.val g2.val).mono fun r B' ⟨hB, hr⟩ => ?_
      subst hB
      have hkn : known r = some r := by
        rcases hr with ⟨_, rfl⟩ | ⟨_, rfl⟩
        · rcases g2.val with h | ⟨t, p, h⟩ <;> rw [h] <;> rfl
        · rcases g1.val with h | ⟨t, p, h⟩ <;> rw [h] <;> rfl
      simp [f5, f2, la, lb, k1, k2, InAll, hbe, hkn]
      refine ⟨k3, ?_⟩
      rcases hr with ⟨rfl, rfl⟩ | ⟨hn1, rfl⟩
      · rcases w2 with rfl | ⟨hn2, hb2⟩
        · rw [hmid.1 hkey rfl rfl]
          exact ⟨rfl, rfl⟩
        · rw [hmid.2 (fun h => hn2 h.2.2)]
          exact ⟨o, r, ⟨rfl, rfl⟩, hb2⟩
      · rcases w1 with rfl | ⟨_, hb1⟩
        · exact absurd rfl hn1
        · rw [hmid.2 (fun h => hn1 h.2.1)]
          exact ⟨o, r, ⟨rfl, rfl⟩, hb1⟩
    | false =>
      simp
      refine Wp.draws ?_
      simp [f5, AV.addr, l1', opsD_callf, allKnown]
      refine (new_spec (by decide)).mono fun r B' ⟨hr, hB⟩ => ?_
      subst hr hB
      simp [opsD_callf, allKnown]
      refine in_spec.mono fun r B' ⟨hr, hB⟩ => ?_
      subst hr hB
      obtain ⟨xb, hbad⟩ := bad_made C1 o.key
      obtain ⟨hs, la, lb, C2, k1, k2, k3, w1, w2⟩ := fin (xk.trans xb) (.inr (hbad.down (Nat.zero_le _))) (g2.ext xb)
      have hbe : AV.beq (.agg o.cells) (.agg o.cells) = true := by simp [OpD.cells, AV.beq, AV.beqs]
      have l1'' := ((hcl.ext xk).ext (ext_make C1 [.int .i64 6] 1)).ld 1 (v := .str o.key) rfl
      simp [f5, AV.addr, l1', l1'', InAll, AV.beq]
      refine Wp.draws ?_
      have hib : ∀ (t : TypeId) (v : AV), (AV.iface t v).isBot = false ∧ (AV.iface t v).cells = [.iface t v] := fun _ _ => ⟨rfl, rfl⟩
      simp [f5, f2, f8, la, fillA, i2, c2, hib, splice, Made.value, opsD_callf, allKnown]
      refine (first_spec hs (.inr ⟨_, _, rfl⟩) g2.val).mono fun r B' ⟨hB, hr⟩ => ?_
      subst hB
      rcases hr with ⟨h, _⟩ | ⟨hn1, rfl⟩
      · cases h
      simp [f5, f2, la, lb, k1, k2, InAll, hbe]
      refine ⟨k3, ?_⟩
      rw [hmid.2 (fun h => by rw [hkey] at h; cases h.1)]
      rcases w1 with h | ⟨_, hb1⟩
      · cases h
      · exact ⟨o, _, ⟨rfl, rfl⟩, hb1⟩
end Go.Proofs.YtejlhgcheaimjaaGreatDoor
