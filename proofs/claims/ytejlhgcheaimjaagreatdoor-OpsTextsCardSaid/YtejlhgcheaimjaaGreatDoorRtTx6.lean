/- Texts that are numbers. -/
import Derived.Test.YtejlhgcheaimjaaGreatDoorRtTx3
namespace Go.Proofs.YtejlhgcheaimjaaGreatDoor
open Go.AM
set_option maxRecDepth 100000
set_option linter.unusedSimpArgs false
set_option linter.unusedVariables false
/-! ### What ParseInt tells -/
def valF (acc : Nat) (l : List UInt8) : Nat := l.foldl (fun n c => n * 10 + (c.toNat - 48)) acc
theorem valF_le : ∀ (l : List UInt8) (acc : Nat), acc ≤ valF acc l
  | [], _ => Nat.le_refl _
  | c :: l, acc => by
    have := valF_le l (acc * 10 + (c.toNat - 48))
    show acc ≤ valF (acc * 10 + (c.toNat - 48)) l
    omega
theorem parseU_dig : ∀ (l : List UInt8) (acc : Nat), (∀ c ∈ l, digB c = true) → valF acc l ≤ 18446744073709551615 → Lib.parseUintM 18446744073709551615 acc l = .ok (valF acc l)
  | [], _, _, _ => rfl
  | c :: l, acc, h, hv => by
    have hc := h c List.mem_cons_self
    unfold digB at hc
    simp only [Bool.and_eq_true, decide_eq_true_eq] at hc
    have hle := valF_le l (acc * 10 + (c.toNat - 48))
    have hv' : valF (acc * 10 + (c.toNat - 48)) l ≤ 18446744073709551615 := hv
    unfold Lib.parseUintM
    rw [if_pos hc, if_neg (by omega), if_neg (by omega), parseU_dig l _ (fun x hx => h x (List.mem_cons_of_mem _ hx)) hv']
    rfl
theorem parseU_dec {u : Nat} (h : u ≤ 18446744073709551615) : Lib.parseUintB 64 (Lib.decDigits u) = .ok u := by
  unfold Lib.parseUintB
  rw [if_neg (dec_ne u)]
  have e : valF 0 (Lib.decDigits u) = u := dec_val u
  have := parseU_dig (Lib.decDigits u) 0 (dec_dig u) (by rw [e]; exact h)
  rw [e] at this
  exact this
theorem parse_itoa {n : Int} (hn : i64ok n) : Lib.parseIntB 64 (Lib.itoa n) = .ok n := by
  unfold i64ok at hn
  by_cases h : n < 0
  · rw [itoa_neg h]
    unfold Lib.parseIntB
    simp only [show (45 : UInt8).toNat = 45 from rfl]
    rw [if_pos (.inr trivial), parseU_dec (by omega)]
    simp only
    rw [if_neg (by simp), if_neg (by omega)]
    simp
    omega
  · rw [itoa_pos (by omega)]
    have hd := parseU_dec (u := n.toNat) (by omega)
    have hne := dec_ne n.toNat
    have hdg := dec_dig n.toNat
    cases hl : Lib.decDigits n.toNat with
    | nil => exact absurd hl hne
    | cons c r =>
      rw [hl] at hd hdg
      have hc := hdg c List.mem_cons_self
      unfold digB at hc
      simp only [Bool.and_eq_true, decide_eq_true_eq] at hc
      unfold Lib.parseIntB
      simp only
      rw [if_neg (by omega), hd]
      simp only
      rw [if_neg (by omega), if_neg (by omega), if_neg (by omega)]
      congr 1
      omega
theorem parseV_itoa {n : Int} (hn : i64ok n) : parseV (Lib.itoa n) = (some n, n) := by
  unfold parseV
  rw [parse_itoa hn]
theorem parseV_ok {s : List UInt8} : i64ok (parseV s).2 := by
  unfold parseV i64ok
  cases hp : Lib.parseIntB 64 s with
  | ok v =>
    simp only
    unfold Lib.parseIntB at hp
    split at hp
    · cases hp
    · simp only at hp
      split at hp
      · cases hp
      · cases hp
      · rename_i u hu
        split at hp
        · cases hp
        · split at hp
          · cases hp
          · rename_i h1 h2
            cases hp
            split <;> omega
  | range =>
    simp only [Lib.intSat]
    split <;> decide
  | _ => simp
/-- An error in a text, that lies beyond a number. -/
def BadIn (lo : Nat) (B : St) (v : AV) : Prop := ∃ f g s, v = .iface 129 (.ptr (some (f, 0, 0))) ∧ (lo ≤ f ∧ lo ≤ g) ∧ f < B.next ∧ g < B.next ∧ B.cells (f, 0, 0) 2 = some [.iface 102 (.ptr (some (g, 0, 0))), .str s] ∧ B.cells (g, 0, 0) 1 = some [.int .i64 6]
theorem BadIn.mod {W : Nat → Prop} {lo : Nat} {A B : St} {v : AV} (h : BadIn lo A v) (m : Mod W A B) (hw : ∀ f, lo ≤ f → ¬ W f) : BadIn lo B v := by
  obtain ⟨f, g, s, h1, h0, h2, h3, h4, h5⟩ := h
  exact ⟨f, g, s, h1, h0, Nat.lt_of_lt_of_le h2 m.next, Nat.lt_of_lt_of_le h3 m.next, by rw [St.cells_ext (m.get _ h2 (hw _ h0.1))]; exact h4, by rw [St.cells_ext (m.get _ h3 (hw _ h0.2))]; exact h5⟩
theorem BadIn.ext {lo : Nat} {A B : St} {v : AV} (h : BadIn lo A v) (x : A.Ext B) : BadIn lo B v := h.mod (Mod.of_ext (W := fun _ => False) x) fun _ _ h => h
theorem BadIn.down {lo lo' : Nat} {A : St} {v : AV} (h : BadIn lo A v) (hl : lo' ≤ lo) : BadIn lo' A v := by
  obtain ⟨f, g, s, h1, h0, h2⟩ := h
  exact ⟨f, g, s, h1, ⟨Nat.le_trans hl h0.1, Nat.le_trans hl h0.2⟩, h2⟩
theorem BadIn.iface {lo : Nat} {B : St} {v : AV} (h : BadIn lo B v) : ∃ p, v = .iface 129 (.ptr (some p)) := by
  obtain ⟨f, g, s, h1, _⟩ := h
  exact ⟨_, h1⟩
theorem bad_made (A : St) (s : List UInt8) : A.Ext ((A.make [.int .i64 6] 1).2.make [.iface 102 (.ptr (some (A.next, 0, 0))), .str s] 1).2 ∧ BadIn A.next ((A.make [.int .i64 6] 1).2.make [.iface 102 (.ptr (some (A.next, 0, 0))), .str s] 1).2 (.iface 129 (.ptr (some ((A.make [.int .i64 6] 1).2.next, 0, 0)))) := by
  have x1 := ext_make A [.int .i64 6] 1
  have c1 := cells_made A (cs := [.int .i64 6]) (n := 1) rfl
  have hlt : A.next < (A.make [.int .i64 6] 1).2.next := Nat.lt_succ_self _
  generalize (A.make [.int .i64 6] 1).2 = A1 at *
  have x2 := ext_make A1 [.iface 102 (.ptr (some (A.next, 0, 0))), .str s] 1
  have c2 := cells_made A1 (cs := [.iface 102 (.ptr (some (A.next, 0, 0))), .str s]) (n := 2) rfl
  exact ⟨x1.trans x2, _, _, s, rfl, ⟨Nat.le_of_lt hlt, Nat.le_refl _⟩, Nat.lt_succ_self _, Nat.lt_of_lt_of_le hlt x2.next, c2, cells_kept x2 (p := (A.next, 0, 0)) hlt c1⟩
theorem parseInt_spec {A : St} {s : List UInt8} (hs : s.length ≤ 100000) : Ev D0 G0 fnsL XA 89 [.str s, .int .i64 10, .int .i64 64] A fun r B => A.Ext B ∧ ((parseV s = (some (parseV s).2, (parseV s).2) ∧ r = .tuple [.int .i64 (parseV s).2, .nilIface]) ∨ ((parseV s).1 = none ∧ ∃ p, r = .tuple [.int .i64 (parseV s).2, .iface 189 (.ptr (some p))])) := by
  cases hp : parseV s with
  | mk o v =>
    cases o with
    | some w =>
      have hwv : w = v := by
        unfold parseV at hp
        split at hp
        · cases hp; rfl
        · cases hp
        · cases hp
      subst hwv
      refine Ev.ext (r := .tuple [.int .i64 w, .nilIface]) (B := A) rfl (xa_row rfl rfl ?_) ⟨St.Ext.refl A, .inl ⟨rfl, rfl⟩⟩
      show parseX 189 [.str s, .int .i64 10, .int .i64 64] A = _
      unfold parseX
      dsimp only
      rw [if_pos ⟨rfl, rfl, by omega⟩, hp]
    | none =>
      refine Ev.ext (r := .tuple [.int .i64 v, .iface 189 (.ptr (some (A.next, 0, 0)))]) (B := A.ghost) rfl (xa_row rfl rfl ?_) ⟨ext_ghost A, .inr ⟨rfl, _, rfl⟩⟩
      show parseX 189 [.str s, .int .i64 10, .int .i64 64] A = _
      unfold parseX
      dsimp only
      rw [if_pos ⟨rfl, rfl, by omega⟩, hp]
theorem number_spec {A : St} {s : List UInt8} (hs : s.length ≤ 100000) : Ev D0 G0 fnsL XA 62 [.str s] A fun r B => A.Ext B ∧ match numT s with
    | some n => r = .tuple [.int .i64 n, .nilIface]
    | none => ∃ v, r = .tuple [.int .i64 0, v] ∧ BadIn A.next B v := by
  refine Ev.fnK (fn := a62) rfl ⟨by simp [a62], by decide⟩ ?_
  unfold a62
  simp [ops_callf, allKnown]
  refine (parseInt_spec hs).mono fun r B ⟨x1, hr⟩ => ?_
  have hok := parseV_ok (s := s)
  rcases hr with ⟨hp, hr⟩ | ⟨hp, p, hr⟩
  · subst hr
    generalize hv : (parseV s).2 = v at *
    simp [eqV, eqOf, pickV, ops_callf, allKnown]
    refine (fmt_spec hok).mono fun r B' ⟨hB, hr⟩ => ?_
    subst hB hr
    by_cases hs2 : Lib.itoa v = s
    · have hn : numT s = some v := by rw [← hs2]; exact numT_itoa hok
      simp [hs2, hn]
      exact x1
    · have hn : numT s = none := by
        cases h : numT s with
        | none => rfl
        | some m =>
          obtain ⟨hm, he⟩ := numT_some h
          rw [← he, parseV_itoa hm] at hp
          simp at hp
          rw [hp] at he
          exact absurd he hs2
      simp [hs2, hn, ops_callf, allKnown]
      refine (new_spec (by decide)).mono fun r C ⟨hr, hC⟩ => ?_
      subst hr hC
      simp [ops_callf, allKnown]
      refine in_spec.mono fun r C ⟨hr, hC⟩ => ?_
      subst hr hC
      simp
      obtain ⟨y1, y2⟩ := bad_made B s
      exact ⟨x1.trans y1, y2.down x1.next⟩
  · subst hr
    have hn : numT s = none := by
      cases h : numT s with
      | none => rfl
      | some m =>
        obtain ⟨hm, he⟩ := numT_some h
        rw [← he, parseV_itoa hm] at hp
        cases hp
    simp [eqV, eqOf, pickV, hn, ops_callf, allKnown]
    refine (new_spec (by decide)).mono fun r C ⟨hr, hC⟩ => ?_
    subst hr hC
    simp [ops_callf, allKnown]
    refine in_spec.mono fun r C ⟨hr, hC⟩ => ?_
    subst hr hC
    simp
    obtain ⟨y1, y2⟩ := bad_made B s
    exact ⟨x1.trans y1, y2.down x1.next⟩
end Go.Proofs.YtejlhgcheaimjaaGreatDoor
/- The document reads a number. -/
namespace Go.Proofs.YtejlhgcheaimjaaGreatDoor
open Go.AM
set_option maxRecDepth 100000
set_option linter.unusedSimpArgs false
set_option linter.unusedVariables false
/-- How many bytes stand ahead of the digits. -/
def negK (s : List UInt8) : Nat := if s.head? = some 45 then 1 else 0
/-- The number of the digits that were read. -/
def preV (s : List UInt8) (i : Nat) : Nat := valD ((s.drop (negK s)).take (i - negK s))
theorem itoa_parts {n : Int} (hn : i64ok n) : (Lib.itoa n).drop (negK (Lib.itoa n)) = Lib.decDigits n.natAbs ∧ (negK (Lib.itoa n) = 1 ↔ n < 0) := by
  by_cases h : n < 0
  · rw [itoa_neg h]
    simp [negK, h]
  · rw [itoa_pos (by omega)]
    have hh : (Lib.decDigits n.toNat).head? ≠ some 45 := by
      cases hl : Lib.decDigits n.toNat with
      | nil => simp
      | cons c r =>
        intro he
        simp at he
        subst he
        exact dec_no45 _ _ hl
    unfold negK
    rw [if_neg hh]
    simp [h]
    congr 1
    omega
theorem valD_take_le (l : List UInt8) (i : Nat) : valD (l.take i) ≤ valD l := by
  conv => rhs; rw [← List.take_append_drop i l]
  have : ∀ (a b : List UInt8), valD a ≤ valD (a ++ b) := fun a b => by
    unfold valD
    rw [List.foldl_append]
    exact valF_le b _
  exact this _ _
theorem preV_succ {s : List UInt8} {i : Nat} {b : UInt8} (hb : s[i]? = some b) (hi : negK s ≤ i) : preV s (i + 1) = preV s i * 10 + (b.toNat - 48) := by
  unfold preV
  rw [show i + 1 - negK s = (i - negK s) + 1 by omega, List.take_add_one]
  have : (s.drop (negK s))[i - negK s]? = some b := by rw [List.getElem?_drop, show negK s + (i - negK s) = i by omega]; exact hb
  rw [this]
  exact valD_snoc _ _
theorem preV_first {s : List UInt8} (h : negK s = 1) : preV s 1 = 0 ∧ preV s 0 = 0 := by
  unfold preV
  rw [h]
  exact ⟨rfl, rfl⟩
theorem wrap_ok (x : Int) : i64ok (IntKind.i64.wrap x) := by
  rw [IntKind.wrap_i64]
  unfold i64ok
  omega
variable {D : Disp} {G0 : Env} {X : Calls'}
theorem rnumber_spec {A : St} {s : List UInt8} (hs : s.length ≤ 100000) : Ev D G0 fnsL X 68 [.str s] A fun r B => A = B ∧ match numT s with
    | some n => r = .tuple [.int .i64 n, .bool true]
    | none => r = .tuple [.int .i64 0, .bool false] := by
  refine Ev.fnK (fn := a68) rfl ⟨by simp [a68], by decide⟩ ?_
  unfold a68
  have none_of : (∀ n, i64ok n → Lib.itoa n = s → False) → numT s = none := fun h => by
    cases hn : numT s with
    | none => rfl
    | some m => exact (h m (numT_some hn).1 (numT_some hn).2).elim
  by_cases h0 : s = []
  · have hn : numT s = none := none_of fun n hn he => itoa_ne n (he.trans h0)
    subst h0
    simp [hn, pickV]
  by_cases h20 : 20 < s.length
  · have hn : numT s = none := none_of fun n hn he => by have := itoa_len hn; rw [he] at this; omega
    have h20' : (20 : Int) < s.length := by omega
    have hne : ¬ s.length = 0 := by omega
    simp [hn, h0, h20, h20', hne, pickV]
  by_cases h45 : s = [45]
  · have hn : numT s = none := none_of fun n hn he => by
      rw [h45] at he
      by_cases h : n < 0
      · rw [itoa_neg h] at he
        exact dec_ne _ (List.cons.inj he).2
      · rw [itoa_pos (by omega)] at he
        exact dec_no45 _ _ he
    subst h45
    simp [hn, pickV]
  have h20' : ¬ (20 : Int) < s.length := by omega
  have hne : ¬ s.length = 0 := fun h => h0 (List.length_eq_zero_iff.1 h)
  simp [h0, h45, h20, h20', hne, pickV]
  have hk : negK s ≤ 1 := by unfold negK; split <;> omega
  obtain ⟨c0, hc0⟩ : ∃ c, s[0]? = some c := ⟨s[0]'(by omega), List.getElem?_eq_getElem (by omega)⟩
  have hk0 : negK s = 1 ↔ c0 = 45 := by
    unfold negK
    rw [List.head?_eq_getElem?, hc0]
    by_cases h : c0 = 45 <;> simp [h]
  have hb0 : byteAtV (.str s) (.int .i64 0) = some (.int .u8 c0.toNat) := by
    unfold byteAtV index?
    simp only
    rw [if_pos ⟨by omega, by omega⟩]
    simp [hc0]
  have e45 : binOf .eql (.int .u8 (c0.toNat : Int)) (.int .u8 45) = some (.bool (decide (c0 = 45))) := by
    rw [bin_eql]
    congr 2
    simp only [decide_eq_decide]
    constructor
    · intro h
      exact UInt8.toNat_inj.1 (by have : (45 : UInt8).toNat = 45 := rfl
                                  omega)
    · rintro rfl; rfl
  refine Wp.loopK (fun d E A' => A = A' ∧ Env.at E 0 = .str s ∧ ∃ (i : Nat) (x : Int), Env.at E 5 = .int .i64 i ∧ Env.at E 4 = .int .i64 x ∧ i + d = s.length ∧ i64ok x ∧ ∀ n, i64ok n → Lib.itoa n = s → x = -(preV s i : Int)) s.length ?_ ?_
  · exact ⟨rfl, by simp, 0, 0, by simp, by simp, by simp, by unfold i64ok; decide, fun n hn he => by simp [preV, valD]⟩
  rintro d E B ⟨rfl, e0, i, x, e5, e4, hid, hx, hval⟩
  simp [e0, e5, lss_nat, -bin_lss]
  refine contC_of (fun hc => ?_) (fun hc => ?_)
  · simp at hc
    obtain ⟨b, hb⟩ : ∃ b, s[i]? = some b := ⟨s[i], List.getElem?_eq_getElem hc⟩
    have hbt : byteAtV (.str s) (.int .i64 i) = some (.int .u8 b.toNat) := by
      unfold byteAtV index?
      simp only
      rw [if_pos ⟨by omega, by omega⟩]
      simp [hb]
    obtain ⟨i1, hi1, eai⟩ : ∃ y : Nat, y = i + 1 ∧ binOf .add (.int .i64 (i : Int)) (.int .i64 1) = some (.int .i64 (y : Int)) := ⟨_, rfl, add_one (i := i) (by omega)⟩
    by_cases hfirst : i = 0 ∧ c0 = 45
    · obtain ⟨rfl, hc45⟩ := hfirst
      have ⟨p1, p0⟩ := preV_first (hk0.2 hc45)
      have ea0 : binOf .add (.int .i64 0) (.int .i64 1) = some (.int .i64 1) := rfl
      simp [e0, e4, e5, hb0, e45, hc45, pickV, ea0, -bin_add]
      exact ⟨d - 1, by omega, 1, rfl, by omega, hx, fun n hn he => by rw [hval n hn he, p0, p1]⟩
    · have hki : negK s ≤ i := by
        rcases Nat.eq_zero_or_pos i with h | h
        · have : ¬ c0 = 45 := fun hc => hfirst ⟨h, hc⟩
          have : ¬ negK s = 1 := fun hk => this (hk0.1 hk)
          omega
        · omega
      have hdig : ∀ n, i64ok n → Lib.itoa n = s → digB b = true := fun n hn he => by
        obtain ⟨h1, _⟩ := itoa_parts hn
        rw [he] at h1
        have hm : b ∈ s.drop (negK s) := by
          refine List.mem_iff_getElem?.2 ⟨i - negK s, ?_⟩
          rw [List.getElem?_drop, show negK s + (i - negK s) = i by omega]
          exact hb
        rw [h1] at hm
        exact dec_dig _ b hm
      have hnx := preV_succ hb hki
      have el : binOf .lss (.int .u8 (b.toNat : Int)) (.int .u8 48) = some (.bool (decide (b.toNat < 48))) := lss_nat .u8 b.toNat 48
      have eg : binOf .gtr (.int .u8 (b.toNat : Int)) (.int .u8 57) = some (.bool (decide (57 < b.toNat))) := gtr_nat .u8 b.toNat 57
      have hq : (decide (i = 0) && decide (c0 = 45)) = false := by
        simp only [Bool.and_eq_false_iff, decide_eq_false_iff_not]
        by_cases h : i = 0
        · exact .inr fun hc => hfirst ⟨h, hc⟩
        · exact .inl h
      by_cases hd : digB b = true
      · unfold digB at hd
        simp only [Bool.and_eq_true, decide_eq_true_eq] at hd
        obtain ⟨y, hy, ey⟩ : ∃ y : Nat, y = b.toNat - 48 ∧ binOf .sub (.int .u8 (b.toNat : Int)) (.int .u8 48) = some (.int .u8 (y : Int)) := ⟨_, rfl, by
          rw [bin_sub, show (b.toNat : Int) - 48 = ((b.toNat - 48 : Nat) : Int) by omega, wrap_un_small rfl (by show b.toNat - 48 < 256; have := b.toNat_lt; omega)]⟩
        have ecv : convV .i64 (.int .u8 (y : Int)) = some (.int .i64 (y : Int)) := by rw [convV_int, wrap_i64_nat (by have := b.toNat_lt; omega)]
        have hx' := wrap_ok (IntKind.i64.wrap (x * 10) - y)
        have hval' : ∀ n, i64ok n → Lib.itoa n = s → IntKind.i64.wrap (IntKind.i64.wrap (x * 10) - y) = -(preV s i1 : Int) := fun n hn he => by
          have hv := hval n hn he
          obtain ⟨h1, _⟩ := itoa_parts hn
          rw [he] at h1
          have hle : preV s i1 ≤ n.natAbs := by
            have := valD_take_le (s.drop (negK s)) (i1 - negK s)
            rw [h1] at this
            unfold preV
            rw [h1]
            rw [dec_val] at this
            exact this
          rw [hi1, hnx] at hle
          unfold i64ok at hn
          have hw : IntKind.i64.wrap (-(preV s i : Int) * 10) = -(preV s i : Int) * 10 := wrap_i64 (by omega) (by omega)
          rw [hv, hw, wrap_i64 (by omega) (by omega), hi1, hnx]
          omega
        have h48 : ¬ b.toNat < 48 := by omega
        have h57 : ¬ 57 < b.toNat := by omega
        by_cases hi0 : i = 0
        · subst hi0
          have hc0' : ¬ c0 = 45 := fun hc => hfirst ⟨rfl, hc⟩
          have hbc : b = c0 := by rw [hb] at hc0; cases hc0; rfl
          subst hbc
          have ea0 : binOf .add (.int .i64 0) (.int .i64 1) = some (.int .i64 1) := rfl
          simp [e0, e4, e5, hb0, e45, hc0', pickV, el, eg, h48, h57, ey, ecv, ea0, -bin_add, -bin_lss, -bin_gtr, -convV_int]
          exact ⟨d - 1, by omega, 1, rfl, by omega, hx', fun n hn he => by have := hval' n hn he; rw [hi1] at this; exact this⟩
        · simp [e0, e4, e5, hi0, hbt, pickV, el, eg, h48, h57, ey, ecv, eai, -bin_add, -bin_lss, -bin_gtr, -convV_int]
          exact ⟨d - 1, by omega, i1, rfl, by omega, hx', hval'⟩
      · have hn : numT s = none := none_of fun n hn he => hd (hdig n hn he)
        have hcase : b.toNat < 48 ∨ (¬ b.toNat < 48 ∧ 57 < b.toNat) := by
          unfold digB at hd
          simp only [Bool.and_eq_true, decide_eq_true_eq] at hd
          omega
        by_cases hi0 : i = 0
        · subst hi0
          have hc0' : ¬ c0 = 45 := fun hc => hfirst ⟨rfl, hc⟩
          have hbc : b = c0 := by rw [hb] at hc0; cases hc0; rfl
          subst hbc
          rcases hcase with h | ⟨h, h'⟩
          · simp [e0, e4, e5, hb0, e45, hc0', pickV, el, eg, h, hn, -bin_lss, -bin_gtr]
          · simp [e0, e4, e5, hb0, e45, hc0', pickV, el, eg, h, h', hn, -bin_lss, -bin_gtr]
        · rcases hcase with h | ⟨h, h'⟩
          · simp [e0, e4, e5, hi0, hbt, pickV, el, eg, h, hn, -bin_lss, -bin_gtr]
          · simp [e0, e4, e5, hi0, hbt, pickV, el, eg, h, h', hn, -bin_lss, -bin_gtr]
  · simp at hc
    have hil : i = s.length := by omega
    subst hil
    have en45 : binOf .neq (.int .u8 (c0.toNat : Int)) (.int .u8 45) = some (.bool (decide (c0 ≠ 45))) := by
      rw [bin_neq]
      congr 2
      simp only [decide_eq_decide]
      constructor
      · intro h hc
        exact h (by rw [hc]; rfl)
      · intro h hc
        exact h (UInt8.toNat_inj.1 (by have : (45 : UInt8).toNat = 45 := rfl
                                       omega))
    -- the number that is compared
    have fin : ∀ y : Int, i64ok y → (∀ n, i64ok n → Lib.itoa n = s → y = n) → (Lib.itoa y = s ∧ numT s = some y) ∨ (¬ Lib.itoa y = s ∧ numT s = none) := fun y hy h => by
      by_cases he : Lib.itoa y = s
      · exact .inl ⟨he, by rw [← he]; exact numT_itoa hy⟩
      · refine .inr ⟨he, none_of fun n hn hne => ?_⟩
        have := h n hn hne
        subst this
        exact he hne
    by_cases hc45 : c0 = 45
    · have hfin := fin x hx fun n hn he => by
        obtain ⟨p1, p2⟩ := itoa_parts hn
        have hv := hval n hn he
        rw [he] at p1 p2
        have hneg := p2.1 (hk0.2 hc45)
        unfold preV at hv
        rw [p1, List.take_of_length_le (by rw [← p1, List.length_drop]; exact Nat.le_refl _), dec_val] at hv
        omega
      simp [e0, e4, hb0, hc45, ops_callf, allKnown]
      refine (rdigits_spec hx).mono fun r B ⟨hB, hr⟩ => ?_
      subst hB hr
      rcases hfin with ⟨h1, h2⟩ | ⟨h1, h2⟩
      · simp [e0, e4, h1, h2]
      · simp [e0, e4, h1, h2]
    · have hy := wrap_ok (0 - x)
      have hfin := fin (IntKind.i64.wrap (0 - x)) hy fun n hn he => by
        obtain ⟨p1, p2⟩ := itoa_parts hn
        have hv := hval n hn he
        rw [he] at p1 p2
        have hneg : ¬ n < 0 := fun h => hc45 (hk0.1 (p2.2 h))
        unfold preV at hv
        rw [p1, List.take_of_length_le (by rw [← p1, List.length_drop]; exact Nat.le_refl _), dec_val] at hv
        unfold i64ok at hn
        rw [wrap_i64 (by omega) (by omega)]
        omega
      have es : binOf .sub (.int .i64 0) (.int .i64 x) = some (.int .i64 (IntKind.i64.wrap (0 - x))) := bin_sub _ _ _
      generalize IntKind.i64.wrap (0 - x) = y at *
      simp [e0, e4, hb0, en45, hc45, es, ops_callf, allKnown, -bin_neq, -bin_sub]
      refine (rdigits_spec hy).mono fun r B ⟨hB, hr⟩ => ?_
      subst hB hr
      rcases hfin with ⟨h1, h2⟩ | ⟨h1, h2⟩
      · simp [e0, h1, h2]
      · simp [e0, h1, h2]
end Go.Proofs.YtejlhgcheaimjaaGreatDoor
/- The document reads an operation. -/
namespace Go.Proofs.YtejlhgcheaimjaaGreatDoor
open Go.AM
set_option maxRecDepth 100000
set_option linter.unusedSimpArgs false
set_option linter.unusedVariables false
@[simp] theorem resVal_cell (E : Env) (A : St) (t n : Nat) (agg : Bool) (h : t < 1000000) : resVal E A (.cell t n agg) = loadV A n agg (Env.at E t) := by
  have : slotAt E t = Env.at E t := by
    unfold slotAt
    rw [show Nat.blt t 1000000 = true from by rw [Nat.blt_eq]; exact h]
    rfl
  unfold resVal loadV
  simp only [this]
  cases Env.at E t <;> rfl
/-- The kind that a word has among the first kinds. -/
def kindUp (w : List UInt8) : Nat → Nat
  | 0 => 0
  | i + 1 => if 0 < i ∧ wordsK[i]? = some w then i else kindUp w i
theorem kindUp_all (w : List UInt8) : kindUp w 7 = kindW w := by
  have e : ∀ i, kindUp w (i + 1) = if 0 < i ∧ wordsK[i]? = some w then i else kindUp w i := fun _ => rfl
  rw [e 6, e 5, e 4, e 3, e 2, e 1, e 0]
  unfold kindW
  simp only [wordsK]
  by_cases h1 : w = [103, 101, 116]
  · subst h1; decide
  by_cases h2 : w = [112, 117, 116]
  · subst h2; decide
  by_cases h3 : w = [100, 101, 108]
  · subst h3; decide
  by_cases h4 : w = [97, 100, 100]
  · subst h4; decide
  by_cases h5 : w = [109, 105, 110]
  · subst h5; decide
  by_cases h6 : w = [98, 97, 99, 107]
  · subst h6; decide
  have h : ∀ x : List UInt8, ¬ w = x → ¬ x = w := fun x h he => h he.symm
  simp [h1, h2, h3, h4, h5, h6, h _ h1, h _ h2, h _ h3, h _ h4, h _ h5, h _ h6, kindUp]
theorem kindUp_lt (w : List UInt8) : ∀ i, kindUp w i ≤ i
  | 0 => Nat.le_refl _
  | i + 1 => by
    unfold kindUp
    split
    · omega
    · have := kindUp_lt w i; omega
/-- One cell is written. -/
theorem setC {A : St} {f : Nat} {cs : List AV} (h : Cl A f cs) (o : Nat) (ho : o < cs.length) {v : AV} (hf : v.flat = true) (hc : v.cells = [v]) (hb : v.isBot = false) : ∃ B, storeV A 1 (.ptr (some (f, 0, o))) v = some (.bot, B) ∧ Mod (fun g => g = f) A B ∧ Cl B f (cs.set o v) := by
  obtain ⟨s1, s2⟩ := h.st o ho hf hc hb
  exact ⟨_, s1, mod_put A f _ rfl, s2⟩
/-- All cells are written. -/
theorem setA {A : St} {f : Nat} {cs : List AV} (h : Cl A f cs) {l : List AV} (hl : l.length = cs.length) (hf : l.all AV.flat = true) : ∃ B, storeV A cs.length (.ptr (some (f, 0, 0))) (.agg l) = some (.bot, B) ∧ Mod (fun g => g = f) A B ∧ Cl B f l := by
  obtain ⟨s1, s2⟩ := h.sta hl hf
  exact ⟨_, s1, mod_put A f _ rfl, s2⟩
def needV : List AV := [.int .i64 0, .int .i64 2, .int .i64 3, .int .i64 2, .int .i64 3, .int .i64 4, .int .i64 3]
theorem needV_at {k : Nat} (h : k ≤ 6) : needV[k]? = some (.int .i64 (needK k)) := by
  have : k = 0 ∨ k = 1 ∨ k = 2 ∨ k = 3 ∨ k = 4 ∨ k = 5 ∨ k = 6 := by omega
  rcases this with rfl | rfl | rfl | rfl | rfl | rfl | rfl <;> rfl
theorem kindW_le (w : List UInt8) : kindW w ≤ 6 := by
  unfold kindW
  repeat' split
  all_goals decide
theorem kindW_need (w : List UInt8) : needK (kindW w) ≤ 4 := by
  have := kindW_le w
  have : kindW w = 0 ∨ kindW w = 1 ∨ kindW w = 2 ∨ kindW w = 3 ∨ kindW w = 4 ∨ kindW w = 5 ∨ kindW w = 6 := by omega
  rcases this with h | h | h | h | h | h | h <;> rw [h] <;> decide
/-- The numbers of an operation. -/
noncomputable def tailW (w key : List UInt8) : List (List UInt8) → Option OpD
  | [] => some ⟨kindW w, key, 0, 0⟩
  | a :: r' => match numT a with
    | none => none
    | some n => match r' with
      | [] => some ⟨kindW w, key, n, 0⟩
      | b :: _ => match numT b with
        | none => none
        | some lo => some ⟨kindW w, key, n, lo⟩
theorem oneW_cons (w key : List UInt8) (r : List (List UInt8)) : oneW (w :: key :: r) = if needK (kindW w) = r.length + 2 ∧ keyL key = true then tailW w key r else none := by
  unfold oneW tailW
  rfl
theorem two_of : ∀ {L : List (List UInt8)}, ¬ L.length < 2 → ∃ w key rest, L = w :: key :: rest
  | [], h => absurd (by decide) h
  | [_], h => absurd (Nat.lt_succ_self 1) h
  | w :: key :: rest, _ => ⟨w, key, rest, rfl⟩
theorem one_short : ∀ {L : List (List UInt8)}, L.length < 2 → oneW L = none
  | [], _ => rfl
  | [_], _ => rfl
  | _ :: _ :: _, h => absurd h (by simp)
variable {D : Disp} {G0 : Env} {X : Calls'}
theorem rnumber_spec' {A : St} {s : List UInt8} (hs : s.length ≤ 100000) : Ev D G0 fnsL X 68 [.str s] A fun r B => A = B ∧ r = .tuple [.int .i64 ((numT s).getD 0), .bool (numT s).isSome] :=
  (rnumber_spec hs).mono fun r B ⟨h1, h2⟩ => ⟨h1, by
    cases hn : numT s with
    | none => rw [hn] at h2; exact h2
    | some n => rw [hn] at h2; exact h2⟩
theorem rone_spec {A : St} {s : List UInt8} (hs : s.length ≤ 100000) : Ev D G0 fnsL X 30 [.str s] A fun r B => A.Ext B ∧ match oneW (wordsS s) with
    | some o => r = .tuple [.agg o.cells, .bool true]
    | none => ∃ o : OpD, r = .tuple [.agg o.cells, .bool false] := by
  refine Ev.fnK (fn := a30) rfl ⟨by simp [a30], by decide⟩ ?_
  unfold a30
  have x1 := ext_make A [AV.int .i64 0, .str [], .int .i64 0, .int .i64 0] 1
  have hb := Cl.make A [AV.int .i64 0, .str [], .int .i64 0, .int .i64 0]
  simp [Made.value, ops_callf, allKnown]
  generalize (A.make [AV.int .i64 0, .str [], .int .i64 0, .int .i64 0] 1).2 = A1 at *
  refine (fields_spec hs).mono fun r B ⟨x2, hr, hri⟩ => ?_
  have hmem : ∀ w ∈ wordsS s, w.length ≤ 100000 := fun w hw => Nat.le_trans (wordsS_mem hw).2 hs
  have hlen := hr.lenV1
  rw [strsV_length] at hlen
  have hb1 := hb.ext x2
  generalize wordsS s = L at *
  have x3 := ext_make B [AV.int .i64 0, .str [], .int .i64 0, .int .i64 0] 1
  have hc := Cl.make B [AV.int .i64 0, .str [], .int .i64 0, .int .i64 0]
  have hr1 := hr.ext x3
  have hb2 := hb1.ext x3
  have hne : A.next < B.next := hb1.lt
  have hxx := (x1.trans x2).trans x3
  have hrB : r.into B.next = false := by
    cases hi : r.into B.next with
    | false => rfl
    | true => exact absurd (Sl.into_lt hr hi) (Nat.lt_irrefl _)
  have hrA : r.into A.next = false := by
    cases hi : r.into A.next with
    | false => rfl
    | true => have := hri _ hi; have := hb.lt; omega
  obtain ⟨n, hLn⟩ : ∃ n, n = L.length := ⟨_, rfl⟩
  rw [← hLn] at hlen
  simp [Made.value, hlen]
  generalize (B.make [AV.int .i64 0, .str [], .int .i64 0, .int .i64 0] 1).2 = B1 at *
  -- the end: what stands in the slot is told
  have fin : ∀ {C : St} {cs ds : List AV}, A.Ext B1 → Mod (fun f => f = B.next ∨ B1.next ≤ f) B1 C → Cl C B.next cs → cs.length = 4 → cs.all AV.flat = true → Cl C A.next ds → ds.length = 4 →
      ∃ C', storeV C 4 (.ptr (some (A.next, 0, 0))) (.agg cs) = some (.bot, C') ∧ loadV C' 4 true (.ptr (some (A.next, 0, 0))) = some (.agg cs) ∧ A.Ext C' := fun {C cs ds} hx hm h1 h2 h3 h4 h5 => by
    obtain ⟨C', k1, k2, k3⟩ := setA h4 (l := cs) (by omega) h3
    have hl := k3.lda 0 4 (by omega)
    rw [List.drop_zero, List.take_of_length_le (by omega)] at hl
    rw [h5] at k1
    refine ⟨C', k1, hl, Nat.le_trans hx.next (Nat.le_trans hm.next k2.next), fun f hf => ?_⟩
    have hf1 := Nat.lt_of_lt_of_le hf hx.next
    rw [k2.get f (Nat.lt_of_lt_of_le hf1 hm.next) (by omega), hm.get f hf1 (by omega), hx.get f hf]
  by_cases h2 : L.length < 2
  · have h2' : (n : Int) < 2 := by omega
    have hone := one_short h2
    have hld := hc.lda 0 4 (by decide)
    obtain ⟨C, k1, k2, k3⟩ := fin hxx (Mod.refl B1) hc rfl rfl hb2 rfl
    simp at hld
    simp [h2', hld, k1, k2, hone]
    exact ⟨k3, ⟨0, [], 0, 0⟩, rfl⟩
  · have h2' : ¬ (n : Int) < 2 := by omega
    obtain ⟨w, key, rest, rfl⟩ := two_of h2
    simp only [List.length_cons] at hLn
    simp [h2', ops_callf, allKnown]
    refine rwords_spec.mono fun v C ⟨x4, ov⟩ => ?_
    have hlv := ov.sl.lenV1
    simp [wordsK, strsV] at hlv
    simp [hlv]
    have hvB : v.into B.next = false := by
      cases hi : v.into B.next with
      | false => rfl
      | true => have := ov.into hi; have := hc.lt; omega
    have hvA : v.into A.next = false := by
      cases hi : v.into A.next with
      | false => rfl
      | true => have := ov.into hi; have := hc.lt; omega
    refine Wp.loopK (fun d E A' => Mod (fun f => f = B.next) C A' ∧ Env.at E 4 = r ∧ Env.at E 5 = .ptr (some (B.next, 0, 0)) ∧ Env.at E 2 = .ptr (some (A.next, 0, 0)) ∧ Env.at E 17 = v ∧ Env.at E 18 = .int .i64 7 ∧ ∃ i : Nat, Env.at E 19 = .int .i64 i ∧ i + d = 7 ∧ Cl A' B.next [.int .i64 (kindUp w i), .str [], .int .i64 0, .int .i64 0]) 7 ?_ ?_
    · exact ⟨Mod.refl C, by simp, by simp, by simp, by simp, by simp, 0, by simp, rfl, hc.ext x4⟩
    rintro d E A' ⟨m, e4, e5, e2, e17, e18, i, e19, hid, hcl⟩
    have el : binOf .lss (.int .i64 (i : Int)) (.int .i64 7) = some (.bool (decide (i < 7))) := lss_nat .i64 i 7
    simp [e4, e5, e17, e18, e19, el, -bin_lss]
    refine contC_of (fun hc => ?_) (fun hc => ?_)
    · simp at hc
      obtain ⟨wi, hwi⟩ : ∃ wi, wordsK[i]? = some wi := ⟨wordsK[i]'(by simpa [wordsK] using hc), List.getElem?_eq_getElem _⟩
      have vm := ov.sl.mod m (fun f hf he => by rw [he, hvB] at hf; cases hf)
      have rm := (hr1.ext x4).mod m (fun f hf he => by rw [he, hrB] at hf; cases hf)
      obtain ⟨p, g1, g2⟩ := Sl.str_at vm hwi .i64
      obtain ⟨q, q1, q2⟩ := Sl.str_at rm (j := 0) (t := w) rfl .i64
      obtain ⟨i1, hi1, eai⟩ : ∃ y : Nat, y = i + 1 ∧ binOf .add (.int .i64 (i : Int)) (.int .i64 1) = some (.int .i64 (y : Int)) := ⟨_, rfl, add_one (i := i) (by omega)⟩
      have eg : binOf .gtr (.int .i64 (i : Int)) (.int .i64 0) = some (.bool (decide (0 < i))) := gtr_nat .i64 i 0
      have hku : kindUp w i1 = if 0 < i ∧ wordsK[i]? = some w then i else kindUp w i := by rw [hi1]; rfl
      simp at q1
      by_cases hi0 : 0 < i
      · by_cases hw : w = wi
        · subst hw
          rw [if_pos ⟨hi0, hwi⟩] at hku
          obtain ⟨C', k1, k2, k3⟩ := setC hcl 0 (by simp) (v := .int .i64 i) rfl rfl rfl
          simp at k3
          simp [e4, e5, e2, e17, e18, e19, g1, g2, q1, q2, eg, hi0, pickV, AV.addr, k1, eai, -bin_add, -bin_gtr]
          exact ⟨d - 1, by omega, m.trans k2, i1, rfl, by omega, by rw [hku]; exact k3⟩
        · rw [if_neg (by rw [hwi]; rintro ⟨_, h⟩; cases h; exact hw rfl)] at hku
          simp [e4, e5, e2, e17, e18, e19, g1, g2, q1, q2, eg, hi0, hw, pickV, AV.addr, eai, -bin_add, -bin_gtr]
          exact ⟨d - 1, by omega, m, i1, rfl, by omega, by rw [hku]; exact hcl⟩
      · rw [if_neg (fun h => hi0 h.1)] at hku
        simp [e4, e5, e2, e17, e18, e19, g1, g2, eg, hi0, pickV, AV.addr, eai, -bin_add, -bin_gtr]
        exact ⟨d - 1, by omega, m, i1, rfl, by omega, by rw [hku]; exact hcl⟩
    · simp at hc
      obtain rfl : i = 7 := by omega
      rw [kindUp_all] at hcl
      have rm := (hr1.ext x4).mod m (fun f hf he => by rw [he, hrB] at hf; cases hf)
      obtain ⟨q, q1, q2⟩ := Sl.str_at rm (j := 1) (t := key) rfl .i64
      obtain ⟨C1, k1, k2, k3⟩ := setC hcl 1 (by simp) (v := .str key) rfl rfl rfl
      simp at q1 k3
      have x5 := ext_make C1 needV 1
      have k4 := k3.ext x5
      obtain ⟨p, g1, g2⟩ := (own_make_exact C1 (cs := needV) (sz := 1) (n := 7) rfl (Nat.le_refl _) (len := 7) (Nat.le_refl _)).sl.at_one (needV_at (kindW_le w)) .i64
      have hmk : (C1.make [AV.int .i64 0, .int .i64 2, .int .i64 3, .int .i64 2, .int .i64 3, .int .i64 4, .int .i64 3] 1).2 = (C1.make needV 1).2 := rfl
      have rm2 := (rm.mod k2 (fun f hf he => by rw [he, hrB] at hf; cases hf)).ext x5
      have hm2 : Mod (fun f => f = B.next ∨ B1.next ≤ f) B1 (C1.make needV 1).2 := (((Mod.of_ext x4).trans (m.mono fun f _ h => .inl h)).trans (k2.mono fun f _ h => .inl h)).trans (Mod.of_ext x5)
      have hb4 : Cl (C1.make needV 1).2 A.next [.int .i64 0, .str [], .int .i64 0, .int .i64 0] := (((hb2.ext x4).mod m (by omega)).mod k2 (by omega)).ext x5
      simp [e4, e5, e2, q1, q2, AV.addr, k1, fillA, AV.isBot, AV.cells, splice, Made.value, hmk]
      generalize (C1.make needV 1).2 = C2 at *
      have hneed := kindW_need w
      obtain ⟨nk, hnkd⟩ : ∃ nk, nk = needK (kindW w) := ⟨_, rfl⟩
      rw [← hnkd] at g2 hneed
      have l0 := k4.ld 0 (v := .int .i64 (kindW w)) rfl
      have l1 := k4.ld 1 (v := .str key) rfl
      have la := k4.lda 0 4 (by simp)
      simp at la
      have en : binOf .neq (.int .i64 (nk : Int)) (.int .i64 (n : Int)) = some (.bool (decide (nk ≠ n))) := neq_nat .i64 nk n
      have hrl : n = rest.length + 2 := hLn
      simp [l0, g1, g2, hlen, en, e4, -bin_neq]
      by_cases hnk : nk = n
      rotate_left
      · have hone : oneW (w :: key :: rest) = none := by
          rw [oneW_cons, if_neg (fun h => hnk (by rw [hnkd, h.1, hrl]))]
        obtain ⟨C3, f1, f2, f3⟩ := fin hxx hm2 k4 rfl rfl hb4 rfl
        simp [hnk, pickV, la, f1, f2, hone, e5, e2]
        exact ⟨f3, ⟨kindW w, key, 0, 0⟩, rfl⟩
      simp [hnk, pickV, l1, e5, e2, AV.addr, ops_callf, allKnown]
      refine rkey_spec.mono fun r' C' ⟨hC', hr'⟩ => ?_
      subst hC' hr'
      cases hkey : keyL key with
      | false =>
        have hone : oneW (w :: key :: rest) = none := by
          rw [oneW_cons, if_neg (fun h => by rw [hkey] at h; cases h.2)]
        obtain ⟨C3, f1, f2, f3⟩ := fin hxx hm2 k4 rfl rfl hb4 rfl
        simp [pickV, la, f1, f2, hone, e5, e2]
        exact ⟨f3, ⟨kindW w, key, 0, 0⟩, rfl⟩
      | true =>
        have hone : oneW (w :: key :: rest) = tailW w key rest := by
          rw [oneW_cons, if_pos ⟨by rw [← hnkd, hnk, hrl], hkey⟩]
        rw [hone]
        simp [pickV]
        match rest, hrl, hmem with
        | [], hrl, _ =>
          obtain rfl : n = 2 := hrl
          obtain ⟨C3, f1, f2, f3⟩ := fin hxx hm2 k4 rfl rfl hb4 rfl
          simp [pickV, la, f1, f2, e5, e2, tailW]
          exact ⟨f3, rfl⟩
        | [a], hrl, hmem =>
          obtain rfl : n = 3 := hrl
          obtain ⟨u, u1, u2⟩ := Sl.str_at rm2 (j := 2) (t := a) rfl .i64
          simp at u1
          simp [e4, e5, e2, u1, u2, ops_callf, allKnown]
          refine (rnumber_spec (hmem a (by simp))).mono fun r' C' ⟨hC', hr'⟩ => ?_
          subst hC'
          cases hna : numT a with
          | none =>
            rw [hna] at hr'
            simp only at hr'
            subst hr'
            obtain ⟨C3, y1, y2, y3⟩ := setC k4 2 (by simp) (v := .int .i64 0) rfl rfl rfl
            simp at y3
            have la3 := y3.lda 0 4 (by simp)
            simp at la3
            obtain ⟨C4, f1, f2, f3⟩ := fin hxx (hm2.trans (y2.mono fun f _ h => .inl h)) y3 rfl rfl (hb4.mod y2 (by omega)) rfl
            simp [pickV, AV.addr, y1, la3, f1, f2, e4, e5, e2, tailW, hna]
            exact ⟨f3, ⟨kindW w, key, 0, 0⟩, rfl⟩
          | some x =>
            rw [hna] at hr'
            simp only at hr'
            subst hr'
            obtain ⟨C3, y1, y2, y3⟩ := setC k4 2 (by simp) (v := .int .i64 x) rfl rfl rfl
            simp at y3
            have la3 := y3.lda 0 4 (by simp)
            simp at la3
            obtain ⟨C4, f1, f2, f3⟩ := fin hxx (hm2.trans (y2.mono fun f _ h => .inl h)) y3 rfl rfl (hb4.mod y2 (by omega)) rfl
            simp [pickV, AV.addr, y1, la3, f1, f2, e4, e5, e2, tailW, hna]
            exact ⟨f3, rfl⟩
        | [a, b], hrl, hmem =>
          obtain rfl : n = 4 := hrl
          obtain ⟨u, u1, u2⟩ := Sl.str_at rm2 (j := 2) (t := a) rfl .i64
          simp at u1
          simp [e4, e5, e2, u1, u2, ops_callf, allKnown]
          refine (rnumber_spec' (hmem a (by simp))).mono fun r' C' ⟨hC', hr'⟩ => ?_
          subst hC' hr'
          obtain ⟨xa, hxa⟩ : ∃ xa, xa = (numT a).getD 0 := ⟨_, rfl⟩
          rw [← hxa]
          obtain ⟨C3, y1, y2, y3⟩ := setC k4 2 (by simp) (v := .int .i64 xa) rfl rfl rfl
          simp at y3
          have rm3 := rm2.mod y2 (fun f hf he => by rw [he, hrB] at hf; cases hf)
          obtain ⟨u', u3, u4⟩ := Sl.str_at rm3 (j := 3) (t := b) rfl .i64
          simp at u3
          simp [AV.addr, y1, e4, e5, e2, u3, u4, ops_callf, allKnown]
          refine (rnumber_spec' (hmem b (by simp))).mono fun r' C' ⟨hC', hr'⟩ => ?_
          subst hC' hr'
          obtain ⟨xb, hxb⟩ : ∃ xb, xb = (numT b).getD 0 := ⟨_, rfl⟩
          rw [← hxb]
          obtain ⟨C4, w1, w2, w3⟩ := setC y3 3 (by simp) (v := .int .i64 xb) rfl rfl rfl
          simp at w3
          have la3 := w3.lda 0 4 (by simp)
          simp at la3
          obtain ⟨C5, f1, f2, f3⟩ := fin hxx ((hm2.trans (y2.mono fun f _ h => .inl h)).trans (w2.mono fun f _ h => .inl h)) w3 rfl rfl ((hb4.mod y2 (by omega)).mod w2 (by omega)) rfl
          cases hna : numT a with
          | none =>
            simp [pickV, AV.addr, w1, la3, f1, f2, e4, e5, e2, tailW, hna]
            exact ⟨f3, ⟨kindW w, key, xa, xb⟩, rfl⟩
          | some x =>
            rw [hna] at hxa
            simp at hxa
            cases hnb : numT b with
            | none =>
              simp [pickV, AV.addr, w1, la3, f1, f2, e4, e5, e2, tailW, hna, hnb]
              exact ⟨f3, ⟨kindW w, key, xa, xb⟩, rfl⟩
            | some y =>
              rw [hnb] at hxb
              simp at hxb
              simp [pickV, AV.addr, w1, la3, f1, f2, e4, e5, e2, tailW, hna, hnb]
              rw [hxa, hxb]
              exact ⟨f3, rfl⟩
        | a :: b :: c :: l, hrl, _ =>
          simp only [List.length_cons] at hrl
          omega
end Go.Proofs.YtejlhgcheaimjaaGreatDoor
