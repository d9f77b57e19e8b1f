/- The document's reader: a number at a place. -/
import Derived.Test.YtejlhgcheaimjaaGreatDoorRtRaw
import Derived.Test.YtejlhgcheaimjaaGreatDoorRtIn
import Derived.Test.YtejlhgcheaimjaaGreatDoorRtREnc
namespace Go.Proofs.YtejlhgcheaimjaaGreatDoor
open Go.AM
set_option maxRecDepth 100000
set_option linter.unusedSimpArgs false
set_option linter.unusedVariables false
/-- The document's reader: its bytes, its place, its error. -/
structure DC (A : St) (p : Nat) (b : List UInt8) (s : AV) (e w : Int) (i : Nat) : Prop where
  cl : Cl A p [s, .int .i64 i, .int .i64 e, .int .i64 w]
  sl : Sl A 1 s (bytesV b)
  below : ∀ f, s.into f = true → f < p
  le : i ≤ b.length
  few : b.length < 2 ^ 40
variable {D : Disp} {G0 : Env} {X : Calls'}
theorem mul_step {n : Nat} (hn : n < 2 ^ 56) (c : UInt8) : binOf .mul (.int .u64 (n : Int)) (.int .u64 256) = some (.int .u64 ((n * 256 : Nat) : Int)) ∧ binOf .add (.int .u64 ((n * 256 : Nat) : Int)) (.int .u64 (c.toNat : Int)) = some (.int .u64 ((n * 256 + c.toNat : Nat) : Int)) := by
  have hc := c.toNat_lt
  refine ⟨?_, ?_⟩
  · rw [bin_mul, show (n : Int) * 256 = ((n * 256 : Nat) : Int) by omega, wrap_un_small rfl (show n * 256 < 2 ^ 64 by omega)]
  · rw [bin_add, show ((n * 256 : Nat) : Int) + (c.toNat : Int) = ((n * 256 + c.toNat : Nat) : Int) by omega, wrap_un_small rfl (show n * 256 + c.toNat < 2 ^ 64 by omega)]
theorem conv_byteI (c : UInt8) : convV .i64 (byteV c) = some (.int .i64 c.toNat) := by
  unfold byteV
  rw [convV_int, wrap_i64_nat (by have := c.toNat_lt; omega)]
theorem rnat_spec {A : St} {p : Nat} {b : List UInt8} {s : AV} {e w : Int} {i : Nat} (h : DC A p b s e w i) :
    Ev D G0 fnsL X 81 [.ptr (some (p, 0, 0)), .int .i64 i] A fun r B => A = B ∧ match natP (b.drop i) with
      | some (n, l) => ∃ k : Nat, r = .tuple [.int .u64 n, .int .i64 ((k + 1 : Nat) : Int)] ∧ l = b.drop (i + (k + 1)) ∧ i + (k + 1) ≤ b.length
      | none => r = .tuple [.int .u64 0, .int .i64 0] := by
  refine Ev.fnK (fn := a81) rfl ⟨by simp [a81], by decide⟩ ?_
  unfold a81
  have l0 := h.cl.ld 0 (v := s) rfl
  have hlen := h.sl.lenV1
  rw [bytesV_length] at hlen
  have hle := h.le
  have hfew := h.few
  have eg : binOf .geq (.int .i64 (i : Int)) (.int .i64 (b.length : Int)) = some (.bool (decide (b.length ≤ i))) := by rw [bin_geq]; simp
  by_cases hi : b.length ≤ i
  · have hb : b.drop i = [] := List.drop_eq_nil_of_le hi
    rw [decide_eq_true hi] at eg
    simp [AV.addr, l0, hlen, eg, hb, natP, -bin_geq]
  rw [decide_eq_false hi] at eg
  obtain ⟨c, hc⟩ : ∃ c, b[i]? = some c := ⟨_, List.getElem?_eq_getElem (by omega)⟩
  have hcl : b.drop i = c :: b.drop (i + 1) := by
    rw [List.drop_eq_getElem_cons (by omega)]
    congr 1
    rw [List.getElem?_eq_getElem (by omega)] at hc
    exact Option.some.inj hc
  generalize hl : b.drop (i + 1) = l at *
  have hll : l.length = b.length - (i + 1) := by rw [← hl, List.length_drop]
  obtain ⟨q, g1, g2⟩ := h.sl.at_one (j := i) (v := byteV c) (by unfold bytesV; rw [List.getElem?_map, hc]; rfl) .i64
  have e8 := gtr_byte c 8
  simp [-bin_gtr] at e8
  by_cases h8 : 8 < c.toNat
  · have hn : natP (c :: l) = none := by simp only [natP]; rw [if_pos (.inl h8)]
    simp [AV.addr, l0, hlen, eg, g1, g2, e8, h8, hcl, hn, -bin_geq, -bin_gtr]
  have hk8 : c.toNat ≤ 8 := by omega
  generalize hkk : c.toNat = k at *
  obtain ⟨d1, hd1, ed1⟩ := sub_nat (a := b.length) (b := i) (by omega) (by omega)
  obtain ⟨d2, hd2, ed2⟩ := sub_nat (a := d1) (b := 1) (by omega) (by omega)
  have ec := conv_byteI c
  rw [hkk] at ec
  have ek : binOf .gtr (.int .i64 (k : Int)) (.int .i64 (d2 : Int)) = some (.bool (decide (d2 < k))) := by rw [bin_gtr]; simp
  simp [-bin_sub] at ed1 ed2
  by_cases hbig : d2 < k
  · have hn : natP (c :: l) = none := by simp only [natP]; rw [if_pos (.inr (.inl (by rw [hkk]; omega)))]
    rw [decide_eq_true hbig] at ek
    simp [AV.addr, l0, hlen, eg, g1, g2, e8, h8, hcl, hn, ec, ed1, ed2, ek, -bin_geq, -bin_gtr, -bin_sub, -convV_int]
  rw [decide_eq_false hbig] at ek
  simp [AV.addr, l0, hlen, eg, g1, g2, e8, h8, ec, ed1, ed2, ek, -bin_geq, -bin_gtr, -bin_sub, -convV_int]
  have hkl : k ≤ l.length := by omega
  have ht : (l.take k).length = k := by rw [List.length_take]; omega
  have hbl : ∀ j, b[i + (j + 1)]? = l[j]? := fun j => by rw [← hl, List.getElem?_drop]; congr 1; omega
  refine Wp.loopK (fun d E A' => A = A' ∧ Env.at E 0 = .ptr (some (p, 0, 0)) ∧ Env.at E 1 = .int .i64 i ∧ Env.at E 6 = .int .i64 k ∧ ∃ j : Nat, Env.at E 8 = .int .i64 ((j + 1 : Nat) : Int) ∧ j + d = k ∧ Env.at E 7 = .int .u64 (beV ((l.take k).take j))) k ?_ ?_
  · exact ⟨rfl, by simp, by simp, by simp, 0, by simp, by simp, by simp [beV]⟩
  rintro d E A' ⟨rfl, e0, e1, e6, j, e8', hj, e7⟩
  have elq : binOf .leq (.int .i64 ((j + 1 : Nat) : Int)) (.int .i64 (k : Int)) = some (.bool (decide (j + 1 ≤ k))) := by rw [bin_leq]; simp; omega
  generalize hj1 : j + 1 = j1 at *
  simp [e6, e8', elq, -bin_leq]
  refine contC_of (fun hc => ?_) (fun hc => ?_)
  · simp at hc
    obtain ⟨x, hx⟩ : ∃ x, l[j]? = some x := ⟨_, List.getElem?_eq_getElem (by omega)⟩
    have hxt : (l.take k)[j]? = some x := by rw [List.getElem?_take, if_pos (by omega)]; exact hx
    obtain ⟨q3, w1, w2⟩ := h.sl.at_one (j := i + j1) (v := byteV x) (by unfold bytesV; rw [List.getElem?_map, ← hj1, hbl, hx]; rfl) .i64
    have hb56 : beV ((l.take k).take j) < 2 ^ 56 := by
      have h1 := beV_lt ((l.take k).take j)
      have h2 : ((l.take k).take j).length = j := by rw [List.length_take, ht]; omega
      rw [h2] at h1
      exact Nat.lt_of_lt_of_le h1 (Nat.le_trans (Nat.pow_le_pow_right (by decide) (show j ≤ 7 by omega)) (by decide))
    obtain ⟨o1, o2⟩ := mul_step hb56 x
    obtain ⟨y, hy, ey⟩ := add_nat (a := i) (b := j1) (by omega) (by omega)
    rw [← hy] at w1
    have ea := add_one (i := j1) (by omega)
    have hbs := beV_take_succ hxt
    rw [hj1] at hbs
    generalize beV ((l.take k).take j) = V at *
    generalize hV : V * 256 = V2 at *
    simp [-bin_add] at ea
    simp [e0, e1, e6, e8', e7, l0, AV.addr, w1, w2, conv_byteU, o1, o2, ey, ea, -bin_add, -bin_mul, -convV_int]
    refine ⟨d - 1, by omega, j1, by omega, by omega, ?_⟩
    rw [hbs]
    push_cast
    rfl
  · simp at hc
    have hjk : j = k := by omega
    have htt : (l.take k).take k = l.take k := by rw [List.take_take]; simp
    rw [hjk, htt] at e7
    have ek0 : binOf .gtr (.int .i64 (k : Int)) (.int .i64 0) = some (.bool (decide (0 < k))) := by rw [bin_gtr]; simp
    have ei := add_one (i := i) (by omega)
    have ek1 := add_one (i := k) (by omega)
    simp [-bin_add] at ei ek1
    have hld : l.drop k = b.drop (i + (k + 1)) := by rw [← hl, List.drop_drop]; congr 1; omega
    by_cases hhd : (l.take k).head? = some 0
    · have hn : natP (c :: l) = none := by simp only [natP]; rw [hkk, if_pos (.inr (.inr hhd))]
      have hz : 0 < k := by
        rcases Nat.eq_zero_or_pos k with h0 | h0
        · rw [h0] at hhd; cases hhd
        · exact h0
      have hl0 : l[0]? = some 0 := by
        rw [List.head?_eq_getElem?, List.getElem?_take, if_pos hz] at hhd
        exact hhd
      obtain ⟨q2, f1, f2⟩ := h.sl.at_one (j := i + 1) (v := byteV 0) (by unfold bytesV; rw [List.getElem?_map, hbl 0, hl0]; rfl) .i64
      have eb := eql_byte 0
      simp [-bin_eql, -bin_gtr] at f1 eb
      simp [e0, e1, e6, e7, l0, AV.addr, ek0, hz, ei, f1, f2, eb, hcl, hn, -bin_gtr, -bin_eql, -bin_add]
    · have hn : natP (c :: l) = some (beV (l.take k), l.drop k) := by
        simp only [natP]
        rw [hkk, if_neg]
        simp only [not_or]
        exact ⟨h8, by omega, hhd⟩
      by_cases hz : 0 < k
      · obtain ⟨y, hy⟩ : ∃ y, l[0]? = some y := ⟨_, List.getElem?_eq_getElem (by omega)⟩
        have hy0 : y ≠ 0 := fun h0 => hhd (by rw [List.head?_eq_getElem?, List.getElem?_take, if_pos hz, hy, h0])
        obtain ⟨q2, f1, f2⟩ := h.sl.at_one (j := i + 1) (v := byteV y) (by unfold bytesV; rw [List.getElem?_map, hbl 0, hy]; rfl) .i64
        have eb := eql_byte y
        rw [decide_eq_false hy0] at eb
        simp [-bin_eql, -bin_gtr] at f1 eb
        simp [e0, e1, e6, e7, l0, AV.addr, ek0, hz, ei, ek1, f1, f2, eb, hcl, hn, -bin_gtr, -bin_eql, -bin_add]
        exact ⟨k, rfl, hld, by omega⟩
      · simp [e0, e1, e6, e7, l0, AV.addr, ek0, hz, ei, ek1, hcl, hn, -bin_gtr, -bin_eql, -bin_add]
        exact ⟨k, rfl, hld, by omega⟩
end Go.Proofs.YtejlhgcheaimjaaGreatDoor
/- The document's reader: numbers, texts, its end. -/
namespace Go.Proofs.YtejlhgcheaimjaaGreatDoor
open Go.AM
set_option maxRecDepth 100000
set_option linter.unusedSimpArgs false
set_option linter.unusedVariables false
variable {D : Disp} {G0 : Env} {X : Calls'}
/-- One cell of a reader is written. -/
theorem DC.put {A : St} {p : Nat} {b : List UInt8} {s s' : AV} {e w e' w' : Int} {i i' o : Nat} (h : DC A p b s e w i) {v : AV} (hv : v.flat = true) (hc : v.cells = [v]) (hb : v.isBot = false) (ho : o < 4)
    (hs : [s, .int .i64 i, .int .i64 e, .int .i64 w].set o v = [s, .int .i64 i', .int .i64 e', .int .i64 w']) (hi : i' ≤ b.length) :
    ∃ B, storeV A 1 (.ptr (some (p, 0, o))) v = some (.bot, B) ∧ Mod (fun f => f = p) A B ∧ DC B p b s e' w' i' := by
  obtain ⟨st1, st2⟩ := h.cl.st o ho hv hc hb
  rw [hs] at st1 st2
  have hm := mod_put (W := fun f => f = p) A p (.cells [s, .int .i64 i', .int .i64 e', .int .i64 w'] [⟨0, 0, 4, 1⟩] 1 false) rfl
  exact ⟨_, st1, hm, st2, h.sl.mod hm (fun f hf he => by have := h.below f hf; omega), h.below, hi, h.few⟩
theorem wrong_spec {A : St} {p : Nat} {b : List UInt8} {s : AV} {e w : Int} {i : Nat} (h : DC A p b s e w i) {k : Nat} (hk : k ≤ b.length) {c : Int} :
    Ev D G0 fnsL X 82 [.ptr (some (p, 0, 0)), .int .i64 k, .int .i64 c] A fun r B => r = .tuple [] ∧ Mod (fun f => f = p) A B ∧ DC B p b s c k k := by
  refine Ev.fnK (fn := a82) rfl ⟨by simp [a82], by decide⟩ ?_
  unfold a82
  obtain ⟨B1, s1, m1, h1⟩ := h.put (s' := s) (o := 2) (v := .int .i64 c) (e' := c) (w' := w) (i' := i) rfl rfl rfl (by decide) rfl h.le
  obtain ⟨B2, s2, m2, h2⟩ := h1.put (s' := s) (o := 3) (v := .int .i64 k) (e' := c) (w' := k) (i' := i) rfl rfl rfl (by decide) rfl h.le
  obtain ⟨B3, s3, m3, h3⟩ := h2.put (s' := s) (o := 1) (v := .int .i64 k) (e' := c) (w' := k) (i' := k) rfl rfl rfl (by decide) rfl hk
  simp [AV.addr, s1, s2, s3]
  exact ⟨(m1.trans m2).trans m3, h3⟩
/-- The document's reader and what is left to read. -/
def DR (A : St) (p : Nat) (b : List UInt8) (st : RdS) : Prop := ∃ s e w i, DC A p b s e w i ∧ match st with
  | some l => e = 0 ∧ l = b.drop i
  | none => e ≠ 0
theorem rNat_spec {A : St} {p : Nat} {b : List UInt8} {st : RdS} (h : DR A p b st) : Ev D G0 fnsL X 46 [.ptr (some (p, 0, 0))] A fun r B => r = .int .u64 (natS st).1 ∧ Mod (fun f => f = p) A B ∧ DR B p b (natS st).2 := by
  refine Ev.fnK (fn := a46) rfl ⟨by simp [a46], by decide⟩ ?_
  unfold a46
  obtain ⟨s, e, w, i, hC, he⟩ := h
  have l1 := hC.cl.ld 1 (v := .int .i64 i) rfl
  have l2 := hC.cl.ld 2 (v := .int .i64 e) rfl
  cases st with
  | none =>
    simp at he
    simp [AV.addr, l2, he, natS]
    exact ⟨Mod.refl A, s, e, w, i, hC, he⟩
  | some l =>
    obtain ⟨rfl, hl⟩ := he
    simp [AV.addr, l1, l2, ops_callf, allKnown]
    refine (rnat_spec hC).mono fun r B ⟨hB, hr⟩ => ?_
    subst hB
    rw [← hl] at hr
    cases hp : natP l with
    | none =>
      rw [hp] at hr
      simp only at hr
      subst hr
      simp [natS, hp, AV.addr, l1, ops_callf, allKnown]
      refine (wrong_spec hC hC.le).mono fun r B ⟨hr, m, hD⟩ => ?_
      subst hr
      simp
      exact ⟨m, s, 6, _, i, hD, show (6 : Int) ≠ 0 by decide⟩
    | some x =>
      obtain ⟨n, l'⟩ := x
      rw [hp] at hr
      obtain ⟨k, rfl, hl', hik⟩ := hr
      have hfew := hC.few
      obtain ⟨y, hy, ey⟩ := add_nat (a := i) (b := k + 1) (by omega) (by omega)
      obtain ⟨B1, s1, m1, h1⟩ := hC.put (s' := s) (o := 1) (v := .int .i64 y) (e' := 0) (w' := w) (i' := y) rfl rfl rfl (by decide) rfl (by omega)
      have hne : ¬ ((k : Int) + 1 = 0) := by omega
      simp [-bin_add] at ey
      simp [natS, hp, AV.addr, l1, hne, ey, s1, -bin_add]
      exact ⟨m1, s, 0, w, y, h1, rfl, by rw [hl', hy]⟩
theorem rNum_spec {A : St} {p : Nat} {b : List UInt8} {st : RdS} (h : DR A p b st) : Ev D G0 fnsL X 48 [.ptr (some (p, 0, 0))] A fun r B => r = .int .i64 (numS st).1 ∧ Mod (fun f => f = p) A B ∧ DR B p b (numS st).2 := by
  refine Ev.fnK (fn := a48) rfl ⟨by simp [a48], by decide⟩ ?_
  unfold a48
  simp [ops_callf, allKnown]
  refine (rNat_spec h).mono fun r B ⟨hr, m, hD⟩ => ?_
  subst hr
  have hlt := natS_lt st
  have hz : (numS st).1 = zag (natS st).1 := rfl
  have hz2 : (numS st).2 = (natS st).2 := rfl
  rw [hz, hz2]
  generalize (natS st).1 = u at *
  have er : binOf .rem (.int .u64 (u : Int)) (.int .u64 2) = some (.int .u64 ((u % 2 : Nat) : Int)) := bin_rem_nat (k := .u64) (a := u) (b := 2) (by decide)
  have eq : binOf .quo (.int .u64 (u : Int)) (.int .u64 2) = some (.int .u64 ((u / 2 : Nat) : Int)) := bin_quo_nat (k := .u64) (a := u) (b := 2) (by decide) (wrap_un_small rfl (show u / 2 < 2 ^ 64 by omega))
  have ec : convV .i64 (.int .u64 ((u / 2 : Nat) : Int)) = some (.int .i64 ((u / 2 : Nat) : Int)) := by rw [convV_int, wrap_i64_nat (by omega)]
  have es : binOf .sub (.int .i64 (-1)) (.int .i64 ((u / 2 : Nat) : Int)) = some (.int .i64 (-1 - ((u / 2 : Nat) : Int))) := by rw [bin_sub, wrap_i64 (by omega) (by omega)]
  have hm : u % 2 = 0 ∨ u % 2 = 1 := by omega
  rcases hm with hm | hm
  · have hzz : zag u = ((u / 2 : Nat) : Int) := by unfold zag; rw [if_neg (by omega)]
    rw [hzz]
    rw [hm] at er
    generalize u / 2 = q at *
    simp at er
    simp [er, eq, ec, -convV_int]
    exact ⟨m, hD⟩
  · have hzz : zag u = -1 - ((u / 2 : Nat) : Int) := by unfold zag; rw [if_pos hm]
    rw [hzz]
    rw [hm] at er
    generalize u / 2 = q at *
    simp at er
    simp [er, eq, ec, es, -convV_int, -bin_sub]
    exact ⟨m, hD⟩
theorem rOf_spec {A : St} {s : AV} {b : List UInt8} (hs : Sl A 1 s (bytesV b)) (hb : b.length < 2 ^ 40) :
    Ev D G0 fnsL X 45 [s] A fun r B => r = .ptr (some (A.next, 0, 0)) ∧ A.Ext B ∧ B.next = A.next + 1 ∧ DR B A.next b (some b) := by
  refine Ev.fnK (fn := a45) rfl ⟨by simp [a45], by decide⟩ ?_
  unfold a45
  simp [fillA, hs.notBot, hs.cells, splice, boxV, Made.value, show (AV.int .i64 (-1)).isBot = false from rfl, show (AV.int .i64 (-1)).cells = [.int .i64 (-1)] from rfl, show (AV.agg [s, .int .i64 0, .int .i64 0, .int .i64 (-1)]).cells = [s, .int .i64 0, .int .i64 0, .int .i64 (-1)] from rfl]
  have x := ext_make A [s, .int .i64 0, .int .i64 0, .int .i64 (-1)] 1
  have hc := Cl.make A [s, .int .i64 0, .int .i64 0, .int .i64 (-1)]
  have hn : (A.make [s, .int .i64 0, .int .i64 0, .int .i64 (-1)] 1).2.next = A.next + 1 := rfl
  generalize (A.make [s, .int .i64 0, .int .i64 0, .int .i64 (-1)] 1).2 = B at *
  exact ⟨x, hn, s, 0, -1, 0, ⟨hc, Sl.ext x hs, fun f hf => Sl.into_lt hs hf, Nat.zero_le _, hb⟩, rfl, rfl⟩
theorem rEnd_spec {A : St} {p : Nat} {b : List UInt8} {st : RdS} (h : DR A p b st) : Ev D G0 fnsL X 49 [.ptr (some (p, 0, 0))] A fun r B => Mod (fun f => f = p) A B ∧ ∃ c : Int, r = .int .i64 c ∧ (c = 0 ↔ st = some []) := by
  refine Ev.fnK (fn := a49) rfl ⟨by simp [a49], by decide⟩ ?_
  unfold a49
  obtain ⟨s, e, w, i, hC, he⟩ := h
  have l0 := hC.cl.ld 0 (v := s) rfl
  have l1 := hC.cl.ld 1 (v := .int .i64 i) rfl
  have l2 := hC.cl.ld 2 (v := .int .i64 e) rfl
  have hlen := hC.sl.lenV1
  rw [bytesV_length] at hlen
  have el := lss_nat .i64 i b.length
  cases st with
  | none =>
    simp at he
    simp
    refine Wp.draws ?_
    simp [AV.addr, l2, he, InAll, AV.beq]
    exact Mod.refl A
  | some l =>
    obtain ⟨rfl, hl⟩ := he
    simp
    refine Wp.draws ?_
    simp [AV.addr, l0, l1, l2, hlen, el, InAll, AV.beq, hC.sl.beq, -bin_lss]
    refine contC_of (fun hc => ?_) (fun hc => ?_)
    · simp at hc
      simp [AV.addr, l1, ops_callf, allKnown]
      refine (wrong_spec hC hC.le).mono fun r B ⟨hr, m, hD⟩ => ?_
      subst hr
      have l2' := hD.cl.ld 2 (v := .int .i64 6) rfl
      have hne : l ≠ [] := by rw [hl]; intro h0; have := congrArg List.length h0; simp at this; omega
      simp [AV.addr, l2', hne]
      exact m
    · simp at hc
      have hnil : l = [] := by rw [hl]; exact List.drop_eq_nil_of_le hc
      simp [AV.addr, l2, hnil]
      exact Mod.refl A
theorem rStr_spec {A : St} {p : Nat} {b : List UInt8} {st : RdS} (h : DR A p b st) {most : Nat} (hm : most < 2 ^ 40) :
    Ev D G0 fnsL X 47 [.ptr (some (p, 0, 0)), .int .i64 most] A fun r B => r = .str (strS most st).1 ∧ Mod (fun f => f = p) A B ∧ DR B p b (strS most st).2 := by
  refine Ev.fnK (fn := a47) rfl ⟨by simp [a47], by decide⟩ ?_
  unfold a47
  obtain ⟨s, e, w, i, hC, he⟩ := h
  have l0 := hC.cl.ld 0 (v := s) rfl
  have l1 := hC.cl.ld 1 (v := .int .i64 i) rfl
  have l2 := hC.cl.ld 2 (v := .int .i64 e) rfl
  have hlen := hC.sl.lenV1
  rw [bytesV_length] at hlen
  have hfew := hC.few
  cases st with
  | none =>
    simp at he
    simp [AV.addr, l2, he, strS]
    exact ⟨Mod.refl A, s, e, w, i, hC, he⟩
  | some l =>
    obtain ⟨rfl, hl⟩ := he
    have h0 : ¬ ((most : Int) < 0) := by omega
    simp [AV.addr, l1, l2, h0, ops_callf, allKnown]
    refine (rnat_spec hC).mono fun r B ⟨hB, hr⟩ => ?_
    subst hB
    rw [← hl] at hr
    cases hp : natP l with
    | none =>
      rw [hp] at hr
      simp only at hr
      subst hr
      simp [strS, hp, AV.addr, l1, ops_callf, allKnown]
      refine (wrong_spec hC hC.le).mono fun r B ⟨hr, m, hD⟩ => ?_
      subst hr
      simp
      exact ⟨m, s, 6, _, i, hD, show (6 : Int) ≠ 0 by decide⟩
    | some x =>
      obtain ⟨n, l'⟩ := x
      rw [hp] at hr
      obtain ⟨k, rfl, hl', hik⟩ := hr
      have hn := (natP_some hp).2
      have hne : ¬ ((k : Int) + 1 = 0) := by omega
      have ec : convV .u64 (.int .i64 (most : Int)) = some (.int .u64 (most : Int)) := by rw [convV_int, wrap_un_small rfl (show most < 2 ^ 64 by omega)]
      have eg : binOf .gtr (.int .u64 (n : Int)) (.int .u64 (most : Int)) = some (.bool (decide (most < n))) := by rw [bin_gtr]; simp
      have hll : l'.length = b.length - (i + (k + 1)) := by rw [hl', List.length_drop]
      simp [hne, ec, eg, -bin_gtr, -convV_int]
      refine contC_of (fun hc => ?_) (fun hc => ?_)
      · simp at hc
        simp [AV.addr, l1, ops_callf, allKnown]
        refine (wrong_spec hC hC.le).mono fun r B ⟨hr, m, hD⟩ => ?_
        subst hr
        simp [strS, hp, hc]
        exact ⟨m, s, 7, _, i, hD, show (7 : Int) ≠ 0 by decide⟩
      · simp at hc
        obtain ⟨d1, hd1, ed1⟩ := sub_nat (a := b.length) (b := i) hC.le (by omega)
        obtain ⟨d2, hd2, ed2⟩ := sub_nat (a := d1) (b := k + 1) (by omega) (by omega)
        have ecd : convV .u64 (.int .i64 (d2 : Int)) = some (.int .u64 (d2 : Int)) := by rw [convV_int, wrap_un_small rfl (show d2 < 2 ^ 64 by omega)]
        have egd : binOf .gtr (.int .u64 (n : Int)) (.int .u64 (d2 : Int)) = some (.bool (decide (d2 < n))) := by rw [bin_gtr]; simp
        simp only [Go.AM.wp_skip, seqK_normal, Go.AM.wp_seq]
        refine Wp.draws ?_
        simp [-bin_sub] at ed1 ed2
        simp [AV.addr, l0, l1, hlen, ed1, ed2, ecd, egd, InAll, -bin_gtr, -convV_int, -bin_sub]
        refine ⟨⟨hC.sl.beq, by simp [AV.beq]⟩, ?_⟩
        refine contC_of (fun hc2 => ?_) (fun hc2 => ?_)
        · simp at hc2
          simp [AV.addr, l1, ops_callf, allKnown]
          refine (wrong_spec hC hC.le).mono fun r B ⟨hr, m, hD⟩ => ?_
          subst hr
          have hlt : l'.length < n := by omega
          simp [strS, hp, hlt]
          exact ⟨m, s, 6, _, i, hD, show (6 : Int) ≠ 0 by decide⟩
        · simp at hc2
          obtain ⟨y1, hy1, ey1⟩ := add_nat (a := i) (b := k + 1) (by omega) (by omega)
          obtain ⟨y2, hy2, ey2⟩ := add_nat (a := y1) (b := n) (by omega) (by omega)
          obtain ⟨y3, hy3, ey3⟩ := add_nat (a := k + 1) (b := n) (by omega) (by omega)
          obtain ⟨y4, hy4, ey4⟩ := add_nat (a := i) (b := y3) (by omega) (by omega)
          have ecn : convV .i64 (.int .u64 (n : Int)) = some (.int .i64 (n : Int)) := by rw [convV_int, wrap_i64_nat (by omega)]
          obtain ⟨s', c1, c2, c3⟩ := hC.sl.cut (lo := y1) (hi := y2) (by omega) (by have := hC.sl.length; rw [bytesV_length] at this; omega) (k := .i64) (j := .i64)
          rw [Nat.mul_one, Nat.mul_one, bytesV_take, bytesV_drop] at c3
          have e3 : (b.take y2).drop y1 = l'.take n := by rw [hl', List.drop_take]; congr 1; omega; rw [hy1]
          rw [e3] at c3
          have ht := Sl.text c3
          obtain ⟨B1, s1, m1, h1⟩ := hC.put (s' := s) (o := 1) (v := .int .i64 y4) (e' := 0) (w' := w) (i' := y4) rfl rfl rfl (by decide) rfl (by omega)
          simp [-bin_add] at ey1 ey2 ey3 ey4
          simp only [Go.AM.wp_skip, seqK_normal, Go.AM.wp_seq]
          refine Wp.draws ?_
          simp [AV.addr, l0, l1, ey1, ey2, ecn, c1, ht, InAll, -bin_add, -convV_int]
          refine ⟨⟨⟨hC.sl.beq, by simp [AV.beq]⟩, by simp [AV.beq]⟩, ?_⟩
          have hno : ¬ (most < n ∨ l'.length < n) := by omega
          simp [ey3, ey4, AV.addr, s1, strS, hp, hno, -bin_add]
          exact ⟨m1, s, 0, w, y4, h1, rfl, by rw [hl', List.drop_drop]; congr 1; omega⟩
end Go.Proofs.YtejlhgcheaimjaaGreatDoor
/- The document's operations of bytes. -/
namespace Go.Proofs.YtejlhgcheaimjaaGreatDoor
open Go.AM
set_option maxRecDepth 100000
set_option linter.unusedSimpArgs false
set_option linter.unusedVariables false
theorem DR.mod {W : Nat → Prop} {A B : St} {p : Nat} {b : List UInt8} {st : RdS} (h : DR A p b st) (m : Mod W A B) (hp : ∀ f, W f → p < f) : DR B p b st := by
  obtain ⟨s, e, w, i, h1, h2⟩ := h
  exact ⟨s, e, w, i, ⟨h1.cl.mod m (fun hW => by have := hp p hW; omega), h1.sl.mod m (fun f hf hW => by have := hp f hW; have := h1.below f hf; omega), h1.below, h1.le, h1.few⟩, h2⟩
theorem DR.ext {A B : St} {p : Nat} {b : List UInt8} {st : RdS} (h : DR A p b st) (x : A.Ext B) : DR B p b st := h.mod (Mod.of_ext (W := fun _ => False) x) fun _ hf => hf.elim
theorem DR.lt {A : St} {p : Nat} {b : List UInt8} {st : RdS} (h : DR A p b st) : p < A.next := by
  obtain ⟨s, e, w, i, h1, h2⟩ := h
  exact h1.cl.lt
theorem take_all {p : OpD → Bool} {l : List OpD} {i : Nat} {o : OpD} (ho : l[i]? = some o) (h : (l.take i).all p = true) : (p o = true → (l.take (i + 1)).all p = true) ∧ (p o = false → l.all p = false) := by
  refine ⟨fun hp => ?_, fun hp => ?_⟩
  · rw [List.take_add_one, ho]
    simp only [List.all_append, h, Bool.true_and]
    simp [hp]
  · rw [List.all_eq_false]
    exact ⟨o, List.mem_of_getElem? ho, by simp [hp]⟩
def AllT (p : OpD → Bool) (l : List OpD) : Prop := l.all p = true
/-- One cell of a slot is written. -/
theorem setCl {A : St} {f : Nat} {cs : List AV} (h : Cl A f cs) (o : Nat) (ho : o < cs.length) {v : AV} (hf : v.flat = true) (hc : v.cells = [v]) (hb : v.isBot = false) : ∃ B, storeV A 1 (.ptr (some (f, 0, o))) v = some (.bot, B) ∧ Mod (fun g => g = f) A B ∧ Cl B f (cs.set o v) := by
  obtain ⟨s1, s2⟩ := h.st o ho hf hc hb
  exact ⟨_, s1, mod_put A f _ rfl, s2⟩
variable {D : Disp} {G0 : Env} {X : Calls'}
theorem rdec_spec {A : St} {s : AV} {b : List UInt8} (hs : Sl A 1 s (bytesV b)) (hb : b.length < 2 ^ 40) :
    Ev D G0 fnsL X 15 [s] A fun r B => A.Ext B ∧ match decP mayL b with
      | some l => ∃ v, r = .tuple [v, .int .i64 0] ∧ AM.Own A.next B 4 v (opsCells l)
      | none => r = .tuple [.slice none 0 0 0 0, .int .i64 6] := by
  refine Ev.fnK (fn := a15) rfl ⟨by simp [a15], by decide⟩ ?_
  unfold a15
  simp [ops_callf, allKnown, hs.allKnown]
  refine (rOf_spec hs hb).mono fun r B ⟨hr, x1, hn1, hi1⟩ => ?_
  subst hr
  simp [ops_callf, allKnown]
  refine (rNat_spec hi1).mono fun r B2 ⟨hr, m2, hi2⟩ => ?_
  subst hr
  have x2 : A.Ext B2 := ⟨Nat.le_trans x1.next m2.next, fun f hf => (m2.get f (Nat.lt_of_lt_of_le hf x1.next) (by omega)).trans (x1.get f hf)⟩
  have hnlt := natS_lt (some b)
  have hdec : decP mayL b = if 64 < (natS (some b)).1 then none else match opsS (natS (some b)).1 (natS (some b)).2 with
    | (l, some []) => if l.all mayL = true then some l else none
    | _ => none := rfl
  generalize hN : (natS (some b)).1 = N at *
  generalize (natS (some b)).2 = st1 at *
  simp
  refine Wp.loopK (fun d E A' => A.Ext A' ∧ Env.at E 4 = .ptr (some (A.next, 0, 0)) ∧ Env.at E 5 = .int .u64 N ∧ ∃ (i : Nat) (v : AV) (l : List OpD), Env.at E 7 = .int .u64 i ∧ i + d = min N 65 ∧ Env.at E 6 = v ∧ AM.Own (A.next + 1) A' 4 v (opsCells l) ∧ l.length = i ∧
      ∃ st, DR A' A.next b st ∧ (N ≤ 64 → match st with
        | some t => opsS N st1 = (l ++ (opsS (N - i) (some t)).1, (opsS (N - i) (some t)).2)
        | none => ∀ t, (opsS N st1).2 ≠ some t)) (min N 65) ?_ ?_
  · refine ⟨x2, by simp, by simp, 0, .slice none 0 0 0 0, [], by simp, by simp, by simp, by simpa [opsCells] using AM.Own.nil _ _ _, rfl, st1, hi2, fun _ => ?_⟩
    cases st1 with
    | none => cases N <;> simp [opsS]
    | some t => simp
  rintro d E A1 ⟨x3, e4, e5, i, v, l, e7, hid, e6, hv, hvl, st, hi, hst⟩
  have hi0 := hi
  obtain ⟨s0, e0, w0, i0, hC, he⟩ := hi0
  have l2 := hC.cl.ld 2 (v := .int .i64 e0) rfl
  have el := lss_nat .u64 i N
  have el65 : binOf .lss (.int .u64 (i : Int)) (.int .u64 65) = some (.bool (decide (i < 65))) := by rw [bin_lss]; simp; omega
  by_cases hgo : (i < N ∧ i < 65) ∧ st.isSome = true
  · obtain ⟨⟨hiN, hi65⟩, hsome⟩ := hgo
    cases st with
    | none => cases hsome
    | some t =>
    simp at he
    obtain ⟨rfl, _⟩ := he
    rw [decide_eq_true hiN] at el
    rw [decide_eq_true hi65] at el65
    simp [e4, e5, e7, el, el65, AV.addr, l2, ops_callf, allKnown, -bin_lss]
    have hA1 : A.next < A1.next := hi.lt
    refine (rNat_spec hi).mono fun r C1 ⟨hr, n1, j1⟩ => ?_
    subst hr
    have hklt := natS_lt (some t)
    generalize hk : (natS (some t)).1 = k at *
    generalize hs1 : (natS (some t)).2 = s1 at *
    have egk : binOf .gtr (.int .u64 (k : Int)) (.int .u64 1000) = some (.bool (decide (1000 < k))) := by rw [bin_gtr]; simp; omega
    have hop : opS (some t) = (⟨k, (strS 16 s1).1, (numS (strS 16 s1).2).1, (numS (numS (strS 16 s1).2).2).1⟩, (numS (numS (strS 16 s1).2).2).2) := by
      unfold opS
      simp only [hk, hs1]
    have hNi : N - i = (N - (i + 1)) + 1 := by omega
    have hstep : opsS (N - i) (some t) = ((opS (some t)).1 :: (opsS (N - (i + 1)) (opS (some t)).2).1, (opsS (N - (i + 1)) (opS (some t)).2).2) := by
      rw [hNi]
      simp only [opsS]
    simp [egk, -bin_gtr]
    refine contC_of (fun hc => ?_) (fun hc => ?_)
    · simp at hc
      have hd : decP mayL b = none := by
        rw [hdec]
        by_cases h64 : 64 < N
        · rw [if_pos h64]
        · rw [if_neg h64, hst (by omega), hstep, hop]
          have hmay : mayL ⟨(k : Int), (strS 16 s1).1, (numS (strS 16 s1).2).1, (numS (numS (strS 16 s1).2).2).1⟩ = false := by
            unfold mayL
            rw [plain_big (by simp only; omega)]
            rfl
          simp only
          cases (opsS (N - (i + 1)) (numS (numS (strS 16 s1).2).2).2).2 with
          | none => rfl
          | some u =>
            cases u with
            | nil => simp [hmay]
            | cons w u => rfl
      simp [hd]
      exact ⟨Nat.le_trans x3.next n1.next, fun f hf => (n1.get f (Nat.lt_of_lt_of_le hf x3.next) (by omega)).trans (x3.get f hf)⟩
    · simp at hc
      have ecv : convV .i64 (.int .u64 (k : Int)) = some (.int .i64 (k : Int)) := by rw [convV_int, wrap_i64_nat (by omega)]
      obtain ⟨C2, k1, k2, k3⟩ := slot C1 ⟨k, [], 0, 0⟩
      simp only at k1 k2
      have c2 : Cl C2 C1.next [.int .i64 k, .str [], .int .i64 0, .int .i64 0] := ⟨k2.lt, k2.get⟩
      have hpC : A.next < C1.next := j1.lt
      simp only [Go.AM.wp_skip, seqK_normal, Go.AM.wp_seq]
      simp [ecv, fillA, AV.isBot, AV.cells, splice, Made.value, k1, e4, ops_callf, allKnown, -convV_int]
      refine (rStr_spec (j1.ext k3) (most := 16) (by decide)).mono fun r C3 ⟨hr, n3, j3⟩ => ?_
      subst hr
      generalize hky : (strS 16 s1).1 = key at *
      generalize hs2 : (strS 16 s1).2 = s2 at *
      have c3 := c2.mod n3 (by omega)
      obtain ⟨C4, u1, n4, c4⟩ := setCl c3 1 (by simp) (v := .str key) rfl rfl rfl
      have j4 := j3.mod n4 fun f hf => by rw [hf]; exact hpC
      simp [AV.addr, u1, e4, ops_callf, allKnown]
      refine (rNum_spec j4).mono fun r C5 ⟨hr, n5, j5⟩ => ?_
      subst hr
      generalize hn : (numS s2).1 = n at *
      generalize hs3 : (numS s2).2 = s3 at *
      have c5 := c4.mod n5 (by omega)
      obtain ⟨C6, u2, n6, c6⟩ := setCl c5 2 (by simp) (v := .int .i64 n) rfl rfl rfl
      have j6 := j5.mod n6 fun f hf => by rw [hf]; exact hpC
      simp [AV.addr, u2, e4, ops_callf, allKnown]
      refine (rNum_spec j6).mono fun r C7 ⟨hr, n7, j7⟩ => ?_
      subst hr
      generalize hlo : (numS s3).1 = lo at *
      generalize hs4 : (numS s3).2 = s4 at *
      have c7 := c6.mod n7 (by omega)
      obtain ⟨C8, u3, n8, c8⟩ := setCl c7 3 (by simp) (v := .int .i64 lo) rfl rfl rfl
      have j8 := j7.mod n8 fun f hf => by rw [hf]; exact hpC
      have ldv := c8.lda 0 4 (by simp)
      simp at ldv
      have M : Mod (fun f => f = A.next ∨ f = C1.next) A1 C8 := (n1.mono fun f _ h => .inl h).trans ((Mod.of_ext k3).trans ((n3.mono fun f _ h => .inl h).trans ((n4.mono fun f _ h => .inr h).trans ((n5.mono fun f _ h => .inl h).trans ((n6.mono fun f _ h => .inr h).trans ((n7.mono fun f _ h => .inl h).trans (n8.mono fun f _ h => .inr h)))))))
      have hC1 := n1.next
      have hv8 := hv.of_get M.next fun p po len cap q hs => M.get p.1 (Sl.into_lt hv.sl (by rw [hs]; simp [AV.into])) (by
        have h1 := hv.into (f := p.1) (by rw [hs]; simp [AV.into])
        have h2 := Sl.into_lt hv.sl (f := p.1) (by rw [hs]; simp [AV.into])
        omega)
      have hvs : v.slen = l.length := hv.sl.ops_len
      have x9 := ext_make C8 (OpD.cells ⟨k, key, n, lo⟩) 4
      obtain ⟨s', C9, g1, g2, g3, g4, g5⟩ := appendV_own (bytes := 40) (hv8.ext x9) (own_op C8 ⟨k, key, n, lo⟩).sl (Nat.le_trans hA1 (Nat.le_trans M.next x9.next)) (by decide) (opsCells_flat _) (by rw [hvs, slen_slice]; omega) (by rw [hvs, slen_slice]; omega)
      rw [← opsCells_append] at g3
      have hcc : OpD.cells ⟨k, key, n, lo⟩ = [.int .i64 k, .str key, .int .i64 n, .int .i64 lo] := rfl
      have m9 : Mod (fun f => v.into f = true) (C8.make (OpD.cells ⟨k, key, n, lo⟩) 4).2 C9 := ⟨g4.next, fun f hf hw => g4.get f hf (by simpa using hw)⟩
      have j9 := (j8.ext x9).mod m9 fun f hf => hv.into hf
      rw [hcc] at g1
      have e31 : binOf .add (.int .u64 (i : Int)) (.int .u64 1) = some (.int .u64 ((i + 1 : Nat) : Int)) := by
        rw [bin_add, show (i : Int) + 1 = ((i + 1 : Nat) : Int) by omega, wrap_un_small rfl (show i + 1 < 2 ^ 64 by omega)]
      simp [AV.addr, u3, ldv, e4, e6, e7, fillA, AV.isBot, AV.cells, splice, Made.value, g1, e31, -bin_add]
      have x10 : A.Ext C9 := ⟨Nat.le_trans x3.next (Nat.le_trans M.next (Nat.le_trans x9.next m9.next)), fun f hf => by
        have h1 := Nat.lt_of_lt_of_le hf x3.next
        have h8 := Nat.lt_of_lt_of_le h1 M.next
        have h9 := Nat.lt_of_lt_of_le h8 x9.next
        rw [m9.get f h9 (fun hw => by have := hv.into hw; omega), x9.get f h8, M.get f h1 (by omega), x3.get f hf]⟩
      refine ⟨d - 1, by omega, x10, e5, i + 1, by omega, by omega, _, g3, by simp [hvl], s4, j9, fun h64 => ?_⟩
      have hh := hst h64
      simp only at hh
      rw [hstep, hop] at hh
      cases s4 with
      | none =>
        rw [hh]
        cases (N - (i + 1)) <;> simp [opsS]
      | some t' =>
        simp only
        rw [hh, List.append_assoc]
        rfl
  · -- the loop is over: nothing more is to be read, or something was wrong, or there are too many
    have hq : (i < N → ¬ i < 65 ∨ ¬ e0 = 0) := fun h => by
      by_cases h65 : i < 65
      · right
        intro h0
        cases st with
        | none => exact he h0
        | some t => exact hgo ⟨⟨h, h65⟩, rfl⟩
      · exact .inl h65
    have h3 : (i < N ∧ i < 65) ∨ (i < N ∧ ¬ i < 65) ∨ ¬ i < N := by omega
    rcases h3 with ⟨hiN, h65⟩ | ⟨hiN, h65⟩ | hiN
    case' inl =>
      have h0 : ¬ e0 = 0 := (hq hiN).resolve_left fun h => h h65
      rw [decide_eq_true hiN] at el
      rw [decide_eq_true h65] at el65
      simp [e4, e5, e7, el, el65, AV.addr, l2, h0, ops_callf, allKnown, -bin_lss]
    case' inr.inl =>
      rw [decide_eq_true hiN] at el
      rw [decide_eq_false h65] at el65
      simp [e4, e5, e7, el, el65, ops_callf, allKnown, -bin_lss]
    case' inr.inr =>
      rw [decide_eq_false hiN] at el
      simp [e4, e5, e7, el, ops_callf, allKnown, -bin_lss]
    all_goals
      refine (rEnd_spec hi).mono fun r B3 ⟨m, c2, hr, hc2⟩ => ?_
      subst hr
      have xB : A.Ext B3 := ⟨Nat.le_trans x3.next m.next, fun f hf => (m.get f (Nat.lt_of_lt_of_le hf x3.next) (by omega)).trans (x3.get f hf)⟩
      have hv3 := hv.of_get m.next fun p po len cap q hs => m.get p.1 (Sl.into_lt hv.sl (by rw [hs]; simp [AV.into])) (by have := hv.into (f := p.1) (by rw [hs]; simp [AV.into]); omega)
      have egN : binOf .gtr (.int .u64 (N : Int)) (.int .u64 64) = some (.bool (decide (64 < N))) := by rw [bin_gtr]; simp; omega
      have hlast : N ≤ 64 → ∀ t, st = some t → opsS N st1 = (l, some t) := fun h64 t ht => by
        have hiN' : i = N := by
          rcases Nat.lt_or_ge i N with h | h
          · have := hq h
            rcases this with h5 | h5
            · omega
            · subst ht; exact absurd he.1 h5
          · omega
        have hh := hst h64
        subst ht
        simp only at hh
        rw [hh, hiN', Nat.sub_self]
        simp [opsS]
      by_cases hc0 : c2 = 0
      · have hs0 := hc2.1 hc0
        by_cases h64 : 64 < N
        · rw [decide_eq_true h64] at egN
          rw [if_pos h64] at hdec
          simp [hc0, e5, egN, hdec, -bin_gtr]
          exact xB
        · rw [decide_eq_false h64] at egN
          rw [if_neg h64, hlast (by omega) [] hs0] at hdec
          simp only at hdec
          simp [hc0, e5, e6, egN, hv3.sl.ops_lenV, -bin_gtr]
          refine Wp.loopK (fun d E A' => B3.Ext A' ∧ Env.at E 59 = v ∧ Env.at E 60 = .int .i64 l.length ∧ Env.at E 6 = v ∧ ∃ j : Nat, Env.at E 61 = .int .i64 j ∧ j + d = l.length ∧ AllT mayL (l.take j)) l.length ?_ ?_
          · exact ⟨St.Ext.refl B3, by simp [e6], by simp, by simp [e6], 0, by simp, by simp, by simp [AllT]⟩
          rintro d2 E2 A2 ⟨y1, f59, f60, f6, j, f61, hj, hall⟩
          simp [f60, f61, lss_nat, -bin_lss]
          refine contC_of (fun hc => ?_) (fun hc => ?_)
          · simp at hc
            obtain ⟨o, ho⟩ : ∃ o, l[j]? = some o := ⟨_, List.getElem?_eq_getElem hc⟩
            obtain ⟨q, g1, g2⟩ := (hv3.ext y1).sl.op_at ho .i64
            obtain ⟨A3, k1, k2, k3⟩ := slot A2 o
            have ea := add_one (i := j) (by omega)
            have hta := take_all ho hall
            simp [OpD.cells] at g2
            simp [-bin_add] at ea
            simp [f59, f60, f61, g1, g2, Made.value, k1, k2.ld, ops_callf, allKnown]
            refine (rmay_spec o).mono fun r A4 ⟨xm, hr⟩ => ?_
            subst hr
            have xx := xB.trans (y1.trans (k3.trans xm))
            cases hmay : mayL o with
            | false =>
              have hd : decP mayL b = none := by rw [hdec, hta.2 hmay]; rfl
              simp [hmay, hd]
              exact xx
            | true =>
              simp [hmay, f59, f60, f61, f6, ea, -bin_add]
              exact ⟨d2 - 1, by omega, y1.trans (k3.trans xm), j + 1, by omega, by omega, hta.1 hmay⟩
          · simp at hc
            have hjl : j = l.length := by omega
            rw [hjl, List.take_length] at hall
            have hd : decP mayL b = some l := by rw [hdec, if_pos (show l.all mayL = true from hall)]
            have hv4 := hv3.ext y1
            simp [hd, f6, hv4.sl.known]
            exact ⟨xB.trans y1, hv4.mono (Nat.le_succ _)⟩
      · have hs0 : st ≠ some [] := fun h => hc0 (hc2.2 h)
        have hd : decP mayL b = none := by
          rw [hdec]
          by_cases h64 : 64 < N
          · rw [if_pos h64]
          · rw [if_neg h64]
            cases st with
            | none =>
              have hh := hst (by omega)
              simp only at hh
              cases ho : opsS N st1 with
              | mk l' s' =>
                cases s' with
                | none => rfl
                | some t => exact absurd (by rw [ho]) (hh t)
            | some t =>
              rw [hlast (by omega) t rfl]
              cases t with
              | nil => exact absurd rfl hs0
              | cons u t => rfl
        simp [hc0, hd]
        exact xB
end Go.Proofs.YtejlhgcheaimjaaGreatDoor
