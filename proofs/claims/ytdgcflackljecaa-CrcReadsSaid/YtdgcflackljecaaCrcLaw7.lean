/- The fifth law: frames are read. -/
import Derived.Test.YtdgcflackljecaaCrcArg
import Derived.Test.YtdgcflackljecaaCrcAwake
import Derived.Test.YtdgcflackljecaaCrcPeelR
namespace Go.Proofs.Ytdgcflackljecaa
open Go.AM
set_option maxRecDepth 100000
set_option linter.unusedSimpArgs false
variable {D : Disp} {X : Calls'}

theorem bodies_get : ∀ (n : Nat) {l : List UInt8} {j : Nat}, l.length ≤ n → j ≤ (bodies l).length → peel (l.drop (span ((bodies l).take j))) = (bodies l)[j]?
  | n, l, 0, _, _ => by
    cases hp : peel l with
    | none => rw [bodies_none hp]; simp [span, hp]
    | some m => rw [bodies_some hp]; simp [span, hp]
  | 0, l, j + 1, hn, hj => by
    have : peel l = none := peel_short (by omega)
    rw [bodies_none this] at hj
    simp at hj
  | n + 1, l, j + 1, hn, hj => by
    cases hp : peel l with
    | none => rw [bodies_none hp] at hj; simp at hj
    | some m =>
      have hm := (peel_len hp).1
      rw [bodies_some hp] at hj ⊢
      rw [List.take_succ_cons, List.getElem?_cons_succ, span, ← List.drop_drop]
      exact bodies_get n (by rw [List.length_drop]; omega) (by simpa using hj)
theorem length_le_span : ∀ (W : List (List UInt8)), W.length ≤ span W
  | [] => Nat.zero_le _
  | m :: ms => by
    have := length_le_span ms
    simp only [List.length_cons, span]
    omega
theorem span_take_le : ∀ (n : Nat) {l : List UInt8} (j : Nat), l.length ≤ n → span ((bodies l).take j) ≤ l.length
  | n, l, 0, _ => by simp [span]
  | 0, l, j + 1, hn => by
    rw [bodies_none (peel_short (by omega))]
    exact Nat.zero_le _
  | n + 1, l, j + 1, hn => by
    cases hp : peel l with
    | none => rw [bodies_none hp]; exact Nat.zero_le _
    | some m =>
      have hm := (peel_len hp).1
      rw [bodies_some hp, List.take_succ_cons, span]
      have := span_take_le n (l := l.drop (m.length + 7)) j (by rw [List.length_drop]; omega)
      rw [List.length_drop] at this
      omega
theorem xor_u8 (c : UInt8) {x : Int} (h1 : IntKind.u8.min ≤ x) (h2 : x ≤ IntKind.u8.max) : ∃ d : UInt8, binOf .xor (byteV c) (.int .u8 x) = some (byteV d) := by
  have h1 : 0 ≤ x := h1
  have h2 : x ≤ 255 := h2
  obtain ⟨n, rfl⟩ := Int.eq_ofNat_of_zero_le h1
  have hx : c.toNat ^^^ n < 2 ^ 8 := Nat.xor_lt_two_pow c.toNat_lt (by omega)
  refine ⟨UInt8.ofNat (c.toNat ^^^ n), ?_⟩
  have e := bin_xor_un (k := .u8) (a := c.toNat) (b := n) rfl c.toNat_lt (show n < 2 ^ 8 by omega)
  unfold byteV
  rw [UInt8.toNat_ofNat', Nat.mod_eq_of_lt hx]
  exact e

/-- What all of it tells of some bytes. -/
theorem law7 {A : St} {s t0 : AV} {ps : List AV} {ls : List (List UInt8)} {l0 : List UInt8} {sp by0 : Int} (hs : Sl A 1 s ps) (hp : PartsB A ps ls) (hn : ps.length ≤ maxLen) (ht0 : Bs A t0 l0) (hby : IntKind.u8.min ≤ by0 ∧ by0 ≤ IntKind.u8.max) :
    Ev D T.nil fns X 7 [s, t0, .int .i64 sp, .int .u8 by0] A fun r _ => r = .bool true := by
  have hmx : maxLen < 9223372036854775808 := by decide
  refine Ev.fnK (fn := a7) rfl ⟨by simp [a7], by decide⟩ ?_
  unfold a7
  simp [hs.lenV1]
  refine Wp.loopK (fun d E A' => A.Ext A' ∧ Env.at E 1 = t0 ∧ Env.at E 2 = .int .i64 sp ∧ Env.at E 3 = .int .u8 by0 ∧ Env.at E 28 = s ∧ Env.at E 29 = .int .i64 ps.length ∧ ∃ (i : Nat) (b : AV) (bl : List UInt8), Env.at E 30 = .int .i64 i ∧ i + d = ps.length ∧ Env.at E 9 = b ∧
    OwnB A.next A' b bl ∧ bl.length ≤ 207 * (min i 5)) ps.length ?_ ?_
  · exact ⟨St.Ext.refl A, by simp, by simp, by simp, by simp, by simp, 0, .slice none 0 0 0 0, [], by simp, by simp, by simp, .nil _ _ _, by simp⟩
  rintro d E A' ⟨xA, e1, e2, e3, e28, e29, i, b, bl, e30, hd, e9, ob, hbl⟩
  simp [e29, e30, lss_nat, -bin_lss]
  refine contC_of (fun hc => ?_) (fun hc => ?_)
  · simp at hc
    obtain ⟨v, l, hv, hl, hb⟩ := (hp.ext xA).get hc
    obtain ⟨p, g1, g2⟩ := (Sl.ext xA hs).at_one hv .i64
    have el := lss_nat .i64 i 5
    have ea := add_one63 (i := i) (by omega)
    simp [-bin_lss] at el
    simp [e28, e30, g1, g2, el, -bin_lss]
    refine contC_join (fun E A' => A.Ext A' ∧ Env.at E 1 = t0 ∧ Env.at E 2 = .int .i64 sp ∧ Env.at E 3 = .int .u8 by0 ∧ Env.at E 28 = s ∧ Env.at E 29 = .int .i64 ps.length ∧ Env.at E 30 = .int .i64 i ∧ ∃ (b : AV) (bl : List UInt8), Env.at E 9 = b ∧
      OwnB A.next A' b bl ∧ bl.length ≤ 207 * (min (i + 1) 5)) (fun hi => ?_) (fun hi => ?_) ?_
    · simp at hi
      simp [e9, ops_callf, allKnown, hb.allKnown]
      refine (short_spec hb).mono fun t B ⟨hB, hs1⟩ => ?_
      subst hB
      have hll : (l.take 200).length ≤ 200 := by rw [List.length_take]; omega
      generalize l.take 200 = m at *
      simp [ops_callf, allKnown, hs1.allKnown]
      refine (refWrap_spec hs1 (by omega)).mono fun f B ⟨x2, o2⟩ => ?_
      have xB := xA.trans x2
      have hb1 := Bs.len ob.sl
      have hb2 := Bs.len o2.sl
      rw [frame_length] at hb2
      obtain ⟨b2, B2, k1, k2, k3, k4, k5⟩ := appendV_own (bytes := 1) (ob.ext x2) o2.sl xB.next (by decide) (bytesV_flat _) (by omega) (by omega)
      rw [← bytesV_append] at k3
      simp [k1, e1, e2, e3, e28, e29, e30]
      exact ⟨k4.ext xB (ob.ext x2), _, k3, by rw [List.length_append, frame_length]; omega⟩
    · simp at hi
      simp [e1, e2, e3, e28, e29, e30, e9]
      exact ⟨xA, bl, ob, by omega⟩
    rintro E2 B ⟨xB, e1, e2, e3, e28, e29, e30, b2, bl2, e9, ob2, hbl2⟩
    simp [e30, ea, -bin_add]
    exact ⟨d - 1, by omega, xB, e1, e2, e3, e28, e29, i + 1, rfl, by omega, bl2, by rw [e9]; exact ob2, by omega⟩
  · simp at hc
    have hb0 := Sl.ext xA ht0
    simp [e9, e1, ops_callf, allKnown, hb0.allKnown]
    refine (short_spec hb0).mono fun t B ⟨hB, hs1⟩ => ?_
    subst hB
    have hll : (l0.take 200).length ≤ 200 := by rw [List.length_take]; omega
    generalize l0.take 200 = m at *
    have hb1 := Bs.len ob.sl
    have hb2 := Bs.len hs1
    obtain ⟨b2, B2, k1, k2, k3, k4, k5⟩ := appendV_own (bytes := 1) ob hs1 xA.next (by decide) (bytesV_flat _) (by omega) (by omega)
    rw [← bytesV_append] at k3
    have xB2 := k4.ext xA ob
    have hll2 : (bl ++ m).length ≤ 2000 := by rw [List.length_append]; omega
    generalize bl ++ m = bm at *
    have hlv := Bs.lenV k3.sl
    have eg := gtr_nat .i64 bm.length 0
    simp [-bin_gtr] at eg
    simp [k1, hlv, eg, -bin_gtr]
    refine contC_join (fun E B => A.Ext B ∧ ∃ (L : List UInt8) (b : AV), Env.at E 9 = b ∧ OwnB A.next B b L ∧ L.length ≤ 2000) (fun hi => ?_) (fun hi => ?_) ?_
    · simp at hi
      obtain ⟨r, er, hr1, hr2⟩ := rem_int sp (b := bm.length) (by omega)
      simp [e2, hlv, er]
      refine contC_join (fun E B => B2 = B ∧ Env.at E 9 = b2 ∧ Env.at E 3 = .int .u8 by0 ∧ ∃ c : Nat, c < bm.length ∧ Env.at E 12 = .int .i64 c) (fun hc => ?_) (fun hc => ?_) ?_
      · simp at hc
        obtain ⟨c, hc1, ec⟩ := neg_int hr1 hc (by omega)
        simp [ec, e3]
        exact ⟨c, hc1, rfl⟩
      · simp at hc
        simp [e3]
        exact ⟨r.toNat, by omega, by rw [Int.toNat_of_nonneg hc]⟩
      rintro E2 _ ⟨rfl, e9, e3, c, hc1, e12⟩
      have hcc := List.getElem?_eq_getElem hc1
      generalize bm[c] = ch at *
      obtain ⟨dd, ed⟩ := xor_u8 ch hby.1 hby.2
      obtain ⟨p, C, g1, g2, g3, g4, g5⟩ := OwnB.at_store k3 hcc .i64 dd
      simp [e9, e12, g1, g2, e3, ed, g3]
      exact ⟨g5.ext xB2 k3, _, g4, by rw [List.length_set]; exact hll2⟩
    · simp
      exact ⟨xB2, bm, k3, hll2⟩
    rintro E2 B ⟨xB, L, b3, e9, oL, hL⟩
    have hbL := oL.sl
    simp [e9]
    refine ops_join (fun E C => A.Ext C ∧ Env.at E 9 = b3 ∧ OwnB A.next C b3 L) ?_ ?_
    · simp [ops_callf, allKnown, hbL.allKnown]
      refine (peel_spec hbL (by omega)).mono fun r1 B1 ⟨x1, h1⟩ => ?_
      have hb1 : Bs B1 b3 L := Sl.ext x1 hbL
      cases hp : peel L with
      | none =>
        rw [hp] at h1
        subst h1
        simp [e9, ops_callf, allKnown, hb1.allKnown]
        refine (refPeel_spec hb1 (by omega)).mono fun r2 B2' ⟨x2, h2⟩ => ?_
        rw [hp] at h2
        subst h2
        have hb2 : Bs B2' b3 L := Sl.ext x2 hb1
        simp [e9, ops_callf, allKnown, hb2.allKnown]
        refine (one_spec hb2 (by omega)).mono fun r3 B3 ⟨x3, h3⟩ => ?_
        have ho : one L = none := by unfold one; rw [hp]
        rw [ho] at h3
        subst h3
        have tn : textV B3 (.slice none 0 0 0 0) = some (.str []) := rfl
        simp [tn, e9]
        have x := x1.trans (x2.trans x3)
        exact ⟨xB.trans x, oL.ext x⟩
      | some m =>
        rw [hp] at h1
        obtain ⟨k, hk⟩ : ∃ k, k = m.length + 7 := ⟨_, rfl⟩
        dsimp only at h1
        rw [← hk] at h1
        obtain ⟨v1, rfl, o1⟩ := h1
        simp [e9, ops_callf, allKnown, hb1.allKnown]
        refine (refPeel_spec hb1 (by omega)).mono fun r2 B2' ⟨x2, h2⟩ => ?_
        rw [hp] at h2
        dsimp only at h2
        rw [← hk] at h2
        obtain ⟨v2, rfl, o2⟩ := h2
        have hb2 : Bs B2' b3 L := Sl.ext x2 hb1
        simp [e9, ops_callf, allKnown, hb2.allKnown]
        refine (one_spec hb2 (by omega)).mono fun r3 B3 ⟨x3, h3⟩ => ?_
        have x := x1.trans (x2.trans x3)
        have hb3 : Bs B3 b3 L := Sl.ext x3 hb2
        have t1 := (Sl.ext (x2.trans x3) o1.sl).text
        have t2 := Bs.text (Sl.ext x3 o2)
        have hlL := hb3.lenV
        have hnn := neq_nat .i64 k k
        rw [decide_eq_false (by simp)] at hnn
        have hgt := gtr_nat .i64 k 0
        rw [decide_eq_true (by omega)] at hgt
        have hnl := eql_nat .i64 k L.length
        have h1 : one L = if k = L.length then some m else none := by unfold one; rw [hp, hk]
        simp [-bin_gtr] at hgt
        by_cases hkl : k = L.length
        · rw [if_pos hkl] at h1
          rw [decide_eq_true hkl] at hnl
          rw [h1] at h3
          obtain ⟨v3, rfl, o3⟩ := h3
          simp [e9, hnn, hgt, hnl, t1, t2, hlL, o3.sl.text, -bin_neq, -bin_gtr, -bin_eql]
          exact ⟨xB.trans x, oL.ext x⟩
        · rw [if_neg hkl] at h1
          rw [decide_eq_false hkl] at hnl
          rw [h1] at h3
          subst h3
          have tn : textV B3 (.slice none 0 0 0 0) = some (.str []) := rfl
          have t0 : binOf .gtr (.int .i64 0) (.int .i64 0) = some (.bool false) := by simp
          simp [e9, hnn, hgt, hnl, t1, t2, hlL, tn, t0, -bin_neq, -bin_gtr, -bin_eql]
          exact ⟨xB.trans x, oL.ext x⟩
    · rintro E3 C ⟨xC, e9, oC⟩
      have hbC := oC.sl
      simp [e9, ops_callf, allKnown, hbC.allKnown]
      refine (all_spec hbC (by omega)).mono fun r1 G ⟨x1, v, qs, hr, hv, hq⟩ => ?_
      subst hr
      have hget := fun (j : Nat) (h : j ≤ (bodies L).length) => bodies_get L.length (l := L) (j := j) (Nat.le_refl _) h
      have hspl := fun (j : Nat) => span_take_le L.length (l := L) j (Nat.le_refl _)
      have hall : span (bodies L) = span ((bodies L).take (bodies L).length) := by rw [List.take_length]
      have xG := xC.trans x1
      have hbG : Bs G b3 L := Sl.ext x1 hbC
      generalize hW : bodies L = W at *
      have hvl := hv.lenV1
      rw [hq.length] at hvl
      simp [hvl]
      refine Wp.loopK (fun d E M => G.Ext M ∧ Env.at E 9 = b3 ∧ Env.at E 20 = .int .i64 (span W) ∧ Env.at E 126 = v ∧ Env.at E 127 = .int .i64 W.length ∧ ∃ j a : Nat, Env.at E 128 = .int .i64 j ∧ j + d = W.length ∧ a = span (W.take j) ∧ Env.at E 21 = .int .i64 a) W.length ?_ ?_
      · exact ⟨St.Ext.refl G, by simp [e9], by simp, by simp, by simp, 0, 0, by simp, by simp, by simp [span], by simp⟩
      rintro d4 E4 M ⟨xM, e9, e20, e126, e127, j, a, e128, hj, ha, e21⟩
      simp [e127, e128, lss_nat, -bin_lss]
      have haL : a ≤ L.length := by rw [ha]; exact hspl j
      have hbM : Bs M b3 L := Sl.ext xM hbG
      obtain ⟨s1, g1, g2, g3⟩ := Sl.cutFrom hbM (lo := a) (by rw [hbM.len]; exact haL) (k := .i64)
      rw [Nat.mul_one, bytesV_drop] at g3
      refine contC_of (fun hc4 => ?_) (fun hc4 => ?_)
      · simp at hc4
        obtain ⟨z, m, hz, hm, hbz⟩ := (hq.ext xM).get (i := j) (by rw [hq.length]; exact hc4)
        obtain ⟨p1, h1, h2⟩ := (Sl.ext xM hv).at_one hz .i64
        have hpl := hget j (by omega)
        rw [hm, ← ha] at hpl
        simp [e126, e128, h1, h2, e9, e21, g1, ops_callf, allKnown, g3.allKnown]
        refine (refPeel_spec g3 (by rw [List.length_drop]; omega)).mono fun r2 K ⟨x2, h2⟩ => ?_
        rw [hpl] at h2
        obtain ⟨k, hk⟩ : ∃ k, k = m.length + 7 := ⟨_, rfl⟩
        dsimp only at h2
        rw [← hk] at h2
        obtain ⟨v2, rfl, o2⟩ := h2
        have t1 := Bs.text o2
        have t2 := Bs.text (Sl.ext x2 hbz)
        have hz0 := eql_nat .i64 k 0
        rw [decide_eq_false (by omega)] at hz0
        have hkL := (peel_len hpl).1
        rw [List.length_drop] at hkL
        obtain ⟨a2, ha2, ea2⟩ := add_nat (a := a) (b := k) (by omega) (by omega)
        have ea := add_one (i := j) (by
          have := length_le_span W
          have := hspl W.length
          rw [List.take_length] at this
          omega)
        simp [-bin_eql] at hz0
        simp [hz0, t1, t2, e21, e128, ea2, ea, -bin_eql, -bin_add]
        refine ⟨d4 - 1, by omega, xM.trans x2, e9, e20, e126, e127, j + 1, rfl, by omega, ?_⟩
        rw [ha2, ha, take_succ_of hm, span_append, hk]
        simp [span]
      · simp at hc4
        have hjW : j = W.length := by omega
        have hpl := hget j (by omega)
        rw [hjW, List.getElem?_eq_none (Nat.le_refl _), ← hjW, ← ha] at hpl
        have haW : a = span W := by rw [ha, hjW, List.take_length]
        simp [e9, e21, g1, ops_callf, allKnown, g3.allKnown]
        refine (refPeel_spec g3 (by rw [List.length_drop]; omega)).mono fun r2 K ⟨x2, h2⟩ => ?_
        rw [hpl] at h2
        subst h2
        have heq := eql_nat .i64 (span W) (span W)
        rw [decide_eq_true rfl] at heq
        simp [e20, e21, haW, ops_callf, allKnown]
        refine (awake_spec K).mono fun r3 C3 ⟨x4, h⟩ => ?_
        subst h
        simp
end Go.Proofs.Ytdgcflackljecaa
