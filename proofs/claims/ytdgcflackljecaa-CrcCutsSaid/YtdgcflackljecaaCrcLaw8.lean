/- The sixth law: frames that are cut. -/
import Derived.Test.YtdgcflackljecaaCrcArg
import Derived.Test.YtdgcflackljecaaCrcAwake
import Derived.Test.YtdgcflackljecaaCrcFrames
namespace Go.Proofs.Ytdgcflackljecaa
open Go.AM
set_option maxRecDepth 100000
set_option linter.unusedSimpArgs false
variable {D : Disp} {X : Calls'}

/-- Two slices that lie apart. -/
def Disj (s t : AV) : Prop := ∀ f, s.into f = true → t.into f = false
def intsV (l : List Nat) : List AV := l.map fun (n : Nat) => AV.int .i64 (n : Int)
theorem intsV_flat (l : List Nat) : (intsV l).all AV.flat = true := by simp [intsV, AV.flat]
theorem Own.but {A B : St} {s t : AV} {lo sz : Nat} {cs : List AV} (h : But A B s) (hd : Disj s t) (o : Own lo A sz t cs) : Own lo B sz t cs := by
  refine o.of_get h.next fun p po len cap q ht => ?_
  have hlt : p.1 < A.next := Sl.into_lt (f := p.1) o.sl (by rw [ht]; simp [AV.into])
  refine h.get _ hlt ?_
  cases hi : s.into p.1 with
  | false => rfl
  | true =>
    have := hd _ hi
    rw [ht] at this
    simp [AV.into] at this

/-- The bodies of the first parts. -/
def mids (ls : List (List UInt8)) (i : Nat) : List (List UInt8) := ((ls.take i).take 5).map (·.take 200)
theorem mids_len (ls : List (List UInt8)) (i : Nat) : (mids ls i).length ≤ 5 := by simp [mids]; omega
theorem mids_le (ls : List (List UInt8)) (i : Nat) : ∀ m ∈ mids ls i, m.length ≤ 200 := by
  intro m hm
  simp only [mids, List.mem_map] at hm
  obtain ⟨l, _, rfl⟩ := hm
  rw [List.length_take]
  omega
theorem mids_succ {ls : List (List UInt8)} {i : Nat} {l : List UInt8} (h : ls[i]? = some l) (hi : i < 5) : mids ls (i + 1) = mids ls i ++ [l.take 200] := by
  unfold mids
  rw [List.take_of_length_le (l := ls.take i) (by rw [List.length_take]; omega), List.take_of_length_le (l := ls.take (i + 1)) (by rw [List.length_take]; omega), take_succ_of h, List.map_append]
  rfl
theorem mids_stay {ls : List (List UInt8)} {i : Nat} (hi : 5 ≤ i) : mids ls (i + 1) = mids ls i := by
  unfold mids
  rw [List.take_take, List.take_take, Nat.min_eq_left (by omega), Nat.min_eq_left (by omega)]
theorem mids_get {ls : List (List UInt8)} {i j : Nat} {m : List UInt8} (h : (mids ls i)[j]? = some m) : ∃ l, ls[j]? = some l ∧ m = l.take 200 := by
  unfold mids at h
  rw [List.getElem?_map] at h
  cases hl : ((ls.take i).take 5)[j]? with
  | none => rw [hl] at h; cases h
  | some l =>
    rw [hl] at h
    cases h
    refine ⟨l, ?_, rfl⟩
    rw [List.take_take] at hl
    have hj := (List.getElem?_eq_some_iff.1 hl).1
    rw [List.length_take] at hj
    rwa [List.getElem?_take_of_lt (by omega)] at hl
theorem span_le {k : Nat} : ∀ {ms : List (List UInt8)}, (∀ m ∈ ms, m.length ≤ k) → span ms ≤ ms.length * (k + 7)
  | [], _ => Nat.zero_le _
  | m :: ms, h => by
    have h1 := h m List.mem_cons_self
    have h2 := span_le (k := k) (ms := ms) fun q hq => h q (List.mem_cons_of_mem _ hq)
    simp only [span, List.length_cons, Nat.succ_mul]
    omega
theorem mids_span (ls : List (List UInt8)) (i : Nat) : span (mids ls i) ≤ 1035 := by
  have h1 := span_le (mids_le ls i)
  have h2 := Nat.mul_le_mul_right 207 (mids_len ls i)
  omega

theorem _root_.Go.AM.Sl.beq {A : St} {sz : Nat} {s : AV} {cs : List AV} (h : Sl A sz s cs) : AV.beq s s = true := by
  cases h <;> simp [AV.beq]

theorem law8 {A : St} {s : AV} {ps : List AV} {ls : List (List UInt8)} {cut : Int} (hs : Sl A 1 s ps) (hp : PartsB A ps ls) (hn : ps.length ≤ maxLen) :
    Ev D T.nil fns X 8 [s, .int .i64 cut] A fun r _ => r = .bool true := by
  have hmx : maxLen < 9223372036854775808 := by decide
  refine Ev.fnK (fn := a8) rfl ⟨by simp [a8], by decide⟩ ?_
  unfold a8
  simp [hs.lenV1]
  refine Wp.loopK (fun d E A' => A.Ext A' ∧ Env.at E 0 = s ∧ Env.at E 1 = .int .i64 cut ∧ Env.at E 16 = s ∧ Env.at E 17 = .int .i64 ps.length ∧ ∃ (i : Nat) (b e : AV), Env.at E 18 = .int .i64 i ∧ i + d = ps.length ∧ Env.at E 5 = b ∧ Env.at E 6 = e ∧
    OwnB A.next A' b (fr (mids ls i)) ∧ Own A.next A' 1 e (intsV (endsFrom 0 (mids ls i))) ∧ Disj b e) ps.length ?_ ?_
  · exact ⟨St.Ext.refl A, by simp, by simp, by simp, by simp, 0, .slice none 0 0 0 0, .slice none 0 0 0 0, by simp, by simp, by simp, by simp, .nil _ _ _, .nil _ _ _, fun f hf => by simp [AV.into] at hf⟩
  rintro d E A' ⟨xA, e0, e1, e16, e17, i, b, e, e18, hd, e5, e6, ob, oe, hdj⟩
  simp [e17, e18, lss_nat, -bin_lss]
  refine contC_of (fun hc => ?_) (fun hc => ?_)
  · simp at hc
    obtain ⟨v, l, hv, hl, hb⟩ := (hp.ext xA).get hc
    obtain ⟨p, g1, g2⟩ := (Sl.ext xA hs).at_one hv .i64
    have el := lss_nat .i64 i 5
    have ea := add_one63 (i := i) (by omega)
    simp [-bin_lss] at el
    simp [e16, e18, g1, g2, el, -bin_lss]
    refine contC_join (fun E A' => A.Ext A' ∧ Env.at E 0 = s ∧ Env.at E 1 = .int .i64 cut ∧ Env.at E 16 = s ∧ Env.at E 17 = .int .i64 ps.length ∧ Env.at E 18 = .int .i64 i ∧ ∃ (b e : AV), Env.at E 5 = b ∧ Env.at E 6 = e ∧
      OwnB A.next A' b (fr (mids ls (i + 1))) ∧ Own A.next A' 1 e (intsV (endsFrom 0 (mids ls (i + 1)))) ∧ Disj b e) (fun hi => ?_) (fun hi => ?_) ?_
    · simp at hi
      simp [e5, ops_callf, allKnown, hb.allKnown]
      refine (short_spec hb).mono fun t B ⟨hB, hs1⟩ => ?_
      subst hB
      have hll : (l.take 200).length ≤ 200 := by rw [List.length_take]; omega
      have hms := mids_succ hl hi
      have hsp := mids_span ls i
      have hml := mids_len ls i
      generalize l.take 200 = m at *
      simp [fillA, splice, Made.value, hs1.cells, hs1.notBot, ops_callf, allKnown]
      have p1 : Own A'.next (A'.make [t] 1).2 1 (.slice (some (A'.next, 0, 0)) 0 1 1 0) [t] := own_built A' rfl
      have x1 := ext_make A' [t] 1
      generalize (A'.make [t] 1).2 = A1 at *
      refine (wrap_spec p1.sl (ls := [m]) ⟨Sl.ext x1 hs1, trivial⟩ (by simp) (by simp; omega)).mono fun f B h => ?_
      simp only [List.flatten_cons, List.flatten_nil, List.append_nil] at h
      rcases h with ⟨_, x2, o2⟩ | ⟨hgt, _⟩
      rotate_left
      · omega
      have x12 := x1.trans x2
      have xB := xA.trans x12
      have hbl := Bs.len (ob.sl)
      rw [fr_length] at hbl
      have hfl := Bs.len o2.sl
      rw [frame_length] at hfl
      obtain ⟨b2, B2, k1, k2, k3, k4, k5⟩ := appendV_own (bytes := 1) (ob.ext x12) o2.sl xB.next (by decide) (bytesV_flat _) (by omega) (by omega)
      have hfr : fr (mids ls (i + 1)) = fr (mids ls i) ++ frame m := by rw [hms, fr_append]; simp [fr]
      rw [← bytesV_append, ← hfr] at k3
      have xB2 := k4.ext xB (ob.ext x12)
      have oe2 := Own.but k4 hdj (oe.ext x12)
      have hlv := Bs.lenV k3.sl
      rw [fr_length] at hlv
      simp [k1, e6, hlv, fillA, splice, Made.value]
      have p3 : Own B2.next (B2.make [AV.int .i64 (span (mids ls (i + 1)) : Nat)] 1).2 1 (.slice (some (B2.next, 0, 0)) 0 1 1 0) [AV.int .i64 (span (mids ls (i + 1)) : Nat)] := own_built B2 rfl
      have x3 := ext_make B2 [AV.int .i64 (span (mids ls (i + 1)) : Nat)] 1
      generalize (B2.make [AV.int .i64 (span (mids ls (i + 1)) : Nat)] 1).2 = B3 at *
      have hel := oe2.sl.length
      have hen : (endsFrom 0 (mids ls i)).length ≤ 5 := by
        have : ∀ (a : Nat) (ms : List (List UInt8)), (endsFrom a ms).length = ms.length := fun a ms => by
          induction ms generalizing a with
          | nil => rfl
          | cons m ms ih => simp [endsFrom, ih]
        rw [this]; exact hml
      rw [Nat.mul_one] at hel
      simp only [intsV, List.length_map] at hel
      obtain ⟨e2, B4, m1, m2, m3, m4, m5⟩ := appendV_own (bytes := 8) (oe2.ext x3) p3.sl (xB2.trans x3).next (by decide) (by simp [AV.flat]) (by rw [slen_slice]; omega) (by rw [slen_slice]; omega)
      simp [m1, e0, e1, e16, e17, e18]
      have hdj2 : Disj e b2 := fun f hf => by
        cases hi : b2.into f with
        | false => rfl
        | true =>
          rcases k5 f hi with h | h
          · have := hdj f h
            rw [hf] at this
            cases this
          · have := Sl.into_lt (oe.ext x12).sl hf
            omega
      refine ⟨m4.ext (xB2.trans x3) (oe2.ext x3), Own.but m4 hdj2 (k3.ext x3), ?_, ?_⟩
      · have he : endsFrom 0 (mids ls (i + 1)) = endsFrom 0 (mids ls i) ++ [span (mids ls (i + 1))] := by
          rw [hms, endsFrom_append, Nat.zero_add]
        rw [he]
        show Own A.next B4 1 e2 (List.map _ (_ ++ _))
        rw [List.map_append]
        exact m3
      · intro f hf
        cases hi : e2.into f with
        | false => rfl
        | true =>
          rcases m5 f hi with h | h
          · have := hdj2 f h
            rw [hf] at this
            cases this
          · have := Sl.into_lt (k3.ext x3).sl hf
            omega
    · simp at hi
      simp [e0, e1, e16, e17, e18, e5, e6]
      rw [mids_stay (by omega)]
      exact ⟨xA, ob, oe, hdj⟩
    rintro E2 B ⟨xB, e0, e1, e16, e17, e18, b2, e2, e5, e6, ob2, oe2, hdj2⟩
    simp [e18, ea, -bin_add]
    exact ⟨d - 1, by omega, xB, e0, e1, e16, e17, i + 1, rfl, by omega, by rw [e5]; exact ob2, by rw [e6]; exact oe2, by rw [e5, e6]; exact hdj2⟩
  · simp at hc
    have hil : i = ls.length := by rw [← hp.length]; omega
    have hms5 := mids_le ls i
    have hsp := mids_span ls i
    have hml := mids_len ls i
    have hget := fun (j : Nat) (m : List UInt8) => mids_get (ls := ls) (i := i) (j := j) (m := m)
    generalize mids ls i = ms at *
    have hlb := Bs.lenV ob.sl
    rw [fr_length] at hlb
    obtain ⟨n, hn1, en⟩ := add_nat (a := span ms) (b := 1) (by omega) (by omega)
    obtain ⟨r, er, hr1, hr2⟩ := rem_int cut (b := n) (by omega)
    simp [-bin_add] at en
    simp [e1, e5, hlb, en, er, -bin_add]
    refine contC_join (fun E B => A' = B ∧ Env.at E 0 = s ∧ Env.at E 5 = b ∧ Env.at E 6 = e ∧ ∃ c : Nat, c < n ∧ Env.at E 1 = .int .i64 c) (fun hc => ?_) (fun hc => ?_) ?_
    · simp at hc
      obtain ⟨c, hc1, ec⟩ := neg_int hr1 hc (by omega)
      simp [ec, e0, e5, e6]
      exact ⟨c, hc1, rfl⟩
    · simp at hc
      simp [e0, e5, e6]
      exact ⟨r.toNat, by omega, by rw [Int.toNat_of_nonneg hc]⟩
    rintro E2 _ ⟨rfl, e0, e5, e6, c, hc1, e1⟩
    obtain ⟨s1, g1, g2, g3⟩ := Sl.cutTo ob.sl (hi := c) (by rw [Bs.len ob.sl, fr_length]; omega) (j := .i64)
    rw [Nat.mul_one, bytesV_take] at g3
    simp [e5, e1, g1, ops_callf, allKnown, g3.allKnown]
    refine (all_spec g3 (by rw [List.length_take, fr_length]; omega)).mono fun r B h => ?_
    obtain ⟨x2, v, qs, rfl, hv, hq⟩ := h
    rw [bodies_cut (fun m hm => by have := hms5 m hm; omega)] at hq ⊢
    have xB := xA.trans x2
    have oeB := oe.ext x2
    have hfold := fold_ends (c := c) (ms := ms) (a := 0) (w := 0) (Nat.zero_le _)
    simp only [Nat.zero_add, Nat.sub_zero] at hfold
    have hwp := wh_prefix c ms
    have hel : (endsFrom 0 ms).length ≤ 5 := by
      have : ∀ (a : Nat) (ms : List (List UInt8)), (endsFrom a ms).length = ms.length := fun a ms => by
        induction ms generalizing a with
        | nil => rfl
        | cons m ms ih => simp [endsFrom, ih]
      rw [this]; exact hml
    generalize endsFrom 0 ms = es at *
    generalize wh c ms = W at *
    have hes := oeB.sl.lenV1
    simp only [intsV, List.length_map] at hes
    simp [e6, hes]
    refine Wp.loopK (fun d E B' => B = B' ∧ Env.at E 0 = s ∧ Env.at E 1 = .int .i64 c ∧ Env.at E 9 = v ∧ Env.at E 10 = .int .i64 (span W) ∧ Env.at E 53 = e ∧ Env.at E 54 = .int .i64 es.length ∧ ∃ (k : Nat) (x : Nat × Nat), Env.at E 55 = .int .i64 k ∧ k + d = es.length ∧ x = (es.take k).foldl (stepE c) (0, 0) ∧ x.1 ≤ k ∧ Env.at E 11 = .int .i64 x.1 ∧ Env.at E 12 = .int .i64 x.2) es.length ?_ ?_
    · exact ⟨rfl, by simp [e0], by simp [e1], by simp, by simp, by simp, by simp, 0, (0, 0), by simp, by simp, by simp, by simp, by simp, by simp⟩
    rintro d3 E3 _ ⟨rfl, e0, e1, e9, e10, e53, e54, k, x, e55, hk, hx, hxk, e11, e12⟩
    simp [e54, e55, lss_nat, -bin_lss]
    refine contC_of (fun hc3 => ?_) (fun hc3 => ?_)
    · simp at hc3
      have hek := List.getElem?_eq_getElem hc3
      generalize hE : es[k] = ek at *
      obtain ⟨p, h1, h2⟩ := oeB.sl.at_one (j := k) (v := .int .i64 (ek : Nat)) (by simp [intsV, hek]) .i64
      have ea := add_one (i := k) (by omega)
      have hstep : (es.take (k + 1)).foldl (stepE c) (0, 0) = stepE c x ek := by rw [take_succ_of hek, List.foldl_append, ← hx]; rfl
      obtain ⟨w1, hw1, ew⟩ := add_nat (a := x.1) (b := 1) (by omega) (by omega)
      simp [-bin_add] at ew
      simp [e53, e55, h1, h2, e1, leq_nat, -bin_leq]
      refine contC_join (fun E B' => B = B' ∧ Env.at E 0 = s ∧ Env.at E 1 = .int .i64 c ∧ Env.at E 9 = v ∧ Env.at E 10 = .int .i64 (span W) ∧ Env.at E 53 = e ∧ Env.at E 54 = .int .i64 es.length ∧ Env.at E 55 = .int .i64 k ∧ Env.at E 11 = .int .i64 (stepE c x ek).1 ∧ Env.at E 12 = .int .i64 (stepE c x ek).2) (fun hi => ?_) (fun hi => ?_) ?_
      · simp at hi
        simp [e0, e1, e9, e10, e53, e54, e55, e11, ew, -bin_add, stepE, hi, hw1]
      · simp at hi
        have hi' : ¬ ek ≤ c := by omega
        simp [e0, e1, e9, e10, e53, e54, e55, e11, e12, stepE, hi']
      rintro E4 _ ⟨rfl, e0, e1, e9, e10, e53, e54, e55, e11, e12⟩
      simp [e55, ea, -bin_add]
      refine ⟨d3 - 1, by omega, e0, e1, e9, e10, e53, e54, k + 1, rfl, by omega, ?_, by rw [hstep]; exact e11, by rw [hstep]; exact e12⟩
      rw [hstep]
      unfold stepE
      split
      · simp; omega
      · omega
    · simp at hc3
      have hke : k = es.length := by omega
      rw [hke, List.take_length, hfold] at hx
      subst hx
      have hvl := hv.lenV1
      rw [hq.length] at hvl
      simp [e9, hvl, e10, e11, e12]
      refine Wp.loopK (fun d E B' => B = B' ∧ Env.at E 0 = s ∧ Env.at E 9 = v ∧ Env.at E 75 = v ∧ Env.at E 76 = .int .i64 W.length ∧ ∃ j : Nat, Env.at E 77 = .int .i64 j ∧ j + d = W.length) W.length ?_ ?_
      · exact ⟨rfl, by simp [e0], by simp [e9], by simp, by simp, 0, by simp, by simp⟩
      rintro d4 E4 _ ⟨rfl, e0, e9, e75, e76, j, e77, hj⟩
      simp [e76, e77, lss_nat, -bin_lss]
      refine contC_of (fun hc4 => ?_) (fun hc4 => ?_)
      · simp at hc4
        obtain ⟨z, m, hz, hm, hbz⟩ := hq.get (i := j) (by rw [hq.length]; exact hc4)
        obtain ⟨p1, h1, h2⟩ := hv.at_one hz .i64
        have hmm : ms[j]? = some m := by
          rw [hwp, List.getElem?_take_of_lt hc4] at hm
          exact hm
        obtain ⟨l, hl, rfl⟩ := hget j m hmm
        obtain ⟨y, l', hy, hl', hby⟩ := (hp.ext xB).get (i := j) (by rw [hp.length]; exact (List.getElem?_eq_some_iff.1 hl).1)
        rw [hl] at hl'
        cases hl'
        obtain ⟨p2, h3, h4⟩ := (Sl.ext xB hs).at_one hy .i64
        have ea := add_one (i := j) (by omega)
        simp
        refine Wp.draws ?_
        simp [e0, e9, e77, h1, h2, h3, h4, hbz.text, opsD_callf, allKnown, hby.allKnown]
        refine (short_spec hby).mono fun q C ⟨hC, hs5⟩ => ?_
        subst hC
        simp [hs5.text, hbz.text, h2, h4, InAll, AV.beq, hbz.beq, hby.beq, e77, ea, -bin_add]
        exact ⟨d4 - 1, by omega, e0, e9, e75, e76, j + 1, rfl, by omega⟩
      · simp at hc4
        simp [ops_callf, allKnown]
        refine (awake_spec B).mono fun r3 C3 ⟨x4, h⟩ => ?_
        subst h
        simp
end Go.Proofs.Ytdgcflackljecaa
