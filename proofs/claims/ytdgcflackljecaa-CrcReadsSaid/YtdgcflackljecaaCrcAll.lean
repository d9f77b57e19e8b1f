/- What one frame, and all frames, come to. -/
import Derived.Test.YtdgcflackljecaaCrcPeel
namespace Go.Proofs.Ytdgcflackljecaa
open Go.AM
set_option maxRecDepth 100000
set_option linter.unusedSimpArgs false
variable {D : Disp} {X : Calls'}

/-- The body of the one frame that some bytes are. -/
def one (l : List UInt8) : Option (List UInt8) := match peel l with
  | some m => if m.length + 7 = l.length then some m else none
  | none => none
def OneR (A : St) (l : List UInt8) (r : AV) (B : St) : Prop := A.Ext B ∧ match one l with
  | some m => ∃ v, r = .tuple [v, .bool true] ∧ OwnB A.next B v m
  | none => r = .tuple [.slice none 0 0 0 0, .bool false]

theorem one_spec {A : St} {s : AV} {l : List UInt8} (hs : Bs A s l) (hl : l.length < 2 ^ 40) :
    Ev D T.nil fns X 15 [s] A (OneR A l) := by
  refine Ev.fnK (fn := a15) rfl ⟨by simp [a15], by decide⟩ ?_
  unfold a15
  simp [ops_callf, allKnown, hs.allKnown]
  refine (peel_spec hs hl).mono fun r B ⟨x, h⟩ => ?_
  cases hp : peel l with
  | none =>
    rw [hp] at h
    subst h
    simp [OneR, one, hp]
    exact x
  | some m =>
    rw [hp] at h
    obtain ⟨v, rfl, ho⟩ := h
    have h1 : one l = if m.length + 7 = l.length then some m else none := by unfold one; rw [hp]
    have hz := eql_nat .i64 (m.length + 7) 0
    rw [decide_eq_false (by omega)] at hz
    have hne := neq_nat .i64 (m.length + 7) l.length
    have ll := (Sl.ext x hs).lenV
    rw [Bs.len (Sl.ext x hs)] at ll
    generalize m.length + 7 = k at *
    simp [-bin_eql] at hz
    simp [hz, -bin_eql, hne, -bin_neq, ll]
    refine contC_of (fun hc => ?_) (fun hc => ?_)
    · simp at hc
      rw [if_neg hc] at h1
      simp [OneR, h1]
      exact x
    · simp at hc
      rw [if_pos hc] at h1
      simp [OneR, h1, ho.sl.known]
      exact ⟨x, ho⟩

/-- Parts that lie apart from a slice. -/
def Apart (s : AV) (ps : List AV) : Prop := ∀ f, s.into f = true → ∀ v ∈ ps, v.into f = false
theorem PartsB.but {A B : St} {s : AV} (h : But A B s) : ∀ {vs : List AV} {ls : List (List UInt8)}, Apart s vs → PartsB A vs ls → PartsB B vs ls
  | [], [], _, _ => trivial
  | v :: _, _ :: _, ha, e => ⟨Sl.of_get e.1 h.next fun p po len cap q hv => by
      have hf := e.1
      rw [hv] at hf
      refine h.get _ (by cases hf; assumption) ?_
      cases hi : s.into p.1 with
      | false => rfl
      | true =>
        have := ha _ hi v List.mem_cons_self
        rw [hv] at this
        simp [AV.into] at this, PartsB.but h (fun f hf w hw => ha f hf w (List.mem_cons_of_mem _ hw)) e.2⟩
  | [], _ :: _, _, h => h.elim
  | _ :: _, [], _, h => h.elim
theorem PartsB.snoc {A : St} {v : AV} {l : List UInt8} (h : Bs A v l) : ∀ {vs : List AV} {ls : List (List UInt8)}, PartsB A vs ls → PartsB A (vs ++ [v]) (ls ++ [l])
  | [], [], _ => ⟨h, trivial⟩
  | _ :: _, _ :: _, e => ⟨e.1, PartsB.snoc h e.2⟩
  | [], _ :: _, h => h.elim
  | _ :: _, [], h => h.elim
theorem PartsB.flat {A : St} : ∀ {vs : List AV} {ls : List (List UInt8)}, PartsB A vs ls → vs.all AV.flat = true
  | [], [], _ => rfl
  | _ :: _, _ :: _, e => by simp only [List.all_cons, e.1.flat, PartsB.flat e.2, Bool.and_self]
  | [], _ :: _, h => h.elim
  | _ :: _, [], h => h.elim
theorem PartsB.mem_into {A : St} : ∀ {vs : List AV} {ls : List (List UInt8)}, PartsB A vs ls → ∀ v ∈ vs, ∀ f, v.into f = true → f < A.next
  | [], [], _, v, hv, _, _ => by cases hv
  | w :: _, _ :: _, e, v, hv, f, hf => by
    rcases List.mem_cons.1 hv with rfl | hv
    · exact Sl.into_lt e.1 hf
    · exact PartsB.mem_into e.2 v hv f hf
  | [], _ :: _, h, _, _, _, _ => h.elim
  | _ :: _, [], h, _, _, _, _ => h.elim

def AllR (A : St) (l : List UInt8) (r : AV) (B : St) : Prop := A.Ext B ∧ ∃ v ps, r = .tuple [v, .int .i64 (span (bodies l) : Nat)] ∧ Sl B 1 v ps ∧ PartsB B ps (bodies l)

theorem all_spec {A : St} {s : AV} {l : List UInt8} (hs : Bs A s l) (hl : l.length < 2 ^ 40) :
    Ev D T.nil fns X 18 [s] A (AllR A l) := by
  refine Ev.fnK (fn := a18) rfl ⟨by simp [a18], by decide⟩ ?_
  unfold a18
  simp
  refine Wp.loopK (fun d E A' => A.Ext A' ∧ Env.at E 0 = s ∧ ∃ (at' : Nat) (out : AV) (ps : List AV) (ms : List (List UInt8)), Env.at E 4 = out ∧ Env.at E 5 = .int .i64 at' ∧ at' + d = l.length ∧ at' = span ms ∧ bodies l = ms ++ bodies (l.drop at') ∧ ms.length ≤ at' ∧ Own A.next A' 1 out ps ∧ PartsB A' ps ms ∧ Apart out ps) l.length ?_ ?_
  · exact ⟨St.Ext.refl A, by simp, 0, .slice none 0 0 0 0, [], [], by simp, by simp, by simp, rfl, by simp, by simp, .nil _ _ _, trivial, fun f hf => by simp [AV.into] at hf⟩
  rintro d E A' ⟨x, e0, a, out, ps, ms, e4, e5, hd, hsp, hbd, hml, hout, hps, hap⟩
  obtain ⟨s1, g1, g2, g3⟩ := Sl.cutFrom (Sl.ext x hs) (lo := a) (by rw [hs.len]; omega) (k := .i64)
  rw [Nat.mul_one, bytesV_drop] at g3
  have hdl : (l.drop a).length = d := by rw [List.length_drop]; omega
  generalize hk0 : l.drop a = k at *
  simp [e0, e5, g1, ops_callf, allKnown, g3.allKnown]
  refine (peel_spec g3 (by omega)).mono fun r B ⟨x2, h⟩ => ?_
  have xB := x.trans x2
  cases hp : peel k with
  | none =>
    rw [hp] at h
    subst h
    simp [e4, e5, (hout.ext x2).sl.known]
    have hb : bodies l = ms := by rw [hbd, bodies_none hp, List.append_nil]
    exact ⟨xB, out, ps, by rw [hb, hsp], (hout.ext x2).sl, by rw [hb]; exact hps.ext x2⟩
  | some m =>
    rw [hp] at h
    obtain ⟨v, rfl, ho⟩ := h
    have hm := (peel_len hp).1
    have hz := eql_nat .i64 (m.length + 7) 0
    rw [decide_eq_false (by omega)] at hz
    obtain ⟨z, hz2, ez⟩ := add_nat (a := a) (b := m.length + 7) (by omega) (by omega)
    generalize hk : m.length + 7 = kk at *
    simp [-bin_eql] at hz
    simp [hz, -bin_eql, e4, e5, fillA, splice, Made.value, ho.sl.cells, ho.sl.notBot]
    have ho1 : Own B.next (B.make [v] 1).2 1 (.slice (some (B.next, 0, 0)) 0 1 1 0) [v] := own_built B rfl
    have x3 := ext_make B [v] 1
    generalize (B.make [v] 1).2 = B1 at *
    have xB1 := xB.trans x3
    have hol : out.slen = ms.length := by rw [← hps.length, hout.sl.length, Nat.mul_one]
    have hout1 := (hout.ext x2).ext x3
    obtain ⟨s4, B3, k1, k2, k3, k4, k5⟩ := appendV_own (bytes := 24) hout1 ho1.sl xB1.next (by decide) (by simp [ho.sl.flat]) (by rw [hol, slen_slice]; omega) (by rw [hol, slen_slice]; omega)
    simp [k1, e5, ez, -bin_add]
    have hv1 : Bs B1 v m := Sl.ext x3 ho.sl
    have hpB1 := (hps.ext x2).ext x3
    have hap1 : Apart out (ps ++ [v]) := fun f hf w hw => by
      rcases List.mem_append.1 hw with hw | hw
      · exact hap f hf w hw
      · have hw : w = v := by simpa using hw
        subst hw
        cases hi : w.into f with
        | false => rfl
        | true =>
          have h1 := ho.into hi
          have h2 := Sl.into_lt hout.sl hf
          omega
    have hps1 := PartsB.snoc hv1 hpB1
    have hbk : bodies k = m :: bodies (l.drop z) := by rw [bodies_some hp, ← hk0, List.drop_drop, hk, hz2]
    refine ⟨d - kk, by omega, k4.ext xB1 hout1, e0, z, rfl, by omega, ps ++ [v], ms ++ [m], ?_, ?_, ?_, k3, PartsB.but k4 hap1 hps1, ?_⟩
    · rw [span_append, hz2, hsp]; simp [span]; omega
    · rw [hbd, hbk, List.append_assoc]; rfl
    · simp; omega
    · intro f hf w hw
      rcases k5 f hf with h | h
      · exact hap1 f h w hw
      · cases hi : w.into f with
        | false => rfl
        | true =>
          have := PartsB.mem_into hps1 w hw f hi
          omega
end Go.Proofs.Ytdgcflackljecaa
