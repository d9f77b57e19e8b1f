/- The document's May; sums that fit. -/
import Derived.Test.YteoioahkflcchaaGreatDoorOpsMay
namespace Go.Proofs.YteoioahkflcchaaGreatDoor
open Go.AM
set_option maxRecDepth 100000
set_option linter.unusedSimpArgs false
variable {D : Disp} {G0 : Env} {X : Calls'}

theorem rletters_spec {A : St} {s : List UInt8} (hs : s.length ≤ 1000000) : Ev D G0 fnsL X 32 [.str s] A fun r B => A = B ∧ r = .bool (lettersL s) := by
  refine Ev.fnK (fn := a32) rfl ⟨by simp [a32], by decide⟩ ?_
  unfold a32
  simp
  refine Wp.loopK (fun d E A' => A = A' ∧ Env.at E 0 = .str s ∧ ∃ i : Nat, Env.at E 3 = .int .i64 i ∧ i + d = s.length ∧ PreL s i) s.length ?_ ?_
  · exact ⟨rfl, by simp, 0, by simp, by simp, preL_zero s⟩
  rintro d E _ ⟨rfl, e0, i, e3, hi, hall⟩
  simp [e0, e3]
  refine contC_of (fun hc => ?_) (fun hc => ?_)
  · simp at hc
    have hgc : s[i]? = some s[i] := List.getElem?_eq_getElem hc
    obtain ⟨s1, s2⟩ := letters_step hgc hall
    have ea := add_one (i := i) (by omega)
    have hbt : byteAtV (.str s) (.int .i64 i) = some (.int .u8 s[i].toNat) := by
      unfold byteAtV index?
      simp [hc]
    generalize s[i].toNat = n at *
    obtain ⟨b1, b2, b3, b4, b5, b6, C⟩ := cls n
    have hl := C.l
    cases b1 <;> cases b2 <;> cases b3 <;> cases b4 <;> cases b5 <;> cases b6 <;> simp [e0, e3, hbt, C.f1, C.f2, C.f3, C.f4, C.e5, C.e6, ea, -bin_add] <;> simp at hl <;> first | (exact (s2 hl).symm) | (exact s2 hl) | (exact ⟨d - 1, by omega, i + 1, by omega, by omega, s1 hl⟩)
  · simp at hc
    have hid : i = s.length := by omega
    subst hid
    rw [preL_end hall]
    simp [e0]
    cases s <;> simp
theorem rkey_spec {A : St} {s : List UInt8} : Ev D G0 fnsL X 17 [.str s] A fun r B => A = B ∧ r = .bool (keyL s) := by
  refine Ev.fnK (fn := a17) rfl ⟨by simp [a17], by decide⟩ ?_
  unfold a17
  by_cases h : s.length ≤ 16
  · have h' : (s.length : Int) ≤ 16 := by omega
    simp [h', ops_callf, allKnown]
    refine (rletters_spec (by omega)).mono fun r B ⟨hx, hr⟩ => ?_
    subst hr
    simp [keyL, h]
    exact hx
  · have h' : ¬ (s.length : Int) ≤ 16 := by omega
    simp [h', keyL, h]
theorem rmay_spec {A : St} (o : OpD) : Ev D G0 fnsL X 11 [.agg o.cells] A fun r B => A.Ext B ∧ r = .bool (mayL o) := by
  refine Ev.fnK (fn := a11) rfl ⟨by simp [a11], by decide⟩ ?_
  unfold a11
  have hb := B4.make A (.int .i64 o.kind) (.str o.key) (.int .i64 o.n) (.int .i64 o.lo)
  have hx := ext_make A [.int .i64 o.kind, .str o.key, .int .i64 o.n, .int .i64 o.lo] 1
  refine wp_cut (fun E A' => (A.make [.int .i64 o.kind, .str o.key, .int .i64 o.n, .int .i64 o.lo] 1).2 = A' ∧ Env.at E 1 = .ptr (some (A.next, 0, 0)) ∧ plainL o = true) ?_ ?_
  · generalize hA1 : (A.make [.int .i64 o.kind, .str o.key, .int .i64 o.n, .int .i64 o.lo] 1).2 = A1 at *
    obtain ⟨k, s, n, lo⟩ := o
    simp only at hb hx hA1
    by_cases h1 : k < 1
    · have hp : plainL ⟨k, s, n, lo⟩ = false := by
        unfold plainL
        simp only
        rw [if_neg (by omega), if_neg (by omega), decide_eq_false (by omega)]
      simp [OpD.cells, boxV, AV.cells, Made.value, AV.addr, hA1, hb.l0, h1, mayL, hp]
      exact hx
    by_cases h2 : 6 < k
    · have hp : plainL ⟨k, s, n, lo⟩ = false := by
        unfold plainL
        simp only
        rw [if_neg (by omega), if_neg (by omega), decide_eq_false (by omega)]
      simp [OpD.cells, boxV, AV.cells, Made.value, AV.addr, hA1, hb.l0, h1, h2, mayL, hp]
      exact hx
    have hk : k = 1 ∨ k = 2 ∨ k = 3 ∨ k = 4 ∨ k = 5 ∨ k = 6 := by omega
    by_cases hlo : lo = 0 <;> by_cases hn : n = 0 <;> rcases hk with rfl | rfl | rfl | rfl | rfl | rfl <;> simp [OpD.cells, boxV, AV.cells, Made.value, AV.addr, hA1, hb.l0, hb.l1, hb.l2, hb.l3, hlo, hn, plainL, mayL] <;> first | exact hx | exact ext_make _ _ _ | (rw [← hA1]; simp [hlo, hn])
  · generalize hA1 : (A.make [.int .i64 o.kind, .str o.key, .int .i64 o.n, .int .i64 o.lo] 1).2 = A1 at *
    rintro E _ ⟨rfl, e1, hp⟩
    simp [e1, AV.addr, hb.l1, ops_callf, allKnown]
    refine rkey_spec.mono fun r B ⟨hB, hr⟩ => ?_
    subst hB
    subst hr
    cases hk : keyL o.key with
    | true => simp [mayL, hp, hk]; exact hx
    | false =>
      by_cases h16 : o.key.length ≤ 16
      · have h16' : (o.key.length : Int) ≤ 16 := by omega
        by_cases hl1 : 1 < o.key.length
        · have hl1' : (1 : Int) < o.key.length := by omega
          obtain ⟨c, s, hcs⟩ : ∃ c s, o.key = c :: s := by
            cases hks : o.key with
            | nil => rw [hks] at hl1; simp at hl1
            | cons c s => exact ⟨c, s, rfl⟩
          have hbt : byteAtV (.str o.key) (.int .i64 0) = some (.int .u8 c.toNat) := by
            unfold byteAtV index?
            rw [hcs]; simp
          by_cases hc : c = 126
          · have hcn : ((c.toNat : Nat) : Int) = 126 := by rw [hc]; rfl
            have hct : cutStrV (.str o.key) (some (.int .i64 1)) none = some (.str s) := by
              have hb1 : bound? (c :: s).length (.int .i64 1) = some 1 := by
                unfold bound?
                simp only
                rw [if_pos ⟨by decide, by simp; omega⟩]
                rfl
              unfold cutStrV
              rw [hcs]
              simp only [boundHi, boundLo, hb1, List.take_length]
              rfl
            simp [e1, AV.addr, hb.l1, h16', hl1', hbt, hcn, hct, ops_callf, allKnown]
            refine (rletters_spec (by rw [hcs] at h16; simp at h16; omega)).mono fun r B ⟨hB, hr⟩ => ?_
            subst hB
            subst hr
            have hk' : keyL (126 :: s) = false := by rw [← hc, ← hcs]; exact hk
            have h15 : s.length ≤ 15 := by rw [hcs] at h16; simp at h16; omega
            simp [mayL, hp, hk', sysL, hcs, hc, h15]
            exact hx
          · have hcn : ¬ ((c.toNat : Nat) : Int) = 126 := fun h => hc (UInt8.toNat_inj.1 (by rw [show (126 : UInt8).toNat = 126 from rfl]; omega))
            simp [e1, AV.addr, hb.l1, h16', hl1', hbt, hcn]
            have hk' : keyL (c :: s) = false := by rw [← hcs]; exact hk
            simp [mayL, hp, hk', sysL, hcs, hc]
            exact hx
        · have hl1' : ¬ (1 : Int) < o.key.length := by omega
          have hsy : sysL o.key = false := by
            unfold sysL
            have : o.key.drop 1 = [] := List.drop_eq_nil_of_le (by omega)
            rw [this]
            simp [lettersL]
          simp [e1, AV.addr, hb.l1, h16', hl1', mayL, hp, hk, hsy]
          exact hx
      · have h16' : ¬ (o.key.length : Int) ≤ 16 := by omega
        have hsy : sysL o.key = false := by simp [sysL, h16]
        simp [e1, AV.addr, hb.l1, h16', mayL, hp, hk, hsy]
        exact hx
end Go.Proofs.YteoioahkflcchaaGreatDoor
