/- What the chapter's small functions tell, in plain Lean. -/
import Derived.Test.YtejlhgcheaimjaaGreatDoorAmArgB
import Derived.Test.YtejlhgcheaimjaaGreatDoorRtRaw
import Derived.Test.YtejlhgcheaimjaaGreatDoorAmRows
namespace Go.Proofs.YtejlhgcheaimjaaGreatDoor
open Go.AM

/-- A letter of a key. -/
def letN (n : Nat) : Bool := decide (97 ≤ n) && decide (n ≤ 122) || (decide (48 ≤ n) && decide (n ≤ 57) || (decide (n = 46) || decide (n = 95)))
def lettersL (s : List UInt8) : Bool := s.all (fun c => letN c.toNat) && !s.isEmpty
def keyL (s : List UInt8) : Bool := decide (s.length ≤ 16) && lettersL s
def sysL (s : List UInt8) : Bool := decide (s.length ≤ 16) && (decide (s.take 1 = [126]) && lettersL (s.drop 1))
def plainL (o : OpD) : Bool :=
  if o.kind = 1 ∨ o.kind = 3 then decide (o.n = 0) && decide (o.lo = 0)
  else if o.kind = 2 ∨ o.kind = 4 ∨ o.kind = 6 then decide (o.lo = 0) else decide (o.kind = 5)
def mayL (o : OpD) : Bool := plainL o && (keyL o.key || sysL o.key)
/-- The sum of two numbers, if it fits. -/
def fitsL (a b : Int) : Bool := decide (-9223372036854775808 ≤ a + b) && decide (a + b ≤ 9223372036854775807)
def wrapI (x : Int) : Int := IntKind.i64.wrap x
/-- What an operation does: the number, whether there is one, what is told, the error. -/
def evalL (o : OpD) (old0 : Int) (there : Bool) : Int × Bool × Int × Int :=
  if mayL o = false then (0, false, 0, 2) else
  let old := if there then old0 else 0
  if o.kind = 1 then (old, there, old, 0)
  else if o.kind = 2 then (o.n, true, o.n, 0)
  else if o.kind = 3 then (0, false, old, 0)
  else if o.kind = 6 then (wrapI (old + o.n), true, wrapI (old + o.n), 0)
  else if fitsL old o.n = false then (old, there, 0, 25)
  else if o.kind = 5 ∧ old + o.n < o.lo then (old, there, 0, 24)
  else (old + o.n, true, old + o.n, 0)
def evalV (o : OpD) (old : Int) (there : Bool) : AV := .tuple [.int .i64 (evalL o old there).1, .bool (evalL o old there).2.1, .int .i64 (evalL o old there).2.2.1, .int .i64 (evalL o old there).2.2.2]
/-- Does an operation possibly fail? -/
def failsL (o : OpD) : Bool := decide (o.kind = 4) || (decide (o.kind = 5) || !plainL o)
def cut1 (o : OpD) : OpD := { o with key := o.key.take 20 }
def cutL (l : List OpD) : List OpD := (l.take 12).map cut1
end Go.Proofs.YtejlhgcheaimjaaGreatDoor
/- The chapter's small functions: which operations there may be. -/
namespace Go.Proofs.YtejlhgcheaimjaaGreatDoor
open Go.AM
set_option maxRecDepth 100000
set_option linter.unusedSimpArgs false
variable {D : Disp} {G0 : Env} {X : Calls'}

theorem plain_spec {A : St} (o : OpD) : Ev D G0 fnsL X 79 [.agg o.cells] A fun r B => A.Ext B ∧ r = .bool (plainL o) := by
  refine Ev.fnK (fn := a79) rfl ⟨by simp [a79], by decide⟩ ?_
  unfold a79
  obtain ⟨k, s, n, lo⟩ := o
  have hx := ext_make A [.int .i64 k, .str s, .int .i64 n, .int .i64 lo] 1
  by_cases h1 : k = 1
  · by_cases hn : n = 0
    · simp [OpD.cells, boxV, AV.cells, Made.value, AV.addr, plainL, h1, hn, hx] at *
      exact hx
    · simp [OpD.cells, boxV, AV.cells, Made.value, AV.addr, plainL, h1, hn, hx] at *
      exact hx
  by_cases h3 : k = 3
  · by_cases hn : n = 0
    · simp [OpD.cells, boxV, AV.cells, Made.value, AV.addr, plainL, h3, hn, hx] at *
      exact hx
    · simp [OpD.cells, boxV, AV.cells, Made.value, AV.addr, plainL, h3, hn, hx] at *
      exact hx
  by_cases h2 : k = 2
  · simp [OpD.cells, boxV, AV.cells, Made.value, AV.addr, plainL, h2, hx] at *
    exact hx
  by_cases h4 : k = 4
  · simp [OpD.cells, boxV, AV.cells, Made.value, AV.addr, plainL, h4, hx] at *
    exact hx
  by_cases h6 : k = 6
  · simp [OpD.cells, boxV, AV.cells, Made.value, AV.addr, plainL, h6, hx] at *
    exact hx
  by_cases h5 : k = 5
  · simp [OpD.cells, boxV, AV.cells, Made.value, AV.addr, plainL, h5, hx] at *
    exact hx
  · simp [OpD.cells, boxV, AV.cells, Made.value, AV.addr, plainL, h1, h2, h3, h4, h5, h6, hx] at *
    try exact hx
end Go.Proofs.YtejlhgcheaimjaaGreatDoor
/- Whose letters are a key's. -/
namespace Go.Proofs.YtejlhgcheaimjaaGreatDoor
open Go.AM
set_option maxRecDepth 100000
set_option linter.unusedSimpArgs false
variable {D : Disp} {G0 : Env} {X : Calls'}

/-- What six comparisons tell of a byte. -/
structure Cls (n : Nat) (b1 b2 b3 b4 b5 b6 : Bool) : Prop where
  e1 : ((97 : Int) ≤ n) = (b1 = true)
  e2 : ((n : Int) ≤ 122) = (b2 = true)
  e3 : ((48 : Int) ≤ n) = (b3 = true)
  e4 : ((n : Int) ≤ 57) = (b4 = true)
  e5 : ((n : Int) = 46) = (b5 = true)
  e6 : ((n : Int) = 95) = (b6 = true)
  f1 : ((n : Int) < 97) = (b1 = false)
  f2 : ((122 : Int) < n) = (b2 = false)
  f3 : ((n : Int) < 48) = (b3 = false)
  f4 : ((57 : Int) < n) = (b4 = false)
  l : letN n = (b1 && b2 || (b3 && b4 || (b5 || b6)))
theorem cls (n : Nat) : ∃ b1 b2 b3 b4 b5 b6, Cls n b1 b2 b3 b4 b5 b6 := by
  refine ⟨decide (97 ≤ n), decide (n ≤ 122), decide (48 ≤ n), decide (n ≤ 57), decide (n = 46), decide (n = 95), ?_, ?_, ?_, ?_, ?_, ?_, ?_, ?_, ?_, ?_, rfl⟩ <;> rw [eq_iff_iff] <;> simp <;> omega

/-- The first i bytes are letters. -/
def PreL (s : List UInt8) (i : Nat) : Prop := (s.take i).all (fun c => letN c.toNat) = true
theorem preL_zero (s : List UInt8) : PreL s 0 := by simp [PreL]
theorem letters_step {s : List UInt8} {i : Nat} {c : UInt8} (hc : s[i]? = some c) (h : PreL s i) :
    (letN c.toNat = true → PreL s (i + 1)) ∧ (letN c.toNat = false → lettersL s = false) := by
  obtain ⟨hi, rfl⟩ := List.getElem?_eq_some_iff.1 hc
  refine ⟨fun hl => ?_, fun hl => ?_⟩
  · unfold PreL at *
    rw [List.take_succ_eq_append_getElem hi, List.all_append, h]
    simpa using hl
  · unfold lettersL
    rw [Bool.and_eq_false_iff]
    left
    rw [List.all_eq_false]
    exact ⟨s[i], List.getElem_mem hi, by simpa using hl⟩
theorem preL_end {s : List UInt8} (h : PreL s s.length) : lettersL s = !s.isEmpty := by
  unfold PreL at h
  rw [List.take_length] at h
  unfold lettersL
  rw [h]; rfl

theorem letters_spec {A : St} {s : List UInt8} (hs : s.length ≤ 1000000) : Ev D G0 fnsL X 90 [.str s] A fun r B => A.Ext B ∧ r = .bool (lettersL s) := by
  refine Ev.fnK (fn := a90) rfl ⟨by simp [a90], by decide⟩ ?_
  unfold a90
  have hs1 : s.length ≤ 140737488355328 := by omega
  simp [bytesOfV, hs1, Made.value]
  have hx := ext_makeV A (s.map fun b => AV.int .u8 b.toNat) 1 1
  have hb : Sl (A.makeV (s.map fun b => AV.int .u8 b.toNat) 1 1).2 1 (.slice (some (A.next, 1, 0)) 0 s.length 0 1) (s.map fun b => AV.int .u8 b.toNat) :=
    (own_text A (by simp) (Nat.le_refl _)).sl
  generalize (A.makeV (s.map fun b => AV.int .u8 b.toNat) 1 1).2 = A1 at *
  refine Wp.loopK (fun d E A' => A1 = A' ∧ Env.at E 0 = .str s ∧ Env.at E 6 = .slice (some (A.next, 1, 0)) 0 s.length 0 1 ∧ Env.at E 7 = .int .i64 s.length ∧ ∃ i : Nat, Env.at E 8 = .int .i64 i ∧ i + d = s.length ∧ PreL s i) s.length ?_ ?_
  · exact ⟨rfl, by simp, by simp, by simp, 0, by simp, by simp, preL_zero s⟩
  rintro d E _ ⟨rfl, e0, e6, e7, i, e8, hi, hall⟩
  simp [e7, e8]
  refine contC_of (fun hc => ?_) (fun hc => ?_)
  · simp at hc
    have hgc : s[i]? = some s[i] := List.getElem?_eq_getElem hc
    obtain ⟨p, g1, g2⟩ := hb.at_one (j := i) (v := .int .u8 s[i].toNat) (by simp [hc]) .i64
    obtain ⟨s1, s2⟩ := letters_step hgc hall
    have ea := add_one (i := i) (by omega)
    generalize s[i].toNat = n at *
    obtain ⟨b1, b2, b3, b4, b5, b6, C⟩ := cls n
    have hl := C.l
    cases b1 <;> cases b2 <;> cases b3 <;> cases b4 <;> cases b5 <;> cases b6 <;> simp [e0, e6, e7, e8, g1, g2, C.e1, C.e2, C.e3, C.e4, C.e5, C.e6, ea, -bin_add] <;> simp at hl <;> first | (exact ⟨hx, (s2 hl).symm⟩) | (exact ⟨hx, s2 hl⟩) | (exact ⟨d - 1, by omega, i + 1, by omega, by omega, s1 hl⟩)
  · simp at hc
    have hid : i = s.length := by omega
    subst hid
    rw [preL_end hall]
    simp [e0]
    refine ⟨hx, ?_⟩
    cases s <;> simp
end Go.Proofs.YtejlhgcheaimjaaGreatDoor
/- Which operations there may be: the program's May, the document's. -/
namespace Go.Proofs.YtejlhgcheaimjaaGreatDoor
open Go.AM
set_option maxRecDepth 100000
set_option linter.unusedSimpArgs false
variable {D : Disp} {G0 : Env} {X : Calls'}

theorem key_spec {A : St} {s : List UInt8} : Ev D G0 fnsL X 64 [.str s] A fun r B => A.Ext B ∧ r = .bool (keyL s) := by
  refine Ev.fnK (fn := a64) rfl ⟨by simp [a64], by decide⟩ ?_
  unfold a64
  by_cases h : s.length ≤ 16
  · have h' : (s.length : Int) ≤ 16 := by omega
    simp [h', ops_callf, allKnown]
    refine (letters_spec (by omega)).mono fun r B ⟨hx, hr⟩ => ?_
    subst hr
    simp [keyL, h]
    exact hx
  · have h' : ¬ (s.length : Int) ≤ 16 := by omega
    simp [h', keyL, h]
    exact St.Ext.refl A
theorem prefix_spec {A : St} {s : List UInt8} : Ev D G0 fnsL X 101 [.str s, .str [126]] A fun r B => A = B ∧ r = .bool (decide (s.take 1 = [126])) := by
  refine Ev.fnK (fn := a101) rfl ⟨by simp [a101], by decide⟩ ?_
  unfold a101
  simp [ops_callf, allKnown]
  refine Ev.fnK (fn := a118) rfl ⟨by simp [a118], by decide⟩ ?_
  unfold a118
  cases s with
  | nil => simp
  | cons c s =>
    have h' : (1 : Int) ≤ (s.length : Int) + 1 := by omega
    have h2 : bound? (s.length + 1) (.int .i64 1) = some 1 := by simp [bound?]; omega
    simp [h', cutStrV, boundHi, h2, boundLo]
theorem sys_spec {A : St} {s : List UInt8} : Ev D G0 fnsL X 80 [.str s] A fun r B => A.Ext B ∧ r = .bool (sysL s) := by
  refine Ev.fnK (fn := a80) rfl ⟨by simp [a80], by decide⟩ ?_
  unfold a80
  by_cases h : s.length ≤ 16
  · have h' : (s.length : Int) ≤ 16 := by omega
    simp [h', ops_callf, allKnown]
    refine prefix_spec.mono fun r B ⟨hx, hr⟩ => ?_
    subst hx
    subst hr
    by_cases hp : s.take 1 = [126]
    · have hl : 1 ≤ s.length := by
        cases s with
        | nil => simp at hp
        | cons c s => simp
      have h2 : bound? s.length (.int .i64 1) = some 1 := by simp [bound?]; omega
      simp [hp, cutStrV, boundHi, h2, boundLo, ops_callf, allKnown]
      refine (letters_spec (by simp; omega)).mono fun r B ⟨hx, hr⟩ => ?_
      subst hr
      simp [hp, sysL, h]
      exact hx
    · simp [hp, sysL, h]
      exact St.Ext.refl A
  · have h' : ¬ (s.length : Int) ≤ 16 := by omega
    simp [h', sysL, h]
    exact St.Ext.refl A
theorem may_spec {A : St} (o : OpD) : Ev D G0 fnsL X 43 [.agg o.cells] A fun r B => A.Ext B ∧ r = .bool (mayL o) := by
  refine Ev.fnK (fn := a43) rfl ⟨by simp [a43], by decide⟩ ?_
  unfold a43
  simp [OpD.cells, boxV, AV.cells, Made.value, AV.addr, ops_callf, allKnown]
  have hb := B4.make A (.int .i64 o.kind) (.str o.key) (.int .i64 o.n) (.int .i64 o.lo)
  have hx := ext_make A [.int .i64 o.kind, .str o.key, .int .i64 o.n, .int .i64 o.lo] 1
  generalize (A.make [.int .i64 o.kind, .str o.key, .int .i64 o.n, .int .i64 o.lo] 1).2 = A1 at *
  refine (plain_spec o).mono fun r B ⟨hx2, hr⟩ => ?_
  subst hr
  have hb2 := hb.ext hx2
  cases hp : plainL o with
  | false => simp [mayL, hp]; exact hx.trans hx2
  | true =>
    simp [AV.addr, hb2.l1, ops_callf, allKnown]
    refine key_spec.mono fun r C ⟨hx3, hr⟩ => ?_
    subst hr
    have hb3 := hb2.ext hx3
    cases hk : keyL o.key with
    | true => simp [mayL, hp, hk]; exact (hx.trans hx2).trans hx3
    | false =>
      simp [AV.addr, hb3.l1, ops_callf, allKnown]
      refine sys_spec.mono fun r C2 ⟨hx4, hr⟩ => ?_
      subst hr
      simp [mayL, hp, hk]
      exact ((hx.trans hx2).trans hx3).trans hx4
end Go.Proofs.YtejlhgcheaimjaaGreatDoor
/- The document's May; sums that fit. -/
namespace Go.Proofs.YtejlhgcheaimjaaGreatDoor
open Go.AM
set_option maxRecDepth 100000
set_option linter.unusedSimpArgs false
variable {D : Disp} {G0 : Env} {X : Calls'}

theorem rletters_spec {A : St} {s : List UInt8} (hs : s.length ≤ 1000000) : Ev D G0 fnsL X 59 [.str s] A fun r B => A = B ∧ r = .bool (lettersL s) := by
  refine Ev.fnK (fn := a59) rfl ⟨by simp [a59], by decide⟩ ?_
  unfold a59
  simp
  refine Wp.loopK (fun d E A' => A = A' ∧ Env.at E 0 = .str s ∧ ∃ i : Nat, Env.at E 3 = .int .i64 i ∧ i + d = s.length ∧ PreL s i) s.length ?_ ?_
  · exact ⟨rfl, by simp, 0, by simp, by simp, preL_zero s⟩
  rintro d E _ ⟨rfl, e0, i, e3, hi, hall⟩
  simp [e0, e3]
  refine contC_of (fun hc => ?_) (fun hc => ?_)
  · simp at hc
    have hgc : s[i]? = some s[i] := List.getElem?_eq_getElem hc
    obtain ⟨s1, s2⟩ := letters_step hgc hall
    have ea := add_one (i := i) (by omega)
    have hbt : byteAtV (.str s) (.int .i64 i) = some (.int .u8 s[i].toNat) := by
      unfold byteAtV index?
      simp [hc]
    generalize s[i].toNat = n at *
    obtain ⟨b1, b2, b3, b4, b5, b6, C⟩ := cls n
    have hl := C.l
    cases b1 <;> cases b2 <;> cases b3 <;> cases b4 <;> cases b5 <;> cases b6 <;> simp [e0, e3, hbt, C.f1, C.f2, C.f3, C.f4, C.e5, C.e6, ea, -bin_add] <;> simp at hl <;> first | (exact (s2 hl).symm) | (exact s2 hl) | (exact ⟨d - 1, by omega, i + 1, by omega, by omega, s1 hl⟩)
  · simp at hc
    have hid : i = s.length := by omega
    subst hid
    rw [preL_end hall]
    simp [e0]
    cases s <;> simp
theorem rkey_spec {A : St} {s : List UInt8} : Ev D G0 fnsL X 31 [.str s] A fun r B => A = B ∧ r = .bool (keyL s) := by
  refine Ev.fnK (fn := a31) rfl ⟨by simp [a31], by decide⟩ ?_
  unfold a31
  by_cases h : s.length ≤ 16
  · have h' : (s.length : Int) ≤ 16 := by omega
    simp [h', ops_callf, allKnown]
    refine (rletters_spec (by omega)).mono fun r B ⟨hx, hr⟩ => ?_
    subst hr
    simp [keyL, h]
    exact hx
  · have h' : ¬ (s.length : Int) ≤ 16 := by omega
    simp [h', keyL, h]
theorem rmay_spec {A : St} (o : OpD) : Ev D G0 fnsL X 19 [.agg o.cells] A fun r B => A.Ext B ∧ r = .bool (mayL o) := by
  refine Ev.fnK (fn := a19) rfl ⟨by simp [a19], by decide⟩ ?_
  unfold a19
  have hb := B4.make A (.int .i64 o.kind) (.str o.key) (.int .i64 o.n) (.int .i64 o.lo)
  have hx := ext_make A [.int .i64 o.kind, .str o.key, .int .i64 o.n, .int .i64 o.lo] 1
  refine wp_cut (fun E A' => (A.make [.int .i64 o.kind, .str o.key, .int .i64 o.n, .int .i64 o.lo] 1).2 = A' ∧ Env.at E 1 = .ptr (some (A.next, 0, 0)) ∧ plainL o = true) ?_ ?_
  · generalize hA1 : (A.make [.int .i64 o.kind, .str o.key, .int .i64 o.n, .int .i64 o.lo] 1).2 = A1 at *
    obtain ⟨k, s, n, lo⟩ := o
    simp only at hb hx hA1
    by_cases h1 : k < 1
    · have hp : plainL ⟨k, s, n, lo⟩ = false := by
        unfold plainL
        simp only
        rw [if_neg (by omega), if_neg (by omega), decide_eq_false (by omega)]
      simp [OpD.cells, boxV, AV.cells, Made.value, AV.addr, hA1, hb.l0, h1, mayL, hp]
      exact hx
    by_cases h2 : 6 < k
    · have hp : plainL ⟨k, s, n, lo⟩ = false := by
        unfold plainL
        simp only
        rw [if_neg (by omega), if_neg (by omega), decide_eq_false (by omega)]
      simp [OpD.cells, boxV, AV.cells, Made.value, AV.addr, hA1, hb.l0, h1, h2, mayL, hp]
      exact hx
    have hk : k = 1 ∨ k = 2 ∨ k = 3 ∨ k = 4 ∨ k = 5 ∨ k = 6 := by omega
    by_cases hlo : lo = 0 <;> by_cases hn : n = 0 <;> rcases hk with rfl | rfl | rfl | rfl | rfl | rfl <;> simp [OpD.cells, boxV, AV.cells, Made.value, AV.addr, hA1, hb.l0, hb.l1, hb.l2, hb.l3, hlo, hn, plainL, mayL] <;> first | exact hx | exact ext_make _ _ _ | (rw [← hA1]; simp [hlo, hn])
  · generalize hA1 : (A.make [.int .i64 o.kind, .str o.key, .int .i64 o.n, .int .i64 o.lo] 1).2 = A1 at *
    rintro E _ ⟨rfl, e1, hp⟩
    simp [e1, AV.addr, hb.l1, ops_callf, allKnown]
    refine rkey_spec.mono fun r B ⟨hB, hr⟩ => ?_
    subst hB
    subst hr
    cases hk : keyL o.key with
    | true => simp [mayL, hp, hk]; exact hx
    | false =>
      by_cases h16 : o.key.length ≤ 16
      · have h16' : (o.key.length : Int) ≤ 16 := by omega
        by_cases hl1 : 1 < o.key.length
        · have hl1' : (1 : Int) < o.key.length := by omega
          obtain ⟨c, s, hcs⟩ : ∃ c s, o.key = c :: s := by
            cases hks : o.key with
            | nil => rw [hks] at hl1; simp at hl1
            | cons c s => exact ⟨c, s, rfl⟩
          have hbt : byteAtV (.str o.key) (.int .i64 0) = some (.int .u8 c.toNat) := by
            unfold byteAtV index?
            rw [hcs]; simp
          by_cases hc : c = 126
          · have hcn : ((c.toNat : Nat) : Int) = 126 := by rw [hc]; rfl
            have hct : cutStrV (.str o.key) (some (.int .i64 1)) none = some (.str s) := by
              have hb1 : bound? (c :: s).length (.int .i64 1) = some 1 := by
                unfold bound?
                simp only
                rw [if_pos ⟨by decide, by simp; omega⟩]
                rfl
              unfold cutStrV
              rw [hcs]
              simp only [boundHi, boundLo, hb1, List.take_length]
              rfl
            simp [e1, AV.addr, hb.l1, h16', hl1', hbt, hcn, hct, ops_callf, allKnown]
            refine (rletters_spec (by rw [hcs] at h16; simp at h16; omega)).mono fun r B ⟨hB, hr⟩ => ?_
            subst hB
            subst hr
            have hk' : keyL (126 :: s) = false := by rw [← hc, ← hcs]; exact hk
            have h15 : s.length ≤ 15 := by rw [hcs] at h16; simp at h16; omega
            simp [mayL, hp, hk', sysL, hcs, hc, h15]
            exact hx
          · have hcn : ¬ ((c.toNat : Nat) : Int) = 126 := fun h => hc (UInt8.toNat_inj.1 (by rw [show (126 : UInt8).toNat = 126 from rfl]; omega))
            simp [e1, AV.addr, hb.l1, h16', hl1', hbt, hcn]
            have hk' : keyL (c :: s) = false := by rw [← hcs]; exact hk
            simp [mayL, hp, hk', sysL, hcs, hc]
            exact hx
        · have hl1' : ¬ (1 : Int) < o.key.length := by omega
          have hsy : sysL o.key = false := by
            unfold sysL
            have : o.key.drop 1 = [] := List.drop_eq_nil_of_le (by omega)
            rw [this]
            simp [lettersL]
          simp [e1, AV.addr, hb.l1, h16', hl1', mayL, hp, hk, hsy]
          exact hx
      · have h16' : ¬ (o.key.length : Int) ≤ 16 := by omega
        have hsy : sysL o.key = false := by simp [sysL, h16]
        simp [e1, AV.addr, hb.l1, h16', mayL, hp, hk, hsy]
        exact hx
end Go.Proofs.YtejlhgcheaimjaaGreatDoor
/- The laws' Cut; the document's Eval; Total. -/
namespace Go.Proofs.YtejlhgcheaimjaaGreatDoor
open Go.AM
set_option maxRecDepth 100000
set_option linter.unusedSimpArgs false
variable {D : Disp} {G0 : Env} {X : Calls'}

theorem cut1_short {o : OpD} (h : ¬ (20 : Int) < o.key.length) : cut1 o = o := by
  unfold cut1
  rw [List.take_of_length_le (by omega)]

theorem cut_spec {A : St} {s : AV} {l : List OpD} (hs : Sl A 4 s (opsCells l)) : Ev D G0 fnsL X 5 [s] A fun r B => A.Ext B ∧ AM.Own A.next B 4 r (opsCells (cutL l)) := by
  refine Ev.fnK (fn := a5) rfl ⟨by simp [a5], by decide⟩ ?_
  unfold a5
  simp [hs.ops_lenV]
  refine Wp.loopK (fun d E A' => A.Ext A' ∧ Env.at E 6 = s ∧ Env.at E 7 = .int .i64 l.length ∧ ∃ (i : Nat) (v : AV), Env.at E 8 = .int .i64 i ∧ Env.at E 3 = v ∧ i + d = l.length ∧ i ≤ 12 ∧ AM.Own A.next A' 4 v (opsCells ((l.take i).map cut1))) l.length ?_ ?_
  · exact ⟨St.Ext.refl A, by simp, by simp, 0, .slice none 0 0 0 0, by simp, by simp, by simp, by simp, by simpa [opsCells] using AM.Own.nil _ _ _⟩
  rintro d E A1 ⟨x1, e6, e7, i, v, e8, e3, hi, h12, hown⟩
  have hs1 := hs.ext x1
  simp [e7, e8]
  refine contC_of (fun hc => ?_) (fun hc => ?_)
  · simp at hc
    obtain ⟨o, ho⟩ : ∃ o, l[i]? = some o := ⟨l[i], List.getElem?_eq_getElem hc⟩
    obtain ⟨p, g1, g2⟩ := hs1.op_at ho .i64
    have ea := add_one (i := i) (by omega)
    simp [e6, e8, g1, g2, Made.value, OpD.cells]
    have x2 := ext_make A1 [.int .i64 0, .str [], .int .i64 0, .int .i64 0] 1
    have hb := B4.make A1 (.int .i64 0) (.str []) (.int .i64 0) (.int .i64 0)
    generalize (A1.make [.int .i64 0, .str [], .int .i64 0, .int .i64 0] 1).2 = A2 at *
    obtain ⟨A3, k1, k2, k3, k4⟩ := hb.st (a' := .int .i64 o.kind) (b' := .str o.key) (c' := .int .i64 o.n) (d' := .int .i64 o.lo) rfl
    have x3 : A1.Ext A3 := ⟨by rw [← k3]; exact x2.next, fun f hf => by rw [k4 f (by omega)]; exact x2.get f hf⟩
    simp [k1]
    by_cases hi12 : 12 ≤ i
    · have hi12' : (12 : Int) ≤ i := by omega
      have : i = 12 := by omega
      subst this
      simp [e3, hown.sl.known, packRes]
      exact ⟨x1.trans x3, hown.ext x3⟩
    · have hi12' : ¬ (12 : Int) ≤ i := by omega
      simp [hi12', AV.addr, k2.l1]
      refine contC_join (fun E A' => A1.Ext A' ∧ B4 A' A1.next (.int .i64 o.kind) (.str (cut1 o).key) (.int .i64 o.n) (.int .i64 o.lo) ∧ Env.at E 3 = v ∧ Env.at E 5 = .ptr (some (A1.next, 0, 0)) ∧ Env.at E 6 = s ∧ Env.at E 7 = .int .i64 l.length ∧ Env.at E 8 = .int .i64 i) (fun hc2 => ?_) (fun hc2 => ?_) ?_
      · simp at hc2
        have hcut : cutStrV (.str o.key) none (some (.int .i64 20)) = some (.str (o.key.take 20)) := by
          have hb1 : bound? o.key.length (.int .i64 20) = some 20 := by
            unfold bound?
            simp only
            rw [if_pos ⟨by decide, by omega⟩]
            rfl
          unfold cutStrV
          simp only [boundHi, boundLo, hb1]
          rfl
        obtain ⟨A4, q1, q2, q3, q4⟩ := k2.st1 (b' := .str (o.key.take 20)) rfl rfl rfl
        simp [AV.addr, k2.l1, hcut, q1, e3, e6, e7, e8]
        exact ⟨⟨by rw [← q3]; exact x3.next, fun f hf => by rw [q4 f (by omega)]; exact x3.get f hf⟩, q2⟩
      · simp at hc2
        simp [e3, e6, e7, e8]
        refine ⟨x3, ?_⟩
        rw [cut1_short (by omega)]
        exact k2
      rintro E A4 ⟨x4, hb4, f3, f5, f6, f7, f8⟩
      have hld := hb4.ld
      have hown4 := hown.ext x4
      obtain ⟨s', B, q1, q2, q3⟩ := append_op hown4 (x1.trans x4) (by simp; omega) (cut1 o)
      have hcc : (cut1 o).cells = [.int .i64 o.kind, .str (cut1 o).key, .int .i64 o.n, .int .i64 o.lo] := rfl
      rw [hcc] at q1
      simp [f3, f5, f6, f7, f8, AV.addr, hld, fillA, AV.isBot, AV.cells, splice, Made.value, q1, ea, -bin_add]
      refine ⟨d - 1, by omega, q3, i + 1, by omega, by omega, by omega, ?_⟩
      have hmap : List.map cut1 (List.take (i + 1) l) = List.map cut1 (List.take i l) ++ [cut1 o] := by
        rw [List.take_add_one, ho]
        simp
      rw [← List.map_take, hmap]
      exact q2
  · simp at hc
    have hil : i = l.length := by omega
    subst hil
    rw [List.take_length] at hown
    have hcut : cutL l = l.map cut1 := by unfold cutL; rw [List.take_of_length_le h12]
    simp [e3, hown.sl.known, hcut]
    exact ⟨x1, hown⟩

end Go.Proofs.YtejlhgcheaimjaaGreatDoor
/- Lists of operations that are the same. -/
namespace Go.Proofs.YtejlhgcheaimjaaGreatDoor
open Go.AM
set_option maxRecDepth 100000
set_option linter.unusedSimpArgs false
variable {D : Disp} {G0 : Env} {X : Calls'}
theorem op_same (o : OpD) : eqAggOf true [.int .i64, .str, .int .i64, .int .i64] (.agg [.int .i64 o.kind, .str o.key, .int .i64 o.n, .int .i64 o.lo]) (.agg [.int .i64 o.kind, .str o.key, .int .i64 o.n, .int .i64 o.lo]) = some (.bool false) := by
  simp [eqAggOf, flatEqs, keyOk, keySame]
@[simp] theorem opsD_eqAgg {fns : Nat → Option AFn} (neg : Bool) (ks : List KK) (x y : Operand) (d : Option Nat) (l0 h0 : Nat) (l : List (AOper × Nat × Nat)) (S : List St) (C : List St → Prop) (E : Env) (A : St) (Q : Ex → Env → St → Prop) : OpsD D G0 fns X ((⟨d, .eqAgg neg ks x y, none⟩, l0, h0) :: l) S C E A Q = contVD D G0 fns X (eqAggOf neg ks (ev E x) (ev E y)) d l S C E A Q := opsD_pure rfl d l0 h0 l S C E A Q
theorem same_spec {A : St} {s t : AV} {l : List OpD} (hs : Sl A 4 s (opsCells l)) (ht : Sl A 4 t (opsCells l)) (hlen : l.length < 100000) :
    Ev D G0 fnsL X 10 [s, t] A fun r B => A = B ∧ r = .bool true := by
  refine Ev.fnK (fn := a10) rfl ⟨by simp [a10], by decide⟩ ?_
  unfold a10
  simp [hs.ops_lenV, ht.ops_lenV]
  refine Wp.loopK (fun d E A' => A = A' ∧ Env.at E 0 = s ∧ Env.at E 1 = t ∧ Env.at E 12 = .int .i64 l.length ∧ ∃ i : Nat, Env.at E 13 = .int .i64 i ∧ i + d = l.length) l.length ?_ ?_
  · exact ⟨rfl, by simp, by simp, by simp, 0, by simp, by simp⟩
  rintro d E A1 ⟨rfl, e0, e1, e12, i, e13, hi⟩
  simp [e12, e13]
  refine contC_of (fun hc => ?_) (fun hc => ?_)
  · simp at hc
    obtain ⟨o, ho⟩ : ∃ o, l[i]? = some o := ⟨l[i], List.getElem?_eq_getElem hc⟩
    obtain ⟨p, g1, g2⟩ := hs.op_at ho .i64
    obtain ⟨p', g3, g4⟩ := ht.op_at ho .i64
    have ea := add_one (i := i) (by omega)
    simp [OpD.cells] at g2 g4
    simp [e13]
    refine Wp.draws ?_
    simp [e0, e1, e12, e13, g1, g2, g3, g4, op_same, InAll, AV.beq, AV.beqs, ea, -bin_add]
    exact ⟨d - 1, by omega, i + 1, by omega, by omega⟩
  · simp
end Go.Proofs.YtejlhgcheaimjaaGreatDoor
