/- Arguments that are bytes, parts and numbers. -/
import Derived.Test.YtdgcflackljecaaCrcPure
import Derived.Test.YtdgcflackljecaaAmTr
namespace Go.AM
set_option linter.unusedSimpArgs false
section
variable {H : Type} {P : Program} {A : St}

theorem rdAll_bytes {n : Nat} {e : TypeId} (he : P.underlying e = some (.int .u8)) : ∀ {cap : Nat} {cs : List AV} {ds : List (DataW H)}, rdAll (ARd P A n) (List.replicate cap e) cs ds → ∃ l : List UInt8, cs = bytesV l ∧ l.length = cap
  | 0, cs, ds, h => by
    obtain ⟨rfl, _⟩ := h
    exact ⟨[], rfl, rfl⟩
  | cap + 1, cs, ds, h => by
    rw [List.replicate_succ] at h
    obtain ⟨l1, l2, d, ds', rfl, rfl, h1, h2⟩ := h
    obtain ⟨l, rfl, hl⟩ := rdAll_bytes he h2
    cases n with
    | zero => exact h1.elim
    | succ n =>
      unfold ARd at h1
      rw [he] at h1
      obtain ⟨i, rfl, hw, _⟩ := h1
      have hw : 0 ≤ i ∧ i ≤ 255 := by
        simp only [Lit.wf, Bool.and_eq_true, decide_eq_true_eq] at hw
        exact hw
      refine ⟨UInt8.ofNat i.toNat :: l, ?_, by simp [hl]⟩
      have e1 : ((UInt8.ofNat i.toNat).toNat : Int) = i := by
        rw [UInt8.toNat_ofNat']
        omega
      show AV.int .u8 i :: bytesV l = byteV (UInt8.ofNat i.toNat) :: bytesV l
      unfold byteV
      rw [e1]

theorem slice_read {f len cap : Nat} {cs : List AV} {sz : Nat} (hf : f < A.next) (hcap : len ≤ cap) (hg : A.get f = some (.cells cs [⟨0, 0, cs.length, sz⟩] 1 true)) (hcs : cs.length = cap * sz) : Sl A sz (.slice (some (f, 0, 0)) 0 len cap 0) (cs.take (len * sz)) := by
  refine .mem hf ?_ (.inl ⟨rfl, hcap⟩)
  have := Nat.mul_le_mul_right sz hcap
  unfold St.cells St.look
  dsimp only
  rw [hg]
  simp [findVer]
  omega

theorem bs_of_ARd {n : Nat} {t e : TypeId} (ht : P.underlying t = some (.slice e)) (he : P.underlying e = some (.int .u8)) (h1 : P.cellsOf e = 1) {l : List AV} {d : DataW H} (h : ARd P A n t l d) : ∃ a l', l = [a] ∧ Bs A a l' := by
  cases n with
  | zero => exact h.elim
  | succ n =>
    unfold ARd at h
    rw [ht] at h
    rcases h with ⟨rfl, _⟩ | ⟨k, rfl, _⟩ | ⟨f, len, cap, cs, ds, sp, rfl, hf, hc, _, hg, _, hl, hcap, hcs, hall⟩
    · exact ⟨_, [], rfl, .nil _ _ _⟩
    · exact ⟨_, [], rfl, .nil _ _ _⟩
    · obtain ⟨l', rfl, hl'⟩ := rdAll_bytes he hall
      rw [List.length_append] at hcap
      rw [h1] at hg hcs
      refine ⟨_, l'.take len, rfl, ?_⟩
      have := slice_read (sz := 1) hf (by omega) hg hcs (len := len)
      rw [Nat.mul_one, bytesV_take] at this
      exact this

theorem bs_of_arg {t e : TypeId} (ht : P.underlying t = some (.slice e)) (he : P.underlying e = some (.int .u8)) (h1 : P.cellsOf e = 1) {a : AV} {d : DataW H} (h : ARdV P A t a d) : ∃ l, Bs A a l := by
  obtain ⟨n, l, h2, h3⟩ := h
  rw [ht] at h3
  obtain ⟨a', l', rfl, h4⟩ := bs_of_ARd ht he h1 h2
  cases h3
  exact ⟨l', h4⟩
theorem int_of_arg {t : TypeId} {k : IntKind} (ht : P.underlying t = some (.int k)) {a : AV} {d : DataW H} (h : ARdV P A t a d) : ∃ i, a = .int k i ∧ k.min ≤ i ∧ i ≤ k.max := by
  obtain ⟨n, l, h2, h3⟩ := h
  rw [ht] at h3
  cases n with
  | zero => exact h2.elim
  | succ n =>
    unfold ARd at h2
    rw [ht] at h2
    obtain ⟨i, rfl, hw, _⟩ := h2
    cases h3
    simp only [Lit.wf, Bool.and_eq_true, decide_eq_true_eq] at hw
    exact ⟨i, rfl, hw⟩
theorem rdAll_parts {n : Nat} {t e : TypeId} (ht : P.underlying t = some (.slice e)) (he : P.underlying e = some (.int .u8)) (h1 : P.cellsOf e = 1) : ∀ {cap : Nat} {cs : List AV} {ds : List (DataW H)}, rdAll (ARd P A n) (List.replicate cap t) cs ds → ∃ ls, PartsB A cs ls
  | 0, cs, ds, h => by
    obtain ⟨rfl, _⟩ := h
    exact ⟨[], trivial⟩
  | cap + 1, cs, ds, h => by
    rw [List.replicate_succ] at h
    obtain ⟨l1, l2, d, ds', rfl, rfl, h2, h3⟩ := h
    obtain ⟨ls, hl⟩ := rdAll_parts ht he h1 h3
    obtain ⟨a, l, rfl, h4⟩ := bs_of_ARd ht he h1 h2
    exact ⟨l :: ls, h4, hl⟩
theorem PartsB.take {A : St} : ∀ {vs : List AV} {ls : List (List UInt8)}, PartsB A vs ls → ∀ n, PartsB A (vs.take n) (ls.take n)
  | [], [], _, n => by simp [PartsB]
  | _ :: _, _ :: _, e, 0 => trivial
  | _ :: _, _ :: _, e, n + 1 => ⟨e.1, PartsB.take e.2 n⟩
  | [], _ :: _, h, _ => h.elim
  | _ :: _, [], h, _ => h.elim
theorem parts_of_arg {u t e : TypeId} (hu : P.underlying u = some (.slice t)) (h2 : P.cellsOf t = 1) (ht : P.underlying t = some (.slice e)) (he : P.underlying e = some (.int .u8)) (h1 : P.cellsOf e = 1) {a : AV} {d : DataW H} (h : ARdV P A u a d) :
    ∃ ps ls, Sl A 1 a ps ∧ PartsB A ps ls ∧ ps.length ≤ maxLen := by
  obtain ⟨n, l, h3, h4⟩ := h
  rw [hu] at h4
  cases n with
  | zero => exact h3.elim
  | succ n =>
    unfold ARd at h3
    rw [hu] at h3
    rcases h3 with ⟨rfl, _⟩ | ⟨k, rfl, _⟩ | ⟨f, len, cap, cs, ds, sp, rfl, hf, hc, hmx, hg, _, hl, hcap, hcs, hall⟩
    · cases h4; exact ⟨[], [], .nil _ _ _, trivial, Nat.zero_le _⟩
    · cases h4; exact ⟨[], [], .nil _ _ _, trivial, Nat.zero_le _⟩
    · cases h4
      obtain ⟨ls, hp⟩ := rdAll_parts ht he h1 hall
      rw [List.length_append] at hcap
      rw [h2] at hg hcs
      refine ⟨cs.take len, ls.take len, ?_, hp.take len, ?_⟩
      · have := slice_read (sz := 1) hf (by omega) hg hcs (len := len)
        rwa [Nat.mul_one] at this
      · rw [List.length_take]; omega
end

/-! ### Numbers of either sign -/
theorem rem_int (x : Int) {b : Nat} (h : 0 < b) : ∃ r : Int, binOf .rem (.int .i64 x) (.int .i64 b) = some (.int .i64 r) ∧ -(b : Int) < r ∧ r < b :=
  ⟨_, bin_rem .i64 x b (by omega), by
    have := Int.lt_tmod_of_pos x (b := (b : Int)) (by omega)
    omega, Int.tmod_lt_of_pos x (by omega)⟩
theorem neg_int {r : Int} {b : Nat} (h1 : -(b : Int) < r) (h2 : r < 0) (h : b < 2 ^ 62) : ∃ i : Nat, i < b ∧ unOf .neg (.int .i64 r) = some (.int .i64 i) :=
  ⟨(-r).toNat, by omega, by rw [un_neg, wrap_i64 (by omega) (by omega)]; congr 2; omega⟩

section
variable {D : Disp} {G0 : Env} {fns : Nat → Option AFn} {X : Calls'}
def normalK (I : Env → St → Prop) (ex : Ex) (E : Env) (A : St) : Prop :=
  match ex with
  | .normal => I E A
  | _ => False
@[simp] theorem normalK_normal (I : Env → St → Prop) (E : Env) (A : St) : normalK I .normal E A = I E A := rfl
/-- Two branches that come together. -/
theorem contC_join (I : Env → St → Prop) {b : Bool} {x y : ACode} {E : Env} {A : St} {Q : Ex → Env → St → Prop} (h1 : b = true → Wp D G0 fns X x E A (normalK I)) (h2 : b = false → Wp D G0 fns X y E A (normalK I)) (h3 : ∀ E A, I E A → Q .normal E A) : contC D G0 fns X (.bool b) x y E A Q := by
  have hq : ∀ ex E A, normalK I ex E A → Q ex E A := fun ex E A h => by
    cases ex with
    | normal => exact h3 E A h
    | exit i => exact h.elim
    | ret => exact h.elim
  cases b with
  | true => exact (h1 rfl).mono hq
  | false => exact (h2 rfl).mono hq
end

/-! ### Bytes that are written -/
theorem set_cells {all : List AV} {o n j : Nat} (x : AV) (h : o + n ≤ all.length) (hj : j < n) : ((all.take (o + j) ++ ([x] ++ all.drop (o + j + 1))).drop o).take n = ((all.drop o).take n).set j x := by
  apply List.ext_getElem?
  intro q
  by_cases hq : q < n
  · rw [List.getElem?_take_of_lt hq, List.getElem?_drop]
    rw [List.getElem?_set]
    by_cases hqj : j = q
    · subst hqj
      rw [List.getElem?_append_right (by rw [List.length_take]; omega), List.length_take, Nat.min_eq_left (by omega), Nat.sub_self]
      rw [if_pos rfl, if_pos (by rw [List.length_take, List.length_drop]; omega)]
      rfl
    · rw [if_neg hqj, List.getElem?_take_of_lt hq, List.getElem?_drop]
      by_cases hlt : q < j
      · rw [List.getElem?_append_left (by rw [List.length_take]; omega), List.getElem?_take_of_lt (by omega)]
      · rw [List.getElem?_append_right (by rw [List.length_take]; omega), List.length_take, Nat.min_eq_left (by omega)]
        obtain ⟨d, rfl⟩ : ∃ d, q = j + 1 + d := ⟨q - (j + 1), by omega⟩
        rw [show o + (j + 1 + d) - (o + j) = d + 1 by omega]
        show (all.drop (o + j + 1))[d]? = _
        rw [List.getElem?_drop]
        congr 1
        omega
  · rw [List.getElem?_eq_none (by rw [List.length_take]; omega), List.getElem?_eq_none (by rw [List.length_set, List.length_take]; omega)]
theorem OwnB.at_store {lo : Nat} {A : St} {s : AV} {l : List UInt8} (h : OwnB lo A s l) {j : Nat} {c : UInt8} (hj : l[j]? = some c) (k : IntKind) (x : UInt8) :
    ∃ p B, atSliceV 1 s (.int k j) = some (.ptr (some p)) ∧ loadV A 1 false (.ptr (some p)) = some (byteV c) ∧ storeV A 1 (.ptr (some p)) (byteV x) = some (.bot, B) ∧ OwnB lo B s (l.set j x) ∧ But A B s := by
  have hcj : (bytesV l)[j]? = some (byteV c) := by simp [bytesV, hj]
  obtain ⟨p0, h1, h2⟩ := Sl.at_one h.sl hcj k
  have hlt : j < l.length := (List.getElem?_eq_some_iff.1 hj).1
  have hset : bytesV (l.set j x) = (bytesV l).set j (byteV x) := by simp [bytesV, List.map_set]
  have h : Own lo A 1 s (bytesV l) := h
  show ∃ p B, _ ∧ _ ∧ _ ∧ Own lo B 1 s (bytesV (l.set j x)) ∧ _
  rw [hset]
  have hlen : (bytesV l).length = l.length := bytesV_length l
  generalize bytesV l = cs at *
  cases h with
  | nil po cap q => simp at hlen; omega
  | @mem f v o po len cap q all vers nv y hlo hf hg hv h3 h4 h5 hq =>
    rw [List.length_take, List.length_drop] at hlen
    have hjl : j < len := by omega
    have hp : p0 = (f, v, o + j * 1) := by
      unfold atSliceV at h1
      dsimp only at h1
      rw [show index? len (.int k (j : Int)) = some j by simp [index?, hjl]] at h1
      cases h1
      rfl
    rw [Nat.mul_one] at hp
    subst hp
    have hlook : A.look (f, v, o + j) = some (all, y, nv, false) := by
      unfold St.look; dsimp only; rw [hg]; dsimp only; rw [hv]; rfl
    have hq5 : y.hi ≤ all.length := h5
    have hjs : o + j + 1 ≤ y.hi := by omega
    have hw : A.write (f, v, o + j) [byteV x] = some (A.put f (.cells (splice all (o + j) [byteV x]) [y] nv false)) := by
      unfold St.write
      rw [hlook]
      dsimp only
      rw [if_pos ⟨by omega, hjs, h5, rfl⟩]
    refine ⟨_, A.put f (.cells (splice all (o + j) [byteV x]) [y] nv false), h1, h2, ?_, ?_, but_put _⟩
    · have e : storeV A 1 (.ptr (some (f, v, o + j))) (byteV x) = match A.write (f, v, o + j) [byteV x] with | some B => some (AV.bot, B) | none => none := rfl
      rw [e, hw]
    · have hsp : (splice all (o + j) [byteV x]).length = all.length := splice_length all _ _ (by simp; omega)
      have hy := (findVer_spec hv).2
      have e := set_cells (all := all) (o := o) (n := len * 1) (j := j) (byteV x) (by omega) (by omega)
      rw [← e]
      exact .mem hlo hf (by rw [St.get_put, if_pos rfl]; rfl) (by simp [findVer, hy]) h3 h4 (by rw [show (all.take (o + j) ++ ([byteV x] ++ all.drop (o + j + 1))).length = all.length from hsp]; exact h5) hq
theorem add_one63 {i : Nat} (h : i + 1 < 9223372036854775808) : binOf .add (.int .i64 i) (.int .i64 1) = some (.int .i64 ((i + 1 : Nat) : Int)) := by
  rw [bin_add, show (i : Int) + 1 = ((i + 1 : Nat) : Int) by omega, wrap_i64_nat h]
section
variable {D : Disp} {G0 : Env} {fns : Nat → Option AFn} {X : Calls'}
theorem wp_join {c rest : ACode} {E : Env} {A : St} {Q : Ex → Env → St → Prop} {I : Env → St → Prop} (h : Wp D G0 fns X c E A (normalK I)) (h2 : ∀ E A, I E A → Wp D G0 fns X rest E A Q) : Wp D G0 fns X (.seq c rest) E A Q := by
  rw [wp_seq]
  refine h.mono fun ex E A h => ?_
  cases ex with
  | normal => exact h2 E A h
  | exit i => exact h.elim
  | ret => exact h.elim
theorem wp_tail {b c c' : ACode} {E : Env} {A : St} {Q : Ex → Env → St → Prop} {I : Env → St → Prop} (h : Wp D G0 fns X (.seq b c) E A (normalK I)) (h2 : ∀ E A, Wp D G0 fns X c E A (normalK I) → Wp D G0 fns X c' E A Q) : Wp D G0 fns X (.seq b c') E A Q := by
  rw [wp_seq] at h ⊢
  refine h.mono fun ex E A h => ?_
  cases ex with
  | normal => exact h2 E A h
  | exit i => exact h.elim
  | ret => exact h.elim
/-- Ways that come together behind four pieces of code. -/
theorem ops_join (I : Env → St → Prop) {l : List AOper} {b c d rest : ACode} {E : Env} {A : St} {Q : Ex → Env → St → Prop} (h : Ops D G0 fns X l E A (seqK D G0 fns X (.seq b (.seq c d)) (normalK I))) (h2 : ∀ E A, I E A → Wp D G0 fns X rest E A Q) :
    Ops D G0 fns X l E A (seqK D G0 fns X (.seq b (.seq c (.seq d rest))) Q) := by
  rw [← wp_region, ← wp_seq] at h ⊢
  exact wp_tail h fun E A h => wp_tail h fun E A h => wp_tail h fun E A h => wp_join h h2
end
end Go.AM
