/- The abstract machine: slices that are read, slices that are one's own. -/
import Derived.Test.YtejlhgcheaimjaaGreatDoorAmSim
import Derived.Test.YtejlhgcheaimjaaGreatDoorAmLaw
namespace Go.AM
set_option linter.unusedVariables false
set_option linter.unusedSimpArgs false

@[simp] theorem known_int (k : IntKind) (n : Int) : known (.int k n) = some (.int k n) := rfl
@[simp] theorem known_bool (b : Bool) : known (.bool b) = some (.bool b) := rfl
@[simp] theorem known_str (s : List UInt8) : known (.str s) = some (.str s) := rfl
@[simp] theorem known_slice (a : Option Pl) (po len cap q : Nat) : known (.slice a po len cap q) = some (.slice a po len cap q) := rfl
@[simp] theorem known_ptr (a : Option Pl) : known (.ptr a) = some (.ptr a) := rfl
@[simp] theorem known_map (a : Option Nat) : known (.map a) = some (.map a) := rfl
@[simp] theorem known_agg (l : List AV) : known (.agg l) = some (.agg l) := rfl
@[simp] theorem known_tuple (l : List AV) : known (.tuple l) = some (.tuple l) := rfl
@[simp] theorem known_iface (t : TypeId) (v : AV) : known (.iface t v) = some (.iface t v) := rfl
@[simp] theorem known_nilIface : known .nilIface = some .nilIface := rfl
@[simp] theorem known_func (f : Fn) (a b : List AV) : known (.func f a b) = some (.func f a b) := rfl
@[simp] theorem known_nilFunc : known .nilFunc = some .nilFunc := rfl
@[simp] theorem resVal_tmp (E : Env) (A : St) (t : Nat) (h : t < 1000000) : resVal E A (.tmp t) = known (Env.at E t) := by
  show known (bif Nat.blt t 1000000 then Env.at E t else .bot) = _
  rw [show Nat.blt t 1000000 = true from by rw [Nat.blt_eq]; exact h]
  rfl
@[simp] theorem resVals_nil (E : Env) (A : St) : resVals E A [] = some [] := rfl
@[simp] theorem resVals_cons (E : Env) (A : St) (r : ARes) (l : List ARes) : resVals E A (r :: l) = match resVal E A r with | some v => (match resVals E A l with | some vs => some (v :: vs) | none => none) | none => none := rfl
@[simp] theorem packRes_one (v : AV) : packRes [v] = v := rfl
@[simp] theorem packRes_two (v w : AV) : packRes [v, w] = .tuple [v, w] := rfl
@[simp] theorem packRes_nil : packRes [] = .tuple [] := rfl
@[simp] theorem packRes_three (v w u : AV) : packRes [v, w, u] = .tuple [v, w, u] := rfl

/-- A slice that is read, with elements of size sz. -/
inductive Sl (A : St) (sz : Nat) : AV → List AV → Prop where
  | nil (po cap q : Nat) : Sl A sz (.slice none po 0 cap q) []
  | mem {f v o po len cap q : Nat} {cs : List AV} (hf : f < A.next) (hc : A.cells (f, v, o) (len * sz) = some cs) (hq : q = 0 ∧ len ≤ cap ∨ q = sz ∧ q ≠ 0) : Sl A sz (.slice (some (f, v, o)) po len cap q) cs

theorem St.look_ext {A B : St} {p : Pl} (h : B.get p.1 = A.get p.1) : B.look p = A.look p := by unfold St.look; rw [h]
theorem St.cells_ext {A B : St} {p : Pl} {n : Nat} (h : B.get p.1 = A.get p.1) : B.cells p n = A.cells p n := by unfold St.cells; rw [St.look_ext h]
theorem Sl.ext {A B : St} (h : A.Ext B) {sz : Nat} {s : AV} {cs : List AV} (e : Sl A sz s cs) : Sl B sz s cs := by
  cases e with
  | nil po cap q => exact .nil po cap q
  | mem hf hc hq => exact .mem (Nat.lt_of_lt_of_le hf h.next) (by rw [St.cells_ext (h.get _ hf)]; exact hc) hq
theorem Sl.of_get {A B : St} {sz : Nat} {s : AV} {cs : List AV} (e : Sl A sz s cs) (hn : A.next ≤ B.next) (h : ∀ p po len cap q, s = .slice (some p) po len cap q → B.get p.1 = A.get p.1) : Sl B sz s cs := by
  cases e with
  | nil po cap q => exact .nil po cap q
  | mem hf hc hq => exact .mem (Nat.lt_of_lt_of_le hf hn) (by rw [St.cells_ext (h _ _ _ _ _ rfl)]; exact hc) hq
theorem cells_length {A : St} {p : Pl} {n : Nat} {cs : List AV} (h : A.cells p n = some cs) : cs.length = n := by
  unfold St.cells at h
  split at h
  · split at h
    · rename_i hc; cases h; simp; omega
    · cases h
  · cases h
def AV.slen : AV → Nat
  | .slice _ _ n _ _ => n
  | _ => 0
theorem Sl.length {A : St} {sz : Nat} {s : AV} {cs : List AV} (e : Sl A sz s cs) : cs.length = s.slen * sz := by
  cases e with
  | nil po cap q => simp [AV.slen]
  | mem hf hc hq => exact cells_length hc
theorem Sl.isSlice {A : St} {sz : Nat} {s : AV} {cs : List AV} (e : Sl A sz s cs) : ∃ a po cap q, s = .slice a po s.slen cap q := by
  cases e with
  | nil po cap q => exact ⟨_, _, _, _, rfl⟩
  | mem hf hc hq => exact ⟨_, _, _, _, rfl⟩

/-- Fewer cells of those that are known. -/
theorem cells_sub {A : St} {f v o n : Nat} {cs : List AV} (h : A.cells (f, v, o) n = some cs) {i k : Nat} (hi : i + k ≤ n) : A.cells (f, v, o + i) k = some ((cs.drop i).take k) := by
  unfold St.cells at *
  have e : A.look (f, v, o + i) = A.look (f, v, o) := rfl
  rw [e]
  split at h
  · rename_i all x nv ro hl
    split at h
    · rename_i hc
      cases h
      dsimp only at hc ⊢
      rw [if_pos (by omega)]
      congr 1
      rw [List.drop_take, List.drop_drop, List.take_take]
      congr 1
      omega
    · cases h
  · cases h

/-- A slice of a slice. -/
theorem Sl.cut {A : St} {sz : Nat} {s : AV} {cs : List AV} (e : Sl A sz s cs) {lo hi : Nat} (h1 : lo ≤ hi) (h2 : hi ≤ s.slen) {k j : IntKind} :
    ∃ s', cutSliceOf sz s (some (.int k lo)) (some (.int j hi)) none = some s' ∧ s'.slen = hi - lo ∧ Sl A sz s' ((cs.take (hi * sz)).drop (lo * sz)) := by
  cases e with
  | nil po cap q =>
    simp only [AV.slen, Nat.le_zero] at h2
    subst h2
    have : lo = 0 := by omega
    subst this
    refine ⟨.slice none po 0 0 q, ?_, rfl, by simpa using Sl.nil po 0 q⟩
    simp [cutSliceOf, boundHi, boundLo, bound?]
  | @mem f v o po len cap q _ hf hc hq =>
    simp only [AV.slen] at h2
    have hle : lo * sz + (hi - lo) * sz ≤ len * sz := by
      rw [← Nat.add_mul]; exact Nat.mul_le_mul_right _ (by omega)
    have hsub := cells_sub hc hle
    have heq : ((cs.take (hi * sz)).drop (lo * sz)) = (cs.drop (lo * sz)).take ((hi - lo) * sz) := by
      rw [List.drop_take]; congr 1; rw [Nat.sub_mul]
    rcases hq with ⟨rfl, hq⟩ | ⟨rfl, hq⟩
    · refine ⟨.slice (some (f, v, if cap = lo then o else o + lo * sz)) 0 (hi - lo) (cap - lo) 0, ?_, rfl, ?_⟩
      · simp [cutSliceOf, boundHi, boundLo, boundMx, bound?]
        rw [if_pos (by omega)]
        simp [h1]
        omega
      · rw [heq]
        refine .mem hf ?_ (.inl ⟨rfl, by omega⟩)
        by_cases hcl : cap = lo
        · rw [if_pos hcl]
          have h0 : hi - lo = 0 := by omega
          rw [h0, Nat.zero_mul] at hsub ⊢
          simpa using cells_sub hc (i := 0) (k := 0) (by omega)
        · rw [if_neg hcl]; exact hsub
    · obtain ⟨q', rfl⟩ : ∃ q', q = q' + 1 := ⟨q - 1, by omega⟩
      refine ⟨.slice (some (f, v, o + lo * (q' + 1))) (if lo = 0 then po else o) (hi - lo) (cap + lo) (q' + 1), ?_, rfl, ?_⟩
      · simp [cutSliceOf, boundHi, boundLo, boundMx, bound?, h2, h1]
      · rw [heq]
        exact .mem hf hsub (.inr ⟨rfl, by omega⟩)

theorem cutSlice_lo {sz : Nat} {s : AV} {hi : Option AV} (k : IntKind) : cutSliceOf sz s none hi none = cutSliceOf sz s (some (.int k 0)) hi none := by
  have e : ∀ h, boundLo (some (.int k 0)) h = boundLo none h := fun h => by simp [boundLo, bound?]
  cases s with
  | slice a po len cap q =>
    cases a with
    | none => simp only [cutSliceOf, e]
    | some p =>
      obtain ⟨f, v, o⟩ := p
      cases q with
      | zero => simp only [cutSliceOf, e]
      | succ q => simp only [cutSliceOf, e]
  | _ => rfl
theorem Sl.cutTo {A : St} {sz : Nat} {s : AV} {cs : List AV} (e : Sl A sz s cs) {hi : Nat} (h2 : hi ≤ s.slen) {j : IntKind} :
    ∃ s', cutSliceOf sz s none (some (.int j hi)) none = some s' ∧ s'.slen = hi ∧ Sl A sz s' (cs.take (hi * sz)) := by
  obtain ⟨s', h3, h4, h5⟩ := e.cut (lo := 0) (hi := hi) (Nat.zero_le _) h2 (k := .i64) (j := j)
  exact ⟨s', by rw [cutSlice_lo .i64]; exact h3, h4, by simpa using h5⟩
theorem Sl.cutFrom {A : St} {sz : Nat} {s : AV} {cs : List AV} (e : Sl A sz s cs) {lo : Nat} (h1 : lo ≤ s.slen) {k : IntKind} :
    ∃ s', cutSliceOf sz s (some (.int k lo)) none none = some s' ∧ s'.slen = s.slen - lo ∧ Sl A sz s' (cs.drop (lo * sz)) := by
  obtain ⟨s', h3, h4, h5⟩ := e.cut (lo := lo) (hi := s.slen) h1 (Nat.le_refl _) (k := k) (j := .i64)
  refine ⟨s', ?_, h4, ?_⟩
  · rw [← h3]
    cases e with
    | nil po cap q => simp [cutSliceOf, boundHi, bound?, AV.slen]
    | @mem f v o po len cap q _ hf hc hq =>
      cases q with
      | zero =>
        have hq' : len ≤ cap := by rcases hq with h | h; exact h.2; exact absurd rfl h.2
        simp [cutSliceOf, boundHi, boundMx, bound?, AV.slen, hq']
      | succ q => simp [cutSliceOf, boundHi, boundMx, bound?, AV.slen]
  · rw [List.take_of_length_le (by rw [e.length]; exact Nat.le_refl _)] at h5
    exact h5

/-- A slice that may grow: nobody else's cells. -/
inductive Own (lo : Nat) (A : St) (sz : Nat) : AV → List AV → Prop where
  | nil (po cap q : Nat) : Own lo A sz (.slice none po 0 cap q) []
  | mem {f v o po len cap q : Nat} {all : List AV} {vers : List Ver} {nv : Nat} {y : Ver} (hlo : lo ≤ f) (hf : f < A.next) (hg : A.get f = some (.cells all vers nv false)) (hv : findVer v vers = some y)
      (h1 : y.lo ≤ o) (h2 : o + len * sz ≤ y.hi) (h3 : y.hi ≤ all.length) (hq : q = 0 ∧ len ≤ cap ∧ o + cap * sz ≤ y.hi ∨ q = sz ∧ q ≠ 0) : Own lo A sz (.slice (some (f, v, o)) po len cap q) ((all.drop o).take (len * sz))

theorem Own.sl {lo : Nat} {A : St} {sz : Nat} {s : AV} {cs : List AV} (e : Own lo A sz s cs) : Sl A sz s cs := by
  cases e with
  | nil po cap q => exact .nil po cap q
  | @mem f v o po len cap q all vers nv y hlo hf hg hv h1 h2 h3 hq =>
    refine .mem hf ?_ (hq.imp (fun h => ⟨h.1, h.2.1⟩) id)
    unfold St.cells St.look
    dsimp only
    rw [hg]
    dsimp only
    rw [hv]
    dsimp only [Option.map_some]
    rw [if_pos ⟨h1, h2, h3⟩]
theorem Own.mono {lo lo' : Nat} (h : lo' ≤ lo) {A : St} {sz : Nat} {s : AV} {cs : List AV} (e : Own lo A sz s cs) : Own lo' A sz s cs := by
  cases e with
  | nil po cap q => exact .nil po cap q
  | mem hlo hf hg hv h1 h2 h3 hq => exact .mem (Nat.le_trans h hlo) hf hg hv h1 h2 h3 hq
theorem Own.of_get {lo : Nat} {A B : St} {sz : Nat} {s : AV} {cs : List AV} (e : Own lo A sz s cs) (hn : A.next ≤ B.next) (h : ∀ p po len cap q, s = .slice (some p) po len cap q → B.get p.1 = A.get p.1) : Own lo B sz s cs := by
  cases e with
  | nil po cap q => exact .nil po cap q
  | mem hlo hf hg hv h1 h2 h3 hq => exact .mem hlo (Nat.lt_of_lt_of_le hf hn) ((h _ _ _ _ _ rfl).trans hg) hv h1 h2 h3 hq
theorem Own.ext {lo : Nat} {A B : St} {sz : Nat} {s : AV} {cs : List AV} (e : Own lo A sz s cs) (h : A.Ext B) : Own lo B sz s cs := by
  refine e.of_get h.next fun p po len cap q hs => ?_
  cases e with
  | nil => cases hs
  | mem hlo hf hg hv h1 h2 h3 hq => cases hs; exact h.get _ hf

/-- Does a slice point into a family? -/
def AV.into (f : Nat) : AV → Bool
  | .slice (some p) _ _ _ _ => p.1 == f
  | _ => false

/-- What has not turned: all families but those that a slice points into. -/
structure But (A B : St) (s : AV) : Prop where
  next : A.next ≤ B.next
  get : ∀ f, f < A.next → s.into f = false → B.get f = A.get f

theorem ext_make (A : St) (cs : List AV) (sz : Nat) : A.Ext (A.make cs sz).2 := ext_push _ _
theorem get_make (A : St) (cs : List AV) (sz : Nat) : (A.make cs sz).2.get A.next = some (.cells cs [⟨0, 0, cs.length, sz⟩] 1 false) := by
  show (A.push _).get A.next = _
  rw [St.get_push, if_pos rfl]
/-- A new family, as a slice. -/
theorem own_make (A : St) {cs : List AV} {sz n : Nat} (h : cs.length = n * sz) (hz : sz ≠ 0) {lo : Nat} (hlo : lo ≤ A.next) : Own lo (A.make cs sz).2 sz (.slice (some (A.next, 0, 0)) 0 n 0 sz) cs := by
  have e : cs = (cs.drop 0).take (n * sz) := by simp [← h]
  conv => rhs; rw [e]
  exact .mem hlo (Nat.lt_succ_self _) (get_make A cs sz) (by simp [findVer]; rfl) (Nat.zero_le _) (by simp [h]) (Nat.le_refl _) (.inr ⟨rfl, hz⟩)
theorem ext_makeV (A : St) (cs : List AV) (sz u : Nat) : A.Ext (A.makeV cs sz u).2 := ext_push _ _
theorem get_makeV (A : St) (cs : List AV) (sz u : Nat) : (A.makeV cs sz u).2.get A.next = some (.cells cs [⟨u, 0, cs.length, sz⟩] (u + 1) false) := by
  show (A.push _).get A.next = _
  rw [St.get_push, if_pos rfl]
/-- A text's bytes, as a slice. -/
theorem own_text (A : St) {cs : List AV} {n : Nat} (h : cs.length = n) {lo : Nat} (hlo : lo ≤ A.next) : Own lo (A.makeV cs 1 1).2 1 (.slice (some (A.next, 1, 0)) 0 n 0 1) cs := by
  have e : cs = (cs.drop 0).take (n * 1) := by simp [← h]
  conv => rhs; rw [e]
  exact .mem hlo (Nat.lt_succ_self _) (get_makeV A cs 1 1) (by simp [findVer]; rfl) (Nat.zero_le _) (by simp [h]) (Nat.le_refl _) (.inr ⟨rfl, by decide⟩)
theorem own_make_exact (A : St) {cs : List AV} {sz n : Nat} (h : cs.length = n * sz) {lo : Nat} (hlo : lo ≤ A.next) {len : Nat} (hl : len ≤ n) : Own lo (A.make cs sz).2 sz (.slice (some (A.next, 0, 0)) 0 len n 0) (cs.take (len * sz)) := by
  have e : cs.take (len * sz) = (cs.drop 0).take (len * sz) := by simp
  rw [e]
  exact .mem hlo (Nat.lt_succ_self _) (get_make A cs sz) (by simp [findVer]; rfl) (Nat.zero_le _) (by simp [h]; exact Nat.mul_le_mul_right _ hl) (Nat.le_refl _) (.inl ⟨rfl, hl, by simp [h]⟩)

theorem Sl.first {A : St} {sz : Nat} {x : AV} {ds : List AV} (h : Sl A sz x ds) : lenA x = some x.slen ∧ firstA A sz x.slen x = some ds := by
  cases h with
  | nil po cap q => exact ⟨rfl, rfl⟩
  | mem hf hc hq => exact ⟨rfl, hc⟩

theorem grown_cells {all ds rest : List AV} {o a b : Nat} (h : o + a ≤ all.length) (hd : ds.length = b) : ((all.take (o + a) ++ (ds ++ rest)).drop o).take (a + b) = (all.drop o).take a ++ ds := by
  have h1 : (all.take (o + a)).length = o + a := by simp; omega
  rw [List.drop_append_of_le_length (by omega), List.drop_take]
  have h2 : ((all.drop o).take (o + a - o)).length = a := by simp; omega
  rw [show o + a - o = a by omega] at *
  generalize (all.drop o).take a = z at *
  subst h2
  rw [List.take_length_add_append, List.take_append_of_le_length (by omega), List.take_of_length_le (by omega)]

theorem But.refl (A : St) (s : AV) : But A A s := ⟨Nat.le_refl _, fun _ _ _ => rfl⟩
theorem But.of_ext {A B : St} (h : A.Ext B) (s : AV) : But A B s := ⟨h.next, fun f hf _ => h.get f hf⟩
theorem but_put {A : St} {f v o po len cap q : Nat} (b : Blk) : But A (A.put f b) (.slice (some (f, v, o)) po len cap q) :=
  ⟨Nat.le_refl _, fun g _ hi => by rw [St.get_put, if_neg]; rintro rfl; simp [AV.into] at hi⟩

theorem own_write {lo : Nat} {A : St} {sz f v o len : Nat} {all : List AV} {vers : List Ver} {nv : Nat} {y : Ver} {ds : List AV} {n : Nat} (hlo : lo ≤ f) (hf : f < A.next) (hg : A.get f = some (.cells all vers nv false)) (hv : findVer v vers = some y)
    (h1 : y.lo ≤ o) (h3 : y.hi ≤ all.length) (hd : ds.length = n * sz) (hfl : ds.all AV.flat = true) (hfit : o + (len + n) * sz ≤ y.hi) {po cap q : Nat} (hq : q = 0 ∧ len + n ≤ cap ∧ o + cap * sz ≤ y.hi ∨ q = sz ∧ q ≠ 0) :
    ∃ B, A.write (f, v, o + len * sz) ds = some B ∧ Own lo B sz (.slice (some (f, v, o)) po (len + n) cap q) ((all.drop o).take (len * sz) ++ ds) ∧ B = A.put f (.cells (splice all (o + len * sz) ds) [y] nv false) := by
  rw [Nat.add_mul] at hfit
  have hlook : A.look (f, v, o + len * sz) = some (all, y, nv, false) := by
    unfold St.look; dsimp only; rw [hg]; dsimp only; rw [hv]; rfl
  refine ⟨_, ?_, ?_, rfl⟩
  · unfold St.write
    rw [hlook]
    dsimp only
    rw [if_pos ⟨by omega, by omega, h3, hfl⟩]
  · have e := grown_cells (all := all) (ds := ds) (rest := all.drop (o + len * sz + ds.length)) (o := o) (a := len * sz) (b := n * sz) (by omega) hd
    rw [← e, ← Nat.add_mul]
    have hy := (findVer_spec hv).2
    exact .mem hlo hf (by rw [St.get_put, if_pos rfl]; rfl) (by simp [findVer, hy]) h1 (by rw [Nat.add_mul]; omega) (by rw [show (all.take (o + len * sz) ++ (ds ++ all.drop (o + len * sz + ds.length))).length = all.length from splice_length all ds _ (by omega)]; exact h3) hq

theorem own_append {lo : Nat} {A : St} {sz bytes : Nat} {s x : AV} {cs ds : List AV} (hs : Own lo A sz s cs) (hx : Sl A sz x ds) (hlo : lo ≤ A.next) (hz : sz ≠ 0) (hfl : ds.all AV.flat = true)
    (hb : (s.slen + x.slen) * bytes ≤ 70368744177664) (hb' : s.slen + x.slen ≤ 70368744177664) :
    ∃ s' B, appendOf A sz bytes s x = some (s', B) ∧ s'.slen = s.slen + x.slen ∧ Own lo B sz s' (cs ++ ds) ∧ But A B s ∧ ∀ f, s'.into f = true → s.into f = true ∨ A.next ≤ f := by
  obtain ⟨hn, hf⟩ := hx.first
  have hlen := hx.length
  generalize x.slen = n at *
  unfold appendOf
  rw [hn]
  dsimp only
  rw [hf]
  dsimp only
  rw [if_pos ⟨hfl, hlen, hz⟩]
  by_cases hn0 : n = 0
  · subst hn0
    have : ds = [] := by simpa using hlen
    subst this
    refine ⟨s, A, ?_, by simp, by simpa using hs, But.refl A s, fun f h => .inl h⟩
    cases hs with
    | nil po cap q => simp
    | @mem f v o po len cap q all vers nv y hlo' hf' hg hv h1 h2 h3 hq =>
      cases q with
      | zero =>
        have : len ≤ cap := by rcases hq with h | h; exact h.2.1; exact absurd rfl h.2
        simp [this]
      | succ q => simp
  · cases hs with
    | nil po cap q =>
      simp only [AV.slen, Nat.zero_add] at hb hb'
      refine ⟨.slice (some (A.next, 0, 0)) 0 n 0 sz, (A.make ds sz).2, ?_, by simp [AV.slen], by simpa using own_make A hlen hz hlo, But.of_ext (ext_make _ _ _) _, fun f h => .inr ?_⟩
      · simp only [ne_eq, not_true_eq_false, if_false, hn0]
        rw [if_pos ⟨hb, hb'⟩]
        rfl
      · simp [AV.into] at h; omega
    | @mem f v o po len cap q all vers nv y hlo' hf' hg hv h1 h2 h3 hq =>
      have hsl := (Own.mem (po := po) hlo' hf' hg hv h1 h2 h3 hq).sl
      simp only [AV.slen] at hb hb'
      cases q with
      | zero =>
        have hq' : len ≤ cap ∧ o + cap * sz ≤ y.hi := by rcases hq with h | h; exact h.2; exact absurd rfl h.2
        dsimp only
        by_cases hfit : len + n ≤ cap
        · have hfit' : o + (len + n) * sz ≤ y.hi := Nat.le_trans (Nat.add_le_add_left (Nat.mul_le_mul_right _ hfit) _) hq'.2
          obtain ⟨B, w1, w2, rfl⟩ := own_write (po := po) (cap := cap) (q := 0) hlo' hf' hg hv h1 h3 hlen hfl hfit' (.inl ⟨rfl, hfit, hq'.2⟩)
          refine ⟨.slice (some (f, v, o)) po (len + n) cap 0, _, ?_, by simp [AV.slen], w2, but_put _, fun g h => .inl (by simpa [AV.into] using h)⟩
          rw [if_pos hfit, if_neg hn0, w1]
        · have hcells : A.cells (f, v, o) (len * sz) = some ((all.drop o).take (len * sz)) := by
            cases hsl with
            | mem _ hc _ => exact hc
          have hcl := cells_length hcells
          refine ⟨.slice (some (A.next, 0, 0)) 0 (len + n) 0 sz, (A.make ((all.drop o).take (len * sz) ++ ds) sz).2, ?_, by simp [AV.slen], own_make A (by rw [List.length_append, hcl, hlen, Nat.add_mul]) hz hlo, But.of_ext (ext_make _ _ _) _, fun g h => .inr ?_⟩
          · rw [if_neg hfit, if_pos ⟨hb, hb'⟩, hcells]
            rfl
          · simp [AV.into] at h; omega
      | succ q =>
        have hq' : q + 1 = sz := by rcases hq with h | h; exact absurd h.1 (by omega); exact h.1
        dsimp only
        rw [if_neg hn0, if_pos ⟨hb, hb', hq'⟩, hg]
        dsimp only
        rw [hv]
        dsimp only
        rw [if_pos ⟨h1, h2, h3⟩]
        by_cases hfit : o + (len + n) * sz ≤ y.hi
        · obtain ⟨B, w1, w2, rfl⟩ := own_write (po := po) (cap := cap) (q := q + 1) hlo' hf' hg hv h1 h3 hlen hfl hfit (.inr ⟨hq', by omega⟩)
          refine ⟨.slice (some (f, v, o)) po (len + n) cap (q + 1), _, ?_, by simp [AV.slen], w2, but_put _, fun g h => .inl (by simpa [AV.into] using h)⟩
          rw [if_pos hfit, w1]
        · rw [if_neg hfit]
          refine ⟨_, _, rfl, by simp [AV.slen], ?_, but_put _, fun g h => .inl (by simpa [AV.into] using h)⟩
          have e := grown_cells (all := all) (ds := ds) (rest := []) (o := o) (a := len * sz) (b := n * sz) (by omega) hlen
          rw [List.append_nil] at e
          rw [← e, ← Nat.add_mul]
          exact .mem hlo' hf' (by rw [St.get_put, if_pos rfl]) (by simp [findVer]; rfl) (Nat.le_refl _) (Nat.le_refl _) (by simp [hlen, Nat.add_mul]; omega) (.inr ⟨hq', by omega⟩)
end Go.AM
