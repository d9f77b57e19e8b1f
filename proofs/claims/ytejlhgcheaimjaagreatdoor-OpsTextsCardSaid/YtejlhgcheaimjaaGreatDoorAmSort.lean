/- The abstract machine: the library's sorts, by the shelf's contracts. -/
import Derived.Test.YtejlhgcheaimjaaGreatDoorAmAny
import Derived.Test.YtejlhgcheaimjaaGreatDoorAmOwn
import Derived.Sort.Row
import Derived.Sort.Grow
import Derived.Sort.Walk0
namespace Go.AM
open Go.Sort
set_option linter.unusedVariables false
set_option linter.unusedSimpArgs false

/-! ### Insertion sort -/
section
variable {α : Type} (le : α → α → Bool)
def insB (x : α) : List α → List α
  | [] => [x]
  | y :: l => bif le x y then x :: y :: l else y :: insB x l
def sortB : List α → List α
  | [] => []
  | x :: l => insB le x (sortB l)
theorem insB_perm (x : α) : ∀ l, List.Perm (insB le x l) (x :: l)
  | [] => List.Perm.refl _
  | y :: l => by
    unfold insB
    cases le x y with
    | true => exact List.Perm.refl _
    | false => exact ((insB_perm x l).cons y).trans (List.Perm.swap x y l)
theorem sortB_perm : ∀ l, List.Perm (sortB le l) l
  | [] => List.Perm.refl _
  | x :: l => (insB_perm le x _).trans ((sortB_perm l).cons x)
theorem insB_pairwise (htr : ∀ a b c, le a b = true → le b c = true → le a c = true) (htot : ∀ a b, (le a b || le b a) = true) (x : α) : ∀ l, List.Pairwise (fun a b => le a b = true) l → List.Pairwise (fun a b => le a b = true) (insB le x l)
  | [], _ => List.pairwise_singleton _ _
  | y :: l, h => by
    unfold insB
    obtain ⟨h1, h2⟩ := List.pairwise_cons.1 h
    cases hxy : le x y with
    | true =>
      rw [cond_true]
      refine List.pairwise_cons.2 ⟨fun z hz => ?_, h⟩
      rcases List.mem_cons.1 hz with rfl | hz
      · exact hxy
      · exact htr _ _ _ hxy (h1 z hz)
    | false =>
      rw [cond_false]
      refine List.pairwise_cons.2 ⟨fun z hz => ?_, insB_pairwise htr htot x l h2⟩
      have := (insB_perm le x l).mem_iff.1 hz
      rcases List.mem_cons.1 this with rfl | hz
      · have := htot z y
        rw [hxy, Bool.false_or] at this
        exact this
      · exact h1 z hz
theorem sortB_pairwise (htr : ∀ a b c, le a b = true → le b c = true → le a c = true) (htot : ∀ a b, (le a b || le b a) = true) : ∀ l, List.Pairwise (fun a b => le a b = true) (sortB le l)
  | [] => List.Pairwise.nil
  | x :: l => insB_pairwise le htr htot x _ (sortB_pairwise htr htot l)
theorem sortB_eq (htr : ∀ a b c, le a b = true → le b c = true → le a c = true) (htot : ∀ a b, (le a b || le b a) = true) (hanti : ∀ a b, le a b = true → le b a = true → a = b) {l k : List α} (h : List.Perm k l) : k.mergeSort le = sortB le l :=
  List.Perm.eq_of_pairwise (fun a b _ _ => hanti a b) (List.pairwise_mergeSort htr htot k) (sortB_pairwise le htr htot l) ((List.mergeSort_perm k le).trans (h.trans (sortB_perm le l).symm))
end
def leI (a b : Int) : Bool := decide (a ≤ b)
def leS (a b : List UInt8) : Bool := !bytesLess b a
theorem leS_eq (a b : List UInt8) : leS a b = decide (a ≤ b) := by
  unfold leS
  rw [Go.AM.bytesLess_eq, Go.Proofs.bytesLess_eq]
  by_cases h : a ≤ b
  · rw [decide_eq_true h, decide_eq_false (by rw [List.not_lt]; exact h)]; rfl
  · rw [decide_eq_false h, decide_eq_true (by rw [← List.not_lt] at h; exact Decidable.not_not.1 h)]; rfl
theorem sortI_eq {l k : List Int} (h : List.Perm k l) : k.mergeSort (fun x y => decide (x ≤ y)) = sortB leI l :=
  sortB_eq leI (fun a b c h1 h2 => by simp only [leI, decide_eq_true_eq] at *; omega) (fun a b => by simp only [leI, Bool.or_eq_true, decide_eq_true_eq]; omega) (fun a b h1 h2 => by simp only [leI, decide_eq_true_eq] at *; omega) h
theorem sortS_eq {l k : List (List UInt8)} (h : List.Perm k l) : k.mergeSort (fun x y => decide (x ≤ y)) = sortB leS l := by
  have e : (fun x y : List UInt8 => decide (x ≤ y)) = leS := by funext a b; exact (leS_eq a b).symm
  rw [e]
  refine sortB_eq leS (fun a b c h1 h2 => ?_) (fun a b => ?_) (fun a b h1 h2 => ?_) h
  · rw [leS_eq, decide_eq_true_eq] at *
    exact List.le_trans h1 h2
  · rw [leS_eq, leS_eq, Bool.or_eq_true, decide_eq_true_eq, decide_eq_true_eq]
    exact List.le_total a b
  · rw [leS_eq, decide_eq_true_eq] at *
    exact List.le_antisymm h1 h2

/-! ### What a sort leaves -/
theorem mapBlock_nil (w : World) (b : Nat) : mapBlock w b (fun c => c) = w := mapBlock_id w b _ (fun _ _ _ _ => rfl)
def setL : Nat → List Value → Array Value → Array Value
  | _, [], c => c
  | o, v :: r, c => setL (o + 1) r (c.setIfInBounds o v)
theorem setCells_map (b : Nat) : ∀ (vs : List Value) (o : Nat) (w : World), w.setCells b o vs = mapBlock w b (setL o vs)
  | [], o, w => by
    show w = mapBlock w b (fun c => c)
    exact (mapBlock_nil w b).symm
  | v :: r, o, w => by
    show (w.setCell ⟨b, o, none⟩ v).setCells b (o + 1) r = _
    rw [setCells_map b r, setCell_eq, mapBlock_mapBlock]
    rfl
theorem setL_size : ∀ (vs : List Value) (o : Nat) (c : Array Value), (setL o vs c).size = c.size
  | [], _, _ => rfl
  | v :: r, o, c => by
    show (setL (o + 1) r (c.setIfInBounds o v)).size = _
    rw [setL_size r, Array.size_setIfInBounds]
theorem setL_get : ∀ (vs : List Value) (o : Nat) (c : Array Value) (k : Nat), (setL o vs c)[k]? = if o ≤ k ∧ k < o + vs.length ∧ k < c.size then vs[k - o]? else c[k]?
  | [], o, c, k => by
    rw [if_neg (by simp; omega)]
    rfl
  | v :: r, o, c, k => by
    show (setL (o + 1) r (c.setIfInBounds o v))[k]? = _
    rw [setL_get r, Array.size_setIfInBounds]
    by_cases hk : k = o
    · subst hk
      rw [if_neg (by omega)]
      by_cases hs : k < c.size
      · rw [if_pos ⟨Nat.le_refl _, by simp, hs⟩]
        simp [hs]
      · rw [if_neg (by omega)]
        simp [hs]
    · by_cases h : o + 1 ≤ k ∧ k < o + 1 + r.length ∧ k < c.size
      · rw [if_pos h, if_pos ⟨by omega, by simp only [List.length_cons]; omega, h.2.2⟩]
        obtain ⟨d, rfl⟩ : ∃ d, k = o + 1 + d := ⟨k - (o + 1), by omega⟩
        rw [show o + 1 + d - (o + 1) = d by omega, show o + 1 + d - o = d + 1 by omega]
        rfl
      · rw [if_neg h, if_neg (by simp only [List.length_cons]; omega), Array.getElem?_setIfInBounds_ne (by omega)]
theorem putRow_set {α : Type} [Inhabited α] (enc : α → Value) (w : World) (b o : Nat) (d : Array α) : putRow enc w b o d = w.setCells b o (d.toList.map enc) := by
  rw [setCells_map]
  unfold putRow
  refine mapBlock_congr w b _ _ fun c e fr _ => ?_
  apply Array.ext_getElem?
  intro k
  rw [setL_get]
  unfold putCells
  rw [Array.getElem?_mapIdx]
  by_cases hk : k < c.size
  · rw [Array.getElem?_eq_getElem hk]
    by_cases h : o ≤ k ∧ k < o + d.size
    · rw [if_pos ⟨h.1, by simpa using h.2, hk⟩]
      have hd : k - o < d.size := by omega
      simp [h, hd]
    · rw [if_neg (by simp; omega)]
      simp [h]
  · rw [Array.getElem?_eq_none (by omega), if_neg (by omega)]
    rfl

section
variable {F : Fr} {m : Mu} {A : St} {w : World}
theorem Rel.sameHeap (R : Rel F m A w) {w' : World} (hh : w'.heap = w.heap) (ho : w'.os = w.os) (ho2 : w'.output = w.output) : Rel F m A w' :=
  ⟨fun f v l h => by rw [hh]; exact R.dom f v l h, fun f b h => blkR_mono (Mu.le_refl m) (fun _ h => h) (R.got f b h) fun _ _ _ => by rw [hh], fun cb o h => by rw [hh]; exact R.keep cb o h, by rw [ho, ho2]; exact R.rest, R.apart,
    fun f v l h1 h2 c e fz h3 => R.unf f v l h1 h2 c e fz (by rw [← hh]; exact h3), R.same, R.orig, R.frm⟩
theorem Rel.grown (R : Rel F m A w) (os : Array Obj) : Rel F m A (grow w os) := by
  have hold : ∀ cb, cb < w.heap.size → (grow w os).heap[cb]? = w.heap[cb]? := fun cb h => by
    show (w.heap ++ os)[cb]? = _
    rw [Array.getElem?_append_left h]
  refine ⟨fun f v l h => ?_, fun f b h => blkR_mono (Mu.le_refl m) (fun _ h => h) (R.got f b h) fun _ _ hm => hold _ (R.dom _ _ _ hm).2, fun cb o h => ?_, R.rest, R.apart, fun f v l h1 h2 c e fz h3 => R.unf f v l h1 h2 c e fz (by rw [← hold _ (R.dom _ _ _ h1).2]; exact h3), R.same, R.orig, R.frm⟩
  · have := R.dom f v l h
    refine ⟨this.1, ?_⟩
    show l.cb < (w.heap ++ os).size
    rw [Array.size_append]
    omega
  · have hk := R.keep cb o h
    rw [hold cb (Array.getElem?_eq_some_iff.1 hk).1]
    exact hk
end

/-! ### Sorts as rows of the table -/
def intsOf : List AV → Option (List Int)
  | [] => some []
  | .int .i64 n :: l => match intsOf l with | some r => some (n :: r) | none => none
  | _ => none
def strsOf : List AV → Option (List (List UInt8))
  | [] => some []
  | .str s :: l => match strsOf l with | some r => some (s :: r) | none => none
  | _ => none
theorem intsOf_eq : ∀ {l : List AV} {zs : List Int}, intsOf l = some zs → l = zs.map (AV.int .i64)
  | [], zs, h => by cases h; rfl
  | a :: l, zs, h => by
    unfold intsOf at h
    split at h
    · rename_i heq; cases heq
    · rename_i n l' heq
      cases heq
      split at h
      · rename_i r hr; cases h; rw [intsOf_eq hr]; rfl
      · cases h
    · cases h
theorem strsOf_eq : ∀ {l : List AV} {zs : List (List UInt8)}, strsOf l = some zs → l = zs.map AV.str
  | [], zs, h => by cases h; rfl
  | a :: l, zs, h => by
    unfold strsOf at h
    split at h
    · rename_i heq; cases heq
    · rename_i n l' heq
      cases heq
      split at h
      · rename_i r hr; cases h; rw [strsOf_eq hr]; rfl
      · cases h
    · cases h
/-- A slice's cells, put in order. -/
def sortX {α : Type} (dec : List AV → Option (List α)) (enc : α → AV) (le : α → α → Bool) (A : St) (s : AV) : Option (AV × St) :=
  match s with
  | .slice none _ 0 _ _ => some (.tuple [], A)
  | .slice (some p) _ len _ _ => if len = 0 then some (.tuple [], A) else if 4611686018427387904 ≤ len then none else match A.cells p len with
    | some l => match dec l with
      | some zs => match A.write p ((sortB le zs).map enc) with
        | some B => some (.tuple [], B)
        | none => none
      | none => none
    | none => none
  | _ => none
def sortIX : St → AV → Option (AV × St) := sortX intsOf (AV.int .i64) leI
def sortSX : St → AV → Option (AV × St) := sortX strsOf AV.str leS


theorem intsOf_map : ∀ (zs : List Int), intsOf (zs.map (AV.int .i64)) = some zs
  | [] => rfl
  | z :: zs => by simp only [List.map_cons, intsOf, intsOf_map zs]
theorem strsOf_map : ∀ (zs : List (List UInt8)), strsOf (zs.map AV.str) = some zs
  | [] => rfl
  | z :: zs => by simp only [List.map_cons, strsOf, strsOf_map zs]
/-- One's own cells, put in order. -/
theorem Own.sorted {α : Type} {dec : List AV → Option (List α)} {enc : α → AV} {le : α → α → Bool} (hd : ∀ zs, dec (zs.map enc) = some zs) (hf : ∀ z, (enc z).flat = true) {lo : Nat} {A : St} {s : AV} {zs : List α} (h : Own lo A 1 s (zs.map enc)) (hl : zs.length < 4611686018427387904) :
    ∃ B, sortX dec enc le A s = some (.tuple [], B) ∧ Own lo B 1 s ((sortB le zs).map enc) ∧ But A B s := by
  have hsp := (sortB_perm le zs).length_eq
  generalize hcs : zs.map enc = cs at h
  cases h with
  | nil po cap q =>
    have : zs = [] := by simpa using hcs
    subst this
    exact ⟨A, rfl, .nil _ _ _, But.refl A _⟩
  | @mem f v o po len cap q all vers nv y hlo hf' hg hv h1 h2 h3 hq =>
    have hlen : zs.length = len := by
      have := congrArg List.length hcs
      rw [List.length_map, List.length_take, List.length_drop] at this
      omega
    by_cases h0 : len = 0
    · have : zs = [] := by
        cases zs with
        | nil => rfl
        | cons z zs => simp at hlen; omega
      subst this
      refine ⟨A, by simp [sortX, h0], ?_, But.refl A _⟩
      have e : (sortB le ([] : List α)).map enc = (all.drop o).take (len * 1) := by simp [sortB, h0]
      rw [e]
      exact .mem hlo hf' hg hv h1 h2 h3 hq
    · have hcell : A.cells (f, v, o) len = some (zs.map enc) := by
        have := (Own.mem (po := po) (cap := cap) (q := q) hlo hf' hg hv h1 h2 h3 hq).sl
        cases this with
        | mem _ hc _ => rw [hcs]; simpa using hc
      have hsl : ((sortB le zs).map enc).length = len := by rw [List.length_map, hsp, hlen]
      have hlook : A.look (f, v, o) = some (all, y, nv, false) := by
        unfold St.look; dsimp only; rw [hg]; dsimp only; rw [hv]; rfl
      have hw : A.write (f, v, o) ((sortB le zs).map enc) = some (A.put f (.cells (splice all o ((sortB le zs).map enc)) [y] nv false)) := by
        unfold St.write
        rw [hlook]
        dsimp only
        rw [if_pos ⟨h1, by rw [hsl]; omega, h3, by simp [hf]⟩]
      refine ⟨A.put f (.cells (splice all o ((sortB le zs).map enc)) [y] nv false), ?_, ?_, but_put _⟩
      · unfold sortX
        dsimp only
        rw [if_neg h0, if_neg (by omega), hcell]
        dsimp only
        rw [hd]
        dsimp only
        rw [hw]
      · have hy := (findVer_spec hv).2
        have e := grown_cells (all := all) (ds := (sortB le zs).map enc) (rest := all.drop (o + ((sortB le zs).map enc).length)) (o := o) (a := 0) (b := len * 1) (by omega) (by rw [hsl, Nat.mul_one])
        simp only [List.take_zero, List.nil_append, Nat.add_zero, Nat.zero_add] at e
        have e' : ((splice all o ((sortB le zs).map enc)).drop o).take (len * 1) = (sortB le zs).map enc := e
        have key : Own lo (A.put f (.cells (splice all o ((sortB le zs).map enc)) [y] nv false)) 1 (.slice (some (f, v, o)) po len cap q) (((splice all o ((sortB le zs).map enc)).drop o).take (len * 1)) :=
          .mem hlo hf' (by rw [St.get_put, if_pos rfl]) (by simp [findVer, hy]) h1 h2 (by rw [splice_length all _ _ (by rw [hsl]; omega)]; exact h3) hq
        rw [e'] at key
        exact key
end Go.AM
