/- The abstract machine: slices.Sort, of numbers and of texts, as a row of its table. -/
import Derived.Test.YteoioahkflcchaaGreatDoorAmSort
import Derived.Shelf.SortM.SortNone
import Derived.Shelf.SortM.Plain
import Derived.Shelf.Slices.CompactS
import Derived.Lib.RowBridge
namespace Go.AM
open Go.Sort Go.Proofs Go.Shelf
set_option linter.unusedVariables false
set_option linter.unusedSimpArgs false

section
variable {P : Program} {F : Fr} {m : Mu} {A B : St} {w : World} {α : Type} [Inhabited α]
theorem sortX_ok {f : FuncId} {dec : List AV → Option (List α)} {enc : α → AV} {le : α → α → Bool} {encV : α → Value} (hdec : ∀ l zs, dec l = some zs → l = zs.map enc) (henc : ∀ m z, cvo m (enc z) = some (encV z)) (lev : α → α → Bool) (hle : ∀ l : List α, l.mergeSort lev = sortB le l)
    (hnone : ∀ (p : Option Addr) (cap : Nat) (w : World), Calls P f #[.slice p 0 cap] w fun e w' => e = .returned (.tuple #[]) ∧ w' = w)
    (hsort : ∀ (blk off cap : Nat) (zs : List α) (w : World), Holds encV w blk off zs.toArray → blk < w.heap.size → zs.length < 4611686018427387904 → Calls P f #[.slice (some ⟨blk, off, none⟩) zs.length cap] w fun e w' =>
      e = .returned (.tuple #[]) ∧ ∃ n os, w' = grow (putRow encV (Sort.ahead w n) blk off (zs.mergeSort lev).toArray) os)
    {s r : AV} (h : sortX dec enc le A s = some (r, B)) (R : Rel F m A w) {cargs : List Value} (hc : cvos m [s] = some cargs) : CallOk P F m r B f cargs.toArray w := by
  simp only [cvos] at hc
  split at hc
  rotate_left
  · cases hc
  rename_i c cs hcs hnil
  cases hnil
  cases hc
  have hah : ∀ n, Rel F m A (Sort.ahead w n) := fun n => R.sameHeap rfl rfl rfl
  unfold sortX at h
  split at h
  · rename_i po cap q
    simp only [Option.some.injEq, Prod.mk.injEq] at h
    obtain ⟨rfl, rfl⟩ := h
    obtain ⟨b, l, k, g1, g2, g3⟩ := nilSlice_cases rfl (.inr hcs)
    have hl := g3 rfl
    subst hl
    subst g1
    refine (hnone b k w).mono fun e w' ⟨h1, h2⟩ => ?_
    subst h1; subst h2
    exact ⟨.tuple #[], m, rfl, Mu.le_refl m, R, rfl⟩
  · rename_i p po len cap q
    obtain ⟨bs, cap', k1, k2, k3, k4⟩ := slice_sound rfl (.inr hcs)
    split at h
    · rename_i h0
      simp only [Option.some.injEq, Prod.mk.injEq] at h
      obtain ⟨rfl, rfl⟩ := h
      subst h0
      subst k1
      refine (hnone (some bs) cap' w).mono fun e w' ⟨h1, h2⟩ => ?_
      subst h1; subst h2
      exact ⟨.tuple #[], m, rfl, Mu.le_refl m, R, rfl⟩
    rename_i hlen
    split at h
    · cases h
    rename_i hbig
    split at h
    rotate_left
    · cases h
    rename_i l hl
    split at h
    rotate_left
    · cases h
    rename_i zs hzs
    split at h
    rotate_left
    · cases h
    rename_i B' hw
    simp only [Option.some.injEq, Prod.mk.injEq] at h
    obtain ⟨rfl, rfl⟩ := h
    have hl2 := hdec l zs hzs
    have hpl := k3 (by omega)
    obtain ⟨b, ofs, ys, g1, g2, g3, g4⟩ := R.cells hl
    rw [hpl] at g1
    cases g1
    subst k1
    have hmap : ∀ (m : Mu) (zs : List α), cvos m (zs.map enc) = some (zs.map encV) := fun m zs => by
      induction zs with
      | nil => rfl
      | cons z zs ih => simp only [List.map_cons, cvos, henc, ih]
    rw [hl2, hmap] at g2
    cases g2
    rw [List.length_map] at g3
    have hsp := (sortB_perm le zs).length_eq
    obtain ⟨b2, o2, j1, j2, j3, j4⟩ := R.write hw (hmap m _)
    rw [hpl] at j1
    cases j1
    have hholds : Holds encV w b ofs zs.toArray := fun j hj => by
      have hj' : j < zs.length := by simpa using hj
      refine ⟨?_, (j2 j (by rw [List.length_map, hsp]; exact hj')).2⟩
      have := g4 j (encV zs[j]) (by rw [List.getElem?_map, List.getElem?_eq_getElem hj']; rfl)
      rw [this]
      simp [hj']
    have hblk : b < w.heap.size := by
      have h0 := g4 0 (encV (zs[0]'(by omega))) (by rw [List.getElem?_map, List.getElem?_eq_getElem (by omega)]; rfl)
      rcases Nat.lt_or_ge b w.heap.size with h | h
      · exact h
      · unfold World.cell? at h0
        rw [Array.getElem?_eq_none h] at h0
        cases h0
    subst g3
    refine (hsort b ofs cap' zs w hholds hblk (by omega)).mono fun e w' ⟨h1, n, os, h2⟩ => ?_
    subst h1; subst h2
    obtain ⟨b3, o3, i1, i2, i3, i4⟩ := (hah n).write hw (hmap m _)
    rw [hpl] at i1
    cases i1
    refine ⟨.tuple #[], m, rfl, Mu.le_refl m, ?_, rfl⟩
    rw [putRow_set, hle]
    exact i4.grown os
  · cases h
end

section
variable {P : Program} {ρ : Ren}
theorem ok_sortI (Ly : SlLaysM.n5 P ρ) {M0 : Mu} {A B : St} {s r : AV} (h : sortIX A s = some (r, B)) : ∀ F m w cargs, M0.le m → Rel F m A w → cvos m [s] = some cargs → CallOk P F m r B (ρ.f 5) cargs.toArray w := fun F m w cargs _ R hc =>
  sortX_ok (fun _ _ => intsOf_eq) (encV := Value.int .i64) (fun _ _ => rfl) (fun x y => decide (x ≤ y)) (fun l => sortI_eq (List.Perm.refl l)) (fun p cap w => AnyM.slices_Sort_int_none Ly p cap w) (fun blk off cap zs w h1 h2 h3 => AnyM.slices_Sort_int Ly blk off cap zs w h1 h2 h3) h R hc
theorem ok_sortS (Ly : SlLaysM.n6 P ρ) {M0 : Mu} {A B : St} {s r : AV} (h : sortSX A s = some (r, B)) : ∀ F m w cargs, M0.le m → Rel F m A w → cvos m [s] = some cargs → CallOk P F m r B (ρ.f 6) cargs.toArray w := fun F m w cargs _ R hc =>
  sortX_ok (fun _ _ => strsOf_eq) (encV := encStr) (fun _ _ => rfl) (fun x y => decide (x ≤ y)) (fun l => sortS_eq (List.Perm.refl l)) (fun p cap w => AnyM.slices_Sort_string_none Ly p cap w) (fun blk off cap zs w h1 h2 h3 => AnyM.slices_Sort_string Ly blk off cap zs w h1 h2 h3) h R hc
end
/-- The contract on texts, as it is laid. -/
theorem sortS_by {P : Program} {f : FuncId} (hnone : ∀ (p : Option Addr) (cap : Nat) (w : World), Calls P f #[.slice p 0 cap] w fun e w' => e = .returned (.tuple #[]) ∧ w' = w)
    (hsort : ∀ (blk off cap : Nat) (zs : List (List UInt8)) (w : World), Holds encStr w blk off zs.toArray → blk < w.heap.size → zs.length < 4611686018427387904 → Calls P f #[.slice (some ⟨blk, off, none⟩) zs.length cap] w fun e w' =>
      e = .returned (.tuple #[]) ∧ ∃ n os, w' = grow (putRow encStr (Sort.ahead w n) blk off (zs.mergeSort fun x y => decide (x ≤ y)).toArray) os)
    {F : Fr} {m : Mu} {A B : St} {w : World} {s r : AV} (h : sortSX A s = some (r, B)) (R : Rel F m A w) {cargs : List Value} (hc : cvos m [s] = some cargs) : CallOk P F m r B f cargs.toArray w :=
  sortX_ok (fun _ _ => strsOf_eq) (encV := encStr) (fun _ _ => rfl) (fun x y => decide (x ≤ y)) (fun l => sortS_eq (List.Perm.refl l)) hnone hsort h R hc
end Go.AM
/- The abstract machine: slices.Compact of texts, by the shelf's contract. -/
namespace Go.AM
open Go.Sort Go.Proofs Go.Shelf
set_option linter.unusedVariables false
set_option linter.unusedSimpArgs false

def compactL (zs : List (List UInt8)) : List (List UInt8) := Lib.compact zs
def compactF (zs : List (List UInt8)) : List (List UInt8) := compactL zs ++ List.replicate (zs.length - (compactL zs).length) []
theorem compactL_le (zs : List (List UInt8)) : (compactL zs).length ≤ zs.length := Lib.compact_length_le zs
theorem compactF_length (zs : List (List UInt8)) : (compactF zs).length = zs.length := by
  have := compactL_le zs
  unfold compactF
  rw [List.length_append, List.length_replicate]
  omega
/-- A slice's cells, without what stands twice. -/
def compactX (A : St) (s : AV) : Option (AV × St) :=
  match s with
  | .slice none po 0 cap q => some (.slice none po 0 cap q, A)
  | .slice (some p) po len cap q => if len = 0 then some (.slice (some p) po len cap q, A) else if 4611686018427387904 ≤ len then none else match A.cells p len with
    | some l => match strsOf l with
      | some zs => match A.write p ((compactF zs).map AV.str) with
        | some B => some (.slice (some p) po (compactL zs).length cap q, B)
        | none => none
      | none => none
    | none => none
  | _ => none
section
variable {P : Program} {F : Fr} {m : Mu} {A B : St} {w : World}
theorem cvo_shorter {p : Pl} {po len cap q k : Nat} (hk : k ≤ len) {bs : Addr} {n cap' : Nat} (h : cvo m (.slice (some p) po len cap q) = some (.slice (some bs) n cap')) : cvo m (.slice (some p) po k cap q) = some (.slice (some bs) k cap') := by
  cases q with
  | zero =>
    simp only [cvo] at h ⊢
    split at h
    · rename_i hc
      rw [if_pos (by omega)]
      cases hp : plc m p with
      | none => rw [hp] at h; cases h
      | some a => rw [hp] at h; cases h; rfl
    · cases h
  | succ q =>
    simp only [cvo] at h ⊢
    split at h
    · rename_i l hl
      split at h
      · rename_i hc
        rw [if_pos ⟨hc.1, by omega, hc.2.2⟩]
        cases hp : plc m (p.1, p.2.1, if l.cap = cap then po else p.2.2) with
        | none => rw [hp] at h; cases h
        | some a => rw [hp] at h; cases h; rfl
      · cases h
    · cases h
theorem compactX_ok {f : FuncId}
    (hnone : ∀ (p : Option Addr) (cap : Nat) (w : World), Calls P f #[.slice p 0 cap] w fun e w' => e = .returned (.slice p 0 cap) ∧ w' = w)
    (hcmp : ∀ (blk off cap : Nat) (zs : List (List UInt8)) (w : World), Holds encStr w blk off zs.toArray → zs.length ≤ 9223372036854775807 → zs.length ≤ cap → Calls P f #[.slice (some ⟨blk, off, none⟩) zs.length cap] w fun e w' =>
      e = .returned (.slice (some ⟨blk, off, none⟩) (Lib.compact zs).length cap) ∧ ∃ q, w' = putRow encStr (Sort.ahead w q) blk off (Lib.compact zs ++ List.replicate (zs.length - (Lib.compact zs).length) []).toArray)
    {s r : AV} (h : compactX A s = some (r, B)) (R : Rel F m A w) {cargs : List Value} (hc : cvos m [s] = some cargs) : CallOk P F m r B f cargs.toArray w := by
  simp only [cvos] at hc
  split at hc
  rotate_left
  · cases hc
  rename_i c cs hcs hnil
  cases hnil
  cases hc
  have hah : ∀ n, Rel F m A (Sort.ahead w n) := fun n => R.sameHeap rfl rfl rfl
  unfold compactX at h
  split at h
  · rename_i po cap q
    simp only [Option.some.injEq, Prod.mk.injEq] at h
    obtain ⟨rfl, rfl⟩ := h
    obtain ⟨b, l, k, g1, g2, g3⟩ := nilSlice_cases rfl (.inr hcs)
    have hl := g3 rfl
    subst hl
    subst g1
    refine (hnone b k w).mono fun e w' ⟨h1, h2⟩ => ?_
    subst h1; subst h2
    exact ⟨_, m, rfl, Mu.le_refl m, R, hcs⟩
  · rename_i p po len cap q
    obtain ⟨bs, cap', k1, k2, k3, k4⟩ := slice_sound rfl (.inr hcs)
    split at h
    · rename_i h0
      simp only [Option.some.injEq, Prod.mk.injEq] at h
      obtain ⟨rfl, rfl⟩ := h
      subst h0
      subst k1
      refine (hnone (some bs) cap' w).mono fun e w' ⟨h1, h2⟩ => ?_
      subst h1; subst h2
      exact ⟨_, m, rfl, Mu.le_refl m, R, hcs⟩
    rename_i hlen
    split at h
    · cases h
    rename_i hbig
    split at h
    rotate_left
    · cases h
    rename_i l hl
    split at h
    rotate_left
    · cases h
    rename_i zs hzs
    split at h
    rotate_left
    · cases h
    rename_i B' hw
    simp only [Option.some.injEq, Prod.mk.injEq] at h
    obtain ⟨rfl, rfl⟩ := h
    have hl2 := strsOf_eq hzs
    have hpl := k3 (by omega)
    obtain ⟨b, ofs, ys, g1, g2, g3, g4⟩ := R.cells hl
    rw [hpl] at g1
    cases g1
    subst k1
    have hmap : ∀ (m : Mu) (zs : List (List UInt8)), cvos m (zs.map AV.str) = some (zs.map encStr) := fun m zs => by
      induction zs with
      | nil => rfl
      | cons z zs ih => simp only [List.map_cons, cvos, ih]; rfl
    rw [hl2, hmap] at g2
    cases g2
    rw [List.length_map] at g3
    have hsp := compactF_length zs
    obtain ⟨b2, o2, j1, j2, j3, j4⟩ := R.write hw (hmap m _)
    rw [hpl] at j1
    cases j1
    have hholds : Holds encStr w b ofs zs.toArray := fun j hj => by
      have hj' : j < zs.length := by simpa using hj
      refine ⟨?_, (j2 j (by rw [List.length_map, hsp]; exact hj')).2⟩
      have := g4 j (encStr zs[j]) (by rw [List.getElem?_map, List.getElem?_eq_getElem hj']; rfl)
      rw [this]
      simp [hj']
    subst g3
    refine (hcmp b ofs cap' zs w hholds (by omega) k2).mono fun e w' ⟨h1, n, h2⟩ => ?_
    subst h1; subst h2
    obtain ⟨b3, o3, i1, i2, i3, i4⟩ := (hah n).write hw (hmap m _)
    rw [hpl] at i1
    cases i1
    refine ⟨_, m, rfl, Mu.le_refl m, ?_, cvo_shorter (compactL_le zs) hcs⟩
    rw [putRow_set]
    exact i4
  · cases h
end
/-- One's own texts, without what stands twice. -/
theorem Own.compacted {lo : Nat} {A : St} {s : AV} {zs : List (List UInt8)} (h : Own lo A 1 s (zs.map AV.str)) (hl : zs.length < 4611686018427387904) :
    ∃ s' B, compactX A s = some (s', B) ∧ Own lo B 1 s' ((compactL zs).map AV.str) ∧ But A B s := by
  have hsp := compactF_length zs
  have hle := compactL_le zs
  generalize hcs : zs.map AV.str = cs at h
  cases h with
  | nil po cap q =>
    have : zs = [] := by simpa using hcs
    subst this
    exact ⟨_, A, rfl, .nil _ _ _, But.refl A _⟩
  | @mem f v o po len cap q all vers nv y hlo hf' hg hv h1 h2 h3 hq =>
    have hlen : zs.length = len := by
      have := congrArg List.length hcs
      rw [List.length_map, List.length_take, List.length_drop] at this
      omega
    by_cases h0 : len = 0
    · have : zs = [] := by
        cases zs with
        | nil => rfl
        | cons z zs => simp at hlen; omega
      subst this
      refine ⟨.slice (some (f, v, o)) po len cap q, A, by simp [compactX, h0], ?_, But.refl A _⟩
      have e : (compactL []).map AV.str = (all.drop o).take (len * 1) := by
        have : compactL [] = [] := List.length_eq_zero_iff.1 (Nat.le_zero.1 (compactL_le []))
        simp [this, h0]
      rw [e]
      exact .mem hlo hf' hg hv h1 h2 h3 hq
    · have hcell : A.cells (f, v, o) len = some (zs.map AV.str) := by
        have := (Own.mem (po := po) (cap := cap) (q := q) hlo hf' hg hv h1 h2 h3 hq).sl
        cases this with
        | mem _ hc _ => rw [hcs]; simpa using hc
      have hsl : ((compactF zs).map AV.str).length = len := by rw [List.length_map, hsp, hlen]
      have hlook : A.look (f, v, o) = some (all, y, nv, false) := by
        unfold St.look; dsimp only; rw [hg]; dsimp only; rw [hv]; rfl
      have hw : A.write (f, v, o) ((compactF zs).map AV.str) = some (A.put f (.cells (splice all o ((compactF zs).map AV.str)) [y] nv false)) := by
        unfold St.write
        rw [hlook]
        dsimp only
        rw [if_pos ⟨h1, by rw [hsl]; omega, h3, by simp [AV.flat]⟩]
      refine ⟨.slice (some (f, v, o)) po (compactL zs).length cap q, A.put f (.cells (splice all o ((compactF zs).map AV.str)) [y] nv false), ?_, ?_, but_put _⟩
      · unfold compactX
        dsimp only
        rw [if_neg h0, if_neg (by omega), hcell]
        dsimp only
        rw [strsOf_map]
        dsimp only
        rw [hw]
      · have hy := (findVer_spec hv).2
        have e := grown_cells (all := all) (ds := (compactF zs).map AV.str) (rest := all.drop (o + ((compactF zs).map AV.str).length)) (o := o) (a := 0) (b := len * 1) (by omega) (by rw [hsl, Nat.mul_one])
        simp only [List.take_zero, List.nil_append, Nat.add_zero, Nat.zero_add] at e
        have e' : ((splice all o ((compactF zs).map AV.str)).drop o).take (len * 1) = (compactF zs).map AV.str := e
        have e2 : ((splice all o ((compactF zs).map AV.str)).drop o).take ((compactL zs).length * 1) = (compactL zs).map AV.str := by
          have : ((splice all o ((compactF zs).map AV.str)).drop o).take ((compactL zs).length * 1) = (((splice all o ((compactF zs).map AV.str)).drop o).take (len * 1)).take ((compactL zs).length * 1) := by
            rw [List.take_take, Nat.min_eq_left (by omega)]
          rw [this, e', Nat.mul_one]
          unfold compactF
          rw [List.map_append, List.take_append_of_le_length (by simp), List.take_of_length_le (by simp)]
        have key : Own lo (A.put f (.cells (splice all o ((compactF zs).map AV.str)) [y] nv false)) 1 (.slice (some (f, v, o)) po (compactL zs).length cap q) (((splice all o ((compactF zs).map AV.str)).drop o).take ((compactL zs).length * 1)) :=
          .mem hlo hf' (by rw [St.get_put, if_pos rfl]) (by simp [findVer, hy]) h1 (by omega) (by rw [splice_length all _ _ (by rw [hsl]; omega)]; exact h3) (by
            rcases hq with ⟨a, b, c⟩ | hq
            · exact .inl ⟨a, by omega, c⟩
            · exact .inr hq)
        rw [e2] at key
        exact key
end Go.AM
/- What is put in order and stands once: in plain Lean. -/
namespace Go.AM
open Go.Lib

theorem leS_trans {a b c : List UInt8} (h1 : leS a b = true) (h2 : leS b c = true) : leS a c = true := by
  rw [leS_eq, decide_eq_true_eq] at *
  exact List.le_trans h1 h2
theorem leS_anti {a b : List UInt8} (h1 : leS a b = true) (h2 : leS b a = true) : a = b := by
  rw [leS_eq, decide_eq_true_eq] at *
  exact List.le_antisymm h1 h2
theorem leS_total (a b : List UInt8) : (leS a b || leS b a) = true := by
  rw [leS_eq, leS_eq]
  rcases List.le_total a b with h | h <;> simp [h]
theorem compactUpTo_spec {d : Array (List UInt8)} (hs : ∀ i j, i < j → j < d.size → leS d[i]! d[j]! = true) : ∀ m, m ≤ d.size →
    (∀ x ∈ compactUpTo d m, ∃ j, j < m ∧ x = d[j]!) ∧ (∀ j, j < m → d[j]! ∈ compactUpTo d m) ∧ List.Pairwise (fun a b => leS b a = false) (compactUpTo d m)
  | 0, _ => by
    have : compactUpTo d 0 = [] := rfl
    rw [this]
    exact ⟨fun x hx => by simp at hx, fun j hj => by omega, List.Pairwise.nil⟩
  | m + 1, hm => by
    obtain ⟨i1, i2, i3⟩ := compactUpTo_spec hs m (by omega)
    rw [compactUpTo_succ]
    by_cases hk : keeps d m = true
    · rw [if_pos hk]
      refine ⟨fun x hx => ?_, fun j hj => ?_, ?_⟩
      · rw [List.mem_append] at hx
        rcases hx with hx | hx
        · obtain ⟨j, hj, rfl⟩ := i1 x hx
          exact ⟨j, by omega, rfl⟩
        · simp at hx
          exact ⟨m, by omega, hx⟩
      · rw [List.mem_append]
        by_cases hj' : j < m
        · exact .inl (i2 j hj')
        · have : j = m := by omega
          subst this
          exact .inr (by simp)
      · rw [List.pairwise_append]
        refine ⟨i3, List.pairwise_singleton _ _, fun a ha b hb => ?_⟩
        simp at hb
        subst hb
        obtain ⟨j, hj, rfl⟩ := i1 a ha
        cases hle : leS d[m]! d[j]! with
        | false => rfl
        | true =>
          have h1 : leS d[j]! d[m - 1]! = true := by
            by_cases hjm : j = m - 1
            · rw [hjm]
              have := leS_total d[m - 1]! d[m - 1]!
              simpa using this
            · exact hs j (m - 1) (by omega) (by omega)
          have h2 := hs (m - 1) m (by omega) (by omega)
          have heq := leS_anti (leS_trans hle h1) h2
          unfold keeps at hk
          rw [decide_eq_true_eq] at hk
          rcases hk with hk | hk
          · omega
          · exact absurd heq hk
    · rw [if_neg hk, List.append_nil]
      have hk' : ¬ (m = 0 ∨ d[m]! ≠ d[m - 1]!) := fun h => hk (by unfold keeps; exact decide_eq_true h)
      have hm0 : m ≠ 0 := fun h => hk' (.inl h)
      have heq : d[m]! = d[m - 1]! := Classical.byContradiction fun h => hk' (.inr h)
      refine ⟨fun x hx => ?_, fun j hj => ?_, i3⟩
      · obtain ⟨j, hj, rfl⟩ := i1 x hx
        exact ⟨j, by omega, rfl⟩
      · by_cases hj' : j < m
        · exact i2 j hj'
        · have : j = m := by omega
          subst this
          rw [heq]
          exact i2 _ (by omega)
/-- Texts in order, each once. -/
def keysU (l : List (List UInt8)) : List (List UInt8) := compactL (sortB leS l)
theorem keysU_spec (l : List (List UInt8)) : (∀ x, x ∈ keysU l ↔ x ∈ l) ∧ List.Pairwise (fun a b => leS b a = false) (keysU l) := by
  have hp := sortB_perm leS l
  have hw := sortB_pairwise leS (fun a b c => leS_trans) leS_total l
  obtain ⟨h1, h2, h3⟩ := compactUpTo_spec (d := (sortB leS l).toArray) (fun i j hij hj => by
    have hj' : j < (sortB leS l).length := by simpa using hj
    have := List.pairwise_iff_getElem.1 hw i j (by omega) hj' hij
    simpa [hj', show i < (sortB leS l).length by omega] using this) (sortB leS l).length (by simp)
  refine ⟨fun x => ⟨fun hx => ?_, fun hx => ?_⟩, h3⟩
  · obtain ⟨j, hj, rfl⟩ := h1 x hx
    refine hp.mem_iff.1 ?_
    simp [hj]
  · have := hp.mem_iff.2 hx
    obtain ⟨j, hj, rfl⟩ := List.mem_iff_getElem.1 this
    have := h2 j hj
    rw [show (sortB leS l).toArray[j]! = (sortB leS l)[j] by simp [hj]] at this
    exact this
theorem keysU_length (l : List (List UInt8)) : (keysU l).length ≤ l.length := by
  have := compactL_le (sortB leS l)
  rw [(sortB_perm leS l).length_eq] at this
  exact this
end Go.AM
