/- The abstract machine: functions of the library that have no text, or a contract of their own, as rows of its table. -/
import Derived.Test.YtejlhgcheaimjaaGreatDoorAmMany
import Derived.Lib.Bytealg
import Derived.Laws.Externs
import Derived.Lib.Join
import Derived.Below
namespace Go.AM
set_option linter.unusedVariables false
set_option linter.unusedSimpArgs false

def countX : List AV → St → Option (AV × St)
  | [.str s, .int .u8 c], A => some (.int .i64 (Lib.countByte s c.toNat.toUInt8 : Nat), A)
  | _, _ => none
def indexX : List AV → St → Option (AV × St)
  | [.str s, .int .u8 c], A => some (.int .i64 (Lib.indexByte s c.toNat.toUInt8), A)
  | _, _ => none
def compareX : List AV → St → Option (AV × St)
  | [.str s, .str t], A => some (.int .i64 (Lib.compareBytes s t), A)
  | _, _ => none
def joinX : List AV → St → Option (AV × St)
  | [.slice none _ _ _ _, .str _], A => some (.str [], A)
  | [.slice (some p) _ n _ _, .str sep], A => if n = 0 then some (.str [], A) else match A.cells p n with
    | some l => match strsOf l with
      | some xs => if (Lib.join xs sep).length ≤ 140737488355328 ∧ n ≤ 140737488355328 then some (.str (Lib.join xs sep), A) else none
      | none => none
    | none => none
  | _, _ => none

section
variable {P : Program} {F : Fr} {m : Mu} {A B : St} {w w' : World}
theorem Rel.below (R : Rel F m A w) {n : Nat} (hn : w.heap.size ≤ n) (h : RowKit.Below n w w') : Rel F m A w' :=
  R.extended (fun cb o hc => by rw [h.block cb (Nat.lt_of_lt_of_le (Array.getElem?_eq_some_iff.1 hc).1 hn)]; exact hc) h.os h.output

theorem ext_ok {f : FuncId} {fn : Func} {e : Array Value → Sem Value} (hf : P.funcs[f]? = some fn) (hname : (fn.name == "runtime.NumGoroutine") = false) (hb : fn.body.isNone = true) (hn : Extern.findNext fn = none) (he : Extern.find fn = some e) {cargs : Array Value} {c : Value} {r : AV}
    (hrun : (e cargs).run P w = .ok c w) (hc : cvo m r = some c) (R : Rel F m A w) : ExtOk P F m r A f cargs w :=
  ⟨c, w, m, by rw [run_callFunc_extern hf hname hb hn he, hrun]; rfl, Mu.le_refl m, R, hc⟩
theorem count_ok {f : FuncId} {fn : Func} (hf : P.funcs[f]? = some fn) (hname : (fn.name == "runtime.NumGoroutine") = false) (hb : fn.body.isNone = true) (hn : Extern.findNext fn = none) (he : Extern.find fn = some Extern.BytealgCount.count)
    {args : List AV} {r : AV} (h : countX args A = some (r, B)) (R : Rel F m A w) {cargs : List Value} (hc : cvos m args = some cargs) : ExtOk P F m r B f cargs.toArray w := by
  unfold countX at h
  split at h
  · rename_i s c
    simp only [Option.some.injEq, Prod.mk.injEq] at h
    obtain ⟨rfl, rfl⟩ := h
    simp only [cvos, cvo, Option.some.injEq] at hc
    subst hc
    exact ext_ok hf hname hb hn he (Lib.run_countString ⟨s.toArray⟩ c w) (by simp [cvo]) R
  · cases h
theorem index_ok {f : FuncId} {fn : Func} (hf : P.funcs[f]? = some fn) (hname : (fn.name == "runtime.NumGoroutine") = false) (hb : fn.body.isNone = true) (hn : Extern.findNext fn = none) (he : Extern.find fn = some Extern.BytealgIndexByte.indexByte)
    {args : List AV} {r : AV} (h : indexX args A = some (r, B)) (R : Rel F m A w) {cargs : List Value} (hc : cvos m args = some cargs) : ExtOk P F m r B f cargs.toArray w := by
  unfold indexX at h
  split at h
  · rename_i s c
    simp only [Option.some.injEq, Prod.mk.injEq] at h
    obtain ⟨rfl, rfl⟩ := h
    simp only [cvos, cvo, Option.some.injEq] at hc
    subst hc
    exact ext_ok hf hname hb hn he (Lib.run_indexByteString ⟨s.toArray⟩ c w) (by simp [cvo]) R
  · cases h
theorem compare_ok {f : FuncId} {fn : Func} (hf : P.funcs[f]? = some fn) (hname : (fn.name == "runtime.NumGoroutine") = false) (hb : fn.body.isNone = true) (hn : Extern.findNext fn = none) (he : Extern.find fn = some Extern.BytealgCompare.compare)
    {args : List AV} {r : AV} (h : compareX args A = some (r, B)) (R : Rel F m A w) {cargs : List Value} (hc : cvos m args = some cargs) : ExtOk P F m r B f cargs.toArray w := by
  unfold compareX at h
  split at h
  · rename_i s t
    simp only [Option.some.injEq, Prod.mk.injEq] at h
    obtain ⟨rfl, rfl⟩ := h
    simp only [cvos, cvo, Option.some.injEq] at hc
    subst hc
    exact ext_ok hf hname hb hn he (Lib.run_compareString ⟨s.toArray⟩ ⟨t.toArray⟩ w) (by simp [cvo]) R
  · cases h
theorem join_ok {f : FuncId} (hnone : ∀ (a : Option Addr) (c : Nat) (sep : ByteArray) (w : World), Calls P f #[.slice a 0 c, .string sep] w fun e w' => e = .returned (.string ⟨#[]⟩) ∧ w' = w)
    (hjoin : ∀ (bk o c : Nat) (xs : List ByteArray) (sep : ByteArray) (w : World) (_ : ∀ (j : Nat) x, xs[j]? = some x → w.cell? ⟨bk, o + j, none⟩ = some (.string x)) (_ : bk < w.heap.size) (_ : xs.length ≤ 140737488355328) (_ : xs.length ≤ c)
      (_ : (Lib.join (xs.map (·.data.toList)) sep.data.toList).length ≤ 140737488355328), Calls P f #[.slice (some ⟨bk, o, none⟩) xs.length c, .string sep] w fun e w' => e = .returned (.string ⟨(Lib.join (xs.map (·.data.toList)) sep.data.toList).toArray⟩) ∧ RowKit.Below w.heap.size w w')
    {args : List AV} {r : AV} (h : joinX args A = some (r, B)) (R : Rel F m A w) {cargs : List Value} (hc : cvos m args = some cargs) : CallOk P F m r B f cargs.toArray w := by
  unfold joinX at h
  split at h
  · rename_i po len cap q sep
    simp only [Option.some.injEq, Prod.mk.injEq] at h
    obtain ⟨rfl, rfl⟩ := h
    simp only [cvos] at hc
    split at hc
    rotate_left
    · cases hc
    rename_i c cs hcs hcs2
    simp only [cvo, Option.some.injEq] at hcs2
    subst hcs2
    cases hc
    obtain ⟨b, l, k, g1, g2, g3⟩ := nilSlice_cases rfl (.inr hcs)
    have hl := g3 rfl
    subst hl
    subst g1
    refine (hnone b k ⟨sep.toArray⟩ w).mono fun e w' ⟨h1, h2⟩ => ?_
    subst h1; subst h2
    exact ⟨_, m, rfl, Mu.le_refl m, R, rfl⟩
  · rename_i p po n cap q sep
    simp only [cvos] at hc
    split at hc
    rotate_left
    · cases hc
    rename_i c cs hcs hcs2
    simp only [cvo, Option.some.injEq] at hcs2
    subst hcs2
    cases hc
    obtain ⟨bs, cap', k1, k2, k3, k4⟩ := slice_sound rfl (.inr hcs)
    subst k1
    split at h
    · rename_i h0
      simp only [Option.some.injEq, Prod.mk.injEq] at h
      obtain ⟨rfl, rfl⟩ := h
      subst h0
      refine (hnone (some bs) cap' ⟨sep.toArray⟩ w).mono fun e w' ⟨h1, h2⟩ => ?_
      subst h1; subst h2
      exact ⟨_, m, rfl, Mu.le_refl m, R, rfl⟩
    rename_i hlen
    split at h
    rotate_left
    · cases h
    rename_i l hl
    split at h
    rotate_left
    · cases h
    rename_i xs hxs
    split at h
    rotate_left
    · cases h
    rename_i hbig
    simp only [Option.some.injEq, Prod.mk.injEq] at h
    obtain ⟨rfl, rfl⟩ := h
    have hl2 := strsOf_eq hxs
    obtain ⟨b, ofs, ys, g1, g2, g3, g4⟩ := R.cells hl
    rw [k3 (by omega)] at g1
    cases g1
    have hmap : ∀ (zs : List (List UInt8)), cvos m (zs.map AV.str) = some (zs.map fun s => Value.string ⟨s.toArray⟩) := fun zs => by
      induction zs with
      | nil => rfl
      | cons z zs ih => simp only [List.map_cons, cvos, cvo, ih]
    rw [hl2, hmap] at g2
    cases g2
    rw [List.length_map] at g3
    have hblk : b < w.heap.size := by
      have h0 := g4 0 (.string ⟨(xs[0]'(by omega)).toArray⟩) (by rw [List.getElem?_map, List.getElem?_eq_getElem (by omega)]; rfl)
      rcases Nat.lt_or_ge b w.heap.size with h | h
      · exact h
      · unfold World.cell? at h0
        rw [Array.getElem?_eq_none h] at h0
        cases h0
    have hmm : (xs.map fun s => (⟨s.toArray⟩ : ByteArray)).map (·.data.toList) = xs := by
      rw [List.map_map]
      conv => rhs; rw [← List.map_id xs]
      congr 1
    have hh := hjoin b ofs cap' (xs.map fun s => ⟨s.toArray⟩) ⟨sep.toArray⟩ w (fun j x hx => by
      rw [List.getElem?_map] at hx
      obtain ⟨s, hs, rfl⟩ := Option.map_eq_some_iff.1 hx
      exact g4 j _ (by rw [List.getElem?_map, hs]; rfl)) hblk (by rw [List.length_map]; omega) (by rw [List.length_map]; omega) (by rw [hmm]; exact hbig.1)
    rw [hmm, List.length_map, g3] at hh
    refine hh.mono fun e w' ⟨h1, h2⟩ => ?_
    subst h1
    exact ⟨_, m, rfl, Mu.le_refl m, R.below (Nat.le_refl _) h2, by simp [cvo]⟩
  · cases h
end
end Go.AM
