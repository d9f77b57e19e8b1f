/- The abstract machine: operations that write. -/
import Derived.Test.YtejlhgcheaimjaaGreatDoorAmRead
import Derived.Deep.Upon
namespace Go.AM
set_option linter.unusedVariables false
set_option linter.unusedSimpArgs false
section
variable {P : Program} {M0 : Mu} {F : Fr} {m : Mu} {n : Nat} {E : Env} {a : Act} {A : St} {w : World}

/-- What an operation that writes comes to. -/
def EffOk (P : Program) (F : Fr) (m : Mu) (a : Act) (o : Oper) (v : AV) (B : St) (w : World) : Prop :=
  ∃ (nx : Next) (c : Value) (w' : World) (m' : Mu), (execOp a.eval o).run P w = .ok nx w' ∧ (nx = .value c ∨ nx = .skip ∧ c = undef) ∧ m.le m' ∧ Rel F m' B w' ∧ slotR m' v c

theorem store_sound {o : Oper} {t : TypeId} {x y : Operand} (hop : o.op = .store t x y) {s : Nat} (hs : szOf P t = some s) (R : Rel F m A w) (e : EnvR M0 m n E a) {v : AV} {B : St} (hv : effOf E A (.store s x y) = some (v, B)) : EffOk P F m a o v B w := by
  simp only [effOf] at hv
  split at hv
  · rename_i p hp
    obtain ⟨ad, h1, h2⟩ := ptr_sound hp (ev_sound e x)
    obtain ⟨i, hi1, hi2⟩ := szOf_some hs
    split at hv
    · cases hv
    · rename_i hb
      split at hv
      · rename_i hlen
        split at hv
        · rename_i B' hw
          cases hv
          have hnb : (ev E y).isBot = false := by
            cases hy : ev E y <;> first | rfl | exact absurd hy hb
          obtain ⟨us, g1, g2⟩ := cells_sound (ev_sound e y) hnb
          obtain ⟨b, ofs, k1, k2, k3, k4⟩ := R.write hw g1
          rw [h1] at k1; cases k1
          have hst := run_storeCells_cells (P := P) b ofs us 0 w (fun j hj => (k2 j hj).1) (fun j hj => (k2 j hj).2) k3
          have hul := cvos_length g1
          refine ⟨.skip, undef, _, m, ?_, .inr ⟨rfl, rfl⟩, Mu.le_refl m, k4, .inl rfl⟩
          simp only [Nat.add_zero] at hst
          have hsz : ¬ (us.length ≠ s) := by omega
          simp [execOp, hop, Instr.storeAt, h2, Instr.sureAddr, storeVar, g2, sizeOf, typeInfo, hi1, hi2, hul, hlen, hst]
        · cases hv
      · cases hv
  · cases hv

theorem firstA_sound {size k : Nat} {x : AV} {cx : Value} {tx : TypeId} {new : List AV} (R : Rel F m A w) (sx : slotR m x cx) (hk : lenA x = some k) (hf : firstA A size k x = some new) (hlen : new.length = k * size)
    (hone : new.all AV.flat = true) (hty : (∃ e, P.underlying tx = some (.slice e)) ∨ (P.underlying tx = some .string ∧ size = 1)) (hnot : ∀ s, x = .str s → P.underlying tx = some .string) (hsl : ∀ p a b c d, x = .slice p a b c d → ∃ e, P.underlying tx = some (.slice e)) :
    ∃ news, cvos m new = some news ∧ Src P size tx cx k news w ∧ ∀ v ∈ news, v.oneCell' = true := by
  have one : ∀ news, cvos m new = some news → ∀ v ∈ news, v.oneCell' = true := fun news h v hv => by
    obtain ⟨j, hj⟩ := List.mem_iff_getElem?.1 hv
    obtain ⟨z, hz, hzv⟩ := cvos_get' h hj
    exact oneCell_of_flat (List.all_eq_true.1 hone z (List.mem_of_getElem? hz)) hzv
  unfold firstA at hf
  split at hf
  · rename_i po len cap q
    cases hf
    simp only [lenA, Option.some.injEq] at hk
    have hx := sx.cv (by simp)
    simp only [cvo] at hx
    split at hx
    · rename_i hz
      obtain ⟨e', he'⟩ := hsl _ _ _ _ _ rfl
      rw [hz.1] at hk; subst hk
      split at hx
      · cases hx; exact ⟨[], rfl, Src.ofNil w he' 0, by simp⟩
      · simp only [Option.map_eq_some_iff] at hx
        obtain ⟨b, _, rfl⟩ := hx
        exact ⟨[], rfl, Src.ofSlice w he' b 0 0 [] (by simp) (fun j u h => by simp at h) (by simp), by simp⟩
    · cases hx
  · rename_i p po len cap q
    simp only [lenA, Option.some.injEq] at hk
    subst hk
    obtain ⟨e', he'⟩ := hsl _ _ _ _ _ rfl
    obtain ⟨bs, cap', g1, g2, g3, g4⟩ := slice_sound rfl sx
    obtain ⟨b, ofs, ys, k1, k2, k3, k4⟩ := R.cells hf
    subst g1
    refine ⟨ys, k2, Src.ofSlice w he' bs len cap' ys (by rw [k3]) (fun j u hj => ?_) (one ys k2), one ys k2⟩
    have hj2 : j < ys.length := by
      rcases Nat.lt_or_ge j ys.length with h | h
      · exact h
      · rw [List.getElem?_eq_none h] at hj; cases hj
    have hl0 : 0 < len := by
      rcases Nat.eq_zero_or_pos len with h | h
      · subst h; rw [Nat.zero_mul] at k3; omega
      · exact h
    have := g3 hl0
    rw [k1] at this; cases this
    rw [Addr.add_mk]; exact k4 j u hj
  · rename_i s
    cases hf
    simp only [lenA, Option.some.injEq] at hk
    subst hk
    have hs := cvo_str rfl sx
    subst hs
    have hts := hnot _ rfl
    rcases hty with ⟨e, he⟩ | ⟨_, h1⟩
    · rw [hts] at he; cases he
    · subst h1
      have hb := cvos_bytes (m := m) s
      rw [List.take_length] at one ⊢
      refine ⟨_, hb, ?_, one _ hb⟩
      have := Src.ofString (P := P) w hts ⟨s.toArray⟩
      have hsz : (⟨s.toArray⟩ : ByteArray).size = s.length := List.size_toArray ..
      rw [hsz] at this
      exact this
  · cases hf

theorem zeroCells_size (z : Array Value) (k : Nat) : (Builtin.zeroCells z k).size = k * z.size := by simp [Builtin.zeroCells]
theorem grown_ge (w : World) (need old : Nat) (e : TypeId) : need ≤ grownCap w need old e := by unfold grownCap; simp only [Question.cut]; omega

/-- A new row for an append that has no room. -/
theorem grow_run {t tx ty el : TypeId} {i : TypeInfo} {z : Value} (ht : P.underlying t = some (.slice el)) (hi : P.info? el = some i) (hz : i.zero = some z) (hzl : z.cells.size = i.size) {base : Option Addr} {sLen sCap k : Nat} {olds news : List Value} {cx : Value}
    (hold : ∀ w' : World, (∀ ad, w'.cell? ad = w.cell? ad) → (Builtin.firstCells i.size sLen (.slice base sLen sCap)).run P w' = .ok olds.toArray w') (hs : Src P i.size tx cx k news w) (hol : olds.length = sLen * i.size) (hg : sCap < sLen + k) (hb : (sLen + k) * i.bytes ≤ 70368744177664) (hn : sLen + k ≤ 70368744177664) :
    ∃ C : Array Value, ∃ cap, (Builtin.append_ #[t, tx] ty #[.slice base sLen sCap, cx]).run P w = .ok (.slice (some ⟨w.heap.size, 0, none⟩) (sLen + k) cap) (w.drew.alloc (.cells C el)) ∧ sLen + k ≤ cap ∧ C.size = cap * i.size ∧ ∀ (j : Nat) (y : Value), (olds ++ news)[j]? = some y → C[j]? = some y := by
  have hfit := growslice_fits (bytes := i.bytes) hg (by omega)
  have hr := run_append_grow_src (P := P) w t tx ty el i z ht hi hz base sLen sCap olds (hold w.drew (fun _ => rfl)) cx k news hs hg (by omega) hfit
  refine ⟨_, _, hr, grown_ge w _ _ _, ?_, fun j y hj => ?_⟩
  · rw [Array.size_append, zeroCells_size, hzl]
    have hnl := hs.newsLen
    have hge := grown_ge w (sLen + k) sCap el
    simp only [List.size_toArray, List.length_append, hol, hnl]
    rw [← Nat.add_mul, ← Nat.add_mul]
    congr 1
    omega
  · have hj2 : j < (olds ++ news).length := by
      rcases Nat.lt_or_ge j (olds ++ news).length with h | h
      · exact h
      · rw [List.getElem?_eq_none h] at hj; cases hj
    rw [Array.getElem?_append_left (by simpa using hj2)]
    simpa using hj

theorem append_sound {s x r : AV} {cs cx : Value} {B : St} {size bytes : Nat} (R : Rel F m A w) (ss : slotR m s cs) (sx : slotR m x cx) (h : appendOf A size bytes s x = some (r, B)) {t tx ty el : TypeId} {i : TypeInfo} {z : Value}
    (ht : P.underlying t = some (.slice el)) (hi : P.info? el = some i) (hz : i.zero = some z) (hzl : z.cells.size = i.size) (hsz : i.size = size) (hby : i.bytes = bytes)
    (hty : (∃ e, P.underlying tx = some (.slice e)) ∨ (P.underlying tx = some .string ∧ size = 1)) (hnot : ∀ s, x = .str s → P.underlying tx = some .string) (hsl : ∀ p a b c d, x = .slice p a b c d → ∃ e, P.underlying tx = some (.slice e)) :
    ∃ c w' m', (Builtin.append_ #[t, tx] ty #[cs, cx]).run P w = .ok c w' ∧ m.le m' ∧ Rel F m' B w' ∧ cvo m' r = some c := by
  subst hsz hby
  unfold appendOf at h
  split at h
  · cases h
  · rename_i k hk
    split at h
    · cases h
    · rename_i new hnew
      split at h
      · rename_i hcnd
        obtain ⟨hone, hlen, hs0⟩ := hcnd
        obtain ⟨news, hnews, hsrc, hall⟩ := firstA_sound (P := P) (tx := tx) R sx hk hnew hlen hone hty hnot hsl
        have hnl := cvos_length hnews
        split at h
        · -- nil
          rename_i po len cap q
          split at h
          · cases h
          · rename_i hl0
            have hl0 : len = 0 := by simpa using hl0
            subst hl0
            have hx := ss.cv (by simp)
            have hx0 := hx
            simp only [cvo] at hx
            split at hx
            · rename_i hz0
              have hcx : ∃ bs, cs = .slice bs 0 0 := by
                split at hx
                · cases hx; exact ⟨none, rfl⟩
                · simp only [Option.map_eq_some_iff] at hx; obtain ⟨b, _, rfl⟩ := hx; exact ⟨some b, rfl⟩
              obtain ⟨bs, rfl⟩ := hcx
              split at h
              · rename_i hk0
                cases h
                subst hk0
                have hne : news = [] := List.eq_nil_of_length_eq_zero (by rw [hnl, hlen]; simp)
                subst hne
                exact ⟨_, w, m, run_append_nothing w t tx ty el i ht hi bs 0 0 (Nat.le_refl _) cx hsrc, Mu.le_refl m, R, hx0⟩
              · rename_i hk0
                split at h
                · rename_i hb
                  have hfc : ∀ w' : World, (∀ ad, w'.cell? ad = w.cell? ad) → (Builtin.firstCells i.size 0 (.slice bs 0 0)).run P w' = .ok ([] : List Value).toArray w' := fun w' _ => by
                    cases bs with
                    | none => exact run_firstCells_none w' _ _ _ _
                    | some b => exact run_firstCells_some w' i.size 0 b 0 0 [] (by simp) (fun j v h => by simp at h)
                  obtain ⟨C, cp, h1, h2, h3, h4⟩ := grow_run (P := P) (w := w) (ty := ty) (base := bs) (sLen := 0) (sCap := 0) (olds := []) ht hi hz hzl hfc hsrc (by simp) (by omega) (by simpa using hb.1) (by simpa using hb.2)
                  cases h
                  simp only [Nat.zero_add, List.nil_append] at h1 h2 h4
                  have hle : k * i.size ≤ cp * i.size := Nat.mul_le_mul_right _ h2
                  obtain ⟨g1, g2⟩ := R.drew.new_cells hnews (C := C) (e := el) (fz := (0, 0)) (cap := cp) (sz := i.size) h4 (by omega) (by omega) (by simp)
                  refine ⟨_, _, _, h1, g2, g1, ?_⟩
                  obtain ⟨s', hs'⟩ : ∃ s', i.size = s' + 1 := ⟨i.size - 1, by omega⟩
                  simp only [St.make, hs', cvo, Mu.add, plc]
                  simp
                  omega
                · cases h
            · cases hx
        · -- exact
          rename_i f v o po len cap
          have hx := ss.cv (by simp)
          simp only [cvo] at hx
          split at hx
          · rename_i hlc
            simp only [Option.map_eq_some_iff] at hx
            obtain ⟨ad, hp, rfl⟩ := hx
            split at h
            · rename_i hroom
              split at h
              · rename_i hk0
                cases h
                subst hk0
                have hne : news = [] := List.eq_nil_of_length_eq_zero (by rw [hnl, hlen]; simp)
                subst hne
                refine ⟨_, w, m, run_append_nothing w t tx ty el i ht hi (some ad) len cap hlc cx hsrc, Mu.le_refl m, R, ?_⟩
                simp only [cvo]; rw [if_pos hlc, hp]; rfl
              · split at h
                · rename_i B' hw
                  cases h
                  obtain ⟨b, ofs, k1, k2, k3, k4⟩ := R.write hw hnews
                  have hpa := (plc_add hp (len * i.size)).1
                  have hspot := (plc_add hp 0).2
                  obtain ⟨bb, oo, sp⟩ := ad
                  simp only at hspot; subst hspot
                  rw [Addr.add_mk] at hpa
                  rw [hpa] at k1; cases k1
                  refine ⟨_, _, m, run_append_room_src w t tx ty el i ht hi b oo len cap cx k news hsrc hroom (fun j hj => (k2 j hj).1) (fun j hj => (k2 j hj).2), Mu.le_refl m, k4, ?_⟩
                  simp only [cvo]; rw [if_pos hroom, hp]; rfl
                · cases h
            · rename_i hroom
              split at h
              · rename_i hb
                split at h
                · rename_i old hold
                  cases h
                  obtain ⟨b, ofs, ys, k1, k2, k3, k4⟩ := R.cells hold
                  rw [hp] at k1; cases k1
                  obtain ⟨C, cp, h1, h2, h3, h4⟩ := grow_run (P := P) (w := w) (ty := ty) (base := some ⟨b, ofs, none⟩) (sLen := len) (sCap := cap) (olds := ys) ht hi hz hzl (fun w' hw' => run_firstCells_some w' _ _ _ _ _ ys k3 (fun j u hj => by rw [hw', Addr.add_mk]; exact k4 j u hj)) hsrc k3 (by omega) hb.1 hb.2
                  have hle : (len + k) * i.size ≤ cp * i.size := Nat.mul_le_mul_right _ h2
                  have hcv := cvos_append k2 hnews
                  have hol := cvos_length k2
                  obtain ⟨g1, g2⟩ := R.drew.new_cells hcv (C := C) (e := el) (fz := (0, 0)) (cap := cp) (sz := i.size) h4 (by omega) (by simp; rw [Nat.add_mul] at hle; omega) (by simp)
                  refine ⟨_, _, _, h1, g2, g1, ?_⟩
                  obtain ⟨s', hs'⟩ : ∃ s', i.size = s' + 1 := ⟨i.size - 1, by omega⟩
                  simp only [St.make, hs', cvo, Mu.add, plc]
                  simp
                  omega
                · cases h
              · cases h
          · cases hx
        · -- inexact
          rename_i f v o po len skip q
          have hx := ss.cv (by simp)
          have hx0 := hx
          simp only [cvo] at hx
          split at hx
          · rename_i l hl
            split at hx
            · rename_i hcl
              obtain ⟨c1, c2, c3⟩ := hcl
              simp only [Option.map_eq_some_iff] at hx
              obtain ⟨ad, hp, rfl⟩ := hx
              split at h
              · rename_i hk0
                cases h
                subst hk0
                have hne : news = [] := List.eq_nil_of_length_eq_zero (by rw [hnl, hlen]; simp)
                subst hne
                exact ⟨_, w, m, run_append_nothing w t tx ty el i ht hi (some ad) len _ (by omega) cx hsrc, Mu.le_refl m, R, hx0⟩
              · rename_i hk0
                split at h
                · rename_i hb
                  obtain ⟨hb1, hb2, hq⟩ := hb
                  split at h
                  · rename_i csx vers nv hg
                    split at h
                    · rename_i y hy
                      obtain ⟨hy1, hy2⟩ := findVer_spec hy
                      split at h
                      · rename_i hrange
                        obtain ⟨r1, r2, r3⟩ := hrange
                        obtain ⟨l', cr⟩ := (R.got _ _ hg).1 y hy1
                        have : l' = l := by have := cr.mu; rw [hy2, hl] at this; cases this; rfl
                        subst this
                        have hlsz : l'.sz = i.size := by omega
                        have hroomcells := (cr.rw rfl).2.1
                        split at h
                        · -- within the known cells
                          rename_i hin
                          split at h
                          · rename_i B' hw
                            cases h
                            have hroom : skip + (len + k) ≤ l'.cap := by
                              have e1 : (skip + (len + k)) * i.size = skip * i.size + (len + k) * i.size := Nat.add_mul _ _ _
                              have hlo := cr.lo
                              rw [hlsz] at hroomcells c1
                              have : (skip + (len + k)) * i.size ≤ l'.cap * i.size := by omega
                              exact Nat.le_of_mul_le_mul_right this (by omega)
                            rw [if_neg (by omega)] at hp
                            obtain ⟨b, ofs, k1, k2, k3, k4⟩ := R.write hw hnews
                            have hpa := (plc_add hp (len * i.size)).1
                            have hspot := (plc_add hp 0).2
                            obtain ⟨bb, oo, sp⟩ := ad
                            simp only at hspot; subst hspot
                            rw [Addr.add_mk] at hpa
                            rw [hpa] at k1; cases k1
                            refine ⟨_, _, m, run_append_room_src w t tx ty el i ht hi b oo len (l'.cap - skip) cx k news hsrc (by omega) (fun j hj => (k2 j hj).1) (fun j hj => (k2 j hj).2), Mu.le_refl m, k4, ?_⟩
                            simp only [cvo, hl]
                            rw [if_pos ⟨c1, hroom, c3⟩, if_neg (by omega), hp]; rfl
                          · cases h
                        · rename_i hin
                          cases h
                          by_cases hroom : skip + (len + k) ≤ l'.cap
                          · -- in place
                            rw [if_neg (by omega)] at hp
                            obtain ⟨q1, q2, q3⟩ := R.fork_in hg hy1 hy2 hl r1 r2 r3 hlsz c1 hroom hnews hlen hall
                            have hlo := cr.lo
                            have hpl : ad = ⟨l'.cb, l'.co + (o - l'.lo), none⟩ := by
                              unfold plc at hp
                              simp only at hp
                              rw [hl] at hp
                              dsimp only at hp
                              rw [if_pos (by omega)] at hp
                              exact (Option.some.inj hp).symm
                            subst hpl
                            refine ⟨_, _, _, run_append_room_src w t tx ty el i ht hi _ _ len (l'.cap - skip) cx k news hsrc (by omega) (fun j hj => (q1 j hj).1) (fun j hj => (q1 j hj).2), q2, q3, ?_⟩
                            simp only [cvo, Mu.add, plc]
                            simp
                            exact ⟨by omega, by omega⟩
                          · -- a new block
                            have hcellsrd : ∃ olds, cvos m ((csx.drop o).take (len * i.size)) = some olds := cvos_drop_take (fun j b' hj1 hj2 hb' => by
                              obtain ⟨y', hy', _⟩ := cr.cell j b' (by omega) (by omega) hb'; exact ⟨y', hy'⟩)
                            obtain ⟨olds, hold⟩ := hcellsrd
                            have hol := cvos_length hold
                            rw [List.length_take, List.length_drop] at hol
                            have hol2 : olds.length = len * i.size := by omega
                            have hfc : ∀ w' : World, (∀ ad, w'.cell? ad = w.cell? ad) → (Builtin.firstCells i.size len (.slice (some ad) len (l'.cap - skip))).run P w' = .ok olds.toArray w' := fun w' hw' => by
                              refine run_firstCells_some w' _ _ _ _ _ olds hol2 (fun j u hj => ?_)
                              have hj2 : j < olds.length := by
                                rcases Nat.lt_or_ge j olds.length with h | h
                                · exact h
                                · rw [List.getElem?_eq_none h] at hj; cases hj
                              have hlpos : 0 < len := by
                                rcases Nat.eq_zero_or_pos len with h | h
                                · subst h; rw [Nat.zero_mul] at hol2; omega
                                · exact h
                              rw [if_neg (by omega)] at hp
                              unfold plc at hp
                              simp only at hp
                              rw [hl] at hp
                              dsimp only at hp
                              have hlo := cr.lo
                              rw [if_pos (by omega)] at hp
                              cases hp
                              obtain ⟨b', hb', hbv⟩ := cvos_get' hold hj
                              rw [List.getElem?_take, if_pos (by omega), List.getElem?_drop] at hb'
                              obtain ⟨y', hy', hwy⟩ := cr.cell (o + j) b' (by omega) (by omega) hb'
                              rw [hbv] at hy'; cases hy'
                              rw [hw', Addr.add_mk, show l'.co + (o - l'.lo) + j = l'.co + (o + j - y.lo) by omega]
                              exact hwy
                            obtain ⟨C, cp, h1, h2, h3, h4⟩ := grow_run (P := P) (w := w) (ty := ty) (base := some ad) (sLen := len) (sCap := l'.cap - skip) (olds := olds) ht hi hz hzl hfc hsrc hol2 (by omega) hb1 hb2
                            obtain ⟨q2, q3⟩ := R.drew.fork_out (v := v) hg hy1 r1 r2 r3 hnews hlen hold (C := C) (e := el) (cap := cp) h4 (by omega) h2
                            refine ⟨_, _, _, h1, q2, q3, ?_⟩
                            simp only [cvo, Mu.add, plc]
                            simp
                            exact ⟨by omega, by omega⟩
                      · cases h
                    · cases h
                  · cases h
                · cases h
            · cases hx
          · cases hx
        · cases h
      · cases h

theorem eff_soundA {o : Oper} {ao : AOp} {v : AV} {B : St} (R : Rel F m A w) (hc : compOpA P o.op = some ao) (e : EnvR M0 m n E a) (hv : effOf E A ao = some (v, B)) : EffOk P F m a o v B w := by
  obtain ⟨dst, op, type, pos, after, guard⟩ := o
  dsimp only at hc
  cases op with
  | store t x y =>
    simp only [compOpA, Option.map_eq_some_iff] at hc
    obtain ⟨s, hs, rfl⟩ := hc
    exact store_sound rfl hs R e hv
  | convert src dst' x =>
    simp only [compOpA] at hc
    split at hc
    · simp only [Option.some.injEq] at hc; subst hc; simp [effOf] at hv
    · simp only [Option.some.injEq] at hc; subst hc; simp [effOf] at hv
    · split at hc
      · simp only [Option.some.injEq] at hc; subst hc; simp [effOf] at hv
      · cases hc
    · split at hc
      · simp only [Option.some.injEq] at hc; subst hc; simp [effOf] at hv
      · cases hc
    · cases hc
  | call c =>
    obtain ⟨callee, args, argTypes⟩ := c
    simp only [compOpA] at hc
    split at hc
    · split at hc
      · simp only [Option.some.injEq] at hc; subst hc; simp [effOf] at hv
      · simp only [Option.some.injEq] at hc; subst hc; simp [effOf] at hv
      · simp only [Option.some.injEq] at hc; subst hc; simp [effOf] at hv
      · cases hc
    · split at hc
      · rename_i s x t tx hargs htypes
        have ha : args = #[s, x] := by apply Array.ext'; simpa using hargs
        have ht0 : argTypes = #[t, tx] := by apply Array.ext'; simpa using htypes
        subst ha ht0
        have fin : ∀ (b : Bool) (el : TypeId) (i : TypeInfo) (z : List AV), P.underlying t = some (.slice el) → P.info? el = some i → zeroCs P el = some z → z.length = i.size → ao = .append b i.size i.bytes s x →
            ((b = false ∧ ∃ e, P.underlying tx = some (.slice e)) ∨ (b = true ∧ P.underlying tx = some .string ∧ i.size = 1)) → EffOk P F m a ⟨dst, .call ⟨.builtin .append, #[s, x], #[t, tx]⟩, type, pos, after, guard⟩ v B w := fun b el i z hu hi hz hzl hao hty => by
          subst hao
          simp only [effOf] at hv
          cases hok : okSrc b (ev E x) with
          | false => rw [hok] at hv; cases hv
          | true =>
          rw [hok] at hv; simp only [cond_true] at hv
          obtain ⟨i', zv, hi', hzv, hz'⟩ := zeroCs_some hz
          rw [hi] at hi'; cases hi'
          have hl := cvos_length (mapM_const (m := m) hz')
          have hx1 : ∀ s', ev E x = .str s' → P.underlying tx = some .string := fun s' hs' => by
            rcases hty with ⟨hb, e', he'⟩ | ⟨hb, h, _⟩
            · rw [hb, hs'] at hok; cases hok
            · exact h
          have hx2 : ∀ p a b c d, ev E x = .slice p a b c d → ∃ e, P.underlying tx = some (.slice e) := fun p a' b' c' d hs' => by
            rcases hty with ⟨hb, h⟩ | ⟨hb, h, _⟩
            · exact h
            · rw [hb, hs'] at hok; cases hok
          obtain ⟨c, w', m', h1, h2, h3, h4⟩ := append_sound (P := P) (ty := type) R (ev_sound e s) (ev_sound e x) hv hu hi hzv (by simp at hl; omega) rfl rfl (hty.imp (·.2) (·.2)) hx1 hx2
          refine ⟨.value c, c, w', m', ?_, .inl rfl, h2, h3, .inr h4⟩
          simp [execOp, resolve, invoke, builtin, h1]
        split at hc
        · rename_i el e' hu hu2
          split at hc
          · rename_i i hi
            split at hc
            · rename_i z hz
              split at hc
              · rename_i hzl
                exact fin false el i z hu hi hz hzl (by cases hc; rfl) (.inl ⟨rfl, e', hu2⟩)
              · cases hc
            · cases hc
          · cases hc
        · rename_i el hu hu2
          split at hc
          · rename_i i hi
            split at hc
            · rename_i z hz
              split at hc
              · rename_i hzl
                exact fin true el i z hu hi hz hzl.1 (by cases hc; rfl) (.inr ⟨rfl, hu2, hzl.2⟩)
              · cases hc
            · cases hc
          · cases hc
        · cases hc
      · cases hc
    · split at hc
      · cases hc
      · simp only [Option.some.injEq] at hc; subst hc; simp [effOf] at hv
    · simp only [Option.some.injEq] at hc; subst hc; simp [effOf] at hv
    · cases hc
  | _ =>
    exfalso
    simp only [compOpA, compEq] at hc
    repeat' split at hc
    all_goals first
      | (cases hc; done)
      | (simp only [Option.some.injEq] at hc; subst hc; simp [effOf] at hv; done)
      | (simp only [Option.map_eq_some_iff] at hc; obtain ⟨_, _, rfl⟩ := hc; simp [effOf] at hv; done)
end
end Go.AM
