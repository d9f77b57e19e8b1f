/- The journal: the log's state and records. -/
import Derived.Test.YtlaoookdegmnnaaGreatDoorHpTape
set_option maxRecDepth 100000
set_option linter.unusedSimpArgs false
set_option linter.unusedVariables false
namespace Go.Proofs.YtlaoookdegmnnaaGreatDoor
open Go.AM
section
variable {D : Disp} {G0 : Env} {X : Calls'} {A0 : St}
theorem TpC_nodup {b : Nat} {K : Nat → Nat} {A : St} {p m : Nat} {t : TpD} (h : TpC b K A p m t) : (keysA t.segs).Nodup := by
 obtain ⟨l, c, h1, h2⟩ := h.ex
 rw [← h2.keys, keysA_vals]
 exact h1.keys
def lenK (l : List (Int × SegD)) (k : Int) : Nat := ((assoc k l).getD ⟨[], 0⟩).b.length
theorem sum_keys : ∀ {l : List (Int × SegD)}, (keysA l).Nodup → ((keysA l).map (lenK l)).sum = usedL l
 | [], _ => rfl
 | (x, d) :: l, hn => by
  rw [keysA_cons, List.nodup_cons] at hn
  rw [keysA_cons, List.map_cons, List.sum_cons]
  have e : (keysA l).map (lenK ((x, d) :: l)) = (keysA l).map (lenK l) := by
   apply List.map_congr_left
   intro k hk
   unfold lenK
   simp only [assoc]
   rw [if_neg (fun e => hn.1 (by simp only at e ⊢; rw [e]; exact hk))]
  rw [e, sum_keys hn.2]
  unfold lenK
  simp [assoc, usedL]
theorem sum_sorted {l : List (Int × SegD)} (h : (keysA l).Nodup) : ((sortB leI (keysA l)).map (lenK l)).sum = usedL l := by
 rw [← sum_keys h]
 exact ((sortB_perm leI (keysA l)).map _).sum_nat
theorem sum_take_le (l : List Nat) (i : Nat) : (l.take i).sum ≤ l.sum := by
 conv => rhs; rw [← List.take_append_drop i l, List.sum_append]
 omega
theorem sum_take_succ {l : List Nat} {i x : Nat} (h : l[i]? = some x) : (l.take (i + 1)).sum = (l.take i).sum + x := by
 rw [List.take_add_one, h]; simp
theorem used_spec (HX : RowsX X A0) {b : Nat} {K : Nat → Nat} {A : St} (hA : Wld K A0 A) {p m : Nat} {t : TpD} (ht : TpC b K A p m t) :
  Ev D G0 fnsL X 145 [.ptr (some (p, 0, 0))] A fun r B => A.Ext B ∧ r = .int .i64 (usedL t.segs : Nat) := by
 refine Ev.fnK (fn := a145) rfl ⟨by simp [a145], by decide⟩ ?_
 unfold a145
 simp [ops_callf, allKnown]
 refine (segs_spec HX hA.glob ht).mono fun r B ⟨x1, hs, _⟩ => ?_
 have ht := ht.ext x1
 have hlen := hs.lenV1
 have hsum := sum_sorted (TpC_nodup ht)
 have hu := ht.ok.used
 have hkl : t.keys.length ≤ 64 := by unfold TpD.keys; rw [(sortB_perm leI _).length_eq]; simpa [keysA] using ht.ok.few
 have l1 := ht.cl.ld 1 (v := .map (some m)) rfl
 simp [hs.notBot, hs.known] at hlen
 simp [hlen]
 refine Wp.loopK (fun d E A' => B = A' ∧ Env.at E 0 = .ptr (some (p, 0, 0)) ∧ Env.at E 7 = r ∧ Env.at E 8 = .int .i64 t.keys.length ∧ ∃ i : Nat, Env.at E 9 = .int .i64 i ∧ i + d = t.keys.length ∧ Env.at E 3 = .int .i64 (((t.keys.map (lenK t.segs)).take i).sum : Nat)) t.keys.length ?_ ?_
 ·exact ⟨rfl, by simp, by simp, by simp, 0, by simp, by simp, by simp⟩
 rintro d E _ ⟨rfl, e0, e7, e8, i, e9, hi, e3⟩
 simp [e8, e9, lss_nat, -bin_lss]
 refine contC_of (fun hc => ?_) (fun hc => ?_)
 ·simp at hc
  have hk : t.keys[i]? = some t.keys[i] := List.getElem?_eq_getElem hc
  obtain ⟨q, g1, g2⟩ := hs.at_one (j := i) (v := .int .i64 t.keys[i]) (by rw [List.getElem?_map, hk]; rfl) .i64
  obtain ⟨v, q1, q2, q3, q4⟩ := ht.look t.keys[i]
  have hlv := q3.lenV
  have hx : (t.keys.map (lenK t.segs))[i]? = some (lenK t.segs t.keys[i]) := by rw [List.getElem?_map, hk]; rfl
  have hss := sum_take_succ hx
  have hle := sum_take_le (t.keys.map (lenK t.segs)) (i + 1)
  have hll : lenK t.segs t.keys[i] = (t.seg t.keys[i]).b.length := rfl
  rw [hll] at hss
  have hkd : t.keys = sortB leI (keysA t.segs) := rfl
  rw [hkd, hsum] at hle
  rw [← hkd] at hle
  generalize ((t.keys.map (lenK t.segs)).take i).sum = S at *
  obtain ⟨z, hz, ez⟩ := add_nat (a := S) (b := (t.seg t.keys[i]).b.length) (by omega) (by omega)
  have ea := add_one (i := i) (by omega)
  generalize t.keys[i] = k at *
  simp [-bin_add] at ez ea
  simp [e0, e3, e7, e8, e9, g1, g2, AV.addr, l1, q2, fieldV, partOf, hlv, ez, ea, -bin_add]
  exact ⟨d - 1, by omega, i + 1, by omega, by omega, by rw [hss, hz]⟩
 ·simp at hc
  have hil : i = t.keys.length := by omega
  have hkd : t.keys = sortB leI (keysA t.segs) := rfl
  rw [hil, List.take_of_length_le (by simp), hkd, hsum] at e3
  simp [e3]
  exact x1
theorem free_spec (HX : RowsX X A0) {b : Nat} {K : Nat → Nat} {A : St} (hA : Wld K A0 A) {p m : Nat} {t : TpD} (ht : TpC b K A p m t) :
  Ev D G0 fnsL X 349 [.ptr (some (p, 0, 0))] A fun r B => A.Ext B ∧ r = .int .i64 t.free := by
 refine Ev.fnK (fn := a349) rfl ⟨by simp [a349], by decide⟩ ?_
 unfold a349
 have l0 := ht.cl.ld 0 (v := .int .i64 t.room) rfl
 simp [eqV, eqOf]
 refine Wp.draws ?_
 simp [AV.addr, l0, opsD_callf, allKnown]
 refine (used_spec HX hA ht).mono fun r B ⟨x1, hr⟩ => ?_
 subst hr
 have l1 := (ht.ext x1).cl.ld 0 (v := .int .i64 t.room) rfl
 have hu := ht.ok.used
 have hr := ht.ok.room
 have es : binOf .sub (.int .i64 t.room) (.int .i64 (usedL t.segs : Nat)) = some (.int .i64 (t.room - usedL t.segs)) := by
  rw [bin_sub, IntKind.wrap_i64]
  congr 2
  omega
 have em := fun (E : Env) (x y : Operand) (h1 : ev E x = .int .i64 (t.room - usedL t.segs)) (h2 : ev E y = .int .i64 0) => pure_mm2 (b := true) h1 h2
 simp [es, InAll, l0, l1, AV.beq, -bin_sub]
 rw [em _ _ _ (by simp) (by simp)]
 simp [l0, l1]
 exact ⟨x1, rfl⟩
end
section
variable {D : Disp} {G0 : Env} {X : Calls'} {A0 : St}
theorem fits_spec (HX : RowsX X A0) {b : Nat} {K : Nat → Nat} {A : St} (hA : Wld K A0 A) {p m : Nat} {t : TpD} (ht : TpC b K A p m t) {k : Int} {s x : AV} {l : List UInt8} (hs : Sl A 1 s [x]) (hx : Bs A x l) (hl : l.length < 2 ^ 40) :
  Ev D G0 fnsL X 263 [.ptr (some (p, 0, 0)), .int .i64 k, s] A fun r B => A.Ext B ∧ EV B r (t.fits k [l]) := by
 refine Ev.fnK (fn := a263) rfl ⟨by simp [a263], by decide⟩ ?_
 unfold a263
 have hl1 := hs.lenV1
 simp [ops_callf, allKnown]
 refine (free_spec HX hA ht).mono fun r B ⟨x1, hr⟩ => ?_
 subst hr
 have ht := ht.ext x1
 have hs := Sl.ext x1 hs
 have hx : Bs B x l := Sl.ext x1 hx
 have hfr : 0 ≤ t.free ∧ t.free ≤ 1048576 := by
  have := ht.ok.room
  unfold TpD.free
  omega
 have hlx := hx.lenV
 have eg : binOf .gtr (.int .i64 l.length) (.int .i64 t.free) = some (.bool (decide (t.free < l.length))) := by rw [bin_gtr]
 unfold TpD.fits
 simp only [roomP, Bool.and_true]
 have l0 := ht.cl.ld 0 (v := .int .i64 t.room) rfl
 have l1 := ht.cl.ld 1 (v := .map (some m)) rfl
 simp at hl1
 simp [hl1]
 refine Wp.loopK (fun d E A' => B = A' ∧ Env.at E 0 = .ptr (some (p, 0, 0)) ∧ Env.at E 1 = .int .i64 k ∧ Env.at E 14 = s ∧ Env.at E 15 = .int .i64 1 ∧ ((d = 1 ∧ Env.at E 16 = .int .i64 0 ∧ Env.at E 7 = .int .i64 t.free) ∨ (d = 0 ∧ Env.at E 16 = .int .i64 1 ∧ (l.length : Int) ≤ t.free))) 1 ?_ ?_
 ·exact ⟨rfl, by simp, by simp, by simp, by simp, .inl ⟨rfl, by simp, by simp⟩⟩
 rintro d E _ ⟨rfl, e0, e1, e14, e15, h⟩
 rcases h with ⟨rfl, e16, e7⟩ | ⟨rfl, e16, hle⟩
 ·obtain ⟨q, g1, g2⟩ := hs.at_one (j := 0) (v := x) rfl .i64
  simp at g1
  have ea := add_one (i := 0) (by omega)
  simp at ea
  simp [e14, e15, e16, e7, g1, g2, hlx, eg, -bin_gtr]
  refine contC_of (fun hc => ?_) (fun hc => ?_)
  ·simp at hc
   simp only [Go.AM.wp_seq]
   refine Wp.draws ?_
   simp [e0, AV.addr, l0, hlx, opsD_callf, allKnown]
   refine (new_spec (e := 5) (by decide)).mono fun r C ⟨x2, h2⟩ => ?_
   obtain ⟨ty, u, rfl⟩ := h2.isIface
   simp [opsD_callf, allKnown, InAll]
   refine (bound_spec h2).mono fun r C2 ⟨x3, h3⟩ => ?_
   obtain ⟨ty, u, rfl⟩ := h3.isIface
   have l0' := (ht.ext x2).cl.ld 0 (v := .int .i64 t.room) rfl
   simp [InAll, l0, l0', AV.beq]
   rw [if_pos (by omega)]
   exact ⟨(x1.trans x2).trans x3, h3.ev (by decide)⟩
  ·simp at hc
   have es : binOf .sub (.int .i64 t.free) (.int .i64 l.length) = some (.int .i64 (t.free - l.length)) := by
    rw [bin_sub, IntKind.wrap_i64]
    congr 2
    omega
   simp [e14, e15, e16, e7, hlx, es, -bin_sub]
   exact ⟨e0, e1, by decide, hc⟩
 ·have hok := decide_eq_true hle
  obtain ⟨v, q1, q2, q3, q4⟩ := ht.look k
  obtain ⟨C, w1, x2, w2⟩ := local_put B (cs := [.slice none 0 0 0 0, .int .i64 0]) (n := 2) rfl (l := [v, .int .i64 (t.seg k).syn]) rfl (flat_seg q3 _ _)
  have hlm := fun (E : Env) (mp : Operand) (h1 : ev E mp = .map (some m)) => (ht.ext x2).lenMap h1
  have l1' := (ht.ext x2).cl.ld 1 (v := .map (some m)) rfl
  have egq : binOf .geq (.int .i64 t.segs.length) (.int .i64 64) = some (.bool (decide (64 ≤ t.segs.length))) := by rw [bin_geq]; simp; omega
  have hng : ¬ t.free < (l.length : Int) := by omega
  simp only [if_neg hng]
  have x12 := x1.trans x2
  cases ha : assoc k t.segs with
  | some d =>
   simp [e0, e1, e14, e15, e16, AV.addr, l1, q1, ha, Made.value, w1]
   exact ⟨x12, EV.nil C⟩
  | none =>
   by_cases h64 : 64 ≤ t.segs.length
   ·simp [e0, e1, e14, e15, e16, AV.addr, l1, l1', q1, ha, Made.value, w1, hlm, egq, h64, ops_callf, allKnown, -bin_geq]
    refine (new_spec (e := 5) (by decide)).mono fun r C2 ⟨x3, h2⟩ => ?_
    obtain ⟨ty, u, rfl⟩ := h2.isIface
    simp [ops_callf, allKnown]
    refine (bound_spec h2).mono fun r C3 ⟨x4, h3⟩ => ?_
    obtain ⟨ty, u, rfl⟩ := h3.isIface
    simp
    exact ⟨(x12.trans x3).trans x4, h3.ev (by decide)⟩
   ·simp [e0, e1, e14, e15, e16, AV.addr, l1, l1', q1, ha, Made.value, w1, hlm, egq, h64, -bin_geq]
    exact ⟨x12, EV.nil C⟩
end
section
variable {D : Disp} {G0 : Env} {X : Calls'} {A0 : St}
theorem fits_zero {t : TpD} {k : Int} {l : List UInt8} (h : t.fits k [l] = 0) : (l.length : Int) ≤ t.free ∧ (assoc k t.segs ≠ none ∨ t.segs.length < 64) := by
 unfold TpD.fits at h
 simp only [roomP, Bool.and_true] at h
 split at h
 ·cases h
 split at h
 ·cases h
 rename_i h1 h2
 refine ⟨by simpa using h1, ?_⟩
 by_cases ha : assoc k t.segs = none
 ·right
  have : ¬ 64 ≤ t.segs.length := fun h => h2 ⟨ha, h⟩
  omega
 ·exact .inl ha
theorem append_there {t : TpD} {k : Int} {l : List (List UInt8)} (h : t.there k true ≠ 0) : t.append k l = (t.there k true, t) := by unfold TpD.append; rw [if_pos h]
theorem append_fits {t : TpD} {k : Int} {l : List (List UInt8)} (h : t.there k true = 0) (h2 : t.fits k l ≠ 0) : t.append k l = (t.fits k l, t) := by unfold TpD.append; rw [if_neg (by simp [h]), if_pos h2]
theorem append_ok {t : TpD} {k : Int} {l : List UInt8} (h : t.there k true = 0) (h2 : t.fits k [l] = 0) : t.append k [l] = t.change k ⟨(t.seg k).b ++ l, (t.seg k).syn⟩ := by
 unfold TpD.append; rw [if_neg (by simp [h]), if_neg (by simp [h2])]; simp
theorem append_spec (HX : RowsX X A0) {b : Nat} {K : Nat → Nat} {A : St} (hA : Wld K A0 A) {p m : Nat} {t : TpD} (ht : TpC b K A p m t) {k : Int} {s x : AV} {l : List UInt8} (hs : Sl A 1 s [x]) (hx : Bs A x l) (hl : l.length < 2 ^ 40) :
  Ev D G0 fnsL X 159 [.ptr (some (p, 0, 0)), .int .i64 k, s] A fun r B => Mod (fun f => f = p ∨ f = m) A B ∧ TpC b K B p m (t.append k [l]).2 ∧ r = .int .i64 (t.append k [l]).1 := by
 refine Ev.fnK (fn := a159) rfl ⟨by simp [a159], by decide⟩ ?_
 unfold a159
 simp [ops_callf, allKnown]
 refine (there_spec ht).mono fun r B ⟨x1, h1⟩ => ?_
 rcases h1 with ⟨h0, rfl⟩ | ⟨h0, n, ty, u, hk, rfl, h2⟩
 rotate_left
 ·rw [append_there h0]
  simp [eqV, eqOf, ops_callf, allKnown]
  refine (code_spec HX (hA.glob.trans x1) (h2.ev hk)).mono fun r C ⟨e1, e2⟩ => ?_
  subst e1 e2
  simp
  exact ⟨Mod.of_ext x1, ht.ext x1⟩
 have hA1 := hA.ext x1
 have ht1 := ht.ext x1
 simp [eqV, eqOf, ops_callf, allKnown, hs.allKnown]
 refine (fits_spec HX hA1 ht1 (Sl.ext x1 hs) (Sl.ext x1 hx) hl).mono fun r C ⟨x2, h1⟩ => ?_
 have hA2 := hA1.ext x2
 have ht2 := ht1.ext x2
 have x12 := x1.trans x2
 rcases h1 with ⟨hf0, rfl⟩ | ⟨hf0, n, ty, u, hk, rfl, h2⟩
 rotate_left
 ·rw [append_fits h0 hf0]
  simp [eqV, eqOf, ops_callf, allKnown]
  refine (code_spec HX hA2.glob (h2.ev hk)).mono fun r C2 ⟨e1, e2⟩ => ?_
  subst e1 e2
  simp
  exact ⟨Mod.of_ext x12, ht2⟩
 rw [append_ok h0 hf0]
 obtain ⟨z1, z2, _⟩ := there_zero h0
 obtain ⟨y1, y2⟩ := fits_zero hf0
 obtain ⟨v, q1, q2, q3, q4⟩ := ht2.look k
 obtain ⟨C1, w1, x3, w2⟩ := local_put C (cs := [.slice none 0 0 0 0, .int .i64 0]) (n := 2) rfl (l := [v, .int .i64 (t.seg k).syn]) rfl (flat_seg q3 _ _)
 have l1 := ht2.cl.ld 1 (v := .map (some m)) rfl
 have v0 := w2.ld 0 (v := v) rfl
 have v1 := w2.ld 1 (v := .int .i64 (t.seg k).syn) rfl
 have hfs := ht2.ok.few_seg k
 simp [eqV, eqOf, AV.addr, l1, q2, Made.value, w1, v0, ops_callf, allKnown, q3.allKnown]
 refine (clone_spec (Sl.ext x3 q3) (by omega)).mono fun b C2 ⟨x4, hb⟩ => ?_
 have x14 := (x12.trans x3).trans x4
 have hs2 := Sl.ext x14 hs
 have hx2 : Bs C2 x l := Sl.ext x14 hx
 have hl1 := hs2.lenV1
 simp at hl1
 simp [hl1]
 have hfree : t.free + usedL t.segs ≤ 1048576 ∨ t.free = 0 := by
  have := ht.ok.room
  unfold TpD.free
  omega
 have hu := ht.ok.used
 refine Wp.loopK (fun d E A' => C1.Ext A' ∧ Env.at E 0 = .ptr (some (p, 0, 0)) ∧ Env.at E 1 = .int .i64 k ∧ Env.at E 8 = .ptr (some (C.next, 0, 0)) ∧ Env.at E 34 = s ∧ Env.at E 35 = .int .i64 1 ∧ ((d = 1 ∧ Env.at E 36 = .int .i64 0 ∧ Env.at E 9 = b ∧ C2 = A') ∨ (d = 0 ∧ Env.at E 36 = .int .i64 1 ∧ ∃ b', Env.at E 9 = b' ∧ OwnB C1.next A' b' ((t.seg k).b ++ l)))) 1 ?_ ?_
 ·exact ⟨x4, by simp, by simp, by simp, by simp, by simp, .inl ⟨rfl, by simp, by simp, rfl⟩⟩
 rintro d E A' ⟨x5, e0, e1, e8, e34, e35, h⟩
 rcases h with ⟨rfl, e36, e9, rfl⟩ | ⟨rfl, e36, b', e9, hb'⟩
 ·obtain ⟨q, g1, g2⟩ := hs2.at_one (j := 0) (v := x) rfl .i64
  simp at g1
  have ea := add_one (i := 0) (by omega)
  simp at ea
  have hbl := Bs.len hb.sl
  obtain ⟨b', B3, k1, k2, k3, k4, k5⟩ := appendV_own (bytes := 1) hb hx2 x4.next (by decide) (bytesV_flat _) (by rw [hbl, Bs.len hx2]; omega) (by rw [hbl, Bs.len hx2]; omega)
  simp [e34, e35, e36, e9, g1, g2, k1]
  refine ⟨k4.ext x4 hb, e0, e1, e8, by decide, ?_⟩
  show AM.Own C1.next B3 1 b' (bytesV _)
  rw [bytesV_append]; exact k3
 ·have x15 := (x12.trans x3).trans x5
  have ht5 := ht.ext x15
  have hA5 := hA.ext x15
  have v1' := (w2.ext x5).ld 1 (v := .int .i64 (t.seg k).syn) rfl
  have hro : RoS K b' := fun f hf => hA.fresh f (Nat.le_trans (x12.trans x3).next (hb'.into hf))
  have hb1 : Bs A' b' ((t.seg k).b ++ l) := hb'.sl
  simp [e0, e1, e8, e9, e34, e35, e36, AV.addr, v1', fillA, splice, hb1.notBot, hb1.cells, aggV, ops_callf, allKnown]
  refine (change_spec HX hA5 ht5 (d := ⟨(t.seg k).b ++ l, (t.seg k).syn⟩) hb1 hro (ok_put ht.ok z1 (by simp; omega) ?_ y2)).mono fun r C3 ⟨e1, e2, e3⟩ => ?_
  ·simp; omega
  ·subst e3
   simp
   exact ⟨(Mod.of_ext x15).trans e1, e2⟩
end
section
variable {D : Disp} {G0 : Env} {X : Calls'} {A0 : St}
theorem len_spec {b : Nat} {K : Nat → Nat} {A : St} {p m : Nat} {t : TpD} (ht : TpC b K A p m t) {k : Int} :
  Ev D G0 fnsL X 268 [.ptr (some (p, 0, 0)), .int .i64 k] A fun r B => A = B ∧ r = .int .i64 (t.len k : Nat) := by
 refine Ev.fnK (fn := a268) rfl ⟨by simp [a268], by decide⟩ ?_
 unfold a268
 have l1 := ht.cl.ld 1 (v := .map (some m)) rfl
 obtain ⟨v, q1, q2, q3, q4⟩ := ht.look k
 simp [eqV, eqOf, AV.addr, l1, q2, fieldV, partOf, q3.lenV]
 rfl
theorem read_spec (HX : RowsX X A0) {b : Nat} {K : Nat → Nat} {A : St} (hA : Wld K A0 A) {p m : Nat} {t : TpD} (ht : TpC b K A p m t) {k : Int} :
  Ev D G0 fnsL X 350 [.ptr (some (p, 0, 0)), .int .i64 k] A fun r B => A.Ext B ∧ ∃ v e, r = .tuple [v, e] ∧ ((0 ≤ k ∧ k ≤ 1048576) → OwnB A.next B v (t.seg k).b) := by
 refine Ev.fnK (fn := a350) rfl ⟨by simp [a350], by decide⟩ ?_
 unfold a350
 have l1 := ht.cl.ld 1 (v := .map (some m)) rfl
 simp [eqV, eqOf, ops_callf, allKnown]
 refine (named_spec (s := k)).mono fun r B ⟨x1, h1⟩ => ?_
 rcases h1 with ⟨h0, rfl⟩ | ⟨h0, n, ty, u, hk, rfl, h2⟩
 ·have ht := ht.ext x1
  have l1 := ht.cl.ld 1 (v := .map (some m)) rfl
  obtain ⟨v, q1, q2, q3, q4⟩ := ht.look k
  obtain ⟨C1, w1, x3, w2⟩ := local_put B (cs := [.slice none 0 0 0 0, .int .i64 0]) (n := 2) rfl (l := [v, .int .i64 (t.seg k).syn]) rfl (flat_seg q3 _ _)
  have v0 := w2.ld 0 (v := v) rfl
  have hfs := ht.ok.few_seg k
  cases ha : assoc k t.segs with
  | none =>
   simp [eqV, eqOf, AV.addr, l1, q1, ha, Made.value, w1]
   have e : (t.seg k).b = [] := by unfold TpD.seg; rw [ha]; rfl
   rw [e]
   exact ⟨x1.trans x3, fun _ _ => .nil _ _ _⟩
  | some d =>
   simp [eqV, eqOf, AV.addr, l1, q1, ha, Made.value, w1, v0, ops_callf, allKnown, q3.allKnown]
   refine (clone_spec (Sl.ext x3 q3) (by omega)).mono fun b C2 ⟨x4, hb⟩ => ?_
   simp [hb.sl.known]
   exact ⟨(x1.trans x3).trans x4, fun _ _ => hb.mono (x1.trans x3).next⟩
 ·have hbad : k < 0 ∨ 1048576 < k := by
   by_cases h : k < 0 ∨ 1048576 < k
   ·exact h
   ·rw [if_neg h] at h0; exact absurd rfl h0
  simp [eqV, eqOf, ops_callf, allKnown]
  refine (code_spec HX (hA.glob.trans x1) (h2.ev hk)).mono fun r C ⟨e1, e2⟩ => ?_
  subst e1 e2
  simp
  exact ⟨x1, fun _ _ => by omega⟩
end
end Go.Proofs.YtlaoookdegmnnaaGreatDoor
namespace Go.AM

def content : List (List (List UInt8)) → List UInt8 × List (List UInt8)
 | [] => ([], [])
 | l :: L => if L.any isSaved = true then content L else ((if isSaved l = true then (tailH l) else []), plainOf l ++ (L.map plainOf).flatten)


end Go.AM
namespace Go.Proofs.YtlaoookdegmnnaaGreatDoor
open Go.AM
section
variable {D : Disp} {G0 : Env} {X : Calls'} {A0 : St}
def kTape (b : Nat) (K : Nat → Nat) (n : Nat) : Nat → Nat := fun f => if f = n ∨ f = n + 1 then b + 1 else K f
theorem kTape_up (b : Nat) (K : Nat → Nat) (A : St) : KUp K (kTape b K A.next) A := fun f hf => by unfold kTape; rw [if_neg (by omega)]
theorem kTape_fresh {b : Nat} {K : Nat → Nat} {A B : St} (h : KFresh K A) (hB : A.next + 2 ≤ B.next) : KFresh (kTape b K A.next) B := fun f hf => by unfold kTape; rw [if_neg (by omega)]; exact h f (by omega)
theorem new_tape {b : Nat} {K : Nat → Nat} {A B : St} {t : TpD} (ht : t.segs = []) (hok : TpOk t) (hB : A.next + 2 ≤ B.next) (hm : B.get A.next = some (.map [] 0)) (hc : Cl B (A.next + 1) [.int .i64 t.room, .map (some A.next), .int .i64 t.fuse, .bool t.down]) :
  TpC b (kTape b K A.next) B (A.next + 1) A.next t :=
 ⟨hc, ⟨[], 0, ⟨by omega, hm, by simp, List.Pairwise.nil, fun _ h => by cases h⟩, by rw [ht]; trivial⟩, by simp [kTape], by simp [kTape], by omega, hok⟩
theorem newT_spec {A : St} {b : Nat} {K : Nat → Nat} {room : Int} (hr : 0 ≤ room ∧ room ≤ 1048576) : Ev D G0 fnsL X 63 [.int .i64 room] A fun r B => A.Ext B ∧ A.next + 2 ≤ B.next ∧ r = .tuple [.ptr (some (A.next + 1, 0, 0)), .int .i64 0] ∧ TpC b (kTape b K A.next) B (A.next + 1) A.next (tpNew room) := by
 refine Ev.fnK (fn := a63) rfl ⟨by simp [a63], by decide⟩ ?_
 unfold a63
 have h1 : ¬ room < 0 := by omega
 have h2 : ¬ 1048576 < room := by omega
 simp [h1, h2, eff_mkMap, fillA, splice, aggV, boxV, Made.value]
 have x1 := ext_push A (.map [] 0)
 have hg : (A.push (.map [] 0)).get A.next = some (.map [] 0) := by rw [St.get_push, if_pos rfl]
 have hn : (A.push (.map [] 0)).next = A.next + 1 := rfl
 generalize A.push (.map [] 0) = A1 at *
 have x2 := ext_make A1 [.int .i64 room, .map (some A.next), .int .i64 (-1), .bool false] 1
 have hc := Cl.make A1 [.int .i64 room, .map (some A.next), .int .i64 (-1), .bool false]
 have hlt := hc.lt
 rw [hn] at hc
 have hg2 := (x2.get A.next (by omega)).trans hg
 exact ⟨x1.trans x2, by omega, new_tape (t := tpNew room) rfl ⟨hr, by simp [tpNew, usedL], by simp [tpNew], by simp [tpNew], by simp [tpNew], by simp [tpNew]⟩ (by omega) hg2 hc⟩
end
section
variable {D : Disp} {G0 : Env} {X : Calls'} {A0 : St}
theorem Slcut_max {A : St} {s : AV} {cs : List AV} (h : Sl A 1 s cs) {n : Nat} (h0 : 0 < n) (hn : n ≤ s.slen) : ∃ s', cutSliceOf 1 s none (some (.int .i64 n)) (some (.int .i64 n)) = some s' ∧ Sl A 1 s' (cs.take n) ∧ ∀ f, s'.into f = true → s.into f = true := by
 cases h with
 | nil po cap q => simp [AV.slen] at hn; omega
 | @mem f v o po len cap q cs hf hc hq =>
  simp only [AV.slen] at hn
  have hsub := cells_sub hc (i := 0) (k := n) (by omega)
  rw [List.drop_zero, Nat.add_zero] at hsub
  have hn0 : ¬ n = 0 := by omega
  refine ⟨.slice (some (f, v, o)) 0 n n 0, ?_, .mem hf (by rw [Nat.mul_one]; exact hsub) (.inl ⟨rfl, Nat.le_refl _⟩), fun g hg => hg⟩
  rcases hq with ⟨rfl, hq⟩ | ⟨rfl, hq⟩
  ·have h1 : bound? cap (AV.int .i64 (n : Int)) = some n := by simp [bound?]; omega
   have h2 : bound? n (AV.int .i64 (n : Int)) = some n := by simp [bound?]
   simp [cutSliceOf, boundHi, boundLo, boundMx, h1, h2, hn0]
  ·have : ¬ len = 0 := by omega
   have h1 : bound? len (AV.int .i64 (n : Int)) = some n := by simp [bound?]; omega
   have h2 : bound? n (AV.int .i64 (n : Int)) = some n := by simp [bound?]
   simp [cutSliceOf, boundHi, boundLo, boundMx, h1, h2, hn0, this]
theorem trim_spec (HX : RowsX X A0) {b : Nat} {K : Nat → Nat} {A : St} (hA : Wld K A0 A) {p m : Nat} {t : TpD} (ht : TpC b K A p m t) {k : Int} {n : Nat} (hn0 : 0 < n) (hn : n ≤ (t.seg k).b.length) :
  Ev D G0 fnsL X 269 [.ptr (some (p, 0, 0)), .int .i64 k, .int .i64 n] A fun r B => Mod (fun f => f = p ∨ f = m) A B ∧ TpC b K B p m (t.trim k n).2 ∧ r = .int .i64 (t.trim k n).1 := by
 refine Ev.fnK (fn := a269) rfl ⟨by simp [a269], by decide⟩ ?_
 unfold a269
 simp [ops_callf, allKnown]
 refine (there_spec ht).mono fun r B ⟨x1, h1⟩ => ?_
 have hA1 := hA.ext x1
 have ht1 := ht.ext x1
 rcases h1 with ⟨h0, rfl⟩ | ⟨h0, j, ty, u, hk, rfl, h2⟩
 ·obtain ⟨z1, z2, z3⟩ := there_zero h0
  have e : t.trim k n = t.change k ⟨(t.seg k).b.take n, min (t.seg k).syn n⟩ := by
   unfold TpD.trim
   rw [if_neg (by simp [h0]), if_neg (by omega)]
   simp
  rw [e]
  obtain ⟨v, q1, q2, q3, q4⟩ := ht1.look k
  have hfs := ht1.ok.few_seg k
  obtain ⟨C, w1, x2, w2⟩ := local_put B (cs := [.slice none 0 0 0 0, .int .i64 0]) (n := 2) rfl (l := [v, .int .i64 (t.seg k).syn]) rfl (flat_seg q3 _ _)
  have l1 := ht1.cl.ld 1 (v := .map (some m)) rfl
  have v0 := w2.ld 0 (v := v) rfl
  have v1 := w2.ld 1 (v := .int .i64 (t.seg k).syn) rfl
  have hl := q3.lenV
  have eg1 : binOf .lss (.int .i64 (n : Int)) (.int .i64 0) = some (.bool false) := by rw [bin_lss]; simp
  have eg2 : binOf .gtr (.int .i64 (n : Int)) (.int .i64 ((t.seg k).b.length : Nat)) = some (.bool false) := by rw [bin_gtr]; simp; omega
  simp [eqV, eqOf, AV.addr, l1, q2, fieldV, partOf, hl, eg1, eg2, Made.value, w1, -bin_lss, -bin_gtr]
  refine Wp.envI (fun E => Env.at E 0 = .ptr (some (p, 0, 0)) ∧ Env.at E 1 = .int .i64 k ∧ Env.at E 2 = .int .i64 n ∧ Env.at E 8 = .ptr (some (B.next, 0, 0))) (by simp) ?_
  rintro E ⟨e0, e1, e2, e8⟩
  have q3C : Bs C v (t.seg k).b := Sl.ext x2 q3
  obtain ⟨s', c1, c2, c3⟩ := Slcut_max q3C (n := n) hn0 (by rw [Bs.len q3C]; exact hn)
  rw [bytesV_take] at c2
  have hro : RoS K s' := fun f hf => q4 f (c3 f hf)
  have em2 := fun (E : Env) (a b : Operand) (h1 : ev E a = .int .i64 (t.seg k).syn) (h2 : ev E b = .int .i64 n) => pure_mm2 (b := false) h1 h2
  refine Wp.draws ?_
  simp [e0, e1, e2, e8, AV.addr, v0, v1, c1]
  rw [em2 _ _ _ (by simp) (by simp)]
  obtain ⟨w, hw⟩ : ∃ w : Nat, min ((t.seg k).syn : Int) (n : Int) = w := ⟨min (t.seg k).syn n, by omega⟩
  have hwn : min (t.seg k).syn n = w := by omega
  rw [hw, hwn]
  simp [fillA, splice, c2.notBot, c2.cells, aggV, opsD_callf, allKnown]
  have hl2 : ((t.seg k).b.take n).length = n := by rw [List.length_take]; omega
  have hA2 := hA1.ext x2
  have ht2 := ht1.ext x2
  refine (change_spec HX hA2 ht2 (d := ⟨(t.seg k).b.take n, w⟩) c2 hro (ok_put ht.ok z1 (by simp only [hl2]; omega) (by have := ht.ok.used; simp only [hl2]; omega) (.inl (z3 rfl)))).mono fun r C2 ⟨e1, e2, e3⟩ => ?_
  subst e3
  simp
  exact ⟨by simp [InAll, v0, v1, AV.beq, q3.beq], ((Mod.of_ext x1).trans (Mod.of_ext x2)).trans e1, e2⟩
 ·have e : t.trim k n = (t.there k false, t) := by unfold TpD.trim; rw [if_pos h0]
  rw [e]
  simp [eqV, eqOf, ops_callf, allKnown]
  refine (code_spec HX hA1.glob (h2.ev hk)).mono fun r C ⟨e1, e2⟩ => ?_
  subst e1 e2
  simp
  exact ⟨Mod.of_ext x1, ht1⟩
end
structure JoOk (j : JoD) : Prop where
 cur : -1 ≤ j.cur ∧ j.cur ≤ 1048576
 seg : 0 ≤ j.seg ∧ j.seg ≤ 1048576
 state : j.state.length < 2 ^ 40
 recs : ∀ r ∈ j.recs, r.length < 2 ^ 40
structure JoC (b : Nat) (K : Nat → Nat) (A : St) (j p m : Nat) (jd : JoD) : Prop where
 tp : TpC b K A p m jd.t
 ex : ∃ st rs ps, Cl A j [.ptr (some (p, 0, 0)), .int .i64 jd.seg, .int .i64 jd.cur, st, rs] ∧ Bs A st jd.state ∧ RoS K st ∧ AM.Own 0 A 1 rs ps ∧ PartsB A ps jd.recs ∧ (∀ v ∈ ps, RoS K v) ∧ (∀ f, rs.into f = true → K f = b + 2 ∧ f ≠ j)
 kj : K j = b + 2
 ok : JoOk jd
def JW (b : Nat) (K : Nat → Nat) : Nat → Prop := fun f => K f = b + 1 ∨ K f = b + 2
theorem PartsB.mod {W : Nat → Prop} {A B : St} (x : Mod W A B) : ∀ {vs : List AV} {ls : List (List UInt8)}, PartsB A vs ls → (∀ v ∈ vs, ∀ f, v.into f = true → ¬ W f) → PartsB B vs ls
 | [], [], _, _ => trivial
 | v :: _, _ :: _, e, h => ⟨Sl.mod e.1 x (h v List.mem_cons_self), PartsB.mod x e.2 fun w hw => h w (List.mem_cons_of_mem _ hw)⟩
 | [], _ :: _, h, _ => h.elim
 | _ :: _, [], h, _ => h.elim
theorem Own_mod {lo : Nat} {W : Nat → Prop} {A B : St} {sz : Nat} {s : AV} {cs : List AV} (h : AM.Own lo A sz s cs) (x : Mod W A B) (hw : ∀ f, s.into f = true → ¬ W f) : AM.Own lo B sz s cs :=
 h.of_get x.next fun p po len cap q hs => x.get _ (Sl.into_lt h.sl (by rw [hs]; simp [AV.into])) (hw _ (by rw [hs]; simp [AV.into]))
theorem PartsB_up {K K' : Nat → Nat} {A : St} : ∀ {vs : List AV} {ls : List (List UInt8)}, PartsB A vs ls → KUp K K' A → (∀ v ∈ vs, RoS K v) → ∀ v ∈ vs, RoS K' v
 | [], [], _, _, _, v, hv => by cases hv
 | w :: _, _ :: _, e, u, h, v, hv => by
  rcases List.mem_cons.1 hv with rfl | hv
  ·exact (h _ List.mem_cons_self).up e.1 u
  ·exact PartsB_up e.2 u (fun w hw => h w (List.mem_cons_of_mem _ hw)) v hv
 | [], _ :: _, h, _, _, _, _ => h.elim
 | _ :: _, [], h, _, _, _, _ => h.elim
section
variable {b : Nat} {K : Nat → Nat} {A B : St} {j p m : Nat} {jd : JoD}
theorem JoC.mod {W : Nat → Prop} (h : JoC b K A j p m jd) (x : Mod W A B) (hw : ∀ f, W f → K f ≠ 0 ∧ K f ≠ b + 1 ∧ K f ≠ b + 2) : JoC b K B j p m jd := by
 obtain ⟨st, rs, ps, h1, h2, h3, h4, h5, h6, h7⟩ := h.ex
 exact ⟨h.tp.mod x fun f hW => ⟨(hw f hW).1, (hw f hW).2.1⟩, ⟨st, rs, ps, h1.mod x (fun hW => (hw _ hW).2.2 h.kj), Sl.mod h2 x (fun f hf hW => (hw f hW).1 (h3 f hf)), h3, Own_mod h4 x (fun f hf hW => (hw f hW).2.2 (h7 f hf).1), PartsB.mod x h5 (fun v hv f hf hW => (hw f hW).1 (h6 v hv f hf)), h6, h7⟩, h.kj, h.ok⟩
theorem JoC.ext (h : JoC b K A j p m jd) (x : A.Ext B) : JoC b K B j p m jd := h.mod (W := fun _ => False) (Mod.of_ext x) fun _ hf => hf.elim
theorem JoC.up {K' : Nat → Nat} (h : JoC b K A j p m jd) (u : KUp K K' A) : JoC b K' A j p m jd := by
 obtain ⟨st, rs, ps, h1, h2, h3, h4, h5, h6, h7⟩ := h.ex
 exact ⟨h.tp.up u, ⟨st, rs, ps, h1, h2, h3.up h2 u, h4, h5, PartsB_up h5 u h6, fun f hf => ⟨by rw [u f (Sl.into_lt h4.sl hf)]; exact (h7 f hf).1, (h7 f hf).2⟩⟩, by rw [u _ h1.lt]; exact h.kj, h.ok⟩
theorem JoC.tape (h : JoC b K A j p m jd) {t : TpD} (x : Mod (fun f => f = p ∨ f = m) A B) (ht : TpC b K B p m t) : JoC b K B j p m { jd with t := t } := by
 obtain ⟨st, rs, ps, h1, h2, h3, h4, h5, h6, h7⟩ := h.ex
 have hw : ∀ f, f = p ∨ f = m → K f = b + 1 := by
  rintro f (rfl | rfl)
  ·exact h.tp.kp
  ·exact h.tp.km
 exact ⟨ht, ⟨st, rs, ps, h1.mod x (fun hW => by have := hw _ hW; have := h.kj; omega), Sl.mod h2 x (fun f hf hW => by have := hw _ hW; have := h3 f hf; omega), h3, Own_mod h4 x (fun f hf hW => by have := hw _ hW; have := (h7 f hf).1; omega), PartsB.mod x h5 (fun v hv f hf hW => by have := hw _ hW; have := h6 v hv f hf; omega), h6, h7⟩, h.kj, ⟨h.ok.cur, h.ok.seg, h.ok.state, h.ok.recs⟩⟩
theorem JoC.tw (h : JoC b K A j p m jd) : ∀ f, f = p ∨ f = m → JW b K f := by
 rintro f (rfl | rfl)
 ·exact .inl h.tp.kp
 ·exact .inl h.tp.km
theorem JW.ne0 {f : Nat} (h : JW b K f) : K f ≠ 0 := by
 rcases h with h | h <;> omega
end
section
variable {D : Disp} {G0 : Env} {X : Calls'} {A0 : St}
theorem new_nil {A : St} : Ev D G0 fnsL X 90 [.int .i64 0] A fun r B => A = B ∧ r = .nilIface := by
 refine Ev.fnK (fn := a90) rfl ⟨by simp [a90], by decide⟩ ?_
 unfold a90
 simp
theorem on_spec {A : St} {s e : Int} : Ev D G0 fnsL X 158 [.int .i64 s, .int .i64 e] A fun r B => A.Ext B ∧ EV B r e := by
 refine Ev.fnK (fn := a158) rfl ⟨by simp [a158], by decide⟩ ?_
 unfold a158
 by_cases he : e = 0
 ·subst he
  simp [ops_callf, allKnown]
  refine new_nil.mono fun r B ⟨h1, h2⟩ => ?_
  subst h1 h2
  simp [ops_callf, allKnown]
  refine at_nil.mono fun r B ⟨h1, h2⟩ => ?_
  subst h1 h2
  simp
  exact ⟨St.Ext.refl _, EV.nil _⟩
 ·simp [ops_callf, allKnown]
  refine (new_spec he).mono fun r B ⟨x1, h1⟩ => ?_
  obtain ⟨t, u, rfl⟩ := h1.isIface
  simp [ops_callf, allKnown]
  refine (at_spec h1).mono fun r C ⟨x2, h2⟩ => ?_
  obtain ⟨t, u, rfl⟩ := h2.isIface
  simp
  exact ⟨x1.trans x2, h2.ev (by decide)⟩
theorem jsync_spec (HX : RowsX X A0) {b : Nat} {K : Nat → Nat} {A : St} (hA : Wld K A0 A) {j p m : Nat} {jd : JoD} (h : JoC b K A j p m jd) :
  Ev D G0 fnsL X 155 [.ptr (some (j, 0, 0))] A fun r B => Mod (JW b K) A B ∧ JoC b K B j p m jd.sync.2 ∧ r = .int .i64 jd.sync.1 := by
 refine Ev.fnK (fn := a155) rfl ⟨by simp [a155], by decide⟩ ?_
 unfold a155
 obtain ⟨st, rs, ps, h1, _⟩ := h.ex
 have l0 := h1.ld 0 (v := .ptr (some (p, 0, 0))) rfl
 have l2 := h1.ld 2 (v := .int .i64 jd.cur) rfl
 unfold JoD.sync
 by_cases hc : jd.cur < 0
 ·rw [if_pos hc]
  simp [eqV, eqOf, AV.addr, l2, hc]
  exact ⟨Mod.refl A, h⟩
 ·rw [if_neg hc]
  simp [eqV, eqOf, AV.addr, l2, hc]
  refine Wp.draws ?_
  simp [AV.addr, l0, l2, opsD_callf, allKnown, InAll, AV.beq]
  refine (sync_spec HX hA h.tp).mono fun r B ⟨e1, e2, e3⟩ => ?_
  subst e3
  simp [l0, l2]
  exact ⟨e1.mono fun f _ hf => h.tw f hf, h.tape e1 e2⟩
end
section
variable {D : Disp} {G0 : Env} {X : Calls'} {A0 : St}
theorem keys_few {t : TpD} (h : TpOk t) : t.keys.length ≤ 64 := by unfold TpD.keys; rw [(sortB_perm leI _).length_eq]; simpa [keysA] using h.few
theorem state_spec {b : Nat} {K : Nat → Nat} {A : St} {j p m : Nat} {jd : JoD} (h : JoC b K A j p m jd) : Ev D G0 fnsL X 79 [.ptr (some (j, 0, 0))] A fun r B => A.Ext B ∧ OwnB A.next B r jd.state := by
 refine Ev.fnK (fn := a79) rfl ⟨by simp [a79], by decide⟩ ?_
 unfold a79
 obtain ⟨st, rs, ps, h1, h2, _⟩ := h.ex
 have l3 := h1.ld 3 (v := st) rfl
 simp [eqV, eqOf, AV.addr, l3, ops_callf, allKnown, h2.allKnown]
 refine (clone_spec h2 h.ok.state).mono fun r B ⟨x, ho⟩ => ?_
 simp [ho.sl.known]
 exact ⟨x, ho⟩
theorem jlen_spec {b : Nat} {K : Nat → Nat} {A : St} {j p m : Nat} {jd : JoD} (h : JoC b K A j p m jd) : Ev D G0 fnsL X 83 [.ptr (some (j, 0, 0))] A fun r B => A = B ∧ r = .int .i64 jd.recs.length := by
 refine Ev.fnK (fn := a83) rfl ⟨by simp [a83], by decide⟩ ?_
 unfold a83
 obtain ⟨st, rs, ps, h1, h2, h3, h4, h5, _⟩ := h.ex
 have l4 := h1.ld 4 (v := rs) rfl
 have hl := h4.sl.lenV1
 rw [h5.length] at hl
 simp [eqV, eqOf, AV.addr, l4, hl]
end
structure PL (lo : Nat) (A : St) (out : AV) (ps : List AV) (ls : List (List UInt8)) : Prop where
 own : AM.Own lo A 1 out ps
 parts : PartsB A ps ls
 apart : Apart out ps
theorem PL.snoc {lo : Nat} {A : St} {out v : AV} {ps : List AV} {ls : List (List UInt8)} {l : List UInt8} (h : PL lo A out ps ls) (hv : Bs A v l) (hlo : lo ≤ A.next) (hva : ∀ f, out.into f = true → v.into f = false) (hl : ps.length < 2 ^ 40) :
  ∃ s' B, appendV (A.make [v] 1).2 false 1 24 out (.slice (some (A.next, 0, 0)) 0 1 1 0) = some (s', B) ∧ PL lo B s' (ps ++ [v]) (ls ++ [l]) ∧ But (A.make [v] 1).2 B out ∧ ∀ f, s'.into f = true → out.into f = true ∨ A.next ≤ f := by
 have ho1 : AM.Own A.next (A.make [v] 1).2 1 (.slice (some (A.next, 0, 0)) 0 1 1 0) [v] := own_built A rfl
 have x3 := ext_make A [v] 1
 have hnx : (A.make [v] 1).2.next = A.next + 1 := rfl
 generalize (A.make [v] 1).2 = A1 at *
 have hol : out.slen = ps.length := by rw [h.own.sl.length, Nat.mul_one]
 have hout1 := h.own.ext x3
 obtain ⟨s4, B3, k1, k2, k3, k4, k5⟩ := appendV_own (bytes := 24) hout1 ho1.sl (by omega) (by decide) (by simp [Sl.flat hv]) (by rw [hol, slen_slice]; omega) (by rw [hol, slen_slice]; omega)
 have hps1 := PartsB.snoc (show Bs A1 v l from Sl.ext x3 hv) (h.parts.ext x3)
 have hap1 : Apart out (ps ++ [v]) := fun f hf w hw => by
  rcases List.mem_append.1 hw with hw | hw
  ·exact h.apart f hf w hw
  ·have hw : w = v := by simpa using hw
   subst hw
   exact hva f hf
 refine ⟨s4, B3, k1, ⟨k3, PartsB.but k4 hap1 hps1, fun f hf w hw => ?_⟩, k4, fun f hf => (k5 f hf).imp id fun h => by omega⟩
 rcases k5 f hf with hf' | hf'
 ·exact hap1 f hf' w hw
 ·cases hi : w.into f with
  | false => rfl
  | true =>
   rcases List.mem_append.1 hw with hw | hw
   ·have := PartsB.mem_into h.parts w hw f hi; omega
   ·have hw : w = v := by simpa using hw
    subst hw
    have := Sl.into_lt hv hi
    omega
def kInto (K : Nat → Nat) (n : Nat) (s : AV) (c : Nat) : Nat → Nat := fun f => if n ≤ f ∧ s.into f = true then c else K f
theorem kInto_up (K : Nat → Nat) (A : St) (s : AV) (c : Nat) : KUp K (kInto K A.next s c) A := fun f hf => by unfold kInto; rw [if_neg (by omega)]
theorem kInto_fresh {K : Nat → Nat} {A B : St} {s : AV} {c sz : Nat} {cs : List AV} (h : KFresh K A) (hs : Sl B sz s cs) (hn : A.next ≤ B.next) : KFresh (kInto K A.next s c) B := fun f hf => by
 unfold kInto
 rw [if_neg (fun h => by have := Sl.into_lt hs h.2; omega)]
 exact h f (by omega)
theorem JoC.push {b : Nat} {K : Nat → Nat} {A : St} {j p m : Nat} {jd : JoD} (h : JoC b K A j p m jd) (hK : KFresh K A) {v : AV} {l : List UInt8} (hv : Bs A v l) (hro : RoS K v) (hl : l.length < 2 ^ 40) (hn : jd.recs.length < 2 ^ 40) :
  ∃ rs s' B C K', loadV A 1 false (.ptr (some (j, 0, 4))) = some rs ∧ rs.isBot = false ∧ AV.beq rs rs = true ∧ (∀ A' : St, A'.get j = A.get j → loadV A' 1 false (.ptr (some (j, 0, 4))) = some rs) ∧ appendV (A.make [v] 1).2 false 1 24 rs (.slice (some (A.next, 0, 0)) 0 1 1 0) = some (s', B) ∧ s'.isBot = false ∧ B.get j = A.get j ∧ storeV B 1 (.ptr (some (j, 0, 4))) s' = some (.bot, C) ∧ KUp K K' A ∧ KFresh K' C ∧ JoC b K' C j p m { jd with recs := jd.recs ++ [l] } ∧ Mod (JW b K) A C := by
 obtain ⟨st, rs, ps, h1, h2, h3, h4, h5, h6, h7⟩ := h.ex
 have hap : Apart rs ps := fun f hf v hv => by
  cases hi : v.into f with
  | false => rfl
  | true => have := h6 v hv f hi; have := (h7 f hf).1; omega
 have hpl : PL 0 A rs ps jd.recs := ⟨h4, h5, hap⟩
 have hpn := h5.length
 obtain ⟨s', B, k1, k2, k3, k4⟩ := hpl.snoc hv (Nat.zero_le _) (fun f hf => by
  cases hi : v.into f with
  | false => rfl
  | true => have := hro f hi; have := (h7 f hf).1; omega) (by omega)
 have x1 := ext_make A [v] 1
 have hjr : rs.into j = false := by
  cases hi : rs.into j with
  | false => rfl
  | true => exact absurd rfl (h7 j hi).2
 have hjlt := h1.lt
 have hgj : B.get j = A.get j := (k3.get j (Nat.lt_of_lt_of_le hjlt x1.next) hjr).trans (x1.get j hjlt)
 have mB : Mod (fun f => rs.into f = true) A B := (Mod.of_ext x1).trans ⟨k3.next, fun f hf hw => k3.get f hf (by simpa using hw)⟩
 have h1B : Cl B j [.ptr (some (p, 0, 0)), .int .i64 jd.seg, .int .i64 jd.cur, st, rs] := h1.mod mB (by simp [hjr])
 obtain ⟨st1, st2⟩ := h1B.st 4 (by simp) (v := s') (Sl.flat k2.own.sl) (Sl.cells k2.own.sl) (Sl.notBot k2.own.sl)
 simp at st1 st2
 generalize hCd : B.put j _ = C at *
 have mC : Mod (fun f => f = j) B C := by rw [← hCd]; exact mod_put B j _ rfl
 have mAll : Mod (JW b K) A C := (mB.mono fun f _ hf => .inr (h7 f hf).1).trans (mC.mono fun f _ hf => by subst hf; exact .inr h.kj)
 have hs'j : s'.into j = false := by
  cases hi : s'.into j with
  | false => rfl
  | true =>
   rcases k4 j hi with h | h
   ·exact absurd rfl (h7 j h).2
   ·omega
 have u := kInto_up K A s' (b + 2)
 refine ⟨rs, s', B, C, kInto K A.next s' (b + 2), h1.ld 4 rfl, h4.sl.notBot, h4.sl.beq, fun A' hg => ?_, k1, Sl.notBot k2.own.sl, hgj, st1, u, kInto_fresh hK (show Sl C 1 s' _ from Sl.mod k2.own.sl mC (fun f hf hW => by subst hW; rw [hs'j] at hf; cases hf)) (mAll.next), ?_, mAll⟩
 ·have e : loadV A' 1 false (.ptr (some (j, 0, 4))) = loadV A 1 false (.ptr (some (j, 0, 4))) := by
   unfold loadV
   dsimp only
   rw [St.cells_ext (p := (j, 0, 4)) (A := A) (B := A') hg]
  rw [e]
  exact h1.ld 4 rfl
 ·have hw : ∀ f, JW b K f → K f ≠ 0 := fun f hf => hf.ne0
  have hWm : ∀ f, rs.into f = true ∨ f = j → K f = b + 2 := by
   rintro f (hf | rfl)
   ·exact (h7 f hf).1
   ·exact h.kj
  have mP : Mod (fun f => rs.into f = true ∨ f = j) A C := (mB.mono fun f _ hf => .inl hf).trans (mC.mono fun f _ hf => .inr hf)
  have hWm' : ∀ f, rs.into f = true ∨ f = j → kInto K A.next s' (b + 2) f = b + 2 := fun f hf => by
   rw [u f (by
    rcases hf with hf | rfl
    ·exact Sl.into_lt h4.sl hf
    ·exact hjlt)]
   exact hWm f hf
  have htp : TpC b (kInto K A.next s' (b + 2)) C p m jd.t := (h.tp.up u).mod mP fun f hf => by have := hWm' f hf; omega
  refine ⟨htp, ⟨st, s', ps ++ [v], st2, Sl.mod h2 mP (fun f hf hW => by have := hWm f hW; have := h3 f hf; omega), h3.up h2 u, Own_mod k2.own mC (fun f hf hW => by subst hW; rw [hs'j] at hf; cases hf), PartsB.mod mC k2.parts (fun w hw f hf hW => ?_), ?_, fun f hf => ⟨?_, fun e => by subst e; rw [hs'j] at hf; cases hf⟩⟩, by rw [u j hjlt]; exact h.kj, ⟨h.ok.cur, h.ok.seg, h.ok.state, fun r hr => ?_⟩⟩
  ·subst hW
   have hk := h.kj
   rcases List.mem_append.1 hw with hw | hw
   ·have := h6 w hw _ hf; omega
   ·have hw : w = v := by simpa using hw
    subst hw
    have := hro _ hf
    omega
  ·intro w hw
   rcases List.mem_append.1 hw with hw | hw
   ·exact PartsB_up h5 u h6 w hw
   ·have hw : w = v := by simpa using hw
    subst hw
    exact hro.up hv u
  ·rcases k4 f hf with hf' | hf'
   ·exact hWm' f (.inl hf')
   ·unfold kInto; rw [if_pos ⟨hf', hf⟩]
  ·rcases List.mem_append.1 hr with hr | hr
   ·exact h.ok.recs r hr
   ·have hr : r = l := by simpa using hr
    subst hr
    exact hl
theorem JoC.setCur {b : Nat} {K : Nat → Nat} {A : St} {j p m : Nat} {jd : JoD} (h : JoC b K A j p m jd) {c : Int} (hc : -1 ≤ c ∧ c ≤ 1048576) :
  ∃ B, storeV A 1 (.ptr (some (j, 0, 2))) (.int .i64 c) = some (.bot, B) ∧ Mod (JW b K) A B ∧ JoC b K B j p m { jd with cur := c } := by
 obtain ⟨st, rs, ps, h1, h2, h3, h4, h5, h6, h7⟩ := h.ex
 obtain ⟨st1, st2⟩ := h1.st 2 (by simp) (v := .int .i64 c) rfl rfl rfl
 simp at st1 st2
 have mC : Mod (fun f => f = j) A (A.put j (.cells [.ptr (some (p, 0, 0)), .int .i64 jd.seg, .int .i64 c, st, rs] [⟨0, 0, 5, 1⟩] 1 false)) := mod_put A j _ rfl
 have hk := h.kj
 refine ⟨_, st1, mC.mono fun f _ hf => by subst hf; exact .inr hk, h.tp.mod mC fun f hf => by subst hf; omega, ⟨st, rs, ps, st2, Sl.mod h2 mC (fun f hf hW => by subst hW; have := h3 _ hf; omega), h3, Own_mod h4 mC (fun f hf hW => (h7 f hf).2 hW), PartsB.mod mC h5 (fun v hv f hf hW => by subst hW; have := h6 v hv _ hf; omega), h6, h7⟩, hk, ⟨hc, h.ok.seg, h.ok.state, h.ok.recs⟩⟩
theorem JW_new {b : Nat} {K K' : Nat → Nat} {A B C : St} (u : KUp K K' A) (h1 : Mod (JW b K) A B) (h2 : Mod (JW b K') B C) : Mod (JW b K) A C :=
 h1.new (h2.mono fun f _ hf => by
  by_cases hA : f < A.next
  ·left
   unfold JW at hf ⊢
   rw [u f hA] at hf
   exact hf
  ·right; omega)
theorem KUp.trans {K K' K'' : Nat → Nat} {A B : St} (h : KUp K K' A) (h2 : KUp K' K'' B) (hn : A.next ≤ B.next) : KUp K K'' A := fun f hf => (h2 f (by omega)).trans (h f hf)
section
variable {D : Disp} {G0 : Env} {X : Calls'} {A0 : St}
theorem recs_spec {b : Nat} {K : Nat → Nat} {A : St} {j p m : Nat} {jd : JoD} (h : JoC b K A j p m jd) (hn : jd.recs.length < 2 ^ 40) : Ev D G0 fnsL X 81 [.ptr (some (j, 0, 0))] A fun r B => A.Ext B ∧ ∃ ps, Sl B 1 r ps ∧ PartsB B ps jd.recs ∧ (∀ f, r.into f = true → A.next ≤ f) ∧ ∀ w ∈ ps, ∀ f, w.into f = true → A.next ≤ f := by
 refine Ev.fnK (fn := a81) rfl ⟨by simp [a81], by decide⟩ ?_
 unfold a81
 obtain ⟨st, rs, qs, h1, h2, h3, h4, h5, h6, h7⟩ := h.ex
 have l4 := h1.ld 4 (v := rs) rfl
 have hl := h4.sl.lenV1
 have hrec := h.ok.recs
 have hrsl := h4.sl
 rw [h5.length] at hl
 generalize jd.recs = ls at *
 simp [eqV, eqOf, AV.addr, l4, hl]
 refine Wp.loopK (fun d E A' => A.Ext A' ∧ Env.at E 11 = rs ∧ Env.at E 12 = .int .i64 ls.length ∧ ∃ (i : Nat) (out : AV) (ps : List AV), Env.at E 13 = .int .i64 i ∧ i + d = ls.length ∧ Env.at E 3 = out ∧ PL A.next A' out ps (ls.take i) ∧ ∀ w ∈ ps, ∀ f, w.into f = true → A.next ≤ f) ls.length ?_ ?_
 ·exact ⟨St.Ext.refl A, by simp, by simp, 0, .slice none 0 0 0 0, [], by simp, by simp, by simp, ⟨.nil _ _ _, trivial, fun f hf => by simp [AV.into] at hf⟩, fun w hw => by cases hw⟩
 rintro d E A' ⟨x, e11, e12, i, out, ps, e13, hi, e3, hpl, hnew⟩
 simp [e12, e13, lss_nat, -bin_lss]
 refine contC_of (fun hc => ?_) (fun hc => ?_)
 ·simp at hc
  obtain ⟨v, l, hv, hl', hb⟩ := (h5.ext x).get (i := i) (by rw [h5.length]; exact hc)
  obtain ⟨q, g1, g2⟩ := (Sl.ext x hrsl).at_one hv .i64
  have hll := hrec l (List.mem_of_getElem? hl')
  have ea := add_one (i := i) (by omega)
  simp [-bin_add] at ea
  simp [e11, e12, e13, e3, g1, g2, ops_callf, allKnown, hb.allKnown]
  refine (clone_spec hb hll).mono fun w B ⟨x2, ho⟩ => ?_
  have hout : out.slen = i := by
   have h1 := hpl.parts.length
   rw [List.length_take] at h1
   have h2 := hpl.own.sl.length
   omega
  have hplB : PL A.next B out ps (ls.take i) := ⟨hpl.own.ext x2, hpl.parts.ext x2, hpl.apart⟩
  have hws : Bs B w l := ho.sl
  obtain ⟨s', C, k1, k2, k3, k4⟩ := hplB.snoc hws (Nat.le_trans x.next x2.next) (fun f hf => by
   cases hiw : w.into f with
   | false => rfl
   | true => have := ho.into hiw; have := Sl.into_lt hpl.own.sl hf; omega) (by rw [hpl.parts.length, List.length_take]; omega)
  simp [e3, e13, fillA, splice, hws.notBot, hws.cells, Made.value, k1, ea, -bin_add]
  have x3 := ext_make B [w] 1
  refine ⟨d - 1, by omega, k3.ext ((x.trans x2).trans x3) (hplB.own.ext x3), e11, e12, i + 1, by omega, by omega, ps ++ [w], ?_, fun u hu f hf => ?_⟩
  ·rw [take_succ_of hl']; exact k2
  ·rcases List.mem_append.1 hu with hu | hu
   ·exact hnew u hu f hf
   ·have hu : u = w := by simpa using hu
    subst hu
    have := ho.into hf
    have := x.next
    omega
 ·simp at hc
  have hil : i = ls.length := by omega
  rw [hil, List.take_length] at hpl
  simp [e3, hpl.own.sl.known]
  exact ⟨x, ps, hpl.own.sl, hpl.parts, fun f hf => hpl.own.into hf, hnew⟩
theorem roll_spec (HX : RowsX X A0) {b : Nat} {K : Nat → Nat} {A : St} (hA : Wld K A0 A) {j p m : Nat} {jd : JoD} (h : JoC b K A j p m jd) {n : Nat} (hn : n < 2 ^ 40) :
  Ev D G0 fnsL X 258 [.ptr (some (j, 0, 0)), .int .i64 n] A fun r B => Mod (fun f => f = p ∨ f = m) A B ∧ TpC b K B p m (jd.roll n).2.2 ∧ ∃ v, r = .tuple [.int .i64 (jd.roll n).1, v] ∧ EV B v (jd.roll n).2.1 := by
 refine Ev.fnK (fn := a258) rfl ⟨by simp [a258], by decide⟩ ?_
 unfold a258
 obtain ⟨st, rs, ps, h1, _⟩ := h.ex
 have l0 := h1.ld 0 (v := .ptr (some (p, 0, 0))) rfl
 have l1 := h1.ld 1 (v := .int .i64 jd.seg) rfl
 have l2 := h1.ld 2 (v := .int .i64 jd.cur) rfl
 have hok := h.ok
 unfold JoD.roll
 by_cases hc : jd.cur < 0
 ·rw [if_pos hc]
  simp [AV.addr, l2, hc]
  exact ⟨Mod.refl A, h.tp, EV.nil _⟩
 rw [if_neg hc]
 simp [AV.addr, l2, hc]
 refine Wp.envI (fun E => Env.at E 0 = .ptr (some (j, 0, 0)) ∧ Env.at E 1 = .int .i64 n) (by simp) ?_
 rintro E ⟨e0, e1⟩
 refine Wp.draws ?_
 simp [e0, AV.addr, l0, l2, opsD_callf, allKnown, InAll, AV.beq]
 refine (len_spec h.tp).mono fun r B ⟨q1, q2⟩ => ?_
 subst q1 q2
 simp [l0, l2]
 have hlen : jd.t.len jd.cur ≤ 1048576 := (h.tp.ok.few_seg jd.cur).1
 generalize jd.t.len jd.cur = has at *
 have es : binOf .sub (.int .i64 jd.seg) (.int .i64 has) = some (.int .i64 (jd.seg - has)) := by
  rw [bin_sub, IntKind.wrap_i64]
  have := hok.seg
  congr 2
  omega
 have el : binOf .leq (.int .i64 (n : Int)) (.int .i64 (jd.seg - has)) = some (.bool (decide ((n : Int) ≤ jd.seg - has))) := by rw [bin_leq]
 have eq0 : binOf .eql (.int .i64 (has : Int)) (.int .i64 0) = some (.bool (decide (has = 0))) := by rw [bin_eql]; simp
 by_cases h0 : has = 0 ∨ (n : Int) ≤ jd.seg - has
 ·rw [if_pos h0]
  by_cases hz : has = 0
  ·simp [e0, AV.addr, l0, l1, l2, eq0, hz, -bin_eql, -bin_leq, -bin_sub]
   exact ⟨Mod.refl A, h.tp, EV.nil _⟩
  ·have hle : (n : Int) ≤ jd.seg - has := by
    rcases h0 with h | h
    ·exact absurd h hz
    ·exact h
   simp [e0, e1, AV.addr, l0, l1, l2, eq0, hz, es, el, hle, -bin_eql, -bin_leq, -bin_sub]
   exact ⟨Mod.refl A, h.tp, EV.nil _⟩
 ·rw [if_neg h0]
  have hz : ¬ has = 0 := fun h => h0 (.inl h)
  have hle : ¬ (n : Int) ≤ jd.seg - has := fun h => h0 (.inr h)
  have ea : binOf .add (.int .i64 jd.cur) (.int .i64 1) = some (.int .i64 (jd.cur + 1)) := by
   rw [bin_add, IntKind.wrap_i64]
   have := hok.cur
   congr 2
   omega
  simp [e0, e1, AV.addr, l0, l1, l2, eq0, hz, es, el, hle, -bin_eql, -bin_leq, -bin_sub]
  refine Wp.envI (fun E => Env.at E 0 = .ptr (some (j, 0, 0))) (by simp [e0]) ?_
  intro E2 f0
  refine Wp.draws ?_
  simp [f0, AV.addr, l0, l2, ea, opsD_callf, allKnown, -bin_add]
  refine (sync_spec HX hA h.tp).mono fun r B ⟨q1, q2, q3⟩ => ?_
  subst q3
  have hJ := h.tape q1 q2
  obtain ⟨st', rs', ps', h1', _⟩ := hJ.ex
  have l0' := h1'.ld 0 (v := .ptr (some (p, 0, 0))) rfl
  have l2' := h1'.ld 2 (v := .int .i64 jd.cur) rfl
  simp [l0, l2, l0', l2', opsD_callf, allKnown]
  refine on_spec.mono fun r2 C ⟨x2, h4⟩ => ?_
  have l2'' := (h1'.ext x2).ld 2 (v := .int .i64 jd.cur) rfl
  have hkn : known r2 = some r2 := by
   rcases h4 with ⟨_, rfl⟩ | ⟨_, k, ty, u, _, rfl, _⟩ <;> rfl
  simp [InAll, l0, l2, l0', l2', l2'', AV.beq, hkn]
  exact ⟨q1.trans (Mod.of_ext x2), q2.ext x2, h4⟩
end
attribute [-simp] List.length_flatten
variable {D : Disp} {G0 : Env} {X : Calls'}

theorem wrap_spec {A : St} {s : AV} {ps : List AV} {ls : List (List UInt8)} (hs : Sl A 1 s ps) (hp : PartsB A ps ls) (hl : ps.length < 2 ^ 40) (hll : ∀ l ∈ ls, l.length < 2 ^ 40) :
  Ev D G0 fnsL X 160 [s] A fun r B => (ls.flatten.length ≤ 16384 ∧ A.Ext B ∧ OwnB A.next B r (frame ls.flatten)) ∨ (16384 < ls.flatten.length ∧ A = B ∧ r = .slice none 0 0 0 0) := by
 refine Ev.fnK (fn := a160) rfl ⟨by simp [a160], by decide⟩ ?_
 unfold a160
 simp [hs.lenV1]
 refine Wp.loopK (fun d E A' => A = A' ∧ Env.at E 0 = s ∧ Env.at E 10 = s ∧ Env.at E 11 = .int .i64 ps.length ∧ ∃ i : Nat, Env.at E 12 = .int .i64 i ∧ i + d = ps.length ∧ (ls.take i).flatten.length ≤ 16384 ∧ Env.at E 3 = .int .i64 (ls.take i).flatten.length) ps.length ?_ ?_
 ·exact ⟨rfl, by simp, by simp, by simp, 0, by simp, by simp, by simp, by simp⟩
 rintro d E _ ⟨rfl, e0, e10, e11, i, e12, hi, hn, e3⟩
 simp [e12, e11, lss_nat, -bin_lss]
 refine contC_of (fun hc => ?_) (fun hc => ?_)
 ·simp at hc
  obtain ⟨v, l, hv, hl', hb⟩ := hp.get hc
  obtain ⟨p, h1, h2⟩ := hs.at_one hv .i64
  have hln := hll l (List.mem_of_getElem? hl')
  have htk := take_flatten_succ hl'
  have hnn : (ls.take (i + 1)).flatten.length = (ls.take i).flatten.length + l.length := by rw [htk, List.length_append]
  have hle : (ls.take (i + 1)).flatten.length ≤ ls.flatten.length := by
   conv => rhs; rw [← List.take_append_drop (i + 1) ls, List.flatten_append, List.length_append]
   omega
  generalize (ls.take i).flatten.length = n at *
  obtain ⟨y, hy, ey⟩ := sub_nat (a := 16384) (b := n) hn (by decide)
  obtain ⟨z, hz, ez⟩ := add_nat (a := n) (b := l.length) (by omega) (by omega)
  have ea := add_one (i := i) (by omega)
  simp [-bin_sub] at ey
  simp [e10, e12, h1, h2, hb.lenV, e3, ey, -bin_sub]
  refine contC_of (fun hc2 => ?_) (fun hc2 => ?_)
  ·simp at hc2
   simp
   omega
  ·simp at hc2
   simp [e3, hb.lenV, ez, e12, ea, -bin_add]
   exact ⟨d - 1, by omega, e0, e10, e11, i + 1, by omega, by omega, by omega, by omega⟩
 ·simp at hc
  have hil : i = ls.length := by rw [← hp.length]; omega
  rw [hil, List.take_length] at hn e3
  generalize hL : ls.flatten = L at *
  generalize hN : L.length = n at *
  obtain ⟨y, hy, ey⟩ := add_nat (a := n) (b := 3) (by omega) (by omega)
  obtain ⟨z, hz, ez⟩ := add_nat (a := y) (b := 4) (by omega) (by omega)
  obtain ⟨q, hq, eq⟩ := shr_nat (k := .i64) (j := .u64) (a := n) (s := 8) (by decide)
  simp [-bin_add] at ey ez
  simp at eq
  have hmk : makeV 1 1 [.int .u8 0] (.int .i64 0) (.int .i64 z) = some ((List.replicate z [AV.int .u8 0]).flatten, 1, .slice 0 z 0) :=
   makeV_nat (l := 0) (Nat.zero_le _) (by omega) (by omega) rfl
  simp [e0, e11, e12, e3, ey, ez, eq, hmk, conv_u8, -convV_int, -bin_add, -bin_lss, fillA, splice, Made.value]
  have hq' : q = n / 256 := hq
  have h3b : [AV.int .u8 167, byteV (UInt8.ofNat q), byteV (UInt8.ofNat n)] = bytesV [167, UInt8.ofNat (n / 256), UInt8.ofNat (n % 256)] := by rw [hq', ofNat_mod]; rfl
  rw [h3b]
  have ho : AM.Own A.next (A.make (List.replicate z (AV.int .u8 0)) 1).2 1 (.slice (some (A.next, 0, 0)) 0 0 z 0) [] := by
   simpa using own_make_exact A (cs := List.replicate z (AV.int .u8 0)) (sz := 1) (n := z) (by simp) (Nat.le_refl _) (len := 0) (Nat.zero_le _)
  have x1 := ext_make A (List.replicate z (AV.int .u8 0)) 1
  generalize (A.make (List.replicate z (AV.int .u8 0)) 1).2 = A1 at *
  have ho3 : AM.Own A1.next (A1.make (bytesV [167, UInt8.ofNat (n / 256), UInt8.ofNat (n % 256)]) 1).2 1 (.slice (some (A1.next, 0, 0)) 0 3 3 0) (bytesV [167, UInt8.ofNat (n / 256), UInt8.ofNat (n % 256)]) := own_built A1 (by simp)
  have x2 := ext_make A1 (bytesV [167, UInt8.ofNat (n / 256), UInt8.ofNat (n % 256)]) 1
  generalize (A1.make (bytesV [167, UInt8.ofNat (n / 256), UInt8.ofNat (n % 256)]) 1).2 = A2 at *
  obtain ⟨s1, A3, h1, h2, h3, h4, h5⟩ := appendV_own (bytes := 1) (ho.ext x2) ho3.sl (Nat.le_trans x1.next x2.next) (by decide) (bytesV_flat _) (by rw [slen_slice, slen_slice]; omega) (by rw [slen_slice, slen_slice]; omega)
  have x3 := h4.ext (x1.trans x2) (ho.ext x2)
  simp [h1, e0, hs.lenV1]
  refine Wp.loopK (fun d E A' => A.Ext A' ∧ Env.at E 37 = s ∧ Env.at E 38 = .int .i64 ps.length ∧ ∃ (i : Nat) (o : AV), Env.at E 39 = .int .i64 i ∧ i + d = ps.length ∧ Env.at E 6 = o ∧ AM.Own A.next A' 1 o (bytesV ([167, UInt8.ofNat (n / 256), UInt8.ofNat (n % 256)] ++ (ls.take i).flatten))) ps.length ?_ ?_
  ·exact ⟨x3, by simp, by simp, 0, s1, by simp, by simp, by simp, by simpa using h3⟩
  rintro d E B ⟨xB, f37, f38, i, o, f39, hi, f6, hoB⟩
  simp [f37, f38, f39, lss_nat, -bin_lss]
  refine contC_of (fun hc => ?_) (fun hc => ?_)
  ·simp at hc
   obtain ⟨v, l, hv, hl', hb⟩ := (hp.ext xB).get hc
   obtain ⟨p, g1, g2⟩ := (Sl.ext xB hs).at_one hv .i64
   have htk := take_flatten_succ hl'
   have hle : (ls.take (i + 1)).flatten.length ≤ n := by
    rw [← hN, ← hL]
    conv => rhs; rw [← List.take_append_drop (i + 1) ls, List.flatten_append, List.length_append]
    omega
   rw [htk, List.length_append] at hle
   have ea := add_one (i := i) (by omega)
   have hol := Bs.len hoB.sl
   simp only [List.length_append, List.length_cons, List.length_nil] at hol
   obtain ⟨s2, B2, k1, k2, k3, k4, k5⟩ := appendV_own (bytes := 1) hoB hb xB.next (by decide) (bytesV_flat _) (by rw [hol, Bs.len hb]; omega) (by rw [hol, Bs.len hb]; omega)
   simp [f37, f38, f39, f6, g1, g2, k1, ea, -bin_add]
   refine ⟨d - 1, by omega, k4.ext xB hoB, i + 1, by omega, by omega, ?_⟩
   rw [htk]
   show AM.Own A.next B2 1 s2 (bytesV (([167, UInt8.ofNat (n / 256), UInt8.ofNat (n % 256)] ++ (ls.take i).flatten) ++ l))
   rw [bytesV_append]
   exact k3
  ·simp at hc
   have hil : i = ls.length := by rw [← hp.length]; omega
   rw [hil, List.take_length, hL] at hoB
   have hhd : [167, UInt8.ofNat (n / 256), UInt8.ofNat (n % 256)] ++ L = headOf L := by rw [← hN]; rfl
   rw [hhd] at hoB
   have hlen : (headOf L).length = n + 3 := by rw [← hN]; rfl
   have hol := Bs.len hoB.sl
   rw [hlen] at hol
   simp [f6, fillA, splice, Made.value, hoB.sl.cells, hoB.sl.notBot, allKnown, ops_callf]
   have hp1 : Sl (B.make [o] 1).2 1 (.slice (some (B.next, 0, 0)) 0 1 1 0) [o] := (own_built B (cs := [o]) rfl).sl
   have xB1 := ext_make B [o] 1
   generalize (B.make [o] 1).2 = B1 at *
   refine (sum_spec (ls := [headOf L]) hp1 ⟨Sl.ext xB1 hoB.sl, trivial⟩ (by simp) (by simp [hlen]; omega)).mono fun r B' ⟨e1, e2⟩ => ?_
   rw [e1, e2]
   simp only [List.flatten_cons, List.flatten_nil, List.append_nil]
   have hlt := crcSum_lt (headOf L)
   have hfr : frame L = headOf L ++ sumOf (crcSum (headOf L)) := rfl
   generalize crcSum (headOf L) = S at *
   obtain ⟨q1, hq1, eq1⟩ := shr_nat (k := .u32) (j := .u64) (a := S) (s := 24) (by decide)
   obtain ⟨q2, hq2, eq2⟩ := shr_nat (k := .u32) (j := .u64) (a := S) (s := 16) (by decide)
   obtain ⟨q3, hq3, eq3⟩ := shr_nat (k := .u32) (j := .u64) (a := S) (s := 8) (by decide)
   simp at eq1 eq2 eq3
   simp [f6, eq1, eq2, eq3, conv_u8, -convV_int, fillA, splice, Made.value]
   have hcs2 : [byteV (UInt8.ofNat q1), byteV (UInt8.ofNat q2), byteV (UInt8.ofNat q3), byteV (UInt8.ofNat S)] = bytesV (sumOf S) := by rw [hq1, hq2, hq3]; rfl
   rw [hcs2]
   have hoB1 := hoB.ext xB1
   have ho2 : AM.Own B1.next (B1.make (bytesV (sumOf S)) 1).2 1 (.slice (some (B1.next, 0, 0)) 0 4 4 0) (bytesV (sumOf S)) := by
    exact own_built B1 (by simp [sumOf])
   have x4 := ext_make B1 (bytesV (sumOf S)) 1
   generalize (B1.make (bytesV (sumOf S)) 1).2 = B2 at *
   have xB2 := (xB.trans xB1).trans x4
   obtain ⟨s4, B3, k1, k2, k3, k4, k5⟩ := appendV_own (bytes := 1) (hoB1.ext x4) ho2.sl xB2.next (by decide) (bytesV_flat _) (by rw [hol, slen_slice]; omega) (by rw [hol, slen_slice]; omega)
   simp [k1, k3.sl.known]
   refine Or.inl ⟨hn, k4.ext xB2 (hoB1.ext x4), ?_⟩
   rw [hfr]
   show AM.Own A.next B3 1 s4 (bytesV (headOf L ++ sumOf S))
   rw [bytesV_append]
   exact k3
theorem rawOf_app : ∀ (a c : List (List UInt8)), rawOf (a ++ c) = match rawOf a with
  | none => none
  | some x => (rawOf c).map (x ++ ·)
 | [], c => by simp [rawOf]
 | r :: a, c => by
  simp only [List.cons_append, rawOf]
  split
  ·rfl
  ·rw [rawOf_app a c]
   cases rawOf a with
   | none => rfl
   | some x => cases rawOf c <;> simp
theorem rawOf_step {rs : List (List UInt8)} {i : Nat} {x r : List UInt8} (h : rawOf (rs.take i) = some x) (hr : rs[i]? = some r) :
  (16383 < r.length → rawOf rs = none) ∧ (¬ 16383 < r.length → rawOf (rs.take (i + 1)) = some (x ++ frame (0 :: r))) := by
 constructor
 ·intro hl
  have hi := (List.getElem?_eq_some_iff.1 hr)
  obtain ⟨h1, h2⟩ := hi
  have e : rs = rs.take i ++ (r :: rs.drop (i + 1)) := by
   rw [← h2, ← List.drop_eq_getElem_cons h1, List.take_append_drop]
  rw [e, rawOf_app, h]
  simp [rawOf, hl]
 ·intro hl
  rw [take_succ_of hr, rawOf_app, h]
  simp [rawOf, hl]
theorem rawOf_len : ∀ {rs : List (List UInt8)} {x : List UInt8}, rawOf rs = some x → x.length ≤ 16391 * rs.length
 | [], x, h => by cases h; simp
 | r :: rs, x, h => by
  simp only [rawOf] at h
  split at h
  ·cases h
  ·split at h
   ·rename_i y hy
    cases h
    have := rawOf_len hy
    rw [List.length_append, frame_length]
    simp only [List.length_cons]
    omega
   ·cases h
section
variable {D : Disp} {G0 : Env} {X : Calls'} {A0 : St}
theorem add_spec (HX : RowsX X A0) {b : Nat} {K : Nat → Nat} {A : St} (hA : Wld K A0 A) {j p m : Nat} {jd : JoD} (h : JoC b K A j p m jd) {s : AV} {ps : List AV} {rs : List (List UInt8)} (hs : Sl A 1 s ps) (hp : PartsB A ps rs) (hsr : RoS K s) (hpr : ∀ v ∈ ps, RoS K v) (hn : jd.recs.length + rs.length < 2 ^ 20) :
  Ev D G0 fnsL X 154 [.ptr (some (j, 0, 0)), s] A fun r B => ∃ K', KUp K K' A ∧ Wld K' A0 B ∧ Mod (JW b K) A B ∧ JoC b K' B j p m (jd.add rs).2 ∧ EV B r (jd.add rs).1 := by
 refine Ev.fnK (fn := a154) rfl ⟨by simp [a154], by decide⟩ ?_
 unfold a154
 have hlen := hs.lenV1
 rw [hp.length] at hlen
 unfold JoD.add
 by_cases hnil : rs = []
 ·rw [if_pos hnil]
  rw [hnil] at hlen
  simp at hlen
  simp [hlen]
  exact ⟨K, KUp.refl K A, hA, Mod.refl A, h, EV.nil A⟩
 rw [if_neg hnil]
 have hpos : rs.length ≠ 0 := fun h => hnil (List.length_eq_zero_iff.1 h)
 have ez : binOf .eql (.int .i64 (rs.length : Int)) (.int .i64 0) = some (.bool false) := by rw [bin_eql]; simp; exact hnil
 simp [hlen, ez, -bin_eql]
 refine Wp.loopK (fun d E A' => A.Ext A' ∧ Env.at E 0 = .ptr (some (j, 0, 0)) ∧ Env.at E 1 = s ∧ Env.at E 15 = s ∧ Env.at E 16 = .int .i64 rs.length ∧ ∃ (i : Nat) (o : AV) (x : List UInt8), Env.at E 17 = .int .i64 i ∧ i + d = rs.length ∧ Env.at E 5 = o ∧ rawOf (rs.take i) = some x ∧ OwnB A.next A' o x) rs.length ?_ ?_
 ·exact ⟨St.Ext.refl A, by simp, by simp, by simp, by simp, 0, .slice none 0 0 0 0, [], by simp, by simp, by simp, by simp [rawOf], .nil _ _ _⟩
 rintro d E A' ⟨x0, e0, e1, e15, e16, i, o, x, e17, hi, e5, hraw, ho⟩
 have hxl := rawOf_len hraw
 rw [List.length_take] at hxl
 simp [e16, e17, lss_nat, -bin_lss]
 refine contC_of (fun hc => ?_) (fun hc => ?_)
 ·simp at hc
  obtain ⟨v, l, hv, hl', hb⟩ := (hp.ext x0).get (i := i) (by rw [hp.length]; exact hc)
  obtain ⟨q, g1, g2⟩ := (Sl.ext x0 hs).at_one hv .i64
  have ea := add_one (i := i) (by omega)
  simp [-bin_add] at ea
  obtain ⟨s1, s2⟩ := rawOf_step hraw hl'
  have eg : binOf .gtr (.int .i64 (l.length : Int)) (.int .i64 16383) = some (.bool (decide (16383 < l.length))) := by rw [bin_gtr]; simp; omega
  by_cases hbig : 16383 < l.length
  ·simp only [s1 hbig]
   simp [e0, e1, e15, e16, e17, e5, g1, g2, hb.lenV, eg, hbig, ops_callf, allKnown, -bin_gtr]
   refine (new_spec (e := 7) (by decide)).mono fun r B ⟨x1, h1⟩ => ?_
   obtain ⟨ty, u, rfl⟩ := h1.isIface
   simp [hb.lenV, ops_callf, allKnown]
   refine (bound_spec h1).mono fun r B2 ⟨x2, h2⟩ => ?_
   obtain ⟨ty, u, rfl⟩ := h2.isIface
   simp [ops_callf, allKnown]
   refine (at_spec h2).mono fun r B3 ⟨x3, h3⟩ => ?_
   obtain ⟨ty, u, rfl⟩ := h3.isIface
   have xx := ((x0.trans x1).trans x2).trans x3
   simp
   exact ⟨K, KUp.refl K A, hA.ext xx, Mod.of_ext xx, h.ext xx, h3.ev (by decide)⟩
  ·have hr2 := s2 hbig
   simp [e0, e1, e15, e16, e17, e5, g1, g2, hb.lenV, eg, hbig, fillA, splice, Made.value, hb.notBot, hb.cells, -bin_gtr]
   have c1 := own_built A' (cs := [AV.int .u8 0]) (n := 1) rfl
   have x1 := ext_make A' [AV.int .u8 0] 1
   generalize hA1 : (A'.make [AV.int .u8 0] 1).2 = A1 at *
   have hnx1 : A1.next = A'.next + 1 := by rw [← hA1]; rfl
   have c2 := own_built A1 (cs := [AV.slice (some (A'.next, 0, 0)) 0 1 1 0, v]) (n := 2) rfl
   have x2 := ext_make A1 [AV.slice (some (A'.next, 0, 0)) 0 1 1 0, v] 1
   generalize (A1.make [AV.slice (some (A'.next, 0, 0)) 0 1 1 0, v] 1).2 = A2 at *
   have hx0 : [AV.int .u8 0] = bytesV [0] := rfl
   have hb0 : Bs A2 (.slice (some (A'.next, 0, 0)) 0 1 1 0) [0] := Sl.ext x2 c1.sl
   have hbv : Bs A2 v l := Sl.ext (x1.trans x2) hb
   have x02 := (x0.trans x1).trans x2
   simp [ops_callf, allKnown]
   refine (wrap_spec (ls := [[0], l]) c2.sl ⟨hb0, hbv, trivial⟩ (by simp) (by simp; omega)).mono fun w B hw => ?_
   simp only [List.flatten_cons, List.flatten_nil, List.append_nil, List.cons_append, List.nil_append, List.length_cons] at hw
   rcases hw with ⟨_, x3, hw⟩ | ⟨hbad, _⟩
   rotate_left
   ·omega
   have hws : Bs B w (frame (0 :: l)) := hw.sl
   have xB := x02.trans x3
   have hol := Bs.len ho.sl
   have hoB := ((ho.ext x1).ext x2).ext x3
   obtain ⟨o', C, k1, k2, k3, k4, k5⟩ := appendV_own (bytes := 1) hoB hws xB.next (by decide) (bytesV_flat _) (by rw [hol, Bs.len hws, frame_length]; simp; omega) (by rw [hol, Bs.len hws, frame_length]; simp; omega)
   simp [e17, k1, ea, -bin_add]
   refine ⟨d - 1, by omega, k4.ext xB hoB, e0, e1, e15, e16, i + 1, by omega, by omega, _, hr2, ?_⟩
   show AM.Own A.next C 1 o' (bytesV _)
   rw [bytesV_append]
   exact k3
 ·simp at hc
  have hil : i = rs.length := by omega
  rw [hil, List.take_length] at hraw
  simp only [hraw]
  have hA1 := hA.ext x0
  have hJ1 := h.ext x0
  have hol := (show Bs A' o x from ho.sl).lenV
  simp [e0, e5, hol, ops_callf, allKnown]
  refine (roll_spec HX hA1 hJ1 (n := x.length) (by omega)).mono fun r B ⟨m1, t1, v, hr, hv⟩ => ?_
  subst hr
  rcases hR : jd.roll x.length with ⟨s0, er, t0⟩
  rw [hR] at t1 hv
  simp only at t1 hv
  have hJ2 := hJ1.tape m1 t1
  have md1 : Mod (JW b K) A B := (Mod.of_ext x0).trans (m1.mono fun f _ hf => h.tw f hf)
  have hA2 := hA.mod md1 fun f hf => hf.ne0
  rcases hv with ⟨h0, rfl⟩ | ⟨h0, n, ty, u, hk, rfl, h2⟩
  rotate_left
  ·simp [eqV, eqOf, h0]
   exact ⟨K, KUp.refl K A, hA2, md1, hJ2, h2.ev hk⟩
  have hob : Bs B o x := (show Bs A' o x from ho.sl).mod m1 fun f hf hW => by
   have h1 := ho.into hf
   have h2 := h.tp.cl.lt
   obtain ⟨l, c, h3, _⟩ := h.tp.ex
   have h4 := h3.lt
   omega
  obtain ⟨st', rs', ps', h1', _⟩ := hJ2.ex
  have l0 := h1'.ld 0 (v := .ptr (some (p, 0, 0))) rfl
  have c1 := own_built B (cs := [o]) (n := 1) rfl
  have x1 := ext_make B [o] 1
  simp [eqV, eqOf, h0, e0, e5, AV.addr, l0, fillA, splice, Made.value, hob.notBot, hob.cells, ops_callf, allKnown]
  generalize (B.make [o] 1).2 = B1 at *
  have hA3 := hA2.ext x1
  have hJ3 := hJ2.ext x1
  refine (append_spec HX hA3 hJ3.tp (k := s0) c1.sl (Sl.ext x1 hob) (by omega)).mono fun r C ⟨m2, t2, hr⟩ => ?_
  subst hr
  rcases hS : t0.append s0 [x] with ⟨ea, ta⟩
  rw [hS] at t2
  simp only at t2
  have hJ4 := hJ3.tape m2 t2
  have md2 : Mod (JW b K) A C := (md1.trans (Mod.of_ext x1)).trans (m2.mono fun f _ hf => h.tw f hf)
  simp [ops_callf, allKnown]
  refine on_spec.mono fun r C2 ⟨x2, hv⟩ => ?_
  have md3 := md2.trans (Mod.of_ext x2)
  have hA4 := hA.mod md3 fun f hf => hf.ne0
  have hJ5 := hJ4.ext x2
  rcases hv with ⟨ha0, rfl⟩ | ⟨ha0, n, ty, u, hk, rfl, h2⟩
  rotate_left
  ·simp [eqV, eqOf, ha0]
   exact ⟨K, KUp.refl K A, hA4, md3, hJ5, h2.ev hk⟩
  have hs0 : 0 ≤ s0 ∧ s0 ≤ 1048576 := by
   by_cases ht : t0.there s0 true = 0
   ·exact (there_zero ht).1
   ·rw [append_there ht] at hS
    have : t0.there s0 true = ea := congrArg (·.1) hS
    omega
  obtain ⟨C3, w1, m4, hJ6⟩ := hJ5.setCur (c := s0) (by omega)
  have md4 := md3.trans m4
  have hsl1 := (show Sl C3 1 s ps from hs.mod md4 fun f hf hW => hW.ne0 (hsr f hf)).lenV1
  rw [hp.length] at hsl1
  simp [eqV, eqOf, ha0, e0, e1, AV.addr, w1, hlen]
  refine Wp.loopK (fun d E A' => ∃ K', KUp K K' A ∧ Wld K' A0 A' ∧ Mod (JW b K) A A' ∧ Env.at E 0 = .ptr (some (j, 0, 0)) ∧ Env.at E 64 = s ∧ Env.at E 65 = .int .i64 rs.length ∧ ∃ i : Nat, Env.at E 66 = .int .i64 i ∧ i + d = rs.length ∧ JoC b K' A' j p m { jd with t := ta, cur := s0, recs := jd.recs ++ rs.take i }) rs.length ?_ ?_
  ·exact ⟨K, KUp.refl K A, hA.mod md4 fun f hf => hf.ne0, md4, by simp [e0], by simp [e1], by simp, 0, by simp, by simp, by simpa using hJ6⟩
  rintro d2 E2 A6 ⟨K2, u2, hW2, md6, f0, f64, f65, i2, f66, hi2, hJ⟩
  simp [f65, f66, lss_nat, -bin_lss]
  refine contC_of (fun hc2 => ?_) (fun hc2 => ?_)
  ·simp at hc2
   have hs6 : Sl A6 1 s ps := hs.mod md6 fun f hf hW => hW.ne0 (hsr f hf)
   have hp6 : PartsB A6 ps rs := PartsB.mod md6 hp fun v hv f hf hW => hW.ne0 (hpr v hv f hf)
   obtain ⟨v, l, hv, hl', hb⟩ := hp6.get (i := i2) (by rw [hp.length]; exact hc2)
   obtain ⟨q, g1, g2⟩ := hs6.at_one hv .i64
   have ea2 := add_one (i := i2) (by omega)
   simp [-bin_add] at ea2
   have hll : l.length ≤ 16383 := by
    obtain ⟨r1, _⟩ := rawOf_step (rs := rs) (i := i2) (r := l) (x := (rawOf (rs.take i2)).getD []) (by
     have := rawOf_app (rs.take i2) (rs.drop i2)
     rw [List.take_append_drop, hraw] at this
     cases h : rawOf (rs.take i2) with
     | none => rw [h] at this; cases this
     | some y => rfl) hl'
    rcases Nat.lt_or_ge 16383 l.length with h | h
    ·rw [r1 h] at hraw; cases hraw
    ·exact h
   simp [f64, f66, g1, g2]
   refine Wp.envI (fun E => Env.at E 0 = .ptr (some (j, 0, 0)) ∧ Env.at E 64 = s ∧ Env.at E 65 = .int .i64 rs.length ∧ Env.at E 66 = .int .i64 i2 ∧ Env.at E 11 = v) (by simp [f0, f64, f65, f66]) ?_
   rintro E3 ⟨k0, k64, k65, k66, k11⟩
   obtain ⟨st6, rs6, ps6, h6, _⟩ := hJ.ex
   have l4 := h6.ld 4 (v := rs6) rfl
   refine Wp.draws ?_
   simp [k0, k11, AV.addr, l4, opsD_callf, allKnown, hb.allKnown]
   refine (clone_spec hb (by omega)).mono fun w C6 ⟨x6, ho6⟩ => ?_
   have hws : Bs C6 w l := ho6.sl
   have hW6 := hW2.ext x6
   have hro : RoS K2 w := fun f hf => hW2.fresh f (ho6.into hf)
   obtain ⟨rsx, s', B6, C7, K3, p1, p2, p3, p4, p5, p6, p7, p8, u3, fr3, hJ7, md7⟩ := (hJ.ext x6).push hW6.fresh hws hro (by omega) (by simp; omega)
   have hx : rsx = rs6 := by
    have := (h6.ext x6).ld 4 (v := rs6) rfl
    rw [p1] at this
    exact Option.some.inj this
   subst hx
   have l4m := p4 (C6.make [w] 1).2 ((ext_make C6 [w] 1).get j (h6.ext x6).lt)
   have hW7 := hW6.mod md7 fun f hf => hf.ne0
   have hnx := hW6.glob.next
   have hWn : Wld K3 A0 C7 := ⟨hW7.glob, fun f hf => by rw [u3 f (by omega)]; exact hW6.low f hf, fr3⟩
   have hAC : A.next ≤ C6.next := Nat.le_trans md6.next x6.next
   have mdn : Mod (JW b K) A C7 := JW_new u2 (md6.trans (Mod.of_ext x6)) md7
   simp [fillA, splice, Made.value, hws.notBot, hws.cells, k0, AV.addr, p5, p8, InAll, l4, p1, l4m, p3, k66, ea2, -bin_add]
   refine ⟨d2 - 1, by omega, K3, KUp.trans u2 u3 hAC, hWn, mdn, k64, k65, i2 + 1, by omega, by omega, ?_⟩
   rw [take_succ_of hl', ← List.append_assoc]
   exact hJ7
  ·simp at hc2
   have hil2 : i2 = rs.length := by omega
   rw [hil2, List.take_length] at hJ
   simp
   exact ⟨K2, u2, hW2, md6, hJ, EV.nil _⟩
end
section
variable {D : Disp} {G0 : Env} {X : Calls'} {A0 : St}
theorem write_spec' (HX : RowsX X A0) {b : Nat} {K : Nat → Nat} {A : St} (hA : Wld K A0 A) {j p m : Nat} {jd : JoD} (h : JoC b K A j p m jd) {s : AV} {ps : List AV} {rs : List (List UInt8)} (hs : Sl A 1 s ps) (hp : PartsB A ps rs) (hsr : RoS K s) (hpr : ∀ v ∈ ps, RoS K v) (hn : jd.recs.length + rs.length < 2 ^ 20) :
  Ev D G0 fnsL X 68 [.ptr (some (j, 0, 0)), s] A fun r B => ∃ K', KUp K K' A ∧ Wld K' A0 B ∧ Mod (JW b K) A B ∧ JoC b K' B j p m (jd.write rs).2 ∧ r = .int .i64 (jd.write rs).1 := by
 refine Ev.fnK (fn := a68) rfl ⟨by simp [a68], by decide⟩ ?_
 unfold a68
 simp [eqV, eqOf, ops_callf, allKnown, hs.allKnown]
 refine (add_spec HX hA h hs hp hsr hpr hn).mono fun r B ⟨K1, u1, w1, m1, j1, e1⟩ => ?_
 unfold JoD.write
 rcases e1 with ⟨h0, rfl⟩ | ⟨h0, n, ty, u, hk, rfl, h2⟩
 ·rw [if_neg (by simp [h0])]
  simp [eqV, eqOf, ops_callf, allKnown]
  refine (jsync_spec HX w1 j1).mono fun r C ⟨m2, j2, e2⟩ => ?_
  subst e2
  simp
  exact ⟨K1, u1, w1.mod m2 fun f hf => hf.ne0, JW_new u1 m1 m2, j2⟩
 ·rw [if_pos h0]
  simp [eqV, eqOf, ops_callf, allKnown]
  refine (code_spec HX w1.glob (h2.ev hk)).mono fun r C ⟨q1, q2⟩ => ?_
  subst q1 q2
  simp
  exact ⟨K1, u1, w1, m1, j1⟩
end
section
variable {jd : JoD} {l : List UInt8} (hl : ¬ 16383 < l.length)
include hl
end
section
variable {D : Disp} {G0 : Env} {X : Calls'} {A0 : St}
end
section
variable {D : Disp} {G0 : Env} {X : Calls'} {A0 : St}
theorem frames_spec (HX : RowsX X A0) {b : Nat} {K : Nat → Nat} {A : St} (hA : Wld K A0 A) {j p m : Nat} {jd : JoD} (h : JoC b K A j p m jd) {k : Int} (hk : 0 ≤ k ∧ k ≤ 1048576) :
  Ev D G0 fnsL X 267 [.ptr (some (j, 0, 0)), .int .i64 k] A fun r B => A.Ext B ∧ ∃ v ps, r = .tuple [v, .int .i64 (span (bodies (jd.t.seg k).b) : Nat)] ∧ Sl B 1 v ps ∧ PartsB B ps (bodies (jd.t.seg k).b) ∧ (∀ f, v.into f = true → A.next ≤ f) ∧ ∀ w ∈ ps, ∀ f, w.into f = true → A.next ≤ f := by
 refine Ev.fnK (fn := a267) rfl ⟨by simp [a267], by decide⟩ ?_
 unfold a267
 obtain ⟨st, rs, qs, h1, _⟩ := h.ex
 have l0 := h1.ld 0 (v := .ptr (some (p, 0, 0))) rfl
 have hfs := h.tp.ok.few_seg k
 simp [AV.addr, l0, ops_callf, allKnown]
 refine (read_spec HX hA h.tp (k := k)).mono fun r B ⟨x1, v, e, hr, hb⟩ => ?_
 subst hr
 have hb := hb hk
 have hbs : Bs B v (jd.t.seg k).b := hb.sl
 simp [ops_callf, allKnown, hbs.allKnown]
 refine (all_spec hbs (by omega)).mono fun r C ⟨x2, v2, ps, hr, h3, h4, h5, h6⟩ => ?_
 subst hr
 simp [h3.known]
 exact ⟨x1.trans x2, ps, h3, h4, fun f hf => Nat.le_trans x1.next (h5 f hf), fun w hw f hf => Nat.le_trans x1.next (h6 w hw f hf)⟩
theorem byteV_one (c d : UInt8) : binOf .eql (byteV c) (byteV d) = some (.bool (decide (c = d))) := by
 unfold byteV
 simp only [binOf, isShift, binInt, Option.some.injEq, AV.bool.injEq]
 by_cases h : c = d
 ·subst h; simp
 ·have : c.toNat ≠ d.toNat := fun h0 => h (UInt8.toNat_inj.1 h0)
  rw [decide_eq_false h]
  simp
  omega
theorem saved_spec {A : St} {v : AV} {ps : List AV} {ls : List (List UInt8)} (hs : Sl A 1 v ps) (hp : PartsB A ps ls) : Ev D G0 fnsL X 270 [v] A fun r B => A = B ∧ r = .bool (isSaved ls) := by
 refine Ev.fnK (fn := a270) rfl ⟨by simp [a270], by decide⟩ ?_
 unfold a270
 have hl := hs.lenV1
 match ps, ls, hp with
 | [], [], _ =>
  simp at hl
  simp [hl]
  rfl
 | q :: qs, l :: ls, hp =>
  obtain ⟨z, g1, g2⟩ := hs.at_one (j := 0) (v := q) rfl .i64
  have hq := (show Bs A q l from hp.1).lenV
  simp at hl g1
  have eg1 : binOf .gtr (.int .i64 ((qs.length : Int) + 1)) (.int .i64 0) = some (.bool true) := by rw [bin_gtr]; simp
  cases l with
  | nil =>
   simp at hq
   have eg2 : binOf .gtr (.int .i64 0) (.int .i64 0) = some (.bool false) := by rw [bin_gtr]; simp
   simp [hl, eg1, g1, g2, hq, eg2, -bin_gtr]
   rfl
  | cons c l =>
   obtain ⟨z2, g3, g4⟩ := (show Bs A q (c :: l) from hp.1).at_one (j := 0) (v := byteV c) rfl .i64
   have eg2 : binOf .gtr (.int .i64 ((l.length : Int) + 1)) (.int .i64 0) = some (.bool true) := by rw [bin_gtr]; simp
   have eb : binOf .eql (byteV c) (.int .u8 1) = some (.bool (decide (c = 1))) := byteV_one c 1
   simp at hq g3
   simp [hl, eg1, g1, g2, hq, eg2, g3, g4, eb, -bin_gtr, -bin_eql]
   simp only [isSaved]
   rw [Bool.eq_iff_iff]
   simp
end
theorem key_range {t : TpD} (h : TpOk t) {k : Int} (hk : k ∈ t.keys) : 0 ≤ k ∧ k ≤ 1048576 := by
 have hk2 : k ∈ keysA t.segs := (sortB_perm leI _).mem_iff.1 hk
 obtain ⟨y, hy, e⟩ := List.mem_map.1 hk2
 rw [← e]
 exact h.keys y hy
section
variable {D : Disp} {G0 : Env} {X : Calls'} {A0 : St}
theorem mend_spec (HX : RowsX X A0) {b : Nat} {K : Nat → Nat} {A : St} (hA : Wld K A0 A) {j p m : Nat} {jd : JoD} (h : JoC b K A j p m jd) (hcur : jd.cur = -1) :
  Ev D G0 fnsL X 164 [.ptr (some (j, 0, 0))] A fun r B => Mod (JW b K) A B ∧ JoC b K B j p m { jd with t := (mendL jd.t.keys.reverse jd.t).2.2, cur := (mendL jd.t.keys.reverse jd.t).2.1 } ∧ EV B r (mendL jd.t.keys.reverse jd.t).1 := by
 refine Ev.fnK (fn := a164) rfl ⟨by simp [a164], by decide⟩ ?_
 unfold a164
 obtain ⟨st, rs, ps, h1, _⟩ := h.ex
 have l0 := h1.ld 0 (v := .ptr (some (p, 0, 0))) rfl
 simp [AV.addr, l0, ops_callf, allKnown]
 refine (segs_spec HX hA.glob h.tp).mono fun r B ⟨x1, hs, hfr⟩ => ?_
 have hlen := hs.lenV1
 simp at hlen
 have hkf := keys_few h.tp.ok
 have hkr : ∀ k ∈ jd.t.keys, 0 ≤ k ∧ k ≤ 1048576 := fun k hk => key_range h.tp.ok hk
 have es : binOf .sub (.int .i64 (jd.t.keys.length : Int)) (.int .i64 1) = some (.int .i64 ((jd.t.keys.length : Int) - 1)) := by
  rw [bin_sub, IntKind.wrap_i64]
  congr 2
  omega
 simp [hlen, hs.known, es, -bin_sub]
 generalize hks : jd.t.keys = ks at *
 generalize hC : mendL ks.reverse jd.t = CC at *
 have hplt := h.tp.cl.lt
 obtain ⟨lm, cm, hmm, _⟩ := h.tp.ex
 have hmlt := hmm.lt
 refine Wp.loopK (fun d E A' => Mod (JW b K) A A' ∧ Env.at E 0 = .ptr (some (j, 0, 0)) ∧ Env.at E 3 = r ∧ Sl A' 1 r (ks.map (AV.int .i64)) ∧ ∃ (t' : TpD), Env.at E 4 = .int .i64 ((d : Int) - 1) ∧ d ≤ ks.length ∧ JoC b K A' j p m { jd with t := t' } ∧ mendL (ks.take d).reverse t' = CC) ks.length ?_ ?_
 ·exact ⟨Mod.of_ext x1, by simp, by simp, hs, jd.t, by simp, by simp, h.ext x1, by simpa using hC⟩
 rintro d E A' ⟨md, e0, e3, hs', t', e4, hd, hJ, hcl⟩
 have eg : binOf .geq (.int .i64 ((d : Int) - 1)) (.int .i64 0) = some (.bool (decide (0 < d))) := by
  rw [bin_geq]
  congr 2
  rw [decide_eq_decide]
  omega
 simp [e4, eg, -bin_geq]
 refine contC_of (fun hc => ?_) (fun hc => ?_)
 ·simp at hc
  obtain ⟨i, rfl⟩ : ∃ i, d = i + 1 := ⟨d - 1, by omega⟩
  have ei : (((i + 1 : Nat) : Int) - 1) = (i : Int) := by omega
  rw [ei] at e4
  have hk : ks[i]? = some ks[i] := List.getElem?_eq_getElem (by omega)
  have hkr' := hkr ks[i] (List.getElem_mem (by omega))
  rw [take_succ_of hk, List.reverse_append, List.reverse_cons, List.reverse_nil, List.nil_append, List.cons_append, List.nil_append] at hcl
  simp only [mendL] at hcl
  obtain ⟨q, g1, g2⟩ := hs'.at_one (j := i) (v := .int .i64 ks[i]) (by rw [List.getElem?_map, hk]; rfl) .i64
  generalize ks[i] = k at *
  have hA' := hA.mod md fun f hf => hf.ne0
  obtain ⟨st', rs', ps', h1', _⟩ := hJ.ex
  have hfs := hJ.tp.ok.few_seg k
  simp only at hfs
  simp [e0, e3, e4, ei, g1, g2, ops_callf, allKnown]
  refine (frames_spec HX hA' hJ (k := k) hkr').mono fun r1 C ⟨x2, v, qs, hr, hv, hqs, hvf, hqf⟩ => ?_
  subst hr
  simp only at hqs
  have hvl := hv.lenV1
  rw [hqs.length] at hvl
  have hJ2 := hJ.ext x2
  have hA2 := hA'.ext x2
  have mdC := md.trans (Mod.of_ext x2)
  have hs2 := Sl.ext x2 hs'
  obtain ⟨q', g1', g2'⟩ := hs2.at_one (j := i) (v := .int .i64 k) (by rw [List.getElem?_map, hk]; rfl) .i64
  have hqq : q' = q := by rw [g1] at g1'; cases g1'; rfl
  subst hqq
  have hJ2c : Cl C j [.ptr (some (p, 0, 0)), .int .i64 jd.seg, .int .i64 jd.cur, st', rs'] := h1'.ext x2
  have l0c := hJ2c.ld 0 (v := .ptr (some (p, 0, 0))) rfl
  have egl : binOf .gtr (.int .i64 ((bodies (t'.seg k).b).length : Int)) (.int .i64 0) = some (.bool (decide (bodies (t'.seg k).b ≠ []))) := by
   rw [bin_gtr]
   congr 2
   rw [decide_eq_decide]
   cases bodies (t'.seg k).b <;> simp
  simp [hvl, hv.known, egl, -bin_gtr]
  by_cases hb : bodies (t'.seg k).b ≠ []
  ·rw [if_pos hb] at hcl
   obtain ⟨C1, w1, m1, hJ3⟩ := hJ2.setCur (c := k) (by omega)
   have hJ3 : JoC b K C1 j p m { jd with t := t', cur := k } := hJ3
   have mdC1 := mdC.trans m1
   have hA3 := hA.mod mdC1 fun f hf => hf.ne0
   have hs3 : Sl C1 1 r (ks.map (AV.int .i64)) := hs2.mod m1 fun f hf hW => hW.ne0 (hA.fresh f (hfr f hf))
   obtain ⟨q3, g3, g4⟩ := hs3.at_one (j := i) (v := .int .i64 k) (by rw [List.getElem?_map, hk]; rfl) .i64
   have hqq : q3 = q' := by rw [g1] at g3; cases g3; rfl
   subst hqq
   obtain ⟨st3, rs3, ps3, h3, _⟩ := hJ3.ex
   have l03 := h3.ld 0 (v := .ptr (some (p, 0, 0))) rfl
   generalize hsp : span (bodies (t'.seg k).b) = n at *
   have hspos : 0 < n := by
    cases hbb : bodies (t'.seg k).b with
    | nil => exact absurd hbb hb
    | cons y ys => rw [hbb] at hsp; simp only [span] at hsp; omega
   have hlen' : t'.len k = (t'.seg k).b.length := rfl
   simp [hb, e0, e3, e4, ei, g1, g2', AV.addr, l0c, w1]
   refine Wp.envI (fun E => Env.at E 0 = .ptr (some (j, 0, 0)) ∧ Env.at E 3 = r ∧ Env.at E 4 = .int .i64 i ∧ Env.at E 6 = .int .i64 n) (by simp [e0, e3, e4]) ?_
   rintro E2 ⟨f0, f3, f4, f6⟩
   refine Wp.draws ?_
   simp [f0, f3, f4, f6, g1, g4, AV.addr, l03, opsD_callf, allKnown]
   refine (len_spec hJ3.tp).mono fun r2 C2 ⟨q1, q2⟩ => ?_
   subst q1 q2
   simp [lss_nat, InAll, l03, g4, AV.beq, -bin_lss]
   refine contC_of (fun hc2 => ?_) (fun hc2 => ?_)
   ·simp at hc2
    rw [if_pos (by rw [← hlen']; exact hc2)] at hcl
    simp only [Go.AM.wp_seq]
    refine Wp.envI (fun E => Env.at E 0 = .ptr (some (j, 0, 0)) ∧ Env.at E 3 = r ∧ Env.at E 4 = .int .i64 i ∧ Env.at E 6 = .int .i64 n) (by simp [f0, f3, f4, f6]) ?_
    rintro E3 ⟨f0, f3, f4, f6⟩
    refine Wp.draws ?_
    simp [f0, f3, f4, f6, g1, g4, AV.addr, l03, opsD_callf, allKnown]
    refine (trim_spec HX hA3 hJ3.tp (k := k) (n := n) hspos (by rw [hlen'] at hc2; simp only; omega)).mono fun r3 C3 ⟨m5, t5, hr⟩ => ?_
    subst hr
    have hJ5 := hJ3.tape m5 t5
    have md5 := mdC1.trans (m5.mono fun f _ hf => h.tw f hf)
    have hs5 : Sl C3 1 r (ks.map (AV.int .i64)) := hs3.mod m5 fun f hf hW => (h.tw f hW).ne0 (hA.fresh f (hfr f hf))
    obtain ⟨q5, g5, g6⟩ := hs5.at_one (j := i) (v := .int .i64 k) (by rw [List.getElem?_map, hk]; rfl) .i64
    have hqq : q5 = q3 := by rw [g1] at g5; cases g5; rfl
    subst hqq
    obtain ⟨st5, rs5, ps5, h5, _⟩ := hJ5.ex
    have l05 := h5.ld 0 (v := .ptr (some (p, 0, 0))) rfl
    simp [opsD_callf, allKnown]
    refine on_spec.mono fun r4 C4 ⟨x6, hv4⟩ => ?_
    have hkn : known r4 = some r4 := by
     rcases hv4 with ⟨_, rfl⟩ | ⟨_, k, ty, u, _, rfl, _⟩ <;> rfl
    have l06 := (h5.ext x6).ld 0 (v := .ptr (some (p, 0, 0))) rfl
    simp [InAll, l03, l05, l06, g4, g6, AV.beq, hkn]
    rw [← hcl]
    exact ⟨md5.trans (Mod.of_ext x6), hJ5.ext x6, hv4⟩
   ·simp at hc2
    rw [if_neg (by rw [← hlen']; omega)] at hcl
    simp
    rw [← hcl]
    exact ⟨mdC1, hJ3, EV.nil _⟩
  ·rw [if_neg hb] at hcl
   have hbe : bodies (t'.seg k).b = [] := by simpa using hb
   simp [hbe]
   refine Wp.envI (fun E => Env.at E 0 = .ptr (some (j, 0, 0)) ∧ Env.at E 3 = r ∧ Env.at E 4 = .int .i64 i) (by simp [e0, e3, e4]) ?_
   rintro E2 ⟨f0, f3, f4⟩
   refine Wp.draws ?_
   simp [f0, f3, f4, g1, g2', AV.addr, l0c, opsD_callf, allKnown]
   refine (drop_spec HX hA2 hJ2.tp (k := k)).mono fun r3 C3 ⟨m5, t5, hr⟩ => ?_
   subst hr
   have hJ5 := hJ2.tape m5 t5
   have md5 := mdC.trans (m5.mono fun f _ hf => h.tw f hf)
   have hs5 : Sl C3 1 r (ks.map (AV.int .i64)) := hs2.mod m5 fun f hf hW => (h.tw f hW).ne0 (hA.fresh f (hfr f hf))
   obtain ⟨q5, g5, g6⟩ := hs5.at_one (j := i) (v := .int .i64 k) (by rw [List.getElem?_map, hk]; rfl) .i64
   have hqq : q5 = q' := by rw [g1] at g5; cases g5; rfl
   subst hqq
   obtain ⟨st5, rs5, ps5, h5, _⟩ := hJ5.ex
   have l05 := h5.ld 0 (v := .ptr (some (p, 0, 0))) rfl
   simp [opsD_callf, allKnown]
   refine on_spec.mono fun r4 C4 ⟨x6, hv4⟩ => ?_
   have hkn : known r4 = some r4 := by
    rcases hv4 with ⟨_, rfl⟩ | ⟨_, k, ty, u, _, rfl, _⟩ <;> rfl
   have l06 := (h5.ext x6).ld 0 (v := .ptr (some (p, 0, 0))) rfl
   have hJ6 := hJ5.ext x6
   have md6 := md5.trans (Mod.of_ext x6)
   rcases hv4 with ⟨h0, rfl⟩ | ⟨h0, n, ty, u, hk4, rfl, h2⟩
   ·rw [if_neg (by simp [h0])] at hcl
    have es' : binOf .sub (.int .i64 (i : Int)) (.int .i64 1) = some (.int .i64 ((i : Int) - 1)) := by
     rw [bin_sub, IntKind.wrap_i64]
     congr 2
     omega
    simp [InAll, l0c, l05, l06, g2', g6, AV.beq, eqV, eqOf, f4, es', -bin_sub]
    exact ⟨i, by omega, md6, f0, f3, Sl.ext x6 hs5, by omega, by omega, _, hJ6, hcl⟩
   ·rw [if_pos h0] at hcl
    simp [InAll, l0c, l05, l06, g2', g6, AV.beq, eqV, eqOf, f4]
    rw [← hcl]
    refine ⟨md6, ?_, h2.ev hk4⟩
    have e : ({ jd with t := (t'.drop k).2 } : JoD) = { jd with t := (t'.drop k).2, cur := -1 } := by rw [← hcur]
    rw [← e]
    exact hJ6
 ·simp at hc
  subst hc
  simp only [List.take_zero, List.reverse_nil, mendL] at hcl
  rw [← hcl]
  simp
  have e : ({ jd with t := t' } : JoD) = { jd with t := t', cur := -1 } := by rw [← hcur]
  rw [← e]
  exact ⟨md, hJ, EV.nil _⟩
end
end Go.Proofs.YtlaoookdegmnnaaGreatDoor
namespace Go.AM

abbrev Bodies := List (List UInt8)
theorem plainOf_append : ∀ (a b : Bodies), plainOf (a ++ b) = plainOf a ++ plainOf b
 | [], _ => rfl
 | [] :: a, b => by simp only [List.cons_append, plainOf, plainOf_append a b]
 | (c :: r) :: a, b => by
  simp only [List.cons_append, plainOf, plainOf_append a b]
  split <;> rfl
theorem change_spec (t : TpD) (k : Int) (s : SegD) : (∃ f, t.change k s = (0, { t with segs := putA k s t.segs, fuse := f })) ∨ t.change k s = (8, { t with down := true }) := by
 unfold TpD.change TpD.spend
 by_cases h0 : t.fuse = 0
 ·rw [if_pos h0]; exact .inr rfl
 ·rw [if_neg h0]
  by_cases h1 : 0 < t.fuse
  ·rw [if_pos h1]; exact .inl ⟨t.fuse - 1, rfl⟩
  ·rw [if_neg h1]; exact .inl ⟨t.fuse, rfl⟩
theorem rawOf_one {r : List UInt8} (h : r.length ≤ 16383) : rawOf [r] = some (frame (0 :: r)) := by
 simp only [rawOf]
 rw [if_neg (by omega)]
 simp
end Go.AM
namespace Go.Proofs.YtlaoookdegmnnaaGreatDoor
open Go.AM
theorem allN_len : ∀ (n : Nat) (l : List UInt8), (allN n l).length ≤ n
 | 0, l => by simp [allN]
 | n + 1, l => by
  unfold allN
  split
  ·simp only [List.length_cons]
   have := allN_len n
   exact Nat.succ_le_succ (this _)
  ·simp
theorem bodies_len (l : List UInt8) : (bodies l).length ≤ l.length := allN_len _ _
theorem allN_mem : ∀ (n : Nat) {l w : List UInt8}, w ∈ allN n l → w.length ≤ 16384
 | 0, l, w, h => by simp [allN] at h
 | n + 1, l, w, h => by
  unfold allN at h
  split at h
  ·rename_i m hm
   rcases List.mem_cons.1 h with rfl | h
   ·exact (peel_len hm).2
   ·exact allN_mem n h
  ·cases h
theorem plain_len : ∀ l : List (List UInt8), (plainOf l).length ≤ l.length
 | [] => Nat.le_refl _
 | [] :: l => by have := plain_len l; simp [plainOf]; omega
 | (c :: r) :: l => by
  have := plain_len l
  simp only [plainOf]
  split
  ·simp; exact this
  ·simp; omega
theorem JoC.setState {b : Nat} {K : Nat → Nat} {A : St} {j p m : Nat} {jd : JoD} (h : JoC b K A j p m jd) {st : AV} {l : List UInt8} (hst : Bs A st l) (hro : RoS K st) (hl : l.length < 2 ^ 40) :
  ∃ B, storeV A 1 (.ptr (some (j, 0, 3))) st = some (.bot, B) ∧ Mod (JW b K) A B ∧ JoC b K B j p m { jd with state := l } := by
 obtain ⟨s0, rs, ps, h1, h2, h3, h4, h5, h6, h7⟩ := h.ex
 obtain ⟨b1, b2⟩ := h1.st 3 (by simp) (v := st) (Sl.flat hst) (Sl.cells hst) (Sl.notBot hst)
 simp at b1 b2
 have hk := h.kj
 have mC : Mod (fun f => f = j) A (A.put j (.cells [.ptr (some (p, 0, 0)), .int .i64 jd.seg, .int .i64 jd.cur, st, rs] [⟨0, 0, 5, 1⟩] 1 false)) := mod_put A j _ rfl
 exact ⟨_, b1, mC.mono fun f _ hf => by subst hf; exact .inr hk, h.tp.mod mC fun f hf => by subst hf; omega, ⟨st, rs, ps, b2, Sl.mod hst mC (fun f hf hW => by subst hW; have := hro _ hf; omega), hro, Own_mod h4 mC (fun f hf hW => (h7 f hf).2 hW), PartsB.mod mC h5 (fun v hv f hf hW => by subst hW; have := h6 v hv _ hf; omega), h6, h7⟩, hk, ⟨h.ok.cur, h.ok.seg, hl, h.ok.recs⟩⟩
section
variable {D : Disp} {G0 : Env} {X : Calls'} {A0 : St}
theorem load_spec (HX : RowsX X A0) {b : Nat} {K : Nat → Nat} {A : St} (hA : Wld K A0 A) {j p m : Nat} {jd : JoD} (h : JoC b K A j p m jd) (hn : jd.recs.length < 2 ^ 30) :
  Ev D G0 fnsL X 165 [.ptr (some (j, 0, 0))] A fun r B => ∃ K', KUp K K' A ∧ Wld K' A0 B ∧ Mod (JW b K) A B ∧ JoC b K' B j p m (loadL (firstL jd.t 0 jd.t.keys 0) 0 jd.t.keys jd).2 ∧ EV B r (loadL (firstL jd.t 0 jd.t.keys 0) 0 jd.t.keys jd).1 := by
 refine Ev.fnK (fn := a165) rfl ⟨by simp [a165], by decide⟩ ?_
 unfold a165
 obtain ⟨st, rs, ps, h1, _⟩ := h.ex
 have l0 := h1.ld 0 (v := .ptr (some (p, 0, 0))) rfl
 simp [AV.addr, l0, ops_callf, allKnown]
 refine (segs_spec HX hA.glob h.tp).mono fun r B ⟨x1, hs, hfr⟩ => ?_
 have hlen := hs.lenV1
 simp at hlen
 have hkf := keys_few h.tp.ok
 have hkr : ∀ k ∈ jd.t.keys, 0 ≤ k ∧ k ≤ 1048576 := fun k hk => key_range h.tp.ok hk
 have hrr : RoS K r := fun f hf => hA.fresh f (hfr f hf)
 simp [hlen, hs.known]
 generalize hks : jd.t.keys = ks at *
 generalize hF : firstL jd.t 0 ks 0 = F at *
 generalize hC : loadL F 0 ks jd = CC at *
 refine Wp.loopK (fun d E A' => A.Ext A' ∧ Env.at E 0 = .ptr (some (j, 0, 0)) ∧ Env.at E 3 = r ∧ Env.at E 21 = r ∧ Env.at E 22 = .int .i64 ks.length ∧ Sl A' 1 r (ks.map (AV.int .i64)) ∧ ∃ (i f : Nat), Env.at E 23 = .int .i64 i ∧ i + d = ks.length ∧ Env.at E 4 = .int .i64 f ∧ firstL jd.t i (ks.drop i) f = F) ks.length ?_ ?_
 ·exact ⟨x1, by simp, by simp, by simp, by simp, hs, 0, 0, by simp, by simp, by simp, by simpa using hF⟩
 rintro d E A' ⟨x, e0, e3, e21, e22, hs', i, f, e23, hi, e4, hfl⟩
 simp [e22, e23, lss_nat, -bin_lss]
 refine contC_of (fun hc => ?_) (fun hc => ?_)
 ·simp at hc
  have hk : ks[i]? = some ks[i] := List.getElem?_eq_getElem hc
  have hkr' := hkr ks[i] (List.getElem_mem hc)
  have hdr : ks.drop i = ks[i] :: ks.drop (i + 1) := List.drop_eq_getElem_cons hc
  rw [hdr] at hfl
  simp only [firstL] at hfl
  obtain ⟨q, g1, g2⟩ := hs'.at_one (j := i) (v := .int .i64 ks[i]) (by rw [List.getElem?_map, hk]; rfl) .i64
  generalize ks[i] = k at *
  have hA' := hA.ext x
  have hJ := h.ext x
  have ea := add_one (i := i) (by omega)
  simp [-bin_add] at ea
  simp [e0, e21, e22, e23, g1, g2, ops_callf, allKnown]
  refine (frames_spec HX hA' hJ (k := k) hkr').mono fun r1 C ⟨x2, v, qs, hr, hv, hqs, _, _⟩ => ?_
  subst hr
  simp [hv.known, ops_callf, allKnown, hv.allKnown]
  refine (saved_spec hv hqs).mono fun r2 C2 ⟨q1, q2⟩ => ?_
  subst q1 q2
  simp
  have hsC := Sl.ext x2 hs'
  have xC := x.trans x2
  refine contC_of (fun hc2 => ?_) (fun hc2 => ?_)
  ·rw [if_pos hc2] at hfl
   simp [e0, e3, e21, e22, e23, ea, -bin_add]
   exact ⟨d - 1, by omega, xC, hsC, i + 1, by omega, by omega, i, rfl, hfl⟩
  ·rw [if_neg (by simp [hc2])] at hfl
   simp [e0, e3, e21, e22, e23, ea, -bin_add]
   exact ⟨d - 1, by omega, xC, hsC, i + 1, by omega, by omega, f, e4, hfl⟩
 ·simp at hc
  have hil : i = ks.length := by omega
  rw [hil, List.drop_length] at hfl
  simp only [firstL] at hfl
  subst hfl
  have hlen2 := hs'.lenV1
  simp at hlen2
  simp [e3, hlen2, hs'.known]
  refine Wp.loopK (fun d E A2 => ∃ K', KUp K K' A ∧ Wld K' A0 A2 ∧ Mod (JW b K) A A2 ∧ Sl A2 1 r (ks.map (AV.int .i64)) ∧ RoS K' r ∧ Env.at E 0 = .ptr (some (j, 0, 0)) ∧ Env.at E 4 = .int .i64 f ∧ Env.at E 38 = r ∧ Env.at E 39 = .int .i64 ks.length ∧ ∃ (i : Nat) (j' : JoD), Env.at E 40 = .int .i64 i ∧ i + d = ks.length ∧ JoC b K' A2 j p m j' ∧ loadL f i (ks.drop i) j' = CC ∧ j'.recs.length ≤ jd.recs.length + i * 1048576) ks.length ?_ ?_
  ·exact ⟨K, KUp.refl K A, hA.ext x, Mod.of_ext x, hs', hrr, by simp [e0], by simp [e4], by simp, by simp, 0, jd, by simp, by simp, h.ext x, by simpa using hC, by omega⟩
  rintro d2 E2 A2 ⟨K2, u2, hW2, md2, hs2, hr2, f0, f4, f38, f39, i2, j2, f40, hi2, hJ2, hL2, hn2⟩
  simp [f39, f40, lss_nat, -bin_lss]
  refine contC_of (fun hc => ?_) (fun hc => ?_)
  ·simp at hc
   have hk : ks[i2]? = some ks[i2] := List.getElem?_eq_getElem hc
   have hkr' := hkr ks[i2] (List.getElem_mem hc)
   have hdr : ks.drop i2 = ks[i2] :: ks.drop (i2 + 1) := List.drop_eq_getElem_cons hc
   rw [hdr] at hL2
   simp only [loadL] at hL2
   obtain ⟨q, g1, g2⟩ := hs2.at_one (j := i2) (v := .int .i64 ks[i2]) (by rw [List.getElem?_map, hk]; rfl) .i64
   generalize ks[i2] = k at *
   obtain ⟨st', rs', ps', h1', _⟩ := hJ2.ex
   have l0' := h1'.ld 0 (v := .ptr (some (p, 0, 0))) rfl
   have ea := add_one (i := i2) (by omega)
   simp [-bin_add] at ea
   have el := lss_nat .i64 i2 f
   by_cases hlt : i2 < f
   ·rw [if_pos hlt] at hL2
    simp [f0, f4, f38, f40, g1, g2, el, hlt, AV.addr, l0', ops_callf, allKnown, -bin_lss]
    refine (drop_spec HX hW2 hJ2.tp (k := k)).mono fun r3 C3 ⟨m5, t5, hr⟩ => ?_
    subst hr
    have hJ5 := hJ2.tape m5 t5
    have m5' : Mod (JW b K2) A2 C3 := m5.mono fun f _ hf => hJ2.tw f hf
    have md5 := JW_new u2 md2 m5'
    simp [ops_callf, allKnown]
    refine on_spec.mono fun r4 C4 ⟨x6, hv4⟩ => ?_
    have hW6 := (hW2.mod m5' fun f hf => hf.ne0).ext x6
    have hs6 := Sl.ext x6 (hs2.mod m5' fun f hf hW => hW.ne0 (hr2 f hf))
    rcases hv4 with ⟨h0, rfl⟩ | ⟨h0, n, ty, u, hk4, rfl, h2⟩
    ·rw [if_neg (by simp [h0])] at hL2
     simp [eqV, eqOf, f0, f4, f38, f39, f40, ea, -bin_add]
     exact ⟨d2 - 1, by omega, K2, u2, hW6, md5.trans (Mod.of_ext x6), hs6, hr2, i2 + 1, by omega, by omega, _, hJ5.ext x6, hL2, Nat.le_trans hn2 (Nat.add_le_add_left (Nat.mul_le_mul_right _ (Nat.le_succ _)) _)⟩
    ·rw [if_pos h0] at hL2
     simp [eqV, eqOf]
     rw [← hL2]
     exact ⟨K2, u2, hW6, md5.trans (Mod.of_ext x6), hJ5.ext x6, h2.ev hk4⟩
   ·rw [if_neg hlt] at hL2
    simp [f0, f4, f38, f40, g1, g2, el, hlt, ops_callf, allKnown, -bin_lss]
    refine (frames_spec HX hW2 hJ2 (k := k) hkr').mono fun r3 C ⟨x2, v, qs, hr, hv, hqs, hvf, hqf⟩ => ?_
    subst hr
    have eq := eql_nat .i64 i2 f
    have hW3 := hW2.ext x2
    have hJ3 := hJ2.ext x2
    have hs3 := Sl.ext x2 hs2
    have md3 := md2.trans (Mod.of_ext x2)
    have hrv : RoS K2 v := fun f hf => hW2.fresh f (hvf f hf)
    have hrq : ∀ w ∈ qs, RoS K2 w := fun w hw f hf => hW2.fresh f (hqf w hw f hf)
    generalize hls : bodies (j2.t.seg k).b = ls at *
    have hlsn : ls.length ≤ 1048576 := by
     rw [← hls]
     exact Nat.le_trans (bodies_len _) (hJ2.tp.ok.few_seg k).1
    have hlsl : ∀ w ∈ ls, w.length ≤ 16384 := fun w hw => by
     rw [← hls] at hw
     exact allN_mem _ hw
    simp [hv.known, -Go.AM.wp_seq]
    refine wp_cut1 (fun E A3 => Mod (JW b K2) C A3 ∧ Env.at E 0 = .ptr (some (j, 0, 0)) ∧ Env.at E 4 = .int .i64 f ∧ Env.at E 12 = v ∧ Env.at E 38 = r ∧ Env.at E 39 = .int .i64 ks.length ∧ Env.at E 40 = .int .i64 i2 ∧ JoC b K2 A3 j p m { j2 with state := if i2 = f ∧ isSaved ls = true then tailH ls else j2.state }) ?_ ?_
    ·have eq := eql_nat .i64 i2 f
     by_cases hif : i2 = f
     ·subst hif
      simp [hv.known, f0, f4, eq, ops_callf, allKnown, hv.allKnown, -bin_eql]
      refine (saved_spec hv hqs).mono fun r5 C5 ⟨z1, z2⟩ => ?_
      subst z1 z2
      simp
      refine contC_of (fun hc5 => ?_) (fun hc5 => ?_)
      ·match ls, qs, hqs, hv, hc5, hrq, hlsl, hqf with
       | (c :: l0) :: ls', w :: qs', hqs, hv, hc5, hrq, hlsl, hqf =>
        obtain ⟨q6, g6, g7⟩ := hv.at_one (j := 0) (v := w) rfl .i64
        have hw0 : Bs C w (c :: l0) := hqs.1
        obtain ⟨s6, d1, d2, d3⟩ := hw0.cutFrom (lo := 1) (by rw [Bs.len hw0]; simp) (k := .i64)
        rw [Nat.mul_one, bytesV_drop, List.drop_one, List.tail_cons] at d3
        have hro6 : RoS K2 s6 := fun g hg => hrq w List.mem_cons_self g (cut_into d1 hg)
        have hl0 := hlsl (c :: l0) List.mem_cons_self
        simp only [List.length_cons] at hl0
        obtain ⟨C7, w7, m7, hJ7⟩ := hJ3.setState d3 hro6 (by omega)
        simp at g6 d1
        simp [hc5, f0, f4, f38, f39, f40, g6, g7, d1, AV.addr, w7]
        exact ⟨m7, hJ7⟩
       | [], _, _, _, hc5, _, _, _ => cases hc5
       | [] :: _, _, _, _, hc5, _, _, _ => cases hc5
      ·simp [hc5, f0, f4, f38, f39, f40]
       exact ⟨Mod.refl C, hJ3⟩
     ·simp [hv.known, f0, f4, f38, f39, f40, eq, hif, -bin_eql]
      exact ⟨Mod.refl C, hJ3⟩
    ·rintro E3 A3 ⟨m3, k0, k4, k12, k38, k39, k40, hJ4⟩
     have hv3 : Sl A3 1 v qs := hv.mod m3 fun g hg hW => hW.ne0 (hrv g hg)
     have hlv := hv3.lenV1
     rw [hqs.length] at hlv
     have md4 : Mod (JW b K) A A3 := JW_new u2 md3 m3
     have hW4 := hW3.mod m3 fun g hg => hg.ne0
     have hp3 := PartsB.mod m3 hqs fun w hw g hg hW => hW.ne0 (hrq w hw g hg)
     have hs4 : Sl A3 1 r (ks.map (AV.int .i64)) := hs3.mod m3 fun g hg hW => hW.ne0 (hr2 g hg)
     simp [k12, hlv]
     refine Wp.loopK (fun d E A4 => ∃ K4, KUp K K4 A ∧ Wld K4 A0 A4 ∧ Mod (JW b K) A A4 ∧ Sl A4 1 r (ks.map (AV.int .i64)) ∧ RoS K4 r ∧ Sl A4 1 v qs ∧ RoS K4 v ∧ PartsB A4 qs ls ∧ (∀ w ∈ qs, RoS K4 w) ∧ Env.at E 0 = .ptr (some (j, 0, 0)) ∧ Env.at E 4 = .int .i64 f ∧ Env.at E 38 = r ∧ Env.at E 39 = .int .i64 ks.length ∧ Env.at E 40 = .int .i64 i2 ∧ Env.at E 79 = v ∧ Env.at E 80 = .int .i64 ls.length ∧ ∃ y : Nat, Env.at E 81 = .int .i64 y ∧ y + d = ls.length ∧ JoC b K4 A4 j p m { j2 with state := if i2 = f ∧ isSaved ls = true then tailH ls else j2.state, recs := j2.recs ++ plainOf (ls.take y) }) ls.length ?_ ?_
     ·exact ⟨K2, u2, hW4, md4, hs4, hr2, hv3, hrv, hp3, hrq, by simp [k0], by simp [k4], by simp [k38], by simp [k39], by simp [k40], by simp, by simp, 0, by simp, by simp, by simpa [plainOf] using hJ4⟩
     rintro d5 E5 A5 ⟨K5, u5, hW5, md5, hs5, hr5, hv5, hrv5, hp5, hrq5, w0, w4, w38, w39, w40, w79, w80, y, w81, hy, hJ5⟩
     have hn5 : (plainOf (ls.take y)).length ≤ 1048576 := Nat.le_trans (plain_len _) (by rw [List.length_take]; omega)
     simp [w80, w81, lss_nat, -bin_lss]
     refine contC_of (fun hc5 => ?_) (fun hc5 => ?_)
     ·simp at hc5
      obtain ⟨w, l, hw, hl', hb⟩ := hp5.get (i := y) (by rw [hp5.length]; exact hc5)
      obtain ⟨q5, g5, g6⟩ := hv5.at_one hw .i64
      have ea5 := add_one (i := y) (by omega)
      simp [-bin_add] at ea5
      have hll := hlsl l (List.mem_of_getElem? hl')
      have htk := take_succ_of hl'
      have hrw := hrq5 w (List.mem_of_getElem? hw)
      have hbl := hb.lenV
      cases l with
      | nil =>
       have hpl : plainOf (ls.take (y + 1)) = plainOf (ls.take y) := by rw [htk, plainOf_append]; simp [plainOf]
       have eg0 : binOf .gtr (.int .i64 0) (.int .i64 0) = some (.bool false) := by rw [bin_gtr]; simp
       simp at hbl
       simp [w79, w80, w81, g5, g6, hbl, eg0, ea5, -bin_add, -bin_gtr]
       refine ⟨d5 - 1, by omega, K5, u5, hW5, md5, hs5, hr5, hv5, hrv5, hp5, hrq5, w0, w4, w38, w39, w40, y + 1, by omega, by omega, ?_⟩
       rw [hpl]
       exact hJ5
      | cons c l0 =>
       obtain ⟨q7, g7, g8⟩ := hb.at_one (j := 0) (v := byteV c) rfl .i64
       have eg1 : binOf .gtr (.int .i64 ((l0.length : Int) + 1)) (.int .i64 0) = some (.bool true) := by rw [bin_gtr]; simp
       have eb : binOf .eql (byteV c) (.int .u8 0) = some (.bool (decide (c = 0))) := byteV_one c 0
       simp at hbl g7
       by_cases hc0 : c = 0
       ·have hpl : plainOf (ls.take (y + 1)) = plainOf (ls.take y) ++ [l0] := by rw [htk, plainOf_append]; simp [plainOf, hc0]
        rw [decide_eq_true hc0] at eb
        simp [w79, w81, g5, g6, hbl, eg1, g7, g8, eb, -bin_eql, -bin_gtr]
        refine Wp.envI (fun E => Env.at E 0 = .ptr (some (j, 0, 0)) ∧ Env.at E 4 = .int .i64 f ∧ Env.at E 38 = r ∧ Env.at E 39 = .int .i64 ks.length ∧ Env.at E 40 = .int .i64 i2 ∧ Env.at E 79 = v ∧ Env.at E 80 = .int .i64 ls.length ∧ Env.at E 81 = .int .i64 y ∧ Env.at E 15 = w) (by simp [w0, w4, w38, w39, w40, w79, w80, w81]) ?_
        rintro E6 ⟨w0, w4, w38, w39, w40, w79, w80, w81, w15⟩
        obtain ⟨s6, d1, d2', d3⟩ := hb.cutFrom (lo := 1) (by rw [Bs.len hb]; simp) (k := .i64)
        rw [Nat.mul_one, bytesV_drop, List.drop_one, List.tail_cons] at d3
        have hro6 : RoS K5 s6 := fun g hg => hrw g (cut_into d1 hg)
        simp only [List.length_cons] at hll
        obtain ⟨rsx, s', B6, C7, K6, p1, p2, p3, p4, p5, p6, p7, p8, u6, fr6, hJ7, md7⟩ := hJ5.push hW5.fresh d3 hro6 (by omega) (by simp; omega)
        obtain ⟨st6, rs6, ps6, h6, _⟩ := hJ5.ex
        have hrs6 : rsx = rs6 := by
         have := h6.ld 4 (v := rs6) rfl
         rw [p1] at this
         exact Option.some.inj this
        subst hrs6
        have l4m := p4 (A5.make [s6] 1).2 ((ext_make A5 [s6] 1).get j h6.lt)
        have hW7 := hW5.mod md7 fun g hg => hg.ne0
        have hnx := hW5.glob.next
        have hWn : Wld K6 A0 C7 := ⟨hW7.glob, fun g hg => by rw [u6 g (by omega)]; exact hW5.low g hg, fr6⟩
        have mdn : Mod (JW b K) A C7 := JW_new u5 md5 md7
        have hv7 : Sl C7 1 v qs := hv5.mod md7 fun g hg hW => hW.ne0 (hrv5 g hg)
        have hs7 : Sl C7 1 r (ks.map (AV.int .i64)) := hs5.mod md7 fun g hg hW => hW.ne0 (hr5 g hg)
        have hp7 : PartsB C7 qs ls := PartsB.mod md7 hp5 fun w hw g hg hW => hW.ne0 (hrq5 w hw g hg)
        have d3' : Bs A5 s6 l0 := d3
        simp at d1
        refine Wp.draws ?_
        simp [w0, w15, AV.addr, p1, d1, fillA, splice, Made.value, d3'.notBot, d3'.cells, p5, p8, InAll, l4m, p3, w81, ea5, -bin_add]
        refine ⟨d5 - 1, by omega, K6, KUp.trans u5 u6 md5.next, hWn, mdn, hs7, hr5.up hs5 u6, hv7, hrv5.up hv5 u6, hp7, PartsB_up hp5 u6 hrq5, w4, w38, w39, w40, w79, w80, y + 1, by omega, by omega, ?_⟩
        rw [hpl, ← List.append_assoc]
        exact hJ7
       ·have hpl : plainOf (ls.take (y + 1)) = plainOf (ls.take y) := by rw [htk, plainOf_append]; simp [plainOf, hc0]
        rw [decide_eq_false hc0] at eb
        simp [w79, w80, w81, g5, g6, hbl, eg1, g7, g8, eb, ea5, -bin_eql, -bin_gtr, -bin_add]
        refine ⟨d5 - 1, by omega, K5, u5, hW5, md5, hs5, hr5, hv5, hrv5, hp5, hrq5, w0, w4, w38, w39, w40, y + 1, by omega, by omega, ?_⟩
        rw [hpl]
        exact hJ5
     ·simp at hc5
      have hyl : y = ls.length := by omega
      rw [hyl, List.take_length] at hJ5 hn5
      simp [w40, ea, -bin_add]
      refine ⟨d2 - 1, by omega, K5, u5, hW5, md5, hs5, hr5, w0, w4, w38, w39, i2 + 1, by omega, by omega, _, hJ5, hL2, ?_⟩
      simp only [List.length_append]
      rw [Nat.add_mul]
      omega
  ·simp at hc
   have hil : i2 = ks.length := by omega
   rw [hil, List.drop_length] at hL2
   simp only [loadL] at hL2
   rw [← hL2]
   simp
   exact ⟨K2, u2, hW2, md2, hJ2, EV.nil _⟩
end
end Go.Proofs.YtlaoookdegmnnaaGreatDoor
