/- HeapMost: there are 256 rows at most. -/
import Derived.Test.YtlaoookdegmnnaaGreatDoorHpDoc4
set_option maxRecDepth 100000
set_option linter.unusedSimpArgs false
set_option linter.unusedVariables false
namespace Go.Proofs.YtlaoookdegmnnaaGreatDoor
open Go.AM
def segN (seg : Int) : Int := (if seg.tmod 300 < 0 then 0 - seg.tmod 300 else seg.tmod 300) + 40
theorem tmod_300 (n : Int) : -300 < n.tmod 300 ∧ n.tmod 300 < 300 := by
 have h1 := Int.tmod_lt_of_pos n (show (0 : Int) < 300 by decide)
 have h2 := Int.tmod_lt_of_pos (-n) (show (0 : Int) < 300 by decide)
 rw [Int.neg_tmod] at h2
 omega
theorem segN_range (seg : Int) : 40 ≤ segN seg ∧ segN seg < 340 := by
 have := tmod_300 seg
 unfold segN
 split <;> omega
def jd0 (room seg : Int) : JoD := ⟨tpNew room, segN seg, -1, [], []⟩
def hd0 (room seg : Int) : HeD := ⟨jd0 room seg, [], 0, 0, 0⟩
theorem open_new (room seg : Int) : joOpen (tpNew room) (segN seg) = (0, some (jd0 room seg)) := by
 have := segN_range seg
 unfold joOpen
 rw [if_neg (by omega)]
 rfl
theorem opened_new (room seg : Int) : HeD.opened (jd0 room seg) = some (hd0 room seg) := rfl
structure BegC (A0 : St) (K : Nat → Nat) (B : St) (room seg : Int) (w h j p m rh jj : Nat) : Prop where
 wld : Wld K A0 B
 kw : K w = 99
 cw : Cl B w [.ptr (some (p, 0, 0)), .ptr (some (h, 0, 0)), .ptr (some (rh, 0, 0))]
 hp : HpC 0 K B h j p m (hd0 room seg)
 krh : K rh = 0
 kjj : K jj = 0
 crh : Cl B rh [.ptr (some (jj, 0, 0)), .slice none 0 0 0 0]
 cjj : ∃ t, Cl B jj [.ptr (some (t, 0, 0)), .int .i64 (segN seg), .int .i64 (-1), .slice none 0 0 0 0, .slice none 0 0 0 0]
section
variable {D : Disp} {G0 : Env} {X : Calls'} {A0 : St}
theorem wld0 (A0 : St) : Wld (fun _ => 0) A0 A0 := ⟨St.Ext.refl _, fun _ _ => rfl, fun _ _ => rfl⟩
theorem begun_spec (HX : RowsX X A0) (HC : RowsC X) (HI : RowsI X) (HK : RowsK X) {room seg : Int} (hr : 0 ≤ room ∧ room ≤ 1048576) :
  Ev D G0 fnsL X 14 [.int .i64 room, .int .i64 seg] A0 fun r B => A0.Ext B ∧ ∃ K w h j p m rh jj, r = .ptr (some (w, 0, 0)) ∧ BegC A0 K B room seg w h j p m rh jj := by
 refine Ev.fnK (fn := a14) rfl ⟨by simp [a14], by decide⟩ ?_
 unfold a14
 have e1 : binOf .rem (.int .i64 seg) (.int .i64 300) = some (.int .i64 (seg.tmod 300)) := by simp [binOf, isShift, binInt]
 have hsr := segN_range seg
 have htm := tmod_300 seg
 have en : unOf .neg (.int .i64 (seg.tmod 300)) = some (.int .i64 (0 - seg.tmod 300)) := by
  show some (AV.int .i64 (IntKind.wrap .i64 (0 - seg.tmod 300))) = _
  rw [IntKind.wrap_i64]
  congr 2
  omega
 simp only [Go.AM.wp_seq]
 simp [-Go.AM.wp_seq]
 simp only [Go.AM.wp_seq]
 simp [e1, -Go.AM.wp_seq]
 refine wp_cut1 (fun E A => A = A0 ∧ Env.at E 0 = .int .i64 room ∧ Env.at E 1 = .int .i64 (segN seg - 40)) ?_ ?_
 ·have el := lss_int .i64 (seg.tmod 300) 0
  by_cases h : seg.tmod 300 < 0
  ·rw [decide_eq_true h] at el
   simp [el, en, -bin_lss]
   unfold segN
   rw [if_pos h]
   omega
  ·rw [decide_eq_false h] at el
   simp [el, -bin_lss]
   unfold segN
   rw [if_neg h]
   omega
 rintro E A ⟨rfl, f0, f1⟩
 have x1 := ext_make A [.ptr none, .ptr none, .ptr none] 1
 have c1 := Cl.make A [.ptr none, .ptr none, .ptr none]
 have hw0 := wld0 A
 simp [f0, fillA, splice, aggV, AV.isBot, AV.cells, boxV, Made.value]
 have hn1 : (A.make [.ptr none, .ptr none, .ptr none] 1).2.next = A.next + 1 := rfl
 generalize (A.make [.ptr none, .ptr none, .ptr none] 1).2 = A1 at *
 have hW1 : Wld (kNew (fun _ => 0) A.next 99) A A1 := wld_new hw0 x1 (by omega)
 simp [ops_callf, allKnown]
 refine (newT_spec (b := 0) (K := kNew (fun _ => 0) A.next 99) hr).mono fun r B ⟨x2, hn2, hr2, ht2⟩ => ?_
 subst hr2
 obtain ⟨K1, hK1⟩ : ∃ K1, K1 = kTape 0 (kNew (fun _ => 0) A.next 99) A1.next := ⟨_, rfl⟩
 rw [← hK1] at ht2
 have u1 : KUp (kNew (fun _ => 0) A.next 99) K1 A1 := by rw [hK1]; exact kTape_up _ _ _
 have hW2 : Wld K1 A B := ⟨(hW1.ext x2).glob, fun f hf => by rw [u1 f (by have := x1.next; omega)]; exact hW1.low f hf, by rw [hK1]; exact kTape_fresh hW1.fresh hn2⟩
 have kw1 : K1 A.next = 99 := by rw [u1 _ (by omega)]; exact kNew_self _ _ _
 obtain ⟨w, hw⟩ : ∃ w, w = A.next := ⟨_, rfl⟩
 rw [← hw] at kw1 c1 ⊢
 obtain ⟨p, hp⟩ : ∃ p, p = A1.next + 1 := ⟨_, rfl⟩
 obtain ⟨m, hm⟩ : ∃ m, m = A1.next := ⟨_, rfl⟩
 rw [← hp, ← hm] at ht2
 rw [← hp]
 obtain ⟨B1, s1, s2, s3⟩ := (c1.ext x2).stM 0 (by simp) (v := .ptr (some (p, 0, 0))) rfl rfl rfl
 simp at s3
 have hW3 := hW2.mod s2 fun f hf => by subst hf; omega
 have ht3 := ht2.mod s2 fun f hf => by subst hf; omega
 have l0 := s3.ld 0 (v := .ptr (some (p, 0, 0))) rfl
 have xB1 : A.Ext B1 := (x1.trans x2).mod s2 fun f hf => by subst hf; omega
 have ea : binOf .add (.int .i64 (segN seg - 40)) (.int .i64 40) = some (.int .i64 (segN seg)) := by
  rw [bin_add, IntKind.wrap_i64]
  congr 2
  show _ = _
  omega
 simp [AV.addr, s1, l0, f1, ea, ops_callf, allKnown, -bin_add]
 refine (hopen_spec HX HC HI HK hW3 ht3 (by omega) (open_new room seg) (by simp [jd0])).mono fun r C ⟨K2, u2, hW4, m4, hO⟩ => ?_
 unfold OpenR at hO
 rw [opened_new] at hO
 obtain ⟨h, j, hrh, hH⟩ := hO
 subst hrh
 have kw2 : K2 w = 99 := by rw [u2 _ s3.lt]; exact kw1
 have hno : ∀ f, f < A.next → ¬ HW 0 K1 f := fun f hf hW => hW.ne0 (hW2.low f hf)
 have c4 := s3.mod m4 (fun hW => by rcases hW with h | h | h <;> omega)
 obtain ⟨C1, t1, t2, t3⟩ := c4.stM 1 (by simp) (v := .ptr (some (h, 0, 0))) rfl rfl rfl
 simp at t3
 have hW5 := hW4.mod t2 fun f hf => by subst hf; omega
 have hH5 := hH.mod t2 fun f hf => by subst hf; omega
 have xC1 : A.Ext C1 := ⟨Nat.le_trans xB1.next (Nat.le_trans m4.next t2.next), fun f hf => by
  rw [t2.get f (Nat.lt_of_lt_of_le hf (Nat.le_trans xB1.next m4.next)) (by omega), m4.get f (Nat.lt_of_lt_of_le hf xB1.next) (hno f hf), xB1.get f hf]⟩
 simp [AV.addr, t1, f0, f1, ops_callf, allKnown]
 refine newRT_spec.mono fun r C2 ⟨x6, t, hr6, hlt6, ct⟩ => ?_
 subst hr6
 simp [f1, ea, ops_callf, allKnown, -bin_add]
 refine (ropen_spec ct (by omega)).mono fun r C3 ⟨x7, rh, jj, hr7, hl7, hl7', crh, cjj⟩ => ?_
 subst hr7
 have x67 := x6.trans x7
 obtain ⟨C4, w1, w2, w3⟩ := (t3.ext x67).stM 2 (by simp) (v := .ptr (some (rh, 0, 0))) rfl rfl rfl
 simp at w3
 simp [AV.addr, w1]
 have hwlt : w < C1.next := t3.lt
 have hx6n := x6.next
 have krh : K2 rh = 0 := hW5.fresh rh (by omega)
 have kjj : K2 jj = 0 := hW5.fresh jj (by omega)
 refine ⟨(xC1.trans x67).mod w2 fun f hf => by subst hf; omega, K2, h, j, p, m, rh, jj, (hW5.ext x67).mod w2 fun f hf => by subst hf; omega, kw2, w3, (hH5.ext x67).mod w2 fun f hf => by subst hf; omega, krh, kjj, crh.mod w2 (by omega), t, cjj.mod w2 (by omega)⟩
end
end Go.Proofs.YtlaoookdegmnnaaGreatDoor
namespace Go.AM
structure Fine (j : JoD) (R : Int) (U n : Nat) : Prop where
 fuse : j.t.fuse = -1
 down : j.t.down = false
 room : j.t.room = R
 used : usedL j.t.segs ≤ U
 few : j.t.segs.length ≤ n
 cur : -1 ≤ j.cur ∧ j.cur < n
 there : 0 ≤ j.cur → assoc j.cur j.t.segs ≠ none
theorem spend_fine {t : TpD} (h : t.fuse = -1) : t.spend = (true, t) := by
 unfold TpD.spend
 rw [if_neg (by omega), if_neg (by omega)]
theorem change_fine {t : TpD} (h : t.fuse = -1) (k : Int) (s : SegD) : t.change k s = (0, { t with segs := putA k s t.segs }) := by
 unfold TpD.change
 rw [spend_fine h]
theorem usedA_put (k : Int) (d : SegD) : ∀ l : List (Int × SegD), usedL (putA k d l) + ((assoc k l).getD ⟨[], 0⟩).b.length = usedL l + d.b.length
 | [] => by simp [putA, usedL, assoc]
 | (k', d') :: l => by
  have ih := usedA_put k d l
  by_cases h : k = k'
  ·subst h
   simp [putA, usedL, assoc]
   omega
  ·have h' : ¬ k' = k := fun e => h e.symm
   simp only [putA, usedL, assoc]
   simp only [h, h', if_false, usedL]
   omega
theorem assocA_put {k k' : Int} {d : SegD} {l : List (Int × SegD)} : assoc k' (putA k d l) = if k' = k then some d else assoc k' l := assoc_put _ _ _ _
theorem Fine.sync {j : JoD} {R : Int} {U n : Nat} (h : Fine j R U n) (hn : n ≤ 1000) : ∃ j', j.sync = (0, j') ∧ Fine j' R U n ∧ j'.state = j.state ∧ j'.recs = j.recs ∧ j'.seg = j.seg ∧ j'.cur = j.cur := by
 unfold JoD.sync
 by_cases hc : j.cur < 0
 ·rw [if_pos hc]
  exact ⟨j, rfl, h, rfl, rfl, rfl, rfl⟩
 ·rw [if_neg hc]
  have hcu := h.cur
  have ht := h.there (by omega)
  have hth : j.t.there j.cur false = 0 := by
   unfold TpD.there
   rw [if_neg (by omega), h.down, if_neg (by simp), if_neg (by simp [ht])]
  have hs : j.t.sync j.cur = (0, { j.t with segs := putA j.cur ⟨(j.t.seg j.cur).b, (j.t.seg j.cur).b.length⟩ j.t.segs }) := by
   unfold TpD.sync
   rw [hth, if_neg (by simp), change_fine h.fuse]
  rw [hs]
  have hu := usedA_put j.cur ⟨(j.t.seg j.cur).b, (j.t.seg j.cur).b.length⟩ j.t.segs
  have hl := length_put j.cur (SegD.mk (j.t.seg j.cur).b (j.t.seg j.cur).b.length) j.t.segs
  rw [if_pos (by rw [← assoc_some_iff]; cases ha : assoc j.cur j.t.segs; exact absurd ha ht; rfl)] at hl
  have hus := h.used
  have hfe := h.few
  refine ⟨_, rfl, ⟨h.fuse, h.down, h.room, ?_, ?_, hcu, fun _ => ?_⟩, rfl, rfl, rfl, rfl⟩
  ·show usedL (putA _ _ _) ≤ U
   unfold TpD.seg at hu
   unfold TpD.seg
   simp only at hu
   omega
  ·show (putA _ _ _).length ≤ n
   omega
  ·show assoc _ (putA _ _ _) ≠ none
   rw [assocA_put, if_pos rfl]
   simp
theorem Fine.write {j : JoD} {R : Int} {U n : Nat} (h : Fine j R U n) (hn : n < 60) {r : List UInt8} (hr : r.length ≤ 16383) (hR : (U + (frame (0 :: r)).length : Nat) ≤ R) : ∃ j', j.write [r] = (0, j') ∧ Fine j' R (U + (frame (0 :: r)).length) (n + 1) ∧ j'.state = j.state ∧ j'.recs = j.recs ++ [r] ∧ j'.seg = j.seg := by
 have hroll : ∃ k t, j.roll (frame (0 :: r)).length = (k, 0, t) ∧ 0 ≤ k ∧ k < n + 1 ∧ Fine { j with t := t } R U n := by
  unfold JoD.roll
  have hcu := h.cur
  by_cases hc : j.cur < 0
  ·rw [if_pos hc]
   exact ⟨0, j.t, rfl, by omega, by omega, h⟩
  ·rw [if_neg hc]
   split
   ·exact ⟨j.cur, j.t, rfl, by omega, by omega, h⟩
   ·obtain ⟨j', h1, h2, h3, h4, h5, h6⟩ := h.sync (by omega)
    unfold JoD.sync at h1
    rw [if_neg hc] at h1
    have e1 : (j.t.sync j.cur).1 = 0 := congrArg (·.1) h1
    have e2 : { j with t := (j.t.sync j.cur).2 } = j' := congrArg (·.2) h1
    refine ⟨j.cur + 1, (j.t.sync j.cur).2, ?_, by omega, by omega, by rw [e2]; exact h2⟩
    rw [← e1]
 obtain ⟨k, t, h1, hk0, hkn, hF⟩ := hroll
 have hFu := hF.fuse
 have hFd := hF.down
 have hFr := hF.room
 have hFus := hF.used
 have hFfe := hF.few
 simp only at hFu hFd hFr hFus hFfe
 have hth : t.there k true = 0 := by
  unfold TpD.there
  rw [if_neg (by omega), hFd, if_neg (by simp), if_neg (by simp)]
 have hfit : t.fits k [frame (0 :: r)] = 0 := by
  unfold TpD.fits
  have hrm : roomP t.free [frame (0 :: r)] = true := by
   unfold TpD.free
   simp only [roomP, Bool.and_true, decide_eq_true_eq]
   omega
  rw [if_neg (by rw [hrm]; simp), if_neg (by omega)]
 have happ : t.append k [frame (0 :: r)] = (0, { t with segs := putA k ⟨(t.seg k).b ++ frame (0 :: r), (t.seg k).syn⟩ t.segs }) := by
  unfold TpD.append
  rw [hth, if_neg (by simp), hfit, if_neg (by simp), change_fine hFu]
  simp
 have hadd : j.add [r] = (0, { j with t := { t with segs := putA k ⟨(t.seg k).b ++ frame (0 :: r), (t.seg k).syn⟩ t.segs }, cur := k, recs := j.recs ++ [r] }) := by
  unfold JoD.add
  rw [if_neg (by simp), rawOf_one hr]
  simp only [h1, happ]
  simp
 have hu := usedA_put k ⟨(t.seg k).b ++ frame (0 :: r), (t.seg k).syn⟩ t.segs
 have hl := length_put k (SegD.mk ((t.seg k).b ++ frame (0 :: r)) (t.seg k).syn) t.segs
 have hF2 : Fine { j with t := { t with segs := putA k ⟨(t.seg k).b ++ frame (0 :: r), (t.seg k).syn⟩ t.segs }, cur := k, recs := j.recs ++ [r] } R (U + (frame (0 :: r)).length) (n + 1) := by
  refine ⟨hFu, hFd, hFr, ?_, ?_, ⟨by show -1 ≤ k; omega, by show k < ((n + 1 : Nat) : Int); omega⟩, fun _ => ?_⟩
  ·show usedL (putA _ _ _) ≤ _
   unfold TpD.seg at hu
   unfold TpD.seg
   simp only [List.length_append] at hu
   omega
  ·show (putA _ _ _).length ≤ n + 1
   rw [hl]
   split <;> omega
  ·show assoc k (putA k _ _) ≠ none
   rw [assocA_put, if_pos rfl]
   simp
 obtain ⟨j', g1, g2, g3, g4, g5, _⟩ := hF2.sync (by omega)
 refine ⟨j', ?_, g2, g3, g4, g5⟩
 unfold JoD.write
 rw [hadd, if_neg (by simp)]
 exact g1
theorem fold_full : ∀ {b a : List RowD}, Up (a ++ b) → a.length ≤ 256 → 256 < (a ++ b).length → foldC a (b.map chOf) = none
 | [], a, _, h1, h2 => by simp at h2; omega
 | r :: b, a, h, h1, h2 => by
  have hab : a ++ r :: b = (a ++ [r]) ++ b := by simp
  rw [hab] at h h2
  have hu : Up (a ++ [r]) := (List.pairwise_append.1 h).1
  rw [List.map_cons]
  unfold foldC
  rw [show withL a (chOf r) = a ++ [r] from with_snoc hu]
  split
  ·rfl
  ·rename_i h3
   exact fold_full h (by omega) h2
end Go.AM
namespace Go.Proofs.YtlaoookdegmnnaaGreatDoor
open Go.AM
section
variable {D : Disp} {G0 : Env} {X : Calls'} {A0 : St}
end
section
variable {D : Disp} {G0 : Env} {X : Calls'} {A0 : St}
end
def keyK (i : Nat) : List UInt8 := [UInt8.ofNat (97 + i / 26), UInt8.ofNat (97 + i % 26)]
def chK (i : Nat) : ChD := ⟨keyK i, i, true⟩
def rowK (i : Nat) : RowD := ⟨keyK i, i⟩
def chs (c k : Nat) : List ChD := (List.range' c k).map chK
theorem key_less {i j : Nat} (h : i < j) (hj : j < 400) : bytesLess (keyK i) (keyK j) = true := by
 unfold keyK
 have h1 : (UInt8.ofNat (97 + i / 26)).toNat = 97 + i / 26 := by simp; omega
 have h2 : (UInt8.ofNat (97 + j / 26)).toNat = 97 + j / 26 := by simp; omega
 have h3 : (UInt8.ofNat (97 + i % 26)).toNat = 97 + i % 26 := by simp; omega
 have h4 : (UInt8.ofNat (97 + j % 26)).toNat = 97 + j % 26 := by simp; omega
 by_cases hq : i / 26 = j / 26
 ·have hlt : UInt8.ofNat (97 + i % 26) < UInt8.ofNat (97 + j % 26) := UInt8.lt_iff_toNat_lt.2 (by rw [h3, h4]; omega)
  rw [hq]
  simp only [bytesLess, decide_eq_true hlt, Bool.true_or, Bool.or_true, beq_self_eq_true, Bool.and_true]
 ·have hlt : UInt8.ofNat (97 + i / 26) < UInt8.ofNat (97 + j / 26) := UInt8.lt_iff_toNat_lt.2 (by rw [h1, h2]; omega)
  simp only [bytesLess, decide_eq_true hlt, Bool.true_or]
theorem chs_rows (c k : Nat) : chs c k = ((List.range' c k).map rowK).map chOf := by
 unfold chs
 rw [List.map_map]
 rfl
theorem chs_len (c k : Nat) : (chs c k).length = k := by simp [chs]
theorem up_range {c k : Nat} (h : c + k ≤ 400) : Up ((List.range' c k).map rowK) := by
 unfold Up
 rw [List.pairwise_map]
 refine List.Pairwise.imp_of_mem (fun {a b} ha hb hab => ?_) (List.pairwise_lt_range' (s := c) (n := k))
 have := List.mem_range'.1 hb
 obtain ⟨x, hx, rfl⟩ := this
 exact key_less hab (by omega)
structure MI (n c w : Nat) (d : HeD) (e : Int) : Prop where
 rows : ∀ r ∈ rowsI d.idx, ∃ i, i < c ∧ r = rowK i
 len : (rowsI d.idx).length ≤ c
 ok : e = 0 ∧ (rowsI d.idx).length = c ∨ e = 5 ∧ 256 < n
 fine : Fine d.jd 200000 (2500 * w) w
 few : d.idx.length ≤ c ∧ d.all ≤ c ∧ d.recs ≤ w ∧ d.jd.recs.length ≤ w
theorem MI.step {n c w : Nat} {d : HeD} {e : Int} (h : MI n c w d e) (ok : HpOk d) {k : Nat} (hk : c + k ≤ n) (hk70 : k < 70) (hn : n < 300) (hw : w < 50) : MI n (c + k) (w + 1) (d.put 1 (chs c k)).2 (if (d.put 1 (chs c k)).1 ≠ 0 then (d.put 1 (chs c k)).1 else e) := by
 have hf := h.few
 have hfi := h.fine
 have hokc : ∀ x ∈ chs c k, okC x = true ∧ i64ok x.n := fun x hx => by
  unfold chs at hx
  obtain ⟨i, hi, rfl⟩ := List.mem_map.1 hx
  obtain ⟨y, hy, rfl⟩ := List.mem_range'.1 hi
  exact ⟨rfl, by simp [chK, i64ok]; omega⟩
 have hup : Up (rowsI d.idx ++ (List.range' c k).map rowK) := by
  refine List.pairwise_append.2 ⟨rowsI_up ok.idx, up_range (by omega), fun a ha b hb => ?_⟩
  obtain ⟨i, hi, rfl⟩ := h.rows a ha
  obtain ⟨j, hj, rfl⟩ := List.mem_map.1 hb
  obtain ⟨y, hy, rfl⟩ := List.mem_range'.1 hj
  exact key_less (by omega) (by omega)
 have hll : (rowsI d.idx ++ (List.range' c k).map rowK).length = (rowsI d.idx).length + k := by simp
 have hall : (chs c k).all okC = true := List.all_eq_true.2 fun x hx => (hokc x hx).1
 have hwr : wrongH d 1 (chs c k) = (applyL (rowsI d.idx) (chs c k)).1 := by unfold wrongH; rw [if_neg (by omega)]
 have hap : applyL (rowsI d.idx) (chs c k) = match foldC (rowsI d.idx) (chs c k) with | some r => (0, r) | none => (5, rowsI d.idx) := by
  unfold applyL
  rw [if_pos hall]
  cases foldC (rowsI d.idx) (chs c k) <;> rfl
 have hlen := h.len
 have hrow := ok.rows
 by_cases hfit : (rowsI d.idx).length + k ≤ 256
 ·have hfo : foldC (rowsI d.idx) (chs c k) = some (rowsI d.idx ++ (List.range' c k).map rowK) := by
   rw [chs_rows]
   exact fold_rows hup (by omega)
  rw [hfo] at hap
  have hw0 : wrongH d 1 (chs c k) = 0 := by rw [hwr, hap]
  have hrl := recB_length (mark := 1) (by omega) hokc (by rw [chs_len]; omega)
  rw [chs_len] at hrl
  have hfl := frame_length (0 :: recB 1 (chs c k))
  simp only [List.length_cons] at hfl
  obtain ⟨j', g1, g2, g3, g4, g5⟩ := hfi.write (by omega) (r := recB 1 (chs c k)) (by omega) (by omega)
  have hput : d.put 1 (chs c k) = (0, HeD.add { d with jd := j', recs := d.recs + 1 } (d.recs + 1) 1 (chs c k)) := by
   unfold HeD.put
   rw [if_neg (by simp [hw0]), show (1 : Int).toNat = 1 from rfl, g1, if_neg (by simp)]
  rw [hput]
  have hri : rowsI (addI (d.recs + 1) d.idx (chs c k)) = rowsI d.idx ++ (List.range' c k).map rowK := addI_rows ok.idx hfo
  have hal := addI_length (rec := d.recs + 1) (l := chs c k) (x := d.idx)
  rw [chs_len] at hal
  have hg4 : j'.recs.length = d.jd.recs.length + 1 := by rw [g4]; simp
  refine ⟨fun r hr => ?_, ?_, ?_, ?_, ?_⟩
  ·have hr : r ∈ rowsI (addI (d.recs + 1) d.idx (chs c k)) := hr
   rw [hri] at hr
   rcases List.mem_append.1 hr with hr | hr
   ·obtain ⟨i, hi, rfl⟩ := h.rows r hr
    exact ⟨i, by omega, rfl⟩
   ·obtain ⟨j, hj, rfl⟩ := List.mem_map.1 hr
    obtain ⟨y, hy, rfl⟩ := List.mem_range'.1 hj
    exact ⟨_, by omega, rfl⟩
  ·show (rowsI (addI (d.recs + 1) d.idx (chs c k))).length ≤ c + k
   rw [hri, hll]
   omega
  ·rw [if_neg (by simp)]
   refine h.ok.imp (fun h1 => ⟨h1.1, ?_⟩) id
   show (rowsI (addI (d.recs + 1) d.idx (chs c k))).length = c + k
   rw [hri, hll, h1.2]
  ·exact ⟨g2.fuse, g2.down, g2.room, Nat.le_trans g2.used (by omega), g2.few, g2.cur, g2.there⟩
  ·refine ⟨?_, ?_, ?_, ?_⟩
   ·show (addI (d.recs + 1) d.idx (chs c k)).length ≤ c + k
    omega
   ·show d.all + ((chs c k).length : Int) ≤ ((c + k : Nat) : Int)
    rw [chs_len]
    omega
   ·show d.recs + 1 ≤ ((w + 1 : Nat) : Int)
    omega
   ·show j'.recs.length ≤ w + 1
    omega
 ·have hfo : foldC (rowsI d.idx) (chs c k) = none := by
   rw [chs_rows]
   exact fold_full hup hrow (by omega)
  rw [hfo] at hap
  have hw5 : wrongH d 1 (chs c k) = 5 := by rw [hwr, hap]
  have hput : d.put 1 (chs c k) = (5, d) := by
   unfold HeD.put
   rw [if_pos (by rw [hw5]; decide), hw5]
  rw [hput]
  refine ⟨fun r hr => ?_, by show (rowsI d.idx).length ≤ c + k; omega, ?_, ?_, ?_⟩
  ·obtain ⟨i, hi, rfl⟩ := h.rows r hr
   exact ⟨i, by omega, rfl⟩
  ·rw [if_pos (show (5 : Int) ≠ 0 by decide)]
   exact .inr ⟨rfl, by omega⟩
  ·exact ⟨hfi.fuse, hfi.down, hfi.room, Nat.le_trans hfi.used (by omega), Nat.le_trans hfi.few (by omega), ⟨hfi.cur.1, by have := hfi.cur.2; show d.jd.cur < ((w + 1 : Nat) : Int); omega⟩, hfi.there⟩
  ·show d.idx.length ≤ c + k ∧ d.all ≤ ((c + k : Nat) : Int) ∧ d.recs ≤ ((w + 1 : Nat) : Int) ∧ d.jd.recs.length ≤ w + 1
   omega
theorem MI.start (n : Nat) (seg : Int) : MI n 0 0 (hd0 200000 seg) 0 :=
 ⟨(fun r hr => by cases hr), Nat.le_refl _, .inl ⟨rfl, rfl⟩, ⟨rfl, rfl, rfl, Nat.le_refl _, Nat.le_refl _, by simp [hd0, jd0], fun h => by simp [hd0, jd0] at h⟩, by simp [hd0, jd0]⟩
theorem tmod_8 (n : Int) : -8 < n.tmod 8 ∧ n.tmod 8 < 8 := by
 have h1 := Int.tmod_lt_of_pos n (show (0 : Int) < 8 by decide)
 have h2 := Int.tmod_lt_of_pos (-n) (show (0 : Int) < 8 by decide)
 rw [Int.neg_tmod] at h2
 omega
theorem tmod_60 (n : Int) : -60 < n.tmod 60 ∧ n.tmod 60 < 60 := by
 have h1 := Int.tmod_lt_of_pos n (show (0 : Int) < 60 by decide)
 have h2 := Int.tmod_lt_of_pos (-n) (show (0 : Int) < 60 by decide)
 rw [Int.neg_tmod] at h2
 omega
theorem rng_succ (i : Nat) : (List.range' 0 (i + 1)).map chK = (List.range' 0 i).map chK ++ [chK i] := by
 rw [← List.range_eq_range', ← List.range_eq_range', List.range_succ, List.map_append]
 rfl
theorem take_rng : ∀ (k n c : Nat), k ≤ n → (List.range' c n).take k = List.range' c k
 | 0, n, c, _ => by simp
 | k + 1, 0, c, h => by omega
 | k + 1, n + 1, c, h => by simp [List.range'_succ, take_rng k n (c + 1) (by omega)]
theorem take_range (c n k : Nat) (h : k ≤ n) : ((List.range' c n).map chK).take k = chs c k := by
 unfold chs
 rw [← List.map_take]
 rw [take_rng k n c h]
structure MLI (A0 A : St) (w h j p m rh n c : Nat) (v9 v7 : AV) : Prop where
 ex : ∃ K d w' e, Wld K A0 A ∧ K w = 99 ∧ Cl A w [.ptr (some (p, 0, 0)), .ptr (some (h, 0, 0)), .ptr (some (rh, 0, 0))] ∧ HpC 0 K A h j p m d ∧ MI n c w' d e ∧ v9 = .int .i64 e ∧ (c < n → 10 * w' ≤ c) ∧ Sl A 3 v7 (ChR.all ((List.range' c (n - c)).map chK)) ∧ RoS K v7
section
variable {D : Disp} {G0 : Env} {X : Calls'} {A0 : St}
theorem live_spec (HK : RowsK X) {b : Nat} {K : Nat → Nat} {A : St} {h j p m : Nat} {d : HeD} (H : HpC b K A h j p m d) : Ev D G0 fnsL X 71 [.ptr (some (h, 0, 0))] A fun r B => A.Ext B ∧ r = .int .i64 (rowsI d.idx).length := by
 refine Ev.fnK (fn := a71) rfl ⟨by simp [a71], by decide⟩ ?_
 unfold a71
 simp [eqV, eqOf, ops_callf, allKnown]
 refine (changes_spec HK H).mono fun s B ⟨x1, hs⟩ => ?_
 have hlen := hs.sl.rec_lenV
 rw [live_len] at hlen
 simp [hlen]
 exact x1
theorem hlen_spec (HK : RowsK X) {b : Nat} {K : Nat → Nat} {A : St} {h j p m : Nat} {d : HeD} (H : HpC b K A h j p m d) : Ev D G0 fnsL X 16 [.ptr (some (h, 0, 0))] A fun r B => A.Ext B ∧ r = .int .i64 (rowsI d.idx).length := by
 refine Ev.fnK (fn := a16) rfl ⟨by simp [a16], by decide⟩ ?_
 unfold a16
 simp [ops_callf, allKnown]
 refine (live_spec HK H).mono fun r B ⟨x1, hr⟩ => ?_
 subst hr
 simp
 exact x1
theorem law3_spec (HX : RowsX X A0) (HC : RowsC X) (HI : RowsI X) (HK : RowsK X) (HAw : ∀ A, A0.Ext A → ∃ B, X 17 [] A = some (.bool true, B)) {over piece : Int} :
  Ev D G0 fnsL X 3 [.int .i64 over, .int .i64 piece] A0 fun r B => r = .bool true := by
 refine Ev.fnK (fn := a3) rfl ⟨by simp [a3], by decide⟩ ?_
 unfold a3
 simp [ops_callf, allKnown]
 refine (begun_spec HX HC HI HK (room := 200000) (seg := 100) (by decide)).mono fun r B ⟨x0, K, w, h, j, p, m, rh, jj, hr, hB⟩ => ?_
 subst hr
 have l1 := hB.cw.ld 1 (v := .ptr (some (h, 0, 0))) rfl
 have ho := tmod_8 over
 have hp := tmod_60 piece
 have e1 : binOf .rem (.int .i64 over) (.int .i64 8) = some (.int .i64 (over.tmod 8)) := by simp [binOf, isShift, binInt]
 have e2 : binOf .rem (.int .i64 piece) (.int .i64 60) = some (.int .i64 (piece.tmod 60)) := by simp [binOf, isShift, binInt]
 obtain ⟨n, hn⟩ : ∃ n : Nat, 256 + over.tmod 8 = n := ⟨(256 + over.tmod 8).toNat, by omega⟩
 have hnr : 248 < n ∧ n < 264 := by omega
 have e3 : binOf .add (.int .i64 256) (.int .i64 (over.tmod 8)) = some (.int .i64 n) := by
  rw [bin_add, IntKind.wrap_i64]
  congr 2
  show _ = _
  omega
 have en : unOf .neg (.int .i64 (piece.tmod 60)) = some (.int .i64 (0 - piece.tmod 60)) := by
  show some (AV.int .i64 (IntKind.wrap .i64 (0 - piece.tmod 60))) = _
  rw [IntKind.wrap_i64]
  congr 2
  omega
 simp [-Go.AM.wp_seq]
 simp only [Go.AM.wp_seq]
 simp [AV.addr, l1, eqV, eqOf, -Go.AM.wp_seq]
 simp only [Go.AM.wp_seq]
 simp [e1, e3, -Go.AM.wp_seq, -bin_add]
 simp only [Go.AM.wp_seq]
 simp [e2, -Go.AM.wp_seq, -bin_add]
 obtain ⟨pc, hpc⟩ : ∃ pc : Nat, (if piece.tmod 60 < 0 then 0 - piece.tmod 60 else piece.tmod 60) = pc := ⟨(if piece.tmod 60 < 0 then 0 - piece.tmod 60 else piece.tmod 60).toNat, by split <;> omega⟩
 have hpcr : pc < 60 := by split at hpc <;> omega
 refine wp_cut1 (fun E A => A = B ∧ Env.at E 1 = .int .i64 pc ∧ Env.at E 5 = .ptr (some (w, 0, 0)) ∧ Env.at E 6 = .int .i64 n) ?_ ?_
 ·have el := lss_int .i64 (piece.tmod 60) 0
  by_cases h : piece.tmod 60 < 0
  ·rw [decide_eq_true h] at el
   rw [if_pos h] at hpc
   rw [hpc] at en
   simp [el, en, -bin_lss]
  ·rw [decide_eq_false h] at el
   rw [if_neg h] at hpc
   simp [el, -bin_lss]
   exact hpc
 rintro E A ⟨rfl, f1, f5, f6⟩
 simp only [Go.AM.wp_seq]
 simp [-Go.AM.wp_seq]
 have hKf : ∀ f, A.next ≤ f → K f = 0 := hB.wld.fresh
 refine wp_cut1 (fun E A' => A.Ext A' ∧ Env.at E 1 = .int .i64 pc ∧ Env.at E 5 = .ptr (some (w, 0, 0)) ∧ Env.at E 6 = .int .i64 n ∧ AM.Own A.next A' 3 (Env.at E 7) (ChR.all ((List.range' 0 n).map chK))) ?_ ?_
 ·simp
  refine Wp.loopK (fun q E A' => A.Ext A' ∧ Env.at E 1 = .int .i64 pc ∧ Env.at E 5 = .ptr (some (w, 0, 0)) ∧ Env.at E 6 = .int .i64 n ∧ ∃ i : Nat, Env.at E 8 = .int .i64 i ∧ i ≤ n ∧ i + q = n ∧ AM.Own A.next A' 3 (Env.at E 7) (ChR.all ((List.range' 0 i).map chK))) n ?_ ?_
  ·exact ⟨St.Ext.refl _, by simp [f1], by simp [f5], by simp [f6], 0, by simp, Nat.zero_le _, by simp, by simpa [Rec.all] using AM.Own.nil _ _ _⟩
  rintro q E A' ⟨x, g1, g5, g6, i, g8, q1, q2, ho⟩
  obtain ⟨o, g7⟩ : ∃ o, Env.at E 7 = o := ⟨_, rfl⟩
  rw [g7] at ho
  have ea := add_one (i := i) (by omega)
  simp [-bin_add] at ea
  simp [g6, g8, lss_nat, -bin_lss]
  refine contC_of (fun hc => ?_) (fun hc => ?_)
  ·simp at hc
   have eq1 : binOf .quo (.int .i64 (i : Int)) (.int .i64 26) = some (.int .i64 ((i / 26 : Nat) : Int)) := bin_quo_nat (k := .i64) (a := i) (b := 26) (by decide) (wrap_i64_nat (by omega))
   have er1 : binOf .rem (.int .i64 (i : Int)) (.int .i64 26) = some (.int .i64 ((i % 26 : Nat) : Int)) := bin_rem_nat (k := .i64) (a := i) (b := 26) (by decide)
   have ec1 : convV .u8 (.int .i64 ((i / 26 : Nat) : Int)) = some (.int .u8 ((i / 26 : Nat) : Int)) := by rw [convV_int, wrap_un_small rfl (show i / 26 < 2 ^ 8 by omega)]
   have ec2 : convV .u8 (.int .i64 ((i % 26 : Nat) : Int)) = some (.int .u8 ((i % 26 : Nat) : Int)) := by rw [convV_int, wrap_un_small rfl (show i % 26 < 2 ^ 8 by omega)]
   have ed1 : binOf .add (.int .u8 97) (.int .u8 ((i / 26 : Nat) : Int)) = some (.int .u8 ((97 + i / 26 : Nat) : Int)) := by
    rw [bin_add, show (97 : Int) + ((i / 26 : Nat) : Int) = ((97 + i / 26 : Nat) : Int) by omega, wrap_un_small rfl (show 97 + i / 26 < 2 ^ 8 by omega)]
   have ed2 : binOf .add (.int .u8 97) (.int .u8 ((i % 26 : Nat) : Int)) = some (.int .u8 ((97 + i % 26 : Nat) : Int)) := by
    rw [bin_add, show (97 : Int) + ((i % 26 : Nat) : Int) = ((97 + i % 26 : Nat) : Int) by omega, wrap_un_small rfl (show 97 + i % 26 < 2 ^ 8 by omega)]
   have hbv : bytesV (keyK i) = [.int .u8 ((97 + i / 26 : Nat) : Int), .int .u8 ((97 + i % 26 : Nat) : Int)] := by
    have h1 : (UInt8.ofNat (97 + i / 26)).toNat = 97 + i / 26 := by simp; omega
    have h3 : (UInt8.ofNat (97 + i % 26)).toNat = 97 + i % 26 := by simp; omega
    unfold keyK bytesV
    simp only [List.map_cons, List.map_nil, byteV, h1, h3]
   have hsl : Bs (A'.make [.int .u8 ((97 + i / 26 : Nat) : Int), .int .u8 ((97 + i % 26 : Nat) : Int)] 1).2 (.slice (some (A'.next, 0, 0)) 0 2 2 0) (keyK i) := by
    have := (own_make_exact A' (cs := [.int .u8 ((97 + i / 26 : Nat) : Int), .int .u8 ((97 + i % 26 : Nat) : Int)]) (sz := 1) (n := 2) rfl (Nat.le_refl _) (len := 2) (Nat.le_refl _)).sl
    unfold Bs
    rw [hbv]
    exact this
   have hxt := hsl.text
   have xm := ext_make A' [.int .u8 ((97 + i / 26 : Nat) : Int), .int .u8 ((97 + i % 26 : Nat) : Int)] 1
   obtain ⟨u, hu⟩ : ∃ u : Int, u = ((97 + i / 26 : Nat) : Int) := ⟨_, rfl⟩
   obtain ⟨v, hv⟩ : ∃ v : Int, v = ((97 + i % 26 : Nat) : Int) := ⟨_, rfl⟩
   obtain ⟨u', hu'⟩ : ∃ u : Int, u = ((i / 26 : Nat) : Int) := ⟨_, rfl⟩
   obtain ⟨v', hv'⟩ : ∃ v : Int, v = ((i % 26 : Nat) : Int) := ⟨_, rfl⟩
   rw [← hu, ← hv] at xm hxt
   rw [← hu'] at eq1 ec1 ed1
   rw [← hv'] at er1 ec2 ed2
   rw [← hu] at ed1
   rw [← hv] at ed2
   have hus : ((List.range' 0 i).map chK).length = i := by simp
   have ho1 := ho.ext xm
   obtain ⟨o2, C3, z1, z2, z3, z4⟩ := append_rec' (bytes := 32) ho1 (x.trans xm).next (by rw [hus]; omega) (by rw [hus]; omega) (chK i)
   have z1' : appendV ((A'.make [.int .u8 u, .int .u8 v] 1).2.make [.str (keyK i), .int .i64 i, .bool true] 3).2 false 3 32 o (.slice (some ((A'.make [.int .u8 u, .int .u8 v] 1).2.next, 0, 0)) 0 1 1 0) = some (o2, C3) := z1
   simp [g1, g5, g6, g7, g8, eq1, ec1, ed1, er1, ec2, ed2, fillA, splice, AV.isBot, AV.cells, aggV, Made.value, hxt, z1', ea, -bin_add, -convV_int]
   exact ⟨q - 1, by omega, z3.own_ext ho1 (x.trans xm) (Nat.le_refl _), i + 1, by omega, by omega, by omega, by rw [rng_succ]; exact z2⟩
  ·simp at hc
   obtain rfl : i = n := by omega
   simp [g1, g5, g6, g7]
   exact ⟨x, ho⟩
 rintro E A1 ⟨x1, f1, f5, f6, f7⟩
 obtain ⟨L0, hL0⟩ : ∃ L, Env.at E 7 = L := ⟨_, rfl⟩
 rw [hL0] at f7
 have cw0 := hB.cw.ext x1
 simp only [Go.AM.wp_seq]
 simp [-Go.AM.wp_seq]
 refine wp_cut1 (fun E A' => Env.at E 5 = .ptr (some (w, 0, 0)) ∧ Env.at E 6 = .int .i64 n ∧ MLI A0 A' w h j p m rh n n (Env.at E 9) (Env.at E 7)) ?_ ?_
 ·refine Wp.block ?_
  refine Wp.loopK (fun q E A' => Env.at E 1 = .int .i64 pc ∧ Env.at E 5 = .ptr (some (w, 0, 0)) ∧ Env.at E 6 = .int .i64 n ∧ ∃ c, c ≤ n ∧ c + q = n ∧ MLI A0 A' w h j p m rh n c (Env.at E 9) (Env.at E 7)) n ?_ ?_
  ·have hm0 : MLI A0 A1 w h j p m rh n 0 (.int .i64 0) L0 := ⟨K, hd0 200000 100, 0, 0, hB.wld.ext x1, hB.kw, cw0, hB.hp.ext x1, MI.start n 100, rfl, fun _ => Nat.le_refl _, f7.sl, fun f hf => hKf f (own_into f7 hf).1⟩
   exact ⟨by simp [f1], by simp [f5], by simp [f6], 0, Nat.zero_le _, Nat.zero_add _, by simpa [hL0] using hm0⟩
  rintro q E A' ⟨g1, g5, g6, c, q1, q2, K, d, w', e, wld, kw, cw, hp, mi, g9, q3, hs, hro⟩
  obtain ⟨L, g7⟩ : ∃ L, Env.at E 7 = L := ⟨_, rfl⟩
  rw [g7] at hs hro
  have hlen := hs.rec_lenV
  have hsl := hs.rec_len
  simp only [List.length_map, List.length_range'] at hlen hsl
  have egt : binOf .gtr (.int .i64 ((n - c : Nat) : Int)) (.int .i64 0) = some (.bool (decide (0 < n - c))) := by
   rw [bin_gtr]
   congr 2
   rw [decide_eq_decide]
   omega
  by_cases hc : c < n
  ·rw [decide_eq_true (by omega)] at egt
   obtain ⟨k00, hk00, ek⟩ := add_nat (a := pc) (b := 10) (by omega) (by omega)
   have ek : binOf .add (.int .i64 (pc : Int)) (.int .i64 10) = some (.int .i64 (k00 : Int)) := ek
   have egk : binOf .gtr (.int .i64 (k00 : Int)) (.int .i64 ((n - c : Nat) : Int)) = some (.bool (decide (n - c < k00))) := by
    rw [bin_gtr]
    congr 2
    rw [decide_eq_decide]
    omega
   obtain ⟨k0, hk0⟩ : ∃ k0, k0 = k00 := ⟨_, rfl⟩
   rw [← hk0] at ek egk
   obtain ⟨nc, hnc⟩ : ∃ nc, nc = n - c := ⟨_, rfl⟩
   rw [← hnc] at hlen hsl egt egk hs
   obtain ⟨k, hk⟩ : ∃ k, k = min k0 nc := ⟨_, rfl⟩
   have hck : c + k ≤ n ∧ k < 70 ∧ 1 ≤ k := by omega
   simp only [Go.AM.wp_seq]
   simp [g7, hlen, egt, -Go.AM.wp_seq, -bin_gtr]
   simp only [Go.AM.wp_seq]
   simp [g1, ek, -Go.AM.wp_seq, -bin_add]
   refine wp_cut1 (fun E2 A2 => A2 = A' ∧ Env.at E2 1 = .int .i64 pc ∧ Env.at E2 5 = .ptr (some (w, 0, 0)) ∧ Env.at E2 6 = .int .i64 n ∧ Env.at E2 7 = L ∧ Env.at E2 9 = .int .i64 e ∧ Env.at E2 10 = .int .i64 k) ?_ ?_
   ·by_cases hcut : nc < k0
    ·rw [decide_eq_true hcut] at egk
     have : k = nc := by omega
     simp [g1, g5, g6, g7, g9, hlen, egk, this, -bin_gtr]
    ·rw [decide_eq_false hcut] at egk
     have : k = k0 := by omega
     simp [g1, g5, g6, g7, g9, hlen, egk, this, -bin_gtr]
   rintro E2 A2 ⟨rfl, b1, b5, b6, b7, b9, b10⟩
   obtain ⟨s1, z1, z2, z3⟩ := hs.cutTo (hi := k) (by omega) (j := .i64)
   obtain ⟨s2, y1, y2, y3⟩ := hs.cutFrom (lo := k) (by omega) (k := .i64)
   rw [ChR.take, take_range c nc k (by omega)] at z3
   have hdrop : (ChR.all ((List.range' c nc).map chK)).drop (k * 3) = ChR.all ((List.range' (c + k) (n - (c + k))).map chK) := by
    have e1 : (List.range' c nc).map chK = chs c k ++ (List.range' (c + k) (n - (c + k))).map chK := by
     unfold chs
     rw [← List.map_append]
     congr 1
     rw [show nc = k + (n - (c + k)) by omega]
     rw [List.range'_append_1]
    have e2 := ChR.length (chs c k)
    rw [chs_len] at e2
    rw [e1, ChR.append, ← e2, List.drop_left]
   rw [hdrop] at y3
   have in1 : ∀ f, s1.into f = true → L.into f = true := fun f hf => cut_into z1 hf
   have in2 : ∀ f, s2.into f = true → L.into f = true := fun f hf => cut_into y1 hf
   have l1' := cw.ld 1 (v := .ptr (some (h, 0, 0))) rfl
   have hmf := mi.few
   have hw' := q3 hc
   have hnn : ∀ x ∈ chs c k, i64ok x.n := fun x hx => by
    unfold chs at hx
    obtain ⟨i, hi, rfl⟩ := List.mem_map.1 hx
    obtain ⟨y, hy, rfl⟩ := List.mem_range'.1 hi
    simp [chK, i64ok]
    omega
   simp
   refine Wp.draws ?_
   simp [b5, b7, b10, AV.addr, l1', z1, opsD_callf, allKnown, z3.allKnown]
   refine (hput_spec HX HC HI HK wld hp z3 (fun f hf => hro f (in1 f hf)) (mark := 1) (by rw [chs_len]; omega) hnn (by omega) (by rw [chs_len]; omega) (by rw [chs_len]; omega) (by omega)).mono fun r C ⟨K7, u7, wld7, m7, hp7, hr7⟩ => ?_
   subst hr7
   have hstep := mi.step hp.ok hck.1 hck.2.1 (by omega) (by omega)
   have kw7 : K7 w = 99 := by rw [u7 w cw.lt]; exact kw
   have cw7 := cw.mod m7 (fun hW => by rcases hW with h | h | h <;> omega)
   have s7 : Sl C 3 s2 _ := Sl.mod y3 m7 fun f hf hW => hW.ne0 (hro f (in2 f hf))
   have ro7 : RoS K7 s2 := fun f hf => by rw [u7 f (Sl.into_lt y3 hf)]; exact hro f (in2 f hf)
   simp
   refine ⟨by simp [InAll, l1', AV.beq], ?_⟩
   by_cases hz : (d.put 1 (chs c k)).1 = 0
   ·rw [if_neg (by simp [hz])] at hstep
    simp [hz, b1, b5, b6, b7, b9, b10, y1]
    exact ⟨q - k, by omega, c + k, by omega, by omega, K7, _, w' + 1, e, wld7, kw7, cw7, hp7, hstep, rfl, by omega, s7, ro7⟩
   ·rw [if_pos hz] at hstep
    simp [hz, b1, b5, b6, b7, b10, y1]
    exact ⟨q - k, by omega, c + k, by omega, by omega, K7, _, w' + 1, _, wld7, kw7, cw7, hp7, hstep, rfl, by omega, s7, ro7⟩
  ·obtain rfl : c = n := by omega
   have egt0 : binOf .gtr (.int .i64 0) (.int .i64 0) = some (.bool false) := by rw [bin_gtr]; rfl
   rw [Nat.sub_self] at hlen
   simp [g5, g6, g7, g9, hlen, egt0, -bin_gtr]
   exact ⟨K, d, w', e, wld, kw, cw, hp, mi, rfl, q3, hs, hro⟩
 rintro E A3 ⟨g5, g6, K3, d, w', e, wld3, kw3, cw3, hp3, mi, g9, _, _, _⟩
 have l1' := cw3.ld 1 (v := .ptr (some (h, 0, 0))) rfl
 have hrow := hp3.ok.rows
 have egt : binOf .gtr (.int .i64 (n : Int)) (.int .i64 256) = some (.bool (decide (256 < n))) := by
  rw [bin_gtr]
  congr 2
  rw [decide_eq_decide]
  omega
 have ele : binOf .leq (.int .i64 (n : Int)) (.int .i64 256) = some (.bool (decide (n ≤ 256))) := by
  rw [bin_leq]
  congr 2
  rw [decide_eq_decide]
  omega
 have elr : binOf .leq (.int .i64 ((rowsI d.idx).length : Int)) (.int .i64 256) = some (.bool true) := by
  rw [bin_leq]
  congr 2
  rw [decide_eq_true_eq]
  omega
 rcases mi.ok with ⟨he, hln⟩ | ⟨he, hbig⟩
 ·have h256 : n ≤ 256 := by omega
  rw [decide_eq_false (by omega)] at egt
  rw [decide_eq_true h256] at ele
  subst he
  simp [g5, g6, g9, egt, ele, eqbV, pickV, AV.addr, l1', ops_callf, allKnown, -bin_gtr, -bin_leq]
  refine (hlen_spec HK hp3).mono fun r C ⟨x4, hr⟩ => ?_
  subst hr
  obtain ⟨B7, hB7⟩ := HAw C (wld3.ext x4).glob
  simp [elr, pickV, ops_callf, allKnown, -bin_leq]
  refine Ev.ext rfl hB7 ?_
  simp [pickV]
 ·rw [decide_eq_true hbig] at egt
  rw [decide_eq_false (by omega)] at ele
  subst he
  simp [g5, g6, g9, egt, ele, eqbV, pickV, AV.addr, l1', ops_callf, allKnown, -bin_gtr, -bin_leq]
  refine (hlen_spec HK hp3).mono fun r C ⟨x4, hr⟩ => ?_
  subst hr
  obtain ⟨B7, hB7⟩ := HAw C (wld3.ext x4).glob
  simp [elr, pickV, ops_callf, allKnown, -bin_leq]
  refine Ev.ext rfl hB7 ?_
  simp [pickV]
end
end Go.Proofs.YtlaoookdegmnnaaGreatDoor
