/- The second law: which bytes are operations', and which. -/
import Derived.Test.YtejlhgcheaimjaaGreatDoorRtREnc
import Derived.Test.YtejlhgcheaimjaaGreatDoorRtDocDec
import Derived.Test.YtejlhgcheaimjaaGreatDoorRtAwake
import Derived.Test.YtejlhgcheaimjaaGreatDoorRtRow
namespace Go.Proofs.YtejlhgcheaimjaaGreatDoor
open Go.AM
set_option maxRecDepth 100000
set_option linter.unusedSimpArgs false
set_option linter.unusedVariables false
/-- One byte of one's own is written. -/
theorem own_setB {lo : Nat} {A : St} {s : AV} {l : List UInt8} (h : OwnB lo A s l) {j : Nat} (hj : j < l.length) (k : IntKind) :
    ∃ p c, atSliceV 1 s (.int k j) = some (.ptr (some p)) ∧ loadV A 1 false (.ptr (some p)) = some (byteV c) ∧ ∀ d : UInt8, ∃ B, storeV A 1 (.ptr (some p)) (byteV d) = some (.bot, B) ∧ OwnB lo B s (l.set j d) ∧ But A B s := by
  have hsl : Sl A 1 s (bytesV l) := h.sl
  obtain ⟨p, g1, g2⟩ := hsl.at_one (j := j) (v := byteV l[j]) (by simp [bytesV, List.getElem?_eq_getElem hj]) k
  refine ⟨p, l[j], g1, g2, fun d => ?_⟩
  have e : bytesV (l.set j d) = (bytesV l).set j (byteV d) := by simp [bytesV, List.map_set]
  unfold OwnB at h ⊢
  rw [e]
  have hj' : j < (bytesV l).length := by simpa using hj
  generalize bytesV l = cs at h hj'
  cases h with
  | nil po cap q => simp at hj'
  | @mem f v o po len cap q all vers nv y hlo hf hg hv h1 h2 h3 hq =>
    rw [List.length_take, List.length_drop] at hj'
    have hp : atSliceV 1 (.slice (some (f, v, o)) po len cap q) (.int k j) = some (.ptr (some (f, v, o + j))) := by
      unfold atSliceV
      dsimp only
      rw [show index? len (.int k (j : Int)) = some j by simp [index?]; omega]
      simp [AV.addr]
    rw [hp] at g1
    cases g1
    have hlook : A.look (f, v, o + j) = some (all, y, nv, false) := by
      unfold St.look; dsimp only; rw [hg]; dsimp only; rw [hv]; rfl
    refine ⟨A.put f (.cells (splice all (o + j) [byteV d]) [y] nv false), ?_, ?_, but_put _⟩
    · have hw : A.write (f, v, o + j) [byteV d] = some (A.put f (.cells (splice all (o + j) [byteV d]) [y] nv false)) := by
        simp only [St.write, hlook]
        rw [if_pos ⟨by omega, by simp only [List.length_singleton]; omega, h3, by rfl⟩]
      unfold storeV byteV
      unfold byteV at hw
      simp only [AV.cells, hw]
      rfl
    · have hall : o + j < all.length := by omega
      rw [splice_one hall]
      have e2 : ((all.drop o).take (len * 1)).set j (byteV d) = ((all.set (o + j) (byteV d)).drop o).take (len * 1) := by
        rw [List.drop_set, if_neg (by omega), List.take_set]
        congr 1
        omega
      rw [e2]
      have hy := (findVer_spec hv).2
      exact .mem hlo hf (by rw [St.get_put, if_pos rfl]) (by simp [findVer, hy]) h1 h2 (by simpa using h3) hq
theorem opsS_ok : ∀ (n : Nat) (s : RdS), ∀ o ∈ (opsS n s).1, i64ok o.n ∧ i64ok o.lo ∧ o.key.length ≤ 16
  | 0, _, o, h => by cases h
  | _ + 1, none, o, h => by cases h
  | n + 1, some l, o, h => by
    simp only [opsS, List.mem_cons] at h
    rcases h with rfl | h
    · refine ⟨zag_ok (natS_lt _), zag_ok (natS_lt _), ?_⟩
      unfold opS
      simp only
      generalize (natS (some l)).2 = s
      cases s with
      | none => exact Nat.zero_le _
      | some b =>
        unfold strS
        simp only
        cases natP b with
        | none => simp
        | some nr =>
          obtain ⟨n, r⟩ := nr
          simp only
          by_cases hn : 16 < n ∨ r.length < n
          · rw [if_pos hn]
            simp
          · rw [if_neg hn]
            simp
            omega
    · exact opsS_ok n _ o h
theorem decP_ok {b : List UInt8} {l : List OpD} (h : decP mayL b = some l) : l.length ≤ 64 ∧ b = encL l ∧ ∀ o ∈ l, o.Ok ∧ o.key.length ≤ 20 := by
  obtain ⟨h1, h2, h3⟩ := dec_enc h
  refine ⟨h2, h1, fun o ho => ?_⟩
  have hm : mayL o = true := List.all_eq_true.1 h3 o ho
  unfold decP at h
  split at h
  · cases h
  split at h
  · rename_i l' he
    split at h
    · cases h
      obtain ⟨q1, q2, q3⟩ := opsS_ok (natS (some b)).1 (natS (some b)).2 o (by rw [he]; exact ho)
      refine ⟨⟨?_, ?_, q1, q2⟩, by omega⟩
      · unfold mayL plainL at hm
        unfold i64ok
        rw [Bool.and_eq_true] at hm
        have := hm.1
        split at this
        · omega
        · split at this
          · omega
          · simp at this; omega
      · have : (16 : Nat) ≤ maxLen := by decide
        omega
    · cases h
  · cases h
theorem law4 {A : St} (hA : A0.Ext A) {s t : AV} {l : List OpD} {at_ : Int} {by_ : UInt8} {other : List UInt8} (hs : Sl A 4 s (opsCells l)) (ht : Sl A 1 t (bytesV other)) :
    Ev D0 G0 fnsL XA 4 [s, .int .i64 at_, byteV by_, t] A fun r _ => r = .bool true := by
  refine Ev.fnK (fn := a4) rfl ⟨by simp [a4], by decide⟩ ?_
  unfold a4
  simp [ht.lenV1]
  refine contC_join (fun E A' => A = A' ∧ Env.at E 0 = s ∧ Env.at E 1 = .int .i64 at_ ∧ Env.at E 2 = byteV by_ ∧ ∃ (v : AV) (o2 : List UInt8), Env.at E 3 = v ∧ Sl A 1 v (bytesV o2) ∧ o2.length ≤ 200) (fun hc => ?_) (fun hc => ?_) ?_
  · simp at hc
    have hsl := Bs.len ht
    obtain ⟨s', k1, k2, k3⟩ := ht.cutTo (hi := 200) (by omega) (j := .i64)
    simp at k1
    simp [k1]
    rw [Nat.mul_one, bytesV_take] at k3
    exact ⟨_, k3, by simp; omega⟩
  · simp at hc
    simp
    exact ⟨_, ht, by omega⟩
  rintro E B ⟨rfl, e0, e1, e2, v, o2, e3, hv, ho2⟩
  simp [e0, ops_callf, allKnown, hs.allKnown]
  refine (cut_spec hs).mono fun r B ⟨x1, o1⟩ => ?_
  have hc1 : (cutL l).length ≤ 100 := by unfold cutL; simp; omega
  have hc2 : ∀ o ∈ cutL l, o.key.length ≤ 20 := fun o ho => by
    unfold cutL at ho
    obtain ⟨q, _, rfl⟩ := List.mem_map.1 ho
    show (q.key.take 20).length ≤ 20
    simp; omega
  simp [ops_callf, allKnown, o1.sl.allKnown]
  refine (renc_spec o1.sl hc1 hc2).mono fun w C ⟨x2, b, ob, hb⟩ => ?_
  simp [ob.sl.lenV1]
  have hC : A0.Ext C := (hA.trans x1).trans x2
  have hv2 := Sl.ext x2 (Sl.ext x1 hv)
  refine contC_join (fun E A' => A0.Ext A' ∧ ∃ (u : AV) (b : List UInt8), Env.at E 9 = u ∧ Sl A' 1 u (bytesV b) ∧ b.length ≤ 10000 ∧ Env.at E 3 = v ∧ Sl A' 1 v (bytesV o2)) (fun hc => ?_) (fun hc => ?_) ?_
  · simp at hc
    have er : binOf .rem (.int .i64 at_) (.int .i64 (b.length : Int)) = some (.int .i64 (at_.tmod b.length)) := bin_rem _ _ _ (by omega)
    simp [e1, er, ob.sl.lenV1]
    refine contC_join (fun E A' => C = A' ∧ Env.at E 9 = w ∧ Env.at E 2 = byteV by_ ∧ Env.at E 3 = v ∧ ∃ j : Nat, Env.at E 1 = .int .i64 j ∧ j < b.length) (fun hc => ?_) (fun hc => ?_) ?_
    · simp at hc
      have hlt := Int.tmod_lt_of_pos at_ (show (0 : Int) < b.length by omega)
      have hgt := Int.lt_tmod_of_pos at_ (show (0 : Int) < b.length by omega)
      simp [un_neg, e2, e3]
      refine ⟨(0 - at_.tmod b.length).toNat, ?_, by omega⟩
      rw [wrap_i64 (by omega) (by omega)]
      omega
    · simp at hc
      have hlt := Int.tmod_lt_of_pos at_ (show (0 : Int) < b.length by omega)
      simp [e2, e3]
      refine ⟨(at_.tmod b.length).toNat, ?_, by omega⟩
      omega
    rintro E C' ⟨rfl, f9, f2, f3, j, f1, hj⟩
    obtain ⟨p, c, g1, g2, gd⟩ := own_setB ob hj .i64
    have hx : binOf .xor (byteV c) (byteV by_) = some (byteV (c ^^^ by_)) := by
      have h8 : c.toNat ^^^ by_.toNat < 2 ^ 8 := Nat.xor_lt_two_pow c.toNat_lt by_.toNat_lt
      unfold byteV
      rw [bin_xor_un rfl c.toNat_lt by_.toNat_lt, UInt8.toNat_xor]
    obtain ⟨D, g3, g4, g5⟩ := gd (c ^^^ by_)
    simp [f1, f2, f3, f9, g1, g2, hx, g3]
    have hbe := g5.ext (A0 := B) x2 ob
    refine ⟨hA.trans (x1.trans hbe), _, g4.sl, by simpa using hb, Sl.ext hbe (Sl.ext x1 hv)⟩
  · simp at hc
    simp [e3]
    exact ⟨hC, b, ob.sl, hb, hv2⟩
  rintro E C ⟨hC, u, b, e9, hu, hb, e3, hv⟩
  have hsl : Sl (C.make [u, v] 1).2 1 (.slice (some (C.next, 0, 0)) 0 2 2 0) [u, v] := (own_make_exact C (cs := [u, v]) (sz := 1) (n := 2) rfl (Nat.le_refl _) (len := 2) (Nat.le_refl _)).sl
  have x3 := ext_make C [u, v] 1
  have hpp : PartsB (C.make [u, v] 1).2 [u, v] [b, o2] := ⟨Sl.ext x3 hu, Sl.ext x3 hv, trivial⟩
  simp [e9, e3, fillA, hu.notBot, hv.notBot, hu.cells, hv.cells, splice, Made.value]
  generalize (C.make [u, v] 1).2 = C1 at *
  have hC1 := hC.trans x3
  generalize hz : AV.slice (some (C.next, 0, 0)) 0 2 2 0 = z at *
  refine Wp.loopK (fun d E A' => C1.Ext A' ∧ Env.at E 44 = z ∧ Env.at E 45 = .int .i64 2 ∧ ∃ i : Nat, Env.at E 46 = .int .i64 i ∧ i + d = 2) 2 ?_ ?_
  · exact ⟨St.Ext.refl _, by simp, by subst hz; simp [lenV], 0, by simp, rfl⟩
  rintro d E D ⟨xD, e44, e45, i, e46, hid⟩
  have el : binOf .lss (.int .i64 (i : Int)) (.int .i64 2) = some (.bool (decide (i < 2))) := lss_nat .i64 i 2
  simp [e44, e45, e46, el, -bin_lss]
  refine contC_of (fun hc => ?_) (fun hc => ?_)
  · simp at hc
    obtain ⟨x, bx, hx1, hx2, hx3⟩ := hpp.get (i := i) (by simpa using hc)
    have hbx : bx.length < 2 ^ 40 := by
      have : bx ∈ [b, o2] := List.mem_of_getElem? hx2
      simp at this
      rcases this with rfl | rfl <;> omega
    have hx3 : Sl D 1 x (bytesV bx) := Sl.ext xD hx3
    obtain ⟨p, g1, g2⟩ := (Sl.ext xD hsl).at_one hx1 .i64
    have ea := add_one (i := i) (by omega)
    simp [e44, e46, g1, g2, ops_callf, allKnown, hx3.allKnown]
    refine (dec_spec (hC1.trans xD) hx3 hbx).mono fun r F ⟨xF, hr⟩ => ?_
    have hx4 := hx3.ext xF
    cases hd : decP mayL bx with
    | none =>
      rw [hd] at hr
      simp only at hr
      subst hr
      simp [ops_callf, allKnown, hx4.allKnown]
      refine (rdec_spec hx4 hbx).mono fun r F2 ⟨xF2, hr⟩ => ?_
      rw [hd] at hr
      simp only at hr
      subst hr
      simp
      refine Wp.draws ?_
      simp [opsD_callf, allKnown]
      refine (same_spec (l := []) (.nil _ _ _) (.nil _ _ _) (by decide)).mono fun r F3 ⟨hF, hr⟩ => ?_
      subst hF hr
      simp [pickV, e44, e45, e46, ea, -bin_add]
      exact ⟨d - 1, by omega, (xD.trans xF).trans xF2, i + 1, by omega, by omega⟩
    | some lo =>
      rw [hd] at hr
      obtain ⟨w, rfl, ow⟩ := hr
      obtain ⟨q1, q2, q3⟩ := decP_ok hd
      simp [ops_callf, allKnown, hx4.allKnown]
      refine (rdec_spec hx4 hbx).mono fun r F2 ⟨xF2, hr⟩ => ?_
      rw [hd] at hr
      obtain ⟨w2, rfl, ow2⟩ := hr
      have hw := ow.sl.ext xF2
      have hx5 := hx4.ext xF2
      simp
      refine Wp.draws ?_
      simp [opsD_callf, allKnown, hw.allKnown, ow2.sl.allKnown]
      refine (same_spec hw ow2.sl (by omega)).mono fun r F3 ⟨hF, hr⟩ => ?_
      subst hF hr
      simp [pickV, opsD_callf, allKnown, hw.allKnown]
      refine (enc_spec hw (by omega) q3).mono fun r F4 ⟨xF4, or⟩ => ?_
      have hx6 := hx5.ext xF4
      have t1 := Sl.text or.sl
      have t2 := Sl.text hx6
      have t3 := Sl.text hx5
      rw [← q2] at t1
      simp [t1, t2, t3, InAll, AV.beq, pickV, e44, e45, e46, ea, -bin_add]
      exact ⟨d - 1, by omega, ((xD.trans xF).trans xF2).trans xF4, i + 1, by omega, by omega⟩
  · simp [ops_callf, allKnown]
    refine (awake_spec (hC1.trans xD)).mono fun r B3 ⟨_, hr⟩ => ?_
    subst hr
    simp
end Go.Proofs.YtejlhgcheaimjaaGreatDoor
/- The statement OpsReads: of any bytes it is told whether they are operations', and which. Nothing is asked of the input. -/
namespace Go.Proofs.YtejlhgcheaimjaaGreatDoor
open Go Go.AM Go.ChangeShapes Go.WideShapes Go.ChangeAt Go.RowKit
set_option maxRecDepth 100000

theorem opsReads_lifted (os : Os) (started : os.Started) (H : Type) (enc : TypeId × Value → H) :
    ReturnsInHanded {} Tryz.checked os 4 .any (fun w args => (Rows.opsReadsSpec.pre enc Tryz.prog Tryz.f4 [] false w args ∧ laidMetH Tryz.prog laidL w) ∧ sizedMet enc Tryz.prog Tryz.f4 (OpenSpec.ofChange Rows.opsReadsSpec) false w args)
      (Rows.opsReadsSpec.post enc Tryz.prog Tryz.f4 false true false false) := by
  refine returnsInHanded_of_change_and (C := Tryz.checked) (X := fun w _ => laidMetH Tryz.prog laidL w) (fun _ _ _ hh h => h.of_heap hh) own started (by kernel_rfl) Tryz.func4
    (ChangeSpec.witness_shaped (enc := enc) (C := Tryz.checked) (os := os) (X := fun w _ => laidMetH Tryz.prog laidL w) false (w0 os) #[.slice none 0 0, .int .i64 0, .int .u8 0, .slice none 0 0] 8 (w0_os os) (World.shaped_of_ZipB (by kernel_rfl) (by kernel_rfl)) (by kernel_rfl) (by kernel_rfl) (by kernel_rfl) (door_met os _)) ?_
  intro W base args ds gs before hval0 hW _ _ hL _
  have hval : ∀ (j : Nat) t v, Tryz.f4.params[j]? = some t → args[j]? = some v → Value.okWide Tryz.prog W .any base t v := hval0
  have hW' := hW
  obtain ⟨p, q, hA0, hV, _, _, _⟩ := hW'
  have hA : DataW.TrodAll enc Tryz.prog W 0 (fun _ => true) true Tryz.f4.params.toList args.toList ds p := hA0
  have hp : Tryz.f4.params.toList = [22, 3, 5, 33] := by rw [Tryz.params4]
  rw [hp] at hA
  obtain ⟨v0, v1, v2, v3, d0, d1, d2, d3, p0, p1, p2, p3, rfl, rfl, rfl, h0, h1, h2, h3⟩ := trodAll_four hA
  obtain ⟨rfl, rfl⟩ := trodVars_none hV
  refine law_callsG (P := Tryz.prog) (fn := Tryz.f4) (s := Rows.opsReadsSpec) (t := 4) (k := 5) (D := D0) (fns := fnsL) mixed ⟨rfl, few⟩ (start hL) (baseOk_two (by decide)) fnsL_comp xa_ok laidOut rfl (by kernel_rfl) Tryz.underlying4 ?_ hval hW rfl ?_
  · rw [hp]
    intro t ht
    simp only [List.mem_cons, List.not_mem_nil, or_false] at ht
    rcases ht with rfl | rfl | rfl | rfl
    · exact par22
    · exact par3
    · exact par5
    · exact par33
  · rw [hp]
    intro A vs hA0 _ hvs
    match vs, hvs with
    | [a0, a1, a2, a3], ⟨r0, r1, r2, r3, _⟩ =>
      obtain ⟨l0, ok0, sl0, ll0⟩ := argOps Tryz.underlying22 (by kernel_rfl) opT41 r0
      obtain ⟨i1, rfl, lo1, hi1⟩ := argInt Tryz.underlying3 r1
      obtain ⟨i2, rfl, lo2, hi2⟩ := argInt Tryz.underlying5 r2
      obtain ⟨b3, sl3, lb3⟩ := bs_of_arg Tryz.underlying33 Tryz.underlying5 (by kernel_rfl) r3
      have e2 : AV.int .u8 i2 = byteV (UInt8.ofNat i2.toNat) := by
        unfold byteV
        have h1 : 0 ≤ i2 := lo2
        have h2 : i2 ≤ 255 := hi2
        rw [UInt8.toNat_ofNat']
        congr 1
        omega
      rw [e2]
      exact law4 hA0 sl0 sl3

theorem opsReads_said : Rows.OpsReadsSaid :=
  OpenClaim.holds_of_wide 4 Tryz.f4 rfl rfl rfl rfl rfl rfl rfl ⟨rfl, rfl, rfl, rfl, rfl⟩ rfl rfl rfl rfl rfl (by kernel_rfl) Tryz.func4 (by kernel_rfl)
    (of_decide_eq_true (by kernel_rfl)) (by unfold Func.isWrapper; first | (rw [if_pos (by decide +kernel)]; kernel_rfl) | (rw [if_neg (by decide +kernel)]; exact ⟨rfl, rfl⟩))
    (fun os started H enc _ => opsReads_lifted os started H enc)

theorem opsReads_holds : Rows.OpsReadsCardSaid :=
  Claim7.holds_tied_plain_at .later [] [.data, .data, .data, .data, .handle, .sentinel, .sentinel, .pinned] true (true, "f47f2856b14d585c07ac66f5877d153b1fb7d271b8846f5c0bbb0d4c0a5f080e") true
    opsReads_said (fun _ h => by cases h) (by kernel_rfl) (fun _ h => by cases h) opsReads_row_tie rfl ⟨rfl, rfl⟩ (by kernel_rfl) rfl
    (fun f fn hf hfn => by
      obtain rfl : f = 4 := Option.some.inj ((show Tryz.prog.funcNamed "byroad/byroadlaw06.OpsReads" = some 4 by kernel_rfl).symm.trans hf) |>.symm
      obtain rfl : fn = Tryz.f4 := (Option.some.inj (Tryz.func4.symm.trans hfn)).symm
      exact ⟨by kernel_rfl, fun j t ht => by
        rw [Tryz.params4] at ht
        have h3 : t = 22 ∨ t = 3 ∨ t = 5 ∨ t = 33 := by
          rcases j with _ | _ | _ | _ | j
          · left; simpa using ht.symm
          · right; left; simpa using ht.symm
          · right; right; left; simpa using ht.symm
          · right; right; right; simpa using ht.symm
          · simp at ht
        rcases h3 with rfl | rfl | rfl | rfl
        · exact (show Tryz.prog.wantsStandIn 22 = false by kernel_rfl)
        · exact (show Tryz.prog.wantsStandIn 3 = false by kernel_rfl)
        · exact (show Tryz.prog.wantsStandIn 5 = false by kernel_rfl)
        · exact (show Tryz.prog.wantsStandIn 33 = false by kernel_rfl)⟩)
    (by kernel_rfl)
end Go.Proofs.YtejlhgcheaimjaaGreatDoor
