/- The abstract machine: maps and iterators. -/
import Derived.Test.YtejlhgcheaimjaaGreatDoorAmEff
import Derived.MapKept
import Derived.RangeFuncRecord
namespace Go.AM
open Go.MapKept
set_option linter.unusedVariables false
set_option linter.unusedSimpArgs false
section
variable {P : Program} {M0 : Mu} {m : Mu} {n : Nat} {E : Env} {a : Act} {F : Fr} {A : St} {w : World}

def KD (d : TypeDesc) : KK → Prop
  | .int k => d = .int k
  | .str => d = .string
  | .bool => d = .bool
theorem keyKind_spec {t : TypeId} {kd : KK} (h : keyKind P t = some kd) : ∃ d, P.underlying t = some d ∧ KD d kd := by
  unfold keyKind at h
  split at h
  · rename_i k hk; cases h; exact ⟨_, hk, rfl⟩
  · rename_i hk; cases h; exact ⟨_, hk, rfl⟩
  · rename_i hk; cases h; exact ⟨_, hk, rfl⟩
  · cases h
theorem mapKind_spec {t : TypeId} {kd : KK} {e : TypeId} (h : mapKind P t = some (kd, e)) : ∃ k d, P.underlying t = some (.map k e) ∧ P.underlying k = some d ∧ KD d kd := by
  unfold mapKind at h
  split at h
  · rename_i k e' hu
    simp only [Option.map_eq_some_iff] at h
    obtain ⟨kd', h1, h2⟩ := h
    cases h2
    obtain ⟨d, h3, h4⟩ := keyKind_spec h1
    exact ⟨k, d, hu, h3, h4⟩
  · cases h
theorem isKey_of {kd : KK} {d : TypeDesc} (hd : KD d kd) {k : AV} (hk : keyOk kd k = true) {kv : Value} (hc : cvo m k = some kv) : IsKey d kv := by
  cases kd <;> cases k <;> simp [keyOk] at hk <;> simp [cvo] at hc <;> subst hc <;> simp only [KD] at hd
  · subst hd; simp [IsKey, hk]
  · subst hd; simp [IsKey]
  · subst hd; simp [IsKey]
theorem key_cv {kd : KK} {x : Operand} (e : EnvR M0 m n E a) (hk : keyOk kd (ev E x) = true) : cvo m (ev E x) = some (a.eval x) :=
  (ev_sound e x).cv (by intro h; rw [h] at hk; cases kd <;> simp [keyOk] at hk)
theorem sameNow_sound {kd : KK} {d : TypeDesc} (hd : KD d kd) {k x : AV} {kv xv : Value} {r : Bool} (hk : keyOk kd k = true) (h : keySame k x = some r) (hc : cvo m k = some kv) (hx : cvo m x = some xv) :
    Instr.sameNow d kv xv = some r ∧ (r = true → xv = kv) := by
  cases kd <;> cases k <;> simp [keyOk] at hk <;> cases x <;> simp [keySame] at h <;> simp only [KD] at hd
  · subst hd
    subst hk
    obtain ⟨rfl, rfl⟩ := h
    simp [cvo] at hc hx; subst hc; subst hx
    refine ⟨by simp [Instr.sameNow], fun hr => ?_⟩
    have := eq_of_beq hr
    rw [this]
  · subst hd; subst h
    simp [cvo] at hc hx; subst hc; subst hx
    rename_i s s'
    have e : ((⟨s.toArray⟩ : ByteArray) == ⟨s'.toArray⟩) = (s == s') := by
      have key : ((⟨s.toArray⟩ : ByteArray) == ⟨s'.toArray⟩) = (s.toArray == s'.toArray) := rfl
      rw [key, Bool.eq_iff_iff, beq_iff_eq, beq_iff_eq]
      exact ⟨fun h => congrArg Array.toList h, fun h => congrArg List.toArray h⟩
    refine ⟨by simp only [Instr.sameNow, e], fun hr => ?_⟩
    have := eq_of_beq hr
    rw [this]
  · subst hd; subst h
    simp [cvo] at hc hx; subst hc; subst hx
    refine ⟨by simp [Instr.sameNow], fun hr => ?_⟩
    have := eq_of_beq hr
    rw [this]

/-- Where a key stands. -/
theorem mapFind_spec {kd : KK} {d : TypeDesc} (hd : KD d kd) {k : AV} {kv : Value} (hk : keyOk kd k = true) (hc : cvo m k = some kv) : ∀ {es : List (AV × AV × Nat)} {es' : List MapEntry} {i : Nat} {r : Option (Nat × AV × Nat)}, MapR m es es' → mapFind k es i = some r →
    match r with
    | none => Instr.findNow d kv es' i = some none
    | some (i', v, b) => ∃ j e x, i' = i + j ∧ es[j]? = some (x, v, b) ∧ es'[j]? = some e ∧ Instr.findNow d kv es' i = some (some (i', e.val)) ∧ cvo m v = some e.val ∧ e.key = kv ∧ e.born = b
  | [], [], i, r, _, h => by
    simp only [mapFind, Option.some.injEq] at h; subst h; rfl
  | (x, v, b) :: es, e :: es', i, r, ⟨⟨h1, h2, h3⟩, hR⟩, h => by
    simp only [mapFind] at h
    split at h
    · rename_i hs
      cases h
      obtain ⟨g1, g2⟩ := sameNow_sound hd hk hs hc h1
      exact ⟨0, e, x, rfl, rfl, rfl, by simp [Instr.findNow, g1], h2, g2 rfl, h3⟩
    · rename_i hs
      obtain ⟨g1, _⟩ := sameNow_sound hd hk hs hc h1
      have ih := mapFind_spec hd hk hc hR h
      cases r with
      | none => simp only at ih ⊢; simp only [Instr.findNow, g1]; exact ih
      | some r =>
        obtain ⟨i', v', b'⟩ := r
        obtain ⟨j, e', x', k1, k2, k3, k4, k5, k6, k7⟩ := ih
        exact ⟨j + 1, e', x', by omega, k2, k3, by simp only [Instr.findNow, g1]; exact k4, k5, k6, k7⟩
    · cases h
  | [], _ :: _, _, _, h, _ => h.elim
  | _ :: _, [], _, _, h, _ => h.elim

theorem run_zeroAV {t : TypeId} {z : AV} (h : zeroAV P t = some z) (w : World) : ∃ c, (zeroValue t).run P w = .ok c w ∧ cvo m z = some c := by
  unfold zeroAV at h
  split at h
  · rename_i i hi
    split at h
    · rename_i cs hz
      simp only [Option.map_eq_some_iff] at h
      obtain ⟨l, h1, rfl⟩ := h
      refine ⟨.agg cs, by simp [zeroValue, typeInfo, hi, hz], ?_⟩
      simp [cvo, mapM_const h1]
    · rename_i z' _ hz
      exact ⟨z', by simp [zeroValue, typeInfo, hi, hz], constFlat_sound h⟩
    · cases h
  · cases h

/-- A map's block in the world. -/
theorem Rel.mapAt (R : Rel F m A w) {f : Nat} {es : List (AV × AV × Nat)} {clock : Nat} (hg : A.get f = some (.map es clock)) {x : AV} (hx : x = .map (some f)) {c : Value} (s : slotR m x c) :
    ∃ l es', m f 0 = some l ∧ c = .map (some l.cb) ∧ w.heap[l.cb]? = some (.map es' clock) ∧ F l.cb = none ∧ MapR m es es'.toList := by
  obtain ⟨l, es', h1, h2, h3, h4⟩ := R.got f _ hg
  have h := s.cv (by rw [hx]; simp)
  rw [hx] at h
  simp only [cvo, h1, Option.map_some, Option.some.injEq] at h
  exact ⟨l, es', h1, h.symm, h2, h3, h4⟩

/-- A block that is no cells is turned. -/
theorem Rel.put_obj (R : Rel F m A w) {f : Nat} {b0 b : Blk} {l : Loc} {ob o' : Obj} (hg : A.get f = some b0) (h0 : b0.ro = false) (hl : m f 0 = some l) (hF : F l.cb = none) (hob : w.heap[l.cb]? = some ob)
    (ho' : ∀ c e fz, o' ≠ .cells c e fz) (hblk : blkR F m (w.putObj l.cb o') f b) : Rel F m (A.put f b) (w.putObj l.cb o') := by
  have hlt : l.cb < w.heap.size := (Array.getElem?_eq_some_iff.1 hob).1
  have hrw : A.Rw f := ⟨b0, hg, h0⟩
  have hRw : ∀ g, (A.put f b).Rw g → A.Rw g := fun g h => Rw_put hg h0 h
  refine ⟨fun g v k h => ?_, fun g b' h => ?_, fun cb x h => ?_, R.rest, fun g v k g' u k' h1 h2 hne hr => R.apart g v k g' u k' h1 h2 hne (hRw _ hr), fun g v k h1 h2 c e fz hc => ?_, R.same, fun g k h1 h2 => R.orig g k h1 (hRw _ h2), R.frm⟩
  · have := R.dom g v k h
    exact ⟨this.1, by rw [World.putObj_size]; exact this.2⟩
  · rw [St.get_put] at h
    split at h
    · rename_i hgf; cases h; subst hgf; exact hblk
    · rename_i hgf
      refine blkR_mono (Mu.le_refl m) (fun v hv => hv) (R.got g b' h) fun v k hk => ?_
      exact World.putObj_heap_other (fun hcb => R.apart f 0 l g v k hl hk (fun h => hgf h.symm) hrw hcb.symm)
  · rw [World.putObj_heap_other (fun hcb => by rw [hcb, hF] at h; cases h)]
    exact R.keep cb x h
  · by_cases hcb : k.cb = l.cb
    · rw [hcb, World.putObj_heap_same hlt] at hc
      cases hc
      exact absurd rfl (ho' _ _ _)
    · rw [World.putObj_heap_other hcb] at hc
      exact R.unf g v k h1 (hRw _ h2) c e fz hc

theorem MapR.length : ∀ {es : List (AV × AV × Nat)} {es' : List MapEntry}, MapR m es es' → es.length = es'.length
  | [], [], _ => rfl
  | _ :: _, _ :: _, h => by simp [MapR.length h.2]
  | [], _ :: _, h => h.elim
  | _ :: _, [], h => h.elim
theorem MapR.modify {v : AV} {c : Value} (hv : cvo m v = some c) {kv : Value} : ∀ {es : List (AV × AV × Nat)} {es' : List MapEntry} {j : Nat} {e : MapEntry}, MapR m es es' → es'[j]? = some e → e.key = kv →
    MapR m (setVal j v es) (es'.modify j fun e => { e with key := kv, val := c })
  | [], [], j, e, _, h, _ => by simp at h
  | (x, u, b) :: es, e' :: es', 0, e, ⟨⟨h1, h2, h3⟩, h4⟩, h, hk => by
    simp only [List.getElem?_cons_zero, Option.some.injEq] at h
    subst h
    simp only [setVal, List.modify_zero_cons]
    exact ⟨⟨by rw [← hk]; exact h1, hv, h3⟩, h4⟩
  | (x, u, b) :: es, e' :: es', j + 1, e, ⟨h1, h4⟩, h, hk => by
    simp only [setVal, List.modify_succ_cons]
    exact ⟨h1, MapR.modify hv h4 (by simpa using h) hk⟩
  | [], _ :: _, _, _, h, _, _ => h.elim
  | _ :: _, [], _, _, h, _, _ => h.elim
theorem MapR.push {k v : AV} {b : Nat} {e : MapEntry} (he : cvo m k = some e.key ∧ cvo m v = some e.val ∧ e.born = b) : ∀ {es : List (AV × AV × Nat)} {es' : List MapEntry}, MapR m es es' → MapR m (es ++ [(k, v, b)]) (es' ++ [e])
  | [], [], _ => ⟨he, trivial⟩
  | _ :: _, _ :: _, h => ⟨h.1, MapR.push he h.2⟩
  | [], _ :: _, h => h.elim
  | _ :: _, [], h => h.elim
theorem MapR.erase : ∀ {es : List (AV × AV × Nat)} {es' : List MapEntry} (j : Nat), MapR m es es' → MapR m (es.eraseIdx j) (es'.eraseIdx j)
  | [], [], _, _ => by simp [MapR]
  | _ :: _, _ :: _, 0, h => h.2
  | _ :: _, _ :: _, j + 1, h => ⟨h.1, MapR.erase j h.2⟩
  | [], _ :: _, _, h => h.elim
  | _ :: _, [], _, h => h.elim

theorem sameBits_key {kd : KK} {k : AV} {kv : Value} (hk : keyOk kd k = true) (hc : cvo m k = some kv) (N : Nat) : Instr.sameBits N kv kv = true := by
  cases kd <;> cases k <;> simp [keyOk] at hk <;> simp [cvo] at hc <;> subst hc
  · unfold Instr.sameBits; simp
  · unfold Instr.sameBits
    rename_i s
    show (s.toArray == s.toArray) = true
    simp
  · unfold Instr.sameBits; simp

theorem lookup_sound {o : Oper} {t : TypeId} {x i : Operand} {ok : Bool} (hop : o.op = .lookup t x i ok) {kd : KK} {e' : TypeId} (ht : mapKind P t = some (kd, e')) {z : AV} (hz : zeroAV P e' = some z) (R : Rel F m A w) (e : EnvR M0 m n E a) {v : AV}
    (hv : readOf E A (.lookup kd z ok x i) = some v) : ReadOk P m a o v w := by
  obtain ⟨k, d, hu, hk, hd⟩ := mapKind_spec ht
  simp only [readOf] at hv
  cases hko : keyOk kd (ev E i) with
  | false => rw [hko] at hv; cases hv
  | true =>
    rw [hko, cond_true] at hv
    have hck := key_cv e hko
    have hik := isKey_of hd hko hck
    obtain ⟨zc, hz1, hz2⟩ := run_zeroAV hz w
    have zer : cvo m (bif ok then .tuple [z, .bool false] else z) = some (if ok = true then .tuple #[zc, .bool false] else zc) := by
      cases ok
      · exact hz2
      · simp [cvo, cvos, hz2]
    split at hv
    · rename_i hm
      have hem := (ev_sound e x).cv (by rw [hm]; simp)
      rw [hm] at hem
      simp only [cvo, Option.some.injEq] at hem
      cases hv
      have hf : Instr.findNow d (a.eval i) ([] : List MapEntry) 0 = some none := rfl
      refine ⟨_, ?_, zer⟩
      simp [execOp, hop, Instr.lookup, run_underlying hu, ← hem, run_checkKey hk hik, run_findKey hk hf, hz1]
    · rename_i f hm
      split at hv
      · rename_i es clock hg
        obtain ⟨l, es', h1, h2, h3, h4, h5⟩ := R.mapAt hg hm (ev_sound e x)
        split at hv
        · rename_i i' v' b' hf
          cases hv
          obtain ⟨j, e', x', k1, k2, k3, k4, k5, k6, k7⟩ := mapFind_spec hd hko hck h5 hf
          refine ⟨if ok = true then .tuple #[e'.val, .bool true] else e'.val, ?_, ?_⟩
          · simp [execOp, hop, Instr.lookup, run_underlying hu, h2, MapKept.run_getObj_map h3, run_checkKey hk hik, run_findKey hk k4]
          · cases ok
            · exact k5
            · simp [cvo, cvos, k5]
        · rename_i hf
          cases hv
          have hf' := mapFind_spec hd hko hck h5 hf
          refine ⟨_, ?_, zer⟩
          simp [execOp, hop, Instr.lookup, run_underlying hu, h2, MapKept.run_getObj_map h3, run_checkKey hk hik, run_findKey hk hf', hz1]
        · cases hv
      · cases hv
    · cases hv

theorem notCells_map (es : Array MapEntry) (cl : Nat) : ∀ c e fz, (Obj.map es cl) ≠ .cells c e fz := fun _ _ _ h => by cases h
theorem blkR_map {f : Nat} {l : Loc} {es : List (AV × AV × Nat)} {es' : Array MapEntry} {clock : Nat} {ob : Obj} (h1 : m f 0 = some l) (hob : w.heap[l.cb]? = some ob) (h4 : F l.cb = none) (h5 : MapR m es es'.toList) : blkR F m (w.putObj l.cb (.map es' clock)) f (.map es clock) :=
  ⟨l, es', h1, World.putObj_heap_same (Array.getElem?_eq_some_iff.1 hob).1, h4, h5⟩

theorem mapPut_sound {o : Oper} {t : TypeId} {x i y : Operand} (hop : o.op = .mapUpdate t x i y) {kd : KK} {e' : TypeId} (ht : mapKind P t = some (kd, e')) (R : Rel F m A w) (e : EnvR M0 m n E a) {v : AV} {B : St}
    (hv : effOf E A (.mapPut kd x i y) = some (v, B)) : EffOk P F m a o v B w := by
  obtain ⟨k, d, hu, hk, hd⟩ := mapKind_spec ht
  simp only [effOf] at hv
  cases hko : keyOk kd (ev E i) with
  | false => rw [hko] at hv; cases hv
  | true =>
    rw [hko, cond_true] at hv
    have hck := key_cv e hko
    have hik := isKey_of hd hko hck
    split at hv
    · rename_i f hm
      split at hv
      · rename_i es clock hg
        obtain ⟨l, es', h1, h2, h3, h4, h5⟩ := R.mapAt hg hm (ev_sound e x)
        split at hv
        · cases hv
        · rename_i y' hy hyv
          have hcy := (ev_sound e y).cv hyv
          split at hv
          · rename_i b hb
            simp only [Option.some.injEq, Prod.mk.injEq] at hv
            obtain ⟨rfl, rfl⟩ := hv
            unfold mapSet at hb
            split at hb
            · rename_i i' v' b' hf
              cases hb
              obtain ⟨j, e1, x', k1, k2, k3, k4, k5, k6, k7⟩ := mapFind_spec hd hko hck h5 hf
              rw [Nat.zero_add] at k1
              subst k1
              have hij : es'[i']? = some e1 := by rw [← Array.getElem?_toList]; exact k3
              have hR : MapR m (setVal i' (ev E y) es) (es'.modify i' fun e => { e with key := a.eval i, val := a.eval y }).toList := by
                rw [Array.toList_modify]
                exact h5.modify hcy k3 k6
              refine ⟨.skip, undef, w.putObj l.cb (.map (es'.modify i' fun e => { e with key := a.eval i, val := a.eval y }) clock), m, ?_, .inr ⟨rfl, rfl⟩, Mu.le_refl m, R.put_obj hg rfl h1 h4 h3 (notCells_map _ _) (blkR_map h1 h3 h4 hR), .inl rfl⟩
              simp [execOp, hop, Instr.mapUpdate, run_underlying hu, h2, MapKept.run_getObj_map h3, run_checkKey hk hik, run_findKey hk k4, Instr.keyThatStays, hij, k6, sameBits_key hko hck, MapKept.run_setObj_map _ h3, World.putObj]
            · rename_i hf
              cases hb
              have hf' := mapFind_spec hd hko hck h5 hf
              have hR : MapR m (es ++ [(ev E i, ev E y, clock)]) (es'.push { key := a.eval i, val := a.eval y, born := clock }).toList := by
                rw [Array.toList_push]
                exact MapR.push (e := { key := a.eval i, val := a.eval y, born := clock }) ⟨hck, hcy, rfl⟩ h5
              refine ⟨.skip, undef, w.putObj l.cb (.map (es'.push { key := a.eval i, val := a.eval y, born := clock }) (clock + 1)), m, ?_, .inr ⟨rfl, rfl⟩, Mu.le_refl m, R.put_obj hg rfl h1 h4 h3 (notCells_map _ _) (blkR_map h1 h3 h4 hR), .inl rfl⟩
              simp [execOp, hop, Instr.mapUpdate, run_underlying hu, h2, MapKept.run_getObj_map h3, run_checkKey hk hik, run_findKey hk hf', MapKept.run_setObj_map _ h3, World.putObj]
            · cases hb
          · cases hv
      · cases hv
    · cases hv

theorem mapDel_sound {o : Oper} {x i : Operand} {ts : Array TypeId} {t : TypeId} (hop : o.op = .call ⟨.builtin .delete, #[x, i], ts⟩) (hts : ts[0]? = some t) {kd : KK} {e' : TypeId} (ht : mapKind P t = some (kd, e')) (R : Rel F m A w) (e : EnvR M0 m n E a) {v : AV} {B : St}
    (hv : effOf E A (.mapDel kd x i) = some (v, B)) : EffOk P F m a o v B w := by
  obtain ⟨k, d, hu, hk, hd⟩ := mapKind_spec ht
  simp only [effOf] at hv
  cases hko : keyOk kd (ev E i) with
  | false => rw [hko] at hv; cases hv
  | true =>
    rw [hko, cond_true] at hv
    have hck := key_cv e hko
    have hik := isKey_of hd hko hck
    split at hv
    · rename_i hm
      simp only [Option.some.injEq, Prod.mk.injEq] at hv
      obtain ⟨rfl, rfl⟩ := hv
      have hem := (ev_sound e x).cv (by rw [hm]; simp)
      rw [hm] at hem
      simp only [cvo, Option.some.injEq] at hem
      refine ⟨.value (.tuple #[]), .tuple #[], w, m, ?_, .inl rfl, Mu.le_refl m, R, .inr rfl⟩
      simp [execOp, hop, resolve, invoke, builtin, Builtin.delete_, hts, run_underlying hu, ← hem, run_checkKey hk hik]
    · rename_i f hm
      split at hv
      · rename_i es clock hg
        obtain ⟨l, es', h1, h2, h3, h4, h5⟩ := R.mapAt hg hm (ev_sound e x)
        split at hv
        · rename_i b hb
          simp only [Option.some.injEq, Prod.mk.injEq] at hv
          obtain ⟨rfl, rfl⟩ := hv
          unfold mapCut at hb
          split at hb
          · rename_i i' v' b' hf
            cases hb
            obtain ⟨j, e1, x', k1, k2, k3, k4, k5, k6, k7⟩ := mapFind_spec hd hko hck h5 hf
            rw [Nat.zero_add] at k1
            subst k1
            have hlt : i' < es'.size := by
              have := (List.getElem?_eq_some_iff.1 k3).1
              simpa using this
            have hR : MapR m (es.eraseIdx i') (es'.eraseIdxIfInBounds i').toList := by
              rw [Array.toList_eraseIdxIfInBounds]
              exact MapR.erase i' h5
            refine ⟨.value (.tuple #[]), .tuple #[], w.putObj l.cb (.map (es'.eraseIdxIfInBounds i') clock), m, ?_, .inl rfl, Mu.le_refl m, R.put_obj hg rfl h1 h4 h3 (notCells_map _ _) (blkR_map h1 h3 h4 hR), .inr rfl⟩
            simp [execOp, hop, resolve, invoke, builtin, Builtin.delete_, hts, run_underlying hu, h2, MapKept.run_getObj_map h3, run_checkKey hk hik, run_findKey hk k4, MapKept.run_setObj_map _ h3, World.putObj]
          · rename_i hf
            cases hb
            have hf' := mapFind_spec hd hko hck h5 hf
            refine ⟨.value (.tuple #[]), .tuple #[], w.putObj l.cb (.map es' clock), m, ?_, .inl rfl, Mu.le_refl m, R.put_obj hg rfl h1 h4 h3 (notCells_map _ _) (blkR_map h1 h3 h4 h5), .inr rfl⟩
            simp [execOp, hop, resolve, invoke, builtin, Builtin.delete_, hts, run_underlying hu, h2, MapKept.run_getObj_map h3, run_checkKey hk hik, run_findKey hk hf', MapKept.run_setObj_map _ h3, World.putObj]
          · cases hb
        · cases hv
      · cases hv
    · cases hv

theorem lenMap_sound {o : Oper} {x : Operand} {ts : Array TypeId} {t k e' : TypeId} (hop : o.op = .call ⟨.builtin .len, #[x], ts⟩) (hts : ts[0]? = some t) (hu : P.underlying t = some (.map k e')) (R : Rel F m A w) (e : EnvR M0 m n E a) {v : AV}
    (hv : readOf E A (.lenMap x) = some v) : ReadOk P m a o v w := by
  simp only [readOf] at hv
  split at hv
  · rename_i hm
    cases hv
    have hem := (ev_sound e x).cv (by rw [hm]; simp)
    rw [hm] at hem
    simp only [cvo, Option.some.injEq] at hem
    exact ⟨.int .i64 0, by simp [execOp, hop, resolve, invoke, builtin, Builtin.len_, hts, run_underlying hu, ← hem, goInt], rfl⟩
  · rename_i f hm
    split at hv
    · rename_i es clock hg
      cases hv
      obtain ⟨l, es', h1, h2, h3, h4, h5⟩ := R.mapAt hg hm (ev_sound e x)
      have := h5.length
      exact ⟨.int .i64 es'.size, by simp [execOp, hop, resolve, invoke, builtin, Builtin.len_, hts, run_underlying hu, h2, MapKept.run_getObj_map h3, goInt], by simp [cvo, this]⟩
    · cases hv
  · cases hv

/-- A new family that is no cells, over the world's newest block. -/
theorem Rel.new_obj (R : Rel F m A w) {b : Blk} {ob : Obj} (hro : b.ro = false) (hob : ∀ c e fz, ob ≠ .cells c e fz)
    (hblk : ∀ m', m.le m' → m' A.next 0 = some ⟨w.heap.size, 0, 0, 0, 0⟩ → F w.heap.size = none → blkR F m' (w.alloc ob) A.next b) :
    Rel F (m.add A.next 0 ⟨w.heap.size, 0, 0, 0, 0⟩) (A.push b) (w.alloc ob) ∧ m.le (m.add A.next 0 ⟨w.heap.size, 0, 0, 0, 0⟩) ∧ (m.add A.next 0 ⟨w.heap.size, 0, 0, 0, 0⟩) A.next 0 = some ⟨w.heap.size, 0, 0, 0, 0⟩ := by
  have hnone : ∀ v, m A.next v = none := fun v => by
    cases h : m A.next v with
    | none => rfl
    | some l => exact absurd (R.dom _ _ _ h).1 (by omega)
  have hle := Mu.le_add ⟨w.heap.size, 0, 0, 0, 0⟩ (hnone 0)
  have hself : (m.add A.next 0 ⟨w.heap.size, 0, 0, 0, 0⟩) A.next 0 = some ⟨w.heap.size, 0, 0, 0, 0⟩ := by simp [Mu.add]
  have R1 := R.alloc_other ob
  have hF : F w.heap.size = none := by
    cases h : F w.heap.size with
    | none => rfl
    | some o => have := R.keep _ _ h; simp at this
  have hof : ∀ g u k, (m.add A.next 0 ⟨w.heap.size, 0, 0, 0, 0⟩) g u = some k → (g = A.next ∧ u = 0 ∧ k = ⟨w.heap.size, 0, 0, 0, 0⟩) ∨ (g ≠ A.next ∧ m g u = some k) := by
    intro g u k h
    unfold Mu.add at h
    dsimp only at h
    split at h
    · rename_i c; cases h; exact .inl ⟨c.1, c.2, rfl⟩
    · refine .inr ⟨?_, h⟩
      intro hg; subst hg; rw [hnone] at h; cases h
  refine ⟨⟨fun f v l h => ?_, fun f b' h => ?_, R1.keep, R1.rest, fun f v l g u k h1 h2 hne hf => ?_, fun f v l h1 h2 => ?_, fun f v l u k h1 h2 he => ?_, fun f l h1 h2 => ?_, R.frm⟩, hle, hself⟩
  · rcases hof f v l h with ⟨rfl, rfl, rfl⟩ | ⟨_, h⟩
    · simp
    · have := R1.dom f v l h; exact ⟨by simp; omega, this.2⟩
  · rw [St.get_push] at h
    split at h
    · rename_i hf
      subst hf
      cases h
      exact hblk _ hle hself hF
    · rename_i hf
      refine blkR_mono hle (fun v hv => ?_) (R1.got f b' h) fun _ _ _ => rfl
      simp only [Mu.add]
      rw [if_neg (by rintro ⟨h, _⟩; exact hf h)]
      exact hv
  · have hrw : ∀ g, g ≠ A.next → (A.push b).Rw g → A.Rw g := fun g hg ⟨b', hb, hr⟩ => by
      rw [St.get_push, if_neg hg] at hb; exact ⟨b', hb, hr⟩
    rcases hof f v l h1 with ⟨rfl, rfl, rfl⟩ | ⟨n1, h1⟩ <;> rcases hof g u k h2 with ⟨rfl, rfl, rfl⟩ | ⟨n2, h2⟩
    · exact absurd rfl hne
    · have := (R.dom _ _ _ h2).2; intro h; simp only at h; omega
    · have := (R.dom _ _ _ h1).2; intro h; simp only at h; omega
    · exact R.apart f v l g u k h1 h2 hne (hrw _ n1 hf)
  · rcases hof f v l h1 with ⟨rfl, rfl, rfl⟩ | ⟨n1, h1⟩
    · intro c e' fz' hc
      have : (w.alloc ob).heap[w.heap.size]? = some ob := by
        show (w.heap.push _)[w.heap.size]? = _
        rw [Array.getElem?_push, if_pos rfl]
      rw [this] at hc; cases hc; exact absurd rfl (hob _ _ _)
    · refine R1.unf f v l h1 ?_
      obtain ⟨b', hb, hr⟩ := h2
      rw [St.get_push, if_neg n1] at hb
      exact ⟨b', hb, hr⟩
  · rcases hof f v l h1 with ⟨rfl, rfl, rfl⟩ | ⟨n1, h1⟩ <;> rcases hof _ u k h2 with ⟨e, rfl, rfl⟩ | ⟨n2, h2⟩
    · rfl
    · exact absurd rfl n2
    · exact absurd e n1
    · exact R.same f v l u k h1 h2 he
  · rcases hof f 0 l h1 with ⟨rfl, _, rfl⟩ | ⟨n1, h1⟩
    · rfl
    · obtain ⟨b, hb, hr⟩ := h2
      rw [St.get_push, if_neg n1] at hb
      exact R.orig f l h1 ⟨b, hb, hr⟩
theorem heap_newest (w : World) (ob : Obj) : (w.alloc ob).heap[w.heap.size]? = some ob := by
  show (w.heap.push _)[w.heap.size]? = _
  rw [Array.getElem?_push, if_pos rfl]

theorem mkMap_sound {o : Oper} {t : TypeId} (hop : o.op = .makeMap t none) (R : Rel F m A w) {v : AV} {B : St} (hv : effOf E A .mkMap = some (v, B)) : EffOk P F m a o v B w := by
  simp only [effOf, Option.some.injEq, Prod.mk.injEq] at hv
  obtain ⟨rfl, rfl⟩ := hv
  obtain ⟨g1, g2, g3⟩ := R.new_obj (b := .map [] 0) (ob := .map #[] 0) rfl (fun _ _ _ h => by cases h) (fun m' _ h hF => ⟨_, #[], h, heap_newest _ _, hF, trivial⟩)
  refine ⟨.value (.map (some w.heap.size)), .map (some w.heap.size), w.alloc (.map #[] 0), _, ?_, .inl rfl, g2, g1, .inr (by simp [cvo, g3])⟩
  simp [execOp, hop, Instr.makeMap, newObj, Sem.run]

/-- An iterator's block. -/
theorem Rel.iterAt (R : Rel F m A w) {f : Nat} {io : Itr} (hg : A.get f = some (.iter io)) {x : AV} (hx : x = .ptr (some (f, 0, 0))) {c : Value} (s : slotR m x c) :
    ∃ l ob, m f 0 = some l ∧ l.co = 0 ∧ c = .pointer (some ⟨l.cb, 0, none⟩) ∧ w.heap[l.cb]? = some ob ∧ F l.cb = none ∧ ItrR m io ob := by
  obtain ⟨l, ob, ⟨h1, h0⟩, h2, h3, h4⟩ := R.got f _ hg
  obtain ⟨ad, k1, k2⟩ := ptr_sound hx s
  unfold plc at k1
  simp only [h1] at k1
  split at k1
  · rename_i hlo
    cases k1
    refine ⟨l, ob, h1, h0, ?_, h2, h3, h4⟩
    rw [k2, h0]
    simp
  · cases k1
theorem iter_ptr {m' : Mu} {A : St} {w : World} (h : m' A.next 0 = some ⟨w.heap.size, 0, 0, 0, 0⟩) : cvo m' (.ptr (some (A.next, 0, 0))) = some (.pointer (some ⟨w.heap.size, 0, none⟩)) := by
  simp [cvo, plc, h]

theorem range_sound {o : Oper} {t : TypeId} {x : Operand} {isMap : Bool} (hop : o.op = .range t x) (ht : (isMap = false ∧ P.underlying t = some .string) ∨ (isMap = true ∧ ∃ k e, P.underlying t = some (.map k e))) (R : Rel F m A w) (e : EnvR M0 m n E a) {v : AV} {B : St}
    (hv : effOf E A (.range isMap x) = some (v, B)) : EffOk P F m a o v B w := by
  simp only [effOf] at hv
  split at hv
  · rename_i s hs
    simp only [Option.some.injEq, Prod.mk.injEq] at hv
    obtain ⟨rfl, rfl⟩ := hv
    have hu : P.underlying t = some .string := by rcases ht with ⟨_, h⟩ | ⟨h, _⟩; exact h; cases h
    have hc := cvo_str hs (ev_sound e x)
    obtain ⟨g1, g2, g3⟩ := R.new_obj (b := .iter (.str s 0)) (ob := .stringIter ⟨s.toArray⟩ 0) rfl (fun _ _ _ h => by cases h) (fun m' _ h hF => ⟨_, _, ⟨h, rfl⟩, heap_newest _ _, hF, rfl⟩)
    refine ⟨.value (.pointer (some ⟨w.heap.size, 0, none⟩)), _, _, _, ?_, .inl rfl, g2, g1, .inr (iter_ptr g3)⟩
    simp [execOp, hop, Instr.range, run_underlying hu, hc, newObj, Sem.run]
  · rename_i hs
    simp only [Option.some.injEq, Prod.mk.injEq] at hv
    obtain ⟨rfl, rfl⟩ := hv
    obtain ⟨k, e', hu⟩ : ∃ k e, P.underlying t = some (.map k e) := by rcases ht with ⟨h, _⟩ | ⟨_, h⟩; cases h; exact h
    have hc := (ev_sound e x).cv (by rw [hs]; simp)
    rw [hs] at hc
    simp only [cvo, Option.some.injEq] at hc
    obtain ⟨g1, g2, g3⟩ := R.new_obj (b := .iter (.map none 0 [] 0)) (ob := .mapIter none 0 #[] 0) rfl (fun _ _ _ h => by cases h) (fun m' _ h hF => ⟨_, _, ⟨h, rfl⟩, heap_newest _ _, hF, rfl⟩)
    refine ⟨.value (.pointer (some ⟨w.heap.size, 0, none⟩)), _, _, _, ?_, .inl rfl, g2, g1, .inr (iter_ptr g3)⟩
    simp [execOp, hop, Instr.range, run_underlying hu, ← hc, newObj, Sem.run]
  · rename_i f hs
    split at hv
    · rename_i es clock hg
      simp only [Option.some.injEq, Prod.mk.injEq] at hv
      obtain ⟨rfl, rfl⟩ := hv
      obtain ⟨k, e', hu⟩ : ∃ k e, P.underlying t = some (.map k e) := by rcases ht with ⟨h, _⟩ | ⟨_, h⟩; cases h; exact h
      obtain ⟨l, es', h1, h2, h3, h4, h5⟩ := R.mapAt hg hs (ev_sound e x)
      obtain ⟨g1, g2, g3⟩ := R.new_obj (b := .iter (.map (some f) clock [] clock)) (ob := .mapIter (some l.cb) clock #[] clock) rfl (fun _ _ _ h => by cases h)
        (fun m' hle h hF => ⟨_, _, ⟨h, rfl⟩, heap_newest _ _, hF, l, hle.loc _ _ _ h1, rfl⟩)
      refine ⟨.value (.pointer (some ⟨w.heap.size, 0, none⟩)), _, _, _, ?_, .inl rfl, g2, g1, .inr (iter_ptr g3)⟩
      simp [execOp, hop, Instr.range, run_underlying hu, h2, MapKept.run_getObj_map h3, newObj, Sem.run]
    · cases hv
  · cases hv

theorem MapR.filter (q : Nat → Bool) : ∀ {es : List (AV × AV × Nat)} {es' : List MapEntry}, MapR m es es' → MapR m (es.filter fun e => q e.2.2) (es'.filter fun e => q e.born)
  | [], [], _ => trivial
  | (k, v, b) :: es, e :: es', ⟨h1, h2⟩ => by
    simp only [List.filter_cons, h1.2.2]
    split
    · exact ⟨h1, MapR.filter q h2⟩
    · exact MapR.filter q h2
  | [], _ :: _, h => h.elim
  | _ :: _, [], h => h.elim
theorem MapR.all (q : Nat → Bool) : ∀ {es : List (AV × AV × Nat)} {es' : List MapEntry}, MapR m es es' → (es.all fun e => q e.2.2) = (es'.all fun e => q e.born)
  | [], [], _ => rfl
  | (k, v, b) :: es, e :: es', ⟨h1, h2⟩ => by
    simp only [List.all_cons, h1.2.2, MapR.all q h2]
  | [], _ :: _, h => h.elim
  | _ :: _, [], h => h.elim
theorem MapR.isEmpty {es : List (AV × AV × Nat)} {es' : List MapEntry} (h : MapR m es es') : es.isEmpty = es'.isEmpty := by
  have := h.length
  cases es <;> cases es' <;> simp at this ⊢
theorem MapR.stamp {b : Nat} {k v : AV} : ∀ {es : List (AV × AV × Nat)} {es' : List MapEntry}, MapR m es es' → stampAt b es = some (k, v) → ∃ e, es'.find? (fun e => e.born == b) = some e ∧ cvo m k = some e.key ∧ cvo m v = some e.val
  | [], [], _, h => by cases h
  | (x, u, c) :: es, e :: es', ⟨⟨h1, h2, h3⟩, h4⟩, h => by
    simp only [stampAt] at h
    cases hb : Nat.beq c b with
    | true =>
      rw [hb, cond_true] at h
      cases h
      have hb' : (e.born == b) = true := by rw [h3]; exact beq_iff_eq.2 (Nat.eq_of_beq_eq_true hb)
      exact ⟨e, by simp only [List.find?_cons, hb'], h1, h2⟩
    | false =>
      rw [hb, cond_false] at h
      have hb' : (e.born == b) = false := by
        rw [h3]
        cases hc : c == b with
        | false => rfl
        | true =>
          have := eq_of_beq hc
          subst this
          simp at hb
      obtain ⟨e', g1, g2⟩ := MapR.stamp h4 h
      exact ⟨e', by simp only [List.find?_cons, hb']; exact g1, g2⟩
  | [], _ :: _, h, _ => h.elim
  | _ :: _, [], h, _ => h.elim
theorem run_getObj_any {r : Nat} {ob : Obj} (h : w.heap[r]? = some ob) (hn : ∀ c e fz, ob ≠ .cells c e fz) : (getObj r).run P w = .ok ob w := by
  cases ob <;> first | exact absurd rfl (hn _ _ _) | simp [getObj, Sem.run, h]
theorem run_setObj_any {r : Nat} {ob : Obj} (o : Obj) (h : w.heap[r]? = some ob) (hn : ∀ c e fz, ob ≠ .cells c e fz) : (setObj r o).run P w = .ok () (w.putObj r o) := by
  cases ob <;> first | exact absurd rfl (hn _ _ _) | simp [setObj, Sem.run, h, World.putObj]
theorem MapR.nil_inv {es' : List MapEntry} (h : MapR m [] es') : es' = [] := by
  cases es' with
  | nil => rfl
  | cons => exact h.elim
theorem MapR.one_inv {k v : AV} {b : Nat} {es' : List MapEntry} (h : MapR m [(k, v, b)] es') : ∃ e, es' = [e] ∧ cvo m k = some e.key ∧ cvo m v = some e.val ∧ e.born = b := by
  cases es' with
  | nil => exact h.elim
  | cons e es' => cases (MapR.nil_inv h.2); exact ⟨e, rfl, h.1⟩

theorem next_sound {o : Oper} {it : Operand} {isStr : Bool} (hop : o.op = .next it isStr) (R : Rel F m A w) (e : EnvR M0 m n E a) {v : AV} {B : St} (hv : effOf E A (.next isStr it) = some (v, B)) : EffOk P F m a o v B w := by
  simp only [effOf] at hv
  split at hv
  · rename_i f hx
    split at hv
    · rename_i s pos hg
      cases isStr with
      | false => cases hv
      | true =>
        simp only [cond_true] at hv
        obtain ⟨l, ob, h1, h0, h2, h3, h4, h5⟩ := R.iterAt hg hx (ev_sound e it)
        simp only [ItrR] at h5
        subst h5
        split at hv
        · rename_i hlt
          simp only [Option.some.injEq, Prod.mk.injEq] at hv
          obtain ⟨rfl, rfl⟩ := hv
          have hsz : pos < (⟨s.toArray⟩ : ByteArray).size := by simpa [ByteArray.size] using hlt
          refine ⟨.value (.tuple #[.bool true, goInt pos, .int .i32 (Utf8.decode ⟨s.toArray⟩ pos).1]), _, w.putObj l.cb (.stringIter ⟨s.toArray⟩ (pos + (Utf8.decode ⟨s.toArray⟩ pos).2)), m, ?_, .inl rfl, Mu.le_refl m,
            R.put_obj hg rfl h1 h4 h3 (fun _ _ _ h => by cases h) ⟨l, _, ⟨h1, h0⟩, World.putObj_heap_same (Array.getElem?_eq_some_iff.1 h3).1, h4, rfl⟩, .inr rfl⟩
          simp [execOp, hop, Instr.next, h2, run_getObj_any h3 (fun _ _ _ h => by cases h), hsz, run_setObj_any _ h3 (fun _ _ _ h => by cases h)]
        · rename_i hlt
          simp only [Option.some.injEq, Prod.mk.injEq] at hv
          obtain ⟨rfl, rfl⟩ := hv
          have hsz : ¬ pos < (⟨s.toArray⟩ : ByteArray).size := by simpa [ByteArray.size] using hlt
          refine ⟨.value (.tuple #[.bool false]), _, w, m, ?_, .inl rfl, Mu.le_refl m, R, .inr rfl⟩
          simp [execOp, hop, Instr.next, h2, run_getObj_any h3 (fun _ _ _ h => by cases h), hsz]
    · rename_i s1 s2 s3 hg
      cases isStr with
      | true => cases hv
      | false =>
        simp only [cond_false, Option.some.injEq, Prod.mk.injEq] at hv
        obtain ⟨rfl, rfl⟩ := hv
        obtain ⟨l, ob, h1, h0, h2, h3, h4, h5⟩ := R.iterAt hg hx (ev_sound e it)
        simp only [ItrR] at h5
        subst h5
        refine ⟨.value (.tuple #[.bool false]), _, w, m, ?_, .inl rfl, Mu.le_refl m, R, .inr rfl⟩
        simp [execOp, hop, Instr.next, h2, run_getObj_any h3 (fun _ _ _ h => by cases h)]
    · rename_i g since seen last hg
      cases isStr with
      | true => cases hv
      | false =>
        simp only [cond_false] at hv
        obtain ⟨l, ob, h1, h0, h2, h3, h4, h5⟩ := R.iterAt hg hx (ev_sound e it)
        simp only [ItrR] at h5
        obtain ⟨lg, k1, rfl⟩ := h5
        split at hv
        · rename_i es clock hgm
          obtain ⟨l2, es', j1, j2, j3, j4⟩ := R.got g _ hgm
          rw [k1] at j1
          cases j1
          cases hgone : (!seen.isEmpty && !es.isEmpty && es.all fun e => decide (e.2.2 ≥ last)) with
          | true => rw [hgone] at hv; cases hv
          | false =>
            rw [hgone, cond_false] at hv
            have hgone' : (!seen.toArray.isEmpty && !es'.isEmpty && es'.all fun e => decide (e.born ≥ last)) = false := by
              rw [← hgone, j4.isEmpty, j4.all (fun b => decide (b ≥ last))]
              simp [← Array.isEmpty_toList, ← Array.all_toList]
            have hold := (j4.filter (fun b => !seen.contains b)).filter (fun b => decide (b < since))
            have hnew := (j4.filter (fun b => !seen.contains b)).filter (fun b => decide (b ≥ since))
            have eold : ((es'.filter fun e => !seen.toArray.contains e.born).filter fun e => decide (e.born < since)).toList = ((es'.toList.filter fun e => !seen.contains e.born).filter fun e => decide (e.born < since)) := by simp
            have enew : ((es'.filter fun e => !seen.toArray.contains e.born).filter fun e => decide (e.born ≥ since)).toList = ((es'.toList.filter fun e => !seen.contains e.born).filter fun e => decide (e.born ≥ since)) := by simp
            rw [← eold] at hold
            rw [← enew] at hnew
            have gi := run_getObj_any (P := P) h3 (fun _ _ _ h => by cases h)
            have gm := run_getObj_any (P := P) j2 (fun _ _ _ h => by cases h)
            have si := fun o => run_setObj_any (P := P) o h3 (fun _ _ _ h => by cases h)
            split at hv
            · rename_i ho hn
              simp only [Option.some.injEq, Prod.mk.injEq] at hv
              obtain ⟨rfl, rfl⟩ := hv
              have hold : MapR m (oldOf since seen es) _ := hold
              have hnew : MapR m (newOf' since seen es) _ := hnew
              rw [ho] at hold
              rw [hn] at hnew
              have hO : ((es'.filter fun e => !seen.toArray.contains e.born).filter fun e => decide (e.born < since)) = #[] := Array.ext' hold.nil_inv
              have hN : ((es'.filter fun e => !seen.toArray.contains e.born).filter fun e => decide (e.born ≥ since)) = #[] := Array.ext' hnew.nil_inv
              refine ⟨.value (.tuple #[.bool false]), _, w, m, ?_, .inl rfl, Mu.le_refl m, R, .inr rfl⟩
              simp only [execOp, hop, Instr.next, h2, Sem.run_bind, gi, Result.andThen_ok, gm, hgone', Bool.false_eq_true, if_false, hO, hN]
              simp [choose, Sem.run, Question.forced]
            · rename_i kk vv bb ho hn
              simp only [Option.some.injEq, Prod.mk.injEq] at hv
              obtain ⟨rfl, rfl⟩ := hv
              have hold : MapR m (oldOf since seen es) _ := hold
              have hnew : MapR m (newOf' since seen es) _ := hnew
              rw [ho] at hold
              rw [hn] at hnew
              obtain ⟨e1, q1, q2, q3, q4⟩ := hold.one_inv
              have hO : ((es'.filter fun e => !seen.toArray.contains e.born).filter fun e => decide (e.born < since)) = #[e1] := Array.ext' q1
              have hN : ((es'.filter fun e => !seen.toArray.contains e.born).filter fun e => decide (e.born ≥ since)) = #[] := Array.ext' hnew.nil_inv
              refine ⟨.value (.tuple #[.bool true, e1.key, e1.val]), _, w.putObj l.cb (.mapIter (some lg.cb) since (seen ++ [bb]).toArray clock), m, ?_, .inl rfl, Mu.le_refl m,
                R.put_obj hg rfl h1 h4 h3 (fun _ _ _ h => by cases h) ⟨l, _, ⟨h1, h0⟩, World.putObj_heap_same (Array.getElem?_eq_some_iff.1 h3).1, h4, lg, k1, rfl⟩, .inr (by simp [cvo, cvos, q2, q3])⟩
              have hpush : (seen ++ [bb]).toArray = seen.toArray.push e1.born := by rw [q4]; simp
              rw [hpush]
              simp only [execOp, hop, Instr.next, h2, Sem.run_bind, gi, Result.andThen_ok, gm, hgone', Bool.false_eq_true, if_false, hO, hN]
              have hch : (choose (.mapNext 1)).run P w = .ok 0 w := by simp [choose, Sem.run, Question.forced]
              simp [hch, si]
              intro h
              cases h
            · cases hv
        · cases hv
    · cases hv
  · cases hv

theorem entry_sound {o : Oper} {it : Operand} (hop : o.op = .entry it) (R : Rel F m A w) (e : EnvR M0 m n E a) {v : AV} (hv : readOf E A (.entry it) = some v) : ReadOk P m a o v w := by
  simp only [readOf] at hv
  split at hv
  · rename_i f hx
    split at hv
    · rename_i g since seen last hg
      obtain ⟨l, ob, h1, h0, h2, h3, h4, h5⟩ := R.iterAt hg hx (ev_sound e it)
      simp only [ItrR] at h5
      obtain ⟨lg, k1, rfl⟩ := h5
      split at hv
      · rename_i es clock hgm
        obtain ⟨l2, es', j1, j2, j3, j4⟩ := R.got g _ hgm
        rw [k1] at j1
        cases j1
        cases hcl : Nat.beq clock last with
        | false => rw [hcl] at hv; cases hv
        | true =>
          rw [hcl, cond_true] at hv
          have hcl' := Nat.eq_of_beq_eq_true hcl
          subst hcl'
          split at hv
          · rename_i b hb
            split at hv
            · rename_i k v' hs
              cases hv
              obtain ⟨e1, q1, q2, q3⟩ := j4.stamp hs
              have gi := run_getObj_any (P := P) h3 (fun _ _ _ h => by cases h)
              have gm := run_getObj_any (P := P) j2 (fun _ _ _ h => by cases h)
              have hback : seen.toArray.back? = some b := by simp [hb]
              have hfind : es'.find? (fun e => e.born == b) = some e1 := by rw [← Array.find?_toList]; exact q1
              refine ⟨.tuple #[e1.key, e1.val], ?_, by simp [cvo, cvos, q2, q3]⟩
              simp only [execOp, hop, Instr.entry, h2, Sem.run_bind, gi, Result.andThen_ok, hback, gm, hfind]
              simp
            · cases hv
          · cases hv
      · cases hv
    · cases hv
  · cases hv
theorem minmax_sound {o : Oper} {isMax : Bool} {xs : Array Operand} {ts : Array TypeId} (hop : o.op = .call ⟨.builtin (bif isMax then .max else .min), xs, ts⟩) (e : EnvR M0 m n E a) {v : AV} (hv : pureOf E (.minmax isMax xs.toList) = some v) (w : World) : PureOk P m a o v w := by
  simp only [pureOf] at hv
  split at hv
  · rename_i k z l hl
    have hkn : allKnown (evs E xs.toList) = true := by
      rw [hl]
      show allKnown l = true
      have : ∀ (l : List AV) (z : Int) (v : AV), foldA (bif isMax then max2 else min2) (.int k z) l = some v → allKnown l = true := by
        intro l
        induction l with
        | nil => intro _ _ _; rfl
        | cons x l ih =>
          intro z v h
          simp only [foldA] at h
          split at h
          · rename_i y hy
            cases isMax <;> cases x <;> simp [max2, min2] at hy
            · obtain ⟨_, rfl⟩ := hy; exact ih _ _ h
            · obtain ⟨_, rfl⟩ := hy; exact ih _ _ h
          · cases h
      exact this l z v hv
    have hc := evs_sound e xs.toList hkn
    rw [hl] at hc
    simp only [cvos, cvo] at hc
    split at hc
    · rename_i y ys hy hys
      cases hy
      have hc := Option.some.inj hc
      have hm : List.map a.eval xs.toList = .int k z :: ys := hc.symm
      cases isMax with
      | true =>
        obtain ⟨c, g1, g2⟩ := foldA_max (P := P) hys hv w
        refine ⟨c, ?_, .inr g2⟩
        simp [execOp, hop, resolve, invoke, builtin, Builtin.max_, hm]
        rw [g1]; rfl
      | false =>
        obtain ⟨c, g1, g2⟩ := foldA_min (P := P) hys hv w
        refine ⟨c, ?_, .inr g2⟩
        simp [execOp, hop, resolve, invoke, builtin, Builtin.min_, hm]
        rw [g1]; rfl
    · cases hc
  · cases hv

theorem clearS_sound {o : Oper} {x : Operand} {ts : Array TypeId} {t el : TypeId} {z : List AV} (hop : o.op = .call ⟨.builtin .clear, #[x], ts⟩) (hts : ts[0]? = some t) (hu : P.underlying t = some (.slice el)) (hz : zeroCs P el = some z) (R : Rel F m A w) (e : EnvR M0 m n E a) {v : AV} {B : St}
    (hv : effOf E A (.clearS z x) = some (v, B)) : EffOk P F m a o v B w := by
  obtain ⟨i, zv, hi, hzv, hzc⟩ := zeroCs_some hz
  have hzl := mapM_const (m := m) hzc
  simp only [effOf] at hv
  split at hv
  · rename_i po cap q hx
    simp only [Option.some.injEq, Prod.mk.injEq] at hv
    obtain ⟨rfl, rfl⟩ := hv
    obtain ⟨b, l, k, g1, g2, g3⟩ := nilSlice_cases hx (ev_sound e x)
    refine ⟨.value (.tuple #[]), .tuple #[], w, m, ?_, .inl rfl, Mu.le_refl m, R, .inr rfl⟩
    have hl := g3 rfl
    subst hl
    cases b <;> simp [execOp, hop, resolve, invoke, builtin, Builtin.clear_, hts, run_underlying hu, g1]
  · rename_i p po k cap q hx
    obtain ⟨bs, cap', k1, k2, k3, k4⟩ := slice_sound hx (ev_sound e x)
    split at hv
    · rename_i h0
      simp only [Option.some.injEq, Prod.mk.injEq] at hv
      obtain ⟨rfl, rfl⟩ := hv
      subst h0
      refine ⟨.value (.tuple #[]), .tuple #[], w, m, ?_, .inl rfl, Mu.le_refl m, R, .inr rfl⟩
      simp [execOp, hop, resolve, invoke, builtin, Builtin.clear_, hts, run_underlying hu, k1]
    · rename_i h0
      split at hv
      · rename_i B' hw
        simp only [Option.some.injEq, Prod.mk.injEq] at hv
        obtain ⟨rfl, rfl⟩ := hv
        have hcv := replicate_flat hzl k
        obtain ⟨b, ofs, j1, j2, j3, j4⟩ := R.write hw hcv
        have hpl := k3 (by omega)
        rw [hpl] at j1
        cases j1
        have hst := run_storeCells_cells (P := P) b ofs (List.replicate k zv.cells.toList).flatten 0 w (fun j hj => (j2 j hj).1) (fun j hj => (j2 j hj).2) j3
        have hzr : (Builtin.zeroCells zv.cells k).toList = (List.replicate k zv.cells.toList).flatten := by
          by_cases hne : zv.cells.toList = []
          · have h1 : zv.cells = #[] := Array.ext' hne
            rw [h1]
            simp [Builtin.zeroCells]
          · have := rangeCells zv.cells.toList k hne
            unfold Builtin.zeroCells
            have h3 : zv.cells.toList.toArray = zv.cells := by simp
            rw [h3, show zv.cells.toList.length = zv.cells.size by simp] at this
            rw [this]
        refine ⟨.value (.tuple #[]), .tuple #[], _, m, ?_, .inl rfl, Mu.le_refl m, j4, .inr rfl⟩
        simp only [Nat.add_zero] at hst
        obtain ⟨k', rfl⟩ : ∃ k', k = k' + 1 := ⟨k - 1, by omega⟩
        simp [execOp, hop, resolve, invoke, builtin, Builtin.clear_, hts, run_underlying hu, k1, zeroValue, typeInfo, hi, hzv, hzr, hst]
      · cases hv
  · cases hv
theorem clearM_sound {o : Oper} {x : Operand} {ts : Array TypeId} {t k e' : TypeId} (hop : o.op = .call ⟨.builtin .clear, #[x], ts⟩) (hts : ts[0]? = some t) (hu : P.underlying t = some (.map k e')) (R : Rel F m A w) (e : EnvR M0 m n E a) {v : AV} {B : St}
    (hv : effOf E A (.clearM x) = some (v, B)) : EffOk P F m a o v B w := by
  simp only [effOf] at hv
  split at hv
  · rename_i hm
    simp only [Option.some.injEq, Prod.mk.injEq] at hv
    obtain ⟨rfl, rfl⟩ := hv
    have hem := (ev_sound e x).cv (by rw [hm]; simp)
    rw [hm] at hem
    simp only [cvo, Option.some.injEq] at hem
    refine ⟨.value (.tuple #[]), .tuple #[], w, m, ?_, .inl rfl, Mu.le_refl m, R, .inr rfl⟩
    simp [execOp, hop, resolve, invoke, builtin, Builtin.clear_, hts, run_underlying hu, ← hem]
  · rename_i f hm
    split at hv
    · rename_i es clock hg
      simp only [Option.some.injEq, Prod.mk.injEq] at hv
      obtain ⟨rfl, rfl⟩ := hv
      obtain ⟨l, es', h1, h2, h3, h4, h5⟩ := R.mapAt hg hm (ev_sound e x)
      refine ⟨.value (.tuple #[]), .tuple #[], w.putObj l.cb (.map #[] clock), m, ?_, .inl rfl, Mu.le_refl m, R.put_obj hg rfl h1 h4 h3 (notCells_map _ _) (blkR_map (es' := #[]) h1 h3 h4 trivial), .inr rfl⟩
      simp [execOp, hop, resolve, invoke, builtin, Builtin.clear_, hts, run_underlying hu, h2, MapKept.run_getObj_map h3, MapKept.run_setObj_map _ h3, World.putObj]
    · cases hv
  · cases hv
end
end Go.AM
