/- The abstract machine: structs compared, capacities, zeros appended. -/
import Derived.Test.YtejlhgcheaimjaaGreatDoorAmMap
import Derived.Laws.StructEq
namespace Go.AM
set_option linter.unusedVariables false
set_option linter.unusedSimpArgs false
section
variable {P : Program} {M0 : Mu} {m : Mu} {n : Nat} {E : Env} {a : Act} {F : Fr} {A : St} {w : World}

theorem part_flat {t : TypeId} {kd : KK} (h : keyKind P t = some kd) {cs : Array Value} {k : Nat} {v : Value} (hv : cs[k]? = some v) : (part t cs k).run P w = .ok v w := by
  obtain ⟨d, hu, hd⟩ := keyKind_spec h
  cases kd <;> simp only [KD] at hd <;> subst hd <;> simp [part, isAgg, run_underlying hu, hv]
theorem eq_flat {t : TypeId} {kd : KK} (h : keyKind P t = some kd) {x y : AV} {cx cy : Value} {r : Bool} (hk : keyOk kd x = true) (hx : cvo m x = some cx) (hy : cvo m y = some cy) (hs : keySame x y = some r) (d : Nat) : (Op.equalIn (d + 1) t cx cy).run P w = .ok r w := by
  obtain ⟨q, hu, hd⟩ := keyKind_spec h
  cases kd <;> cases x <;> simp [keyOk] at hk <;> cases y <;> simp [keySame] at hs <;> simp only [KD] at hd <;> subst hd
  · obtain ⟨rfl, rfl⟩ := hs
    simp [cvo] at hx hy; subst hx hy
    rw [run_equalIn_int w d t _ _ _ _ hu]
  · subst hs
    simp [cvo] at hx hy; subst hx hy
    rw [run_equalIn_string w d t _ _ hu, ByteArray.toList_eq, ByteArray.toList_eq]
  · subst hs
    simp [cvo] at hx hy; subst hx hy
    rw [run_equalIn_bool' w d t _ _ hu]
theorem eqFields_flat (d : Nat) (xs ys : Array Value) : ∀ (l : List Field) (k : Nat) (ks : List KK) (ca cb : List AV) (r : Bool), fieldKinds P k l = some ks → cvos m ca = some (xs.toList.drop k) → cvos m cb = some (ys.toList.drop k) → flatEqs ks ca cb = some r →
    (Op.eqFields (d + 1) xs ys l).run P w = .ok r w
  | [], k, ks, ca, cb, r, hf, ha, hb, h => by
    cases hf
    cases ca <;> cases cb <;> simp only [flatEqs] at h <;> first | (cases h; done) | skip
    cases h
    simp [Op.eqFields]
  | f :: l, k, ks, ca, cb, r, hf, ha, hb, h => by
    simp only [fieldKinds] at hf
    split at hf
    · rename_i hc
      simp only [Bool.and_eq_true] at hc
      obtain ⟨hoff, hname⟩ := hc
      have hoff := Nat.eq_of_beq_eq_true hoff
      split at hf
      · rename_i q r' hq hr'
        cases hf
        cases ca with
        | nil => simp [flatEqs] at h
        | cons x ca =>
          cases cb with
          | nil => simp [flatEqs] at h
          | cons y cb =>
            simp only [flatEqs] at h
            cases hk : keyOk q x with
            | false => rw [hk] at h; cases h
            | true =>
              rw [hk] at h
              simp only [cond_true] at h
              split at h
              · rename_i b1 b2 hs hrest
                cases h
                have key : ∀ (zs : Array Value) (z : AV) (cz : List AV), cvos m (z :: cz) = some (zs.toList.drop k) → ∃ v, zs[k]? = some v ∧ cvo m z = some v ∧ cvos m cz = some (zs.toList.drop (k + 1)) := fun zs z cz h => by
                  simp only [cvos] at h
                  split at h
                  · rename_i v vs h1 h2
                    have h := Option.some.inj h
                    have e0 : zs.toList[k]? = some v := by
                      have := congrArg (·[0]?) h
                      simpa [List.getElem?_drop] using this.symm
                    refine ⟨v, by simpa using e0, h1, ?_⟩
                    rw [h2]
                    have := congrArg List.tail h
                    simpa [List.tail_drop] using this
                  · cases h
                obtain ⟨v1, a1, a2, a3⟩ := key xs x ca ha
                obtain ⟨v2, c1, c2, c3⟩ := key ys y cb hb
                have hn : f.name ≠ "_" := by simpa using hname
                have p1 := part_flat (P := P) (w := w) hq a1
                have p2 := part_flat (P := P) (w := w) hq c1
                have p3 := eq_flat (P := P) (w := w) hq hk a2 c2 hs d
                have ih := eqFields_flat d xs ys l (k + 1) r' ca cb b2 hr' a3 c3 hrest
                simp only [Op.eqFields, hn, ne_eq, not_false_eq_true, if_true, hoff, Sem.run_bind, p1, p2, p3, Result.andThen_ok]
                cases b1
                · simp
                · simpa using ih
              · cases h
      · cases hf
    · cases hf
theorem eqAgg_sound {o : Oper} {op : BinOp} {t ty : TypeId} {x y : Operand} {ks : List KK} (hop : o.op = .binOp op t x y ty) (hb : (op == .eql || op == .neq) = true) (hf : structKinds P t = some ks) (e : EnvR M0 m n E a) {v : AV} (hv : pureOf E (.eqAgg (op == .neq) ks x y) = some v) (w : World) : PureOk P m a o v w := by
  simp only [pureOf, eqAggOf] at hv
  split at hv
  · rename_i ca cb hx hy
    split at hv
    · rename_i r hr
      cases hv
      unfold structKinds at hf
      split at hf
      · rename_i fs hu
        split at hf
        · rename_i hh
          simp only [Bool.and_eq_true, Bool.not_eq_true'] at hh
          have hcx := (ev_sound e x).cv (by rw [hx]; simp)
          have hcy := (ev_sound e y).cv (by rw [hy]; simp)
          rw [hx] at hcx
          rw [hy] at hcy
          simp only [cvo, Option.map_eq_some_iff] at hcx hcy
          obtain ⟨xs, hxs, ex⟩ := hcx
          obtain ⟨ys, hys, ey⟩ := hcy
          have hfo : P.fieldsOf t = fs := by simp [Program.fieldsOf, hu]
          have hu' : P.underlying t = some (.struct (P.fieldsOf t)) := by rw [hfo]; exact hu
          have hE := run_equalIn_struct w 9999 t xs.toArray ys.toArray hu' hh.1
          rw [hfo] at hE
          have hF := eqFields_flat (P := P) (m := m) (w := w) 9998 xs.toArray ys.toArray fs.toList 0 ks ca cb r hf (by simpa using hxs) (by simpa using hys) hr
          rw [show 9999 = 9998 + 1 from rfl, hF] at hE
          refine ⟨.bool (bif op == .neq then !r else r), ?_, .inr rfl⟩
          cases op <;> simp at hb
          · simp only [execOp, hop, ← ex, ← ey, Sem.run_bind, run_eqGuard_agg w _ t x y _ _ hh.2, Result.andThen_ok, run_eql_struct, hE]
            rfl
          · simp only [execOp, hop, ← ex, ← ey, Sem.run_bind, run_eqGuard_agg w _ t x y _ _ hh.2, Result.andThen_ok, run_neq_struct, hE]
            rfl
        · cases hf
      · cases hf
    · cases hv
  · cases hv
theorem cap_sound {o : Oper} {x : Operand} {ts : Array TypeId} {t el : TypeId} (hop : o.op = .call ⟨.builtin .cap, #[x], ts⟩) (hts : ts[0]? = some t) (hu : P.underlying t = some (.slice el)) (e : EnvR M0 m n E a) {v : AV} (hv : pureOf E (.cap x) = some v) (w : World) : PureOk P m a o v w := by
  simp only [pureOf] at hv
  have hcx := fun h => (ev_sound e x).cv h
  generalize ev E x = s at hv hcx
  unfold capOf at hv
  split at hv
  · rename_i po len cap q
    split at hv
    · rename_i hc
      cases hv
      subst hc
      have hcx := hcx (by simp)
      simp only [cvo] at hcx
      split at hcx
      · have : ∃ b, a.eval x = .slice b 0 0 := by
          split at hcx
          · exact ⟨none, (Option.some.inj hcx).symm⟩
          · simp only [Option.map_eq_some_iff] at hcx
            obtain ⟨b, _, h⟩ := hcx
            exact ⟨some b, h.symm⟩
        obtain ⟨b, hbx⟩ := this
        refine ⟨.int .i64 0, ?_, .inr rfl⟩
        simp [execOp, hop, resolve, invoke, builtin, Builtin.cap_, hts, hu, run_underlying hu, hbx]
        rfl
      · cases hcx
    · cases hv
  · rename_i p po len cap
    cases hv
    have hcx := hcx (by simp)
    simp only [cvo] at hcx
    split at hcx
    · simp only [Option.map_eq_some_iff] at hcx
      obtain ⟨b, _, hbx⟩ := hcx
      refine ⟨.int .i64 cap, ?_, .inr rfl⟩
      simp [execOp, hop, resolve, invoke, builtin, Builtin.cap_, hts, hu, run_underlying hu, ← hbx]
      rfl
    · cases hcx
  · cases hv
theorem appendZ_sound {o : Oper} {s x : Operand} {t tx el : TypeId} {k : IntKind} {i : TypeInfo} {z : List AV} (hop : o.op = .call ⟨.builtin .append, #[s, x], #[t, tx]⟩) (hu : P.underlying t = some (.slice el)) (hx : P.underlying tx = some (.int k)) (hi : P.info? el = some i) (hz : zeroCs P el = some z) (hl : z.length = i.size ∧ 1 ≤ i.size)
    (e : EnvR M0 m n E a) {cs : List AV} {sz : Nat} {md : Made} (hv : newOf E (.appendZ i.size i.bytes z s x) = some (cs, sz, md)) (w : World) : NewOk P m a o cs sz md w := by
  simp only [newOf] at hv
  split at hv
  · rename_i po len k1 c1 hs hn
    split at hv
    · rename_i hb
      obtain ⟨b1, b2, b3, b4⟩ := hb
      simp only [Option.some.injEq, Prod.mk.injEq] at hv
      obtain ⟨rfl, rfl, rfl⟩ := hv
      obtain ⟨i', zv, hi', hzv, hz'⟩ := zeroCs_some hz
      rw [hi] at hi'; cases hi'
      have hcx := (ev_sound e s).cv (by rw [hs]; simp)
      rw [hs] at hcx
      simp only [cvo] at hcx
      have hsx : a.eval s = .slice none 0 0 := by
        split at hcx
        · simpa using hcx.symm
        · cases hcx
      have el2 := cvo_int hn (ev_sound e x)
      have hcvz := mapM_const (m := m) hz'
      have hlen := cvos_length hcvz
      have hne : zv.cells.toList ≠ [] := by intro h; rw [h] at hlen; simp at hlen; omega
      obtain ⟨c, rfl⟩ : ∃ c : Nat, c1 = c := ⟨c1.toNat, by omega⟩
      have hwr : IntKind.i64.wrap (c : Int) = c := by rw [IntKind.wrap_i64]; omega
      have hcells : ∀ j, Builtin.zeroCells zv.cells j = (List.replicate j zv.cells.toList).flatten.toArray := fun j => by
        have := rangeCells zv.cells.toList j hne
        rw [Array.toArray_toList] at this
        unfold Builtin.zeroCells
        rw [← Array.length_toList]
        exact this
      have hzs : zv.cells.size = i.size := by have : zv.cells.toList.length = i.size := by omega
                                              simpa using this
      have hg : ¬ (c ≤ 0) := by omega
      have h48 : ¬ (281474976710656 < (c : Int) * (i.bytes : Int)) := by
        have : (c : Int) * (i.bytes : Int) ≤ 70368744177664 := b2
        omega
      have h63 : ¬ (9223372036854775807 < (c : Int)) := by omega
      have hneg : ¬ ((c : Int) < 0) := by omega
      have hc0 : ¬ (c * i.size = 0) := by
        have : 0 < c * i.size := Nat.mul_pos (by omega) (by omega)
        omega
      have hfit : ¬ (281474976710656 < Builtin.nextslicecap c 0 * i.bytes) := by
        have hnb0 : ((c * i.bytes : Nat) : Int) ≤ 70368744177664 := by rw [Int.natCast_mul]; exact b2
        have hnb : c * i.bytes ≤ 70368744177664 := by omega
        have := growslice_fits (bytes := i.bytes) (need := c) (old := 0) (by omega) (by omega)
        omega
      have hgi : ¬ ((c : Int) ≤ 0) := by omega
      have hmax : max (c : Int) 0 = c := by omega
      have hasI : (asInt (.int k1 (c : Int))).run P w = .ok (c : Int) w := by simp [asInt, asIntOf]
      have hrun : (execOp a.eval o).run P w = .ok (.value (.slice (some ⟨w.heap.size, 0, none⟩) c (grownCap w c 0 el))) (w.drew.alloc (.cells ((Builtin.zeroCells zv.cells c) ++ Builtin.zeroCells zv.cells (grownCap w c 0 el - c)) el)) := by
        simp [execOp, hop, resolve, invoke, builtin, Builtin.append_, run_underlying hu, run_underlying hx, sizeOf, typeInfo, zeroValue, hi, hzv, hsx, el2, hasI, hgi, hmax, hwr, hneg, h48, h63, hg, hc0, hfit, Question.forced, newRow, grownCap, Builtin.firstCells]
        omega
      have hge : c ≤ grownCap w c 0 el := grown_ge w _ _ _
      rw [hcells, hcells] at hrun
      refine ⟨w.drew, _, el, _, grownCap w c 0 el, _, _, .inr rfl, hrun, by simpa using replicate_flat hcvz c, fun j y hj => ?_, ?_, ?_, .inl rfl, fun m' f hm => ?_⟩
      · rw [Array.getElem?_append_left]
        · simpa using hj
        · rcases Nat.lt_or_ge j (List.replicate c zv.cells.toList).flatten.length with h | h
          · simpa using h
          · rw [List.getElem?_eq_none h] at hj; cases hj
      · simp
        rw [hzs]
        have : c * i.size + (grownCap w c 0 el - c) * i.size = grownCap w c 0 el * i.size := by rw [← Nat.add_mul]; congr 1; omega
        omega
      · simp
        rw [hl.1]
        exact Nat.mul_le_mul_right _ hge
      · obtain ⟨q, hq⟩ : ∃ q, i.size = q + 1 := ⟨i.size - 1, by omega⟩
        simp only [Made.ver] at hm
        simp only [Made.value, hq, cvo, hm, plc]
        simp
        exact hge
    · cases hv
  · cases hv
end
end Go.AM
