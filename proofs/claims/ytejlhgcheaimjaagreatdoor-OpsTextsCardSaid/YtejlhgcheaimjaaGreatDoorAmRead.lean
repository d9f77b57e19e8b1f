/- The abstract machine: operations that read. -/
import Derived.Test.YtejlhgcheaimjaaGreatDoorAmNew
import Derived.Laws.BytesArg
namespace Go.AM
set_option linter.unusedVariables false
set_option linter.unusedSimpArgs false
section
variable {P : Program} {M0 : Mu} {F : Fr} {m : Mu} {n : Nat} {E : Env} {a : Act} {A : St} {w : World}

def ReadOk (P : Program) (m : Mu) (a : Act) (o : Oper) (v : AV) (w : World) : Prop := ∃ c, (execOp a.eval o).run P w = .ok (.value c) w ∧ cvo m v = some c

theorem textGo_spec : ∀ {l : List AV} {s : List UInt8}, textGo l = some s → ∃ ns : List Int, l = ns.map (AV.int .u8) ∧ s = ns.map fun n => UInt8.ofNat n.toNat
  | [], s, h => by simp [textGo] at h; subst h; exact ⟨[], rfl, rfl⟩
  | x :: l, s, h => by
    cases x with
    | int k z =>
      cases k with
      | u8 =>
        simp only [textGo] at h
        split at h
        · rename_i s' hs'
          cases h
          obtain ⟨ns, h1, h2⟩ := textGo_spec hs'
          exact ⟨z :: ns, by simp [h1], by simp [h2]⟩
        · cases h
      | _ => simp [textGo] at h
    | _ => simp [textGo] at h

theorem nilSlice_cases {p : Option Pl} {po len cap q : Nat} {x : AV} (h : x = .slice p po len cap q) {c : Value} (s : slotR m x c) : ∃ b l k, c = .slice b l k ∧ b.isNone = (p.isNone && q == 0) ∧ (p = none → l = 0) := by
  cases p with
  | none =>
    subst h
    have hx := s.cv (by simp)
    simp only [cvo] at hx
    split at hx
    · split at hx
      · rename_i hq; cases hx; exact ⟨none, 0, 0, rfl, by simp [hq], fun _ => rfl⟩
      · rename_i hq
        simp only [Option.map_eq_some_iff] at hx
        obtain ⟨b, _, rfl⟩ := hx
        exact ⟨some b, 0, 0, rfl, by simp [hq], fun _ => rfl⟩
    · cases hx
  | some p => obtain ⟨bs, cap', h1, _⟩ := slice_sound h s; exact ⟨some bs, len, cap', h1, by simp, by simp⟩
theorem map_cases {p : Option Nat} {x : AV} (h : x = .map p) {c : Value} (s : slotR m x c) : ∃ b, c = .map b ∧ b.isNone = p.isNone := by
  subst h
  have hx := s.cv (by simp)
  cases p with
  | none => simp only [cvo] at hx; cases hx; exact ⟨none, rfl, rfl⟩
  | some p => simp only [cvo, Option.map_eq_some_iff] at hx; obtain ⟨l, _, rfl⟩ := hx; exact ⟨some l.cb, rfl, rfl⟩
theorem func_cases {f : Fn} {l k : List AV} {x : AV} (h : x = .func f l k) {c : Value} (s : slotR m x c) : ∃ l' k', c = .func f l' k' := by
  subst h
  have hx := s.cv (by simp)
  simp only [cvo] at hx
  split at hx
  · cases hx; exact ⟨_, _, rfl⟩
  · cases hx
theorem iface_cases {t : TypeId} {u : AV} {x : AV} (h : x = .iface t u) {c : Value} (s : slotR m x c) : ∃ y, c = .iface t y ∧ cvo m u = some y := by
  subst h
  have hx := s.cv (by simp)
  simp only [cvo, Option.map_eq_some_iff] at hx
  obtain ⟨y, h1, h2⟩ := hx
  exact ⟨y, h2.symm, h1⟩
theorem nilIface_cases {x : AV} (h : x = .nilIface) {c : Value} (s : slotR m x c) : c = .nilIface := by
  subst h; have := s.cv (by simp); simp [cvo] at this; exact this.symm
theorem nilFunc_cases {x : AV} (h : x = .nilFunc) {c : Value} (s : slotR m x c) : c = .nilFunc := by
  subst h; have := s.cv (by simp); simp [cvo] at this; exact this.symm
theorem ptr_cases {p : Option Pl} {x : AV} (h : x = .ptr p) {c : Value} (s : slotR m x c) : ∃ b, c = .pointer b ∧ b.isNone = p.isNone := by
  cases p with
  | none => subst h; have := s.cv (by simp); simp [cvo] at this; exact ⟨none, this.symm, rfl⟩
  | some p => obtain ⟨ad, _, h2⟩ := ptr_sound h s; exact ⟨some ad, h2, rfl⟩

/-- The type that a way of comparing is for. -/
def EqFits (P : Program) (t : TypeId) : EqK → Prop
  | .ptr => ∃ e i k, P.underlying t = some (.pointer e) ∧ P.info? e = some i ∧ i.size = k + 1
  | .nilSlice => ∃ e, P.underlying t = some (.slice e)
  | .nilMap => ∃ k e, P.underlying t = some (.map k e)
  | .nilFunc => ∃ a b c, P.underlying t = some (.func a b c)
  | .iface _ => ∃ ms, P.underlying t = some (.interface ms)
  | .dyn ps => (∃ ms, P.underlying t = some (.interface ms)) ∧ ∀ q ∈ ps, ∃ e i k j, P.underlying q = some (.pointer e) ∧ P.info? e = some i ∧ i.size = k + 1 ∧ P.info? q = some j ∧ j.comparable = true

theorem eqIn_sound {k : EqK} {x y : AV} {cx cy : Value} {b : Bool} (sx : slotR m x cx) (sy : slotR m y cy) {t : TypeId} (hf : EqFits P t k) (h : eqOf k x y = some b) (d : Nat) (w : World) : (Op.equalIn (d + 1) t cx cy).run P w = .ok b w := by
  unfold eqOf at h
  split at h
  · obtain ⟨e, i, z, hu, hi, hs⟩ := hf
    obtain ⟨b1, rfl, g1⟩ := ptr_cases rfl sx; obtain ⟨b2, rfl, g2⟩ := ptr_cases rfl sy
    cases h
    have : b1 = none := by simpa using g1
    subst this
    simp [Op.equalIn, run_underlying hu, g2]
  · rename_i p _
    obtain ⟨e, i, z, hu, hi, hs⟩ := hf
    obtain ⟨b1, rfl, g1⟩ := ptr_cases rfl sx; obtain ⟨b2, rfl, g2⟩ := ptr_cases rfl sy
    cases h
    have : b2 = none := by simpa using g2
    subst this
    cases p with
    | none => simp_all
    | some p =>
      cases b1 with
      | none => simp at g1
      | some b1 => simp [Op.equalIn, run_underlying hu]
  · rename_i p q
    obtain ⟨e, i, z, hu, hi, hs⟩ := hf
    obtain ⟨a1, h1, rfl⟩ := ptr_sound rfl sx; obtain ⟨a2, h2, rfl⟩ := ptr_sound rfl sy
    unfold samePlace at h
    split at h
    · rename_i hpq
      cases h
      unfold plc at h1 h2
      rw [← hpq.1, ← hpq.2] at h2
      split at h1
      · rename_i l hl
        split at h1
        · split at h2
          · rename_i l' hl'
            rw [hl] at hl'; cases hl'
            split at h2
            · cases h1; cases h2
              have hbool : ((⟨l.cb, l.co + (p.2.2 - l.lo), none⟩ : Addr) == ⟨l.cb, l.co + (q.2.2 - l.lo), none⟩) = (p.2.2 == q.2.2) := by
                rw [Bool.eq_iff_iff]; simp; omega
              simp [Op.equalIn, run_underlying hu, sizeOf, typeInfo, hi, hs, sameAddr, hbool]
            · cases h2
          · cases h2
        · cases h1
      · cases h1
    · cases h
  · obtain ⟨e, hu⟩ := hf
    obtain ⟨b1, l1, k1, rfl, g1, _⟩ := nilSlice_cases rfl sx; obtain ⟨b2, l2, k2, rfl, g2, _⟩ := nilSlice_cases rfl sy
    split at h
    · rename_i hn
      rw [hn] at g1
      have : b1 = none := by simpa using g1
      subst this
      cases h
      simp [Op.equalIn, run_underlying hu, g2]
    · rename_i hn
      split at h
      · rename_i hn2
        rw [hn2] at g2
        have : b2 = none := by simpa using g2
        subst this
        cases h
        cases b1 with
        | none => simp at g1; simp [g1] at hn
        | some b1 => simp [Op.equalIn, run_underlying hu]
      · cases h
  · obtain ⟨kt, e, hu⟩ := hf
    obtain ⟨b1, rfl, g1⟩ := map_cases rfl sx; obtain ⟨b2, rfl, g2⟩ := map_cases rfl sy
    cases h
    have : b1 = none := by simpa using g1
    subst this
    simp [Op.equalIn, run_underlying hu, g2]
  · rename_i p _
    obtain ⟨kt, e, hu⟩ := hf
    obtain ⟨b1, rfl, g1⟩ := map_cases rfl sx; obtain ⟨b2, rfl, g2⟩ := map_cases rfl sy
    cases h
    have : b2 = none := by simpa using g2
    subst this
    cases p with
    | none => simp_all
    | some p =>
      cases b1 with
      | none => simp at g1
      | some b1 => simp [Op.equalIn, run_underlying hu]
  · obtain ⟨_, _, _, hu⟩ := hf
    cases nilFunc_cases rfl sx; cases nilFunc_cases rfl sy; cases h
    simp [Op.equalIn, run_underlying hu]
  · obtain ⟨_, _, _, hu⟩ := hf
    cases nilFunc_cases rfl sx; obtain ⟨_, _, rfl⟩ := func_cases rfl sy; cases h
    simp [Op.equalIn, run_underlying hu]
  · obtain ⟨_, _, _, hu⟩ := hf
    cases nilFunc_cases rfl sy; obtain ⟨_, _, rfl⟩ := func_cases rfl sx; cases h
    simp [Op.equalIn, run_underlying hu]
  · obtain ⟨_, hu⟩ := hf
    cases nilIface_cases rfl sx; obtain ⟨_, rfl, _⟩ := iface_cases rfl sy; cases h
    simp [Op.equalIn, run_underlying hu]
  · obtain ⟨_, hu⟩ := hf
    cases nilIface_cases rfl sy; obtain ⟨_, rfl, _⟩ := iface_cases rfl sx; cases h
    simp [Op.equalIn, run_underlying hu]
  · rename_i e
    obtain ⟨_, hu⟩ := hf
    cases nilIface_cases rfl sx; cases nilIface_cases rfl sy
    cases e <;> cases h
    simp [Op.equalIn, run_underlying hu]
  · obtain ⟨_, hu⟩ := hf
    obtain ⟨_, rfl, _⟩ := iface_cases rfl sx; obtain ⟨_, rfl, _⟩ := iface_cases rfl sy
    split at h
    · rename_i hne; cases h; simp [Op.equalIn, run_underlying hu, hne]
    · cases h
  · cases h

theorem eqGuard_sound {k : EqK} {x y : AV} {cx cy : Value} {b : Bool} (sx : slotR m x cx) (sy : slotR m y cy) (h : eqOf k x y = some b) {op : BinOp} {t : TypeId} {ox oy : Operand} (w : World)
    (hk : ∀ e, k = .iface e → e = true → (∃ ms, P.underlying t = some (.interface ms) ∧ ms.isEmpty = true) ∨ isConstB ox = true ∨ isConstB oy = true) : (eqGuard op t ox oy cx cy).run P w = .ok () w := by
  have easy : eqGuard op t ox oy cx cy = pure () → (eqGuard op t ox oy cx cy).run P w = .ok () w := fun h => by rw [h]; rfl
  unfold eqOf at h
  split at h
  · obtain ⟨_, rfl, _⟩ := ptr_cases rfl sx; exact easy (by cases op <;> rfl)
  · obtain ⟨_, rfl, _⟩ := ptr_cases rfl sx; exact easy (by cases op <;> rfl)
  · obtain ⟨_, rfl, _⟩ := ptr_cases rfl sx; exact easy (by cases op <;> rfl)
  · obtain ⟨_, _, _, rfl, _⟩ := nilSlice_cases rfl sx; exact easy (by cases op <;> rfl)
  · obtain ⟨_, rfl, _⟩ := map_cases rfl sx; exact easy (by cases op <;> rfl)
  · obtain ⟨_, rfl, _⟩ := map_cases rfl sx; exact easy (by cases op <;> rfl)
  · cases nilFunc_cases rfl sx; exact easy (by cases op <;> rfl)
  · cases nilFunc_cases rfl sx; exact easy (by cases op <;> rfl)
  · obtain ⟨_, _, rfl⟩ := func_cases rfl sx; exact easy (by cases op <;> rfl)
  · cases nilIface_cases rfl sx; obtain ⟨_, rfl, _⟩ := iface_cases rfl sy; exact easy (by cases op <;> rfl)
  · obtain ⟨_, rfl, _⟩ := iface_cases rfl sx; exact easy (by cases op <;> rfl)
  · rename_i e
    cases nilIface_cases rfl sx; cases nilIface_cases rfl sy
    cases e with
    | false => cases h
    | true =>
      rcases hk true rfl rfl with ⟨ms, hu, hm⟩ | hx | hy
      · have hin : ∀ d, (Op.eqGuardIn (d + 1) t .nilIface .nilIface).run P w = .ok false w := fun d => by simp [Op.eqGuardIn, run_underlying hu, hm]
        have : (Op.eqGuardIn Op.maxDepth t .nilIface .nilIface).run P w = .ok false w := hin 9999
        cases op <;> simp [eqGuard, this] <;> split <;> first | rfl | simp [this]
      · cases ox <;> simp [isConstB] at hx; exact easy (by cases op <;> rfl)
      · cases oy <;> simp [isConstB] at hy; exact easy (by cases op <;> cases ox <;> rfl)
  · obtain ⟨_, rfl, _⟩ := iface_cases rfl sx; exact easy (by cases op <;> rfl)
  · cases h

theorem eqOp_sound {k : EqK} {x y : AV} {cx cy : Value} {b : Bool} (sx : slotR m x cx) (sy : slotR m y cy) (h : eqOf k x y = some b) {t : TypeId} (hf : EqFits P t k) {op : BinOp} (hop : op = .eql ∨ op = .neq) (w : World) :
    (binOp op t cx cy).run P w = .ok (.bool (bif op == .neq then !b else b)) w := by
  have he : (Op.equal t cx cy).run P w = .ok b w := eqIn_sound sx sy hf h 9999 w
  unfold eqOf at h
  have fin : binOp .eql t cx cy = (do pure (.bool (← Op.equal t cx cy))) → binOp .neq t cx cy = (do pure (.bool (!(← Op.equal t cx cy)))) → (binOp op t cx cy).run P w = .ok (.bool (bif op == .neq then !b else b)) w := fun h1 h2 => by
    rcases hop with rfl | rfl
    · rw [h1]; simp only [Sem.run_bind, he, Result.andThen_ok, Sem.run_pure]; rfl
    · rw [h2]; simp only [Sem.run_bind, he, Result.andThen_ok, Sem.run_pure]; rfl
  split at h
  · obtain ⟨_, rfl, _⟩ := ptr_cases rfl sx; obtain ⟨_, rfl, _⟩ := ptr_cases rfl sy; exact fin rfl rfl
  · obtain ⟨_, rfl, _⟩ := ptr_cases rfl sx; obtain ⟨_, rfl, _⟩ := ptr_cases rfl sy; exact fin rfl rfl
  · obtain ⟨_, rfl, _⟩ := ptr_cases rfl sx; obtain ⟨_, rfl, _⟩ := ptr_cases rfl sy; exact fin rfl rfl
  · obtain ⟨_, _, _, rfl, _⟩ := nilSlice_cases rfl sx; obtain ⟨_, _, _, rfl, _⟩ := nilSlice_cases rfl sy; exact fin rfl rfl
  · obtain ⟨_, rfl, _⟩ := map_cases rfl sx; obtain ⟨_, rfl, _⟩ := map_cases rfl sy; exact fin rfl rfl
  · obtain ⟨_, rfl, _⟩ := map_cases rfl sx; obtain ⟨_, rfl, _⟩ := map_cases rfl sy; exact fin rfl rfl
  · cases nilFunc_cases rfl sx; cases nilFunc_cases rfl sy; exact fin rfl rfl
  · cases nilFunc_cases rfl sx; obtain ⟨_, _, rfl⟩ := func_cases rfl sy; exact fin rfl rfl
  · obtain ⟨_, _, rfl⟩ := func_cases rfl sx; cases nilFunc_cases rfl sy; exact fin rfl rfl
  · cases nilIface_cases rfl sx; obtain ⟨_, rfl, _⟩ := iface_cases rfl sy; exact fin rfl rfl
  · obtain ⟨_, rfl, _⟩ := iface_cases rfl sx; cases nilIface_cases rfl sy; exact fin rfl rfl
  · cases nilIface_cases rfl sx; cases nilIface_cases rfl sy; exact fin rfl rfl
  · obtain ⟨_, rfl, _⟩ := iface_cases rfl sx; obtain ⟨_, rfl, _⟩ := iface_cases rfl sy; exact fin rfl rfl
  · cases h

theorem ptrTypes_spec {q : TypeId} (h : q ∈ ptrTypes P) : ∃ e i k j, P.underlying q = some (.pointer e) ∧ P.info? e = some i ∧ i.size = k + 1 ∧ P.info? q = some j ∧ j.comparable = true := by
  obtain ⟨_, h⟩ := List.mem_filter.1 h
  simp only [Bool.and_eq_true] at h
  obtain ⟨h1, h2⟩ := h
  unfold ptrOk at h1
  split at h1
  · rename_i e hu
    split at h1
    · rename_i k hs
      obtain ⟨i, hi1, hi2⟩ := szOf_some hs
      split at h2
      · rename_i j hj
        simp only [Bool.and_eq_true] at h2
        exact ⟨e, i, k, j, hu, hi1, hi2, hj, h2.2⟩
      · cases h2
    · cases h1
  · cases h1
/-- Two places of different families: they differ. -/
theorem far_addr {F : Fr} {A : St} {w : World} (R : Rel F m A w) {p q : Pl} {a b : Addr} (hp : plc m p = some a) (hq : plc m q = some b) (hne : p.1 ≠ q.1) (hrp : A.Rw p.1) (hrq : A.Rw q.1) (cp : ∃ c e z, w.heap[a.block]? = some (.cells c e z)) (cq : ∃ c e z, w.heap[b.block]? = some (.cells c e z)) (vp : p.2.1 = 0) (vq : q.2.1 = 0) :
    (sameAddr a b).run P w = .ok false w := by
  unfold plc at hp hq
  split at hp
  rotate_left
  · cases hp
  rename_i l hl
  split at hp
  rotate_left
  · cases hp
  split at hq
  rotate_left
  · cases hq
  rename_i k hk
  split at hq
  rotate_left
  · cases hq
  cases hp
  cases hq
  obtain ⟨c1, e1, z1, g1⟩ := cp
  obtain ⟨c2, e2, z2, g2⟩ := cq
  have hcb := R.apart _ _ _ _ _ _ hl hk hne hrp
  rw [vp] at hl
  rw [vq] at hk
  have u1 : z1.1 = z1.2 := by
    rcases R.unf _ _ _ hl hrp _ _ _ g1 with h | ⟨h, _⟩
    · exact h
    · exact absurd rfl h
  have u2 : z2.1 = z2.2 := by
    rcases R.unf _ _ _ hk hrq _ _ _ g2 with h | ⟨h, _⟩
    · exact h
    · exact absurd rfl h
  obtain ⟨x1, y1⟩ := z1
  obtain ⟨x2, y2⟩ := z2
  simp only at u1 u2
  subst u1
  subst u2
  have hbl : (l.cb == k.cb) = false := by simpa using hcb
  simp only at g1 g2
  have no : ∀ x y : Nat, (decide (x ≤ y) && decide (y < x)) = false := fun x y => by
    rw [Bool.and_eq_false_iff, decide_eq_false_iff_not, decide_eq_false_iff_not]; omega
  simp [sameAddr, hbl, World.frozen?, g1, g2, noView, viewAt, World.shape?, mayBeOne, stringish, no]
theorem rwB_spec {F : Fr} {A : St} {w : World} (R : Rel F m A w) {f : Nat} (h : rwB A f = true) : A.Rw f := by
  unfold rwB at h
  split at h
  · rename_i cs vers nv hg; exact ⟨_, hg, rfl⟩
  · cases h
theorem samePlace_spec {p q : Pl} {a1 a2 : Addr} {b : Bool} (h1 : plc m p = some a1) (h2 : plc m q = some a2) (h : samePlace p q = some b) (w : World) : (sameAddr a1 a2).run P w = .ok b w := by
  unfold samePlace at h
  split at h
  · rename_i hpq
    cases h
    unfold plc at h1 h2
    rw [← hpq.1, ← hpq.2] at h2
    split at h1
    · rename_i l hl
      split at h1
      · split at h2
        · rename_i l' hl'
          rw [hl] at hl'; cases hl'
          split at h2
          · cases h1; cases h2
            have hbool : ((⟨l.cb, l.co + (p.2.2 - l.lo), none⟩ : Addr) == ⟨l.cb, l.co + (q.2.2 - l.lo), none⟩) = (p.2.2 == q.2.2) := by
              rw [Bool.eq_iff_iff]; simp; omega
            simp [sameAddr, hbool]
          · cases h2
        · cases h2
      · cases h1
    · cases h1
  · cases h
theorem far_sound {F : Fr} {A : St} {w : World} (R : Rel F m A w) {p q : Pl} {a1 a2 : Addr} {b : Bool} (h1 : plc m p = some a1) (h2 : plc m q = some a2) (h : farPlace A p q = some b) : (sameAddr a1 a2).run P w = .ok b w := by
  unfold farPlace at h
  cases hb : Nat.beq p.1 q.1 with
  | true => rw [hb] at h; exact samePlace_spec h1 h2 h w
  | false =>
    rw [hb] at h
    simp only [cond_false] at h
    cases hc : (rwB A p.1 && rwB A q.1) && ((Nat.beq p.2.1 0 && Nat.beq q.2.1 0) && (knownAt A p && knownAt A q)) with
    | false => rw [hc] at h; cases h
    | true =>
      rw [hc] at h
      simp only [cond_true, Option.some.injEq] at h
      subst h
      simp only [Bool.and_eq_true] at hc
      obtain ⟨⟨c1, c2⟩, ⟨c3, c4⟩, c5, c6⟩ := hc
      have v1 := Nat.eq_of_beq_eq_true c3
      have v2 := Nat.eq_of_beq_eq_true c4
      have hne : p.1 ≠ q.1 := fun e => by rw [e, Nat.beq_refl] at hb; cases hb
      have blk : ∀ {p : Pl} {a : Addr}, plc m p = some a → knownAt A p = true → ∃ c e z, w.heap[a.block]? = some (.cells c e z) := fun {p a} hp hk => by
        unfold knownAt at hk
        split at hk
        · rename_i l hl
          obtain ⟨b, o, ys, g1, g2, g3, g4⟩ := R.cells hl
          rw [g1] at hp
          cases hp
          cases ys with
          | nil => simp at g3
          | cons y ys =>
            have := g4 0 y rfl
            simp only [World.cell?] at this
            split at this
            · exact ⟨_, _, _, by assumption⟩
            · cases this
        · cases hk
      exact far_addr R h1 h2 hne (rwB_spec R c1) (rwB_spec R c2) (blk h1 c5) (blk h2 c6) v1 v2
theorem eqFar_fin {cx cy : Value} {b : Bool} {t : TypeId} {op : BinOp} {ox oy : Operand} {w : World} (hop : op = .eql ∨ op = .neq) (he0 : ∀ d, (Op.equalIn (d + 2) t cx cy).run P w = .ok b w) (h1 : binOp .eql t cx cy = (do pure (.bool (← Op.equal t cx cy)))) (h2 : binOp .neq t cx cy = (do pure (.bool (!(← Op.equal t cx cy))))) (hg : eqGuard op t ox oy cx cy = pure ()) :
    (eqGuard op t ox oy cx cy).run P w = .ok () w ∧ (binOp op t cx cy).run P w = .ok (.bool (bif op == .neq then !b else b)) w := by
  have he : (Op.equal t cx cy).run P w = .ok b w := he0 9998
  refine ⟨by rw [hg]; rfl, ?_⟩
  rcases hop with rfl | rfl
  · rw [h1]; simp only [Sem.run_bind, he, Result.andThen_ok, Sem.run_pure]; rfl
  · rw [h2]; simp only [Sem.run_bind, he, Result.andThen_ok, Sem.run_pure]; rfl
theorem bin_pp (t : TypeId) (a b : Option Addr) : binOp .eql t (.pointer a) (.pointer b) = (do pure (.bool (← Op.equal t (.pointer a) (.pointer b)))) ∧ binOp .neq t (.pointer a) (.pointer b) = (do pure (.bool (!(← Op.equal t (.pointer a) (.pointer b))))) := ⟨rfl, rfl⟩
theorem bin_ni (t : TypeId) (q : TypeId) (y : Value) : binOp .eql t .nilIface (.iface q y) = (do pure (.bool (← Op.equal t .nilIface (.iface q y)))) ∧ binOp .neq t .nilIface (.iface q y) = (do pure (.bool (!(← Op.equal t .nilIface (.iface q y))))) := ⟨rfl, rfl⟩
theorem bin_in (t : TypeId) (q : TypeId) (y : Value) : binOp .eql t (.iface q y) .nilIface = (do pure (.bool (← Op.equal t (.iface q y) .nilIface))) ∧ binOp .neq t (.iface q y) .nilIface = (do pure (.bool (!(← Op.equal t (.iface q y) .nilIface)))) := ⟨rfl, rfl⟩
theorem bin_ii (t : TypeId) (p q : TypeId) (x y : Value) : binOp .eql t (.iface p x) (.iface q y) = (do pure (.bool (← Op.equal t (.iface p x) (.iface q y)))) ∧ binOp .neq t (.iface p x) (.iface q y) = (do pure (.bool (!(← Op.equal t (.iface p x) (.iface q y))))) := ⟨rfl, rfl⟩
theorem guard_pp (op : BinOp) (t : TypeId) (ox oy : Operand) (a b : Option Addr) : eqGuard op t ox oy (.pointer a) (.pointer b) = pure () := by cases op <;> rfl
theorem guard_ni (op : BinOp) (t : TypeId) (ox oy : Operand) (q : TypeId) (y : Value) : eqGuard op t ox oy .nilIface (.iface q y) = pure () := by cases op <;> rfl
theorem guard_in (op : BinOp) (t : TypeId) (ox oy : Operand) (q : TypeId) (y : Value) : eqGuard op t ox oy (.iface q y) .nilIface = pure () := by cases op <;> rfl
theorem guard_ii (op : BinOp) (t : TypeId) (ox oy : Operand) (p q : TypeId) (x y : Value) : eqGuard op t ox oy (.iface p x) (.iface q y) = pure () := by cases op <;> rfl
theorem eqn_pp {t e : TypeId} {i : TypeInfo} {z : Nat} {a1 a2 : Addr} {b : Bool} {w : World} (hu : P.underlying t = some (.pointer e)) (hi : P.info? e = some i) (hs : i.size = z + 1) (hq : (sameAddr a1 a2).run P w = .ok b w) (d : Nat) : (Op.equalIn (d + 1) t (.pointer (some a1)) (.pointer (some a2))).run P w = .ok b w := by
  simp [Op.equalIn, run_underlying hu, sizeOf, typeInfo, hi, hs, hq]
theorem eqn_ni {t q : TypeId} {y : Value} {ms : Array (String × TypeId)} {w : World} (hu : P.underlying t = some (.interface ms)) (d : Nat) : (Op.equalIn (d + 1) t .nilIface (.iface q y)).run P w = .ok false w := by
  simp [Op.equalIn, run_underlying hu]
theorem eqn_in {t q : TypeId} {y : Value} {ms : Array (String × TypeId)} {w : World} (hu : P.underlying t = some (.interface ms)) (d : Nat) : (Op.equalIn (d + 1) t (.iface q y) .nilIface).run P w = .ok false w := by
  simp [Op.equalIn, run_underlying hu]
theorem eqn_ne {t p q : TypeId} {x y : Value} {ms : Array (String × TypeId)} {w : World} (hu : P.underlying t = some (.interface ms)) (hne : p ≠ q) (d : Nat) : (Op.equalIn (d + 1) t (.iface p x) (.iface q y)).run P w = .ok false w := by
  simp [Op.equalIn, run_underlying hu, hne]
theorem eqn_ii {t p : TypeId} {x y : Value} {ms : Array (String × TypeId)} {j : TypeInfo} {b : Bool} {w : World} {d : Nat} (hu : P.underlying t = some (.interface ms)) (hj : P.info? p = some j) (hc : j.comparable = true) (h : (Op.equalIn d p x y).run P w = .ok b w) : (Op.equalIn (d + 1) t (.iface p x) (.iface p y)).run P w = .ok b w := by
  rw [Op.equalIn.eq_def]
  simp only [Sem.run_bind, run_underlying hu, Result.andThen_ok]
  simp [typeInfo, hj, hc, h]
theorem eqFar_sound {F : Fr} {A : St} {w : World} (R : Rel F m A w) {k : EqK} {x y : AV} {cx cy : Value} {b : Bool} (sx : slotR m x cx) (sy : slotR m y cy) {t : TypeId} (hf : EqFits P t k) (h : eqFar A k x y = some b) {op : BinOp} {ox oy : Operand} (hop : op = .eql ∨ op = .neq) :
    (eqGuard op t ox oy cx cy).run P w = .ok () w ∧ (binOp op t cx cy).run P w = .ok (.bool (bif op == .neq then !b else b)) w := by
  unfold eqFar at h
  split at h
  · obtain ⟨e, i, z, hu, hi, hs⟩ := hf
    obtain ⟨a1, h1, rfl⟩ := ptr_sound rfl sx; obtain ⟨a2, h2, rfl⟩ := ptr_sound rfl sy
    have hq := far_sound (P := P) R h1 h2 h
    refine eqFar_fin hop (fun d => ?_) (bin_pp _ _ _).1 (bin_pp _ _ _).2 (guard_pp _ _ _ _ _ _)
    exact eqn_pp hu hi hs hq _
  · obtain ⟨⟨ms, hu⟩, _⟩ := hf
    cases nilIface_cases rfl sx; obtain ⟨_, rfl, _⟩ := iface_cases rfl sy
    cases h
    refine eqFar_fin hop (fun d => ?_) (bin_ni _ _ _).1 (bin_ni _ _ _).2 (guard_ni _ _ _ _ _ _)
    exact eqn_ni hu _
  · obtain ⟨⟨ms, hu⟩, _⟩ := hf
    obtain ⟨_, rfl, _⟩ := iface_cases rfl sx; cases nilIface_cases rfl sy
    cases h
    refine eqFar_fin hop (fun d => ?_) (bin_in _ _ _).1 (bin_in _ _ _).2 (guard_in _ _ _ _ _ _)
    exact eqn_in hu _
  · rename_i ps t1 v1 t2 v2
    obtain ⟨⟨ms, hu⟩, hps⟩ := hf
    obtain ⟨y1, rfl, g1⟩ := iface_cases rfl sx; obtain ⟨y2, rfl, g2⟩ := iface_cases rfl sy
    cases hb : Nat.beq t1 t2 with
    | false =>
      rw [hb] at h
      simp only [cond_false, Option.some.injEq] at h
      subst h
      have hne : t1 ≠ t2 := fun e => by rw [e, Nat.beq_refl] at hb; cases hb
      refine eqFar_fin hop (fun d => ?_) (bin_ii _ _ _ _ _).1 (bin_ii _ _ _ _ _).2 (guard_ii _ _ _ _ _ _ _ _)
      exact eqn_ne hu hne _
    | true =>
      rw [hb] at h
      have := Nat.eq_of_beq_eq_true hb
      subst this
      simp only [cond_true] at h
      split at h
      · rename_i p q
        cases hc : ps.contains t1 with
        | false => rw [hc] at h; cases h
        | true =>
          rw [hc] at h
          simp only [cond_true] at h
          obtain ⟨e, i, z, j, k1, k2, k3, k4, k5⟩ := hps t1 (by simpa using hc)
          obtain ⟨a1, h1, rfl⟩ := ptr_sound rfl (slotR.of g1); obtain ⟨a2, h2, rfl⟩ := ptr_sound rfl (slotR.of g2)
          have hq := far_sound (P := P) R h1 h2 h
          refine eqFar_fin hop (fun d => ?_) (bin_ii _ _ _ _ _).1 (bin_ii _ _ _ _ _).2 (guard_ii _ _ _ _ _ _ _ _)
          exact eqn_ii hu k4 k5 (eqn_pp k1 k2 k3 hq _)
      · cases h
  · cases h
theorem read_soundA {o : Oper} {ao : AOp} {v : AV} (R : Rel F m A w) (hc : compOpA P o.op = some ao) (e : EnvR M0 m n E a) (hv : readOf E A ao = some v) : ReadOk P m a o v w := by
  obtain ⟨dst, op, type, pos, after, guard⟩ := o
  dsimp only at hc
  cases op with
  | load t x =>
    simp only [compOpA] at hc
    split at hc
    · rename_i hus
      obtain ⟨d, hd⟩ := Option.isSome_iff_exists.1 hus
      simp only [Option.map_eq_some_iff] at hc
      obtain ⟨s, hs, rfl⟩ := hc
      obtain ⟨i, hi1, hi2⟩ := szOf_some hs
      simp only [readOf] at hv
      split at hv
      · rename_i p hp
        obtain ⟨ad, h1, h2⟩ := ptr_sound hp (ev_sound e x)
        split at hv
        · rename_i l hl
          obtain ⟨b, ofs, ys, g1, g2, g3, g4⟩ := R.cells hl
          rw [g1] at h1; cases h1
          cases hg : isAggB P t with
          | true =>
            rw [hg] at hv hl g3; simp only [if_true, cond_true] at hv hl g3
            cases hv
            have hagg : (isAgg t).run P w = .ok true w := by
              unfold isAggB at hg
              rw [hd] at hg
              cases d <;> simp at hg <;> simp [isAgg, run_underlying hd]
            have hld := run_loadCells_list (P := P) w ⟨b, ofs, none⟩ ys (fun j v hj => by rw [Addr.add_mk]; exact g4 j v hj)
            rw [g3] at hld
            refine ⟨.agg ys.toArray, ?_, by simp [cvo, g2]⟩
            simp [execOp, Instr.loadAt, h2, Instr.sureAddr, loadVar, hagg, sizeOf, typeInfo, hi1, hi2, hld]
          | false =>
            rw [hg] at hv hl g3; simp only [cond_false] at hv hl g3
            split at hv
            · cases hv
              simp only [cvos] at g2
              split at g2
              · rename_i y us hy hu
                cases g2
                have hagg : (isAgg t).run P w = .ok false w := by
                  unfold isAggB at hg
                  rw [hd] at hg
                  cases d <;> simp at hg <;> simp [isAgg, run_underlying hd]
                have hw := g4 0 y rfl
                refine ⟨y, ?_, hy⟩
                simp only [Nat.add_zero] at hw
                simp [execOp, Instr.loadAt, h2, Instr.sureAddr, loadVar, hagg, hw]
              · cases g2
            · cases hv
        · cases hv
      · cases hv
    · cases hc
  | convert src dst x =>
    simp only [compOpA] at hc
    split at hc
    · simp only [Option.some.injEq] at hc; subst hc; simp [readOf] at hv
    · simp only [Option.some.injEq] at hc; subst hc; simp [readOf] at hv
    · split at hc
      · simp only [Option.some.injEq] at hc; subst hc; simp [readOf] at hv
      · cases hc
    · rename_i el h1 h2
      split at hc
      · rename_i h3
        have h3' := isU8_some h3
        simp only [Option.some.injEq] at hc; subst hc
        simp only [readOf] at hv
        split at hv
        · rename_i po len cap q hx
          cases hv
          obtain ⟨b, l, k, g1, g2, g3⟩ := nilSlice_cases hx (ev_sound e x)
          refine ⟨.string ByteArray.empty, ?_, rfl⟩
          cases b with
          | none => simp [execOp, g1, run_convert_bytes_nil w src el h1 h3' l k dst h2]
          | some b =>
            have hl0 := g3 rfl
            subst hl0
            have hld : (loadCells b 0).run P w = .ok (([] : List Int).map (Value.int .u8)).toArray w := rfl
            have := run_bytesToString (P := P) w b 0 k [] hld
            simp only [List.foldl_nil] at this
            simp [execOp, g1, run_convert_bytes_string w src dst el (some b) 0 k h1 h3' h2, this]
        · rename_i p po len cap q hx
          split at hv
          · rename_i l hl
            split at hv
            · rename_i s hs
              cases hv
              obtain ⟨bs, cap', k1, k2, k3, k4⟩ := slice_sound hx (ev_sound e x)
              obtain ⟨b, ofs, ys, g1, g2, g3, g4⟩ := R.cells hl
              obtain ⟨ns, t1, t2⟩ := textGo_spec hs
              have hys : ys = ns.map (Value.int .u8) := by
                have : ∀ (ns : List Int) (ys : List Value), cvos m (ns.map (AV.int .u8)) = some ys → ys = ns.map (Value.int .u8) := by
                  intro ns
                  induction ns with
                  | nil => intro ys h; simp [cvos] at h; simp [h]
                  | cons z ns ih =>
                    intro ys h
                    simp only [List.map_cons, cvos, cvo] at h
                    split at h
                    · rename_i y us hy hu; cases hy; cases h; simp [ih us hu]
                    · cases h
                exact this ns ys (by rw [← t1]; exact g2)
              subst hys
              obtain ⟨bb, oo, ss⟩ := bs
              simp only at k4; subst k4
              have hnl : ns.length = len := by simpa using g3
              refine ⟨.string (strOfNums ns), ?_, by simp only [cvo, t2]; rfl⟩
              have := run_convert_bytes_arg (P := P) w src el h1 h3' bb oo len cap' ns hnl (fun i hi => by
                have hb := k3 (by omega)
                rw [g1] at hb; cases hb
                have := g4 i (.int .u8 (ns.getD i 0)) (by
                  have hil : i < ns.length := by omega
                  rw [List.getElem?_map, List.getElem?_eq_getElem hil]
                  simp [List.getD, hil])
                exact this) dst h2
              simp [execOp, k1, this]
            · cases hv
          · cases hv
        · cases hv
      · cases hc
    · cases hc
  | binOp op t x y yt =>
    simp only [compOpA] at hc
    split at hc
    · rename_i hop
      have hcase : op = .eql ∨ op = .neq := by cases op <;> simp at hop <;> simp
      have key : ∀ k, ao = .eq k (op == .neq) x y → EqFits P t k → (∀ e, k = .iface e → e = true → (∃ ms, P.underlying t = some (.interface ms) ∧ ms.isEmpty = true) ∨ isConstB x = true ∨ isConstB y = true) → ReadOk P m a ⟨dst, .binOp op t x y yt, type, pos, after, guard⟩ v w := fun k hk hf hg => by
        subst hk
        simp only [readOf] at hv
        cases hr : eqOf k (ev E x) (ev E y) with
        | some r =>
          rw [hr] at hv
          cases hv
          have h1 := eqOp_sound (P := P) (ev_sound e x) (ev_sound e y) hr hf hcase w
          have h2 := eqGuard_sound (P := P) (op := op) (t := t) (ox := x) (oy := y) (ev_sound e x) (ev_sound e y) hr w hg
          exact ⟨_, by simp [execOp, h1, h2], rfl⟩
        | none =>
          rw [hr] at hv
          simp only [] at hv
          split at hv
          · rename_i r hr2
            cases hv
            obtain ⟨h2, h1⟩ := eqFar_sound (P := P) (op := op) (t := t) (ox := x) (oy := y) R (ev_sound e x) (ev_sound e y) hf hr2 hcase
            exact ⟨_, by simp [execOp, h1, h2], rfl⟩
          · cases hv
      simp only [compEq] at hc
      split at hc
      · simp only [Option.some.injEq] at hc; subst hc; simp [readOf] at hv
      · simp only [Option.some.injEq] at hc; subst hc; simp [readOf] at hv
      · simp only [Option.some.injEq] at hc; subst hc; simp [readOf] at hv
      · rename_i el hu
        split at hc
        · rename_i sz hsz
          obtain ⟨i, h1, h2⟩ := szOf_some hsz
          exact key .ptr (by cases hc; rfl) ⟨el, i, sz, hu, h1, h2⟩ (fun _ h => by cases h)
        · cases hc
      · rename_i el hu; exact key .nilSlice (by cases hc; rfl) ⟨el, hu⟩ (fun _ h => by cases h)
      · rename_i k el hu; exact key .nilMap (by cases hc; rfl) ⟨k, el, hu⟩ (fun _ h => by cases h)
      · rename_i h1 h2 h3 hu; exact key .nilFunc (by cases hc; rfl) ⟨_, _, _, hu⟩ (fun _ h => by cases h)
      · rename_i ms hu
        split at hc
        · rename_i he
          refine key (.iface true) (by cases hc; rfl) ⟨ms, hu⟩ (fun e h _ => ?_)
          simp only [Bool.or_eq_true] at he
          rcases he with (he | he) | he
          · exact .inl ⟨ms, hu, he⟩
          · exact .inr (.inl he)
          · exact .inr (.inr he)
        · exact key (.dyn (ptrTypes P)) (by cases hc; rfl) ⟨⟨ms, hu⟩, fun q hq => ptrTypes_spec hq⟩ (fun _ h => by cases h)
      · cases hc
    · simp only [Option.some.injEq] at hc; subst hc; simp [readOf] at hv
  | _ =>
    exfalso
    simp only [compOpA, compEq] at hc
    repeat' split at hc
    all_goals first
      | (cases hc; done)
      | (simp only [Option.some.injEq] at hc; subst hc; simp [readOf] at hv; done)
      | (simp only [Option.map_eq_some_iff] at hc; obtain ⟨_, _, rfl⟩ := hc; simp [readOf] at hv; done)
end
end Go.AM
