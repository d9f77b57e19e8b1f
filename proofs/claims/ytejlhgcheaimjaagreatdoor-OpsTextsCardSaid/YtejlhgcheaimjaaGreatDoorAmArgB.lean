/- The abstract machine: arguments that are numbers, texts, truths, structs of such, slices of such structs. -/
import Derived.Test.YtejlhgcheaimjaaGreatDoorAmOwn
import Derived.Test.YtejlhgcheaimjaaGreatDoorAmTr
namespace Go.AM
set_option linter.unusedSimpArgs false
section
variable {H : Type} {P : Program} {A : St}

theorem argInt {t : TypeId} {k : IntKind} (ht : P.underlying t = some (.int k)) {a : AV} {d : DataW H} (h : ARdV P A t a d) : ∃ i, a = .int k i ∧ k.min ≤ i ∧ i ≤ k.max := by
  obtain ⟨n, l, h2, h3⟩ := h
  rw [ht] at h3
  cases n with
  | zero => exact h2.elim
  | succ n =>
    unfold ARd at h2
    rw [ht] at h2
    obtain ⟨i, rfl, hw, _⟩ := h2
    cases h3
    simp only [Lit.wf, Bool.and_eq_true, decide_eq_true_eq] at hw
    exact ⟨i, rfl, hw⟩
theorem argStr {t : TypeId} (ht : P.underlying t = some .string) {a : AV} {d : DataW H} (h : ARdV P A t a d) : ∃ s, a = .str s ∧ s.length ≤ maxLen := by
  obtain ⟨n, l, h2, h3⟩ := h
  rw [ht] at h3
  cases n with
  | zero => exact h2.elim
  | succ n =>
    unfold ARd at h2
    rw [ht] at h2
    obtain ⟨s, rfl, hw, _⟩ := h2
    cases h3
    exact ⟨s, rfl, hw⟩
theorem argBool {t : TypeId} (ht : P.underlying t = some .bool) {a : AV} {d : DataW H} (h : ARdV P A t a d) : ∃ b, a = .bool b := by
  obtain ⟨n, l, h2, h3⟩ := h
  rw [ht] at h3
  cases n with
  | zero => exact h2.elim
  | succ n =>
    unfold ARd at h2
    rw [ht] at h2
    obtain ⟨b, rfl, _⟩ := h2
    cases h3
    exact ⟨b, rfl⟩
theorem rdInt {n : Nat} {t : TypeId} {k : IntKind} (ht : P.underlying t = some (.int k)) {l : List AV} {d : DataW H} (h : ARd P A n t l d) : ∃ i, l = [.int k i] ∧ k.min ≤ i ∧ i ≤ k.max := by
  obtain ⟨i, h1, h2⟩ := argInt ht (a := l.headD .bot) (d := d) ⟨n, l, h, by
    rw [ht]
    cases n with
    | zero => exact h.elim
    | succ n =>
      unfold ARd at h
      rw [ht] at h
      obtain ⟨i, rfl, _⟩ := h
      rfl⟩
  cases n with
  | zero => exact h.elim
  | succ n =>
    unfold ARd at h
    rw [ht] at h
    obtain ⟨j, rfl, _⟩ := h
    cases h1
    exact ⟨i, rfl, h2⟩
theorem rdStr {n : Nat} {t : TypeId} (ht : P.underlying t = some .string) {l : List AV} {d : DataW H} (h : ARd P A n t l d) : ∃ s, l = [.str s] ∧ s.length ≤ maxLen := by
  cases n with
  | zero => exact h.elim
  | succ n =>
    unfold ARd at h
    rw [ht] at h
    obtain ⟨j, rfl, h, _⟩ := h
    exact ⟨j, rfl, h⟩

/-- The numbers and the text of an operation. -/
structure OpD where
  kind : Int
  key : List UInt8
  n : Int
  lo : Int
def i64ok (i : Int) : Prop := -9223372036854775808 ≤ i ∧ i ≤ 9223372036854775807
structure OpD.Ok (o : OpD) : Prop where
  kind : i64ok o.kind
  key : o.key.length ≤ maxLen
  n : i64ok o.n
  lo : i64ok o.lo
def OpD.cells (o : OpD) : List AV := [.int .i64 o.kind, .str o.key, .int .i64 o.n, .int .i64 o.lo]
/-- A struct of a number, a text, two numbers. -/
structure OpT (P : Program) (t : TypeId) : Prop where
  ex : ∃ fs t1 t2 t3 t4, P.underlying t = some (.struct fs) ∧ fs.toList.map (·.type) = [t1, t2, t3, t4] ∧ P.underlying t1 = some (.int .i64) ∧ P.underlying t2 = some .string ∧ P.underlying t3 = some (.int .i64) ∧ P.underlying t4 = some (.int .i64)
theorem rdOp {n : Nat} {t : TypeId} (T : OpT P t) {l : List AV} {d : DataW H} (h : ARd P A n t l d) : ∃ o : OpD, o.Ok ∧ l = o.cells := by
  obtain ⟨fs, t1, t2, t3, t4, hu, hf, u1, u2, u3, u4⟩ := T.ex
  cases n with
  | zero => exact h.elim
  | succ n =>
    unfold ARd at h
    rw [hu] at h
    obtain ⟨ds, _, h⟩ := h
    rw [hf] at h
    obtain ⟨l1, r1, d1, ds1, rfl, rfl, h1, h⟩ := h
    obtain ⟨l2, r2, d2, ds2, rfl, rfl, h2, h⟩ := h
    obtain ⟨l3, r3, d3, ds3, rfl, rfl, h3, h⟩ := h
    obtain ⟨l4, r4, d4, ds4, rfl, rfl, h4, h⟩ := h
    obtain ⟨rfl, _⟩ := h
    obtain ⟨i1, rfl, b1⟩ := rdInt u1 h1
    obtain ⟨s, rfl, b2⟩ := rdStr u2 h2
    obtain ⟨i3, rfl, b3⟩ := rdInt u3 h3
    obtain ⟨i4, rfl, b4⟩ := rdInt u4 h4
    exact ⟨⟨i1, s, i3, i4⟩, ⟨b1, b2, b3, b4⟩, rfl⟩
theorem argOp {t : TypeId} (T : OpT P t) {a : AV} {d : DataW H} (h : ARdV P A t a d) : ∃ o : OpD, o.Ok ∧ a = .agg o.cells := by
  obtain ⟨n, l, h2, h3⟩ := h
  obtain ⟨fs, _, _, _, _, hu, _⟩ := T.ex
  rw [hu] at h3
  obtain ⟨o, ho, rfl⟩ := rdOp T h2
  exact ⟨o, ho, h3⟩
def opsCells : List OpD → List AV
  | [] => []
  | o :: l => o.cells ++ opsCells l
theorem opsCells_length : ∀ l : List OpD, (opsCells l).length = l.length * 4
  | [] => rfl
  | o :: l => by simp only [opsCells, List.length_append, opsCells_length l, List.length_cons]; simp [OpD.cells]; omega
theorem opsCells_take : ∀ (l : List OpD) (k : Nat), (opsCells l).take (k * 4) = opsCells (l.take k)
  | [], k => by simp [opsCells]
  | o :: l, 0 => by simp [opsCells]
  | o :: l, k + 1 => by
    simp only [opsCells, List.take_succ_cons]
    rw [show (k + 1) * 4 = o.cells.length + k * 4 by simp [OpD.cells]; omega, List.take_length_add_append, opsCells_take l k]
theorem rdAll_ops {n : Nat} {t : TypeId} (T : OpT P t) : ∀ {cap : Nat} {cs : List AV} {ds : List (DataW H)}, rdAll (ARd P A n) (List.replicate cap t) cs ds → ∃ l : List OpD, (∀ o ∈ l, o.Ok) ∧ cs = opsCells l ∧ l.length = cap
  | 0, cs, ds, h => by
    obtain ⟨rfl, _⟩ := h
    exact ⟨[], (by simp), rfl, rfl⟩
  | cap + 1, cs, ds, h => by
    rw [List.replicate_succ] at h
    obtain ⟨l1, l2, d, ds', rfl, rfl, h2, h3⟩ := h
    obtain ⟨l, hl, rfl, hc⟩ := rdAll_ops T h3
    obtain ⟨o, ho, rfl⟩ := rdOp T h2
    refine ⟨o :: l, fun x hx => ?_, rfl, by simp [hc]⟩
    rcases List.mem_cons.1 hx with rfl | hx
    · exact ho
    · exact hl x hx
/-- An argument that is a slice of operations. -/
theorem argOps {u t : TypeId} (hu : P.underlying u = some (.slice t)) (h4 : P.cellsOf t = 4) (T : OpT P t) {a : AV} {d : DataW H} (h : ARdV P A u a d) : ∃ l : List OpD, (∀ o ∈ l, o.Ok) ∧ Sl A 4 a (opsCells l) ∧ l.length ≤ maxLen := by
  obtain ⟨n, l, h3, h5⟩ := h
  rw [hu] at h5
  cases n with
  | zero => exact h3.elim
  | succ n =>
    unfold ARd at h3
    rw [hu] at h3
    rcases h3 with ⟨rfl, _⟩ | ⟨k, rfl, _⟩ | ⟨f, len, cap, cs, ds, sp, rfl, hf, hc, hmx, hg, _, hl, hcap, hcs, hall⟩
    · cases h5; exact ⟨[], by simp, .nil _ _ _, Nat.zero_le _⟩
    · cases h5; exact ⟨[], by simp, .nil _ _ _, Nat.zero_le _⟩
    · cases h5
      obtain ⟨l, ho, rfl, hlen⟩ := rdAll_ops T hall
      rw [List.length_append] at hcap
      rw [h4] at hg hcs
      refine ⟨l.take len, fun o h => ho o (List.mem_of_mem_take h), ?_, by rw [List.length_take]; omega⟩
      rw [← opsCells_take]
      refine .mem hf ?_ (.inl ⟨rfl, by omega⟩)
      have := Nat.mul_le_mul_right 4 (show len ≤ cap by omega)
      unfold St.cells St.look
      dsimp only
      rw [hg]
      simp [findVer]
      omega
end
end Go.AM
/- The abstract machine: arguments that are bytes. -/
namespace Go.AM
set_option linter.unusedSimpArgs false
section
variable {H : Type} {P : Program} {A : St}

theorem rdAll_bytes {n : Nat} {e : TypeId} (he : P.underlying e = some (.int .u8)) : ∀ {cap : Nat} {cs : List AV} {ds : List (DataW H)}, rdAll (ARd P A n) (List.replicate cap e) cs ds → ∃ l : List UInt8, cs = bytesV l ∧ l.length = cap
  | 0, cs, ds, h => by
    obtain ⟨rfl, _⟩ := h
    exact ⟨[], rfl, rfl⟩
  | cap + 1, cs, ds, h => by
    rw [List.replicate_succ] at h
    obtain ⟨l1, l2, d, ds', rfl, rfl, h1, h2⟩ := h
    obtain ⟨l, rfl, hl⟩ := rdAll_bytes he h2
    cases n with
    | zero => exact h1.elim
    | succ n =>
      unfold ARd at h1
      rw [he] at h1
      obtain ⟨i, rfl, hw, _⟩ := h1
      have hw : 0 ≤ i ∧ i ≤ 255 := by
        simp only [Lit.wf, Bool.and_eq_true, decide_eq_true_eq] at hw
        exact hw
      refine ⟨UInt8.ofNat i.toNat :: l, ?_, by simp [hl]⟩
      have e1 : ((UInt8.ofNat i.toNat).toNat : Int) = i := by
        rw [UInt8.toNat_ofNat']
        omega
      show AV.int .u8 i :: bytesV l = byteV (UInt8.ofNat i.toNat) :: bytesV l
      unfold byteV
      rw [e1]

theorem slice_read {f len cap : Nat} {cs : List AV} {sz : Nat} (hf : f < A.next) (hcap : len ≤ cap) (hg : A.get f = some (.cells cs [⟨0, 0, cs.length, sz⟩] 1 true)) (hcs : cs.length = cap * sz) : Sl A sz (.slice (some (f, 0, 0)) 0 len cap 0) (cs.take (len * sz)) := by
  refine .mem hf ?_ (.inl ⟨rfl, hcap⟩)
  have := Nat.mul_le_mul_right sz hcap
  unfold St.cells St.look
  dsimp only
  rw [hg]
  simp [findVer]
  omega

theorem bs_of_ARd {n : Nat} {t e : TypeId} (ht : P.underlying t = some (.slice e)) (he : P.underlying e = some (.int .u8)) (h1 : P.cellsOf e = 1) {l : List AV} {d : DataW H} (h : ARd P A n t l d) : ∃ a l', l = [a] ∧ Bs A a l' ∧ l'.length ≤ maxLen := by
  cases n with
  | zero => exact h.elim
  | succ n =>
    unfold ARd at h
    rw [ht] at h
    rcases h with ⟨rfl, _⟩ | ⟨k, rfl, _⟩ | ⟨f, len, cap, cs, ds, sp, rfl, hf, hc, hmx, hg, _, hl, hcap, hcs, hall⟩
    · exact ⟨_, [], rfl, .nil _ _ _, Nat.zero_le _⟩
    · exact ⟨_, [], rfl, .nil _ _ _, Nat.zero_le _⟩
    · obtain ⟨l', rfl, hl'⟩ := rdAll_bytes he hall
      rw [List.length_append] at hcap
      rw [h1] at hg hcs
      refine ⟨_, l'.take len, rfl, ?_, by rw [List.length_take]; omega⟩
      have := slice_read (sz := 1) hf (by omega) hg hcs (len := len)
      rw [Nat.mul_one, bytesV_take] at this
      exact this

theorem bs_of_arg {t e : TypeId} (ht : P.underlying t = some (.slice e)) (he : P.underlying e = some (.int .u8)) (h1 : P.cellsOf e = 1) {a : AV} {d : DataW H} (h : ARdV P A t a d) : ∃ l, Bs A a l ∧ l.length ≤ maxLen := by
  obtain ⟨n, l, h2, h3⟩ := h
  rw [ht] at h3
  obtain ⟨a', l', rfl, h4⟩ := bs_of_ARd ht he h1 h2
  cases h3
  exact ⟨l', h4⟩
end
end Go.AM
