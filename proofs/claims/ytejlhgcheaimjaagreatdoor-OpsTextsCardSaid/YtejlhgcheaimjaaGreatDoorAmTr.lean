/- The abstract machine: regions that draw their order, as equations. -/
import Derived.Test.YtejlhgcheaimjaaGreatDoorAmInt
namespace Go.AM
set_option linter.unusedVariables false
set_option linter.unusedSimpArgs false

theorem Sl.text {A : St} {s : AV} {l : List UInt8} (h : Sl A 1 s (bytesV l)) : textV A s = some (.str l) := Bs.text h

@[simp] theorem un_not (b : Bool) : unOf .not (.bool b) = some (.bool (!b)) := rfl
theorem un_neg (k : IntKind) (x : Int) : unOf .neg (.int k x) = some (.int k (k.wrap (0 - x))) := rfl

theorem Sl.into_lt {A : St} {sz : Nat} {s : AV} {cs : List AV} (h : Sl A sz s cs) {f : Nat} (hf : s.into f = true) : f < A.next := by
  cases h with
  | nil po cap q => simp [AV.into] at hf
  | mem hf' _ _ => simp [AV.into] at hf; omega

/-- A read tells v in the states lo to hi. -/
def InAll (F : List St) (lo hi : Nat) (f : St → Option AV) (v : AV) : Prop := hi < F.length ∧ AV.beq v v = true ∧ ∀ x ∈ (F.drop lo).take (hi + 1 - lo), f x = some v

section
variable (D : Disp) (G0 : Env) (fns : Nat → Option AFn) (X : Calls')
/-- The operations of a region that draws; S: the states before, C: what is still to be shown of all states. -/
def OpsD : List (AOper × Nat × Nat) → List St → (List St → Prop) → Env → St → (Ex → Env → St → Prop) → Prop
  | [], S, C, E, A, Q => C (S ++ [A]) ∧ Q .normal E A
  | (o, lo, hi) :: l, S, C, E, A, Q =>
    match wantedA E o.guard with
    | some true => (match o.op.cls with
      | .pure => (match pureOf E o.op with | some v => OpsD l (S ++ [A]) C (Env.put E o.dst v) A Q | none => False)
      | .read => (match readOf E A o.op with | some v => OpsD l (S ++ [A]) (fun F => C F ∧ InAll F lo hi (fun A' => readOf E A' o.op) v) (Env.put E o.dst v) A Q | none => False)
      | .new => (match newOf E o.op with | some (cs, sz, md) => OpsD l (S ++ [A]) C (Env.put E o.dst (md.value A.next)) (A.makeV cs sz md.ver).2 Q | none => False)
      | .eff => (match effOf E A o.op with | some (v, B) => OpsD l (S ++ [A]) C (Env.put E o.dst v) B Q | none => False)
      | .call => (match calleeOf D E A o.op with | some (f, args) => allKnown args = true ∧ Ev D G0 fns X f args A fun r B => OpsD l (S ++ [A]) C (Env.put E o.dst r) B Q | none => False)
      | .quiet => False)
    | some false => OpsD l (S ++ [A]) C (Env.put E o.dst (.tuple [])) A Q
    | none => False
end

section
variable {D : Disp} {G0 : Env} {fns : Nat → Option AFn} {X : Calls'}

theorem look_read {D : Disp} {G : Calls'} {E : Env} {A : St} {op : AOp} (hc : op.cls = .read) : lookOf D G E A op = readOf E A op := by
  unfold lookOf opOf
  rw [hc]
  dsimp only
  cases readOf E A op <;> rfl
theorem sameIn_of {D : Disp} {G : Calls'} {tr : List (Env × St)} {E : Env} {op : AOp} {v : AV} (hc : op.cls = .read) (hb : AV.beq v v = true) : ∀ (n q : Nat), q + n ≤ tr.length → (∀ x ∈ ((tr.map (·.2)).drop q).take n, readOf E x op = some v) → sameIn D G tr E op (some v) q n = true
  | 0, q, _, _ => rfl
  | n + 1, q, hl, h => by
    have hq : q < tr.length := by omega
    have hg : tr[q]? = some tr[q] := List.getElem?_eq_getElem hq
    have hd : (tr.map (·.2)).drop q = tr[q].2 :: (tr.map (·.2)).drop (q + 1) := by
      rw [List.drop_eq_getElem_cons (by simpa using hq)]
      simp
    rw [hd, List.take_succ_cons] at h
    have ih := sameIn_of (D := D) (G := G) hc hb n (q + 1) (by omega) (fun x hx => h x (List.mem_cons_of_mem _ hx))
    unfold sameIn
    rw [hg]
    dsimp only
    rw [look_read hc, h _ List.mem_cons_self, ih]
    simp [sameRead, hb]

theorem chkTr_cons {G : Calls'} {tr' : List (Env × St)} {E : Env} {A : St} {t : List (Env × St)} {o : AOper} {lo hi : Nat} {l : List (AOper × Nat × Nat)}
    (h1 : o.op.cls = .read → wantedA E o.guard = some true → ∃ v, readOf E A o.op = some v ∧ InAll ((tr' ++ (E, A) :: t).map (·.2)) lo hi (fun A' => readOf E A' o.op) v)
    (hq : o.op.cls = .quiet → wantedA E o.guard ≠ some true)
    (h2 : chkTr D G (tr' ++ (E, A) :: t) (tr'.length + 1) l = true) : chkTr D G (tr' ++ (E, A) :: t) tr'.length ((o, lo, hi) :: l) = true := by
  unfold chkTr
  rw [h2, Bool.and_true]
  have hg : (tr' ++ (E, A) :: t)[tr'.length]? = some (E, A) := by simp
  rw [hg]
  dsimp only
  cases hr : isLook o.op && isTrue (wantedA E o.guard) with
  | false => rfl
  | true =>
    rw [cond_true]
    obtain ⟨hr1, hr2⟩ := Bool.and_eq_true_iff.1 hr
    have hw : wantedA E o.guard = some true := by
      unfold isTrue at hr2
      split at hr2
      · assumption
      · cases hr2
    have hc : o.op.cls = .read := by
      unfold isLook at hr1
      split at hr1
      · assumption
      · rename_i h; exact absurd hw (hq h)
      · cases hr1
    obtain ⟨v, hv, hlen, hb, hall⟩ := h1 hc hw
    rw [look_read hc, hv]
    rw [List.length_map] at hlen
    by_cases hlo : lo ≤ hi
    · exact sameIn_of hc hb _ _ (by omega) hall
    · rw [show hi + 1 - lo = 0 by omega]; rfl

theorem opsD_run : ∀ (l : List (AOper × Nat × Nat)) (S : List St) (C : List St → Prop) (E : Env) (A : St) (Q : Ex → Env → St → Prop), OpsD D G0 fns X l S C E A Q →
    ∃ k t E' A', runTr D (calls D G0 fns X k) l E A = some t ∧ lastOf t = some (E', A') ∧ Q .normal E' A' ∧ C (S ++ t.map (·.2)) ∧ ∀ G tr', tr'.map (·.2) = S → chkTr D G (tr' ++ t) tr'.length l = true
  | [], S, C, E, A, Q, h => ⟨0, [(E, A)], E, A, rfl, rfl, h.2, h.1, fun G tr' _ => rfl⟩
  | (o, lo, hi) :: l, S, C, E, A, Q, h => by
    -- what the rest gives
    have step : ∀ {C' : List St → Prop} {v : AV} {B : St} {k0 : Nat}, wantedA E o.guard = some true → (∀ k, k0 ≤ k → opOf D (calls D G0 fns X k) E A o.op = some (v, B)) → OpsD D G0 fns X l (S ++ [A]) C' (Env.put E o.dst v) B Q →
        ∃ k t E' A', runTr D (calls D G0 fns X k) ((o, lo, hi) :: l) E A = some ((E, A) :: t) ∧ lastOf ((E, A) :: t) = some (E', A') ∧ Q .normal E' A' ∧ C' (S ++ ((E, A) :: t).map (·.2)) ∧ ∀ G tr', tr'.map (·.2) = S → chkTr D G (tr' ++ (E, A) :: t) (tr'.length + 1) l = true := by
      intro C' v B k0 hw hop hl
      obtain ⟨k, t, E', A', h1, h2, h3, h4, h5⟩ := opsD_run l _ _ _ _ _ hl
      refine ⟨max k0 k, t, E', A', ?_, ?_, h3, by simpa using h4, fun G tr' ht => ?_⟩
      · simp only [runTr, hw, hop _ (Nat.le_max_left _ _)]
        rw [runTr_le (calls_le (Nat.le_max_right k0 k)) h1]
      · cases t with
        | nil => cases h2
        | cons y t => exact h2
      · have := h5 G (tr' ++ [(E, A)]) (by simp [ht])
        simpa using this
    unfold OpsD at h
    split at h
    · rename_i hw
      have hnq : o.op.cls ≠ .quiet := fun hcq => by rw [hcq] at h; exact h
      have fin : ∀ {C' : List St → Prop}, (∃ k t E' A', runTr D (calls D G0 fns X k) ((o, lo, hi) :: l) E A = some ((E, A) :: t) ∧ lastOf ((E, A) :: t) = some (E', A') ∧ Q .normal E' A' ∧ C' (S ++ ((E, A) :: t).map (·.2)) ∧ ∀ G tr', tr'.map (·.2) = S → chkTr D G (tr' ++ (E, A) :: t) (tr'.length + 1) l = true) →
          (∀ F, C' F → C F) → (o.op.cls = .read → ∀ F, C' F → ∃ v, readOf E A o.op = some v ∧ InAll F lo hi (fun A' => readOf E A' o.op) v) →
          ∃ k t E' A', runTr D (calls D G0 fns X k) ((o, lo, hi) :: l) E A = some t ∧ lastOf t = some (E', A') ∧ Q .normal E' A' ∧ C (S ++ t.map (·.2)) ∧ ∀ G tr', tr'.map (·.2) = S → chkTr D G (tr' ++ t) tr'.length ((o, lo, hi) :: l) = true := by
        rintro C' ⟨k, t, E', A', h1, h2, h3, h4, h5⟩ hC hr
        refine ⟨k, (E, A) :: t, E', A', h1, h2, h3, hC _ h4, fun G tr' ht => chkTr_cons (fun hc _ => ?_) (fun h _ => hnq h) (h5 G tr' ht)⟩
        rw [List.map_append, ht]
        exact hr hc _ h4
      split at h
      · rename_i hc
        split at h
        · rename_i v hv
          exact fin (step (k0 := 0) hw (fun k _ => by simp only [opOf, hc, hv]) h) (fun _ x => x) (fun hr => by rw [hc] at hr; cases hr)
        · exact h.elim
      · rename_i hc
        split at h
        · rename_i v hv
          exact fin (step (k0 := 0) hw (fun k _ => by simp only [opOf, hc, hv]) h) (fun _ x => x.1) (fun _ F x => ⟨v, hv, x.2⟩)
        · exact h.elim
      · rename_i hc
        split at h
        · rename_i cs sz md hv
          exact fin (step (k0 := 0) (v := md.value A.next) (B := (A.makeV cs sz md.ver).2) hw (fun k _ => by simp only [opOf, hc, hv]; rfl) h) (fun _ x => x) (fun hr => by rw [hc] at hr; cases hr)
        · exact h.elim
      · rename_i hc
        split at h
        · rename_i v B hv
          exact fin (step (k0 := 0) hw (fun k _ => by simp only [opOf, hc, hv]) h) (fun _ x => x) (fun hr => by rw [hc] at hr; cases hr)
        · exact h.elim
      · rename_i hc
        split at h
        · rename_i f args hv
          obtain ⟨hk, k0, r, B, h1, h2⟩ := h
          exact fin (step (k0 := k0) hw (fun k hk0 => by simp only [opOf, hc, hv, hk, cond_true]; exact calls_le hk0 _ _ _ _ h1) h2) (fun _ x => x) (fun hr => by rw [hc] at hr; cases hr)
        · exact h.elim
      · exact h.elim
    · rename_i hw
      obtain ⟨k, t, E', A', h1, h2, h3, h4, h5⟩ := opsD_run l _ _ _ _ _ h
      refine ⟨k, (E, A) :: t, E', A', by simp only [runTr, hw, h1], ?_, h3, by simpa using h4, fun G tr' ht => chkTr_cons (fun _ hw' => by rw [hw] at hw'; cases hw') (fun _ hw' => by rw [hw] at hw'; cases hw') ?_⟩
      · cases t with
        | nil => cases h2
        | cons y t => exact h2
      · have := h5 G (tr' ++ [(E, A)]) (by simp [ht])
        simpa using this
    · exact h.elim

theorem Wp.draws {l : List (AOper × Nat × Nat)} {E : Env} {A : St} {Q : Ex → Env → St → Prop} (h : OpsD D G0 fns X l [] (fun _ => True) E A Q) : Wp D G0 fns X (.draws l) E A Q := by
  obtain ⟨k, t, E', A', h1, h2, h3, h4, h5⟩ := opsD_run l _ _ _ _ _ h
  have h5 := h5 (calls D G0 fns X k) [] rfl
  simp only [List.nil_append, List.length_nil] at h5
  exact ⟨k, .normal, E', A', by simp only [interp, h1, h5, h2, cond_true], h3⟩
end
/-- A wall before what is costly to look through. -/
inductive Held (p : Prop) : Prop
  | mk (h : p) : Held p
theorem held_eq (p : Prop) : Held p = p := propext ⟨fun ⟨h⟩ => h, Held.mk⟩
section
variable (D : Disp) (G0 : Env) (fns : Nat → Option AFn) (X : Calls')
def contVD (o : Option AV) (d : Option Nat) (l : List (AOper × Nat × Nat)) (S : List St) (C : List St → Prop) (E : Env) (A : St) (Q : Ex → Env → St → Prop) : Prop :=
  match o with
  | some v => OpsD D G0 fns X l (S ++ [A]) C (Env.put E d v) A Q
  | none => False
def contRD (f : St → Option AV) (o : Option AV) (lo hi : Nat) (d : Option Nat) (l : List (AOper × Nat × Nat)) (S : List St) (C : List St → Prop) (E : Env) (A : St) (Q : Ex → Env → St → Prop) : Prop :=
  match o with
  | some v => OpsD D G0 fns X l (S ++ [A]) (fun F => C F ∧ InAll F lo hi f v) (Env.put E d v) A Q
  | none => False
def contND (o : Option (List AV × Nat × Made)) (d : Option Nat) (l : List (AOper × Nat × Nat)) (S : List St) (C : List St → Prop) (E : Env) (A : St) (Q : Ex → Env → St → Prop) : Prop :=
  match o with
  | some (cs, sz, md) => OpsD D G0 fns X l (S ++ [A]) C (Env.put E d (md.value A.next)) (A.makeV cs sz md.ver).2 Q
  | none => False
def contPD (o : Option (AV × St)) (d : Option Nat) (l : List (AOper × Nat × Nat)) (S : List St) (C : List St → Prop) (E : Env) (A : St) (Q : Ex → Env → St → Prop) : Prop :=
  match o with
  | some (v, B) => OpsD D G0 fns X l (S ++ [A]) C (Env.put E d v) B Q
  | none => False
def contKD (d : Option Nat) (l : List (AOper × Nat × Nat)) (S : List St) (C : List St → Prop) (E : Env) (A : St) (Q : Ex → Env → St → Prop) (r : AV) (B : St) : Prop := Held (OpsD D G0 fns X l (S ++ [A]) C (Env.put E d r) B Q)
def contGD (v : AV) (b : Bool) (o : AOper) (lo hi : Nat) (l : List (AOper × Nat × Nat)) (S : List St) (C : List St → Prop) (E : Env) (A : St) (Q : Ex → Env → St → Prop) : Prop :=
  match v with
  | .bool c => if c = b then OpsD D G0 fns X ((⟨o.dst, o.op, none⟩, lo, hi) :: l) S C E A Q else OpsD D G0 fns X l (S ++ [A]) C (Env.put E o.dst (.tuple [])) A Q
  | .tuple [] => OpsD D G0 fns X l (S ++ [A]) C (Env.put E o.dst (.tuple [])) A Q
  | _ => False
end
section
variable {D : Disp} {G0 : Env} {fns : Nat → Option AFn} {X : Calls'} {d : Option Nat} {lo hi : Nat} {l : List (AOper × Nat × Nat)} {S : List St} {C : List St → Prop} {E : Env} {A : St} {Q : Ex → Env → St → Prop}
@[simp] theorem contVD_some (v : AV) : contVD D G0 fns X (some v) d l S C E A Q = OpsD D G0 fns X l (S ++ [A]) C (Env.put E d v) A Q := rfl
@[simp] theorem contRD_some (f : St → Option AV) (v : AV) : contRD D G0 fns X f (some v) lo hi d l S C E A Q = OpsD D G0 fns X l (S ++ [A]) (fun F => C F ∧ InAll F lo hi f v) (Env.put E d v) A Q := rfl
@[simp] theorem contND_some (cs : List AV) (sz : Nat) (md : Made) : contND D G0 fns X (some (cs, sz, md)) d l S C E A Q = OpsD D G0 fns X l (S ++ [A]) C (Env.put E d (md.value A.next)) (A.makeV cs sz md.ver).2 Q := rfl
@[simp] theorem contPD_some (v : AV) (B : St) : contPD D G0 fns X (some (v, B)) d l S C E A Q = OpsD D G0 fns X l (S ++ [A]) C (Env.put E d v) B Q := rfl
@[simp] theorem contKD_eq (r : AV) (B : St) : contKD D G0 fns X d l S C E A Q r B = OpsD D G0 fns X l (S ++ [A]) C (Env.put E d r) B Q := held_eq _
@[simp] theorem contGD_bool (c b : Bool) (o : AOper) : contGD D G0 fns X (.bool c) b o lo hi l S C E A Q = if c = b then OpsD D G0 fns X ((⟨o.dst, o.op, none⟩, lo, hi) :: l) S C E A Q else OpsD D G0 fns X l (S ++ [A]) C (Env.put E o.dst (.tuple [])) A Q := rfl
@[simp] theorem contGD_none (b : Bool) (o : AOper) : contGD D G0 fns X (.tuple []) b o lo hi l S C E A Q = OpsD D G0 fns X l (S ++ [A]) C (Env.put E o.dst (.tuple [])) A Q := rfl
@[simp] theorem opsD_nil : OpsD D G0 fns X [] S C E A Q = (C (S ++ [A]) ∧ Q .normal E A) := rfl
end
section
variable {D : Disp} {G0 : Env} {fns : Nat → Option AFn} {X : Calls'}
theorem opsD_pure {op : AOp} (hc : op.cls = .pure) (d : Option Nat) (lo hi : Nat) (l : List (AOper × Nat × Nat)) (S : List St) (C : List St → Prop) (E : Env) (A : St) (Q : Ex → Env → St → Prop) : OpsD D G0 fns X ((⟨d, op, none⟩, lo, hi) :: l) S C E A Q = contVD D G0 fns X (pureOf E op) d l S C E A Q := by
  conv => lhs; unfold OpsD
  simp only [wantedA, hc]
  rfl
theorem opsD_read {op : AOp} (hc : op.cls = .read) (d : Option Nat) (lo hi : Nat) (l : List (AOper × Nat × Nat)) (S : List St) (C : List St → Prop) (E : Env) (A : St) (Q : Ex → Env → St → Prop) : OpsD D G0 fns X ((⟨d, op, none⟩, lo, hi) :: l) S C E A Q = contRD D G0 fns X (fun A' => readOf E A' op) (readOf E A op) lo hi d l S C E A Q := by
  conv => lhs; unfold OpsD
  simp only [wantedA, hc]
  rfl
theorem opsD_new {op : AOp} (hc : op.cls = .new) (d : Option Nat) (lo hi : Nat) (l : List (AOper × Nat × Nat)) (S : List St) (C : List St → Prop) (E : Env) (A : St) (Q : Ex → Env → St → Prop) : OpsD D G0 fns X ((⟨d, op, none⟩, lo, hi) :: l) S C E A Q = contND D G0 fns X (newOf E op) d l S C E A Q := by
  conv => lhs; unfold OpsD
  simp only [wantedA, hc]
  rfl
theorem opsD_eff {op : AOp} (hc : op.cls = .eff) (d : Option Nat) (lo hi : Nat) (l : List (AOper × Nat × Nat)) (S : List St) (C : List St → Prop) (E : Env) (A : St) (Q : Ex → Env → St → Prop) : OpsD D G0 fns X ((⟨d, op, none⟩, lo, hi) :: l) S C E A Q = contPD D G0 fns X (effOf E A op) d l S C E A Q := by
  conv => lhs; unfold OpsD
  simp only [wantedA, hc]
  rfl
theorem opsD_callf (f : FuncId) (args : List Operand) (d : Option Nat) (lo hi : Nat) (l : List (AOper × Nat × Nat)) (S : List St) (C : List St → Prop) (E : Env) (A : St) (Q : Ex → Env → St → Prop) (hk : allKnown (evs E args) = true) : OpsD D G0 fns X ((⟨d, .call f args, none⟩, lo, hi) :: l) S C E A Q = Ev D G0 fns X f (evs E args) A (contKD D G0 fns X d l S C E A Q) := by
  conv => lhs; unfold OpsD
  simp only [wantedA, AOp.cls, calleeOf, hk, true_and]
  congr 1
  funext r B
  exact (held_eq _).symm
@[simp] theorem opsD_guard (t : Nat) (b : Bool) (op : AOp) (d : Option Nat) (lo hi : Nat) (l : List (AOper × Nat × Nat)) (S : List St) (C : List St → Prop) (E : Env) (A : St) (Q : Ex → Env → St → Prop) (ht : t < 1000000) : OpsD D G0 fns X ((⟨d, op, some (t, b)⟩, lo, hi) :: l) S C E A Q = contGD D G0 fns X (Env.at E t) b ⟨d, op, some (t, b)⟩ lo hi l S C E A Q := by
  have hw : wantedA E (some (t, b)) = match Env.at E t with | .bool c => some (c == b) | .tuple [] => some false | _ => none := by
    unfold wantedA
    dsimp only
    rw [show Nat.blt t 1000000 = true from by rw [Nat.blt_eq]; exact ht]
    rfl
  unfold contGD
  split
  · rename_i c hc
    rw [hc] at hw
    dsimp only at hw
    by_cases hb : c = b
    · rw [if_pos hb]
      subst hb
      rw [beq_self_eq_true] at hw
      conv => lhs; unfold OpsD
      conv => rhs; unfold OpsD
      simp only [hw, show wantedA E none = some true from rfl]
    · rw [if_neg hb]
      have hb' : (c == b) = false := by simpa using hb
      rw [hb'] at hw
      conv => lhs; unfold OpsD
      simp only [hw]
  · rename_i hc
    rw [hc] at hw
    dsimp only at hw
    conv => lhs; unfold OpsD
    simp only [hw]
  · rename_i hno hno2
    have hw' : wantedA E (some (t, b)) = none := by
      rw [hw]
      split
      · rename_i c hc; exact (hno c hc).elim
      · rename_i hc; exact (hno2 hc).elim
      · rfl
    conv => lhs; unfold OpsD
    simp only [hw']
@[simp] theorem opsD_mv (x : Operand) (d : Option Nat) (l0 h0 : Nat) (l : List (AOper × Nat × Nat)) (S : List St) (C : List St → Prop) (E : Env) (A : St) (Q : Ex → Env → St → Prop) : OpsD D G0 fns X ((⟨d, .mv x, none⟩, l0, h0) :: l) S C E A Q = contVD D G0 fns X (some (ev E x)) d l S C E A Q := by rw [opsD_pure rfl]; try rfl
@[simp] theorem opsD_pick (c a b : Operand) (d : Option Nat) (l0 h0 : Nat) (l : List (AOper × Nat × Nat)) (S : List St) (C : List St → Prop) (E : Env) (A : St) (Q : Ex → Env → St → Prop) : OpsD D G0 fns X ((⟨d, .pick c a b, none⟩, l0, h0) :: l) S C E A Q = contVD D G0 fns X (pickV (ev E c) (ev E a) (ev E b)) d l S C E A Q := by
  rw [opsD_pure rfl]
  congr 1
  show (match ev E c with | .bool t => some (ev E (bif t then a else b)) | _ => none) = _
  unfold pickV
  cases ev E c <;> try rfl
  rename_i t
  cases t <;> rfl
@[simp] theorem opsD_bin (o : BinOp) (x y : Operand) (d : Option Nat) (l0 h0 : Nat) (l : List (AOper × Nat × Nat)) (S : List St) (C : List St → Prop) (E : Env) (A : St) (Q : Ex → Env → St → Prop) : OpsD D G0 fns X ((⟨d, .bin o x y, none⟩, l0, h0) :: l) S C E A Q = contVD D G0 fns X (binOf o (ev E x) (ev E y)) d l S C E A Q := by rw [opsD_pure rfl]; try rfl
@[simp] theorem opsD_un (o : UnOp) (x : Operand) (d : Option Nat) (l0 h0 : Nat) (l : List (AOper × Nat × Nat)) (S : List St) (C : List St → Prop) (E : Env) (A : St) (Q : Ex → Env → St → Prop) : OpsD D G0 fns X ((⟨d, .un o x, none⟩, l0, h0) :: l) S C E A Q = contVD D G0 fns X (unOf o (ev E x)) d l S C E A Q := by rw [opsD_pure rfl]; try rfl
@[simp] theorem opsD_eqb (neg : Bool) (x y : Operand) (d : Option Nat) (l0 h0 : Nat) (l : List (AOper × Nat × Nat)) (S : List St) (C : List St → Prop) (E : Env) (A : St) (Q : Ex → Env → St → Prop) : OpsD D G0 fns X ((⟨d, .eqb neg x y, none⟩, l0, h0) :: l) S C E A Q = contVD D G0 fns X (eqbV neg (ev E x) (ev E y)) d l S C E A Q := by rw [opsD_pure rfl]; try rfl
@[simp] theorem opsD_conv (k : IntKind) (x : Operand) (d : Option Nat) (l0 h0 : Nat) (l : List (AOper × Nat × Nat)) (S : List St) (C : List St → Prop) (E : Env) (A : St) (Q : Ex → Env → St → Prop) : OpsD D G0 fns X ((⟨d, .conv k x, none⟩, l0, h0) :: l) S C E A Q = contVD D G0 fns X (convV k (ev E x)) d l S C E A Q := by rw [opsD_pure rfl]; try rfl
@[simp] theorem opsD_same (x : Operand) (d : Option Nat) (l0 h0 : Nat) (l : List (AOper × Nat × Nat)) (S : List St) (C : List St → Prop) (E : Env) (A : St) (Q : Ex → Env → St → Prop) : OpsD D G0 fns X ((⟨d, .same x, none⟩, l0, h0) :: l) S C E A Q = contVD D G0 fns X (sameV (ev E x)) d l S C E A Q := by rw [opsD_pure rfl]; try rfl
@[simp] theorem opsD_extract (t : Operand) (i : Nat) (d : Option Nat) (l0 h0 : Nat) (l : List (AOper × Nat × Nat)) (S : List St) (C : List St → Prop) (E : Env) (A : St) (Q : Ex → Env → St → Prop) : OpsD D G0 fns X ((⟨d, .extract t i, none⟩, l0, h0) :: l) S C E A Q = contVD D G0 fns X (extractV i (ev E t)) d l S C E A Q := by rw [opsD_pure rfl]; try rfl
@[simp] theorem opsD_mkIface (t : TypeId) (x : Operand) (d : Option Nat) (l0 h0 : Nat) (l : List (AOper × Nat × Nat)) (S : List St) (C : List St → Prop) (E : Env) (A : St) (Q : Ex → Env → St → Prop) : OpsD D G0 fns X ((⟨d, .mkIface t x, none⟩, l0, h0) :: l) S C E A Q = contVD D G0 fns X (mkIfaceV t (ev E x)) d l S C E A Q := by rw [opsD_pure rfl]; try rfl
@[simp] theorem opsD_mkFunc (fn : Fn) (first captured : List Operand) (d : Option Nat) (l0 h0 : Nat) (l : List (AOper × Nat × Nat)) (S : List St) (C : List St → Prop) (E : Env) (A : St) (Q : Ex → Env → St → Prop) : OpsD D G0 fns X ((⟨d, .mkFunc fn first captured, none⟩, l0, h0) :: l) S C E A Q = contVD D G0 fns X (pureOf E (.mkFunc fn first captured)) d l S C E A Q := by rw [opsD_pure rfl]; try rfl
@[simp] theorem opsD_nilCheck (x : Operand) (d : Option Nat) (l0 h0 : Nat) (l : List (AOper × Nat × Nat)) (S : List St) (C : List St → Prop) (E : Env) (A : St) (Q : Ex → Env → St → Prop) : OpsD D G0 fns X ((⟨d, .nilCheck x, none⟩, l0, h0) :: l) S C E A Q = contVD D G0 fns X (nilCheckV (ev E x)) d l S C E A Q := by rw [opsD_pure rfl]; try rfl
@[simp] theorem opsD_fieldAddr (off : Nat) (x : Operand) (d : Option Nat) (l0 h0 : Nat) (l : List (AOper × Nat × Nat)) (S : List St) (C : List St → Prop) (E : Env) (A : St) (Q : Ex → Env → St → Prop) : OpsD D G0 fns X ((⟨d, .fieldAddr off x, none⟩, l0, h0) :: l) S C E A Q = contVD D G0 fns X (fieldAddrV off (ev E x)) d l S C E A Q := by rw [opsD_pure rfl]; try rfl
@[simp] theorem opsD_field (off size : Nat) (agg : Bool) (x : Operand) (d : Option Nat) (l0 h0 : Nat) (l : List (AOper × Nat × Nat)) (S : List St) (C : List St → Prop) (E : Env) (A : St) (Q : Ex → Env → St → Prop) : OpsD D G0 fns X ((⟨d, .field off size agg x, none⟩, l0, h0) :: l) S C E A Q = contVD D G0 fns X (fieldV off size agg (ev E x)) d l S C E A Q := by rw [opsD_pure rfl]; try rfl
@[simp] theorem opsD_atSlice (size : Nat) (x i : Operand) (d : Option Nat) (l0 h0 : Nat) (l : List (AOper × Nat × Nat)) (S : List St) (C : List St → Prop) (E : Env) (A : St) (Q : Ex → Env → St → Prop) : OpsD D G0 fns X ((⟨d, .atSlice size x i, none⟩, l0, h0) :: l) S C E A Q = contVD D G0 fns X (atSliceV size (ev E x) (ev E i)) d l S C E A Q := by rw [opsD_pure rfl]; try rfl
@[simp] theorem opsD_atArray (n size : Nat) (x i : Operand) (d : Option Nat) (l0 h0 : Nat) (l : List (AOper × Nat × Nat)) (S : List St) (C : List St → Prop) (E : Env) (A : St) (Q : Ex → Env → St → Prop) : OpsD D G0 fns X ((⟨d, .atArray n size x i, none⟩, l0, h0) :: l) S C E A Q = contVD D G0 fns X (atArrayV n size (ev E x) (ev E i)) d l S C E A Q := by rw [opsD_pure rfl]; try rfl
@[simp] theorem opsD_byteAt (x i : Operand) (d : Option Nat) (l0 h0 : Nat) (l : List (AOper × Nat × Nat)) (S : List St) (C : List St → Prop) (E : Env) (A : St) (Q : Ex → Env → St → Prop) : OpsD D G0 fns X ((⟨d, .byteAt x i, none⟩, l0, h0) :: l) S C E A Q = contVD D G0 fns X (byteAtV (ev E x) (ev E i)) d l S C E A Q := by rw [opsD_pure rfl]; try rfl
@[simp] theorem opsD_elemAt (n size : Nat) (agg : Bool) (x i : Operand) (d : Option Nat) (l0 h0 : Nat) (l : List (AOper × Nat × Nat)) (S : List St) (C : List St → Prop) (E : Env) (A : St) (Q : Ex → Env → St → Prop) : OpsD D G0 fns X ((⟨d, .elemAt n size agg x i, none⟩, l0, h0) :: l) S C E A Q = contVD D G0 fns X (elemAtV n size agg (ev E x) (ev E i)) d l S C E A Q := by rw [opsD_pure rfl]; try rfl
@[simp] theorem opsD_cutStr (x : Operand) (lo hi : Option Operand) (d : Option Nat) (l0 h0 : Nat) (l : List (AOper × Nat × Nat)) (S : List St) (C : List St → Prop) (E : Env) (A : St) (Q : Ex → Env → St → Prop) : OpsD D G0 fns X ((⟨d, .cutStr x lo hi, none⟩, l0, h0) :: l) S C E A Q = contVD D G0 fns X (cutStrV (ev E x) (evo E lo) (evo E hi)) d l S C E A Q := by rw [opsD_pure rfl]; try rfl
@[simp] theorem opsD_cutSlice (size : Nat) (x : Operand) (lo hi mx : Option Operand) (d : Option Nat) (l0 h0 : Nat) (l : List (AOper × Nat × Nat)) (S : List St) (C : List St → Prop) (E : Env) (A : St) (Q : Ex → Env → St → Prop) : OpsD D G0 fns X ((⟨d, .cutSlice size x lo hi mx, none⟩, l0, h0) :: l) S C E A Q = contVD D G0 fns X (cutSliceOf size (ev E x) (evo E lo) (evo E hi) (evo E mx)) d l S C E A Q := by rw [opsD_pure rfl]; try rfl
@[simp] theorem opsD_cutArray (n size : Nat) (x : Operand) (lo hi mx : Option Operand) (d : Option Nat) (l0 h0 : Nat) (l : List (AOper × Nat × Nat)) (S : List St) (C : List St → Prop) (E : Env) (A : St) (Q : Ex → Env → St → Prop) : OpsD D G0 fns X ((⟨d, .cutArray n size x lo hi mx, none⟩, l0, h0) :: l) S C E A Q = contVD D G0 fns X (pureOf E (.cutArray n size x lo hi mx)) d l S C E A Q := by rw [opsD_pure rfl]; try rfl
@[simp] theorem opsD_build (zero : List AV) (parts : List (Nat × Nat × Operand)) (d : Option Nat) (l0 h0 : Nat) (l : List (AOper × Nat × Nat)) (S : List St) (C : List St → Prop) (E : Env) (A : St) (Q : Ex → Env → St → Prop) : OpsD D G0 fns X ((⟨d, .build zero parts, none⟩, l0, h0) :: l) S C E A Q = contVD D G0 fns X (aggV (fillA zero (evParts E parts))) d l S C E A Q := by rw [opsD_pure rfl]; try rfl
@[simp] theorem opsD_isType (t : TypeId) (zero : AV) (ok : Bool) (x : Operand) (d : Option Nat) (l0 h0 : Nat) (l : List (AOper × Nat × Nat)) (S : List St) (C : List St → Prop) (E : Env) (A : St) (Q : Ex → Env → St → Prop) : OpsD D G0 fns X ((⟨d, .isType t zero ok x, none⟩, l0, h0) :: l) S C E A Q = contVD D G0 fns X (isTypeV t zero ok (ev E x)) d l S C E A Q := by rw [opsD_pure rfl]; try rfl
@[simp] theorem opsD_isIface (impl other : List TypeId) (ok : Bool) (x : Operand) (d : Option Nat) (l0 h0 : Nat) (l : List (AOper × Nat × Nat)) (S : List St) (C : List St → Prop) (E : Env) (A : St) (Q : Ex → Env → St → Prop) : OpsD D G0 fns X ((⟨d, .isIface impl other ok x, none⟩, l0, h0) :: l) S C E A Q = contVD D G0 fns X (pureOf E (.isIface impl other ok x)) d l S C E A Q := by rw [opsD_pure rfl]; try rfl
@[simp] theorem opsD_lenStr (x : Operand) (d : Option Nat) (l0 h0 : Nat) (l : List (AOper × Nat × Nat)) (S : List St) (C : List St → Prop) (E : Env) (A : St) (Q : Ex → Env → St → Prop) : OpsD D G0 fns X ((⟨d, .lenStr x, none⟩, l0, h0) :: l) S C E A Q = contVD D G0 fns X (lenStrV (ev E x)) d l S C E A Q := by rw [opsD_pure rfl]; try rfl
@[simp] theorem opsD_len (x : Operand) (d : Option Nat) (l0 h0 : Nat) (l : List (AOper × Nat × Nat)) (S : List St) (C : List St → Prop) (E : Env) (A : St) (Q : Ex → Env → St → Prop) : OpsD D G0 fns X ((⟨d, .len x, none⟩, l0, h0) :: l) S C E A Q = contVD D G0 fns X (lenV (ev E x)) d l S C E A Q := by rw [opsD_pure rfl]; try rfl
@[simp] theorem opsD_lenArr (n : Nat) (x : Operand) (d : Option Nat) (l0 h0 : Nat) (l : List (AOper × Nat × Nat)) (S : List St) (C : List St → Prop) (E : Env) (A : St) (Q : Ex → Env → St → Prop) : OpsD D G0 fns X ((⟨d, .lenArr n x, none⟩, l0, h0) :: l) S C E A Q = contVD D G0 fns X (some (.int .i64 n)) d l S C E A Q := by rw [opsD_pure rfl]; try rfl
@[simp] theorem opsD_minmax (isMax : Bool) (xs : List Operand) (d : Option Nat) (l0 h0 : Nat) (l : List (AOper × Nat × Nat)) (S : List St) (C : List St → Prop) (E : Env) (A : St) (Q : Ex → Env → St → Prop) : OpsD D G0 fns X ((⟨d, .minmax isMax xs, none⟩, l0, h0) :: l) S C E A Q = contVD D G0 fns X (pureOf E (.minmax isMax xs)) d l S C E A Q := by rw [opsD_pure rfl]; try rfl
@[simp] theorem opsD_box (x : Operand) (d : Option Nat) (l0 h0 : Nat) (l : List (AOper × Nat × Nat)) (S : List St) (C : List St → Prop) (E : Env) (A : St) (Q : Ex → Env → St → Prop) : OpsD D G0 fns X ((⟨d, .box x, none⟩, l0, h0) :: l) S C E A Q = contND D G0 fns X (boxV (ev E x)) d l S C E A Q := by rw [opsD_new rfl]; try rfl
@[simp] theorem opsD_alloc (zero : List AV) (d : Option Nat) (l0 h0 : Nat) (l : List (AOper × Nat × Nat)) (S : List St) (C : List St → Prop) (E : Env) (A : St) (Q : Ex → Env → St → Prop) : OpsD D G0 fns X ((⟨d, .alloc zero, none⟩, l0, h0) :: l) S C E A Q = contND D G0 fns X (some (zero, 1, .ptr)) d l S C E A Q := by rw [opsD_new rfl]; try rfl
@[simp] theorem opsD_buildSlice (n size : Nat) (cells : List AV) (parts : List (Nat × Nat × Operand)) (d : Option Nat) (l0 h0 : Nat) (l : List (AOper × Nat × Nat)) (S : List St) (C : List St → Prop) (E : Env) (A : St) (Q : Ex → Env → St → Prop) : OpsD D G0 fns X ((⟨d, .buildSlice n size cells parts, none⟩, l0, h0) :: l) S C E A Q = contND D G0 fns X (builtV n size (fillA cells (evParts E parts))) d l S C E A Q := by rw [opsD_new rfl]; try rfl
@[simp] theorem opsD_makeSlice (size bytes : Nat) (zero : List AV) (ln cap : Operand) (d : Option Nat) (l0 h0 : Nat) (l : List (AOper × Nat × Nat)) (S : List St) (C : List St → Prop) (E : Env) (A : St) (Q : Ex → Env → St → Prop) : OpsD D G0 fns X ((⟨d, .makeSlice size bytes zero ln cap, none⟩, l0, h0) :: l) S C E A Q = contND D G0 fns X (makeV size bytes zero (ev E ln) (ev E cap)) d l S C E A Q := by rw [opsD_new rfl]; try rfl
@[simp] theorem opsD_bytesOf (x : Operand) (d : Option Nat) (l0 h0 : Nat) (l : List (AOper × Nat × Nat)) (S : List St) (C : List St → Prop) (E : Env) (A : St) (Q : Ex → Env → St → Prop) : OpsD D G0 fns X ((⟨d, .bytesOf x, none⟩, l0, h0) :: l) S C E A Q = contND D G0 fns X (bytesOfV (ev E x)) d l S C E A Q := by rw [opsD_new rfl]; try rfl
@[simp] theorem opsD_eq (k : EqK) (neg : Bool) (x y : Operand) (d : Option Nat) (l0 h0 : Nat) (l : List (AOper × Nat × Nat)) (S : List St) (C : List St → Prop) (E : Env) (A : St) (Q : Ex → Env → St → Prop) : OpsD D G0 fns X ((⟨d, .eq k neg x y, none⟩, l0, h0) :: l) S C E A Q = contRD D G0 fns X (fun A' => (eqV A' k neg (ev E x) (ev E y))) (eqV A k neg (ev E x) (ev E y)) l0 h0 d l S C E A Q := by rw [opsD_read rfl]; try rfl
@[simp] theorem opsD_load (n : Nat) (agg : Bool) (a : Operand) (d : Option Nat) (l0 h0 : Nat) (l : List (AOper × Nat × Nat)) (S : List St) (C : List St → Prop) (E : Env) (A : St) (Q : Ex → Env → St → Prop) : OpsD D G0 fns X ((⟨d, .load n agg a, none⟩, l0, h0) :: l) S C E A Q = contRD D G0 fns X (fun A' => (loadV A' n agg (ev E a))) (loadV A n agg (ev E a)) l0 h0 d l S C E A Q := by rw [opsD_read rfl]; try rfl
@[simp] theorem opsD_textOf (x : Operand) (d : Option Nat) (l0 h0 : Nat) (l : List (AOper × Nat × Nat)) (S : List St) (C : List St → Prop) (E : Env) (A : St) (Q : Ex → Env → St → Prop) : OpsD D G0 fns X ((⟨d, .textOf x, none⟩, l0, h0) :: l) S C E A Q = contRD D G0 fns X (fun A' => (textV A' (ev E x))) (textV A (ev E x)) l0 h0 d l S C E A Q := by rw [opsD_read rfl]; try rfl
@[simp] theorem opsD_lookup (kd : KK) (zero : AV) (ok : Bool) (mp k : Operand) (d : Option Nat) (l0 h0 : Nat) (l : List (AOper × Nat × Nat)) (S : List St) (C : List St → Prop) (E : Env) (A : St) (Q : Ex → Env → St → Prop) : OpsD D G0 fns X ((⟨d, .lookup kd zero ok mp k, none⟩, l0, h0) :: l) S C E A Q = contRD D G0 fns X (fun A' => (readOf E A' (.lookup kd zero ok mp k))) (readOf E A (.lookup kd zero ok mp k)) l0 h0 d l S C E A Q := by rw [opsD_read rfl]; try rfl
@[simp] theorem opsD_lenMap (mp : Operand) (d : Option Nat) (l0 h0 : Nat) (l : List (AOper × Nat × Nat)) (S : List St) (C : List St → Prop) (E : Env) (A : St) (Q : Ex → Env → St → Prop) : OpsD D G0 fns X ((⟨d, .lenMap mp, none⟩, l0, h0) :: l) S C E A Q = contRD D G0 fns X (fun A' => (readOf E A' (.lenMap mp))) (readOf E A (.lenMap mp)) l0 h0 d l S C E A Q := by rw [opsD_read rfl]; try rfl
@[simp] theorem opsD_mkMap  (d : Option Nat) (l0 h0 : Nat) (l : List (AOper × Nat × Nat)) (S : List St) (C : List St → Prop) (E : Env) (A : St) (Q : Ex → Env → St → Prop) : OpsD D G0 fns X ((⟨d, .mkMap, none⟩, l0, h0) :: l) S C E A Q = contPD D G0 fns X (effOf E A .mkMap) d l S C E A Q := by rw [opsD_eff rfl]; try rfl
@[simp] theorem opsD_store (n : Nat) (a x : Operand) (d : Option Nat) (l0 h0 : Nat) (l : List (AOper × Nat × Nat)) (S : List St) (C : List St → Prop) (E : Env) (A : St) (Q : Ex → Env → St → Prop) : OpsD D G0 fns X ((⟨d, .store n a x, none⟩, l0, h0) :: l) S C E A Q = contPD D G0 fns X (storeV A n (ev E a) (ev E x)) d l S C E A Q := by rw [opsD_eff rfl]; try rfl
@[simp] theorem opsD_append (str : Bool) (size bytes : Nat) (s x : Operand) (d : Option Nat) (l0 h0 : Nat) (l : List (AOper × Nat × Nat)) (S : List St) (C : List St → Prop) (E : Env) (A : St) (Q : Ex → Env → St → Prop) : OpsD D G0 fns X ((⟨d, .append str size bytes s x, none⟩, l0, h0) :: l) S C E A Q = contPD D G0 fns X (appendV A str size bytes (ev E s) (ev E x)) d l S C E A Q := by rw [opsD_eff rfl]; try rfl
@[simp] theorem opsD_copy (size : Nat) (dd s : Operand) (d : Option Nat) (l0 h0 : Nat) (l : List (AOper × Nat × Nat)) (S : List St) (C : List St → Prop) (E : Env) (A : St) (Q : Ex → Env → St → Prop) : OpsD D G0 fns X ((⟨d, .copy size dd s, none⟩, l0, h0) :: l) S C E A Q = contPD D G0 fns X (effOf E A (.copy size dd s)) d l S C E A Q := by rw [opsD_eff rfl]; try rfl
@[simp] theorem opsD_mapPut (kd : KK) (mp k x : Operand) (d : Option Nat) (l0 h0 : Nat) (l : List (AOper × Nat × Nat)) (S : List St) (C : List St → Prop) (E : Env) (A : St) (Q : Ex → Env → St → Prop) : OpsD D G0 fns X ((⟨d, .mapPut kd mp k x, none⟩, l0, h0) :: l) S C E A Q = contPD D G0 fns X (effOf E A (.mapPut kd mp k x)) d l S C E A Q := by rw [opsD_eff rfl]; try rfl
@[simp] theorem opsD_mapDel (kd : KK) (mp k : Operand) (d : Option Nat) (l0 h0 : Nat) (l : List (AOper × Nat × Nat)) (S : List St) (C : List St → Prop) (E : Env) (A : St) (Q : Ex → Env → St → Prop) : OpsD D G0 fns X ((⟨d, .mapDel kd mp k, none⟩, l0, h0) :: l) S C E A Q = contPD D G0 fns X (effOf E A (.mapDel kd mp k)) d l S C E A Q := by rw [opsD_eff rfl]; try rfl
end
end Go.AM
