/- The abstract machine: its steps as equations, for a rewriting prover. -/
import Derived.Test.YtejlhgcheaimjaaGreatDoorAmWp
namespace Go.AM
set_option linter.unusedVariables false
set_option linter.unusedSimpArgs false

@[simp] theorem at_put (E : Env) (i j : Nat) (v : AV) : Env.at (Env.put E (some i) v) j = if j = i then v else Env.at E j := by
  unfold Env.at Env.put
  dsimp only
  rw [T.get_set]
  split <;> rfl
@[simp] theorem put_none (E : Env) (v : AV) : Env.put E none v = E := rfl
@[simp] theorem setArgs_none (i : Nat) (E : Env) : setArgs i [] E = E := rfl
@[simp] theorem at_nil (j : Nat) : Env.at (T.nil : Env) j = .bot := rfl
@[simp] theorem setArgs_put (i : Nat) (a : AV) (l : List AV) (E : Env) : setArgs i (a :: l) E = setArgs (i + 1) l (Env.put E (some i) a) := rfl
@[simp] theorem ev_tmp (E : Env) (t : Nat) (h : t < 1000000) : ev E (.tmp t) = Env.at E t := by
  show (bif Nat.blt t 1000000 then Env.at E t else .bot) = _
  rw [show Nat.blt t 1000000 = true from by rw [Nat.blt_eq]; exact h]
  rfl
@[simp] theorem ev_const (E : Env) (v : Value) : ev E (.const v) = constAV v := rfl
@[simp] theorem ev_func (E : Env) (f : FuncId) : ev E (.func f) = .func (.func f) [] [] := rfl
@[simp] theorem constAV_int (k : IntKind) (n : Int) : constAV (.int k n) = .int k n := rfl
@[simp] theorem constAV_bool (b : Bool) : constAV (.bool b) = .bool b := rfl
@[simp] theorem constAV_nilSlice : constAV (.slice none 0 0) = .slice none 0 0 0 0 := rfl
@[simp] theorem constAV_nilPtr : constAV (.pointer none) = .ptr none := rfl
@[simp] theorem constAV_nilMap : constAV (.map none) = .map none := rfl
@[simp] theorem constAV_nilIface : constAV .nilIface = .nilIface := rfl
@[simp] theorem constAV_nilFunc : constAV .nilFunc = .nilFunc := rfl
@[simp] theorem constAV_str (s : ByteArray) : constAV (.string s) = .str s.data.toList := rfl
@[simp] theorem evs_nil (E : Env) : evs E [] = [] := rfl
@[simp] theorem evs_cons (E : Env) (x : Operand) (l : List Operand) : evs E (x :: l) = ev E x :: evs E l := rfl
@[simp] theorem evo_none (E : Env) : evo E none = none := rfl
@[simp] theorem evo_some (E : Env) (x : Operand) : evo E (some x) = some (ev E x) := rfl
@[simp] theorem evParts_nil (E : Env) : evParts E [] = [] := rfl
@[simp] theorem evParts_cons (E : Env) (o s : Nat) (x : Operand) (l : List (Nat × Nat × Operand)) : evParts E ((o, s, x) :: l) = (o, s, ev E x) :: evParts E l := rfl

/-! ### Operations by their operands' values -/
def pickV (c a b : AV) : Option AV :=
  match c with
  | .bool t => some (bif t then a else b)
  | _ => none
@[simp] theorem pickV_bool (t : Bool) (a b : AV) : pickV (.bool t) a b = some (bif t then a else b) := rfl
def eqbV (neg : Bool) : AV → AV → Option AV
  | .bool b, .bool c => some (.bool (bif neg then !(b == c) else b == c))
  | _, _ => none
def convV (k : IntKind) : AV → Option AV
  | .int _ n => some (.int k (k.wrap n))
  | _ => none
def sameV : AV → Option AV
  | .str s => some (.str s)
  | _ => none
def extractV (i : Nat) : AV → Option AV
  | .tuple vs => vs[i]?
  | _ => none
def nilCheckV : AV → Option AV
  | .ptr (some p) => some (.ptr (some p))
  | _ => none
def fieldAddrV (off : Nat) : AV → Option AV
  | .ptr (some p) => some (AV.addr p off)
  | _ => none
def fieldV (off size : Nat) (agg : Bool) : AV → Option AV
  | .agg cs => partOf agg cs off size
  | _ => none
def atSliceV (size : Nat) (x i : AV) : Option AV :=
  match x with
  | .slice (some p) _ len _ _ => match index? len i with | some j => some (AV.addr p (j * size)) | none => none
  | _ => none
def atArrayV (n size : Nat) (x i : AV) : Option AV :=
  match x with
  | .ptr (some p) => match index? n i with | some j => some (AV.addr p (j * size)) | none => none
  | _ => none
def byteAtV (x i : AV) : Option AV :=
  match x with
  | .str s => match index? s.length i with | some j => (match s[j]? with | some b => some (.int .u8 b.toNat) | none => none) | none => none
  | _ => none
def elemAtV (n size : Nat) (agg : Bool) (x i : AV) : Option AV :=
  match x with
  | .agg cs => match index? n i with | some j => partOf agg cs (j * size) size | none => none
  | _ => none
def cutStrV (x : AV) (lo hi : Option AV) : Option AV :=
  match x with
  | .str s => match boundHi hi s.length s.length with
    | some h => (match boundLo lo h with | some l => some (.str ((s.take h).drop l)) | none => none)
    | none => none
  | _ => none
def isTypeV (t : TypeId) (zero : AV) (ok : Bool) : AV → Option AV
  | .nilIface => bif ok then some (.tuple [zero, .bool false]) else none
  | .iface d v => if d = t then some (bif ok then .tuple [v, .bool true] else v) else bif ok then some (.tuple [zero, .bool false]) else none
  | _ => none
def lenStrV : AV → Option AV
  | .str s => some (.int .i64 s.length)
  | _ => none
def lenV : AV → Option AV
  | .slice _ _ n _ _ => some (.int .i64 n)
  | _ => none
def mkIfaceV (t : TypeId) : AV → Option AV
  | .bot => none
  | v => some (.iface t v)
def aggV : Option (List AV) → Option AV
  | some l => some (.agg l)
  | none => none
def loadV (A : St) (n : Nat) (agg : Bool) : AV → Option AV
  | .ptr (some p) => match A.cells p n with
    | some l => bif agg then some (.agg l) else (match l with | [v] => some v | _ => none)
    | none => none
  | _ => none
def textV (A : St) : AV → Option AV
  | .slice none _ _ _ _ => some (.str [])
  | .slice (some p) _ len _ _ => match A.cells p len with
    | some l => (match textGo l with | some s => some (.str s) | none => none)
    | none => none
  | _ => none
def eqV (A : St) (k : EqK) (neg : Bool) (x y : AV) : Option AV :=
  match (match eqOf k x y with | some b => some b | none => eqFar A k x y) with
  | some b => some (.bool (bif neg then !b else b))
  | none => none
def boxV : AV → Option (List AV × Nat × Made)
  | .bot => none
  | .tuple _ => none
  | v => some (v.cells, 1, .ptr)
def builtV (n size : Nat) : Option (List AV) → Option (List AV × Nat × Made)
  | some l => some (l, size, .slice n n 0)
  | none => none
def storeV (A : St) (n : Nat) (a x : AV) : Option (AV × St) :=
  match a with
  | .ptr (some p) => match x with
    | .bot => none
    | v => if v.cells.length = n then match A.write p v.cells with | some B => some (.bot, B) | none => none else none
  | _ => none
def appendV (A : St) (str : Bool) (size bytes : Nat) (s x : AV) : Option (AV × St) := bif okSrc str x then appendOf A size bytes s x else none

def makeV (size bytes : Nat) (zero : List AV) (len cap : AV) : Option (List AV × Nat × Made) :=
  match len, cap with
  | .int _ l, .int _ c => if 0 ≤ l ∧ l ≤ c ∧ c * bytes ≤ 140737488355328 ∧ c ≤ 4611686018427387904 ∧ zero.length = size then some ((List.replicate c.toNat zero).flatten, size, .slice l.toNat c.toNat 0) else none
  | _, _ => none
theorem makeV_nat {size bytes : Nat} {zero : List AV} {k j : IntKind} {l c : Nat} (h : l ≤ c) (hb : c * bytes ≤ 140737488355328) (hc : c ≤ 4611686018427387904) (hz : zero.length = size) :
    makeV size bytes zero (.int k l) (.int j c) = some ((List.replicate c zero).flatten, size, .slice l c 0) := by
  unfold makeV
  dsimp only
  have hb' : (c : Int) * (bytes : Int) ≤ 140737488355328 := by rw [← Int.natCast_mul]; omega
  rw [if_pos ⟨by omega, by omega, hb', by omega, hz⟩, Int.toNat_natCast, Int.toNat_natCast]
def bytesOfV : AV → Option (List AV × Nat × Made)
  | .str s => if s.length ≤ 140737488355328 then some (s.map fun b => .int .u8 b.toNat, 1, .text s.length) else none
  | _ => none
@[simp] theorem ver_ptr : Made.ver .ptr = 0 := rfl
@[simp] theorem ver_slice (l c q : Nat) : Made.ver (.slice l c q) = 0 := rfl
@[simp] theorem ver_text (l : Nat) : Made.ver (.text l) = 1 := rfl
@[simp] theorem makeV_zero (A : St) (cs : List AV) (sz : Nat) : A.makeV cs sz 0 = A.make cs sz := rfl
@[simp] theorem eqbV_bool (neg b c : Bool) : eqbV neg (.bool b) (.bool c) = some (.bool (bif neg then !(b == c) else b == c)) := rfl
@[simp] theorem convV_int (k j : IntKind) (n : Int) : convV k (.int j n) = some (.int k (k.wrap n)) := rfl
@[simp] theorem sameV_str (s : List UInt8) : sameV (.str s) = some (.str s) := rfl
@[simp] theorem extractV_tuple (i : Nat) (vs : List AV) : extractV i (.tuple vs) = vs[i]? := rfl
@[simp] theorem nilCheckV_ptr (p : Pl) : nilCheckV (.ptr (some p)) = some (.ptr (some p)) := rfl
@[simp] theorem fieldAddrV_ptr (off : Nat) (p : Pl) : fieldAddrV off (.ptr (some p)) = some (AV.addr p off) := rfl
@[simp] theorem fieldV_agg (off size : Nat) (agg : Bool) (cs : List AV) : fieldV off size agg (.agg cs) = partOf agg cs off size := rfl
@[simp] theorem lenStrV_str (s : List UInt8) : lenStrV (.str s) = some (.int .i64 s.length) := rfl
@[simp] theorem lenV_slice (a : Option Pl) (po n cap q : Nat) : lenV (.slice a po n cap q) = some (.int .i64 n) := rfl
@[simp] theorem aggV_some (l : List AV) : aggV (some l) = some (.agg l) := rfl
@[simp] theorem builtV_some (n size : Nat) (l : List AV) : builtV n size (some l) = some (l, size, .slice n n 0) := rfl
@[simp] theorem isTypeV_nil (t : TypeId) (zero : AV) : isTypeV t zero true .nilIface = some (.tuple [zero, .bool false]) := rfl
@[simp] theorem isTypeV_iface (t : TypeId) (zero : AV) (ok : Bool) (d : TypeId) (v : AV) : isTypeV t zero ok (.iface d v) = if d = t then some (bif ok then .tuple [v, .bool true] else v) else bif ok then some (.tuple [zero, .bool false]) else none := rfl
@[simp] theorem byteAtV_str (s : List UInt8) (i : AV) : byteAtV (.str s) i = match index? s.length i with | some j => (match s[j]? with | some b => some (.int .u8 b.toNat) | none => none) | none => none := rfl
@[simp] theorem elemAtV_agg (n size : Nat) (agg : Bool) (cs : List AV) (i : AV) : elemAtV n size agg (.agg cs) i = match index? n i with | some j => partOf agg cs (j * size) size | none => none := rfl
@[simp] theorem atArrayV_ptr (n size : Nat) (p : Pl) (i : AV) : atArrayV n size (.ptr (some p)) i = match index? n i with | some j => some (AV.addr p (j * size)) | none => none := rfl

section
variable (D : Disp) (G0 : Env) (fns : Nat → Option AFn) (X : Calls')

/-- What comes behind an operation that gave a value. -/
def contV (o : Option AV) (d : Option Nat) (l : List AOper) (E : Env) (A : St) (Q : Ex → Env → St → Prop) : Prop :=
  match o with
  | some v => WpO D G0 fns X l (Env.put E d v) A (Q .normal)
  | none => False
/-- Behind a cut: of the slice alone, else of what lies behind it. -/
def contL (o o' : Option AV) (d : Option Nat) (l : List AOper) (E : Env) (A : St) (Q : Ex → Env → St → Prop) : Prop :=
  match o with
  | some v => WpO D G0 fns X l (Env.put E d v) A (Q .normal)
  | none => match o' with
    | some v => WpO D G0 fns X l (Env.put E d v) A (Q .normal)
    | none => False
def contP (o : Option (AV × St)) (d : Option Nat) (l : List AOper) (E : Env) (Q : Ex → Env → St → Prop) : Prop :=
  match o with
  | some (v, B) => WpO D G0 fns X l (Env.put E d v) B (Q .normal)
  | none => False
def contN (o : Option (List AV × Nat × Made)) (d : Option Nat) (l : List AOper) (E : Env) (A : St) (Q : Ex → Env → St → Prop) : Prop :=
  match o with
  | some (cs, sz, md) => WpO D G0 fns X l (Env.put E d (md.value A.next)) (A.makeV cs sz md.ver).2 (Q .normal)
  | none => False
def contR (d : Option Nat) (l : List AOper) (E : Env) (Q : Ex → Env → St → Prop) (r : AV) (B : St) : Prop := WpO D G0 fns X l (Env.put E d r) B (Q .normal)
/-- The operations of a region. -/
def Ops (l : List AOper) (E : Env) (A : St) (Q : Ex → Env → St → Prop) : Prop := WpO D G0 fns X l E A (Q .normal)
def contG (v : AV) (b : Bool) (o : AOper) (l : List AOper) (E : Env) (A : St) (Q : Ex → Env → St → Prop) : Prop :=
  match v with
  | .bool c => if c = b then Ops D G0 fns X (⟨o.dst, o.op, none⟩ :: l) E A Q else Ops D G0 fns X l (Env.put E o.dst (.tuple [])) A Q
  | .tuple [] => Ops D G0 fns X l (Env.put E o.dst (.tuple [])) A Q
  | _ => False
def contC (v : AV) (x y : ACode) (E : Env) (A : St) (Q : Ex → Env → St → Prop) : Prop :=
  match v with
  | .bool true => Wp D G0 fns X x E A Q
  | .bool false => Wp D G0 fns X y E A Q
  | _ => False
def seqK (b : ACode) (Q : Ex → Env → St → Prop) (ex : Ex) (E : Env) (A : St) : Prop :=
  match ex with
  | .normal => Wp D G0 fns X b E A Q
  | ex => Q ex E A
def blkK (id : Nat) (Q : Ex → Env → St → Prop) (ex : Ex) (E : Env) (A : St) : Prop :=
  match ex with
  | .exit i => if i = id then Q .normal E A else Q (.exit i) E A
  | ex => Q ex E A
def fnK (res : List ARes) (Q : AV → St → Prop) (ex : Ex) (E : Env) (A : St) : Prop :=
  match ex with
  | .exit _ => False
  | _ => ∃ l, resVals E A res = some l ∧ Q (packRes l) A
end

section
variable {D : Disp} {G0 : Env} {fns : Nat → Option AFn} {X : Calls'}

@[simp] theorem contV_some (v : AV) (d : Option Nat) (l : List AOper) (E : Env) (A : St) (Q : Ex → Env → St → Prop) : contV D G0 fns X (some v) d l E A Q = Ops D G0 fns X l (Env.put E d v) A Q := rfl
@[simp] theorem contL_some (v : AV) (o' : Option AV) (d : Option Nat) (l : List AOper) (E : Env) (A : St) (Q : Ex → Env → St → Prop) : contL D G0 fns X (some v) o' d l E A Q = Ops D G0 fns X l (Env.put E d v) A Q := rfl
@[simp] theorem contL_late (v : AV) (d : Option Nat) (l : List AOper) (E : Env) (A : St) (Q : Ex → Env → St → Prop) : contL D G0 fns X none (some v) d l E A Q = Ops D G0 fns X l (Env.put E d v) A Q := rfl
@[simp] theorem contP_some (v : AV) (B : St) (d : Option Nat) (l : List AOper) (E : Env) (Q : Ex → Env → St → Prop) : contP D G0 fns X (some (v, B)) d l E Q = Ops D G0 fns X l (Env.put E d v) B Q := rfl
@[simp] theorem contN_some (cs : List AV) (sz : Nat) (md : Made) (d : Option Nat) (l : List AOper) (E : Env) (A : St) (Q : Ex → Env → St → Prop) : contN D G0 fns X (some (cs, sz, md)) d l E A Q = Ops D G0 fns X l (Env.put E d (md.value A.next)) (A.makeV cs sz md.ver).2 Q := rfl
@[simp] theorem contR_eq (d : Option Nat) (l : List AOper) (E : Env) (Q : Ex → Env → St → Prop) (r : AV) (B : St) : contR D G0 fns X d l E Q r B = Ops D G0 fns X l (Env.put E d r) B Q := rfl
@[simp] theorem contG_bool (c b : Bool) (o : AOper) (l : List AOper) (E : Env) (A : St) (Q : Ex → Env → St → Prop) : contG D G0 fns X (.bool c) b o l E A Q = if c = b then Ops D G0 fns X (⟨o.dst, o.op, none⟩ :: l) E A Q else Ops D G0 fns X l (Env.put E o.dst (.tuple [])) A Q := rfl
@[simp] theorem contG_none (b : Bool) (o : AOper) (l : List AOper) (E : Env) (A : St) (Q : Ex → Env → St → Prop) : contG D G0 fns X (.tuple []) b o l E A Q = Ops D G0 fns X l (Env.put E o.dst (.tuple [])) A Q := rfl
@[simp] theorem contC_true (x y : ACode) (E : Env) (A : St) (Q : Ex → Env → St → Prop) : contC D G0 fns X (.bool true) x y E A Q = Wp D G0 fns X x E A Q := rfl
@[simp] theorem contC_false (x y : ACode) (E : Env) (A : St) (Q : Ex → Env → St → Prop) : contC D G0 fns X (.bool false) x y E A Q = Wp D G0 fns X y E A Q := rfl
theorem contC_of {b : Bool} {x y : ACode} {E : Env} {A : St} {Q : Ex → Env → St → Prop} (ht : b = true → Wp D G0 fns X x E A Q) (hf : b = false → Wp D G0 fns X y E A Q) : contC D G0 fns X (.bool b) x y E A Q := by
  cases b with
  | true => exact ht rfl
  | false => exact hf rfl
@[simp] theorem seqK_normal (b : ACode) (Q : Ex → Env → St → Prop) (E : Env) (A : St) : seqK D G0 fns X b Q .normal E A = Wp D G0 fns X b E A Q := rfl
@[simp] theorem seqK_exit (b : ACode) (Q : Ex → Env → St → Prop) (i : Nat) (E : Env) (A : St) : seqK D G0 fns X b Q (.exit i) E A = Q (.exit i) E A := rfl
@[simp] theorem seqK_ret (b : ACode) (Q : Ex → Env → St → Prop) (E : Env) (A : St) : seqK D G0 fns X b Q .ret E A = Q .ret E A := rfl
@[simp] theorem blkK_normal (id : Nat) (Q : Ex → Env → St → Prop) (E : Env) (A : St) : blkK id Q .normal E A = Q .normal E A := rfl
@[simp] theorem blkK_ret (id : Nat) (Q : Ex → Env → St → Prop) (E : Env) (A : St) : blkK id Q .ret E A = Q .ret E A := rfl
@[simp] theorem blkK_exit (id i : Nat) (Q : Ex → Env → St → Prop) (E : Env) (A : St) : blkK id Q (.exit i) E A = if i = id then Q .normal E A else Q (.exit i) E A := rfl
@[simp] theorem fnK_normal (res : List ARes) (Q : AV → St → Prop) (E : Env) (A : St) : fnK res Q .normal E A = ∃ l, resVals E A res = some l ∧ Q (packRes l) A := rfl
@[simp] theorem fnK_ret (res : List ARes) (Q : AV → St → Prop) (E : Env) (A : St) : fnK res Q .ret E A = ∃ l, resVals E A res = some l ∧ Q (packRes l) A := rfl

@[simp] theorem ops_nil (E : Env) (A : St) (Q : Ex → Env → St → Prop) : Ops D G0 fns X [] E A Q = Q .normal E A :=
  propext ⟨fun ⟨k, E', A', h1, h2⟩ => by cases h1; exact h2, fun h => WpO.nil h⟩

theorem late_none {op : AOp} (hc : op.cls ≠ .pure) (E : Env) (A : St) : lateOf E A op = none := by cases op <;> first | rfl | (simp [AOp.cls] at hc)
theorem opL_none {D : Disp} {G : Calls'} {E : Env} {A : St} {op : AOp} (hl : lateOf E A op = none) : opOfL D G E A op = opOf D G E A op := by
  unfold opOfL
  split
  · rename_i r hr; rw [hr]
  · rename_i hr; rw [hl, hr]

theorem ops_pure {op : AOp} (hc : op.cls = .pure) (hlate : ∀ E A, lateOf E A op = none) (d : Option Nat) (l : List AOper) (E : Env) (A : St) (Q : Ex → Env → St → Prop) : Ops D G0 fns X (⟨d, op, none⟩ :: l) E A Q = contV D G0 fns X (pureOf E op) d l E A Q := by
  refine propext ⟨fun ⟨k, E', A', h1, h2⟩ => ?_, fun h => ?_⟩
  · simp only [runOps, wantedA, opL_none (hlate _ _), opOf, hc] at h1
    split at h1
    · rename_i v B hv
      split at hv
      · rename_i u hu; cases hv; rw [hu]; exact ⟨k, E', A', h1, h2⟩
      · cases hv
    · cases h1
  · unfold contV at h
    split at h
    · rename_i v hv
      exact WpO.op rfl (fun G => by simp only [opOf, hc, hv]) h
    · exact h.elim
theorem ops_read {op : AOp} (hc : op.cls = .read) (d : Option Nat) (l : List AOper) (E : Env) (A : St) (Q : Ex → Env → St → Prop) : Ops D G0 fns X (⟨d, op, none⟩ :: l) E A Q = contV D G0 fns X (readOf E A op) d l E A Q := by
  refine propext ⟨fun ⟨k, E', A', h1, h2⟩ => ?_, fun h => ?_⟩
  · simp only [runOps, wantedA, opL_none (late_none (by rw [hc]; simp) _ _), opOf, hc] at h1
    split at h1
    · rename_i v B hv
      split at hv
      · rename_i u hu; cases hv; rw [hu]; exact ⟨k, E', A', h1, h2⟩
      · cases hv
    · cases h1
  · unfold contV at h
    split at h
    · rename_i v hv
      exact WpO.op rfl (fun G => by simp only [opOf, hc, hv]) h
    · exact h.elim
theorem ops_new {op : AOp} (hc : op.cls = .new) (d : Option Nat) (l : List AOper) (E : Env) (A : St) (Q : Ex → Env → St → Prop) : Ops D G0 fns X (⟨d, op, none⟩ :: l) E A Q = contN D G0 fns X (newOf E op) d l E A Q := by
  refine propext ⟨fun ⟨k, E', A', h1, h2⟩ => ?_, fun h => ?_⟩
  · simp only [runOps, wantedA, opL_none (late_none (by rw [hc]; simp) _ _), opOf, hc] at h1
    split at h1
    · rename_i v B hv
      split at hv
      · rename_i cs sz md hu; cases hv; rw [hu]; exact ⟨k, E', A', h1, h2⟩
      · cases hv
    · cases h1
  · unfold contN at h
    split at h
    · rename_i cs sz md hv
      exact WpO.op (v := md.value A.next) (B := (A.makeV cs sz md.ver).2) rfl (fun G => by simp only [opOf, hc, hv]; rfl) h
    · exact h.elim
theorem ops_eff {op : AOp} (hc : op.cls = .eff) (d : Option Nat) (l : List AOper) (E : Env) (A : St) (Q : Ex → Env → St → Prop) : Ops D G0 fns X (⟨d, op, none⟩ :: l) E A Q = contP D G0 fns X (effOf E A op) d l E Q := by
  refine propext ⟨fun ⟨k, E', A', h1, h2⟩ => ?_, fun h => ?_⟩
  · simp only [runOps, wantedA, opL_none (late_none (by rw [hc]; simp) _ _), opOf, hc] at h1
    split at h1
    · rename_i v B hv
      rw [hv]; exact ⟨k, E', A', h1, h2⟩
    · cases h1
  · unfold contP at h
    split at h
    · rename_i v B hv
      exact WpO.op rfl (fun G => by simp only [opOf, hc, hv]) h
    · exact h.elim
theorem ops_callf (f : FuncId) (args : List Operand) (d : Option Nat) (l : List AOper) (E : Env) (A : St) (Q : Ex → Env → St → Prop) (hk : allKnown (evs E args) = true) : Ops D G0 fns X (⟨d, .call f args, none⟩ :: l) E A Q = Ev D G0 fns X f (evs E args) A (contR D G0 fns X d l E Q) := by
  refine propext ⟨fun ⟨k, E', A', h1, h2⟩ => ?_, fun h => WpO.call rfl rfl rfl hk h⟩
  simp only [runOps, wantedA, opL_none (late_none (op := .call f args) (by simp [AOp.cls]) _ _), opOf, AOp.cls, calleeOf, hk, cond_true] at h1
  split at h1
  · rename_i v B hv
    exact ⟨k, v, B, hv, k, E', A', h1, h2⟩
  · cases h1
@[simp] theorem ops_mv (x : Operand) (d : Option Nat) (l : List AOper) (E : Env) (A : St) (Q : Ex → Env → St → Prop) : Ops D G0 fns X (⟨d, .mv x, none⟩ :: l) E A Q = contV D G0 fns X (some (ev E x)) d l E A Q := by rw [ops_pure rfl (fun _ _ => rfl)]; rfl
@[simp] theorem ops_pick (c a b : Operand) (d : Option Nat) (l : List AOper) (E : Env) (A : St) (Q : Ex → Env → St → Prop) : Ops D G0 fns X (⟨d, .pick c a b, none⟩ :: l) E A Q = contV D G0 fns X (pickV (ev E c) (ev E a) (ev E b)) d l E A Q := by
  rw [ops_pure rfl (fun _ _ => rfl)]
  congr 1
  show (match ev E c with | .bool t => some (ev E (bif t then a else b)) | _ => none) = _
  unfold pickV
  cases ev E c <;> try rfl
  rename_i t
  cases t <;> rfl
@[simp] theorem ops_bin (o : BinOp) (x y : Operand) (d : Option Nat) (l : List AOper) (E : Env) (A : St) (Q : Ex → Env → St → Prop) : Ops D G0 fns X (⟨d, .bin o x y, none⟩ :: l) E A Q = contV D G0 fns X (binOf o (ev E x) (ev E y)) d l E A Q := by rw [ops_pure rfl (fun _ _ => rfl)]; rfl
@[simp] theorem ops_un (o : UnOp) (x : Operand) (d : Option Nat) (l : List AOper) (E : Env) (A : St) (Q : Ex → Env → St → Prop) : Ops D G0 fns X (⟨d, .un o x, none⟩ :: l) E A Q = contV D G0 fns X (unOf o (ev E x)) d l E A Q := by rw [ops_pure rfl (fun _ _ => rfl)]; rfl
@[simp] theorem ops_eqb (neg : Bool) (x y : Operand) (d : Option Nat) (l : List AOper) (E : Env) (A : St) (Q : Ex → Env → St → Prop) : Ops D G0 fns X (⟨d, .eqb neg x y, none⟩ :: l) E A Q = contV D G0 fns X (eqbV neg (ev E x) (ev E y)) d l E A Q := by rw [ops_pure rfl (fun _ _ => rfl)]; rfl
@[simp] theorem ops_conv (k : IntKind) (x : Operand) (d : Option Nat) (l : List AOper) (E : Env) (A : St) (Q : Ex → Env → St → Prop) : Ops D G0 fns X (⟨d, .conv k x, none⟩ :: l) E A Q = contV D G0 fns X (convV k (ev E x)) d l E A Q := by rw [ops_pure rfl (fun _ _ => rfl)]; rfl
@[simp] theorem ops_same (x : Operand) (d : Option Nat) (l : List AOper) (E : Env) (A : St) (Q : Ex → Env → St → Prop) : Ops D G0 fns X (⟨d, .same x, none⟩ :: l) E A Q = contV D G0 fns X (sameV (ev E x)) d l E A Q := by rw [ops_pure rfl (fun _ _ => rfl)]; rfl
@[simp] theorem ops_extract (t : Operand) (i : Nat) (d : Option Nat) (l : List AOper) (E : Env) (A : St) (Q : Ex → Env → St → Prop) : Ops D G0 fns X (⟨d, .extract t i, none⟩ :: l) E A Q = contV D G0 fns X (extractV i (ev E t)) d l E A Q := by rw [ops_pure rfl (fun _ _ => rfl)]; rfl
@[simp] theorem ops_mkIface (t : TypeId) (x : Operand) (d : Option Nat) (l : List AOper) (E : Env) (A : St) (Q : Ex → Env → St → Prop) : Ops D G0 fns X (⟨d, .mkIface t x, none⟩ :: l) E A Q = contV D G0 fns X (mkIfaceV t (ev E x)) d l E A Q := by rw [ops_pure rfl (fun _ _ => rfl)]; rfl
@[simp] theorem ops_mkFunc (fn : Fn) (first captured : List Operand) (d : Option Nat) (l : List AOper) (E : Env) (A : St) (Q : Ex → Env → St → Prop) : Ops D G0 fns X (⟨d, .mkFunc fn first captured, none⟩ :: l) E A Q = contV D G0 fns X (pureOf E (.mkFunc fn first captured)) d l E A Q := ops_pure rfl (fun _ _ => rfl) d l E A Q
@[simp] theorem ops_nilCheck (x : Operand) (d : Option Nat) (l : List AOper) (E : Env) (A : St) (Q : Ex → Env → St → Prop) : Ops D G0 fns X (⟨d, .nilCheck x, none⟩ :: l) E A Q = contV D G0 fns X (nilCheckV (ev E x)) d l E A Q := by rw [ops_pure rfl (fun _ _ => rfl)]; rfl
@[simp] theorem ops_fieldAddr (off : Nat) (x : Operand) (d : Option Nat) (l : List AOper) (E : Env) (A : St) (Q : Ex → Env → St → Prop) : Ops D G0 fns X (⟨d, .fieldAddr off x, none⟩ :: l) E A Q = contV D G0 fns X (fieldAddrV off (ev E x)) d l E A Q := by rw [ops_pure rfl (fun _ _ => rfl)]; rfl
@[simp] theorem ops_field (off size : Nat) (agg : Bool) (x : Operand) (d : Option Nat) (l : List AOper) (E : Env) (A : St) (Q : Ex → Env → St → Prop) : Ops D G0 fns X (⟨d, .field off size agg x, none⟩ :: l) E A Q = contV D G0 fns X (fieldV off size agg (ev E x)) d l E A Q := by rw [ops_pure rfl (fun _ _ => rfl)]; rfl
@[simp] theorem ops_atSlice (size : Nat) (x i : Operand) (d : Option Nat) (l : List AOper) (E : Env) (A : St) (Q : Ex → Env → St → Prop) : Ops D G0 fns X (⟨d, .atSlice size x i, none⟩ :: l) E A Q = contV D G0 fns X (atSliceV size (ev E x) (ev E i)) d l E A Q := by rw [ops_pure rfl (fun _ _ => rfl)]; rfl
@[simp] theorem ops_atArray (n size : Nat) (x i : Operand) (d : Option Nat) (l : List AOper) (E : Env) (A : St) (Q : Ex → Env → St → Prop) : Ops D G0 fns X (⟨d, .atArray n size x i, none⟩ :: l) E A Q = contV D G0 fns X (atArrayV n size (ev E x) (ev E i)) d l E A Q := by rw [ops_pure rfl (fun _ _ => rfl)]; rfl
@[simp] theorem ops_byteAt (x i : Operand) (d : Option Nat) (l : List AOper) (E : Env) (A : St) (Q : Ex → Env → St → Prop) : Ops D G0 fns X (⟨d, .byteAt x i, none⟩ :: l) E A Q = contV D G0 fns X (byteAtV (ev E x) (ev E i)) d l E A Q := by rw [ops_pure rfl (fun _ _ => rfl)]; rfl
@[simp] theorem ops_elemAt (n size : Nat) (agg : Bool) (x i : Operand) (d : Option Nat) (l : List AOper) (E : Env) (A : St) (Q : Ex → Env → St → Prop) : Ops D G0 fns X (⟨d, .elemAt n size agg x i, none⟩ :: l) E A Q = contV D G0 fns X (elemAtV n size agg (ev E x) (ev E i)) d l E A Q := by rw [ops_pure rfl (fun _ _ => rfl)]; rfl
@[simp] theorem ops_cutStr (x : Operand) (lo hi : Option Operand) (d : Option Nat) (l : List AOper) (E : Env) (A : St) (Q : Ex → Env → St → Prop) : Ops D G0 fns X (⟨d, .cutStr x lo hi, none⟩ :: l) E A Q = contV D G0 fns X (cutStrV (ev E x) (evo E lo) (evo E hi)) d l E A Q := by rw [ops_pure rfl (fun _ _ => rfl)]; rfl
@[simp] theorem ops_cutSlice (size : Nat) (x : Operand) (lo hi mx : Option Operand) (d : Option Nat) (l : List AOper) (E : Env) (A : St) (Q : Ex → Env → St → Prop) : Ops D G0 fns X (⟨d, .cutSlice size x lo hi mx, none⟩ :: l) E A Q = contL D G0 fns X (cutSliceOf size (ev E x) (evo E lo) (evo E hi) (evo E mx)) (lateCut size A (ev E x) (evo E lo) (evo E hi) (evo E mx)) d l E A Q := by
  refine propext ⟨fun ⟨k, E', A', h1, h2⟩ => ?_, fun h => ?_⟩
  · simp only [runOps, wantedA, opOfL, opOf, AOp.cls, pureOf, lateOf] at h1
    unfold contL
    cases hc : cutSliceOf size (ev E x) (evo E lo) (evo E hi) (evo E mx) with
    | some v => rw [hc] at h1; exact ⟨k, E', A', h1, h2⟩
    | none =>
      rw [hc] at h1
      dsimp only at h1 ⊢
      cases hl : lateCut size A (ev E x) (evo E lo) (evo E hi) (evo E mx) with
      | some v => rw [hl] at h1; exact ⟨k, E', A', h1, h2⟩
      | none => rw [hl] at h1; cases h1
  · unfold contL at h
    split at h
    · rename_i v hv
      exact WpO.op rfl (fun G => by simp only [opOf, AOp.cls, pureOf, hv]) h
    · rename_i hv
      split at h
      · rename_i v hl
        obtain ⟨k, E', A', h1, h2⟩ := h
        exact ⟨k, E', A', by simp only [runOps, wantedA, opOfL, opOf, AOp.cls, pureOf, lateOf, hv, hl]; exact h1, h2⟩
      · exact h.elim
@[simp] theorem ops_cutArray (n size : Nat) (x : Operand) (lo hi mx : Option Operand) (d : Option Nat) (l : List AOper) (E : Env) (A : St) (Q : Ex → Env → St → Prop) : Ops D G0 fns X (⟨d, .cutArray n size x lo hi mx, none⟩ :: l) E A Q = contV D G0 fns X (pureOf E (.cutArray n size x lo hi mx)) d l E A Q := ops_pure rfl (fun _ _ => rfl) d l E A Q
@[simp] theorem ops_build (zero : List AV) (parts : List (Nat × Nat × Operand)) (d : Option Nat) (l : List AOper) (E : Env) (A : St) (Q : Ex → Env → St → Prop) : Ops D G0 fns X (⟨d, .build zero parts, none⟩ :: l) E A Q = contV D G0 fns X (aggV (fillA zero (evParts E parts))) d l E A Q := by rw [ops_pure rfl (fun _ _ => rfl)]; rfl
@[simp] theorem ops_isType (t : TypeId) (zero : AV) (ok : Bool) (x : Operand) (d : Option Nat) (l : List AOper) (E : Env) (A : St) (Q : Ex → Env → St → Prop) : Ops D G0 fns X (⟨d, .isType t zero ok x, none⟩ :: l) E A Q = contV D G0 fns X (isTypeV t zero ok (ev E x)) d l E A Q := by rw [ops_pure rfl (fun _ _ => rfl)]; rfl
@[simp] theorem ops_isIface (impl other : List TypeId) (ok : Bool) (x : Operand) (d : Option Nat) (l : List AOper) (E : Env) (A : St) (Q : Ex → Env → St → Prop) : Ops D G0 fns X (⟨d, .isIface impl other ok x, none⟩ :: l) E A Q = contV D G0 fns X (pureOf E (.isIface impl other ok x)) d l E A Q := ops_pure rfl (fun _ _ => rfl) d l E A Q
@[simp] theorem ops_lenStr (x : Operand) (d : Option Nat) (l : List AOper) (E : Env) (A : St) (Q : Ex → Env → St → Prop) : Ops D G0 fns X (⟨d, .lenStr x, none⟩ :: l) E A Q = contV D G0 fns X (lenStrV (ev E x)) d l E A Q := by rw [ops_pure rfl (fun _ _ => rfl)]; rfl
@[simp] theorem ops_len (x : Operand) (d : Option Nat) (l : List AOper) (E : Env) (A : St) (Q : Ex → Env → St → Prop) : Ops D G0 fns X (⟨d, .len x, none⟩ :: l) E A Q = contV D G0 fns X (lenV (ev E x)) d l E A Q := by rw [ops_pure rfl (fun _ _ => rfl)]; rfl
@[simp] theorem ops_lenArr (n : Nat) (x : Operand) (d : Option Nat) (l : List AOper) (E : Env) (A : St) (Q : Ex → Env → St → Prop) : Ops D G0 fns X (⟨d, .lenArr n x, none⟩ :: l) E A Q = contV D G0 fns X (some (.int .i64 n)) d l E A Q := by rw [ops_pure rfl (fun _ _ => rfl)]; rfl
@[simp] theorem ops_minmax (isMax : Bool) (xs : List Operand) (d : Option Nat) (l : List AOper) (E : Env) (A : St) (Q : Ex → Env → St → Prop) : Ops D G0 fns X (⟨d, .minmax isMax xs, none⟩ :: l) E A Q = contV D G0 fns X (pureOf E (.minmax isMax xs)) d l E A Q := ops_pure rfl (fun _ _ => rfl) d l E A Q
@[simp] theorem ops_box (x : Operand) (d : Option Nat) (l : List AOper) (E : Env) (A : St) (Q : Ex → Env → St → Prop) : Ops D G0 fns X (⟨d, .box x, none⟩ :: l) E A Q = contN D G0 fns X (boxV (ev E x)) d l E A Q := by rw [ops_new rfl]; rfl
@[simp] theorem ops_alloc (zero : List AV) (d : Option Nat) (l : List AOper) (E : Env) (A : St) (Q : Ex → Env → St → Prop) : Ops D G0 fns X (⟨d, .alloc zero, none⟩ :: l) E A Q = contN D G0 fns X (some (zero, 1, .ptr)) d l E A Q := by rw [ops_new rfl]; rfl
@[simp] theorem ops_buildSlice (n size : Nat) (cells : List AV) (parts : List (Nat × Nat × Operand)) (d : Option Nat) (l : List AOper) (E : Env) (A : St) (Q : Ex → Env → St → Prop) : Ops D G0 fns X (⟨d, .buildSlice n size cells parts, none⟩ :: l) E A Q = contN D G0 fns X (builtV n size (fillA cells (evParts E parts))) d l E A Q := by rw [ops_new rfl]; rfl
@[simp] theorem ops_makeSlice (size bytes : Nat) (zero : List AV) (ln cap : Operand) (d : Option Nat) (l : List AOper) (E : Env) (A : St) (Q : Ex → Env → St → Prop) : Ops D G0 fns X (⟨d, .makeSlice size bytes zero ln cap, none⟩ :: l) E A Q = contN D G0 fns X (makeV size bytes zero (ev E ln) (ev E cap)) d l E A Q := by rw [ops_new rfl]; rfl
@[simp] theorem ops_bytesOf (x : Operand) (d : Option Nat) (l : List AOper) (E : Env) (A : St) (Q : Ex → Env → St → Prop) : Ops D G0 fns X (⟨d, .bytesOf x, none⟩ :: l) E A Q = contN D G0 fns X (bytesOfV (ev E x)) d l E A Q := by rw [ops_new rfl]; rfl
@[simp] theorem ops_eq (k : EqK) (neg : Bool) (x y : Operand) (d : Option Nat) (l : List AOper) (E : Env) (A : St) (Q : Ex → Env → St → Prop) : Ops D G0 fns X (⟨d, .eq k neg x y, none⟩ :: l) E A Q = contV D G0 fns X (eqV A k neg (ev E x) (ev E y)) d l E A Q := by rw [ops_read rfl]; rfl
@[simp] theorem ops_load (n : Nat) (agg : Bool) (a : Operand) (d : Option Nat) (l : List AOper) (E : Env) (A : St) (Q : Ex → Env → St → Prop) : Ops D G0 fns X (⟨d, .load n agg a, none⟩ :: l) E A Q = contV D G0 fns X (loadV A n agg (ev E a)) d l E A Q := by rw [ops_read rfl]; rfl
@[simp] theorem ops_textOf (x : Operand) (d : Option Nat) (l : List AOper) (E : Env) (A : St) (Q : Ex → Env → St → Prop) : Ops D G0 fns X (⟨d, .textOf x, none⟩ :: l) E A Q = contV D G0 fns X (textV A (ev E x)) d l E A Q := by rw [ops_read rfl]; rfl
@[simp] theorem ops_lookup (kd : KK) (zero : AV) (ok : Bool) (mp k : Operand) (d : Option Nat) (l : List AOper) (E : Env) (A : St) (Q : Ex → Env → St → Prop) : Ops D G0 fns X (⟨d, .lookup kd zero ok mp k, none⟩ :: l) E A Q = contV D G0 fns X (readOf E A (.lookup kd zero ok mp k)) d l E A Q := ops_read rfl d l E A Q
@[simp] theorem ops_lenMap (mp : Operand) (d : Option Nat) (l : List AOper) (E : Env) (A : St) (Q : Ex → Env → St → Prop) : Ops D G0 fns X (⟨d, .lenMap mp, none⟩ :: l) E A Q = contV D G0 fns X (readOf E A (.lenMap mp)) d l E A Q := ops_read rfl d l E A Q
@[simp] theorem ops_mkMap  (d : Option Nat) (l : List AOper) (E : Env) (A : St) (Q : Ex → Env → St → Prop) : Ops D G0 fns X (⟨d, .mkMap, none⟩ :: l) E A Q = contP D G0 fns X (effOf E A .mkMap) d l E Q := ops_eff rfl d l E A Q
@[simp] theorem ops_store (n : Nat) (a x : Operand) (d : Option Nat) (l : List AOper) (E : Env) (A : St) (Q : Ex → Env → St → Prop) : Ops D G0 fns X (⟨d, .store n a x, none⟩ :: l) E A Q = contP D G0 fns X (storeV A n (ev E a) (ev E x)) d l E Q := by rw [ops_eff rfl]; rfl
@[simp] theorem ops_append (str : Bool) (size bytes : Nat) (s x : Operand) (d : Option Nat) (l : List AOper) (E : Env) (A : St) (Q : Ex → Env → St → Prop) : Ops D G0 fns X (⟨d, .append str size bytes s x, none⟩ :: l) E A Q = contP D G0 fns X (appendV A str size bytes (ev E s) (ev E x)) d l E Q := by rw [ops_eff rfl]; rfl
@[simp] theorem ops_copy (size : Nat) (dd s : Operand) (d : Option Nat) (l : List AOper) (E : Env) (A : St) (Q : Ex → Env → St → Prop) : Ops D G0 fns X (⟨d, .copy size dd s, none⟩ :: l) E A Q = contP D G0 fns X (effOf E A (.copy size dd s)) d l E Q := ops_eff rfl d l E A Q
@[simp] theorem ops_mapPut (kd : KK) (mp k x : Operand) (d : Option Nat) (l : List AOper) (E : Env) (A : St) (Q : Ex → Env → St → Prop) : Ops D G0 fns X (⟨d, .mapPut kd mp k x, none⟩ :: l) E A Q = contP D G0 fns X (effOf E A (.mapPut kd mp k x)) d l E Q := ops_eff rfl d l E A Q
@[simp] theorem ops_mapDel (kd : KK) (mp k : Operand) (d : Option Nat) (l : List AOper) (E : Env) (A : St) (Q : Ex → Env → St → Prop) : Ops D G0 fns X (⟨d, .mapDel kd mp k, none⟩ :: l) E A Q = contP D G0 fns X (effOf E A (.mapDel kd mp k)) d l E Q := ops_eff rfl d l E A Q
@[simp] theorem ops_guard (t : Nat) (b : Bool) (op : AOp) (d : Option Nat) (l : List AOper) (E : Env) (A : St) (Q : Ex → Env → St → Prop) (ht : t < 1000000) : Ops D G0 fns X (⟨d, op, some (t, b)⟩ :: l) E A Q = contG D G0 fns X (Env.at E t) b ⟨d, op, some (t, b)⟩ l E A Q := by
  have hw : wantedA E (some (t, b)) = match Env.at E t with | .bool c => some (c == b) | .tuple [] => some false | _ => none := by
    unfold wantedA
    dsimp only
    rw [show Nat.blt t 1000000 = true from by rw [Nat.blt_eq]; exact ht]
    rfl
  unfold contG
  split
  · rename_i c hc
    rw [hc] at hw
    dsimp only at hw
    by_cases hb : c = b
    · rw [if_pos hb]
      subst hb
      refine propext ⟨fun ⟨k, E', A', h1, h2⟩ => ⟨k, E', A', ?_, h2⟩, fun ⟨k, E', A', h1, h2⟩ => ⟨k, E', A', ?_, h2⟩⟩
      · simp only [runOps, hw, beq_self_eq_true] at h1
        simp only [runOps, wantedA]
        exact h1
      · simp only [runOps, wantedA] at h1
        simp only [runOps, hw, beq_self_eq_true]
        exact h1
    · rw [if_neg hb]
      have hb' : (c == b) = false := by simpa using hb
      rw [hb'] at hw
      refine propext ⟨fun ⟨k, E', A', h1, h2⟩ => ⟨k, E', A', ?_, h2⟩, fun ⟨k, E', A', h1, h2⟩ => ⟨k, E', A', ?_, h2⟩⟩
      · simpa only [runOps, hw] using h1
      · simpa only [runOps, hw] using h1
  · rename_i hc
    rw [hc] at hw
    dsimp only at hw
    refine propext ⟨fun ⟨k, E', A', h1, h2⟩ => ⟨k, E', A', ?_, h2⟩, fun ⟨k, E', A', h1, h2⟩ => ⟨k, E', A', ?_, h2⟩⟩
    · simpa only [runOps, hw] using h1
    · simpa only [runOps, hw] using h1
  · rename_i hno hno2
    have hw' : wantedA E (some (t, b)) = none := by
      rw [hw]
      split
      · rename_i c hc; exact (hno c hc).elim
      · rename_i hc; exact (hno2 hc).elim
      · rfl
    refine propext ⟨fun ⟨k, E', A', h1, h2⟩ => ?_, fun h => h.elim⟩
    simp only [runOps, hw'] at h1
    cases h1

@[simp] theorem wp_skip (E : Env) (A : St) (Q : Ex → Env → St → Prop) : Wp D G0 fns X .skip E A Q = Q .normal E A := propext ⟨fun ⟨k, ex, E', A', h1, h2⟩ => by cases h1; exact h2, Wp.skip⟩
@[simp] theorem wp_exit (id : Nat) (E : Env) (A : St) (Q : Ex → Env → St → Prop) : Wp D G0 fns X (.exit id) E A Q = Q (.exit id) E A := propext ⟨fun ⟨k, ex, E', A', h1, h2⟩ => by cases h1; exact h2, Wp.exit⟩
@[simp] theorem wp_ret (E : Env) (A : St) (Q : Ex → Env → St → Prop) : Wp D G0 fns X .ret E A Q = Q .ret E A := propext ⟨fun ⟨k, ex, E', A', h1, h2⟩ => by cases h1; exact h2, Wp.ret⟩
@[simp] theorem wp_region (l : List AOper) (E : Env) (A : St) (Q : Ex → Env → St → Prop) : Wp D G0 fns X (.region l) E A Q = Ops D G0 fns X l E A Q := by
  refine propext ⟨fun ⟨k, ex, E', A', h1, h2⟩ => ?_, Wp.region⟩
  simp only [interp] at h1
  split at h1
  · rename_i E1 A1 hr; cases h1; exact ⟨k, E', A', hr, h2⟩
  · cases h1
@[simp] theorem wp_seq (a b : ACode) (E : Env) (A : St) (Q : Ex → Env → St → Prop) : Wp D G0 fns X (.seq a b) E A Q = Wp D G0 fns X a E A (seqK D G0 fns X b Q) := by
  refine propext ⟨fun ⟨k, ex, E', A', h1, h2⟩ => ?_, fun h => Wp.seq (h.mono fun ex E A h => by cases ex <;> exact h)⟩
  simp only [interp] at h1
  cases ha : interp D (calls D G0 fns X k) k a E A with
  | none => rw [ha] at h1; cases h1
  | some x =>
    rw [ha] at h1
    obtain ⟨ex1, E1, A1⟩ := x
    cases ex1 with
    | normal => exact ⟨k, .normal, E1, A1, ha, ⟨k, ex, E', A', h1, h2⟩⟩
    | exit i => cases h1; exact ⟨k, _, _, _, ha, h2⟩
    | ret => cases h1; exact ⟨k, _, _, _, ha, h2⟩
@[simp] theorem wp_cond (c : Operand) (x y : ACode) (E : Env) (A : St) (Q : Ex → Env → St → Prop) : Wp D G0 fns X (.cond c x y) E A Q = contC D G0 fns X (ev E c) x y E A Q := by
  refine propext ⟨fun ⟨k, ex, E', A', h1, h2⟩ => ?_, fun h => ?_⟩
  · simp only [interp] at h1
    split at h1
    · rename_i hc; rw [hc]; exact ⟨k, _, _, _, h1, h2⟩
    · rename_i hc; rw [hc]; exact ⟨k, _, _, _, h1, h2⟩
    · cases h1
  · unfold contC at h
    split at h
    · rename_i hc; exact .yes hc h
    · rename_i hc; exact .no hc h
    · exact h.elim
@[simp] theorem wp_block (id : Nat) (c : ACode) (E : Env) (A : St) (Q : Ex → Env → St → Prop) : Wp D G0 fns X (.block id c) E A Q = Wp D G0 fns X c E A (blkK id Q) := by
  refine propext ⟨fun ⟨k, ex, E', A', h1, h2⟩ => ?_, fun h => Wp.block (h.mono fun ex E A h => by cases ex <;> exact h)⟩
  simp only [interp] at h1
  cases ha : interp D (calls D G0 fns X k) k c E A with
  | none => rw [ha] at h1; cases h1
  | some x =>
    rw [ha] at h1
    obtain ⟨ex1, E1, A1⟩ := x
    cases ex1 with
    | normal => cases h1; exact ⟨k, _, _, _, ha, h2⟩
    | ret => cases h1; exact ⟨k, _, _, _, ha, h2⟩
    | exit i =>
      refine ⟨k, _, _, _, ha, ?_⟩
      dsimp only at h1
      show (if i = id then _ else _)
      split at h1
      · rename_i hi; rw [if_pos hi]; cases h1; exact h2
      · rename_i hi; rw [if_neg hi]; cases h1; exact h2
theorem Ev.fnK {f : FuncId} {fn : AFn} (hf : fns f = some fn) {args : List AV} {A : St} {Q : AV → St → Prop} (hn : args.length ≤ fn.n ∧ fn.n ≤ 1000000)
    (h : Wp D G0 fns X fn.body (setArgs 0 args G0) A (fnK fn.res Q)) : Ev D G0 fns X f args A Q :=
  Ev.fn hf hn (h.mono fun ex E A h => by cases ex <;> exact h)
end

/-- Behind a loop's round: on with less to come, or out. -/
def loopK (I : Nat → Env → St → Prop) (d : Nat) (Q : Ex → Env → St → Prop) (ex : Ex) (E : Env) (A : St) : Prop :=
  match ex with
  | .normal => ∃ d', d' < d ∧ I d' E A
  | ex => Q ex E A
@[simp] theorem loopK_normal (I : Nat → Env → St → Prop) (d : Nat) (Q : Ex → Env → St → Prop) (E : Env) (A : St) : loopK I d Q .normal E A = ∃ d', d' < d ∧ I d' E A := rfl
@[simp] theorem loopK_exit (I : Nat → Env → St → Prop) (d i : Nat) (Q : Ex → Env → St → Prop) (E : Env) (A : St) : loopK I d Q (.exit i) E A = Q (.exit i) E A := rfl
@[simp] theorem loopK_ret (I : Nat → Env → St → Prop) (d : Nat) (Q : Ex → Env → St → Prop) (E : Env) (A : St) : loopK I d Q .ret E A = Q .ret E A := rfl
theorem Wp.loopK {D : Disp} {G0 : Env} {fns : Nat → Option AFn} {X : Calls'} {c : ACode} {Q : Ex → Env → St → Prop} (I : Nat → Env → St → Prop) (d : Nat) {E : Env} {A : St} (h : I d E A) (round : ∀ d E A, I d E A → Wp D G0 fns X c E A (AM.loopK I d Q)) : Wp D G0 fns X (.loop c) E A Q :=
  Wp.loop I (fun d E A h => (round d E A h).mono fun ex E A h => by cases ex <;> exact h) d E A h

/-! ### Operations on known values -/
section
variable (k : IntKind) (x y : Int)
@[simp] theorem bin_add : binOf .add (.int k x) (.int k y) = some (.int k (k.wrap (x + y))) := by simp [binOf, isShift, binInt]
@[simp] theorem bin_sub : binOf .sub (.int k x) (.int k y) = some (.int k (k.wrap (x - y))) := by simp [binOf, isShift, binInt]
@[simp] theorem bin_mul : binOf .mul (.int k x) (.int k y) = some (.int k (k.wrap (x * y))) := by simp [binOf, isShift, binInt]
theorem bin_quo (h : y ≠ 0) : binOf .quo (.int k x) (.int k y) = some (.int k (k.wrap (x.tdiv y))) := by simp [binOf, isShift, binInt, h]
theorem bin_rem (h : y ≠ 0) : binOf .rem (.int k x) (.int k y) = some (.int k (x.tmod y)) := by simp [binOf, isShift, binInt, h]
@[simp] theorem bin_eql : binOf .eql (.int k x) (.int k y) = some (.bool (decide (x = y))) := by simp [binOf, isShift, binInt]; rfl
@[simp] theorem bin_neq : binOf .neq (.int k x) (.int k y) = some (.bool (decide (x ≠ y))) := by simp [binOf, isShift, binInt, bne]; rfl
@[simp] theorem bin_lss : binOf .lss (.int k x) (.int k y) = some (.bool (decide (x < y))) := by simp [binOf, isShift, binInt]
@[simp] theorem bin_leq : binOf .leq (.int k x) (.int k y) = some (.bool (decide (x ≤ y))) := by simp [binOf, isShift, binInt]
@[simp] theorem bin_gtr : binOf .gtr (.int k x) (.int k y) = some (.bool (decide (y < x))) := by simp [binOf, isShift, binInt]
@[simp] theorem bin_geq : binOf .geq (.int k x) (.int k y) = some (.bool (decide (y ≤ x))) := by simp [binOf, isShift, binInt]
@[simp] theorem bin_str_eql (a b : List UInt8) : binOf .eql (.str a) (.str b) = some (.bool (decide (a = b))) := by simp [binOf, binStr]; cases h : a == b <;> simp_all
@[simp] theorem bin_str_neq (a b : List UInt8) : binOf .neq (.str a) (.str b) = some (.bool (decide (a ≠ b))) := by simp [binOf, binStr]; cases h : a == b <;> simp_all
end
end Go.AM
