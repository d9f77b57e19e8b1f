/- The abstract machine: how the model's code is turned into its own. -/
import Derived.Test.YtejlhgcheaimjaaGreatDoorAmRel
namespace Go.AM
set_option linter.unusedVariables false

def isAggB (P : Program) (t : TypeId) : Bool :=
  match P.underlying t with
  | some (.struct _) | some (.array _ _) => true
  | _ => false
def szOf (P : Program) (t : TypeId) : Option Nat := (P.info? t).map (·.size)
/-- The zero value's cells. -/
def zeroCs (P : Program) (t : TypeId) : Option (List AV) :=
  match P.info? t with
  | some i => match i.zero with
    | some z => z.cells.toList.mapM constFlat
    | none => none
  | none => none
def zeroAV (P : Program) (t : TypeId) : Option AV :=
  match P.info? t with
  | some i => match i.zero with
    | some (.agg cs) => (cs.toList.mapM constFlat).map .agg
    | some z => constFlat z
    | none => none
  | none => none
def basicB (P : Program) (t : TypeId) : Bool :=
  match P.underlying t with
  | some (.int _) | some .string | some .bool => true
  | _ => false
def isConstB : Operand → Bool
  | .const _ => true
  | _ => false

def isU8 (P : Program) (e : TypeId) : Bool :=
  match P.underlying e with
  | some (.int .u8) => true
  | _ => false
theorem isU8_some {P : Program} {e : TypeId} (h : isU8 P e = true) : P.underlying e = some (.int .u8) := by
  unfold isU8 at h
  split at h
  · assumption
  · cases h

def fieldPartsC (P : Program) (fields : Array Field) : List (Nat × Operand) → Option (List (Nat × Nat × Operand))
  | [] => some []
  | (i, x) :: l => match fields[i]? with
    | some f => match szOf P f.type, fieldPartsC P fields l with
      | some s, some r => some ((f.offset, s, x) :: r)
      | _, _ => none
    | none => none
def elemParts (size : Nat) : List (Nat × Operand) → List (Nat × Nat × Operand)
  | [] => []
  | (i, x) :: l => (i * size, size, x) :: elemParts size l

/-- The pointers to what has a size. -/
def ptrOk (P : Program) (t : TypeId) : Bool :=
  match P.underlying t with
  | some (.pointer e) => (match szOf P e with | some (_ + 1) => true | _ => false)
  | _ => false
def ptrTypes (P : Program) : List TypeId := (List.range P.types.size).filter fun t => ptrOk P t && (match P.info? t with | some i => !i.methods.isEmpty && i.comparable | none => false)
def compEq (P : Program) (op : BinOp) (t : TypeId) (x y : Operand) : Option AOp :=
  let neg := op == .neq
  match P.underlying t with
  | some .bool => some (.eqb neg x y)
  | some (.int _) | some .string => some (.bin op x y)
  | some (.pointer e) => match szOf P e with | some (_ + 1) => some (.eq .ptr neg x y) | _ => none
  | some (.slice _) => some (.eq .nilSlice neg x y)
  | some (.map _ _) => some (.eq .nilMap neg x y)
  | some (.func _ _ _) => some (.eq .nilFunc neg x y)
  | some (.interface ms) => if (ms.isEmpty || isConstB x || isConstB y) = true then some (.eq (.iface true) neg x y) else some (.eq (.dyn (ptrTypes P)) neg x y)
  | _ => none

def compOpA (P : Program) : Op → Option AOp
  | .move x | .assign x => some (.mv x)
  | .pick c a b => some (.pick c a b)
  | .alloc elem => (zeroCs P elem).map .alloc
  | .box _ x => some (.box x)
  | .build t parts => match P.underlying t, zeroCs P t with
    | some (.struct fields), some z => if fields.toList.all (fun f => (P.info? f.type).isSome) then (fieldPartsC P fields parts.toList).map (.build z) else none
    | some (.array _ e), some z => (szOf P e).map fun s => .build z (elemParts s parts.toList)
    | _, _ => none
  | .buildSlice t n parts => match P.underlying t with
    | some (.slice e) => match szOf P e, zeroCs P e with
      | some s, some z => if z.length = s ∧ n * s ≤ 16777216 ∧ 1 ≤ s then some (.buildSlice n s (List.replicate n z).flatten (elemParts s parts.toList)) else none
      | _, _ => none
    | _ => none
  | .load t a => if (P.underlying t).isSome then (szOf P t).map fun s => .load (if isAggB P t then s else 1) (isAggB P t) a else none
  | .store t a x => (szOf P t).map fun s => .store s a x
  | .nilCheck x => some (.nilCheck x)
  | .binOp op t x y _ => if op == .eql || op == .neq then compEq P op t x y else some (.bin op x y)
  | .unOp op _ x => some (.un op x)
  | .convert src dst x => match P.underlying src, P.underlying dst with
    | some (.int _), some (.int k) => some (.conv k x)
    | some .string, some .string => some (.same x)
    | some .string, some (.slice e) => if isU8 P e = true then some (.bytesOf x) else none
    | some (.slice e), some .string => if isU8 P e = true then some (.textOf x) else none
    | _, _ => none
  | .makeInterface t x => match P.underlying t with
    | some (.interface _) | none => none
    | _ => some (.mkIface t x)
  | .makeFunc fn first captured => some (.mkFunc fn first.toList captured.toList)
  | .makeSlice t l c => match P.underlying t with
    | some (.slice e) => match P.info? e, zeroCs P e with
      | some i, some z => if z.length = i.size ∧ 1 ≤ i.size then some (.makeSlice i.size i.bytes z l c) else none
      | _, _ => none
    | _ => none
  | .slice t x lo hi mx => match P.underlying t with
    | some .string => if mx.isNone then some (.cutStr x lo hi) else none
    | some (.slice e) => (szOf P e).map fun s => .cutSlice s x lo hi mx
    | some (.array n e) => (szOf P e).map fun s => .cutArray n s x lo hi mx
    | _ => none
  | .fieldAddr s x f => match P.underlying s with
    | some (.struct fields) => match fields[f]? with
      | some fd => match szOf P fd.type with | some (_ + 1) => some (.fieldAddr fd.offset x) | _ => none
      | none => none
    | _ => none
  | .field t x f => match P.underlying t with
    | some (.struct fields) => match fields[f]? with
      | some fd => if (P.underlying fd.type).isSome then (szOf P fd.type).map fun s => .field fd.offset s (isAggB P fd.type) x else none
      | none => none
    | _ => none
  | .indexAddr t x i => match P.underlying t with
    | some (.slice e) => (szOf P e).map fun s => .atSlice s x i
    | some (.array n e) => (szOf P e).map fun s => .atArray n s x i
    | _ => none
  | .index t x i => match P.underlying t with
    | some .string => some (.byteAt x i)
    | some (.array n e) => if (P.underlying e).isSome then (szOf P e).map fun s => .elemAt n s (isAggB P e) x i else none
    | _ => none
  | .extract t i => some (.extract t i)
  | .call c => match c.callee with
    | .builtin .len => match c.args.toList, (c.argTypes[0]?).bind P.underlying with
      | [x], some .string => some (.lenStr x)
      | [x], some (.slice _) => some (.len x)
      | [x], some (.array n _) => some (.lenArr n x)
      | _, _ => none
    | .builtin .append => match c.args.toList, c.argTypes.toList with
      | [s, x], [t, tx] => match P.underlying t, P.underlying tx with
        | some (.slice e), some (.slice _) => match P.info? e with
          | some i => match zeroCs P e with
            | some z => if z.length = i.size then some (.append false i.size i.bytes s x) else none
            | none => none
          | none => none
        | some (.slice e), some .string => match P.info? e with
          | some i => match zeroCs P e with
            | some z => if z.length = i.size ∧ i.size = 1 then some (.append true i.size i.bytes s x) else none
            | none => none
          | none => none
        | _, _ => none
      | _, _ => none
    | .value (.func f) => if f = yieldId then none else some (.call f c.args.toList)
    | .value x => some (.callv x c.args.toList)
    | _ => none
  | _ => none

def keyKind (P : Program) (t : TypeId) : Option KK :=
  match P.underlying t with
  | some (.int k) => some (.int k)
  | some .string => some .str
  | some .bool => some .bool
  | _ => none
def mapKind (P : Program) (t : TypeId) : Option (KK × TypeId) :=
  match P.underlying t with
  | some (.map k e) => (keyKind P k).map fun kd => (kd, e)
  | _ => none
/-- The kinds of a struct's plain fields, each a cell. -/
def fieldKinds (P : Program) : Nat → List Field → Option (List KK)
  | _, [] => some []
  | k, f :: l => if Nat.beq f.offset k && f.name != "_" then (match keyKind P f.type, fieldKinds P (k + 1) l with | some q, some r => some (q :: r) | _, _ => none) else none
def structKinds (P : Program) (t : TypeId) : Option (List KK) :=
  match P.underlying t with
  | some (.struct fs) => if (!P.stoodInHeld t && !P.eqGuardType P.depth t) = true then fieldKinds P 0 fs.toList else none
  | _ => none
/-- The wanted methods that a type has not: are there none? -/
def hasAll (want : Array (String × TypeId)) (got : Array Method) : Bool := want.toList.all fun x => got.any fun m => m.name == x.1 && m.sig == x.2
/-- The types that have methods. -/
def metTypes (P : Program) : List TypeId := (List.range P.types.size).filter fun t => match P.info? t with | some i => !i.methods.isEmpty | none => false
def hasT (P : Program) (want : Array (String × TypeId)) (b : Bool) (t : TypeId) : Bool := match P.info? t with | some i => hasAll want i.methods == b | none => false
/-- Whom a method of a type reaches, and what it gets. -/
def dispRow (P : Program) (name : String) (t : TypeId) : Option (FuncId × Option (Nat × Nat × Bool)) :=
  match P.info? t with
  | some i => match i.methods.find? (·.name == name) with
    | some mt => match mt.func, mt.path.toList with
      | some (f, pr), [] => match P.underlying t with
        | some (.pointer _) => bif pr then some (f, none) else none
        | some _ => bif pr then none else some (f, none)
        | none => none
      | some (f, false), [s] => bif s.deref then (match P.underlying s.struct with
        | some (.struct fields) => match fields[s.index]? with
          | some fd => match P.underlying fd.type with
            | some (.pointer _) | none => none
            | some _ => match szOf P fd.type with
              | some (k + 1) => some (f, some (fd.offset, if isAggB P fd.type then k + 1 else 1, isAggB P fd.type))
              | _ => none
          | none => none
        | _ => none) else none
      | some (f, true), [s] => bif s.deref then none else (match P.underlying s.struct with
        | some (.struct fields) => match fields[s.index]? with
          | some fd => match P.underlying fd.type with
            | some (.pointer _) => some (f, some (fd.offset, 0, false))
            | _ => none
          | none => none
        | _ => none)
      | _, _ => none
    | none => none
  | none => none
def dispTab (P : Program) (name : String) : List (TypeId × FuncId × Option (Nat × Nat × Bool)) := (List.range P.types.size).filterMap fun t => (dispRow P name t).map fun r => (t, r)
/-- Further operations: of maps, of iterators, of numbers. -/
def compOpB (P : Program) : Op → Option AOp
  | .lookup t x i ok => match mapKind P t with
    | some (kd, e) => (zeroAV P e).map fun z => .lookup kd z ok x i
    | none => none
  | .mapUpdate t mm k v => (mapKind P t).map fun p => .mapPut p.1 mm k v
  | .makeMap _ none => some .mkMap
  | .binOp op t x y _ => if op == .eql || op == .neq then (match structKinds P t with | some ks => some (.eqAgg (op == .neq) ks x y) | none => none) else none
  | .range t x => match P.underlying t with
    | some .string => some (.range false x)
    | some (.map _ _) => some (.range true x)
    | _ => none
  | .next it s => some (.next s it)
  | .entry it => some (.entry it)
  | .typeAssert x _ t ok => match P.underlying t with
    | some (.interface want) => match zeroAV P t with
      | some .nilIface => some (.isIface ((metTypes P).filter (hasT P want true)) ((metTypes P).filter (hasT P want false)) ok x)
      | _ => none
    | some _ => (zeroAV P t).map fun z => .isType t z ok x
    | none => none
  | .call c => match c.callee with
    | .builtin .len => match c.args.toList, (c.argTypes[0]?).bind P.underlying with
      | [x], some (.map _ _) => some (.lenMap x)
      | _, _ => none
    | .builtin .cap => match c.args.toList, (c.argTypes[0]?).bind P.underlying with
      | [x], some (.slice _) => some (.cap x)
      | _, _ => none
    | .builtin .append => match c.args.toList, c.argTypes.toList with
      | [s, x], [t, tx] => match P.underlying t, P.underlying tx with
        | some (.slice e), some (.int _) => match P.info? e, zeroCs P e with
          | some i, some z => if z.length = i.size ∧ 1 ≤ i.size then some (.appendZ i.size i.bytes z s x) else none
          | _, _ => none
        | _, _ => none
      | _, _ => none
    | .invoke recv name => some (.invoke recv (dispTab P name) c.args.toList)
    | .builtin .min => some (.minmax false c.args.toList)
    | .builtin .max => some (.minmax true c.args.toList)
    | .builtin .clear => match c.args.toList, (c.argTypes[0]?).bind P.underlying with
      | [x], some (.slice e) => match P.info? e, zeroCs P e with
        | some i, some z => if z.length = i.size then some (.clearS z x) else none
        | _, _ => none
      | [x], some (.map _ _) => some (.clearM x)
      | _, _ => none
    | .builtin .delete => match c.args.toList, (c.argTypes[0]?).bind (mapKind P) with
      | [x, k], some p => some (.mapDel p.1 x k)
      | _, _ => none
    | _ => none
  | _ => none
/-- What is not covered: it ends every run that comes there. -/
def stuckOp : AOp := .extract (.const (.bool false)) 0
def compOp (P : Program) (op : Op) : Option AOp :=
  match compOpA P op with
  | some a => some a
  | none => match compOpB P op with
    | some a => some a
    | none => some stuckOp
theorem compOp_cases {P : Program} {op : Op} {a : AOp} (h : compOp P op = some a) : compOpA P op = some a ∨ compOpB P op = some a ∨ a = stuckOp := by
  unfold compOp at h
  split at h
  · rename_i x hx; cases h; exact .inl hx
  · split at h
    · rename_i x hx; cases h; exact .inr (.inl hx)
    · cases h; exact .inr (.inr rfl)

/-- No operation of a text is a quiet call. -/
def notQ : AOp → Bool
  | .qcall .. => false
  | _ => true
theorem map_notQ {α : Type} {o : Option α} {g : α → AOp} (hg : ∀ a, notQ (g a) = true) {a : AOp} (h : o.map g = some a) : notQ a = true := by
  cases o with
  | none => cases h
  | some x => cases h; exact hg x
theorem compEq_notQ {P : Program} {op : BinOp} {t : TypeId} {x y : Operand} {a : AOp} (h : compEq P op t x y = some a) : notQ a = true := by
  unfold compEq at h
  repeat' split at h
  all_goals first | (cases h; done) | (cases h; rfl) | exact map_notQ (fun _ => rfl) h
theorem compOpA_notQ {P : Program} {op : Op} {a : AOp} (h : compOpA P op = some a) : notQ a = true := by
  unfold compOpA at h
  repeat' split at h
  all_goals first | (cases h; done) | (cases h; rfl) | exact map_notQ (fun _ => rfl) h | exact compEq_notQ h

def dstOk (n : Nat) : Option Nat → Bool
  | none => true
  | some d => decide (d < n ∧ d < 1000000)
def compOper (P : Program) (n : Nat) (ops : Array Oper) (o : Oper) : Option AOper :=
  if dstOk n o.dst = true then
  match compOp P o.op with
  | some a => match o.guard with
    | none => some ⟨o.dst, a, none⟩
    | some (j, b) => match (ops[j]?).bind (·.dst) with
      | some t => if t < n then some ⟨o.dst, a, some (t, b)⟩ else none
      | none => none
  | none => none
  else none
def compOpers (P : Program) (n : Nat) (ops : Array Oper) : List Oper → Option (List AOper)
  | [] => some []
  | o :: l => match compOper P n ops o, compOpers P n ops l with
    | some a, some r => some (a :: r)
    | _, _ => none

/-! ### Regions that draw their order -/

def maskStep (tab : List Nat) (o : Oper) : Nat := o.after.toList.foldl (fun s e => if Region.binds .any e = true then s ||| 2 ^ e.on ||| tab.getD e.on 0 else s) 0
/-- Whom each operation waits for, directly or through others. -/
def masks : List Oper → List Nat → List Nat
  | [], tab => tab
  | o :: l, tab => masks l (tab ++ [maskStep tab o])
def opndsOf : AOp → List Operand
  | .mv x | .mark x | .un _ x | .conv _ x | .same x | .extract x _ | .mkIface _ x | .nilCheck x | .fieldAddr _ x | .field _ _ _ x | .isType _ _ _ x | .isIface _ _ _ x | .lenStr x | .len x | .lenArr _ x | .box x | .bytesOf x | .load _ _ x | .textOf x | .entry x | .range _ x | .next _ x | .clearS _ x | .clearM x | .lenMap x | .cap x => [x]
  | .bin _ x y | .eqb _ x y | .atSlice _ x y | .atArray _ _ x y | .byteAt x y | .elemAt _ _ _ x y | .makeSlice _ _ _ x y | .eq _ _ x y | .lookup _ _ _ x y | .store _ x y | .append _ _ _ x y | .copy _ x y | .mapDel _ x y | .eqAgg _ _ x y | .appendZ _ _ _ x y => [x, y]
  | .pick a b c | .mapPut _ a b c => [a, b, c]
  | .mkFunc _ x y => x ++ y
  | .cutStr x lo hi => x :: (lo.toList ++ hi.toList)
  | .cutSlice _ x lo hi mx | .cutArray _ _ x lo hi mx => x :: (lo.toList ++ (hi.toList ++ mx.toList))
  | .build _ ps | .buildSlice _ _ _ ps => ps.map (·.2.2)
  | .minmax _ xs | .call _ xs | .qcall _ xs => xs
  | .alloc _ | .mkMap => []
  | .callv x xs | .invoke x _ xs => x :: xs
def slotsOf : List Operand → List Nat
  | [] => []
  | .tmp t :: l => t :: slotsOf l
  | _ :: l => slotsOf l
def looksOf (o : AOper) : List Nat := (match o.guard with | some (t, _) => [t] | none => []) ++ slotsOf (opndsOf o.op)
def heavy (o : AOper) : Bool := match o.op.cls with | .new | .eff | .call => true | _ => false
/-- May two operations, the first ahead of the second in the text, come up in either order? -/
def looseB (x y : AOper) : Bool :=
  !(heavy x && heavy y) &&
  (match x.dst with | some t => !(looksOf y).contains t && y.dst != some t | none => true) &&
  (match y.dst with | some t => !(looksOf x).contains t | none => true)
/-- x, of number i, against those behind it. -/
def pairB (i : Nat) (x : AOper) : List (AOper × Nat) → Bool
  | [] => true
  | (y, k) :: l => (k.testBit i || looseB x y) && pairB i x l
def pairsB : Nat → List (AOper × Nat) → Bool
  | _, [] => true
  | i, (x, _) :: l => pairB i x l && pairsB (i + 1) l
/-- Behind the last effect that is waited for. -/
def loOf (mask : Nat) : Nat → List AOper → Nat → Nat
  | _, [], r => r
  | i, x :: l, r => loOf mask (i + 1) l (bif heavy x && mask.testBit i then i + 1 else r)
/-- The first effect that waits. -/
def hiOf (j : Nat) : Nat → List (AOper × Nat) → Nat
  | i, [] => i
  | i, (x, k) :: l => bif heavy x && k.testBit j then i else hiOf j (i + 1) l
def limits (all : List (AOper × Nat)) : Nat → List (AOper × Nat) → List (AOper × Nat × Nat)
  | _, [] => []
  | i, (x, k) :: l => (x, loOf k 0 (all.map (·.1)) 0, hiOf i 0 all) :: limits all (i + 1) l
def zipM : List AOper → List Nat → List (AOper × Nat)
  | x :: l, k :: ks => (x, k) :: zipM l ks
  | _, _ => []
/-- Every operation waits for such ahead of it alone. -/
def backB : Nat → List Oper → Bool
  | _, [] => true
  | i, o :: l => (o.after.toList.all fun e => !Region.binds .any e || decide (e.on < i)) && backB (i + 1) l
/-- A call that is hoped to be quiet. -/
def toQ (o : AOper) : AOper := match o.op with | .call f args => ⟨o.dst, .qcall f args, o.guard⟩ | _ => o
def drawOf (ops : Array Oper) (al : List AOper) : Option ACode :=
  let all := zipM al (masks ops.toList [])
  bif pairsB 0 all && backB 0 ops.toList then some (.draws (limits all 0 all)) else none
def compDraw (P : Program) (n : Nat) (ops : Array Oper) : Option ACode :=
  match compOpers P n ops ops.toList with
  | some al => match drawOf ops al with
    | some c => some c
    | none => drawOf ops (al.map toQ)
  | none => none

theorem drawOf_draws {ops : Array Oper} {al : List AOper} {ac : ACode} (h : drawOf ops al = some ac) : ∃ lim, ac = .draws lim := by
  unfold drawOf at h
  dsimp only at h
  cases hb : pairsB 0 (zipM al (masks ops.toList [])) && backB 0 ops.toList with
  | false => rw [hb] at h; cases h
  | true => rw [hb] at h; exact ⟨_, (Option.some.inj h).symm⟩
theorem compDraw_draws {P : Program} {n : Nat} {ops : Array Oper} {ac : ACode} (h : compDraw P n ops = some ac) : ∃ lim, ac = .draws lim := by
  unfold compDraw at h
  split at h
  · split at h
    · rename_i hc; cases h; exact drawOf_draws hc
    · exact drawOf_draws h
  · cases h
/-- Without a range over a function. -/
def ACode.noRF : ACode → Bool
  | .seq a b | .cond _ a b => a.noRF && b.noRF
  | .block _ c | .loop c => c.noRF
  | .rangeF .. => false
  | _ => true
/-- Code that is not covered. -/
def stuckCode : ACode := .cond (.const (.int .i64 0)) .skip .skip
def comp (P : Program) (n : Nat) : Code → Option ACode
  | .skip => some .skip
  | .region _ ops false => (compOpers P n ops ops.toList).map .region
  | .region _ ops true => match compDraw P n ops with | some c => some c | none => some stuckCode
  | .seq a b => match comp P n a, comp P n b with
    | some x, some y => some (.seq x y)
    | _, _ => none
  | .cond c a b => match comp P n a, comp P n b with
    | some x, some y => some (.cond c x y)
    | _, _ => none
  | .block id c => (comp P n c).map (.block id)
  | .loop c => (comp P n c).map .loop
  | .exit id => some (.exit id)
  | .ret => some .ret
  | .rangeFunc g ps a c => match comp P n a, comp P n c with
    | some x, some y => bif (x.noRF && y.noRF) && ps.toList.all fun p => decide (p < n ∧ p < 1000000) then some (.rangeF g ps.toList n x y) else some stuckCode
    | _, _ => none
  | _ => some stuckCode

def compRes (P : Program) (n : Nat) : ResultVar → Option ARes
  | .tmp t => if t < n ∧ t < 1000000 then some (.tmp t) else none
  | .cell a t => if a < n ∧ a < 1000000 ∧ (P.underlying t).isSome then (szOf P t).map fun s => .cell a (if isAggB P t then s else 1) (isAggB P t) else none
def compRess (P : Program) (n : Nat) : List ResultVar → Option (List ARes)
  | [] => some []
  | r :: l => match compRes P n r, compRess P n l with
    | some a, some as => some (a :: as)
    | _, _ => none
def compFn (P : Program) (fn : Func) : Option AFn :=
  match fn.body with
  | some c => match comp P fn.ntmps c, compRess P fn.ntmps fn.results.toList with
    | some b, some r => some ⟨b, fn.ntmps, r⟩
    | _, _ => none
  | none => none
end Go.AM
