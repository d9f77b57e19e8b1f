/- The library's reflection on pointers to errors, at this program. -/
import Derived.Test.YtlaoookdegmnnaaGreatDoorProg
import Derived.Test.YtlaoookdegmnnaaGreatDoorAmRefl
import Derived.KernelRfl
namespace Go.Proofs.YtlaoookdegmnnaaGreatDoor
open Go Go.AM Go.Extern
set_option maxRecDepth 100000
def RF : Refl := ⟨2, 430, [(229, 233), (231, 229), (251, 255), (399, 251), (352, 354), (349, 351)]⟩
theorem nt286 : NoText Tryz.prog 286 (ReflectliteType.typeOf) := ⟨_, Tryz.func286, by kernel_rfl, by kernel_rfl, by kernel_rfl, by kernel_rfl⟩
theorem fTypeOf : ∀ x ∈ RF.ps, ∀ (v : Value) (w : World), (ReflectliteType.typeOf #[.iface x.1 v]).run Tryz.prog w = .ok (.iface RF.rt (.agg #[hdl RF x.1])) w := by
  intro x hx
  simp only [RF, List.mem_cons, List.not_mem_nil, or_false] at hx
  rcases hx with rfl | rfl | rfl | rfl | rfl | rfl
  · intro v w; kernel_rfl
  · intro v w; kernel_rfl
  · intro v w; kernel_rfl
  · intro v w; kernel_rfl
  · intro v w; kernel_rfl
  · intro v w; kernel_rfl
theorem nt254 : NoText Tryz.prog 254 (fun args => ReflectliteValue.unpack (args.getD 0 (.tuple #[]))) := ⟨_, Tryz.func254, by kernel_rfl, by kernel_rfl, by kernel_rfl, by kernel_rfl⟩
theorem fValueOf : ∀ x ∈ RF.ps, ∀ (p : Option Addr) (w : World), (ReflectliteValue.unpack (.iface x.1 (.pointer p))).run Tryz.prog w = .ok (.agg #[hdl RF x.1, .pointer (some ⟨w.heap.size, 0, none⟩), .int .u64 150]) (w.alloc (.cells #[.pointer p] x.1)) := by
  intro x hx
  simp only [RF, List.mem_cons, List.not_mem_nil, or_false] at hx
  rcases hx with rfl | rfl | rfl | rfl | rfl | rfl
  · intro p w; kernel_rfl
  · intro p w; kernel_rfl
  · intro p w; kernel_rfl
  · intro p w; kernel_rfl
  · intro p w; kernel_rfl
  · intro p w; kernel_rfl
theorem nt255 : NoText Tryz.prog 255 (ReflectliteValue.methodAny (ReflectliteValue.valueError "reflectlite.Value.Type" 0) fun t _ _ _ => ReflectliteType.toType t) := ⟨_, Tryz.func255, by kernel_rfl, by kernel_rfl, by kernel_rfl, by kernel_rfl⟩
theorem fVType : ∀ x ∈ RF.ps, ∀ (a : Addr) (w : World), ((ReflectliteValue.methodAny (ReflectliteValue.valueError "reflectlite.Value.Type" 0) fun t _ _ _ => ReflectliteType.toType t) #[.agg #[hdl RF x.1, .pointer (some a), .int .u64 150]]).run Tryz.prog w = .ok (.iface RF.rt (.agg #[hdl RF x.1])) w := by
  intro x hx
  simp only [RF, List.mem_cons, List.not_mem_nil, or_false] at hx
  rcases hx with rfl | rfl | rfl | rfl | rfl | rfl
  · intro a w; kernel_rfl
  · intro a w; kernel_rfl
  · intro a w; kernel_rfl
  · intro a w; kernel_rfl
  · intro a w; kernel_rfl
  · intro a w; kernel_rfl
theorem rlm (z : Sem Value) (h : TypeId → Addr → Nat → Nat → Sem Value) (v : Value) : ReflectliteValue.method z h #[v] = (do match ← ReflectliteValue.parts v with | none => z | some (t, a, fl) => h t a fl (fl % 32)) := rfl
theorem parts229_150 (a : Addr) (w : World) : (ReflectliteValue.parts (.agg #[.pointer (some ⟨2, 229, none⟩), .pointer (some a), .int .u64 150])).run Tryz.prog w = .ok (some (229, a, 150)) w := by kernel_rfl
theorem parts229_406 (a : Addr) (w : World) : (ReflectliteValue.parts (.agg #[.pointer (some ⟨2, 229, none⟩), .pointer (some a), .int .u64 406])).run Tryz.prog w = .ok (some (229, a, 406)) w := by kernel_rfl
theorem parts231_150 (a : Addr) (w : World) : (ReflectliteValue.parts (.agg #[.pointer (some ⟨2, 231, none⟩), .pointer (some a), .int .u64 150])).run Tryz.prog w = .ok (some (231, a, 150)) w := by kernel_rfl
theorem parts231_406 (a : Addr) (w : World) : (ReflectliteValue.parts (.agg #[.pointer (some ⟨2, 231, none⟩), .pointer (some a), .int .u64 406])).run Tryz.prog w = .ok (some (231, a, 406)) w := by kernel_rfl
theorem parts251_150 (a : Addr) (w : World) : (ReflectliteValue.parts (.agg #[.pointer (some ⟨2, 251, none⟩), .pointer (some a), .int .u64 150])).run Tryz.prog w = .ok (some (251, a, 150)) w := by kernel_rfl
theorem parts251_406 (a : Addr) (w : World) : (ReflectliteValue.parts (.agg #[.pointer (some ⟨2, 251, none⟩), .pointer (some a), .int .u64 406])).run Tryz.prog w = .ok (some (251, a, 406)) w := by kernel_rfl
theorem parts399_150 (a : Addr) (w : World) : (ReflectliteValue.parts (.agg #[.pointer (some ⟨2, 399, none⟩), .pointer (some a), .int .u64 150])).run Tryz.prog w = .ok (some (399, a, 150)) w := by kernel_rfl
theorem parts399_406 (a : Addr) (w : World) : (ReflectliteValue.parts (.agg #[.pointer (some ⟨2, 399, none⟩), .pointer (some a), .int .u64 406])).run Tryz.prog w = .ok (some (399, a, 406)) w := by kernel_rfl
theorem parts352_150 (a : Addr) (w : World) : (ReflectliteValue.parts (.agg #[.pointer (some ⟨2, 352, none⟩), .pointer (some a), .int .u64 150])).run Tryz.prog w = .ok (some (352, a, 150)) w := by kernel_rfl
theorem parts352_406 (a : Addr) (w : World) : (ReflectliteValue.parts (.agg #[.pointer (some ⟨2, 352, none⟩), .pointer (some a), .int .u64 406])).run Tryz.prog w = .ok (some (352, a, 406)) w := by kernel_rfl
theorem parts349_150 (a : Addr) (w : World) : (ReflectliteValue.parts (.agg #[.pointer (some ⟨2, 349, none⟩), .pointer (some a), .int .u64 150])).run Tryz.prog w = .ok (some (349, a, 150)) w := by kernel_rfl
theorem parts349_406 (a : Addr) (w : World) : (ReflectliteValue.parts (.agg #[.pointer (some ⟨2, 349, none⟩), .pointer (some a), .int .u64 406])).run Tryz.prog w = .ok (some (349, a, 406)) w := by kernel_rfl
theorem nt256 : NoText Tryz.prog 256 (ReflectliteValue.method (ReflectliteValue.valueError "reflectlite.Value.IsNil" 0) ReflectliteValue.isNil) := ⟨_, Tryz.func256, by kernel_rfl, by kernel_rfl, by kernel_rfl, by kernel_rfl⟩
theorem fIsNil : ∀ x ∈ RF.ps, ∀ (a : Addr) (w : World) (q : Option Addr), w.cell? a = some (.pointer q) → (ReflectliteValue.method (ReflectliteValue.valueError "reflectlite.Value.IsNil" 0) ReflectliteValue.isNil #[.agg #[hdl RF x.1, .pointer (some a), .int .u64 150]]).run Tryz.prog w = .ok (.bool q.isNone) w := by
  intro x hx
  simp only [RF, List.mem_cons, List.not_mem_nil, or_false] at hx
  rcases hx with rfl | rfl | rfl | rfl | rfl | rfl
  · intro a w q ha; rw [rlm]; simp only [hdl, RF, Sem.run_bind, parts229_150, Result.andThen]; cases q <;> simp [ReflectliteValue.isNil, loadVar, isAgg, underlying, Tryz.underlying229, ha, Result.andThen]
  · intro a w q ha; rw [rlm]; simp only [hdl, RF, Sem.run_bind, parts231_150, Result.andThen]; cases q <;> simp [ReflectliteValue.isNil, loadVar, isAgg, underlying, Tryz.underlying231, ha, Result.andThen]
  · intro a w q ha; rw [rlm]; simp only [hdl, RF, Sem.run_bind, parts251_150, Result.andThen]; cases q <;> simp [ReflectliteValue.isNil, loadVar, isAgg, underlying, Tryz.underlying251, ha, Result.andThen]
  · intro a w q ha; rw [rlm]; simp only [hdl, RF, Sem.run_bind, parts399_150, Result.andThen]; cases q <;> simp [ReflectliteValue.isNil, loadVar, isAgg, underlying, Tryz.underlying399, ha, Result.andThen]
  · intro a w q ha; rw [rlm]; simp only [hdl, RF, Sem.run_bind, parts352_150, Result.andThen]; cases q <;> simp [ReflectliteValue.isNil, loadVar, isAgg, underlying, Tryz.underlying352, ha, Result.andThen]
  · intro a w q ha; rw [rlm]; simp only [hdl, RF, Sem.run_bind, parts349_150, Result.andThen]; cases q <;> simp [ReflectliteValue.isNil, loadVar, isAgg, underlying, Tryz.underlying349, ha, Result.andThen]
theorem nt344 : NoText Tryz.prog 344 (ReflectliteValue.method (ReflectliteValue.valueError "reflectlite.Value.Elem" 0) ReflectliteValue.elem) := ⟨_, Tryz.func344, by kernel_rfl, by kernel_rfl, by kernel_rfl, by kernel_rfl⟩
theorem elemOf231 (w : World) : (Rtype.elem? 231).run Tryz.prog w = .ok (some 229) w := by kernel_rfl
theorem mk229 (p : Addr) (w : World) : (ReflectliteValue.mk 229 p ReflectliteValue.flagAddr).run Tryz.prog w = .ok (.agg #[.pointer (some ⟨2, 229, none⟩), .pointer (some p), .int .u64 406]) w := by kernel_rfl
theorem elemOf399 (w : World) : (Rtype.elem? 399).run Tryz.prog w = .ok (some 251) w := by kernel_rfl
theorem mk251 (p : Addr) (w : World) : (ReflectliteValue.mk 251 p ReflectliteValue.flagAddr).run Tryz.prog w = .ok (.agg #[.pointer (some ⟨2, 251, none⟩), .pointer (some p), .int .u64 406]) w := by kernel_rfl
theorem fVElem : ∀ x ∈ RF.ps, (elemP x.2 RF.ps).isSome = true → ∀ (a q : Addr) (w : World), w.cell? a = some (.pointer (some q)) → (ReflectliteValue.method (ReflectliteValue.valueError "reflectlite.Value.Elem" 0) ReflectliteValue.elem #[.agg #[hdl RF x.1, .pointer (some a), .int .u64 150]]).run Tryz.prog w = .ok (.agg #[hdl RF x.2, .pointer (some q), .int .u64 406]) w := by
  intro x hx
  simp only [RF, List.mem_cons, List.not_mem_nil, or_false] at hx
  rcases hx with rfl | rfl | rfl | rfl | rfl | rfl
  · intro h; exact absurd h (by decide)
  · intro _ a q w ha; rw [rlm]; simp only [hdl, RF, Sem.run_bind, parts231_150, Result.andThen]; simp [ReflectliteValue.elem, loadVar, isAgg, underlying, Tryz.underlying231, ha, Result.andThen, elemOf231, mk229]
  · intro h; exact absurd h (by decide)
  · intro _ a q w ha; rw [rlm]; simp only [hdl, RF, Sem.run_bind, parts399_150, Result.andThen]; simp [ReflectliteValue.elem, loadVar, isAgg, underlying, Tryz.underlying399, ha, Result.andThen, elemOf399, mk251]
  · intro h; exact absurd h (by decide)
  · intro h; exact absurd h (by decide)
theorem nt345 : NoText Tryz.prog 345 (ReflectliteValue.set) := ⟨_, Tryz.func345, by kernel_rfl, by kernel_rfl, by kernel_rfl, by kernel_rfl⟩
theorem rls (v x : Value) : ReflectliteValue.set #[v, x] = (do
    let (some (dst, a, fl), some (src, b, _)) := (← ReflectliteValue.parts v, ← ReflectliteValue.parts x)
      | unsupported (.noEntry "extern/(internal/reflectlite.Value).Set.zeroValue")
    if fl / ReflectliteValue.flagAddr % 2 == 0 then unsupported (.noEntry "extern/(internal/reflectlite.Value).Set.unaddressable")
    let val ← loadVar src b
    if ← Rtype.directlyAssignable dst src then storeVar dst a val
    else if ← Rtype.implements dst src then
      if (← Rtype.kind src) == 20 then
        match val with
        | .nilIface => unsupported (.noEntry "extern/reflectlite: a nil value of one interface type handed on as a value of another")
        | _ => storeVar dst a val
      else storeVar dst a (.iface src val)
    else panicString ("reflectlite.Set: value of type " ++ (← Rtype.spelt src) ++ " is not assignable to type " ++ (← Rtype.spelt dst))
    pure (.tuple #[])) := rfl
theorem direct229 (w : World) : (Rtype.directlyAssignable 229 229).run Tryz.prog w = .ok true w := by kernel_rfl
theorem size229 (w : World) : (sizeOf 229).run Tryz.prog w = .ok 1 w := by kernel_rfl
theorem direct231 (w : World) : (Rtype.directlyAssignable 231 231).run Tryz.prog w = .ok true w := by kernel_rfl
theorem size231 (w : World) : (sizeOf 231).run Tryz.prog w = .ok 1 w := by kernel_rfl
theorem direct251 (w : World) : (Rtype.directlyAssignable 251 251).run Tryz.prog w = .ok true w := by kernel_rfl
theorem size251 (w : World) : (sizeOf 251).run Tryz.prog w = .ok 1 w := by kernel_rfl
theorem direct399 (w : World) : (Rtype.directlyAssignable 399 399).run Tryz.prog w = .ok true w := by kernel_rfl
theorem size399 (w : World) : (sizeOf 399).run Tryz.prog w = .ok 1 w := by kernel_rfl
theorem direct352 (w : World) : (Rtype.directlyAssignable 352 352).run Tryz.prog w = .ok true w := by kernel_rfl
theorem size352 (w : World) : (sizeOf 352).run Tryz.prog w = .ok 1 w := by kernel_rfl
theorem direct349 (w : World) : (Rtype.directlyAssignable 349 349).run Tryz.prog w = .ok true w := by kernel_rfl
theorem size349 (w : World) : (sizeOf 349).run Tryz.prog w = .ok 1 w := by kernel_rfl
theorem fVSet : ∀ x ∈ RF.ps, ∀ (a b : Addr) (w : World) (v old : Value), w.cell? b = some v → w.cell? a = some old → w.frozen? a = false → v.oneCell' = true → (ReflectliteValue.set #[.agg #[hdl RF x.1, .pointer (some a), .int .u64 406], .agg #[hdl RF x.1, .pointer (some b), .int .u64 150]]).run Tryz.prog w = .ok (.tuple #[]) (w.setCell a v) := by
  intro x hx
  simp only [RF, List.mem_cons, List.not_mem_nil, or_false] at hx
  rcases hx with rfl | rfl | rfl | rfl | rfl | rfl
  · intro a b w v old hb ha hf h1; rw [rls]; simp only [hdl, RF, Sem.run_bind, parts229_406, parts229_150, Result.andThen]; simp [ReflectliteValue.flagAddr, loadVar, isAgg, underlying, Tryz.underlying229, hb, Result.andThen, direct229, storeVar, cells_one h1, storeCells, Addr.add]; rw [run_store Tryz.prog w a _ _ h1]; simp [ha, hf]
  · intro a b w v old hb ha hf h1; rw [rls]; simp only [hdl, RF, Sem.run_bind, parts231_406, parts231_150, Result.andThen]; simp [ReflectliteValue.flagAddr, loadVar, isAgg, underlying, Tryz.underlying231, hb, Result.andThen, direct231, storeVar, cells_one h1, storeCells, Addr.add]; rw [run_store Tryz.prog w a _ _ h1]; simp [ha, hf]
  · intro a b w v old hb ha hf h1; rw [rls]; simp only [hdl, RF, Sem.run_bind, parts251_406, parts251_150, Result.andThen]; simp [ReflectliteValue.flagAddr, loadVar, isAgg, underlying, Tryz.underlying251, hb, Result.andThen, direct251, storeVar, cells_one h1, storeCells, Addr.add]; rw [run_store Tryz.prog w a _ _ h1]; simp [ha, hf]
  · intro a b w v old hb ha hf h1; rw [rls]; simp only [hdl, RF, Sem.run_bind, parts399_406, parts399_150, Result.andThen]; simp [ReflectliteValue.flagAddr, loadVar, isAgg, underlying, Tryz.underlying399, hb, Result.andThen, direct399, storeVar, cells_one h1, storeCells, Addr.add]; rw [run_store Tryz.prog w a _ _ h1]; simp [ha, hf]
  · intro a b w v old hb ha hf h1; rw [rls]; simp only [hdl, RF, Sem.run_bind, parts352_406, parts352_150, Result.andThen]; simp [ReflectliteValue.flagAddr, loadVar, isAgg, underlying, Tryz.underlying352, hb, Result.andThen, direct352, storeVar, cells_one h1, storeCells, Addr.add]; rw [run_store Tryz.prog w a _ _ h1]; simp [ha, hf]
  · intro a b w v old hb ha hf h1; rw [rls]; simp only [hdl, RF, Sem.run_bind, parts349_406, parts349_150, Result.andThen]; simp [ReflectliteValue.flagAddr, loadVar, isAgg, underlying, Tryz.underlying349, hb, Result.andThen, direct349, storeVar, cells_one h1, storeCells, Addr.add]; rw [run_store Tryz.prog w a _ _ h1]; simp [ha, hf]
theorem nt430 : NoText Tryz.prog 430 (ReflectliteType.abiMethod fun t => do pure (.int .u8 (← Rtype.kind t))) := ⟨_, Tryz.func430, by kernel_rfl, by kernel_rfl, by kernel_rfl, by kernel_rfl⟩
theorem fKind : ∀ x ∈ RF.ps, ∀ (w : World), ((ReflectliteType.abiMethod fun t => do pure (.int .u8 (← Rtype.kind t))) #[hdl RF x.1]).run Tryz.prog w = .ok (.int .u8 22) w := by
  intro x hx
  simp only [RF, List.mem_cons, List.not_mem_nil, or_false] at hx
  rcases hx with rfl | rfl | rfl | rfl | rfl | rfl
  · intro w; kernel_rfl
  · intro w; kernel_rfl
  · intro w; kernel_rfl
  · intro w; kernel_rfl
  · intro w; kernel_rfl
  · intro w; kernel_rfl
theorem nt450 : NoText Tryz.prog 450 (ReflectliteType.method ReflectliteType.elem) := ⟨_, Tryz.func450, by kernel_rfl, by kernel_rfl, by kernel_rfl, by kernel_rfl⟩
theorem fTElem : ∀ x ∈ RF.ps, ∀ (w : World), (ReflectliteType.method ReflectliteType.elem #[.agg #[hdl RF x.1]]).run Tryz.prog w = .ok (.iface RF.rt (.agg #[hdl RF x.2])) w := by
  intro x hx
  simp only [RF, List.mem_cons, List.not_mem_nil, or_false] at hx
  rcases hx with rfl | rfl | rfl | rfl | rfl | rfl
  · intro w; kernel_rfl
  · intro w; kernel_rfl
  · intro w; kernel_rfl
  · intro w; kernel_rfl
  · intro w; kernel_rfl
  · intro w; kernel_rfl
theorem nt451 : NoText Tryz.prog 451 (ReflectliteType.relation "Implements" ReflectliteType.implements_) := ⟨_, Tryz.func451, by kernel_rfl, by kernel_rfl, by kernel_rfl, by kernel_rfl⟩
def tImpl : List (TypeId × TypeId × Bool) := [(229, 119, true), (251, 119, true), (352, 119, true), (349, 119, true)]
theorem ftImpl : ∀ x ∈ tImpl, ∀ (w : World), ((ReflectliteType.relation "Implements" ReflectliteType.implements_) #[.agg #[hdl RF x.1], .iface RF.rt (.agg #[hdl RF x.2.1])]).run Tryz.prog w = .ok (.bool x.2.2) w := by
  intro x hx
  simp only [tImpl, List.mem_cons, List.not_mem_nil, or_false] at hx
  rcases hx with rfl | rfl | rfl | rfl
  · intro w; kernel_rfl
  · intro w; kernel_rfl
  · intro w; kernel_rfl
  · intro w; kernel_rfl
theorem nt448 : NoText Tryz.prog 448 (ReflectliteType.relation "AssignableTo" ReflectliteType.assignableTo) := ⟨_, Tryz.func448, by kernel_rfl, by kernel_rfl, by kernel_rfl, by kernel_rfl⟩
def tAssign : List (TypeId × TypeId × Bool) := [(229, 229, true), (229, 251, false), (251, 229, false), (251, 251, true), (352, 229, false), (352, 251, false), (349, 229, false), (349, 251, false)]
theorem ftAssign : ∀ x ∈ tAssign, ∀ (w : World), ((ReflectliteType.relation "AssignableTo" ReflectliteType.assignableTo) #[.agg #[hdl RF x.1], .iface RF.rt (.agg #[hdl RF x.2.1])]).run Tryz.prog w = .ok (.bool x.2.2) w := by
  intro x hx
  simp only [tAssign, List.mem_cons, List.not_mem_nil, or_false] at hx
  rcases hx with rfl | rfl | rfl | rfl | rfl | rfl | rfl | rfl
  · intro w; kernel_rfl
  · intro w; kernel_rfl
  · intro w; kernel_rfl
  · intro w; kernel_rfl
  · intro w; kernel_rfl
  · intro w; kernel_rfl
  · intro w; kernel_rfl
  · intro w; kernel_rfl
theorem nt449 : NoText Tryz.prog 449 (ReflectliteType.method fun t => do Rtype.noPackHeld "Comparable" t; pure (.bool (← typeInfo t).comparable)) := ⟨_, Tryz.func449, by kernel_rfl, by kernel_rfl, by kernel_rfl, by kernel_rfl⟩
theorem fCmp : ∀ x ∈ RF.ps, ∀ (w : World), ((ReflectliteType.method fun t => do Rtype.noPackHeld "Comparable" t; pure (.bool (← typeInfo t).comparable)) #[.agg #[hdl RF x.1]]).run Tryz.prog w = .ok (.bool true) w := by
  intro x hx
  simp only [RF, List.mem_cons, List.not_mem_nil, or_false] at hx
  rcases hx with rfl | rfl | rfl | rfl | rfl | rfl
  · intro w; kernel_rfl
  · intro w; kernel_rfl
  · intro w; kernel_rfl
  · intro w; kernel_rfl
  · intro w; kernel_rfl
  · intro w; kernel_rfl
def reflX : Calls' := fun f args A => match f with
  | 286 => typeOfX RF args A
  | 254 => valueOfX RF args A
  | 255 => vtypeX RF args A
  | 256 => visNilX RF args A
  | 344 => velemX RF args A
  | 345 => vsetX RF args A
  | 430 => kindX RF args A
  | 450 => telemX RF args A
  | 451 => relX RF tImpl args A
  | 448 => relX RF tAssign args A
  | 449 => comparableX RF args A
  | _ => none
theorem reflX_ok {M0 : Mu} : GSound Tryz.prog M0 reflX := fun f args A r B h => by
  unfold reflX at h
  split at h
  · exact .inr fun F m w cargs _ R hc => typeOf_ok nt286 fTypeOf h R hc
  · exact .inr fun F m w cargs _ R hc => valueOf_ok nt254 fValueOf h R hc
  · exact .inr fun F m w cargs _ R hc => vtype_ok nt255 fVType h R hc
  · exact .inr fun F m w cargs _ R hc => visNil_ok nt256 fIsNil h R hc
  · exact .inr fun F m w cargs _ R hc => velem_ok nt344 fVElem h R hc
  · exact .inr fun F m w cargs _ R hc => vset_ok nt345 fVSet h R hc
  · exact .inr fun F m w cargs _ R hc => kind_ok nt430 fKind h R hc
  · exact .inr fun F m w cargs _ R hc => telem_ok nt450 fTElem h R hc
  · exact .inr fun F m w cargs _ R hc => rel_ok nt451 ftImpl h R hc
  · exact .inr fun F m w cargs _ R hc => rel_ok nt448 ftAssign h R hc
  · exact .inr fun F m w cargs _ R hc => comparable_ok nt449 fCmp h R hc
  · cases h
end Go.Proofs.YtlaoookdegmnnaaGreatDoor
