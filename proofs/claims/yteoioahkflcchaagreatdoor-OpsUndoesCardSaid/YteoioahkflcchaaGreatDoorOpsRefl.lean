/- The library's reflection on pointers to errors, at this program. -/
import Derived.Test.YteoioahkflcchaaGreatDoorProg
import Derived.Test.YteoioahkflcchaaGreatDoorAmRefl
import Derived.KernelRfl
namespace Go.Proofs.YteoioahkflcchaaGreatDoor
open Go Go.AM Go.Extern
set_option maxRecDepth 100000
def RF : Refl := ⟨9, 148, [(77, 81), (79, 77), (98, 102), (103, 98), (142, 144), (124, 126)]⟩
theorem nt96 : NoText Tryz.prog 96 (ReflectliteType.typeOf) := ⟨_, Tryz.func96, by kernel_rfl, by kernel_rfl, by kernel_rfl, by kernel_rfl⟩
theorem fTypeOf : ∀ x ∈ RF.ps, ∀ (v : Value) (w : World), (ReflectliteType.typeOf #[.iface x.1 v]).run Tryz.prog w = .ok (.iface RF.rt (.agg #[hdl RF x.1])) w := by
  intro x hx
  simp only [RF, List.mem_cons, List.not_mem_nil, or_false] at hx
  rcases hx with rfl | rfl | rfl | rfl | rfl | rfl
  · intro v w; kernel_rfl
  · intro v w; kernel_rfl
  · intro v w; kernel_rfl
  · intro v w; kernel_rfl
  · intro v w; kernel_rfl
  · intro v w; kernel_rfl
theorem nt73 : NoText Tryz.prog 73 (fun args => ReflectliteValue.unpack (args.getD 0 (.tuple #[]))) := ⟨_, Tryz.func73, by kernel_rfl, by kernel_rfl, by kernel_rfl, by kernel_rfl⟩
theorem fValueOf : ∀ x ∈ RF.ps, ∀ (p : Option Addr) (w : World), (ReflectliteValue.unpack (.iface x.1 (.pointer p))).run Tryz.prog w = .ok (.agg #[hdl RF x.1, .pointer (some ⟨w.heap.size, 0, none⟩), .int .u64 150]) (w.alloc (.cells #[.pointer p] x.1)) := by
  intro x hx
  simp only [RF, List.mem_cons, List.not_mem_nil, or_false] at hx
  rcases hx with rfl | rfl | rfl | rfl | rfl | rfl
  · intro p w; kernel_rfl
  · intro p w; kernel_rfl
  · intro p w; kernel_rfl
  · intro p w; kernel_rfl
  · intro p w; kernel_rfl
  · intro p w; kernel_rfl
theorem nt74 : NoText Tryz.prog 74 (ReflectliteValue.methodAny (ReflectliteValue.valueError "reflectlite.Value.Type" 0) fun t _ _ _ => ReflectliteType.toType t) := ⟨_, Tryz.func74, by kernel_rfl, by kernel_rfl, by kernel_rfl, by kernel_rfl⟩
theorem fVType : ∀ x ∈ RF.ps, ∀ (a : Addr) (w : World), ((ReflectliteValue.methodAny (ReflectliteValue.valueError "reflectlite.Value.Type" 0) fun t _ _ _ => ReflectliteType.toType t) #[.agg #[hdl RF x.1, .pointer (some a), .int .u64 150]]).run Tryz.prog w = .ok (.iface RF.rt (.agg #[hdl RF x.1])) w := by
  intro x hx
  simp only [RF, List.mem_cons, List.not_mem_nil, or_false] at hx
  rcases hx with rfl | rfl | rfl | rfl | rfl | rfl
  · intro a w; kernel_rfl
  · intro a w; kernel_rfl
  · intro a w; kernel_rfl
  · intro a w; kernel_rfl
  · intro a w; kernel_rfl
  · intro a w; kernel_rfl
theorem rlm (z : Sem Value) (h : TypeId → Addr → Nat → Nat → Sem Value) (v : Value) : ReflectliteValue.method z h #[v] = (do match ← ReflectliteValue.parts v with | none => z | some (t, a, fl) => h t a fl (fl % 32)) := rfl
theorem parts77_150 (a : Addr) (w : World) : (ReflectliteValue.parts (.agg #[.pointer (some ⟨9, 77, none⟩), .pointer (some a), .int .u64 150])).run Tryz.prog w = .ok (some (77, a, 150)) w := by kernel_rfl
theorem parts77_406 (a : Addr) (w : World) : (ReflectliteValue.parts (.agg #[.pointer (some ⟨9, 77, none⟩), .pointer (some a), .int .u64 406])).run Tryz.prog w = .ok (some (77, a, 406)) w := by kernel_rfl
theorem parts79_150 (a : Addr) (w : World) : (ReflectliteValue.parts (.agg #[.pointer (some ⟨9, 79, none⟩), .pointer (some a), .int .u64 150])).run Tryz.prog w = .ok (some (79, a, 150)) w := by kernel_rfl
theorem parts79_406 (a : Addr) (w : World) : (ReflectliteValue.parts (.agg #[.pointer (some ⟨9, 79, none⟩), .pointer (some a), .int .u64 406])).run Tryz.prog w = .ok (some (79, a, 406)) w := by kernel_rfl
theorem parts98_150 (a : Addr) (w : World) : (ReflectliteValue.parts (.agg #[.pointer (some ⟨9, 98, none⟩), .pointer (some a), .int .u64 150])).run Tryz.prog w = .ok (some (98, a, 150)) w := by kernel_rfl
theorem parts98_406 (a : Addr) (w : World) : (ReflectliteValue.parts (.agg #[.pointer (some ⟨9, 98, none⟩), .pointer (some a), .int .u64 406])).run Tryz.prog w = .ok (some (98, a, 406)) w := by kernel_rfl
theorem parts103_150 (a : Addr) (w : World) : (ReflectliteValue.parts (.agg #[.pointer (some ⟨9, 103, none⟩), .pointer (some a), .int .u64 150])).run Tryz.prog w = .ok (some (103, a, 150)) w := by kernel_rfl
theorem parts103_406 (a : Addr) (w : World) : (ReflectliteValue.parts (.agg #[.pointer (some ⟨9, 103, none⟩), .pointer (some a), .int .u64 406])).run Tryz.prog w = .ok (some (103, a, 406)) w := by kernel_rfl
theorem parts142_150 (a : Addr) (w : World) : (ReflectliteValue.parts (.agg #[.pointer (some ⟨9, 142, none⟩), .pointer (some a), .int .u64 150])).run Tryz.prog w = .ok (some (142, a, 150)) w := by kernel_rfl
theorem parts142_406 (a : Addr) (w : World) : (ReflectliteValue.parts (.agg #[.pointer (some ⟨9, 142, none⟩), .pointer (some a), .int .u64 406])).run Tryz.prog w = .ok (some (142, a, 406)) w := by kernel_rfl
theorem parts124_150 (a : Addr) (w : World) : (ReflectliteValue.parts (.agg #[.pointer (some ⟨9, 124, none⟩), .pointer (some a), .int .u64 150])).run Tryz.prog w = .ok (some (124, a, 150)) w := by kernel_rfl
theorem parts124_406 (a : Addr) (w : World) : (ReflectliteValue.parts (.agg #[.pointer (some ⟨9, 124, none⟩), .pointer (some a), .int .u64 406])).run Tryz.prog w = .ok (some (124, a, 406)) w := by kernel_rfl
theorem nt75 : NoText Tryz.prog 75 (ReflectliteValue.method (ReflectliteValue.valueError "reflectlite.Value.IsNil" 0) ReflectliteValue.isNil) := ⟨_, Tryz.func75, by kernel_rfl, by kernel_rfl, by kernel_rfl, by kernel_rfl⟩
theorem fIsNil : ∀ x ∈ RF.ps, ∀ (a : Addr) (w : World) (q : Option Addr), w.cell? a = some (.pointer q) → (ReflectliteValue.method (ReflectliteValue.valueError "reflectlite.Value.IsNil" 0) ReflectliteValue.isNil #[.agg #[hdl RF x.1, .pointer (some a), .int .u64 150]]).run Tryz.prog w = .ok (.bool q.isNone) w := by
  intro x hx
  simp only [RF, List.mem_cons, List.not_mem_nil, or_false] at hx
  rcases hx with rfl | rfl | rfl | rfl | rfl | rfl
  · intro a w q ha; rw [rlm]; simp only [hdl, RF, Sem.run_bind, parts77_150, Result.andThen]; cases q <;> simp [ReflectliteValue.isNil, loadVar, isAgg, underlying, Tryz.underlying77, ha, Result.andThen]
  · intro a w q ha; rw [rlm]; simp only [hdl, RF, Sem.run_bind, parts79_150, Result.andThen]; cases q <;> simp [ReflectliteValue.isNil, loadVar, isAgg, underlying, Tryz.underlying79, ha, Result.andThen]
  · intro a w q ha; rw [rlm]; simp only [hdl, RF, Sem.run_bind, parts98_150, Result.andThen]; cases q <;> simp [ReflectliteValue.isNil, loadVar, isAgg, underlying, Tryz.underlying98, ha, Result.andThen]
  · intro a w q ha; rw [rlm]; simp only [hdl, RF, Sem.run_bind, parts103_150, Result.andThen]; cases q <;> simp [ReflectliteValue.isNil, loadVar, isAgg, underlying, Tryz.underlying103, ha, Result.andThen]
  · intro a w q ha; rw [rlm]; simp only [hdl, RF, Sem.run_bind, parts142_150, Result.andThen]; cases q <;> simp [ReflectliteValue.isNil, loadVar, isAgg, underlying, Tryz.underlying142, ha, Result.andThen]
  · intro a w q ha; rw [rlm]; simp only [hdl, RF, Sem.run_bind, parts124_150, Result.andThen]; cases q <;> simp [ReflectliteValue.isNil, loadVar, isAgg, underlying, Tryz.underlying124, ha, Result.andThen]
theorem nt97 : NoText Tryz.prog 97 (ReflectliteValue.method (ReflectliteValue.valueError "reflectlite.Value.Elem" 0) ReflectliteValue.elem) := ⟨_, Tryz.func97, by kernel_rfl, by kernel_rfl, by kernel_rfl, by kernel_rfl⟩
theorem elemOf79 (w : World) : (Rtype.elem? 79).run Tryz.prog w = .ok (some 77) w := by kernel_rfl
theorem mk77 (p : Addr) (w : World) : (ReflectliteValue.mk 77 p ReflectliteValue.flagAddr).run Tryz.prog w = .ok (.agg #[.pointer (some ⟨9, 77, none⟩), .pointer (some p), .int .u64 406]) w := by kernel_rfl
theorem elemOf103 (w : World) : (Rtype.elem? 103).run Tryz.prog w = .ok (some 98) w := by kernel_rfl
theorem mk98 (p : Addr) (w : World) : (ReflectliteValue.mk 98 p ReflectliteValue.flagAddr).run Tryz.prog w = .ok (.agg #[.pointer (some ⟨9, 98, none⟩), .pointer (some p), .int .u64 406]) w := by kernel_rfl
theorem fVElem : ∀ x ∈ RF.ps, (elemP x.2 RF.ps).isSome = true → ∀ (a q : Addr) (w : World), w.cell? a = some (.pointer (some q)) → (ReflectliteValue.method (ReflectliteValue.valueError "reflectlite.Value.Elem" 0) ReflectliteValue.elem #[.agg #[hdl RF x.1, .pointer (some a), .int .u64 150]]).run Tryz.prog w = .ok (.agg #[hdl RF x.2, .pointer (some q), .int .u64 406]) w := by
  intro x hx
  simp only [RF, List.mem_cons, List.not_mem_nil, or_false] at hx
  rcases hx with rfl | rfl | rfl | rfl | rfl | rfl
  · intro h; exact absurd h (by decide)
  · intro _ a q w ha; rw [rlm]; simp only [hdl, RF, Sem.run_bind, parts79_150, Result.andThen]; simp [ReflectliteValue.elem, loadVar, isAgg, underlying, Tryz.underlying79, ha, Result.andThen, elemOf79, mk77]
  · intro h; exact absurd h (by decide)
  · intro _ a q w ha; rw [rlm]; simp only [hdl, RF, Sem.run_bind, parts103_150, Result.andThen]; simp [ReflectliteValue.elem, loadVar, isAgg, underlying, Tryz.underlying103, ha, Result.andThen, elemOf103, mk98]
  · intro h; exact absurd h (by decide)
  · intro h; exact absurd h (by decide)
theorem nt98 : NoText Tryz.prog 98 (ReflectliteValue.set) := ⟨_, Tryz.func98, by kernel_rfl, by kernel_rfl, by kernel_rfl, by kernel_rfl⟩
theorem rls (v x : Value) : ReflectliteValue.set #[v, x] = (do
    let (some (dst, a, fl), some (src, b, _)) := (← ReflectliteValue.parts v, ← ReflectliteValue.parts x)
      | unsupported (.noEntry "extern/(internal/reflectlite.Value).Set.zeroValue")
    if fl / ReflectliteValue.flagAddr % 2 == 0 then unsupported (.noEntry "extern/(internal/reflectlite.Value).Set.unaddressable")
    let val ← loadVar src b
    if ← Rtype.directlyAssignable dst src then storeVar dst a val
    else if ← Rtype.implements dst src then
      if (← Rtype.kind src) == 20 then
        match val with
        | .nilIface => unsupported (.noEntry "extern/reflectlite: a nil value of one interface type handed on as a value of another")
        | _ => storeVar dst a val
      else storeVar dst a (.iface src val)
    else panicString ("reflectlite.Set: value of type " ++ (← Rtype.spelt src) ++ " is not assignable to type " ++ (← Rtype.spelt dst))
    pure (.tuple #[])) := rfl
theorem direct77 (w : World) : (Rtype.directlyAssignable 77 77).run Tryz.prog w = .ok true w := by kernel_rfl
theorem size77 (w : World) : (sizeOf 77).run Tryz.prog w = .ok 1 w := by kernel_rfl
theorem direct79 (w : World) : (Rtype.directlyAssignable 79 79).run Tryz.prog w = .ok true w := by kernel_rfl
theorem size79 (w : World) : (sizeOf 79).run Tryz.prog w = .ok 1 w := by kernel_rfl
theorem direct98 (w : World) : (Rtype.directlyAssignable 98 98).run Tryz.prog w = .ok true w := by kernel_rfl
theorem size98 (w : World) : (sizeOf 98).run Tryz.prog w = .ok 1 w := by kernel_rfl
theorem direct103 (w : World) : (Rtype.directlyAssignable 103 103).run Tryz.prog w = .ok true w := by kernel_rfl
theorem size103 (w : World) : (sizeOf 103).run Tryz.prog w = .ok 1 w := by kernel_rfl
theorem direct142 (w : World) : (Rtype.directlyAssignable 142 142).run Tryz.prog w = .ok true w := by kernel_rfl
theorem size142 (w : World) : (sizeOf 142).run Tryz.prog w = .ok 1 w := by kernel_rfl
theorem direct124 (w : World) : (Rtype.directlyAssignable 124 124).run Tryz.prog w = .ok true w := by kernel_rfl
theorem size124 (w : World) : (sizeOf 124).run Tryz.prog w = .ok 1 w := by kernel_rfl
theorem fVSet : ∀ x ∈ RF.ps, ∀ (a b : Addr) (w : World) (v old : Value), w.cell? b = some v → w.cell? a = some old → w.frozen? a = false → v.oneCell' = true → (ReflectliteValue.set #[.agg #[hdl RF x.1, .pointer (some a), .int .u64 406], .agg #[hdl RF x.1, .pointer (some b), .int .u64 150]]).run Tryz.prog w = .ok (.tuple #[]) (w.setCell a v) := by
  intro x hx
  simp only [RF, List.mem_cons, List.not_mem_nil, or_false] at hx
  rcases hx with rfl | rfl | rfl | rfl | rfl | rfl
  · intro a b w v old hb ha hf h1; rw [rls]; simp only [hdl, RF, Sem.run_bind, parts77_406, parts77_150, Result.andThen]; simp [ReflectliteValue.flagAddr, loadVar, isAgg, underlying, Tryz.underlying77, hb, Result.andThen, direct77, storeVar, cells_one h1, storeCells, Addr.add]; rw [run_store Tryz.prog w a _ _ h1]; simp [ha, hf]
  · intro a b w v old hb ha hf h1; rw [rls]; simp only [hdl, RF, Sem.run_bind, parts79_406, parts79_150, Result.andThen]; simp [ReflectliteValue.flagAddr, loadVar, isAgg, underlying, Tryz.underlying79, hb, Result.andThen, direct79, storeVar, cells_one h1, storeCells, Addr.add]; rw [run_store Tryz.prog w a _ _ h1]; simp [ha, hf]
  · intro a b w v old hb ha hf h1; rw [rls]; simp only [hdl, RF, Sem.run_bind, parts98_406, parts98_150, Result.andThen]; simp [ReflectliteValue.flagAddr, loadVar, isAgg, underlying, Tryz.underlying98, hb, Result.andThen, direct98, storeVar, cells_one h1, storeCells, Addr.add]; rw [run_store Tryz.prog w a _ _ h1]; simp [ha, hf]
  · intro a b w v old hb ha hf h1; rw [rls]; simp only [hdl, RF, Sem.run_bind, parts103_406, parts103_150, Result.andThen]; simp [ReflectliteValue.flagAddr, loadVar, isAgg, underlying, Tryz.underlying103, hb, Result.andThen, direct103, storeVar, cells_one h1, storeCells, Addr.add]; rw [run_store Tryz.prog w a _ _ h1]; simp [ha, hf]
  · intro a b w v old hb ha hf h1; rw [rls]; simp only [hdl, RF, Sem.run_bind, parts142_406, parts142_150, Result.andThen]; simp [ReflectliteValue.flagAddr, loadVar, isAgg, underlying, Tryz.underlying142, hb, Result.andThen, direct142, storeVar, cells_one h1, storeCells, Addr.add]; rw [run_store Tryz.prog w a _ _ h1]; simp [ha, hf]
  · intro a b w v old hb ha hf h1; rw [rls]; simp only [hdl, RF, Sem.run_bind, parts124_406, parts124_150, Result.andThen]; simp [ReflectliteValue.flagAddr, loadVar, isAgg, underlying, Tryz.underlying124, hb, Result.andThen, direct124, storeVar, cells_one h1, storeCells, Addr.add]; rw [run_store Tryz.prog w a _ _ h1]; simp [ha, hf]
theorem nt156 : NoText Tryz.prog 156 (ReflectliteType.abiMethod fun t => do pure (.int .u8 (← Rtype.kind t))) := ⟨_, Tryz.func156, by kernel_rfl, by kernel_rfl, by kernel_rfl, by kernel_rfl⟩
theorem fKind : ∀ x ∈ RF.ps, ∀ (w : World), ((ReflectliteType.abiMethod fun t => do pure (.int .u8 (← Rtype.kind t))) #[hdl RF x.1]).run Tryz.prog w = .ok (.int .u8 22) w := by
  intro x hx
  simp only [RF, List.mem_cons, List.not_mem_nil, or_false] at hx
  rcases hx with rfl | rfl | rfl | rfl | rfl | rfl
  · intro w; kernel_rfl
  · intro w; kernel_rfl
  · intro w; kernel_rfl
  · intro w; kernel_rfl
  · intro w; kernel_rfl
  · intro w; kernel_rfl
theorem nt171 : NoText Tryz.prog 171 (ReflectliteType.method ReflectliteType.elem) := ⟨_, Tryz.func171, by kernel_rfl, by kernel_rfl, by kernel_rfl, by kernel_rfl⟩
theorem fTElem : ∀ x ∈ RF.ps, ∀ (w : World), (ReflectliteType.method ReflectliteType.elem #[.agg #[hdl RF x.1]]).run Tryz.prog w = .ok (.iface RF.rt (.agg #[hdl RF x.2])) w := by
  intro x hx
  simp only [RF, List.mem_cons, List.not_mem_nil, or_false] at hx
  rcases hx with rfl | rfl | rfl | rfl | rfl | rfl
  · intro w; kernel_rfl
  · intro w; kernel_rfl
  · intro w; kernel_rfl
  · intro w; kernel_rfl
  · intro w; kernel_rfl
  · intro w; kernel_rfl
theorem nt172 : NoText Tryz.prog 172 (ReflectliteType.relation "Implements" ReflectliteType.implements_) := ⟨_, Tryz.func172, by kernel_rfl, by kernel_rfl, by kernel_rfl, by kernel_rfl⟩
def tImpl : List (TypeId × TypeId × Bool) := [(77, 60, true), (98, 60, true), (142, 60, true), (124, 60, true)]
theorem ftImpl : ∀ x ∈ tImpl, ∀ (w : World), ((ReflectliteType.relation "Implements" ReflectliteType.implements_) #[.agg #[hdl RF x.1], .iface RF.rt (.agg #[hdl RF x.2.1])]).run Tryz.prog w = .ok (.bool x.2.2) w := by
  intro x hx
  simp only [tImpl, List.mem_cons, List.not_mem_nil, or_false] at hx
  rcases hx with rfl | rfl | rfl | rfl
  · intro w; kernel_rfl
  · intro w; kernel_rfl
  · intro w; kernel_rfl
  · intro w; kernel_rfl
theorem nt169 : NoText Tryz.prog 169 (ReflectliteType.relation "AssignableTo" ReflectliteType.assignableTo) := ⟨_, Tryz.func169, by kernel_rfl, by kernel_rfl, by kernel_rfl, by kernel_rfl⟩
def tAssign : List (TypeId × TypeId × Bool) := [(77, 77, true), (77, 98, false), (98, 77, false), (98, 98, true), (142, 77, false), (142, 98, false), (124, 77, false), (124, 98, false)]
theorem ftAssign : ∀ x ∈ tAssign, ∀ (w : World), ((ReflectliteType.relation "AssignableTo" ReflectliteType.assignableTo) #[.agg #[hdl RF x.1], .iface RF.rt (.agg #[hdl RF x.2.1])]).run Tryz.prog w = .ok (.bool x.2.2) w := by
  intro x hx
  simp only [tAssign, List.mem_cons, List.not_mem_nil, or_false] at hx
  rcases hx with rfl | rfl | rfl | rfl | rfl | rfl | rfl | rfl
  · intro w; kernel_rfl
  · intro w; kernel_rfl
  · intro w; kernel_rfl
  · intro w; kernel_rfl
  · intro w; kernel_rfl
  · intro w; kernel_rfl
  · intro w; kernel_rfl
  · intro w; kernel_rfl
theorem nt170 : NoText Tryz.prog 170 (ReflectliteType.method fun t => do Rtype.noPackHeld "Comparable" t; pure (.bool (← typeInfo t).comparable)) := ⟨_, Tryz.func170, by kernel_rfl, by kernel_rfl, by kernel_rfl, by kernel_rfl⟩
theorem fCmp : ∀ x ∈ RF.ps, ∀ (w : World), ((ReflectliteType.method fun t => do Rtype.noPackHeld "Comparable" t; pure (.bool (← typeInfo t).comparable)) #[.agg #[hdl RF x.1]]).run Tryz.prog w = .ok (.bool true) w := by
  intro x hx
  simp only [RF, List.mem_cons, List.not_mem_nil, or_false] at hx
  rcases hx with rfl | rfl | rfl | rfl | rfl | rfl
  · intro w; kernel_rfl
  · intro w; kernel_rfl
  · intro w; kernel_rfl
  · intro w; kernel_rfl
  · intro w; kernel_rfl
  · intro w; kernel_rfl
def reflX : Calls' := fun f args A => match f with
  | 96 => typeOfX RF args A
  | 73 => valueOfX RF args A
  | 74 => vtypeX RF args A
  | 75 => visNilX RF args A
  | 97 => velemX RF args A
  | 98 => vsetX RF args A
  | 156 => kindX RF args A
  | 171 => telemX RF args A
  | 172 => relX RF tImpl args A
  | 169 => relX RF tAssign args A
  | 170 => comparableX RF args A
  | _ => none
theorem reflX_ok {M0 : Mu} : GSound Tryz.prog M0 reflX := fun f args A r B h => by
  unfold reflX at h
  split at h
  · exact .inr fun F m w cargs _ R hc => typeOf_ok nt96 fTypeOf h R hc
  · exact .inr fun F m w cargs _ R hc => valueOf_ok nt73 fValueOf h R hc
  · exact .inr fun F m w cargs _ R hc => vtype_ok nt74 fVType h R hc
  · exact .inr fun F m w cargs _ R hc => visNil_ok nt75 fIsNil h R hc
  · exact .inr fun F m w cargs _ R hc => velem_ok nt97 fVElem h R hc
  · exact .inr fun F m w cargs _ R hc => vset_ok nt98 fVSet h R hc
  · exact .inr fun F m w cargs _ R hc => kind_ok nt156 fKind h R hc
  · exact .inr fun F m w cargs _ R hc => telem_ok nt171 fTElem h R hc
  · exact .inr fun F m w cargs _ R hc => rel_ok nt172 ftImpl h R hc
  · exact .inr fun F m w cargs _ R hc => rel_ok nt169 ftAssign h R hc
  · exact .inr fun F m w cargs _ R hc => comparable_ok nt170 fCmp h R hc
  · cases h
end Go.Proofs.YteoioahkflcchaaGreatDoor
