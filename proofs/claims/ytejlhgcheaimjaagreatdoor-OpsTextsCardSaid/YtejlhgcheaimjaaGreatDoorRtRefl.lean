/- The library's reflection on pointers to errors, at this program. -/
import Derived.Test.YtejlhgcheaimjaaGreatDoorProg
import Derived.Test.YtejlhgcheaimjaaGreatDoorAmRefl
import Derived.KernelRfl
namespace Go.Proofs.YtejlhgcheaimjaaGreatDoor
open Go Go.AM Go.Extern
set_option maxRecDepth 100000
def RF : Refl := ⟨9, 166, [(102, 105), (103, 102), (95, 99), (101, 95), (129, 131)]⟩
theorem nt114 : NoText Tryz.prog 114 (ReflectliteType.typeOf) := ⟨_, Tryz.func114, by kernel_rfl, by kernel_rfl, by kernel_rfl, by kernel_rfl⟩
theorem fTypeOf : ∀ x ∈ RF.ps, ∀ (v : Value) (w : World), (ReflectliteType.typeOf #[.iface x.1 v]).run Tryz.prog w = .ok (.iface RF.rt (.agg #[hdl RF x.1])) w := by
  intro x hx
  simp only [RF, List.mem_cons, List.not_mem_nil, or_false] at hx
  rcases hx with rfl | rfl | rfl | rfl | rfl
  · intro v w; kernel_rfl
  · intro v w; kernel_rfl
  · intro v w; kernel_rfl
  · intro v w; kernel_rfl
  · intro v w; kernel_rfl
theorem nt91 : NoText Tryz.prog 91 (fun args => ReflectliteValue.unpack (args.getD 0 (.tuple #[]))) := ⟨_, Tryz.func91, by kernel_rfl, by kernel_rfl, by kernel_rfl, by kernel_rfl⟩
theorem fValueOf : ∀ x ∈ RF.ps, ∀ (p : Option Addr) (w : World), (ReflectliteValue.unpack (.iface x.1 (.pointer p))).run Tryz.prog w = .ok (.agg #[hdl RF x.1, .pointer (some ⟨w.heap.size, 0, none⟩), .int .u64 150]) (w.alloc (.cells #[.pointer p] x.1)) := by
  intro x hx
  simp only [RF, List.mem_cons, List.not_mem_nil, or_false] at hx
  rcases hx with rfl | rfl | rfl | rfl | rfl
  · intro p w; kernel_rfl
  · intro p w; kernel_rfl
  · intro p w; kernel_rfl
  · intro p w; kernel_rfl
  · intro p w; kernel_rfl
theorem nt92 : NoText Tryz.prog 92 (ReflectliteValue.methodAny (ReflectliteValue.valueError "reflectlite.Value.Type" 0) fun t _ _ _ => ReflectliteType.toType t) := ⟨_, Tryz.func92, by kernel_rfl, by kernel_rfl, by kernel_rfl, by kernel_rfl⟩
theorem fVType : ∀ x ∈ RF.ps, ∀ (a : Addr) (w : World), ((ReflectliteValue.methodAny (ReflectliteValue.valueError "reflectlite.Value.Type" 0) fun t _ _ _ => ReflectliteType.toType t) #[.agg #[hdl RF x.1, .pointer (some a), .int .u64 150]]).run Tryz.prog w = .ok (.iface RF.rt (.agg #[hdl RF x.1])) w := by
  intro x hx
  simp only [RF, List.mem_cons, List.not_mem_nil, or_false] at hx
  rcases hx with rfl | rfl | rfl | rfl | rfl
  · intro a w; kernel_rfl
  · intro a w; kernel_rfl
  · intro a w; kernel_rfl
  · intro a w; kernel_rfl
  · intro a w; kernel_rfl
theorem rlm (z : Sem Value) (h : TypeId → Addr → Nat → Nat → Sem Value) (v : Value) : ReflectliteValue.method z h #[v] = (do match ← ReflectliteValue.parts v with | none => z | some (t, a, fl) => h t a fl (fl % 32)) := rfl
theorem parts102_150 (a : Addr) (w : World) : (ReflectliteValue.parts (.agg #[.pointer (some ⟨9, 102, none⟩), .pointer (some a), .int .u64 150])).run Tryz.prog w = .ok (some (102, a, 150)) w := by kernel_rfl
theorem parts102_406 (a : Addr) (w : World) : (ReflectliteValue.parts (.agg #[.pointer (some ⟨9, 102, none⟩), .pointer (some a), .int .u64 406])).run Tryz.prog w = .ok (some (102, a, 406)) w := by kernel_rfl
theorem parts103_150 (a : Addr) (w : World) : (ReflectliteValue.parts (.agg #[.pointer (some ⟨9, 103, none⟩), .pointer (some a), .int .u64 150])).run Tryz.prog w = .ok (some (103, a, 150)) w := by kernel_rfl
theorem parts103_406 (a : Addr) (w : World) : (ReflectliteValue.parts (.agg #[.pointer (some ⟨9, 103, none⟩), .pointer (some a), .int .u64 406])).run Tryz.prog w = .ok (some (103, a, 406)) w := by kernel_rfl
theorem parts95_150 (a : Addr) (w : World) : (ReflectliteValue.parts (.agg #[.pointer (some ⟨9, 95, none⟩), .pointer (some a), .int .u64 150])).run Tryz.prog w = .ok (some (95, a, 150)) w := by kernel_rfl
theorem parts95_406 (a : Addr) (w : World) : (ReflectliteValue.parts (.agg #[.pointer (some ⟨9, 95, none⟩), .pointer (some a), .int .u64 406])).run Tryz.prog w = .ok (some (95, a, 406)) w := by kernel_rfl
theorem parts101_150 (a : Addr) (w : World) : (ReflectliteValue.parts (.agg #[.pointer (some ⟨9, 101, none⟩), .pointer (some a), .int .u64 150])).run Tryz.prog w = .ok (some (101, a, 150)) w := by kernel_rfl
theorem parts101_406 (a : Addr) (w : World) : (ReflectliteValue.parts (.agg #[.pointer (some ⟨9, 101, none⟩), .pointer (some a), .int .u64 406])).run Tryz.prog w = .ok (some (101, a, 406)) w := by kernel_rfl
theorem parts129_150 (a : Addr) (w : World) : (ReflectliteValue.parts (.agg #[.pointer (some ⟨9, 129, none⟩), .pointer (some a), .int .u64 150])).run Tryz.prog w = .ok (some (129, a, 150)) w := by kernel_rfl
theorem parts129_406 (a : Addr) (w : World) : (ReflectliteValue.parts (.agg #[.pointer (some ⟨9, 129, none⟩), .pointer (some a), .int .u64 406])).run Tryz.prog w = .ok (some (129, a, 406)) w := by kernel_rfl
theorem nt93 : NoText Tryz.prog 93 (ReflectliteValue.method (ReflectliteValue.valueError "reflectlite.Value.IsNil" 0) ReflectliteValue.isNil) := ⟨_, Tryz.func93, by kernel_rfl, by kernel_rfl, by kernel_rfl, by kernel_rfl⟩
theorem fIsNil : ∀ x ∈ RF.ps, ∀ (a : Addr) (w : World) (q : Option Addr), w.cell? a = some (.pointer q) → (ReflectliteValue.method (ReflectliteValue.valueError "reflectlite.Value.IsNil" 0) ReflectliteValue.isNil #[.agg #[hdl RF x.1, .pointer (some a), .int .u64 150]]).run Tryz.prog w = .ok (.bool q.isNone) w := by
  intro x hx
  simp only [RF, List.mem_cons, List.not_mem_nil, or_false] at hx
  rcases hx with rfl | rfl | rfl | rfl | rfl
  · intro a w q ha; rw [rlm]; simp only [hdl, RF, Sem.run_bind, parts102_150, Result.andThen]; cases q <;> simp [ReflectliteValue.isNil, loadVar, isAgg, underlying, Tryz.underlying102, ha, Result.andThen]
  · intro a w q ha; rw [rlm]; simp only [hdl, RF, Sem.run_bind, parts103_150, Result.andThen]; cases q <;> simp [ReflectliteValue.isNil, loadVar, isAgg, underlying, Tryz.underlying103, ha, Result.andThen]
  · intro a w q ha; rw [rlm]; simp only [hdl, RF, Sem.run_bind, parts95_150, Result.andThen]; cases q <;> simp [ReflectliteValue.isNil, loadVar, isAgg, underlying, Tryz.underlying95, ha, Result.andThen]
  · intro a w q ha; rw [rlm]; simp only [hdl, RF, Sem.run_bind, parts101_150, Result.andThen]; cases q <;> simp [ReflectliteValue.isNil, loadVar, isAgg, underlying, Tryz.underlying101, ha, Result.andThen]
  · intro a w q ha; rw [rlm]; simp only [hdl, RF, Sem.run_bind, parts129_150, Result.andThen]; cases q <;> simp [ReflectliteValue.isNil, loadVar, isAgg, underlying, Tryz.underlying129, ha, Result.andThen]
theorem nt115 : NoText Tryz.prog 115 (ReflectliteValue.method (ReflectliteValue.valueError "reflectlite.Value.Elem" 0) ReflectliteValue.elem) := ⟨_, Tryz.func115, by kernel_rfl, by kernel_rfl, by kernel_rfl, by kernel_rfl⟩
theorem elemOf103 (w : World) : (Rtype.elem? 103).run Tryz.prog w = .ok (some 102) w := by kernel_rfl
theorem mk102 (p : Addr) (w : World) : (ReflectliteValue.mk 102 p ReflectliteValue.flagAddr).run Tryz.prog w = .ok (.agg #[.pointer (some ⟨9, 102, none⟩), .pointer (some p), .int .u64 406]) w := by kernel_rfl
theorem elemOf101 (w : World) : (Rtype.elem? 101).run Tryz.prog w = .ok (some 95) w := by kernel_rfl
theorem mk95 (p : Addr) (w : World) : (ReflectliteValue.mk 95 p ReflectliteValue.flagAddr).run Tryz.prog w = .ok (.agg #[.pointer (some ⟨9, 95, none⟩), .pointer (some p), .int .u64 406]) w := by kernel_rfl
theorem fVElem : ∀ x ∈ RF.ps, (elemP x.2 RF.ps).isSome = true → ∀ (a q : Addr) (w : World), w.cell? a = some (.pointer (some q)) → (ReflectliteValue.method (ReflectliteValue.valueError "reflectlite.Value.Elem" 0) ReflectliteValue.elem #[.agg #[hdl RF x.1, .pointer (some a), .int .u64 150]]).run Tryz.prog w = .ok (.agg #[hdl RF x.2, .pointer (some q), .int .u64 406]) w := by
  intro x hx
  simp only [RF, List.mem_cons, List.not_mem_nil, or_false] at hx
  rcases hx with rfl | rfl | rfl | rfl | rfl
  · intro h; exact absurd h (by decide)
  · intro _ a q w ha; rw [rlm]; simp only [hdl, RF, Sem.run_bind, parts103_150, Result.andThen]; simp [ReflectliteValue.elem, loadVar, isAgg, underlying, Tryz.underlying103, ha, Result.andThen, elemOf103, mk102]
  · intro h; exact absurd h (by decide)
  · intro _ a q w ha; rw [rlm]; simp only [hdl, RF, Sem.run_bind, parts101_150, Result.andThen]; simp [ReflectliteValue.elem, loadVar, isAgg, underlying, Tryz.underlying101, ha, Result.andThen, elemOf101, mk95]
  · intro h; exact absurd h (by decide)
theorem nt116 : NoText Tryz.prog 116 (ReflectliteValue.set) := ⟨_, Tryz.func116, by kernel_rfl, by kernel_rfl, by kernel_rfl, by kernel_rfl⟩
theorem rls (v x : Value) : ReflectliteValue.set #[v, x] = (do
    let (some (dst, a, fl), some (src, b, _)) := (← ReflectliteValue.parts v, ← ReflectliteValue.parts x)
      | unsupported (.noEntry "extern/(internal/reflectlite.Value).Set.zeroValue")
    if fl / ReflectliteValue.flagAddr % 2 == 0 then unsupported (.noEntry "extern/(internal/reflectlite.Value).Set.unaddressable")
    let val ← loadVar src b
    if ← Rtype.directlyAssignable dst src then storeVar dst a val
    else if ← Rtype.implements dst src then
      if (← Rtype.kind src) == 20 then
        match val with
        | .nilIface => unsupported (.noEntry "extern/reflectlite: a nil value of one interface type handed on as a value of another")
        | _ => storeVar dst a val
      else storeVar dst a (.iface src val)
    else panicString ("reflectlite.Set: value of type " ++ (← Rtype.spelt src) ++ " is not assignable to type " ++ (← Rtype.spelt dst))
    pure (.tuple #[])) := rfl
theorem direct102 (w : World) : (Rtype.directlyAssignable 102 102).run Tryz.prog w = .ok true w := by kernel_rfl
theorem size102 (w : World) : (sizeOf 102).run Tryz.prog w = .ok 1 w := by kernel_rfl
theorem direct103 (w : World) : (Rtype.directlyAssignable 103 103).run Tryz.prog w = .ok true w := by kernel_rfl
theorem size103 (w : World) : (sizeOf 103).run Tryz.prog w = .ok 1 w := by kernel_rfl
theorem direct95 (w : World) : (Rtype.directlyAssignable 95 95).run Tryz.prog w = .ok true w := by kernel_rfl
theorem size95 (w : World) : (sizeOf 95).run Tryz.prog w = .ok 1 w := by kernel_rfl
theorem direct101 (w : World) : (Rtype.directlyAssignable 101 101).run Tryz.prog w = .ok true w := by kernel_rfl
theorem size101 (w : World) : (sizeOf 101).run Tryz.prog w = .ok 1 w := by kernel_rfl
theorem direct129 (w : World) : (Rtype.directlyAssignable 129 129).run Tryz.prog w = .ok true w := by kernel_rfl
theorem size129 (w : World) : (sizeOf 129).run Tryz.prog w = .ok 1 w := by kernel_rfl
theorem fVSet : ∀ x ∈ RF.ps, ∀ (a b : Addr) (w : World) (v old : Value), w.cell? b = some v → w.cell? a = some old → w.frozen? a = false → v.oneCell' = true → (ReflectliteValue.set #[.agg #[hdl RF x.1, .pointer (some a), .int .u64 406], .agg #[hdl RF x.1, .pointer (some b), .int .u64 150]]).run Tryz.prog w = .ok (.tuple #[]) (w.setCell a v) := by
  intro x hx
  simp only [RF, List.mem_cons, List.not_mem_nil, or_false] at hx
  rcases hx with rfl | rfl | rfl | rfl | rfl
  · intro a b w v old hb ha hf h1; rw [rls]; simp only [hdl, RF, Sem.run_bind, parts102_406, parts102_150, Result.andThen]; simp [ReflectliteValue.flagAddr, loadVar, isAgg, underlying, Tryz.underlying102, hb, Result.andThen, direct102, storeVar, cells_one h1, storeCells, Addr.add]; rw [run_store Tryz.prog w a _ _ h1]; simp [ha, hf]
  · intro a b w v old hb ha hf h1; rw [rls]; simp only [hdl, RF, Sem.run_bind, parts103_406, parts103_150, Result.andThen]; simp [ReflectliteValue.flagAddr, loadVar, isAgg, underlying, Tryz.underlying103, hb, Result.andThen, direct103, storeVar, cells_one h1, storeCells, Addr.add]; rw [run_store Tryz.prog w a _ _ h1]; simp [ha, hf]
  · intro a b w v old hb ha hf h1; rw [rls]; simp only [hdl, RF, Sem.run_bind, parts95_406, parts95_150, Result.andThen]; simp [ReflectliteValue.flagAddr, loadVar, isAgg, underlying, Tryz.underlying95, hb, Result.andThen, direct95, storeVar, cells_one h1, storeCells, Addr.add]; rw [run_store Tryz.prog w a _ _ h1]; simp [ha, hf]
  · intro a b w v old hb ha hf h1; rw [rls]; simp only [hdl, RF, Sem.run_bind, parts101_406, parts101_150, Result.andThen]; simp [ReflectliteValue.flagAddr, loadVar, isAgg, underlying, Tryz.underlying101, hb, Result.andThen, direct101, storeVar, cells_one h1, storeCells, Addr.add]; rw [run_store Tryz.prog w a _ _ h1]; simp [ha, hf]
  · intro a b w v old hb ha hf h1; rw [rls]; simp only [hdl, RF, Sem.run_bind, parts129_406, parts129_150, Result.andThen]; simp [ReflectliteValue.flagAddr, loadVar, isAgg, underlying, Tryz.underlying129, hb, Result.andThen, direct129, storeVar, cells_one h1, storeCells, Addr.add]; rw [run_store Tryz.prog w a _ _ h1]; simp [ha, hf]
theorem nt158 : NoText Tryz.prog 158 (ReflectliteType.abiMethod fun t => do pure (.int .u8 (← Rtype.kind t))) := ⟨_, Tryz.func158, by kernel_rfl, by kernel_rfl, by kernel_rfl, by kernel_rfl⟩
theorem fKind : ∀ x ∈ RF.ps, ∀ (w : World), ((ReflectliteType.abiMethod fun t => do pure (.int .u8 (← Rtype.kind t))) #[hdl RF x.1]).run Tryz.prog w = .ok (.int .u8 22) w := by
  intro x hx
  simp only [RF, List.mem_cons, List.not_mem_nil, or_false] at hx
  rcases hx with rfl | rfl | rfl | rfl | rfl
  · intro w; kernel_rfl
  · intro w; kernel_rfl
  · intro w; kernel_rfl
  · intro w; kernel_rfl
  · intro w; kernel_rfl
theorem nt173 : NoText Tryz.prog 173 (ReflectliteType.method ReflectliteType.elem) := ⟨_, Tryz.func173, by kernel_rfl, by kernel_rfl, by kernel_rfl, by kernel_rfl⟩
theorem fTElem : ∀ x ∈ RF.ps, ∀ (w : World), (ReflectliteType.method ReflectliteType.elem #[.agg #[hdl RF x.1]]).run Tryz.prog w = .ok (.iface RF.rt (.agg #[hdl RF x.2])) w := by
  intro x hx
  simp only [RF, List.mem_cons, List.not_mem_nil, or_false] at hx
  rcases hx with rfl | rfl | rfl | rfl | rfl
  · intro w; kernel_rfl
  · intro w; kernel_rfl
  · intro w; kernel_rfl
  · intro w; kernel_rfl
  · intro w; kernel_rfl
theorem nt174 : NoText Tryz.prog 174 (ReflectliteType.relation "Implements" ReflectliteType.implements_) := ⟨_, Tryz.func174, by kernel_rfl, by kernel_rfl, by kernel_rfl, by kernel_rfl⟩
def tImpl : List (TypeId × TypeId × Bool) := [(102, 51, true), (95, 51, true), (129, 51, true)]
theorem ftImpl : ∀ x ∈ tImpl, ∀ (w : World), ((ReflectliteType.relation "Implements" ReflectliteType.implements_) #[.agg #[hdl RF x.1], .iface RF.rt (.agg #[hdl RF x.2.1])]).run Tryz.prog w = .ok (.bool x.2.2) w := by
  intro x hx
  simp only [tImpl, List.mem_cons, List.not_mem_nil, or_false] at hx
  rcases hx with rfl | rfl | rfl
  · intro w; kernel_rfl
  · intro w; kernel_rfl
  · intro w; kernel_rfl
theorem nt171 : NoText Tryz.prog 171 (ReflectliteType.relation "AssignableTo" ReflectliteType.assignableTo) := ⟨_, Tryz.func171, by kernel_rfl, by kernel_rfl, by kernel_rfl, by kernel_rfl⟩
def tAssign : List (TypeId × TypeId × Bool) := [(102, 102, true), (102, 95, false), (95, 102, false), (95, 95, true), (129, 102, false), (129, 95, false)]
theorem ftAssign : ∀ x ∈ tAssign, ∀ (w : World), ((ReflectliteType.relation "AssignableTo" ReflectliteType.assignableTo) #[.agg #[hdl RF x.1], .iface RF.rt (.agg #[hdl RF x.2.1])]).run Tryz.prog w = .ok (.bool x.2.2) w := by
  intro x hx
  simp only [tAssign, List.mem_cons, List.not_mem_nil, or_false] at hx
  rcases hx with rfl | rfl | rfl | rfl | rfl | rfl
  · intro w; kernel_rfl
  · intro w; kernel_rfl
  · intro w; kernel_rfl
  · intro w; kernel_rfl
  · intro w; kernel_rfl
  · intro w; kernel_rfl
theorem nt172 : NoText Tryz.prog 172 (ReflectliteType.method fun t => do Rtype.noPackHeld "Comparable" t; pure (.bool (← typeInfo t).comparable)) := ⟨_, Tryz.func172, by kernel_rfl, by kernel_rfl, by kernel_rfl, by kernel_rfl⟩
theorem fCmp : ∀ x ∈ RF.ps, ∀ (w : World), ((ReflectliteType.method fun t => do Rtype.noPackHeld "Comparable" t; pure (.bool (← typeInfo t).comparable)) #[.agg #[hdl RF x.1]]).run Tryz.prog w = .ok (.bool true) w := by
  intro x hx
  simp only [RF, List.mem_cons, List.not_mem_nil, or_false] at hx
  rcases hx with rfl | rfl | rfl | rfl | rfl
  · intro w; kernel_rfl
  · intro w; kernel_rfl
  · intro w; kernel_rfl
  · intro w; kernel_rfl
  · intro w; kernel_rfl
def reflX : Calls' := fun f args A => match f with
  | 114 => typeOfX RF args A
  | 91 => valueOfX RF args A
  | 92 => vtypeX RF args A
  | 93 => visNilX RF args A
  | 115 => velemX RF args A
  | 116 => vsetX RF args A
  | 158 => kindX RF args A
  | 173 => telemX RF args A
  | 174 => relX RF tImpl args A
  | 171 => relX RF tAssign args A
  | 172 => comparableX RF args A
  | _ => none
theorem reflX_ok {M0 : Mu} : GSound Tryz.prog M0 reflX := fun f args A r B h => by
  unfold reflX at h
  split at h
  · exact .inr fun F m w cargs _ R hc => typeOf_ok nt114 fTypeOf h R hc
  · exact .inr fun F m w cargs _ R hc => valueOf_ok nt91 fValueOf h R hc
  · exact .inr fun F m w cargs _ R hc => vtype_ok nt92 fVType h R hc
  · exact .inr fun F m w cargs _ R hc => visNil_ok nt93 fIsNil h R hc
  · exact .inr fun F m w cargs _ R hc => velem_ok nt115 fVElem h R hc
  · exact .inr fun F m w cargs _ R hc => vset_ok nt116 fVSet h R hc
  · exact .inr fun F m w cargs _ R hc => kind_ok nt158 fKind h R hc
  · exact .inr fun F m w cargs _ R hc => telem_ok nt173 fTElem h R hc
  · exact .inr fun F m w cargs _ R hc => rel_ok nt174 ftImpl h R hc
  · exact .inr fun F m w cargs _ R hc => rel_ok nt171 ftAssign h R hc
  · exact .inr fun F m w cargs _ R hc => comparable_ok nt172 fCmp h R hc
  · cases h
end Go.Proofs.YtejlhgcheaimjaaGreatDoor
