/- The law DbcNil, run once: what comes in is never looked at. -/
import Derived.Test.YtlaoookdegmnnaaGreatDoorDbcNComp
import Derived.Test.YtlaoookdegmnnaaGreatDoorStBase
namespace Go.Proofs.YtlaoookdegmnnaaGreatDoor
open Go Go.AM
set_option maxRecDepth 100000
def GA : Calls' := callsN D0 G0 fns (fun _ => false) XL 80
theorem ga_ok : CSound Tryz.prog M0 GA := callsN_sound (base_of fns_ok) _ 80
/-- The example is run once, from the start. -/
def XA : Calls' := orX (nowhereG A0 GA (fun f => Nat.beq f 39)) XL
theorem xa_ok : GSound Tryz.prog M0 XA := orX_sound (nowhereG_sound ga_ok globOk _ rfl) (xl_ok M0)
def fnsL : Nat → Option AFn := fun f => bif Nat.beq f 39 then none else fns f
theorem fnsL_ok : ∀ f afn, fnsL f = some afn → ∃ fn, Tryz.prog.funcs[f]? = some fn ∧ compFn Tryz.prog fn = some afn ∧ fn.name ≠ "runtime.NumGoroutine" := fun f afn h => by
  unfold fnsL at h
  cases hb : Nat.beq f 39 with
  | true => rw [hb] at h; cases h
  | false => rw [hb] at h; exact fns_ok f afn h
theorem baseA : Base Tryz.prog M0 G0 fnsL XA := ⟨mixed, ⟨rfl, few⟩, baseOk_one, fnsL_ok, xa_ok⟩
def GL : Calls' := callsN D0 G0 fnsL (fun _ => false) XA 80
theorem law_run (n k : Int) (key : List UInt8) (a b : Int) : isT (GL 5 [.int .i64 n, .agg [.int .i64 k, .str key, .int .i64 a, .int .i64 b]] A0) = true := by kernel_rfl

end Go.Proofs.YtlaoookdegmnnaaGreatDoor
