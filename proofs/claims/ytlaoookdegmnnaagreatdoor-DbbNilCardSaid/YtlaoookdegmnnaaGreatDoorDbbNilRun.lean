/- The law DbbNil, run once: what comes in is never looked at; the example may come to two states, which both answer true. -/
import Derived.Test.YtlaoookdegmnnaaGreatDoorDbbNComp
import Derived.Test.YtlaoookdegmnnaaGreatDoorStBase
import Derived.Test.YtlaoookdegmnnaaGreatDoorAmSpine
namespace Go.Proofs.YtlaoookdegmnnaaGreatDoor
open Go Go.AM
set_option maxRecDepth 100000
def nd (f : Nat) : Bool := Nat.beq f 52 || (Nat.beq f 56 || Nat.beq f 211)
def sp (f : Nat) : Bool := Nat.beq f 57 || (Nat.beq f 49 || Nat.beq f 124)
def SA : CallsS := callsS D0 G0 fns nd sp XL 80
def allT : Option (List (AV × St)) → Bool
  | some L => L.all fun x => AV.beq x.1 (.bool true)
  | none => false
theorem awake_all : allT (SA 57 [] A0) = true := by kernel_rfl
theorem awake_ev : EvS Tryz.prog M0 57 [] A0 fun r _ => r = .bool true := by
  have h := awake_all
  unfold allT at h
  split at h
  · rename_i L hL
    refine (callsS_sound (base_of fns_ok) nd sp 80 57 [] A0 L hL).mono fun r B hm => ?_
    exact AV.beq_eq _ _ (List.all_eq_true.1 h _ hm)
  · cases h
/-- The example is run once, from the start. -/
def XA : Calls' := orX (nowhereS A0 57 (.bool true)) XL
theorem xa_ok : GSound Tryz.prog M0 XA := orX_sound (nowhereS_sound awake_ev rfl globOk) (xl_ok M0)
def fnsL : Nat → Option AFn := fun f => bif Nat.beq f 57 then none else fns f
theorem fnsL_ok : ∀ f afn, fnsL f = some afn → ∃ fn, Tryz.prog.funcs[f]? = some fn ∧ compFn Tryz.prog fn = some afn ∧ fn.name ≠ "runtime.NumGoroutine" := fun f afn h => by
  unfold fnsL at h
  cases hb : Nat.beq f 57 with
  | true => rw [hb] at h; cases h
  | false => rw [hb] at h; exact fns_ok f afn h
theorem baseA : Base Tryz.prog M0 G0 fnsL XA := ⟨mixed, ⟨rfl, few⟩, baseOk_one, fnsL_ok, xa_ok⟩
def GL : Calls' := callsN D0 G0 fnsL (fun _ => false) XA 80
theorem law_run (n k : Int) (key : List UInt8) (a b : Int) : isT (GL 9 [.int .i64 n, .agg [.int .i64 k, .str key, .int .i64 a, .int .i64 b]] A0) = true := by kernel_rfl
end Go.Proofs.YtlaoookdegmnnaaGreatDoor
