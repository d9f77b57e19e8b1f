/- What the chapter's small functions tell, in plain Lean. -/
import Derived.Test.YteoioahkflcchaaGreatDoorAmArg
namespace Go.Proofs.YteoioahkflcchaaGreatDoor
open Go.AM

/-- A letter of a key. -/
def letN (n : Nat) : Bool := decide (97 ≤ n) && decide (n ≤ 122) || (decide (48 ≤ n) && decide (n ≤ 57) || (decide (n = 46) || decide (n = 95)))
def lettersL (s : List UInt8) : Bool := s.all (fun c => letN c.toNat) && !s.isEmpty
def keyL (s : List UInt8) : Bool := decide (s.length ≤ 16) && lettersL s
def sysL (s : List UInt8) : Bool := decide (s.length ≤ 16) && (decide (s.take 1 = [126]) && lettersL (s.drop 1))
def plainL (o : OpD) : Bool :=
  if o.kind = 1 ∨ o.kind = 3 then decide (o.n = 0) && decide (o.lo = 0)
  else if o.kind = 2 ∨ o.kind = 4 ∨ o.kind = 6 then decide (o.lo = 0) else decide (o.kind = 5)
def mayL (o : OpD) : Bool := plainL o && (keyL o.key || sysL o.key)
/-- The sum of two numbers, if it fits. -/
def fitsL (a b : Int) : Bool := decide (-9223372036854775808 ≤ a + b) && decide (a + b ≤ 9223372036854775807)
def wrapI (x : Int) : Int := IntKind.i64.wrap x
/-- What an operation does: the number, whether there is one, what is told, the error. -/
def evalL (o : OpD) (old0 : Int) (there : Bool) : Int × Bool × Int × Int :=
  if mayL o = false then (0, false, 0, 2) else
  let old := if there then old0 else 0
  if o.kind = 1 then (old, there, old, 0)
  else if o.kind = 2 then (o.n, true, o.n, 0)
  else if o.kind = 3 then (0, false, old, 0)
  else if o.kind = 6 then (wrapI (old + o.n), true, wrapI (old + o.n), 0)
  else if fitsL old o.n = false then (old, there, 0, 25)
  else if o.kind = 5 ∧ old + o.n < o.lo then (old, there, 0, 24)
  else (old + o.n, true, old + o.n, 0)
def evalV (o : OpD) (old : Int) (there : Bool) : AV := .tuple [.int .i64 (evalL o old there).1, .bool (evalL o old there).2.1, .int .i64 (evalL o old there).2.2.1, .int .i64 (evalL o old there).2.2.2]
/-- Does an operation possibly fail? -/
def failsL (o : OpD) : Bool := decide (o.kind = 4) || (decide (o.kind = 5) || !plainL o)
def cut1 (o : OpD) : OpD := { o with key := o.key.take 20 }
def cutL (l : List OpD) : List OpD := (l.take 12).map cut1
end Go.Proofs.YteoioahkflcchaaGreatDoor
