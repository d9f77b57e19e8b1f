/-
  No cell of these rows narrows 'for every input' (looked for: loops, veiled, ifaces, maps, wideKeys, modest, calm, conditions, laid).
  DERIVED. THE GIVEN ROWS OF THIS SEAT. 6 by the template 'for every input the law returns true; each argument reads behind the call as it read before'; 0 by the template 'total and deterministic' (their statements: YtdgcflackljecaaTotals.lean).
  GIVEN WITH THE SEED: the statements are not yours to turn. If you find one false, say at which input.
  Laid BY PROGRAM, IN A SANDBOX (cutbox-rows.mjs): the forced cells as the released guide's own fill.sh prints them over the translation fa149dc9b4b5b7b4… (all of the seat's roots in one cut). By AI agents, Wed Nov 11 2026. No macro, syntax, notation, axiom, sorry.
-/
import Derived.Test.YtdgcflackljecaaChecked
import GoSem.Claim
import GoSem.ClaimJoined
import GoSem.ClaimMapViews
import Derived.JoinedTies
import Derived.KernelRfl
namespace Go.Proofs.Ytdgcflackljecaa
/- THE CELL 'sum', in the pinned program and in every row, IS THE sha256 OF THE DUMP (.gsa) THAT YtdgcflackljecaaProg.lean LOADS. Nothing in Lean hashes anything: it is a label: what it is worth is what the hold of that sum in a sandbox is worth. -/
noncomputable def Try.pinned : Pinned := { name := "ytdgcflackljecaa", sum := "fa149dc9b4b5b7b49c547a9eacc04ba7521bbff7228e0a759447742ab35947f1", checked := Try.checked }
namespace Rows
def none {H : Type} : Left H := { results := [], args := [] }

/-- 'byroadlaw03.CrcSums': WHATEVER THE INPUT: true; the input reads as it did. -/
def crcSumsSpec : ChangeSpec := { name := "crcSums", fn := fun _ => fun
  | [d1, d2, d3] => { results := [.lit (.bool true)], args := [d1, d2, d3] }
  | _ => none }
def crcSumsRow : OpenClaim := { program := "ytdgcflackljecaa", sum := "fa149dc9b4b5b7b49c547a9eacc04ba7521bbff7228e0a759447742ab35947f1", func := "byroad/byroadlaw03.CrcSums", spec := "crcSums", apart := false }
def CrcSumsSaid : Prop := crcSumsRow.holds Try.pinned (OpenSpec.ofChange crcSumsSpec)

/-- ITS FALSE NEIGHBOUR: 'it returns false'. Refute it at one input. -/
def crcSumsWrong : ChangeSpec := { name := "crcSums", fn := fun _ => fun
  | [d1, d2, d3] => { results := [.lit (.bool false)], args := [d1, d2, d3] }
  | _ => none }
def CrcSumsWrongFalsely : Prop := crcSumsRow.holds Try.pinned (OpenSpec.ofChange crcSumsWrong)

/-- 'byroadlaw03.CrcWraps': WHATEVER THE INPUT: true; the input reads as it did. -/
def crcWrapsSpec : ChangeSpec := { name := "crcWraps", fn := fun _ => fun
  | [d1, d2] => { results := [.lit (.bool true)], args := [d1, d2] }
  | _ => none }
def crcWrapsRow : OpenClaim := { program := "ytdgcflackljecaa", sum := "fa149dc9b4b5b7b49c547a9eacc04ba7521bbff7228e0a759447742ab35947f1", func := "byroad/byroadlaw03.CrcWraps", spec := "crcWraps", apart := false }
def CrcWrapsSaid : Prop := crcWrapsRow.holds Try.pinned (OpenSpec.ofChange crcWrapsSpec)

/-- ITS FALSE NEIGHBOUR: 'it returns false'. Refute it at one input. -/
def crcWrapsWrong : ChangeSpec := { name := "crcWraps", fn := fun _ => fun
  | [d1, d2] => { results := [.lit (.bool false)], args := [d1, d2] }
  | _ => none }
def CrcWrapsWrongFalsely : Prop := crcWrapsRow.holds Try.pinned (OpenSpec.ofChange crcWrapsWrong)

/-- 'byroadlaw03.CrcBit': WHATEVER THE INPUT: true; the input reads as it did. -/
def crcBitSpec : ChangeSpec := { name := "crcBit", fn := fun _ => fun
  | [d1, d2] => { results := [.lit (.bool true)], args := [d1, d2] }
  | _ => none }
def crcBitRow : OpenClaim := { program := "ytdgcflackljecaa", sum := "fa149dc9b4b5b7b49c547a9eacc04ba7521bbff7228e0a759447742ab35947f1", func := "byroad/byroadlaw03.CrcBit", spec := "crcBit", apart := false }
def CrcBitSaid : Prop := crcBitRow.holds Try.pinned (OpenSpec.ofChange crcBitSpec)

/-- ITS FALSE NEIGHBOUR: 'it returns false'. Refute it at one input. -/
def crcBitWrong : ChangeSpec := { name := "crcBit", fn := fun _ => fun
  | [d1, d2] => { results := [.lit (.bool false)], args := [d1, d2] }
  | _ => none }
def CrcBitWrongFalsely : Prop := crcBitRow.holds Try.pinned (OpenSpec.ofChange crcBitWrong)

/-- 'byroadlaw03.CrcMost': WHATEVER THE INPUT: true; the input reads as it did. -/
def crcMostSpec : ChangeSpec := { name := "crcMost", fn := fun _ => fun
  | [d1, d2] => { results := [.lit (.bool true)], args := [d1, d2] }
  | _ => none }
def crcMostRow : OpenClaim := { program := "ytdgcflackljecaa", sum := "fa149dc9b4b5b7b49c547a9eacc04ba7521bbff7228e0a759447742ab35947f1", func := "byroad/byroadlaw03.CrcMost", spec := "crcMost", apart := false }
def CrcMostSaid : Prop := crcMostRow.holds Try.pinned (OpenSpec.ofChange crcMostSpec)

/-- ITS FALSE NEIGHBOUR: 'it returns false'. Refute it at one input. -/
def crcMostWrong : ChangeSpec := { name := "crcMost", fn := fun _ => fun
  | [d1, d2] => { results := [.lit (.bool false)], args := [d1, d2] }
  | _ => none }
def CrcMostWrongFalsely : Prop := crcMostRow.holds Try.pinned (OpenSpec.ofChange crcMostWrong)

/-- 'byroadlaw03.CrcReads': WHATEVER THE INPUT: true; the input reads as it did. -/
def crcReadsSpec : ChangeSpec := { name := "crcReads", fn := fun _ => fun
  | [d1, d2, d3, d4] => { results := [.lit (.bool true)], args := [d1, d2, d3, d4] }
  | _ => none }
def crcReadsRow : OpenClaim := { program := "ytdgcflackljecaa", sum := "fa149dc9b4b5b7b49c547a9eacc04ba7521bbff7228e0a759447742ab35947f1", func := "byroad/byroadlaw03.CrcReads", spec := "crcReads", apart := false }
def CrcReadsSaid : Prop := crcReadsRow.holds Try.pinned (OpenSpec.ofChange crcReadsSpec)

/-- ITS FALSE NEIGHBOUR: 'it returns false'. Refute it at one input. -/
def crcReadsWrong : ChangeSpec := { name := "crcReads", fn := fun _ => fun
  | [d1, d2, d3, d4] => { results := [.lit (.bool false)], args := [d1, d2, d3, d4] }
  | _ => none }
def CrcReadsWrongFalsely : Prop := crcReadsRow.holds Try.pinned (OpenSpec.ofChange crcReadsWrong)

/-- 'byroadlaw03.CrcCuts': WHATEVER THE INPUT: true; the input reads as it did. -/
def crcCutsSpec : ChangeSpec := { name := "crcCuts", fn := fun _ => fun
  | [d1, d2] => { results := [.lit (.bool true)], args := [d1, d2] }
  | _ => none }
def crcCutsRow : OpenClaim := { program := "ytdgcflackljecaa", sum := "fa149dc9b4b5b7b49c547a9eacc04ba7521bbff7228e0a759447742ab35947f1", func := "byroad/byroadlaw03.CrcCuts", spec := "crcCuts", apart := false }
def CrcCutsSaid : Prop := crcCutsRow.holds Try.pinned (OpenSpec.ofChange crcCutsSpec)

/-- ITS FALSE NEIGHBOUR: 'it returns false'. Refute it at one input. -/
def crcCutsWrong : ChangeSpec := { name := "crcCuts", fn := fun _ => fun
  | [d1, d2] => { results := [.lit (.bool false)], args := [d1, d2] }
  | _ => none }
def CrcCutsWrongFalsely : Prop := crcCutsRow.holds Try.pinned (OpenSpec.ofChange crcCutsWrong)

/- THE SECOND FORM. 'bulk': how many values and letters a reading holds, each counted each time it is reached (what is shared counts as often as it is met; a slice's spare places count too). A statement '..UptoSaid' is the law's where the arguments, and the package variables that the reading takes, are together of bulk at most 1048576: NARROWER than '..Said'. Prove '..Said' where nothing that the law and all that it calls make is longer than what came in: it says more and counts as full. Else prove '..UptoSaid'. A law counts once. -/
mutual
def uptoBulk {H : Type} : DataW H → Nat
  | .lit (.string bytes) => bytes.length + 1
  | .lit _ => 1
  | .nil => 1
  | .ptr d => uptoBulk d + 1
  | .slice elems spare => uptoBulkAll elems + uptoBulkAll spare + 1
  | .agg parts => uptoBulkAll parts + 1
  | .iface _ d => uptoBulk d + 1
  | .map entries => uptoBulkEntries entries + 1
  | .held _ => 1
def uptoBulkAll {H : Type} : List (DataW H) → Nat
  | [] => 0
  | d :: r => uptoBulk d + uptoBulkAll r
def uptoBulkEntries {H : Type} : List (Lit × DataW H) → Nat
  | [] => 0
  | x :: r => uptoBulkEntry x + uptoBulkEntries r
def uptoBulkEntry {H : Type} : Lit × DataW H → Nat
  | (.string bytes, d) => bytes.length + uptoBulk d + 1
  | (_, d) => uptoBulk d + 1
 end
def uptoSmall : (H : Type) → List (DataW H) → Bool := fun _ ds => decide (uptoBulkAll ds ≤ 1048576)
def OpenSpec.upto (s : _root_.Go.ChangeSpec) : _root_.Go.OpenSpec := { _root_.Go.OpenSpec.ofChange s with cond := some uptoSmall }

/-- 'byroadlaw03.CrcSums', WHERE WHAT IT READS IS OF BULK AT MOST 1048576: true; the input reads as it did. -/
def crcSumsUptoRow : OpenClaim := { program := "ytdgcflackljecaa", sum := "fa149dc9b4b5b7b49c547a9eacc04ba7521bbff7228e0a759447742ab35947f1", func := "byroad/byroadlaw03.CrcSums", spec := "crcSums", apart := false, narrowed := true }
def CrcSumsUptoSaid : Prop := crcSumsUptoRow.holds Try.pinned (OpenSpec.upto crcSumsSpec)

/-- 'byroadlaw03.CrcWraps', WHERE WHAT IT READS IS OF BULK AT MOST 1048576: true; the input reads as it did. -/
def crcWrapsUptoRow : OpenClaim := { program := "ytdgcflackljecaa", sum := "fa149dc9b4b5b7b49c547a9eacc04ba7521bbff7228e0a759447742ab35947f1", func := "byroad/byroadlaw03.CrcWraps", spec := "crcWraps", apart := false, narrowed := true }
def CrcWrapsUptoSaid : Prop := crcWrapsUptoRow.holds Try.pinned (OpenSpec.upto crcWrapsSpec)

/-- 'byroadlaw03.CrcBit', WHERE WHAT IT READS IS OF BULK AT MOST 1048576: true; the input reads as it did. -/
def crcBitUptoRow : OpenClaim := { program := "ytdgcflackljecaa", sum := "fa149dc9b4b5b7b49c547a9eacc04ba7521bbff7228e0a759447742ab35947f1", func := "byroad/byroadlaw03.CrcBit", spec := "crcBit", apart := false, narrowed := true }
def CrcBitUptoSaid : Prop := crcBitUptoRow.holds Try.pinned (OpenSpec.upto crcBitSpec)

/-- 'byroadlaw03.CrcMost', WHERE WHAT IT READS IS OF BULK AT MOST 1048576: true; the input reads as it did. -/
def crcMostUptoRow : OpenClaim := { program := "ytdgcflackljecaa", sum := "fa149dc9b4b5b7b49c547a9eacc04ba7521bbff7228e0a759447742ab35947f1", func := "byroad/byroadlaw03.CrcMost", spec := "crcMost", apart := false, narrowed := true }
def CrcMostUptoSaid : Prop := crcMostUptoRow.holds Try.pinned (OpenSpec.upto crcMostSpec)

/-- 'byroadlaw03.CrcReads', WHERE WHAT IT READS IS OF BULK AT MOST 1048576: true; the input reads as it did. -/
def crcReadsUptoRow : OpenClaim := { program := "ytdgcflackljecaa", sum := "fa149dc9b4b5b7b49c547a9eacc04ba7521bbff7228e0a759447742ab35947f1", func := "byroad/byroadlaw03.CrcReads", spec := "crcReads", apart := false, narrowed := true }
def CrcReadsUptoSaid : Prop := crcReadsUptoRow.holds Try.pinned (OpenSpec.upto crcReadsSpec)

/-- 'byroadlaw03.CrcCuts', WHERE WHAT IT READS IS OF BULK AT MOST 1048576: true; the input reads as it did. -/
def crcCutsUptoRow : OpenClaim := { program := "ytdgcflackljecaa", sum := "fa149dc9b4b5b7b49c547a9eacc04ba7521bbff7228e0a759447742ab35947f1", func := "byroad/byroadlaw03.CrcCuts", spec := "crcCuts", apart := false, narrowed := true }
def CrcCutsUptoSaid : Prop := crcCutsUptoRow.holds Try.pinned (OpenSpec.upto crcCutsSpec)

end Rows
end Go.Proofs.Ytdgcflackljecaa
