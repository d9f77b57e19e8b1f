/-
  NARROWER THAN 'FOR EVERY INPUT', by the rows' own cells (each row's printed sentence says how): HeapMost: laid · HeapLasts: laid · DbcNil: laid · DbcSaves: laid · DbcSerial: laid · DbcLasts: laid · DbbNil: laid · DbbSaves: laid · DbbSerial: laid · DbbPlays: laid · DbbLasts: laid.
  DERIVED. THE GIVEN ROWS OF THIS SEAT. 11 by the template 'for every input the law returns true; each argument reads behind the call as it read before'; 0 by the template 'total and deterministic' (their statements: YtlaoookdegmnnaaGreatDoorTotals.lean).
  GIVEN WITH THE SEED: the statements are not yours to turn. If you find one false, say at which input.
  Laid BY PROGRAM, IN A SANDBOX (cutbox-rows.mjs): the forced cells as the released guide's own fill.sh prints them over the translation 526453e1239af3ab… (all of the seat's roots in one cut). By AI agents, Wed Nov 11 2026. No macro, syntax, notation, axiom, sorry.
-/
import Derived.Test.YtlaoookdegmnnaaGreatDoorChecked
import GoSem.Claim
import GoSem.ClaimJoined
import GoSem.ClaimMapViews
import Derived.JoinedTies
import Derived.KernelRfl
namespace Go.Proofs.YtlaoookdegmnnaaGreatDoor
/- THE CELL 'sum', in the pinned program and in every row, IS THE sha256 OF THE DUMP (.gsa) THAT YtlaoookdegmnnaaGreatDoorProg.lean LOADS. Nothing in Lean hashes anything: it is a label: what it is worth is what the hold of that sum in a sandbox is worth. -/
noncomputable def Tryz.pinned : Pinned := { name := "ytlaoookdegmnnaagreatdoor", sum := "526453e1239af3abd22334498f2143e4718f7e36049eea6786b88adf24b238ed", checked := Tryz.checked }
namespace Rows
def none {H : Type} : Left H := { results := [], args := [] }

/- WHAT THE LISTED PACKAGE-LEVEL VARIABLES READ AS WHEN THE CALL BEGINS. Each datum BY PROGRAM (the guide's laid-datum.mjs) off the statement by which the dump's own 'gosem.cut.vars' lays the variable. In a bare row this is a premise. The card (YtlaoookdegmnnaaGreatDoorCards.lean) ties it to the program's text. -/
def laid_errors_errorType {H : Type} : DataW H := .iface "internal/reflectlite.rtype" (.agg [.ptr (.lit (.string [101, 114, 114, 111, 114]))])

/-- 'byroadlaw15.HeapMost': WHATEVER THE INPUT: true; the input reads as it did. -/
def heapMostSpec : ChangeSpec := { name := "heapMost", fn := fun _ => fun
  | [d1, d2] => { results := [.lit (.bool true)], args := [d1, d2] }
  | _ => none }
def heapMostRow : OpenClaim := { program := "ytlaoookdegmnnaagreatdoor", sum := "526453e1239af3abd22334498f2143e4718f7e36049eea6786b88adf24b238ed", func := "byroad/byroadlaw15.HeapMost", spec := "heapMost", inPlace := ["internal/reflectlite.ValueOf", "(internal/reflectlite.Value).Type", "(internal/reflectlite.Value).IsNil", "internal/reflectlite.TypeOf", "(internal/reflectlite.Value).Elem", "(internal/reflectlite.Value).Set", "internal/bytealg.abigen_runtime_cmpstring", "slices.overlaps[byroad/api.Row]"], unfollowed := true, recurses := true, named := ["errors.errorType"], apart := false, laid := [("errors.errorType", laid_errors_errorType)] }
def HeapMostSaid : Prop := heapMostRow.holds Tryz.pinned (OpenSpec.ofChange heapMostSpec)

/-- ITS FALSE NEIGHBOUR: 'it returns false'. Refute it at one input. -/
def heapMostWrong : ChangeSpec := { name := "heapMost", fn := fun _ => fun
  | [d1, d2] => { results := [.lit (.bool false)], args := [d1, d2] }
  | _ => none }
def HeapMostWrongFalsely : Prop := heapMostRow.holds Tryz.pinned (OpenSpec.ofChange heapMostWrong)

/-- 'byroadlaw15.HeapLasts': WHATEVER THE INPUT: true; the input reads as it did. -/
def heapLastsSpec : ChangeSpec := { name := "heapLasts", fn := fun _ => fun
  | [d1, d2, d3, d4] => { results := [.lit (.bool true)], args := [d1, d2, d3, d4] }
  | _ => none }
def heapLastsRow : OpenClaim := { program := "ytlaoookdegmnnaagreatdoor", sum := "526453e1239af3abd22334498f2143e4718f7e36049eea6786b88adf24b238ed", func := "byroad/byroadlaw15.HeapLasts", spec := "heapLasts", inPlace := ["internal/reflectlite.ValueOf", "(internal/reflectlite.Value).Type", "(internal/reflectlite.Value).IsNil", "internal/reflectlite.TypeOf", "(internal/reflectlite.Value).Elem", "(internal/reflectlite.Value).Set", "internal/bytealg.abigen_runtime_cmpstring", "slices.overlaps[byroad/api.Row]"], unfollowed := true, recurses := true, named := ["errors.errorType"], apart := false, laid := [("errors.errorType", laid_errors_errorType)] }
def HeapLastsSaid : Prop := heapLastsRow.holds Tryz.pinned (OpenSpec.ofChange heapLastsSpec)

/-- ITS FALSE NEIGHBOUR: 'it returns false'. Refute it at one input. -/
def heapLastsWrong : ChangeSpec := { name := "heapLasts", fn := fun _ => fun
  | [d1, d2, d3, d4] => { results := [.lit (.bool false)], args := [d1, d2, d3, d4] }
  | _ => none }
def HeapLastsWrongFalsely : Prop := heapLastsRow.holds Tryz.pinned (OpenSpec.ofChange heapLastsWrong)

/-- 'byroadlaw17.DbcNil': WHATEVER THE INPUT: true; the input reads as it did. -/
def dbcNilSpec : ChangeSpec := { name := "dbcNil", fn := fun _ => fun
  | [d1, d2] => { results := [.lit (.bool true)], args := [d1, d2] }
  | _ => none }
def dbcNilRow : OpenClaim := { program := "ytlaoookdegmnnaagreatdoor", sum := "526453e1239af3abd22334498f2143e4718f7e36049eea6786b88adf24b238ed", func := "byroad/byroadlaw17.DbcNil", spec := "dbcNil", inPlace := ["internal/reflectlite.ValueOf", "(internal/reflectlite.Value).Type", "(internal/reflectlite.Value).IsNil", "internal/reflectlite.TypeOf", "(internal/reflectlite.Value).Elem", "(internal/reflectlite.Value).Set", "internal/bytealg.abigen_runtime_cmpstring", "slices.overlaps[byroad/api.Row]"], unfollowed := true, recurses := true, named := ["errors.errorType"], apart := false, laid := [("errors.errorType", laid_errors_errorType)] }
def DbcNilSaid : Prop := dbcNilRow.holds Tryz.pinned (OpenSpec.ofChange dbcNilSpec)

/-- ITS FALSE NEIGHBOUR: 'it returns false'. Refute it at one input. -/
def dbcNilWrong : ChangeSpec := { name := "dbcNil", fn := fun _ => fun
  | [d1, d2] => { results := [.lit (.bool false)], args := [d1, d2] }
  | _ => none }
def DbcNilWrongFalsely : Prop := dbcNilRow.holds Tryz.pinned (OpenSpec.ofChange dbcNilWrong)

/-- 'byroadlaw17.DbcSaves': WHATEVER THE INPUT: true; the input reads as it did. -/
def dbcSavesSpec : ChangeSpec := { name := "dbcSaves", fn := fun _ => fun
  | [d1, d2] => { results := [.lit (.bool true)], args := [d1, d2] }
  | _ => none }
def dbcSavesRow : OpenClaim := { program := "ytlaoookdegmnnaagreatdoor", sum := "526453e1239af3abd22334498f2143e4718f7e36049eea6786b88adf24b238ed", func := "byroad/byroadlaw17.DbcSaves", spec := "dbcSaves", inPlace := ["internal/reflectlite.ValueOf", "(internal/reflectlite.Value).Type", "(internal/reflectlite.Value).IsNil", "internal/reflectlite.TypeOf", "(internal/reflectlite.Value).Elem", "(internal/reflectlite.Value).Set", "internal/bytealg.abigen_runtime_cmpstring", "slices.overlaps[byroad/api.Row]"], unfollowed := true, recurses := true, named := ["errors.errorType"], apart := false, laid := [("errors.errorType", laid_errors_errorType)] }
def DbcSavesSaid : Prop := dbcSavesRow.holds Tryz.pinned (OpenSpec.ofChange dbcSavesSpec)

/-- ITS FALSE NEIGHBOUR: 'it returns false'. Refute it at one input. -/
def dbcSavesWrong : ChangeSpec := { name := "dbcSaves", fn := fun _ => fun
  | [d1, d2] => { results := [.lit (.bool false)], args := [d1, d2] }
  | _ => none }
def DbcSavesWrongFalsely : Prop := dbcSavesRow.holds Tryz.pinned (OpenSpec.ofChange dbcSavesWrong)

/-- 'byroadlaw17.DbcSerial': WHATEVER THE INPUT: true; the input reads as it did. -/
def dbcSerialSpec : ChangeSpec := { name := "dbcSerial", fn := fun _ => fun
  | [d] => { results := [.lit (.bool true)], args := [d] }
  | _ => none }
def dbcSerialRow : OpenClaim := { program := "ytlaoookdegmnnaagreatdoor", sum := "526453e1239af3abd22334498f2143e4718f7e36049eea6786b88adf24b238ed", func := "byroad/byroadlaw17.DbcSerial", spec := "dbcSerial", inPlace := ["internal/reflectlite.ValueOf", "(internal/reflectlite.Value).Type", "(internal/reflectlite.Value).IsNil", "internal/reflectlite.TypeOf", "(internal/reflectlite.Value).Elem", "(internal/reflectlite.Value).Set", "internal/bytealg.abigen_runtime_cmpstring", "slices.overlaps[byroad/api.Row]"], unfollowed := true, recurses := true, named := ["errors.errorType"], apart := false, laid := [("errors.errorType", laid_errors_errorType)] }
def DbcSerialSaid : Prop := dbcSerialRow.holds Tryz.pinned (OpenSpec.ofChange dbcSerialSpec)

/-- ITS FALSE NEIGHBOUR: 'it returns false'. Refute it at one input. -/
def dbcSerialWrong : ChangeSpec := { name := "dbcSerial", fn := fun _ => fun
  | [d] => { results := [.lit (.bool false)], args := [d] }
  | _ => none }
def DbcSerialWrongFalsely : Prop := dbcSerialRow.holds Tryz.pinned (OpenSpec.ofChange dbcSerialWrong)

/-- 'byroadlaw17.DbcLasts': WHATEVER THE INPUT: true; the input reads as it did. -/
def dbcLastsSpec : ChangeSpec := { name := "dbcLasts", fn := fun _ => fun
  | [d1, d2, d3, d4] => { results := [.lit (.bool true)], args := [d1, d2, d3, d4] }
  | _ => none }
def dbcLastsRow : OpenClaim := { program := "ytlaoookdegmnnaagreatdoor", sum := "526453e1239af3abd22334498f2143e4718f7e36049eea6786b88adf24b238ed", func := "byroad/byroadlaw17.DbcLasts", spec := "dbcLasts", inPlace := ["internal/reflectlite.ValueOf", "(internal/reflectlite.Value).Type", "(internal/reflectlite.Value).IsNil", "internal/reflectlite.TypeOf", "(internal/reflectlite.Value).Elem", "(internal/reflectlite.Value).Set", "internal/bytealg.abigen_runtime_cmpstring", "slices.overlaps[byroad/api.Row]"], unfollowed := true, recurses := true, named := ["errors.errorType"], apart := false, laid := [("errors.errorType", laid_errors_errorType)] }
def DbcLastsSaid : Prop := dbcLastsRow.holds Tryz.pinned (OpenSpec.ofChange dbcLastsSpec)

/-- ITS FALSE NEIGHBOUR: 'it returns false'. Refute it at one input. -/
def dbcLastsWrong : ChangeSpec := { name := "dbcLasts", fn := fun _ => fun
  | [d1, d2, d3, d4] => { results := [.lit (.bool false)], args := [d1, d2, d3, d4] }
  | _ => none }
def DbcLastsWrongFalsely : Prop := dbcLastsRow.holds Tryz.pinned (OpenSpec.ofChange dbcLastsWrong)

/-- 'byroadlaw14.DbbNil': WHATEVER THE INPUT: true; the input reads as it did. -/
def dbbNilSpec : ChangeSpec := { name := "dbbNil", fn := fun _ => fun
  | [d1, d2] => { results := [.lit (.bool true)], args := [d1, d2] }
  | _ => none }
def dbbNilRow : OpenClaim := { program := "ytlaoookdegmnnaagreatdoor", sum := "526453e1239af3abd22334498f2143e4718f7e36049eea6786b88adf24b238ed", func := "byroad/byroadlaw14.DbbNil", spec := "dbbNil", inPlace := ["internal/reflectlite.ValueOf", "(internal/reflectlite.Value).Type", "(internal/reflectlite.Value).IsNil", "internal/reflectlite.TypeOf", "(internal/reflectlite.Value).Elem", "(internal/reflectlite.Value).Set", "internal/bytealg.abigen_runtime_cmpstring", "slices.overlaps[byroad/api.Row]", "slices.overlaps[byroad/chain.Version]"], unfollowed := true, recurses := true, named := ["errors.errorType"], apart := false, laid := [("errors.errorType", laid_errors_errorType)] }
def DbbNilSaid : Prop := dbbNilRow.holds Tryz.pinned (OpenSpec.ofChange dbbNilSpec)

/-- ITS FALSE NEIGHBOUR: 'it returns false'. Refute it at one input. -/
def dbbNilWrong : ChangeSpec := { name := "dbbNil", fn := fun _ => fun
  | [d1, d2] => { results := [.lit (.bool false)], args := [d1, d2] }
  | _ => none }
def DbbNilWrongFalsely : Prop := dbbNilRow.holds Tryz.pinned (OpenSpec.ofChange dbbNilWrong)

/-- 'byroadlaw14.DbbSaves': WHATEVER THE INPUT: true; the input reads as it did. -/
def dbbSavesSpec : ChangeSpec := { name := "dbbSaves", fn := fun _ => fun
  | [d1, d2] => { results := [.lit (.bool true)], args := [d1, d2] }
  | _ => none }
def dbbSavesRow : OpenClaim := { program := "ytlaoookdegmnnaagreatdoor", sum := "526453e1239af3abd22334498f2143e4718f7e36049eea6786b88adf24b238ed", func := "byroad/byroadlaw14.DbbSaves", spec := "dbbSaves", inPlace := ["internal/reflectlite.ValueOf", "(internal/reflectlite.Value).Type", "(internal/reflectlite.Value).IsNil", "internal/reflectlite.TypeOf", "(internal/reflectlite.Value).Elem", "(internal/reflectlite.Value).Set", "internal/bytealg.abigen_runtime_cmpstring", "slices.overlaps[byroad/api.Row]", "slices.overlaps[byroad/chain.Version]"], unfollowed := true, recurses := true, named := ["errors.errorType"], apart := false, laid := [("errors.errorType", laid_errors_errorType)] }
def DbbSavesSaid : Prop := dbbSavesRow.holds Tryz.pinned (OpenSpec.ofChange dbbSavesSpec)

/-- ITS FALSE NEIGHBOUR: 'it returns false'. Refute it at one input. -/
def dbbSavesWrong : ChangeSpec := { name := "dbbSaves", fn := fun _ => fun
  | [d1, d2] => { results := [.lit (.bool false)], args := [d1, d2] }
  | _ => none }
def DbbSavesWrongFalsely : Prop := dbbSavesRow.holds Tryz.pinned (OpenSpec.ofChange dbbSavesWrong)

/-- 'byroadlaw14.DbbSerial': WHATEVER THE INPUT: true; the input reads as it did. -/
def dbbSerialSpec : ChangeSpec := { name := "dbbSerial", fn := fun _ => fun
  | [d] => { results := [.lit (.bool true)], args := [d] }
  | _ => none }
def dbbSerialRow : OpenClaim := { program := "ytlaoookdegmnnaagreatdoor", sum := "526453e1239af3abd22334498f2143e4718f7e36049eea6786b88adf24b238ed", func := "byroad/byroadlaw14.DbbSerial", spec := "dbbSerial", inPlace := ["internal/reflectlite.ValueOf", "(internal/reflectlite.Value).Type", "(internal/reflectlite.Value).IsNil", "internal/reflectlite.TypeOf", "(internal/reflectlite.Value).Elem", "(internal/reflectlite.Value).Set", "internal/bytealg.abigen_runtime_cmpstring", "slices.overlaps[byroad/api.Row]", "slices.overlaps[byroad/chain.Version]"], unfollowed := true, recurses := true, named := ["errors.errorType"], apart := false, laid := [("errors.errorType", laid_errors_errorType)] }
def DbbSerialSaid : Prop := dbbSerialRow.holds Tryz.pinned (OpenSpec.ofChange dbbSerialSpec)

/-- ITS FALSE NEIGHBOUR: 'it returns false'. Refute it at one input. -/
def dbbSerialWrong : ChangeSpec := { name := "dbbSerial", fn := fun _ => fun
  | [d] => { results := [.lit (.bool false)], args := [d] }
  | _ => none }
def DbbSerialWrongFalsely : Prop := dbbSerialRow.holds Tryz.pinned (OpenSpec.ofChange dbbSerialWrong)

/-- 'byroadlaw14.DbbPlays': WHATEVER THE INPUT: true; the input reads as it did. -/
def dbbPlaysSpec : ChangeSpec := { name := "dbbPlays", fn := fun _ => fun
  | [d1, d2, d3] => { results := [.lit (.bool true)], args := [d1, d2, d3] }
  | _ => none }
def dbbPlaysRow : OpenClaim := { program := "ytlaoookdegmnnaagreatdoor", sum := "526453e1239af3abd22334498f2143e4718f7e36049eea6786b88adf24b238ed", func := "byroad/byroadlaw14.DbbPlays", spec := "dbbPlays", inPlace := ["internal/reflectlite.ValueOf", "(internal/reflectlite.Value).Type", "(internal/reflectlite.Value).IsNil", "internal/reflectlite.TypeOf", "(internal/reflectlite.Value).Elem", "(internal/reflectlite.Value).Set", "internal/bytealg.abigen_runtime_cmpstring", "slices.overlaps[byroad/api.Row]", "slices.overlaps[byroad/chain.Version]"], unfollowed := true, recurses := true, named := ["errors.errorType"], apart := false, laid := [("errors.errorType", laid_errors_errorType)] }
def DbbPlaysSaid : Prop := dbbPlaysRow.holds Tryz.pinned (OpenSpec.ofChange dbbPlaysSpec)

/-- ITS FALSE NEIGHBOUR: 'it returns false'. Refute it at one input. -/
def dbbPlaysWrong : ChangeSpec := { name := "dbbPlays", fn := fun _ => fun
  | [d1, d2, d3] => { results := [.lit (.bool false)], args := [d1, d2, d3] }
  | _ => none }
def DbbPlaysWrongFalsely : Prop := dbbPlaysRow.holds Tryz.pinned (OpenSpec.ofChange dbbPlaysWrong)

/-- 'byroadlaw14.DbbLasts': WHATEVER THE INPUT: true; the input reads as it did. -/
def dbbLastsSpec : ChangeSpec := { name := "dbbLasts", fn := fun _ => fun
  | [d1, d2, d3, d4] => { results := [.lit (.bool true)], args := [d1, d2, d3, d4] }
  | _ => none }
def dbbLastsRow : OpenClaim := { program := "ytlaoookdegmnnaagreatdoor", sum := "526453e1239af3abd22334498f2143e4718f7e36049eea6786b88adf24b238ed", func := "byroad/byroadlaw14.DbbLasts", spec := "dbbLasts", inPlace := ["internal/reflectlite.ValueOf", "(internal/reflectlite.Value).Type", "(internal/reflectlite.Value).IsNil", "internal/reflectlite.TypeOf", "(internal/reflectlite.Value).Elem", "(internal/reflectlite.Value).Set", "internal/bytealg.abigen_runtime_cmpstring", "slices.overlaps[byroad/api.Row]", "slices.overlaps[byroad/chain.Version]"], unfollowed := true, recurses := true, named := ["errors.errorType"], apart := false, laid := [("errors.errorType", laid_errors_errorType)] }
def DbbLastsSaid : Prop := dbbLastsRow.holds Tryz.pinned (OpenSpec.ofChange dbbLastsSpec)

/-- ITS FALSE NEIGHBOUR: 'it returns false'. Refute it at one input. -/
def dbbLastsWrong : ChangeSpec := { name := "dbbLasts", fn := fun _ => fun
  | [d1, d2, d3, d4] => { results := [.lit (.bool false)], args := [d1, d2, d3, d4] }
  | _ => none }
def DbbLastsWrongFalsely : Prop := dbbLastsRow.holds Tryz.pinned (OpenSpec.ofChange dbbLastsWrong)

/- THE SECOND FORM. 'bulk': how many values and letters a reading holds, each counted each time it is reached (what is shared counts as often as it is met; a slice's spare places count too). A statement '..UptoSaid' is the law's where the arguments, and the package variables that the reading takes, are together of bulk at most 1048576: NARROWER than '..Said'. Prove '..Said' where nothing that the law and all that it calls make is longer than what came in: it says more and counts as full. Else prove '..UptoSaid'. A law counts once. -/
mutual
def uptoBulk {H : Type} : DataW H → Nat
  | .lit (.string bytes) => bytes.length + 1
  | .lit _ => 1
  | .nil => 1
  | .ptr d => uptoBulk d + 1
  | .slice elems spare => uptoBulkAll elems + uptoBulkAll spare + 1
  | .agg parts => uptoBulkAll parts + 1
  | .iface _ d => uptoBulk d + 1
  | .map entries => uptoBulkEntries entries + 1
  | .held _ => 1
def uptoBulkAll {H : Type} : List (DataW H) → Nat
  | [] => 0
  | d :: r => uptoBulk d + uptoBulkAll r
def uptoBulkEntries {H : Type} : List (Lit × DataW H) → Nat
  | [] => 0
  | x :: r => uptoBulkEntry x + uptoBulkEntries r
def uptoBulkEntry {H : Type} : Lit × DataW H → Nat
  | (.string bytes, d) => bytes.length + uptoBulk d + 1
  | (_, d) => uptoBulk d + 1
 end
def uptoSmall : (H : Type) → List (DataW H) → Bool := fun _ ds => decide (uptoBulkAll ds ≤ 1048576)
def OpenSpec.upto (s : _root_.Go.ChangeSpec) : _root_.Go.OpenSpec := { _root_.Go.OpenSpec.ofChange s with cond := some uptoSmall }

/-- 'byroadlaw15.HeapMost', WHERE WHAT IT READS IS OF BULK AT MOST 1048576: true; the input reads as it did. -/
def heapMostUptoRow : OpenClaim := { program := "ytlaoookdegmnnaagreatdoor", sum := "526453e1239af3abd22334498f2143e4718f7e36049eea6786b88adf24b238ed", func := "byroad/byroadlaw15.HeapMost", spec := "heapMost", inPlace := ["internal/reflectlite.ValueOf", "(internal/reflectlite.Value).Type", "(internal/reflectlite.Value).IsNil", "internal/reflectlite.TypeOf", "(internal/reflectlite.Value).Elem", "(internal/reflectlite.Value).Set", "internal/bytealg.abigen_runtime_cmpstring", "slices.overlaps[byroad/api.Row]"], unfollowed := true, recurses := true, named := ["errors.errorType"], apart := false, laid := [("errors.errorType", laid_errors_errorType)], narrowed := true }
def HeapMostUptoSaid : Prop := heapMostUptoRow.holds Tryz.pinned (OpenSpec.upto heapMostSpec)

/-- 'byroadlaw15.HeapLasts', WHERE WHAT IT READS IS OF BULK AT MOST 1048576: true; the input reads as it did. -/
def heapLastsUptoRow : OpenClaim := { program := "ytlaoookdegmnnaagreatdoor", sum := "526453e1239af3abd22334498f2143e4718f7e36049eea6786b88adf24b238ed", func := "byroad/byroadlaw15.HeapLasts", spec := "heapLasts", inPlace := ["internal/reflectlite.ValueOf", "(internal/reflectlite.Value).Type", "(internal/reflectlite.Value).IsNil", "internal/reflectlite.TypeOf", "(internal/reflectlite.Value).Elem", "(internal/reflectlite.Value).Set", "internal/bytealg.abigen_runtime_cmpstring", "slices.overlaps[byroad/api.Row]"], unfollowed := true, recurses := true, named := ["errors.errorType"], apart := false, laid := [("errors.errorType", laid_errors_errorType)], narrowed := true }
def HeapLastsUptoSaid : Prop := heapLastsUptoRow.holds Tryz.pinned (OpenSpec.upto heapLastsSpec)

/-- 'byroadlaw17.DbcNil', WHERE WHAT IT READS IS OF BULK AT MOST 1048576: true; the input reads as it did. -/
def dbcNilUptoRow : OpenClaim := { program := "ytlaoookdegmnnaagreatdoor", sum := "526453e1239af3abd22334498f2143e4718f7e36049eea6786b88adf24b238ed", func := "byroad/byroadlaw17.DbcNil", spec := "dbcNil", inPlace := ["internal/reflectlite.ValueOf", "(internal/reflectlite.Value).Type", "(internal/reflectlite.Value).IsNil", "internal/reflectlite.TypeOf", "(internal/reflectlite.Value).Elem", "(internal/reflectlite.Value).Set", "internal/bytealg.abigen_runtime_cmpstring", "slices.overlaps[byroad/api.Row]"], unfollowed := true, recurses := true, named := ["errors.errorType"], apart := false, laid := [("errors.errorType", laid_errors_errorType)], narrowed := true }
def DbcNilUptoSaid : Prop := dbcNilUptoRow.holds Tryz.pinned (OpenSpec.upto dbcNilSpec)

/-- 'byroadlaw17.DbcSaves', WHERE WHAT IT READS IS OF BULK AT MOST 1048576: true; the input reads as it did. -/
def dbcSavesUptoRow : OpenClaim := { program := "ytlaoookdegmnnaagreatdoor", sum := "526453e1239af3abd22334498f2143e4718f7e36049eea6786b88adf24b238ed", func := "byroad/byroadlaw17.DbcSaves", spec := "dbcSaves", inPlace := ["internal/reflectlite.ValueOf", "(internal/reflectlite.Value).Type", "(internal/reflectlite.Value).IsNil", "internal/reflectlite.TypeOf", "(internal/reflectlite.Value).Elem", "(internal/reflectlite.Value).Set", "internal/bytealg.abigen_runtime_cmpstring", "slices.overlaps[byroad/api.Row]"], unfollowed := true, recurses := true, named := ["errors.errorType"], apart := false, laid := [("errors.errorType", laid_errors_errorType)], narrowed := true }
def DbcSavesUptoSaid : Prop := dbcSavesUptoRow.holds Tryz.pinned (OpenSpec.upto dbcSavesSpec)

/-- 'byroadlaw17.DbcSerial', WHERE WHAT IT READS IS OF BULK AT MOST 1048576: true; the input reads as it did. -/
def dbcSerialUptoRow : OpenClaim := { program := "ytlaoookdegmnnaagreatdoor", sum := "526453e1239af3abd22334498f2143e4718f7e36049eea6786b88adf24b238ed", func := "byroad/byroadlaw17.DbcSerial", spec := "dbcSerial", inPlace := ["internal/reflectlite.ValueOf", "(internal/reflectlite.Value).Type", "(internal/reflectlite.Value).IsNil", "internal/reflectlite.TypeOf", "(internal/reflectlite.Value).Elem", "(internal/reflectlite.Value).Set", "internal/bytealg.abigen_runtime_cmpstring", "slices.overlaps[byroad/api.Row]"], unfollowed := true, recurses := true, named := ["errors.errorType"], apart := false, laid := [("errors.errorType", laid_errors_errorType)], narrowed := true }
def DbcSerialUptoSaid : Prop := dbcSerialUptoRow.holds Tryz.pinned (OpenSpec.upto dbcSerialSpec)

/-- 'byroadlaw17.DbcLasts', WHERE WHAT IT READS IS OF BULK AT MOST 1048576: true; the input reads as it did. -/
def dbcLastsUptoRow : OpenClaim := { program := "ytlaoookdegmnnaagreatdoor", sum := "526453e1239af3abd22334498f2143e4718f7e36049eea6786b88adf24b238ed", func := "byroad/byroadlaw17.DbcLasts", spec := "dbcLasts", inPlace := ["internal/reflectlite.ValueOf", "(internal/reflectlite.Value).Type", "(internal/reflectlite.Value).IsNil", "internal/reflectlite.TypeOf", "(internal/reflectlite.Value).Elem", "(internal/reflectlite.Value).Set", "internal/bytealg.abigen_runtime_cmpstring", "slices.overlaps[byroad/api.Row]"], unfollowed := true, recurses := true, named := ["errors.errorType"], apart := false, laid := [("errors.errorType", laid_errors_errorType)], narrowed := true }
def DbcLastsUptoSaid : Prop := dbcLastsUptoRow.holds Tryz.pinned (OpenSpec.upto dbcLastsSpec)

/-- 'byroadlaw14.DbbNil', WHERE WHAT IT READS IS OF BULK AT MOST 1048576: true; the input reads as it did. -/
def dbbNilUptoRow : OpenClaim := { program := "ytlaoookdegmnnaagreatdoor", sum := "526453e1239af3abd22334498f2143e4718f7e36049eea6786b88adf24b238ed", func := "byroad/byroadlaw14.DbbNil", spec := "dbbNil", inPlace := ["internal/reflectlite.ValueOf", "(internal/reflectlite.Value).Type", "(internal/reflectlite.Value).IsNil", "internal/reflectlite.TypeOf", "(internal/reflectlite.Value).Elem", "(internal/reflectlite.Value).Set", "internal/bytealg.abigen_runtime_cmpstring", "slices.overlaps[byroad/api.Row]", "slices.overlaps[byroad/chain.Version]"], unfollowed := true, recurses := true, named := ["errors.errorType"], apart := false, laid := [("errors.errorType", laid_errors_errorType)], narrowed := true }
def DbbNilUptoSaid : Prop := dbbNilUptoRow.holds Tryz.pinned (OpenSpec.upto dbbNilSpec)

/-- 'byroadlaw14.DbbSaves', WHERE WHAT IT READS IS OF BULK AT MOST 1048576: true; the input reads as it did. -/
def dbbSavesUptoRow : OpenClaim := { program := "ytlaoookdegmnnaagreatdoor", sum := "526453e1239af3abd22334498f2143e4718f7e36049eea6786b88adf24b238ed", func := "byroad/byroadlaw14.DbbSaves", spec := "dbbSaves", inPlace := ["internal/reflectlite.ValueOf", "(internal/reflectlite.Value).Type", "(internal/reflectlite.Value).IsNil", "internal/reflectlite.TypeOf", "(internal/reflectlite.Value).Elem", "(internal/reflectlite.Value).Set", "internal/bytealg.abigen_runtime_cmpstring", "slices.overlaps[byroad/api.Row]", "slices.overlaps[byroad/chain.Version]"], unfollowed := true, recurses := true, named := ["errors.errorType"], apart := false, laid := [("errors.errorType", laid_errors_errorType)], narrowed := true }
def DbbSavesUptoSaid : Prop := dbbSavesUptoRow.holds Tryz.pinned (OpenSpec.upto dbbSavesSpec)

/-- 'byroadlaw14.DbbSerial', WHERE WHAT IT READS IS OF BULK AT MOST 1048576: true; the input reads as it did. -/
def dbbSerialUptoRow : OpenClaim := { program := "ytlaoookdegmnnaagreatdoor", sum := "526453e1239af3abd22334498f2143e4718f7e36049eea6786b88adf24b238ed", func := "byroad/byroadlaw14.DbbSerial", spec := "dbbSerial", inPlace := ["internal/reflectlite.ValueOf", "(internal/reflectlite.Value).Type", "(internal/reflectlite.Value).IsNil", "internal/reflectlite.TypeOf", "(internal/reflectlite.Value).Elem", "(internal/reflectlite.Value).Set", "internal/bytealg.abigen_runtime_cmpstring", "slices.overlaps[byroad/api.Row]", "slices.overlaps[byroad/chain.Version]"], unfollowed := true, recurses := true, named := ["errors.errorType"], apart := false, laid := [("errors.errorType", laid_errors_errorType)], narrowed := true }
def DbbSerialUptoSaid : Prop := dbbSerialUptoRow.holds Tryz.pinned (OpenSpec.upto dbbSerialSpec)

/-- 'byroadlaw14.DbbPlays', WHERE WHAT IT READS IS OF BULK AT MOST 1048576: true; the input reads as it did. -/
def dbbPlaysUptoRow : OpenClaim := { program := "ytlaoookdegmnnaagreatdoor", sum := "526453e1239af3abd22334498f2143e4718f7e36049eea6786b88adf24b238ed", func := "byroad/byroadlaw14.DbbPlays", spec := "dbbPlays", inPlace := ["internal/reflectlite.ValueOf", "(internal/reflectlite.Value).Type", "(internal/reflectlite.Value).IsNil", "internal/reflectlite.TypeOf", "(internal/reflectlite.Value).Elem", "(internal/reflectlite.Value).Set", "internal/bytealg.abigen_runtime_cmpstring", "slices.overlaps[byroad/api.Row]", "slices.overlaps[byroad/chain.Version]"], unfollowed := true, recurses := true, named := ["errors.errorType"], apart := false, laid := [("errors.errorType", laid_errors_errorType)], narrowed := true }
def DbbPlaysUptoSaid : Prop := dbbPlaysUptoRow.holds Tryz.pinned (OpenSpec.upto dbbPlaysSpec)

/-- 'byroadlaw14.DbbLasts', WHERE WHAT IT READS IS OF BULK AT MOST 1048576: true; the input reads as it did. -/
def dbbLastsUptoRow : OpenClaim := { program := "ytlaoookdegmnnaagreatdoor", sum := "526453e1239af3abd22334498f2143e4718f7e36049eea6786b88adf24b238ed", func := "byroad/byroadlaw14.DbbLasts", spec := "dbbLasts", inPlace := ["internal/reflectlite.ValueOf", "(internal/reflectlite.Value).Type", "(internal/reflectlite.Value).IsNil", "internal/reflectlite.TypeOf", "(internal/reflectlite.Value).Elem", "(internal/reflectlite.Value).Set", "internal/bytealg.abigen_runtime_cmpstring", "slices.overlaps[byroad/api.Row]", "slices.overlaps[byroad/chain.Version]"], unfollowed := true, recurses := true, named := ["errors.errorType"], apart := false, laid := [("errors.errorType", laid_errors_errorType)], narrowed := true }
def DbbLastsUptoSaid : Prop := dbbLastsUptoRow.holds Tryz.pinned (OpenSpec.upto dbbLastsSpec)

end Rows
end Go.Proofs.YtlaoookdegmnnaaGreatDoor
