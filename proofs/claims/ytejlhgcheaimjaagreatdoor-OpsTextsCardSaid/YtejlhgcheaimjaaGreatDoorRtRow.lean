/- What the rows of this seat share: what lies at the start, the parameters. -/
import Derived.Test.YtejlhgcheaimjaaGreatDoorTie
import Derived.Test.YtejlhgcheaimjaaGreatDoorCards
import Derived.Test.YtejlhgcheaimjaaGreatDoorRtAwake
import Derived.Test.YtejlhgcheaimjaaGreatDoorRtRaw
import Derived.Test.YtejlhgcheaimjaaGreatDoorAmArgB
import Derived.Test.YtejlhgcheaimjaaGreatDoorAmLaid
import Derived.ProofKit
import Derived.LaidMore
import Derived.OpenShut
import Derived.Stop.Joined
import Derived.SevenTiedAt
import Derived.Lay
import Derived.Stop.LaidErr
namespace Go.Proofs.YtejlhgcheaimjaaGreatDoor
open Go Go.AM Go.ChangeShapes Go.WideShapes Go.ChangeAt Go.RowKit
set_option maxRecDepth 100000

theorem own : ownKnob Tryz.prog.godebug = none := by kernel_rfl
theorem laidOut : laidOutB Tryz.prog = true := by kernel_rfl
def laidL : List (String × DataW Unit) := [("math/bits.deBruijn32tab", Rows.laid_math_bits_deBruijn32tab), ("math/bits.deBruijn64tab", Rows.laid_math_bits_deBruijn64tab), ("internal/strconv.uint64pow10", Rows.laid_internal_strconv_uint64pow10), ("unicode/utf8.acceptRanges", Rows.laid_unicode_utf8_acceptRanges), ("errors.errorType", Rows.laid_errors_errorType), ("strconv.ErrRange", Rows.laid_strconv_ErrRange), ("strconv.ErrSyntax", Rows.laid_strconv_ErrSyntax), ("unicode/utf8.first", Rows.laid_unicode_utf8_first)]
def laidT : List (String × DataW Unit) := [("math/bits.deBruijn32tab", Rows.laid_math_bits_deBruijn32tab), ("math/bits.deBruijn64tab", Rows.laid_math_bits_deBruijn64tab), ("internal/strconv.uint64pow10", Rows.laid_internal_strconv_uint64pow10), ("unicode/utf8.acceptRanges", Rows.laid_unicode_utf8_acceptRanges), ("strconv.ErrRange", Rows.laid_strconv_ErrRange), ("strconv.ErrSyntax", Rows.laid_strconv_ErrSyntax), ("unicode/utf8.first", Rows.laid_unicode_utf8_first)]
def laidE : List (String × DataW Unit) := [("errors.errorType", Rows.laid_errors_errorType)]
theorem split_H : laidL.filter (fun x => x.2.handleName?.isSome) = laidE := by kernel_rfl
theorem split_T : laidL.filter (fun x => x.2.handleName?.isNone) = laidT := by kernel_rfl
noncomputable def w0 (os : Os) : World := (World.doorLaid Tryz.prog 400 os).layVars Tryz.prog laidT
theorem w0_os (os : Os) : (w0 os).os = os := by unfold w0; rw [World.layVars_os]; rfl
theorem fits_T (os : Os) : (World.doorLaid Tryz.prog 400 os).layFits Tryz.prog laidT [] = true := by kernel_rfl
theorem ifaces_T (os : Os) : (World.doorLaid Tryz.prog 400 os).layIfaces Tryz.prog laidT (w0 os) = true := by kernel_rfl
theorem met_T (os : Os) (args : Array Value) : laidMet Tryz.prog laidT ((w0 os).forCall (fun _ _ => 0) ⟨#[], args, []⟩).memory := by
  have e1 : (laidT.filter fun x => (laidT.map (·.1)).contains x.1) = laidT := List.filter_eq_self.2 fun x hx => List.contains_iff_mem.2 (List.mem_map.2 ⟨x, hx, rfl⟩)
  have e2 : (laidT.filter fun x => !(laidT.map (·.1)).contains x.1) = [] := List.filter_eq_nil_iff.2 fun x hx => by rw [List.contains_iff_mem.2 (List.mem_map.2 ⟨x, hx, rfl⟩)]; simp
  have h : laidMet Tryz.prog laidT (w0 os) := laidMet_layVars (w0 := World.doorLaid Tryz.prog 400 os) (laidT.map (·.1)) [] (by rw [e1]; rfl) (by rw [e1]; exact fits_T os) (by rw [e1]; exact ifaces_T os) (by rw [e2]; exact LaidIn.none)
  exact h.of_heap (by simp [World.memory, World.forCall, Input.heap])
theorem door_met (os : Os) (args : Array Value) : laidMetH Tryz.prog laidL ((w0 os).forCall (fun _ _ => 0) ⟨#[], args, []⟩).memory :=
  laidMetH_of_parts3 (fuel := 8) (by rw [split_T]; exact met_T os args) (by kernel_rfl) (by kernel_rfl)
theorem shaped (os : Os) : (World.variablesZipB Tryz.prog (w0 os)) = true := by kernel_rfl
theorem laid_parts {W : World} (h : laidMetH Tryz.prog laidL W) : laidMet Tryz.prog laidT W ∧ handlesMet Tryz.prog laidE W := by
  unfold laidMetH at h
  rw [split_H, split_T] at h
  exact h
def powZ : List Int := [1, 10, 100, 1000, 10000, 100000, 1000000, 10000000, 100000000, 1000000000, 10000000000, 100000000000, 1000000000000, 10000000000000, 100000000000000, 1000000000000000, 10000000000000000, 100000000000000000, 1000000000000000000, 10000000000000000000]
theorem pow_mem : (("internal/strconv.uint64pow10", (.agg (powZ.map fun i => .lit (.int .u64 i)) : DataW Unit)) : String × DataW Unit) ∈ laidT := by
  unfold laidT
  exact List.mem_cons_of_mem _ (List.mem_cons_of_mem _ (List.mem_cons_self))
theorem star206 : "*" ++ "errors.errorString" = "*errors.errorString" := by decide
theorem row206 (u : TypeId) (h : Tryz.prog.typeName? 3 u = some "*errors.errorString") : u = 206 :=
  typeName_ptr_named (nm := "errors.errorString") (by rw [star206]; kernel_rfl) (by kernel_rfl) (by decide) u (by rw [star206]; exact h)
theorem tab_ok {W : World} (h : laidMetH Tryz.prog laidL W) : TabOk tabT (fun g => W.heap[g]?) := by
  obtain ⟨⟨ps, h1, h0⟩, _⟩ := laid_parts h
  have hL : laidMet Tryz.prog laidT W := ⟨ps, h1, h0⟩
  have e1 := table_var (t := 181) (e := 66) (k := .u64) (ns := powZ) h1 pow_mem (by kernel_rfl : Tryz.prog.globalNamed "internal/strconv.uint64pow10" = some 1) (by kernel_rfl) (by kernel_rfl) (by kernel_rfl) (by kernel_rfl) (by kernel_rfl)
  obtain ⟨a6, s6, v6, _⟩ := laid_sentinel (tp := 206) (te := 208) (ts := 9) (ti := 51) hL.tail.tail.tail.tail (by kernel_rfl : Tryz.prog.globalNamed "strconv.ErrRange" = some 6) (by kernel_rfl) Tryz.underlying51 row206 Tryz.underlying206 Tryz.underlying208 rfl rfl Tryz.underlying9 (by kernel_rfl) (by kernel_rfl)
  obtain ⟨a5, s5, v5, _⟩ := laid_sentinel (tp := 206) (te := 208) (ts := 9) (ti := 51) hL.tail.tail.tail.tail.tail (by kernel_rfl : Tryz.prog.globalNamed "strconv.ErrSyntax" = some 5) (by kernel_rfl) Tryz.underlying51 row206 Tryz.underlying206 Tryz.underlying208 rfl rfl Tryz.underlying9 (by kernel_rfl) (by kernel_rfl)
  obtain ⟨e, fz, b1⟩ := var_block (by kernel_rfl : Tryz.prog.globalNamed "internal/strconv.uint64pow10" = some 1) e1
  obtain ⟨e6, fz6, b6⟩ := var_block (by kernel_rfl : Tryz.prog.globalNamed "strconv.ErrRange" = some 6) v6
  obtain ⟨e5, fz5, b5⟩ := var_block (by kernel_rfl : Tryz.prog.globalNamed "strconv.ErrSyntax" = some 5) v5
  intro p hp
  unfold tabT at hp
  simp only [List.mem_cons, List.not_mem_nil, or_false] at hp
  rcases hp with rfl | rfl | rfl
  · exact ⟨_, e, fz, b1, (by kernel_rfl : (powZ.map (Value.int .u64)).toArray = (Lib.pow10Tab.map fun z => Value.int .u64 z).toArray)⟩
  · exact ⟨_, e5, fz5, b5, _, _, rfl⟩
  · exact ⟨_, e6, fz6, b6, _, _, rfl⟩
theorem start {W : World} (h : laidMetH Tryz.prog laidL W) : Inp W M0 A0 := by
  obtain ⟨⟨ps, h1, _⟩, h2⟩ := laid_parts h
  obtain ⟨g1, g2⟩ := table_cells (t := 181) (e := 66) (k := .u64) (ns := powZ) h1 pow_mem (by kernel_rfl : Tryz.prog.globalNamed "internal/strconv.uint64pow10" = some 1) (by kernel_rfl) (by kernel_rfl) (by kernel_rfl) (by kernel_rfl) (by kernel_rfl)
  obtain ⟨g3, g4⟩ := handle_cell (ty := 51) (rt := 166) (sz := Tryz.prog.types.size) (ng := 9) h2 (List.mem_singleton.2 rfl) (by kernel_rfl : Tryz.prog.globalNamed "errors.errorType" = some 0) (by kernel_rfl) rfl (by kernel_rfl) (by kernel_rfl)
  refine inp_two (t := tabT) (cs := pows) (ds := errT) (ys := powZ.map (Value.int .u64)) (zs := [.iface 166 (.agg #[.pointer (some ⟨9, 51, none⟩)])]) rfl rfl g1 g3 g2 (fun i y hy => ?_) (tab_ok h)
  cases i with
  | zero => simp at hy; subst hy; exact g4
  | succ i => simp at hy
theorem opT41 : OpT Tryz.prog 41 := ⟨⟨_, _, _, _, _, Tryz.underlying41, rfl, Tryz.underlying3, Tryz.underlying9, Tryz.underlying2, Tryz.underlying2⟩⟩
theorem par22 : argOk Tryz.prog 5 22 = true ∧ Tryz.prog.readableRec 22 = true ∧ 22 < Tryz.prog.types.size := ⟨by kernel_rfl, by kernel_rfl, of_decide_eq_true (by kernel_rfl)⟩
theorem par3 : argOk Tryz.prog 5 3 = true ∧ Tryz.prog.readableRec 3 = true ∧ 3 < Tryz.prog.types.size := ⟨by kernel_rfl, by kernel_rfl, of_decide_eq_true (by kernel_rfl)⟩
theorem par5 : argOk Tryz.prog 5 5 = true ∧ Tryz.prog.readableRec 5 = true ∧ 5 < Tryz.prog.types.size := ⟨by kernel_rfl, by kernel_rfl, of_decide_eq_true (by kernel_rfl)⟩
theorem par33 : argOk Tryz.prog 5 33 = true ∧ Tryz.prog.readableRec 33 = true ∧ 33 < Tryz.prog.types.size := ⟨by kernel_rfl, by kernel_rfl, of_decide_eq_true (by kernel_rfl)⟩
theorem par9 : argOk Tryz.prog 5 9 = true ∧ Tryz.prog.readableRec 9 = true ∧ 9 < Tryz.prog.types.size := ⟨by kernel_rfl, by kernel_rfl, of_decide_eq_true (by kernel_rfl)⟩
/-- The functions of the laws are the program's. -/
theorem fnsL_comp : ∀ f afn, fnsL f = some afn → ∃ fn, Tryz.prog.funcs[f]? = some fn ∧ compFn Tryz.prog fn = some afn ∧ fn.name ≠ "runtime.NumGoroutine" := fun f afn hf => fns_ok f afn (by
  unfold fnsL at hf
  cases hc : Nat.beq f 12 || (Nat.beq f 27 || (Nat.beq f 26 || (Nat.beq f 18 || (Nat.beq f 55 || Nat.beq f 89)))) with
  | true => rw [hc] at hf; cases hf
  | false => rw [hc] at hf; exact hf)
end Go.Proofs.YtejlhgcheaimjaaGreatDoor
