/- Errors that are made. -/
import Derived.Test.YtejlhgcheaimjaaGreatDoorRtRaw
import Derived.Test.YtejlhgcheaimjaaGreatDoorRtAwake
namespace Go.Proofs.YtejlhgcheaimjaaGreatDoor
open Go.AM
set_option maxRecDepth 100000
set_option linter.unusedSimpArgs false
theorem awake_spec {A : St} (h : A0.Ext A) : Ev D0 G0 fnsL XA 12 [] A fun r B => A = B ∧ r = .bool true :=
  Ev.ext rfl (xa_true h.get) ⟨rfl, rfl⟩
theorem code_spec {A : St} (h : A0.Ext A) {v : AV} {e : Int} (he : ErrIs A v e) : Ev D0 G0 fnsL XA 27 [v] A fun r B => A = B ∧ r = .int .i64 e :=
  Ev.ext rfl (xa_code h.get he) ⟨rfl, rfl⟩
variable {D : Disp} {G0 : Env} {X : Calls'}
theorem new_spec {A : St} {e : Int} (he : e ≠ 0) : Ev D G0 fnsL X 63 [.int .i64 e] A fun r B => r = .iface 102 (.ptr (some (A.next, 0, 0))) ∧ B = (A.make [.int .i64 e] 1).2 := by
  refine Ev.fnK (fn := a63) rfl ⟨by simp [a63], by decide⟩ ?_
  unfold a63
  simp [he, fillA, AV.isBot, AV.cells, splice, boxV, Made.value, mkIfaceV]
theorem at_spec {A : St} {i : Int} {t : TypeId} {v : AV} : Ev D G0 fnsL X 25 [.int .i64 i, .iface t v] A fun r B => r = .iface 95 (.ptr (some (A.next, 0, 0))) ∧ B = (A.make [.iface t v, .int .i64 i] 1).2 := by
  refine Ev.fnK (fn := a25) rfl ⟨by simp [a25], by decide⟩ ?_
  unfold a25
  simp [eqV, eqOf, fillA, AV.isBot, AV.cells, splice, boxV, Made.value, mkIfaceV]
theorem in_spec {A : St} {s : List UInt8} {t : TypeId} {v : AV} : Ev D G0 fnsL X 65 [.str s, .iface t v] A fun r B => r = .iface 129 (.ptr (some (A.next, 0, 0))) ∧ B = (A.make [.iface t v, .str s] 1).2 := by
  refine Ev.fnK (fn := a65) rfl ⟨by simp [a65], by decide⟩ ?_
  unfold a65
  simp [eqV, eqOf, fillA, AV.isBot, AV.cells, splice, boxV, Made.value, mkIfaceV]

theorem errIs_atnew (C : St) (i e : Int) : C.Ext ((C.make [.int .i64 e] 1).2.make [.iface 102 (.ptr (some (C.next, 0, 0))), .int .i64 i] 1).2 ∧ ErrIs ((C.make [.int .i64 e] 1).2.make [.iface 102 (.ptr (some (C.next, 0, 0))), .int .i64 i] 1).2 (.iface 95 (.ptr (some ((C.make [.int .i64 e] 1).2.next, 0, 0)))) e := by
  have x1 := ext_make C [.int .i64 e] 1
  have c1 := cells_made C (cs := [.int .i64 e]) (n := 1) rfl
  have hlt : C.next < (C.make [.int .i64 e] 1).2.next := Nat.lt_succ_self _
  generalize (C.make [.int .i64 e] 1).2 = A1 at *
  have x2 := ext_make A1 [.iface 102 (.ptr (some (C.next, 0, 0))), .int .i64 i] 1
  have c2 := cells_made A1 (cs := [.iface 102 (.ptr (some (C.next, 0, 0))), .int .i64 i]) (n := 2) rfl
  have c3 := cells_kept x2 (p := (C.next, 0, 0)) hlt c1
  exact ⟨x1.trans x2, errIs_at c2 c3⟩
end Go.Proofs.YtejlhgcheaimjaaGreatDoor
