/- The example of the chapter, run once; the library's rows. -/
import Derived.Test.YtejlhgcheaimjaaGreatDoorChecked
import Derived.Test.YtejlhgcheaimjaaGreatDoorRtComp
import Derived.Test.YtejlhgcheaimjaaGreatDoorRtJoin
import Derived.Test.YtejlhgcheaimjaaGreatDoorRtNum
import Derived.Test.YtejlhgcheaimjaaGreatDoorAmLaid
import Derived.Test.YtejlhgcheaimjaaGreatDoorAmErr
import Derived.Test.YtejlhgcheaimjaaGreatDoorAmRows
import Derived.Test.YtejlhgcheaimjaaGreatDoorRtRefl
namespace Go.Proofs.YtejlhgcheaimjaaGreatDoor
open Go.AM
set_option maxRecDepth 100000

theorem mixed : Tryz.prog.follows .mixedOrders = true := Checked.mixed Tryz.checked
theorem few : Tryz.prog.funcs.size ≤ yieldId := Nat.le_of_ble_eq_true (by kernel_rfl)
def D0 : Disp := fun _ _ => none
/-- The powers of ten, a table of the library. -/
def pows : List AV := [.int .u64 1, .int .u64 10, .int .u64 100, .int .u64 1000, .int .u64 10000, .int .u64 100000, .int .u64 1000000, .int .u64 10000000, .int .u64 100000000, .int .u64 1000000000, .int .u64 10000000000, .int .u64 100000000000, .int .u64 1000000000000,
  .int .u64 10000000000000, .int .u64 100000000000000, .int .u64 1000000000000000, .int .u64 10000000000000000, .int .u64 100000000000000000, .int .u64 1000000000000000000, .int .u64 10000000000000000000]
def errT : List AV := [.iface 166 (.agg [.ty 9 51])]
/-- The table of powers, the two errors of the library: nobody touches them. -/
def tabT : List (Nat × (Array Value → Prop)) := [(1, fun c => c = (Lib.pow10Tab.map fun z => Value.int .u64 z).toArray), (5, fun c => ∃ t p, c = #[.iface t p]), (6, fun c => ∃ t p, c = #[.iface t p])]
noncomputable def M0 : Mu := mu2 Tryz.prog 1 20 0 1 tabT
def A0 : St := st2 pows errT
def G0 : Env := env2 1 0
def XL : Calls' := fun f args A => match f with
  | 18 => joinX args A
  | 110 => countX args A
  | 136 => indexX args A
  | _ => reflX f args A
theorem xl_ok (M0 : Mu) : GSound Tryz.prog M0 XL := fun f args A r B h => by
  unfold XL at h
  split at h
  · exact .inl ⟨⟨_, Tryz.func18, by kernel_rfl, by unfold Tryz.f18; decide⟩, fun F m w cargs _ R hc => join_ok Tryz.strings_Join_none (fun bk o c xs sep w h1 h2 h3 h4 h5 => Tryz.strings_Join bk o c xs sep w h1 h2 h3 h4 h5) h R hc⟩
  · exact .inr fun F m w cargs _ R hc => count_ok Tryz.func110 (by kernel_rfl) (by kernel_rfl) (by kernel_rfl) (by kernel_rfl) h R hc
  · exact .inr fun F m w cargs _ R hc => index_ok Tryz.func136 (by kernel_rfl) (by kernel_rfl) (by kernel_rfl) (by kernel_rfl) h R hc
  · exact reflX_ok _ _ _ _ _ h
theorem baseL : Base Tryz.prog M0 G0 fns XL := ⟨mixed, ⟨rfl, few⟩, baseOk_two (by decide), fns_ok, xl_ok M0⟩
def isT : Option (AV × St) → Bool
  | some (.bool true, _) => true
  | _ => false
def GA : Calls' := callsN D0 G0 fns (fun n => Nat.beq n 34) XL 60
theorem awake_run : isT (GA 12 [] A0) = true := by kernel_rfl
/-- The errors' types. -/
def ET : ErrT := ⟨[(95, 2), (129, 2)], 102⟩
/-- Texts and numbers of the library. -/
def rowsT : Calls' := fun f args A => match f with
  | 18 => joinX args A
  | 55 => fmtX args A
  | 89 => parseX 189 args A
  | 110 => countX args A
  | 136 => indexX args A
  | _ => none
theorem pow_is (w : World) (h : TabOk M0.tab (fun g => w.heap[g]?)) : Lib.TabIs Tryz.prog w "internal/strconv.uint64pow10" .u64 Lib.pow10Tab := by
  obtain ⟨c, e, fz, h1, h2⟩ := h _ (show ((1, fun c => c = (Lib.pow10Tab.map fun z => Value.int .u64 z).toArray) : Nat × (Array Value → Prop)) ∈ M0.tab from List.mem_cons_self)
  unfold Lib.TabIs World.var?
  rw [show Tryz.prog.globalNamed "internal/strconv.uint64pow10" = some 1 by kernel_rfl]
  simp only [Option.bind_some]
  simp only at h1 h2
  rw [h1, h2]
theorem err_is (w : World) (h : TabOk M0.tab (fun g => w.heap[g]?)) (g : Nat) (hg : g = 5 ∨ g = 6) : ∃ ev, w.cell? ⟨g, 0, none⟩ = some ev ∧ ∃ t p, ev = .iface t p := by
  have hm : ((g, fun c => ∃ t p, c = #[.iface t p]) : Nat × (Array Value → Prop)) ∈ M0.tab := by
    rcases hg with rfl | rfl
    · exact List.mem_cons_of_mem _ List.mem_cons_self
    · exact List.mem_cons_of_mem _ (List.mem_cons_of_mem _ List.mem_cons_self)
  obtain ⟨c, e, fz, h1, t, p, rfl⟩ := h _ hm
  simp only at h1
  refine ⟨.iface t p, ?_, t, p, rfl⟩
  unfold World.cell?
  simp [h1]
theorem rowsT_ok : GSound Tryz.prog M0 rowsT := fun f args A r B h => by
  unfold rowsT at h
  split at h
  · exact .inl ⟨⟨_, Tryz.func18, by kernel_rfl, by unfold Tryz.f18; decide⟩, fun F m w cargs _ R hc => join_ok Tryz.strings_Join_none (fun bk o c xs sep w h1 h2 h3 h4 h5 => Tryz.strings_Join bk o c xs sep w h1 h2 h3 h4 h5) h R hc⟩
  · exact .inl ⟨⟨_, Tryz.func55, by kernel_rfl, by unfold Tryz.f55; decide⟩, fun F m w cargs hm R hc => fmt_ok (fun n h0 h1 w ht => Tryz.strconv_FormatInt_10 n h0 h1 w ht) pow_is h hm R hc⟩
  · refine .inl ⟨⟨_, Tryz.func89, by kernel_rfl, by unfold Tryz.f89; decide⟩, fun F m w cargs hm R hc => parse_ok (T5 := 5) (fun s hs v hv w => Tryz.strconv_ParseInt_10_at64_ok s hs v hv w) (fun s hs hn w ht => ?_) h hm R hc⟩
    unfold parseV at hn ⊢
    cases hp : Lib.parseIntB 64 s.data.toList with
    | ok v => rw [hp] at hn; cases hn
    | range =>
      obtain ⟨ev, h1, t, p, h2⟩ := err_is w ht 6 (.inr rfl)
      exact (Any.strconv_ParseInt_10_at64_range Tryz.laysC174 s hs hp ev w h1 (.inr ⟨t, p, h2⟩)).mono fun e w' ⟨N, h1, h2, h3, h4⟩ => ⟨N, h1, h2, ⟨_, h3⟩, h4⟩
    | _ =>
      obtain ⟨ev, h1, t, p, h2⟩ := err_is w ht 5 (.inl rfl)
      exact (Any.strconv_ParseInt_10_at64_syntax Tryz.laysC174 s hs hp ev w h1 (.inr ⟨t, p, h2⟩)).mono fun e w' ⟨N, h1, h2, h3, h4⟩ => ⟨N, h1, h2, ⟨_, h3⟩, h4⟩
  · exact .inr fun F m w cargs _ R hc => count_ok Tryz.func110 (by kernel_rfl) (by kernel_rfl) (by kernel_rfl) (by kernel_rfl) h R hc
  · exact .inr fun F m w cargs _ R hc => index_ok Tryz.func136 (by kernel_rfl) (by kernel_rfl) (by kernel_rfl) (by kernel_rfl) h R hc
  · cases h
/-- The row of the example; the number of an error, its place; texts and numbers. -/
def XA : Calls' := orX (orX (nowhereG A0 GA (fun n => Nat.beq n 12)) (errX ET A0 GA (fun n => Nat.beq n 27 || Nat.beq n 26))) rowsT
theorem ga_ok : CSound Tryz.prog M0 GA := callsN_sound baseL _ 60
theorem globOk : GlobOk M0 A0 := globOk_two (g := 1) (h := 0) (cs := pows) (ds := errT) (by decide) (by kernel_rfl) (by kernel_rfl)
theorem globInp : GlobInp M0 A0 := globInp_two (g := 1) (h := 0) (cs := pows) (ds := errT) (by decide) (by kernel_rfl) (by kernel_rfl)
theorem xa_ok : GSound Tryz.prog M0 XA := orX_sound (orX_sound (nowhereG_sound ga_ok globOk _ rfl) (errX_sound ga_ok globInp _ rfl)) rowsT_ok
theorem same0 : sameTo A0 A0 A0.next = true := by kernel_rfl
theorem xa_true {A : St} (hs : ∀ f, f < A0.next → A.get f = A0.get f) : XA 12 [] A = some (.bool true, A) := by
  have h := awake_run
  unfold isT at h
  split at h
  · rename_i B hB
    unfold XA orX
    rw [nowhereG_of (by kernel_rfl) rfl hs same0 hB rfl]
  · cases h
/-- An error that stands for a number. -/
def ErrIs (A : St) (v : AV) (e : Int) : Prop := ∃ v' S B, errS ET A 10 v A0 = some (v', S) ∧ GA 27 [v'] S = some (.int .i64 e, B)
theorem xa_err {A : St} (hs : ∀ f, f < A0.next → A.get f = A0.get f) {f : FuncId} (hf : f = 27 ∨ f = 26) {v : AV} {e : Int} (h : ∃ v' S B, errS ET A 10 v A0 = some (v', S) ∧ GA f [v'] S = some (.int .i64 e, B)) : XA f [v] A = some (.int .i64 e, A) := by
  obtain ⟨v', S, B, h1, h2⟩ := h
  have hn : nowhereG A0 GA (fun n => Nat.beq n 12) f [v] A = none := by rcases hf with rfl | rfl <;> rfl
  have he : errX ET A0 GA (fun n => Nat.beq n 27 || Nat.beq n 26) f [v] A = some (.int .i64 e, A) := errX_of (by rcases hf with rfl | rfl <;> rfl) rfl hs same0 h1 h2 rfl
  unfold XA orX
  rw [hn, he]
theorem xa_code {A : St} (hs : ∀ f, f < A0.next → A.get f = A0.get f) {v : AV} {e : Int} (h : ErrIs A v e) : XA 27 [v] A = some (.int .i64 e, A) := xa_err hs (.inl rfl) h
/-- An error that tells a place. -/
def PlaceIs (A : St) (v : AV) (e : Int) : Prop := ∃ v' S B, errS ET A 10 v A0 = some (v', S) ∧ GA 26 [v'] S = some (.int .i64 e, B)
theorem xa_place {A : St} (hs : ∀ f, f < A0.next → A.get f = A0.get f) {v : AV} {e : Int} (h : PlaceIs A v e) : XA 26 [v] A = some (.int .i64 e, A) := xa_err hs (.inr rfl) h
/-- A plain error; one that tells where; one that tells a limit. -/
def SN (e : Int) : St := A0.push (.cells [.int .i64 e] [⟨0, 0, 1, 1⟩] 1 true)
def pN : AV := .iface 102 (.ptr (some (2, 0, 0)))
def SAt (i e : Int) : St := (SN e).push (.cells [pN, .int .i64 i] [⟨0, 0, 2, 1⟩] 1 true)
def SIn (s : List UInt8) (e : Int) : St := (SN e).push (.cells [pN, .str s] [⟨0, 0, 2, 1⟩] 1 true)
def fstOf : Option (AV × St) → Option AV
  | some (v, _) => some v
  | none => none
theorem fstOf_some {o : Option (AV × St)} {v : AV} (h : fstOf o = some v) : ∃ B, o = some (v, B) := by
  cases o with
  | none => cases h
  | some x => cases h; exact ⟨x.2, rfl⟩
theorem code_nil : fstOf (GA 27 [.nilIface] A0) = some (.int .i64 0) := by kernel_rfl
theorem code_at (i e : Int) : fstOf (GA 27 [.iface 95 (.ptr (some (3, 0, 0)))] (SAt i e)) = some (.int .i64 e) := by kernel_rfl
theorem code_in (s : List UInt8) (e : Int) : fstOf (GA 27 [.iface 129 (.ptr (some (3, 0, 0)))] (SIn s e)) = some (.int .i64 e) := by kernel_rfl
def SAtIn (i : Int) (s : List UInt8) (e : Int) : St := (SIn s e).push (.cells [.iface 129 (.ptr (some (3, 0, 0))), .int .i64 i] [⟨0, 0, 2, 1⟩] 1 true)
theorem code_atin (i : Int) (s : List UInt8) (e : Int) : fstOf (GA 27 [.iface 95 (.ptr (some (4, 0, 0)))] (SAtIn i s e)) = some (.int .i64 e) := by kernel_rfl
theorem place_at (i e : Int) : fstOf (GA 26 [.iface 95 (.ptr (some (3, 0, 0)))] (SAt i e)) = some (.int .i64 i) := by kernel_rfl
theorem place_atin (i : Int) (s : List UInt8) (e : Int) : fstOf (GA 26 [.iface 95 (.ptr (some (4, 0, 0)))] (SAtIn i s e)) = some (.int .i64 i) := by kernel_rfl
theorem errIs_nil (A : St) : ErrIs A .nilIface 0 := by
  obtain ⟨B, hB⟩ := fstOf_some code_nil
  exact ⟨_, _, B, rfl, hB⟩
theorem cells_made (A : St) {cs : List AV} {n : Nat} (h : cs.length = n) : (A.make cs 1).2.cells (A.next, 0, 0) n = some cs := by
  unfold St.cells St.look
  dsimp only
  rw [get_make]
  simp [findVer, h]
  rw [← h, List.take_length]
theorem cells_kept {A B : St} (x : A.Ext B) {p : Pl} (hp : p.1 < A.next) {n : Nat} {cs : List AV} (h : A.cells p n = some cs) : B.cells p n = some cs := by
  rw [St.cells_ext (x.get _ hp)]; exact h
theorem errIs_at {A : St} {f g : Nat} {i e : Int} (h1 : A.cells (f, 0, 0) 2 = some [.iface 102 (.ptr (some (g, 0, 0))), .int .i64 i]) (h2 : A.cells (g, 0, 0) 1 = some [.int .i64 e]) : ErrIs A (.iface 95 (.ptr (some (f, 0, 0)))) e := by
  obtain ⟨B, hB⟩ := fstOf_some (code_at i e)
  refine ⟨_, _, B, ?_, hB⟩
  simp only [errS, ET, elemP, Nat.beq, cond_false, cond_true, h1, h2]
  rfl
theorem errIs_in {A : St} {f g : Nat} {s : List UInt8} {e : Int} (h1 : A.cells (f, 0, 0) 2 = some [.iface 102 (.ptr (some (g, 0, 0))), .str s]) (h2 : A.cells (g, 0, 0) 1 = some [.int .i64 e]) : ErrIs A (.iface 129 (.ptr (some (f, 0, 0)))) e := by
  obtain ⟨B, hB⟩ := fstOf_some (code_in s e)
  refine ⟨_, _, B, ?_, hB⟩
  simp only [errS, ET, elemP, Nat.beq, cond_false, cond_true, h1, h2]
  rfl
theorem placeIs_at {A : St} {f g : Nat} {i e : Int} (h1 : A.cells (f, 0, 0) 2 = some [.iface 102 (.ptr (some (g, 0, 0))), .int .i64 i]) (h2 : A.cells (g, 0, 0) 1 = some [.int .i64 e]) : PlaceIs A (.iface 95 (.ptr (some (f, 0, 0)))) i := by
  obtain ⟨B, hB⟩ := fstOf_some (place_at i e)
  refine ⟨_, _, B, ?_, hB⟩
  simp only [errS, ET, elemP, Nat.beq, cond_false, cond_true, h1, h2]
  rfl
theorem errIs_atin {A : St} {f g k : Nat} {i e : Int} {s : List UInt8} (h1 : A.cells (f, 0, 0) 2 = some [.iface 129 (.ptr (some (g, 0, 0))), .int .i64 i]) (h2 : A.cells (g, 0, 0) 2 = some [.iface 102 (.ptr (some (k, 0, 0))), .str s]) (h3 : A.cells (k, 0, 0) 1 = some [.int .i64 e]) : ErrIs A (.iface 95 (.ptr (some (f, 0, 0)))) e ∧ PlaceIs A (.iface 95 (.ptr (some (f, 0, 0)))) i := by
  refine ⟨?_, ?_⟩
  · obtain ⟨B, hB⟩ := fstOf_some (code_atin i s e)
    refine ⟨_, _, B, ?_, hB⟩
    simp only [errS, ET, elemP, Nat.beq, cond_false, cond_true, h1, h2, h3]
    rfl
  · obtain ⟨B, hB⟩ := fstOf_some (place_atin i s e)
    refine ⟨_, _, B, ?_, hB⟩
    simp only [errS, ET, elemP, Nat.beq, cond_false, cond_true, h1, h2, h3]
    rfl
end Go.Proofs.YtejlhgcheaimjaaGreatDoor
