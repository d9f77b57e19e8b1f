/- The abstract machine: all that a closed run may come to, whichever way a step over a map goes. -/
import Derived.Test.YtejlhgcheaimjaaGreatDoorAmAnySim
import Derived.Test.YtejlhgcheaimjaaGreatDoorAmSort
namespace Go.AM
set_option linter.unusedVariables false
set_option linter.unusedSimpArgs false

def bindAll {α β : Type} : List α → (α → Option (List β)) → Option (List β)
  | [], _ => some []
  | a :: l, g => match g a with
    | some x => (match bindAll l g with | some y => some (x ++ y) | none => none)
    | none => none
theorem bindAll_mem {α β : Type} {g : α → Option (List β)} : ∀ {l : List α} {r : List β}, bindAll l g = some r → ∀ a ∈ l, ∃ x, g a = some x ∧ ∀ b ∈ x, b ∈ r
  | [], _, _, a, h => by cases h
  | a :: l, r, h, c, hc => by
    simp only [bindAll] at h
    split at h
    · rename_i x hx
      split at h
      · rename_i y hy
        cases h
        rcases List.mem_cons.1 hc with rfl | hc
        · exact ⟨x, hx, fun b hb => List.mem_append_left _ hb⟩
        · obtain ⟨z, h1, h2⟩ := bindAll_mem hy c hc
          exact ⟨z, h1, fun b hb => List.mem_append_right _ (h2 b hb)⟩
      · cases h
    · cases h

def T.del {α : Type} : T α → Nat → T α
  | .nil, _ => .nil
  | .node l v r, n => bif Nat.beq n 0 then .node l none r else bif Nat.beq (n % 2) 1 then .node (l.del (n / 2)) v r else .node l v (r.del (n / 2 - 1))
theorem T.get_del {α : Type} : ∀ (t : T α) (n k : Nat) {b : α}, (t.del n).get k = some b → t.get k = some b
  | .nil, _, _, _, h => h
  | .node l v r, n, k, b, h => by
    simp only [T.del] at h
    cases hn : Nat.beq n 0 with
    | true =>
      simp only [hn, cond_true, T.get] at h ⊢
      cases hk : Nat.beq k 0 with
      | true => simp only [hk, cond_true] at h; cases h
      | false => simp only [hk, cond_false] at h ⊢; exact h
    | false =>
      cases hm : Nat.beq (n % 2) 1 with
      | true =>
        simp only [hn, hm, cond_true, cond_false, T.get] at h ⊢
        cases hk : Nat.beq k 0 with
        | true => simp only [hk, cond_true] at h ⊢; exact h
        | false =>
          cases hk2 : Nat.beq (k % 2) 1 with
          | true => simp only [hk, hk2, cond_true, cond_false] at h ⊢; exact T.get_del l _ _ h
          | false => simp only [hk, hk2, cond_false] at h ⊢; exact h
      | false =>
        simp only [hn, hm, cond_false, T.get] at h ⊢
        cases hk : Nat.beq k 0 with
        | true => simp only [hk, cond_true] at h ⊢; exact h
        | false =>
          cases hk2 : Nat.beq (k % 2) 1 with
          | true => simp only [hk, hk2, cond_true, cond_false] at h ⊢; exact h
          | false => simp only [hk, hk2, cond_false] at h ⊢; exact T.get_del r _ _ h
def St.del (A : St) (f : Nat) : St := { A with heap := A.heap.del f }

/-- Where a step over a map's entries may lead. -/
def nextN (E : Env) (A : St) (it : Operand) : Option (List (AV × St)) :=
  match ev E it with
  | .ptr (some (f, 0, 0)) => match A.get f with
    | some (.iter (.map (some g) since seen last)) => match A.get g with
      | some (.map es clock) => bif (!seen.isEmpty && !es.isEmpty && es.all fun e => decide (e.2.2 ≥ last)) then none else
        some ((bif (oldOf since seen es).isEmpty then [(.tuple [.bool false], A.del f)] else []) ++
          (oldOf since seen es ++ newOf' since seen es).map fun e => (.tuple [.bool true, e.1, e.2.1], A.put f (.iter (.map (some g) since (seen ++ [e.2.2]) clock))))
      | _ => none
    | _ => none
  | _ => none
def nextOp : AOp → Option Operand
  | .next false it => some it
  | _ => none
def runOpsN (D : Disp) (G : Calls') : List AOper → Env → St → Option (List (Env × St))
  | [], E, A => some [(E, A)]
  | o :: l, E, A =>
    match wantedA E o.guard with
    | some true => match (match nextOp o.op with | some it => nextN E A it | none => none) with
      | some L => bindAll L fun x => runOpsN D G l (Env.put E o.dst x.1) x.2
      | none => match opOfL D G E A o.op with
        | some (v, B) => runOpsN D G l (Env.put E o.dst v) B
        | none => none
    | some false => runOpsN D G l (Env.put E o.dst (.tuple [])) A
    | none => none
def loopsN (g : Env → St → Option (List (Ex × Env × St))) : Nat → Env → St → Option (List (Ex × Env × St))
  | 0, _, _ => none
  | n + 1, E, A => match g E A with
    | some L => bindAll L fun x => match x with
      | (.normal, E', A') => loopsN g n E' A'
      | x => some [x]
    | none => none
def one {α : Type} : Option α → Option (List α)
  | some x => some [x]
  | none => none
def leave (id : Nat) : Ex × Env × St → Ex × Env × St
  | (.exit i, E', A') => if i = id then (.normal, E', A') else (.exit i, E', A')
  | r => r
def interpN (D : Disp) (G : Calls') (n : Nat) : ACode → Env → St → Option (List (Ex × Env × St))
  | .region ops, E, A => match runOpsN D G ops E A with | some L => some (L.map fun x => (.normal, x.1, x.2)) | none => none
  | .seq a b, E, A => match interpN D G n a E A with
    | some L => bindAll L fun x => match x with
      | (.normal, E', A') => interpN D G n b E' A'
      | x => some [x]
    | none => none
  | .cond c x y, E, A => match ev E c with
    | .bool true => interpN D G n x E A
    | .bool false => interpN D G n y E A
    | _ => none
  | .block id c, E, A => match interpN D G n c E A with
    | some L => some (L.map (leave id))
    | none => none
  | .loop c, E, A => loopsN (interpN D G n c) n E A
  | c, E, A => one (interp D G n c E A)

section
variable {P : Program} {M0 : Mu} {n : Nat} {D : Disp} {G0 : Env} {fns : Nat → Option AFn} {X : Calls'}

theorem OpAny.weaken {ao : AOp} {E : Env} {A : St} {K K' : AV → St → Prop} (h : OpAny P M0 n ao E A K') (hk : ∀ v B, K' v B → ∃ B', B.next ≤ B'.next ∧ (∀ f b, B'.get f = some b → B.get f = some b) ∧ K v B') : OpAny P M0 n ao E A K :=
  fun o hc F m a w R e next Q k => h o hc F m a w R e next Q fun c m' w' v B h1 h2 h3 h4 => by
    obtain ⟨B', g1, g2, g3⟩ := hk v B h4
    exact k c m' w' v B' h1 (h2.weaken g1 g2) h3 g3
theorem MRun.mono : ∀ {l : List AOper} {E : Env} {A : St} {Q Q' : Env → St → Prop}, MRun P M0 n l E A Q → (∀ E A, Q E A → Q' E A) → MRun P M0 n l E A Q'
  | [], E, A, Q, Q', h, hq => hq _ _ h
  | o :: l, E, A, Q, Q', h, hq => by
    simp only [MRun] at h ⊢
    split at h
    · exact OpAny.mono h fun v B hK => MRun.mono hK hq
    · exact MRun.mono h hq
    · exact h
theorem runOpsN_sound {G : Calls'} (hG : CSound P M0 G) : ∀ {l : List AOper} {E : Env} {A : St} {L : List (Env × St)}, runOpsN D G l E A = some L → MRun P M0 n l E A fun E' A' => (E', A') ∈ L
  | [], E, A, L, h => by
    simp only [runOpsN, Option.some.injEq] at h
    subst h
    simp [MRun]
  | o :: l, E, A, L, h => by
    simp only [runOpsN] at h
    simp only [MRun]
    split at h
    · rename_i hw
      rw [hw]
      simp only []
      split at h
      · rename_i L1 hL1
        cases hn : nextOp o.op with
        | none => rw [hn] at hL1; cases hL1
        | some it =>
          rw [hn] at hL1
          have hop : o.op = .next false it := by
            generalize o.op = op at hn
            unfold nextOp at hn
            split at hn
            · cases hn; rfl
            · cases hn
          simp only [nextN] at hL1
          split at hL1
          rotate_left
          · cases hL1
          rename_i f hx
          split at hL1
          rotate_left
          · cases hL1
          rename_i g since seen last hg
          split at hL1
          rotate_left
          · cases hL1
          rename_i es clock hgm
          cases hgone : (!seen.isEmpty && !es.isEmpty && es.all fun e => decide (e.2.2 ≥ last)) with
          | true => rw [hgone] at hL1; cases hL1
          | false =>
          rw [hgone] at hL1
          simp only [cond_false, Option.some.injEq] at hL1
          have key : ∀ x ∈ L1, MRun P M0 n l (Env.put E o.dst x.1) x.2 fun E' A' => (E', A') ∈ L := fun x hx' => by
            obtain ⟨y, h1, h2⟩ := bindAll_mem h x hx'
            exact (runOpsN_sound hG h1).mono fun E A hm => h2 _ hm
          rw [hop]
          refine OpAny.weaken (OpAny.next (K := fun v B => (v, B) ∈ L1 ∨ (oldOf since seen es = [] ∧ v = .tuple [.bool false] ∧ B = A)) hx hg hgm hgone (fun ho => .inr ⟨ho, rfl, rfl⟩) (fun k v b hm => .inl ?_)) fun v B hK => ?_
          · rw [← hL1]
            refine List.mem_append_right _ (List.mem_map.2 ⟨(k, v, b), hm, rfl⟩)
          · rcases hK with hK | ⟨ho, rfl, rfl⟩
            · exact ⟨B, Nat.le_refl _, fun _ _ h => h, key _ hK⟩
            · refine ⟨B.del f, Nat.le_refl _, fun f' b h => T.get_del _ _ _ h, key (.tuple [.bool false], B.del f) ?_⟩
              rw [← hL1, ho]
              exact List.mem_append_left _ (List.mem_singleton.2 rfl)
      · split at h
        · rename_i v B hop
          exact OpAny.det (K := fun v B => MRun P M0 n l (Env.put E o.dst v) B _) hG hop (runOpsN_sound hG h)
        · cases h
    · rename_i hw
      rw [hw]
      exact runOpsN_sound hG h
    · cases h

theorem interpN_leaf (hmx : P.follows .mixedOrders = true) (hp : PgOk M0 P) {G : Calls'} (hG : CSound P M0 G) {k : Nat} {ac : ACode} {E : Env} {A : St} {L : List (Ex × Env × St)} (h : one (interp D G k ac E A) = some L) : MW P M0 n ac E A fun ex E' A' => (ex, E', A') ∈ L := by
  cases hi : interp D G k ac E A with
  | none => rw [hi] at h; cases h
  | some x =>
    rw [hi] at h
    cases h
    obtain ⟨ex, E', A'⟩ := x
    exact MW.det hmx hp hG hi (List.mem_singleton.2 rfl)
theorem interpN_sound (hmx : P.follows .mixedOrders = true) (hp : PgOk M0 P) {G : Calls'} (hG : CSound P M0 G) {k : Nat} : ∀ (ac : ACode) {E : Env} {A : St} {L : List (Ex × Env × St)}, interpN D G k ac E A = some L → MW P M0 n ac E A fun ex E' A' => (ex, E', A') ∈ L
  | .region ops, E, A, L, h => by
    simp only [interpN] at h
    split at h
    · rename_i L1 h1
      cases h
      exact MW.region ((runOpsN_sound hG h1).mono fun E A hm => List.mem_map.2 ⟨(E, A), hm, rfl⟩)
    · cases h
  | .seq a b, E, A, L, h => by
    simp only [interpN] at h
    split at h
    · rename_i L1 h1
      refine MW.seq ((interpN_sound hmx hp hG a h1).mono fun ex E' A' hm => ?_)
      obtain ⟨y, g1, g2⟩ := bindAll_mem h _ hm
      cases ex with
      | normal => exact (interpN_sound hmx hp hG b g1).mono fun ex E A hm => g2 _ hm
      | exit i => cases g1; exact g2 _ (List.mem_singleton.2 rfl)
      | ret => cases g1; exact g2 _ (List.mem_singleton.2 rfl)
    · cases h
  | .cond c x y, E, A, L, h => by
    simp only [interpN] at h
    split at h
    · rename_i hc
      exact MW.cond hc (fun _ => interpN_sound hmx hp hG x h) (fun h => by cases h)
    · rename_i hc
      exact MW.cond hc (fun h => by cases h) (fun _ => interpN_sound hmx hp hG y h)
    · cases h
  | .block id c, E, A, L, h => by
    simp only [interpN] at h
    split at h
    · rename_i L1 h1
      cases h
      refine MW.block ((interpN_sound hmx hp hG c h1).mono fun ex E' A' hm => ?_)
      have hm' : leave id (ex, E', A') ∈ L1.map (leave id) := List.mem_map.2 ⟨_, hm, rfl⟩
      cases ex with
      | normal => exact hm'
      | ret => exact hm'
      | exit i =>
        simp only [leave] at hm'
        by_cases hi : i = id
        · simp only [if_pos hi] at hm' ⊢; exact hm'
        · simp only [if_neg hi] at hm' ⊢; exact hm'
    · cases h
  | .loop c, E, A, L, h => by
    simp only [interpN] at h
    refine MW.loop (fun d E A => ∃ L', loopsN (interpN D G k c) d E A = some L' ∧ ∀ x ∈ L', x ∈ L) k ⟨L, h, fun _ h => h⟩ fun d E A hI => ?_
    obtain ⟨L', h1, h2⟩ := hI
    cases d with
    | zero => cases h1
    | succ d =>
      simp only [loopsN] at h1
      split at h1
      · rename_i L1 hL1
        refine (interpN_sound hmx hp hG c hL1).mono fun ex E' A' hm => ?_
        obtain ⟨y, g1, g2⟩ := bindAll_mem h1 _ hm
        cases ex with
        | normal => exact ⟨d, Nat.lt_succ_self d, y, g1, fun x hx => h2 _ (g2 _ hx)⟩
        | exit i => cases g1; exact h2 _ (g2 _ (List.mem_singleton.2 rfl))
        | ret => cases g1; exact h2 _ (g2 _ (List.mem_singleton.2 rfl))
      · cases h1
  | .skip, E, A, L, h => interpN_leaf hmx hp hG h
  | .draws l, E, A, L, h => interpN_leaf hmx hp hG h
  | .exit i, E, A, L, h => interpN_leaf hmx hp hG h
  | .ret, E, A, L, h => interpN_leaf hmx hp hG h
  | .rangeF .., E, A, L, h => interpN_leaf hmx hp hG h
end

/-! ### Values without places; states that are the same -/

def T.beq : T Blk → T Blk → Bool
  | .nil, .nil => true
  | .node l v r, .node l' v' r' => oblkBeq v v' && (l.beq l' && r.beq r')
  | _, _ => false
theorem T.beq_eq : ∀ {a b : T Blk}, T.beq a b = true → a = b
  | .nil, .nil, _ => rfl
  | .node l v r, .node l' v' r', h => by
    simp only [T.beq, Bool.and_eq_true] at h
    rw [oblkBeq_eq h.1, T.beq_eq h.2.1, T.beq_eq h.2.2]
  | .nil, .node _ _ _, h => by cases h
  | .node _ _ _, .nil, h => by cases h
def St.beq (A B : St) : Bool := Nat.beq A.next B.next && T.beq A.heap B.heap
theorem St.beq_eq {A B : St} (h : St.beq A B = true) : A = B := by
  obtain ⟨a, b⟩ := A
  obtain ⟨c, d⟩ := B
  simp only [St.beq, Bool.and_eq_true] at h
  have h1 := Nat.eq_of_beq_eq_true h.1
  have h2 := T.beq_eq h.2
  rw [h1, h2]
mutual
/-- The families, from lo on, that a value tells of, and their versions. -/
def refsA (lo : Nat) : AV → List (Nat × Nat)
  | .ptr (some p) => bif Nat.ble lo p.1 then [(p.1, p.2.1)] else []
  | .slice (some p) _ _ _ _ => bif Nat.ble lo p.1 then [(p.1, p.2.1)] else []
  | .map (some f) => bif Nat.ble lo f then [(f, 0)] else []
  | .func _ x y => refsL lo x ++ refsL lo y
  | .iface _ v => refsA lo v
  | .agg l | .tuple l => refsL lo l
  | _ => []
def refsL (lo : Nat) : List AV → List (Nat × Nat)
  | [] => []
  | a :: l => refsA lo a ++ refsL lo l
end
def refsM (lo : Nat) : List (AV × AV × Nat) → List (Nat × Nat)
  | [] => []
  | (k, v, _) :: l => refsA lo k ++ (refsA lo v ++ refsM lo l)
def refsB (lo : Nat) : Option Blk → List (Nat × Nat)
  | some (.cells cs _ _ _) => refsL lo cs
  | some (.map es _) => refsM lo es
  | some (.iter (.map (some g) _ _ _)) => bif Nat.ble lo g then [(g, 0)] else []
  | _ => []
def refsTo (lo : Nat) (B : St) : Nat → List (Nat × Nat)
  | 0 => []
  | n + 1 => refsB lo (B.get n) ++ refsTo lo B n
def memN (n : Nat) : List Nat → Bool
  | [] => false
  | x :: l => Nat.beq n x || memN n l
def memP (n v : Nat) : List (Nat × Nat) → Bool
  | [] => false
  | x :: l => Nat.beq n x.1 && Nat.beq v x.2 || memP n v l
/-- The families that are told of, and all that tell of them. -/
def reach (lo : Nat) (B : St) : Nat → List (Nat × Nat) → List Nat → List (Nat × Nat) → List Nat × List (Nat × Nat)
  | 0, _, seen, all => (seen, all)
  | _ + 1, [], seen, all => (seen, all)
  | k + 1, x :: t, seen, all => bif memN x.1 seen then reach lo B k t seen (x :: all) else reach lo B k (refsB lo (B.get x.1) ++ t) (x.1 :: seen) (x :: all)
def fewer (all : List (Nat × Nat)) (f : Nat) (B : St) : St :=
  match B.get f with
  | some (.cells cs vers nv ro) => B.put f (.cells cs (vers.filter fun x => memP f x.v all) nv ro)
  | _ => B
/-- New families that nothing tells of are forgotten. -/
def sweep (keep : List Nat) (all : List (Nat × Nat)) : Nat → Nat → St → St
  | 0, _, B => B
  | n + 1, f, B => sweep keep all n (f + 1) (bif memN f keep then fewer all f B else B.del f)
theorem Rel.fewer {F : Fr} {m : Mu} {B : St} {w : World} (R : Rel F m B w) (all : List (Nat × Nat)) (f : Nat) : Rel F m (fewer all f B) w := by
  unfold AM.fewer
  split
  rotate_left
  · exact R
  rename_i cs vers nv ro hg
  have hrw : ∀ g, (B.put f (.cells cs (vers.filter fun x => memP f x.v all) nv ro)).Rw g → B.Rw g := fun g ⟨b, hb, hr⟩ => by
    rw [St.get_put] at hb
    split at hb
    · rename_i e
      subst e
      cases hb
      exact ⟨_, hg, hr⟩
    · exact ⟨b, hb, hr⟩
  refine ⟨R.dom, fun g b h => ?_, R.keep, R.rest, fun g v l g' u k h h' hne hr => R.apart g v l g' u k h h' hne (hrw g hr), fun g v l h hr => R.unf g v l h (hrw g hr), R.same, fun g l h hr => R.orig g l h (hrw g hr), R.frm⟩
  rw [St.get_put] at h
  split at h
  · rename_i e
    subst e
    cases h
    have H := R.got _ _ hg
    exact ⟨fun x hx => H.1 x (List.mem_filter.1 hx).1, H.2⟩
  · exact R.got g b h
theorem Rel.sweep {F : Fr} {m : Mu} {w : World} (keep : List Nat) (all : List (Nat × Nat)) : ∀ (n f : Nat) {B : St}, Rel F m B w → Rel F m (sweep keep all n f B) w
  | 0, _, B, R => R
  | n + 1, f, B, R => by
    simp only [AM.sweep]
    cases memN f keep with
    | true => exact Rel.sweep keep all n (f + 1) (R.fewer all f)
    | false => exact Rel.sweep keep all n (f + 1) (R.weaken (B := B.del f) (Nat.le_refl _) fun g b h => T.get_del _ _ _ h)
def tidy (A : St) (r : AV) (B : St) : St :=
  match reach A.next B 10000 (refsA A.next r ++ refsTo A.next B A.next) [] [] with
  | (keep, all) => sweep keep all (B.next - A.next) A.next B
theorem Rel.tidy {F : Fr} {m : Mu} {A B : St} {w : World} {r : AV} (R : Rel F m B w) : Rel F m (tidy A r B) w := R.sweep _ _ _ _
/-- What is told of an outcome: where all that lay lies as it did, and the result tells of no place, the rest is forgotten. -/
def outN (A : St) (r : AV) (B : St) : AV × St := bif noPlace r && sameTo A B A.next then (r, A) else (r, tidy A r B)
theorem outN_sound {F : Fr} {m m' : Mu} {A B B0 : St} {r r0 : AV} {w w' : World} {c : Value} (h : outN A r B = (r0, B0)) (R : Rel F m A w) (hle : m.le m') (R' : Rel F m' B w') (hc : cvo m' r = some c) : ∃ m2, m.le m2 ∧ Rel F m2 B0 w' ∧ cvo m2 r0 = some c := by
  unfold outN at h
  cases hb : noPlace r && sameTo A B A.next with
  | false => rw [hb] at h; cases h; exact ⟨m', hle, R'.tidy, hc⟩
  | true =>
    rw [hb] at h
    cases h
    simp only [Bool.and_eq_true] at hb
    exact ⟨m, Mu.le_refl m, canon0 R R' hle (sameTo_spec hb.2), by rw [← noPlace_spec m m' r hb.1]; exact hc⟩
def outBeq (a b : AV × St) : Bool := AV.beq a.1 b.1 && St.beq a.2 b.2
theorem outBeq_eq {a b : AV × St} (h : outBeq a b = true) : a = b := by
  obtain ⟨a1, a2⟩ := a
  obtain ⟨b1, b2⟩ := b
  simp only [outBeq, Bool.and_eq_true] at h
  rw [AV.beq_eq _ _ h.1, St.beq_eq h.2]
def resN (A : St) (res : List ARes) : Ex × Env × St → Option (AV × St)
  | (.exit _, _, _) => none
  | (_, E, B) => match resVals E B res with
    | some l => some (outN A (packRes l) B)
    | none => none
def allSame (A : St) (res : List ARes) (r : AV × St) : List (Ex × Env × St) → Bool
  | [] => true
  | x :: l => (match resN A res x with | some y => outBeq r y | none => false) && allSame A res r l
def runFnN (D : Disp) (G : Calls') (k : Nat) (G0 : Env) (fn : AFn) (args : List AV) (A : St) : Option (AV × St) :=
  if args.length ≤ fn.n ∧ fn.n ≤ 1000000 then
    match interpN D G k fn.body (setArgs 0 args G0) A with
    | some (x :: l) => match resN A fn.res x with
      | some r => bif allSame A fn.res r l then some r else none
      | none => none
    | _ => none
  else none
/-- The calls of a program, 'nd' of its functions run all ways. -/
def callsN (D : Disp) (G0 : Env) (fns : Nat → Option AFn) (nd : Nat → Bool) (X : Calls') : Nat → Calls'
  | 0, _, _, _ => none
  | k + 1, f, args, A => match fns f with
    | some fn => bif nd f then runFnN D (callsN D G0 fns nd X k) k G0 fn args A else runFn D (callsN D G0 fns nd X k) k G0 fn args A
    | none => bif Nat.beq f yieldId then runRound D (callsN D G0 fns nd X k) k args A else X f args A

section
variable {P : Program} {M0 : Mu} {D : Disp} {G0 : Env} {fns : Nat → Option AFn} {X : Calls'}
theorem allSame_spec {A : St} {res : List ARes} {r : AV × St} : ∀ {l : List (Ex × Env × St)}, allSame A res r l = true → ∀ x ∈ l, resN A res x = some r
  | [], _, x, h => by cases h
  | y :: l, h, x, hx => by
    simp only [allSame, Bool.and_eq_true] at h
    rcases List.mem_cons.1 hx with rfl | hx
    · have h1 := h.1
      split at h1
      · rename_i y hy
        rw [hy, outBeq_eq h1]
      · cases h1
    · exact allSame_spec h.2 x hx
theorem runFnN_sound (hmx : P.follows .mixedOrders = true) (hp : PgOk M0 P) {G : Calls'} (hG : CSound P M0 G) (hb : BaseOk M0 G0) {k : Nat} {f : FuncId} {fn : Func} {afn : AFn} (hf : P.funcs[f]? = some fn) (hc : compFn P fn = some afn) (hname : fn.name ≠ "runtime.NumGoroutine") {args : List AV} {A B : St} {r : AV}
    (h : runFnN D G k G0 afn args A = some (r, B)) {F : Fr} {m : Mu} {w : World} {cargs : List Value} (hm : M0.le m) (R : Rel F m A w) (hcs : cvos m args = some cargs) : CallOk P F m r B f cargs.toArray w := by
  unfold runFnN at h
  split at h
  · rename_i hn
    split at h
    · rename_i x l hi
      split at h
      · rename_i r' hr
        cases hs : allSame A afn.res r' l with
        | false => rw [hs] at h; cases h
        | true =>
          rw [hs] at h
          simp only [cond_true, Option.some.injEq] at h
          subst h
          have hall : ∀ y ∈ x :: l, resN A afn.res y = some (r, B) := fun y hy => by
            rcases List.mem_cons.1 hy with rfl | hy
            · exact hr
            · exact allSame_spec hs y hy
          have e : EvS P M0 f args A fun r1 B1 => outN A r1 B1 = (r, B) := by
            refine EvS.fn hb hf hc hname hn ((interpN_sound hmx hp hG afn.body hi).mono fun ex E B1 hmem => ?_)
            have := hall _ hmem
            cases ex with
            | exit i => cases this
            | normal =>
              simp only [resN] at this
              split at this
              · rename_i l' hl'
                exact ⟨l', hl', Option.some.inj this⟩
              · cases this
            | ret =>
              simp only [resN] at this
              split at this
              · rename_i l' hl'
                exact ⟨l', hl', Option.some.inj this⟩
              · cases this
          refine (e.2 F m w cargs hm R hcs).mono fun e w' ⟨r1, B1, c, m', h1, h2, h3, h4, h5⟩ => ?_
          obtain ⟨m2, g1, g2, g3⟩ := outN_sound h1 R h3 h4 h5
          exact ⟨c, m2, h2, g1, g2, g3⟩
      · cases h
    · cases h
  · cases h
theorem callsN_sound (b : Base P M0 G0 fns X) (nd : Nat → Bool) : ∀ k, CSound P M0 (callsN D G0 fns nd X k)
  | 0 => fun f args A r B h => by cases h
  | k + 1 => fun f args A r B h => by
    simp only [callsN] at h
    split at h
    · rename_i afn hafn
      obtain ⟨fn, h1, h2, h3⟩ := b.fns f afn hafn
      refine ⟨fun hf => absurd (Array.getElem?_eq_some_iff.1 h1).1 (by rw [hf]; exact Nat.not_lt.2 b.pg.few), fun _ => ?_⟩
      refine .inl ⟨⟨fn, h1, ?_, h3⟩, fun F m w cargs hm R hc => ?_⟩
      · unfold compFn at h2
        split at h2
        · rename_i c hc; rw [hc]; rfl
        · cases h2
      · cases hnd : nd f with
        | true => rw [hnd] at h; exact runFnN_sound b.mx b.pg (callsN_sound b nd k) b.base h1 h2 h3 h hm R hc
        | false => rw [hnd] at h; exact runFn_sound b.mx b.pg (callsN_sound b nd k) b.base h1 h2 h hm R hc
    · cases hby : Nat.beq f yieldId with
      | true =>
        rw [hby] at h
        simp only [cond_true] at h
        have hf : f = yieldId := Nat.eq_of_beq_eq_true hby
        refine ⟨fun _ F m w g ags cargs l hm R ha hc hl => ?_, fun hn => absurd hf hn⟩
        subst ha
        exact runRound_sound b.mx b.pg (callsN_sound b nd k) h hm R hc hl
      | false =>
        rw [hby] at h
        simp only [cond_false] at h
        exact ⟨fun hf => (by rw [hf] at hby; cases hby), fun _ => b.ext f args A r B h⟩
end

/-! ### A call that knows nothing of what lies there -/
section
variable {P : Program}
theorem Rel.extended {F : Fr} {m : Mu} {A : St} {w w' : World} (R : Rel F m A w) (hold : ∀ (cb : Nat) (o : Obj), w.heap[cb]? = some o → w'.heap[cb]? = some o) (ho : w'.os = w.os) (ho2 : w'.output = w.output) : Rel F m A w' := by
  have hsz : w.heap.size ≤ w'.heap.size := by
    rcases Nat.eq_zero_or_pos w.heap.size with h | h
    · omega
    · have := hold (w.heap.size - 1) _ (Array.getElem?_eq_getElem (by omega))
      have := (Array.getElem?_eq_some_iff.1 this).1
      omega
  have hold' : ∀ cb, cb < w.heap.size → w'.heap[cb]? = w.heap[cb]? := fun cb h => by
    rw [Array.getElem?_eq_getElem h]
    exact hold cb _ (Array.getElem?_eq_getElem h)
  refine ⟨fun f v l h => ?_, fun f b h => blkR_mono (Mu.le_refl m) (fun _ h => h) (R.got f b h) fun _ _ hm => hold' _ (R.dom _ _ _ hm).2, fun cb o h => hold cb o (R.keep cb o h), by rw [ho, ho2]; exact R.rest, R.apart, fun f v l h1 h2 c e fz h3 => R.unf f v l h1 h2 c e fz (by rw [← hold' _ (R.dom _ _ _ h1).2]; exact h3), R.same, R.orig, R.frm⟩
  have := R.dom f v l h
  exact ⟨this.1, by omega⟩
/-- A table's call from nowhere, told wherever. -/
def nowhere (G : Calls') (fs : Nat → Bool) : Calls' := fun f args A => bif fs f && noPlaces args then (match G f args stNone with | some (r, _) => bif noPlace r then some (r, A) else none | none => none) else none
theorem nowhere_sound {G : Calls'} (hG : CSound P (muNone P) G) (fs : Nat → Bool) (hy : fs yieldId = false) : GSound P (muNone P) (nowhere G fs) := fun f args A r B h => by
  unfold nowhere at h
  cases hb : fs f && noPlaces args with
  | false => rw [hb] at h; cases h
  | true =>
  rw [hb] at h
  simp only [Bool.and_eq_true] at hb
  have hfy : f ≠ yieldId := fun e => by rw [e, hy] at hb; exact absurd hb.1 (by simp)
  simp only [cond_true] at h
  split at h
  rotate_left
  · cases h
  rename_i r0 B0 hg
  cases hr : noPlace r0 with
  | false => rw [hr] at h; cases h
  | true =>
  rw [hr] at h
  simp only [cond_true, Option.some.injEq, Prod.mk.injEq] at h
  obtain ⟨rfl, rfl⟩ := h
  have fin : ∀ (F : Fr) (m : Mu) (w w' : World) (m' : Mu), Rel F m A w → Rel (frameOf w) m' B0 w' → Rel F m A w' := fun F m w w' m' R R' =>
    Rel.extended R (fun cb o h => R'.keep cb o h) R'.rest.1 R'.rest.2
  rcases (hG f args stNone r0 B0 hg).2 hfy with ⟨h1, h2⟩ | h2
  · refine .inl ⟨h1, fun F m w cargs hm R hc => ?_⟩
    have hc' : cvos (muNone P) args = some cargs := by rw [noPlaces_spec m (muNone P) args hb.2]; exact hc
    refine (h2 (frameOf w) (muNone P) w cargs (Mu.le_refl _) (inp_none P w).rel hc').mono fun e w' ⟨c, m', g1, g2, g3, g4⟩ => ?_
    exact ⟨c, m, g1, Mu.le_refl m, fin F m w w' m' R g3, by rw [noPlace_spec m' m r0 hr]; exact g4⟩
  · refine .inr fun F m w cargs hm R hc => ?_
    have hc' : cvos (muNone P) args = some cargs := by rw [noPlaces_spec m (muNone P) args hb.2]; exact hc
    obtain ⟨c, w', m', g1, g2, g3, g4⟩ := h2 (frameOf w) (muNone P) w cargs (Mu.le_refl _) (inp_none P w).rel hc'
    exact ⟨c, w', m, g1, Mu.le_refl m, fin F m w w' m' R g3, by rw [noPlace_spec m' m r0 hr]; exact g4⟩
end
end Go.AM
