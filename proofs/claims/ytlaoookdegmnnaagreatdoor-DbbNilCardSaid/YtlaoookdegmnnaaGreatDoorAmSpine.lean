/- The abstract machine: a closed run whose calls may come to more than one state. -/
import Derived.Test.YtlaoookdegmnnaaGreatDoorAmErr
namespace Go.AM
set_option linter.unusedVariables false
set_option linter.unusedSimpArgs false

abbrev CallsS := FuncId → List AV → St → Option (List (AV × St))
def callOp : AOp → Option (FuncId × List Operand)
  | .call f xs => some (f, xs)
  | _ => none
def manyOf (GS : CallsS) (E : Env) (A : St) (op : AOp) : Option (List (AV × St)) :=
  match callOp op with
  | some (f, xs) => bif allKnown (evs E xs) then GS f (evs E xs) A else none
  | none => none
def runOpsS (D : Disp) (G : Calls') (GS : CallsS) : List AOper → Env → St → Option (List (Env × St))
  | [], E, A => some [(E, A)]
  | o :: l, E, A =>
    match wantedA E o.guard with
    | some true => match manyOf GS E A o.op with
      | some L => bindAll L fun x => runOpsS D G GS l (Env.put E o.dst x.1) x.2
      | none => match opOfL D G E A o.op with
        | some (v, B) => runOpsS D G GS l (Env.put E o.dst v) B
        | none => none
    | some false => runOpsS D G GS l (Env.put E o.dst (.tuple [])) A
    | none => none
def interpS (D : Disp) (G : Calls') (GS : CallsS) (n : Nat) : ACode → Env → St → Option (List (Ex × Env × St))
  | .region ops, E, A => match runOpsS D G GS ops E A with
    | some L => some (L.map fun x => (.normal, x.1, x.2))
    | none => match runOpsN D G ops E A with
      | some L => some (L.map fun x => (.normal, x.1, x.2))
      | none => none
  | .seq a b, E, A => match interpS D G GS n a E A with
    | some L => bindAll L fun x => match x with
      | (.normal, E', A') => interpS D G GS n b E' A'
      | x => some [x]
    | none => none
  | .cond c x y, E, A => match ev E c with
    | .bool true => interpS D G GS n x E A
    | .bool false => interpS D G GS n y E A
    | _ => none
  | .block id c, E, A => match interpS D G GS n c E A with
    | some L => some (L.map (leave id))
    | none => none
  | .loop c, E, A => loopsN (interpS D G GS n c) n E A
  | c, E, A => one (interp D G n c E A)
def addU (x : AV × St) (l : List (AV × St)) : List (AV × St) := bif l.any (outBeq x) then l else x :: l
def collect (A : St) (res : List ARes) : List (Ex × Env × St) → Option (List (AV × St))
  | [] => some []
  | x :: l => match resN A res x with
    | some y => (match collect A res l with | some r => some (addU y r) | none => none)
    | none => none
/-- The calls of a program, some functions run to all that they may come to. -/
def callsS (D : Disp) (G0 : Env) (fns : Nat → Option AFn) (nd sp : Nat → Bool) (X : Calls') : Nat → CallsS
  | 0, _, _, _ => none
  | k + 1, f, args, A => bif sp f then (match fns f with
    | some fn => if args.length ≤ fn.n ∧ fn.n ≤ 1000000 then
        (match interpS D (callsN D G0 fns nd X k) (callsS D G0 fns nd sp X k) k fn.body (setArgs 0 args G0) A with
        | some L => collect A fn.res L
        | none => none) else none
    | none => none) else none

section
variable {P : Program} {M0 : Mu} {n : Nat} {D : Disp} {G0 : Env} {fns : Nat → Option AFn} {X : Calls'}
theorem OpAny.callS {f : FuncId} {xs : List Operand} {E : Env} {A : St} {K : AV → St → Prop} (h : EvS P M0 f (evs E xs) A K) (hk : allKnown (evs E xs) = true) : OpAny P M0 n (.call f xs) E A K := fun o hc F m a w R e next Q k => by
  have hcc := callee_cases (D := fun _ _ => none) (E := E) (A := A) hc (r := (f, evs E xs)) rfl
  rcases hcc with hc | ⟨x, name, ys, ts, hop, hx⟩
  rotate_left
  · cases hx
  obtain ⟨dst, op, type, pos, after, guard⟩ := o
  dsimp only at hc
  have key : (∀ c, op ≠ .defer c) ∧ (execOp a.eval ⟨dst, op, type, pos, after, guard⟩).run P w = (callFunc f (xs.map a.eval).toArray).run P w := by
    cases op with
    | call c =>
      obtain ⟨callee, oargs, argTypes⟩ := c
      simp only [compOpA] at hc
      split at hc
      · split at hc <;> first | (cases hc; done) | (simp only [Option.some.injEq] at hc; cases hc)
      · repeat' split at hc
        all_goals first | (cases hc; done) | (simp only [Option.some.injEq] at hc; cases hc)
      · split at hc
        · cases hc
        simp only [Option.some.injEq] at hc
        cases hc
        refine ⟨fun c => by simp, ?_⟩
        have : (List.map a.eval oargs.toList).toArray = oargs.map a.eval := by rw [← List.map_toArray, Array.toArray_toList]
        rw [this]
        simp [execOp, resolve, Act.eval, Deferred.ofValue, invoke]
      · simp only [Option.some.injEq] at hc
        cases hc
      · cases hc
    | _ =>
      exfalso
      simp only [compOpA, compEq] at hc
      repeat' split at hc
      all_goals first
        | (cases hc; done)
        | (simp only [Option.some.injEq] at hc; cases hc; done)
        | (simp only [Option.map_eq_some_iff] at hc; obtain ⟨_, _, hc⟩ := hc; cases hc; done)
  obtain ⟨hd, hrun⟩ := key
  refine wpIn_of_wp (.inl rfl) hd ?_
  unfold Oper.wp
  rw [hrun]
  obtain ⟨⟨fn, f1, f2, f3⟩, hcalls⟩ := h
  rw [run_callFunc f1 f2 f3, Oper.upon_enter]
  refine (hcalls F m w (xs.map a.eval) e.base R (evs_sound e _ hk)).mono ?_
  rintro e' w' ⟨r, B, c, m', hK, rfl, h3, h4, h5⟩
  exact k c m' w' r B h3 h4 (.inr h5) hK

def SSound (P : Program) (M0 : Mu) (GS : CallsS) : Prop := ∀ f args A L, GS f args A = some L → EvS P M0 f args A fun r B => (r, B) ∈ L
theorem runOpsS_sound {G : Calls'} {GS : CallsS} (hG : CSound P M0 G) (hS : SSound P M0 GS) : ∀ {l : List AOper} {E : Env} {A : St} {L : List (Env × St)}, runOpsS D G GS l E A = some L → MRun P M0 n l E A fun E' A' => (E', A') ∈ L
  | [], E, A, L, h => by
    simp only [runOpsS, Option.some.injEq] at h
    subst h
    simp [MRun]
  | o :: l, E, A, L, h => by
    simp only [runOpsS] at h
    simp only [MRun]
    split at h
    · rename_i hw
      rw [hw]
      simp only []
      split at h
      · rename_i L1 hL1
        unfold manyOf at hL1
        split at hL1
        · rename_i f xs hop
          have hop' : o.op = .call f xs := by
            generalize o.op = op at hop
            unfold callOp at hop
            split at hop
            · cases hop; rfl
            · cases hop
          cases hk : allKnown (evs E xs) with
          | false => rw [hk] at hL1; cases hL1
          | true =>
            rw [hk] at hL1
            simp only [cond_true] at hL1
            rw [hop']
            refine OpAny.mono (OpAny.callS (hS _ _ _ _ hL1) hk) fun v B hm => ?_
            obtain ⟨y, h1, h2⟩ := bindAll_mem h _ hm
            exact (runOpsS_sound hG hS h1).mono fun E A hm => h2 _ hm
        · cases hL1
      · split at h
        · rename_i v B hop
          exact OpAny.det (K := fun v B => MRun P M0 n l (Env.put E o.dst v) B _) hG hop (runOpsS_sound hG hS h)
        · cases h
    · rename_i hw
      rw [hw]
      exact runOpsS_sound hG hS h
    · cases h
theorem interpS_sound (hmx : P.follows .mixedOrders = true) (hp : PgOk M0 P) {G : Calls'} {GS : CallsS} (hG : CSound P M0 G) (hS : SSound P M0 GS) {k : Nat} : ∀ (ac : ACode) {E : Env} {A : St} {L : List (Ex × Env × St)}, interpS D G GS k ac E A = some L → MW P M0 n ac E A fun ex E' A' => (ex, E', A') ∈ L
  | .region ops, E, A, L, h => by
    simp only [interpS] at h
    split at h
    · rename_i L1 h1
      cases h
      exact MW.region ((runOpsS_sound hG hS h1).mono fun E A hm => List.mem_map.2 ⟨(E, A), hm, rfl⟩)
    · split at h
      · rename_i L1 h1
        cases h
        exact MW.region ((runOpsN_sound hG h1).mono fun E A hm => List.mem_map.2 ⟨(E, A), hm, rfl⟩)
      · cases h
  | .seq a b, E, A, L, h => by
    simp only [interpS] at h
    split at h
    · rename_i L1 h1
      refine MW.seq ((interpS_sound hmx hp hG hS a h1).mono fun ex E' A' hm => ?_)
      obtain ⟨y, g1, g2⟩ := bindAll_mem h _ hm
      cases ex with
      | normal => exact (interpS_sound hmx hp hG hS b g1).mono fun ex E A hm => g2 _ hm
      | exit i => cases g1; exact g2 _ (List.mem_singleton.2 rfl)
      | ret => cases g1; exact g2 _ (List.mem_singleton.2 rfl)
    · cases h
  | .cond c x y, E, A, L, h => by
    simp only [interpS] at h
    split at h
    · rename_i hc
      exact MW.cond hc (fun _ => interpS_sound hmx hp hG hS x h) (fun h => by cases h)
    · rename_i hc
      exact MW.cond hc (fun h => by cases h) (fun _ => interpS_sound hmx hp hG hS y h)
    · cases h
  | .block id c, E, A, L, h => by
    simp only [interpS] at h
    split at h
    · rename_i L1 h1
      cases h
      refine MW.block ((interpS_sound hmx hp hG hS c h1).mono fun ex E' A' hm => ?_)
      have hm' : leave id (ex, E', A') ∈ L1.map (leave id) := List.mem_map.2 ⟨_, hm, rfl⟩
      cases ex with
      | normal => exact hm'
      | ret => exact hm'
      | exit i =>
        simp only [leave] at hm'
        by_cases hi : i = id
        · simp only [if_pos hi] at hm' ⊢; exact hm'
        · simp only [if_neg hi] at hm' ⊢; exact hm'
    · cases h
  | .loop c, E, A, L, h => by
    simp only [interpS] at h
    refine MW.loop (fun d E A => ∃ L', loopsN (interpS D G GS k c) d E A = some L' ∧ ∀ x ∈ L', x ∈ L) k ⟨L, h, fun _ h => h⟩ fun d E A hI => ?_
    obtain ⟨L', h1, h2⟩ := hI
    cases d with
    | zero => cases h1
    | succ d =>
      simp only [loopsN] at h1
      split at h1
      · rename_i L1 hL1
        refine (interpS_sound hmx hp hG hS c hL1).mono fun ex E' A' hm => ?_
        obtain ⟨y, g1, g2⟩ := bindAll_mem h1 _ hm
        cases ex with
        | normal => exact ⟨d, Nat.lt_succ_self d, y, g1, fun x hx => h2 _ (g2 _ hx)⟩
        | exit i => cases g1; exact h2 _ (g2 _ (List.mem_singleton.2 rfl))
        | ret => cases g1; exact h2 _ (g2 _ (List.mem_singleton.2 rfl))
      · cases h1
  | .skip, E, A, L, h => interpN_leaf hmx hp hG h
  | .draws l, E, A, L, h => interpN_leaf hmx hp hG h
  | .exit i, E, A, L, h => interpN_leaf hmx hp hG h
  | .ret, E, A, L, h => interpN_leaf hmx hp hG h
  | .rangeF .., E, A, L, h => interpN_leaf hmx hp hG h

theorem addU_mem {x y : AV × St} {l : List (AV × St)} (h : y = x ∨ y ∈ l) : y ∈ addU x l := by
  unfold addU
  cases hb : l.any (outBeq x) with
  | false =>
    rcases h with rfl | h
    · exact List.mem_cons_self
    · exact List.mem_cons_of_mem _ h
  | true =>
    rcases h with rfl | h
    · obtain ⟨z, hz, he⟩ := List.any_eq_true.1 hb
      rw [outBeq_eq he]
      exact hz
    · exact h
theorem collect_spec {A : St} {res : List ARes} : ∀ {l : List (Ex × Env × St)} {L : List (AV × St)}, collect A res l = some L → ∀ x ∈ l, ∃ y, resN A res x = some y ∧ y ∈ L
  | [], _, _, x, h => by cases h
  | z :: l, L, h, x, hx => by
    simp only [collect] at h
    split at h
    · rename_i y hy
      split at h
      · rename_i r hr
        cases h
        rcases List.mem_cons.1 hx with rfl | hx
        · exact ⟨y, hy, addU_mem (.inl rfl)⟩
        · obtain ⟨u, h1, h2⟩ := collect_spec hr x hx
          exact ⟨u, h1, addU_mem (.inr h2)⟩
      · cases h
    · cases h
theorem callsS_sound (b : Base P M0 G0 fns X) (nd sp : Nat → Bool) : ∀ k, SSound P M0 (callsS D G0 fns nd sp X k)
  | 0 => fun f args A L h => by cases h
  | k + 1 => fun f args A L h => by
    simp only [callsS] at h
    cases hsp : sp f with
    | false => rw [hsp] at h; cases h
    | true =>
      rw [hsp] at h
      simp only [cond_true] at h
      split at h
      · rename_i afn hafn
        split at h
        · rename_i hn
          split at h
          · rename_i L1 hi
            obtain ⟨fn, h1, h2, h3⟩ := b.fns f afn hafn
            have hall := collect_spec h
            have e : EvS P M0 f args A fun r1 B1 => outN A r1 B1 ∈ L := by
              refine EvS.fn b.base h1 h2 h3 hn ((interpS_sound b.mx b.pg (callsN_sound b nd k) (callsS_sound b nd sp k) afn.body hi).mono fun ex E B1 hmem => ?_)
              obtain ⟨y, g1, g2⟩ := hall _ hmem
              cases ex with
              | exit i => cases g1
              | normal =>
                simp only [resN] at g1
                split at g1
                · rename_i l' hl'
                  exact ⟨l', hl', by rw [Option.some.inj g1]; exact g2⟩
                · cases g1
              | ret =>
                simp only [resN] at g1
                split at g1
                · rename_i l' hl'
                  exact ⟨l', hl', by rw [Option.some.inj g1]; exact g2⟩
                · cases g1
            refine ⟨e.1, fun F m w cargs hm R hcs => (e.2 F m w cargs hm R hcs).mono fun e' w' ⟨r1, B1, c, m', q1, q2, q3, q4, q5⟩ => ?_⟩
            obtain ⟨m2, g1, g2, g3⟩ := outN_sound (r0 := (outN A r1 B1).1) (B0 := (outN A r1 B1).2) rfl R q3 q4 q5
            exact ⟨_, _, c, m2, q1, q2, g1, g2, g3⟩
          · cases h
        · cases h
      · cases h
end

/-- A call from nowhere but the start that comes to one value, whatever else it comes to. -/
def nowhereS (A0 : St) (f0 : FuncId) (r0 : AV) : Calls' := fun f args A => bif Nat.beq f f0 && (args.isEmpty && sameTo A0 A A0.next) then some (r0, A) else none
theorem nowhereS_of {A0 A : St} {f0 : FuncId} {r0 : AV} (hs : ∀ f, f < A0.next → A.get f = A0.get f) (hr : sameTo A0 A0 A0.next = true) : nowhereS A0 f0 r0 f0 [] A = some (r0, A) := by
  unfold nowhereS
  rw [sameTo_congr (B := A0) hs, hr]
  simp
theorem nowhereS_sound {P : Program} {M0 : Mu} {A0 : St} {f0 : FuncId} {r0 : AV} (hE : EvS P M0 f0 [] A0 fun r _ => r = r0) (hr : noPlace r0 = true) (hA : GlobOk M0 A0) : GSound P M0 (nowhereS A0 f0 r0) := fun f args A r B h => by
  unfold nowhereS at h
  cases hb : Nat.beq f f0 && (args.isEmpty && sameTo A0 A A0.next) with
  | false => rw [hb] at h; cases h
  | true =>
    rw [hb] at h
    simp only [cond_true, Option.some.injEq, Prod.mk.injEq] at h
    obtain ⟨rfl, rfl⟩ := h
    simp only [Bool.and_eq_true, List.isEmpty_iff] at hb
    obtain ⟨hf, rfl, hs⟩ := hb
    obtain rfl := Nat.eq_of_beq_eq_true hf
    have hs := sameTo_spec hs
    refine .inl ⟨hE.1, fun F m w cargs hm R hc => ?_⟩
    refine (hE.2 (frameOf w) M0 w cargs (Mu.le_refl _) (hA F m A w hm R hs) (by simpa [cvos] using hc)).mono fun e w' ⟨r1, B1, c, m', hq, g1, g2, g3, g4⟩ => ?_
    subst hq
    exact ⟨c, m, g1, Mu.le_refl m, Rel.extended R (fun cb o h => g3.keep cb o h) g3.rest.1 g3.rest.2, by rw [noPlace_spec m' m r1 hr]; exact g4⟩
end Go.AM
