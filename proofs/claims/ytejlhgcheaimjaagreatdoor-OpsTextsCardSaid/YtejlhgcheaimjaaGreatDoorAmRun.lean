/- The abstract machine: a run of it is a run of the model's. -/
import Derived.Test.YtejlhgcheaimjaaGreatDoorAmDraw
namespace Go.AM
set_option linter.unusedVariables false
set_option linter.unusedSimpArgs false
section
variable {P : Program} {M0 : Mu} {D : Disp} {G : Calls'} {n : Nat}
def Ex.toExit : Ex → Exit
  | .normal => .normal
  | .exit id => .exit id
  | .ret => .ret

/-- The program that a start tells of; it has few functions. -/
structure PgOk (M0 : Mu) (P : Program) : Prop where
  pg : M0.pg = P
  few : P.funcs.size ≤ yieldId
/-- Blocks that nobody touches, and blocks for the deferred calls of rounds. -/
def Fr.with (F : Fr) (Ds : List Nat) : Fr := { F with b := fun c => if c ∈ Ds then some (.deferred (some [])) else F.b c }
def dmark (d : Nat) : Deferred := { target := .collected d, args := #[] }
theorem Fr.with_cells {F : Fr} {Ds : List Nat} {g : Nat} {c : Array Value} {e : TypeId} {fz : Nat × Nat} (h : (F.with Ds).b g = some (.cells c e fz)) : F.b g = some (.cells c e fz) ∧ g ∉ Ds := by
  have h' : (if g ∈ Ds then some (.deferred (some [])) else F.b g) = some (.cells c e fz) := h
  split at h'
  · cases h'
  · rename_i hn
    exact ⟨h', hn⟩
theorem Fr.cells_with {F : Fr} {Ds : List Nat} {g : Nat} {c : Array Value} {e : TypeId} {fz : Nat × Nat} (h : F.b g = some (.cells c e fz)) (hn : g ∉ Ds) : (F.with Ds).b g = some (.cells c e fz) := by
  show (if g ∈ Ds then some (.deferred (some [])) else F.b g) = _
  rw [if_neg hn]
  exact h
structure DefOk (F : Fr) (Ds : List Nat) : Prop where
  nodup : Ds.Nodup
  free : ∀ d ∈ Ds, F.b d = none
theorem Fr.with_nil (F : Fr) : F.with [] = F := by
  cases F
  simp [Fr.with]
theorem Fr.with_none {F : Fr} {Ds : List Nat} {c : Nat} (h : (F.with Ds).b c = none) : F.b c = none ∧ c ∉ Ds := by
  unfold Fr.with at h
  dsimp only at h
  split at h
  · cases h
  · rename_i hn; exact ⟨h, hn⟩
theorem blkR.less {F F' : Fr} {m : Mu} {w : World} {f : Nat} {b : Blk} (hF : ∀ c, F.b c = none → F'.b c = none) (H : blkR F m w f b) : blkR F' m w f b := by
  cases b with
  | cells cs vers nv ro =>
    refine ⟨fun x hx => ?_, H.2⟩
    obtain ⟨l, c⟩ := H.1 x hx
    exact ⟨l, c.mu, c.lo, c.sz, c.hi, c.cell, fun hr => ⟨hF _ (c.rw hr).1, (c.rw hr).2⟩⟩
  | map es cl =>
    obtain ⟨l, es', h1, h2, h3, h4⟩ := H
    exact ⟨l, es', h1, h2, hF _ h3, h4⟩
  | iter io =>
    obtain ⟨l, ob, h1, h2, h3, h4⟩ := H
    exact ⟨l, ob, h1, h2, hF _ h3, h4⟩
theorem Rel.less {F : Fr} {m : Mu} {A : St} {w : World} {Ds : List Nat} (hD : DefOk F Ds) (R : Rel (F.with Ds) m A w) : Rel F m A w :=
  ⟨R.dom, fun f b h => (R.got f b h).less fun c hc => (Fr.with_none hc).1, fun cb o h => R.keep cb o (by
    show (if cb ∈ Ds then _ else _) = _
    rw [if_neg (fun hc => by have := hD.free cb hc; rw [this] at h; cases h)]
    exact h), R.rest, R.apart, R.unf, R.same, R.orig, fun p hp => let ⟨c, e, fz, h1, h2⟩ := R.frm p hp; ⟨c, e, fz, (Fr.with_cells h1).1, h2⟩⟩
/-- A block for the deferred calls of rounds is laid. -/
theorem Rel.frame_new {F : Fr} {m : Mu} {A : St} {w : World} {Ds : List Nat} (hD : DefOk F Ds) (R : Rel (F.with Ds) m A w) : DefOk F (w.heap.size :: Ds) ∧ Rel (F.with (w.heap.size :: Ds)) m A (w.alloc (.deferred (some []))) := by
  have R1 := R.alloc_other (.deferred (some []))
  have hn : w.heap.size ∉ Ds := fun hc => by
    have := R.keep w.heap.size (.deferred (some [])) (by show (if _ then _ else _) = _; rw [if_pos hc])
    simp at this
  have hf : F.b w.heap.size = none := by
    cases h : F.b w.heap.size with
    | none => rfl
    | some o =>
      have := R.keep w.heap.size o (by show (if _ then _ else _) = _; rw [if_neg hn]; exact h)
      simp at this
  have hdom : ∀ f v l, m f v = some l → l.cb ≠ w.heap.size := fun f v l h => Nat.ne_of_lt (R.dom f v l h).2
  have up : ∀ c, (F.with Ds).b c = none → c ≠ w.heap.size → (F.with (w.heap.size :: Ds)).b c = none := fun c hc hne => by
    obtain ⟨h1, h2⟩ := Fr.with_none hc
    show (if _ then _ else _) = _
    rw [if_neg (by simp [h2, hne])]
    exact h1
  refine ⟨⟨List.nodup_cons.2 ⟨hn, hD.nodup⟩, fun d hd => by rcases List.mem_cons.1 hd with rfl | hd; exact hf; exact hD.free d hd⟩, R1.dom, fun f b h => ?_, fun cb o h => ?_, R1.rest, R1.apart, R1.unf, R1.same, R1.orig, fun p hp => ?_⟩
  · have H := R1.got f b h
    cases b with
    | cells cs vers nv ro =>
      refine ⟨fun x hx => ?_, H.2⟩
      obtain ⟨l, c⟩ := H.1 x hx
      exact ⟨l, c.mu, c.lo, c.sz, c.hi, c.cell, fun hr => ⟨up _ (c.rw hr).1 (hdom _ _ _ c.mu), (c.rw hr).2⟩⟩
    | map es cl =>
      obtain ⟨l, es', h1, h2, h3, h4⟩ := H
      exact ⟨l, es', h1, h2, up _ h3 (hdom _ _ _ h1), h4⟩
    | iter io =>
      obtain ⟨l, ob, h1, h2, h3, h4⟩ := H
      exact ⟨l, ob, h1, h2, up _ h3 (hdom _ _ _ h1.1), h4⟩
  · have h' : (if cb ∈ w.heap.size :: Ds then some (.deferred (some [])) else F.b cb) = some o := h
    split at h'
    · rename_i hc
      cases h'
      rcases List.mem_cons.1 hc with rfl | hc
      · exact heap_newest _ _
      · exact R1.keep cb _ (by show (if _ then _ else _) = _; rw [if_pos hc])
    · rename_i hc
      exact R1.keep cb o (by show (if _ then _ else _) = _; rw [if_neg (fun h => hc (List.mem_cons_of_mem _ h))]; exact h')
  · obtain ⟨c, e, fz, h1, h2⟩ := R1.frm p hp
    have h3 := Fr.with_cells h1
    exact ⟨c, e, fz, Fr.cells_with h3.1 (fun hm => by
      rcases List.mem_cons.1 hm with hm | hm
      · rw [hm, hf] at h3; cases h3.1
      · exact h3.2 hm), h2⟩
/-- A block for deferred calls is shut. -/
theorem Rel.shut {F : Fr} {m : Mu} {A : St} {w : World} {d : Nat} {Ds : List Nat} (hD : DefOk F (d :: Ds)) (R : Rel (F.with (d :: Ds)) m A w) : DefOk F Ds ∧ w.heap[d]? = some (.deferred (some [])) ∧ Rel (F.with Ds) m A (w.putObj d (.deferred none)) := by
  have hn : d ∉ Ds := (List.nodup_cons.1 hD.nodup).1
  have hk : w.heap[d]? = some (.deferred (some [])) := R.keep d _ (by show (if _ then _ else _) = _; rw [if_pos List.mem_cons_self])
  have down : ∀ c, (F.with (d :: Ds)).b c = none → (F.with Ds).b c = none := fun c hc => by
    obtain ⟨h1, h2⟩ := Fr.with_none hc
    show (if _ then _ else _) = _
    rw [if_neg (fun h => h2 (List.mem_cons_of_mem _ h))]
    exact h1
  have hlt : d < w.heap.size := (Array.getElem?_eq_some_iff.1 hk).1
  have hne : ∀ c, (F.with (d :: Ds)).b c = none → c ≠ d := fun c hc e => (Fr.with_none hc).2 (by rw [e]; exact List.mem_cons_self)
  refine ⟨⟨(List.nodup_cons.1 hD.nodup).2, fun e he => hD.free e (List.mem_cons_of_mem _ he)⟩, hk, fun f v l h => ?_, fun f b h => ?_, fun cb o h => ?_, R.rest, R.apart, fun f v l h1 h2 c e fz hc => ?_, R.same, R.orig, fun p hp => ?_⟩
  · have := R.dom f v l h
    rw [World.putObj_size]; exact this
  · have H := R.got f b h
    cases b with
    | cells cs vers nv ro =>
      refine ⟨fun x hx => ?_, H.2⟩
      obtain ⟨l, c⟩ := H.1 x hx
      by_cases hcb : l.cb = d
      · have hno : ∀ j y, w.cell? ⟨l.cb, j, none⟩ = some y → False := fun j y hy => by
          obtain ⟨o, h1, h2⟩ := cells_of_cell hy
          rw [show (⟨l.cb, j, none⟩ : Addr).block = d from hcb, hk] at h1
          cases h1; cases h2
        refine ⟨l, c.mu, c.lo, c.sz, c.hi, fun i a h1 h2 h3 => ?_, fun hr => ?_⟩
        · obtain ⟨y, hy, hw⟩ := c.cell i a h1 h2 h3
          exact (hno _ _ hw).elim
        · exact absurd hcb (hne _ (c.rw hr).1)
      · have hh : (w.putObj d (.deferred none)).heap[l.cb]? = w.heap[l.cb]? := World.putObj_heap_other hcb
        refine ⟨l, c.mu, c.lo, c.sz, c.hi, fun i a h1 h2 h3 => ?_, fun hr => ?_⟩
        · obtain ⟨y, hy, hw⟩ := c.cell i a h1 h2 h3
          exact ⟨y, hy, by rw [World.cell?_of_block hh]; exact hw⟩
        · obtain ⟨r1, r2, r3⟩ := c.rw hr
          exact ⟨down _ r1, r2, fun j hj => by rw [World.cell?_of_block hh, World.frozen?_of_block hh]; exact r3 j hj⟩
    | map es cl =>
      obtain ⟨l, es', h1, h2, h3, h4⟩ := H
      exact ⟨l, es', h1, by rw [World.putObj_heap_other (hne _ h3)]; exact h2, down _ h3, h4⟩
    | iter io =>
      obtain ⟨l, ob, h1, h2, h3, h4⟩ := H
      exact ⟨l, ob, h1, by rw [World.putObj_heap_other (hne _ h3)]; exact h2, down _ h3, h4⟩
  · have h' : (if cb ∈ Ds then some (.deferred (some [])) else F.b cb) = some o := h
    have hcd : cb ≠ d := fun e => by
      subst e
      rw [if_neg hn, hD.free cb List.mem_cons_self] at h'
      cases h'
    rw [World.putObj_heap_other hcd]
    refine R.keep cb o ?_
    show (if _ then _ else _) = _
    split at h'
    · rename_i hc; rw [if_pos (List.mem_cons_of_mem _ hc)]; exact h'
    · rename_i hc; rw [if_neg (by simp [hc, hcd])]; exact h'
  · by_cases hcb : l.cb = d
    · rw [hcb, World.putObj_heap_same hlt] at hc; cases hc
    · rw [World.putObj_heap_other hcb] at hc
      exact R.unf f v l h1 h2 c e fz hc
  · obtain ⟨c, e, fz, h1, h2⟩ := R.frm p hp
    have h3 := Fr.with_cells h1
    exact ⟨c, e, fz, Fr.cells_with h3.1 (fun hm => h3.2 (List.mem_cons_of_mem _ hm)), h2⟩

/-- What an activation has: a state, and marks among its deferred calls. -/
def RelD (F : Fr) (m : Mu) (A : St) (w : World) (a : Act) : Prop := ∃ Ds, DefOk F Ds ∧ Rel (F.with Ds) m A w ∧ a.defers = Ds.map dmark
theorem Rel.toD {F : Fr} {m : Mu} {A : St} {w : World} {a : Act} (R : Rel F m A w) (hd : a.defers = []) : RelD F m A w a := ⟨[], ⟨List.nodup_nil, fun _ h => by cases h⟩, by rw [Fr.with_nil]; exact R, hd⟩
theorem RelD.rel {F : Fr} {m : Mu} {A : St} {w : World} {a : Act} (R : RelD F m A w a) : Rel F m A w := by
  obtain ⟨Ds, h1, h2, _⟩ := R
  exact h2.less h1

/-- What is known behind a piece of code. -/
def Done (M0 : Mu) (F : Fr) (n : Nat) (m : Mu) (ex : Ex) (E' : Env) (A' : St) : Exit → Act → World → Prop :=
  fun e a' w' => e = ex.toExit ∧ ∃ m', m.le m' ∧ RelD F m' A' w' a' ∧ EnvR M0 m' n E' a'

theorem Done.mono {F : Fr} {m m' : Mu} (hle : m.le m') {ex : Ex} {E' : Env} {A' : St} {e : Exit} {a : Act} {w : World} (h : Done M0 F n m' ex E' A' e a w) : Done M0 F n m ex E' A' e a w := by
  obtain ⟨h1, k, h2, h3⟩ := h
  exact ⟨h1, k, Mu.le_trans hle h2, h3⟩

/-- Entering the statement, where the function is a row of the model's own. -/
theorem stepR_rangeValue {b : Frame} {a : Act} {k : List Item} {cs : List Frame} {w : World} {g : Operand} {ps : Array Tmp} {assign body : Code} {l : Nat} {mark : List Deferred} {w₁ w₁' w₂ : World} {d : Deferred} {v : Value}
    (he : (Instr.enterLoop b.fn a.tmps ps assign body b.roundOf).run P w = .ok (l, mark) w₁)
    (hres : (resolve a.eval (rangeCall g l) 0).run P w₁ = .ok d w₁') (hinv : (invoke d.target d.args).run P w₁' = .ok (.value v) w₂) :
    step P (lone (b.atR a (.code (.rangeFunc g ps assign body) :: k)) cs w) =
      .next (lone (b.atR { a with defers := mark ++ a.defers } (.endRangeFunc l :: k)) cs w₂) := by
  rw [← finish_atR_inRangeFunc l v]
  exact step_lone_go (by
    have hev := Frame.eval_atR b { a with defers := mark ++ a.defers } (.inRangeFunc l :: k)
    simp only [Frame.atR] at hev
    have hres' : Sem.run P (resolve ({ tmps := a.tmps, defers := mark ++ a.defers } : Act).eval { callee := .value g, args := #[.const (.func (.yield l) #[] #[])], argTypes := #[] } 0) w₁ = .ok d w₁' := hres
    simp [stepG, stepG.exec, Frame.atR, Sem.runT_eq, he, GStep.bare_after, stepG.apply, hev, Sem.run_bind, hres', hinv, Result.andThen])

theorem wpIn_rangeValue {Q : Exit → Act → World → Prop} {a : Act} {w : World} {g : Operand} {ps : Array Tmp} {assign body : Code}
    (h : ∀ fn, ∃ (l : Nat) (mark : List Deferred) (w₁ : World) (d : Deferred) (w₁' : World) (v : Value) (w₂ : World),
      (Instr.enterLoop fn a.tmps ps assign body none).run P w = .ok (l, mark) w₁ ∧
      (resolve a.eval (rangeCall g l) 0).run P w₁ = .ok d w₁' ∧
      (invoke d.target d.args).run P w₁' = .ok (.value v) w₂ ∧ rangePost Fence.wide 0 P l Q { a with defers := mark ++ a.defers } (.returned v) w₂) :
    (Code.rangeFunc g ps assign body).wpIn Fence.wide 0 P Q a w := by
  intro b k cs hro hb hr
  obtain ⟨l, mark, w₁, d, w₁', v, w₂, he, hres, hinv, hR⟩ := h b.fn
  have he' : (Instr.enterLoop b.fn a.tmps ps assign body b.roundOf).run P w = .ok (l, mark) w₁ := by
    rw [hro]; exact he
  have h0 : (lone (b.atR a (.code (.rangeFunc g ps assign body) :: k)) cs w).fenced P Fence.wide := fenced_wide P _
  obtain ⟨jump, w₄, hend, hj⟩ := hR
  have sback : StepsIn (Machine.fenced P Fence.wide) P (lone (b.atR a (.code (.rangeFunc g ps assign body) :: k)) cs w) (lone (b.atR { a with defers := mark ++ a.defers } ((jump.map Item.code).toList ++ k)) cs w₄) :=
    .head h0 (stepR_rangeValue he' hres hinv) (.one (fenced_wide P _) (stepR_endRangeFunc hend))
  cases jump with
  | none => exact ⟨.normal, _, w₄, hj, sback⟩
  | some c =>
    obtain ⟨e', a'', w₅, hq, harr⟩ := hj b k cs hro hb hr
    exact ⟨e', a'', w₅, hq, .of_steps sback harr⟩

/-- The end of a range over a function. -/
theorem range_end {F : Fr} {m m' : Mu} {E : Env} {a : Act} {A : St} {w : World} {ex : Ex} {E' : Env} {A' : St} {Ds : List Nat} {cb : Nat} {v : Value} {q : Nat} (hD : DefOk F Ds) (hle : m.le m') (hm : m' q 0 = some ⟨cb, 0, 0, 0, 0⟩) (R : Rel (F.with Ds) m' A w)
    (e : EnvR M0 m n E a) (hd : a.defers = Ds.map dmark)
    (h : (match A.get q with
        | some (.iter (.loop r)) => bif Nat.beq r.st 1 then none else (match r.pend with
          | none => some (.normal, E, A.put q (.iter .gone))
          | some ex => some (ex, E, A.put q (.iter .gone)))
        | _ => none) = some (ex, E', A')) : rangePost Fence.wide 0 P cb (Done M0 F n m ex E' A') a (.returned v) w := by
  split at h
  rotate_left
  · cases h
  rename_i r hg
  cases hst : Nat.beq r.st 1 with
  | true => rw [hst] at h; cases h
  | false =>
    rw [hst] at h
    simp only [cond_false] at h
    obtain ⟨l, ob, ⟨h1, h0⟩, h2, h3, lr, rfl, hl⟩ := R.got _ _ hg
    rw [hm] at h1
    cases h1
    have hne : lr.state ≠ .busy := by
      have hn : r.st ≠ 1 := fun h => by rw [h] at hst; cases hst
      rw [hl.st]
      by_cases h0 : r.st = 0
      · rw [if_pos h0]; simp
      · rw [if_neg h0, if_neg hn]; simp
    refine ⟨lr.pending, _, run_endLoop h2 hne, ?_⟩
    have R' : Rel (F.with Ds) m' (A.put q (.iter .gone)) (w.putObj cb (.loop { lr with state := .exhausted })) :=
      R.put_obj hg rfl hm h3 h2 (fun _ _ _ h => by cases h) ⟨_, _, ⟨hm, rfl⟩, World.putObj_heap_same (Array.getElem?_eq_some_iff.1 h2).1, h3, _, rfl⟩
    have e' := e.mono hle
    rw [hl.pend] at R' ⊢
    cases hp : r.pend with
    | none =>
      rw [hp] at h R'
      cases h
      exact ⟨rfl, m', hle, ⟨Ds, hD, R', hd⟩, e'⟩
    | some x =>
      rw [hp] at h R'
      cases h
      cases ex with
      | normal => exact wpIn_skip ⟨rfl, m', hle, ⟨Ds, hD, R', hd⟩, e'⟩
      | exit i => exact wpIn_exit ⟨rfl, m', hle, ⟨Ds, hD, R', hd⟩, e'⟩
      | ret => exact wpIn_ret ⟨rfl, m', hle, ⟨Ds, hD, R', hd⟩, e'⟩

theorem interp_sound {Fe : Fence} (hFe : FOk Fe) (hmx : P.follows .mixedOrders = true) (hp : PgOk M0 P) (hG : CSound P M0 G) (k : Nat) : ∀ (c : Code) (ac : ACode), comp P n c = some ac → (Fe = Fence.wide ∨ ac.noRF = true) → ∀ {F : Fr} {m : Mu} {E : Env} {a : Act} {A : St} {w : World} {ex : Ex} {E' : Env} {A' : St},
    RelD F m A w a → EnvR M0 m n E a → interp D G k ac E A = some (ex, E', A') → c.wpIn Fe 0 P (Done M0 F n m ex E' A') a w := by
  intro c
  induction c with
  | skip =>
    intro ac hc hrf F m E a A w ex E' A' R e h
    simp only [comp, Option.some.injEq] at hc; subst hc
    simp only [interp, Option.some.injEq, Prod.mk.injEq] at h
    obtain ⟨rfl, rfl, rfl⟩ := h
    exact wpIn_skip ⟨rfl, m, Mu.le_refl m, R, e⟩
  | region id ops draw =>
    intro ac hc hrf F m E a A w ex E' A' RD e h
    obtain ⟨Ds, hD, R, hd⟩ := RD
    cases draw with
    | true =>
      have hst : ac = stuckCode → False := fun hs => by
        subst hs
        simp [stuckCode, interp, ev, constAV, constFlat] at h
      simp only [comp] at hc
      split at hc
      rotate_left
      · cases hc; exact (hst rfl).elim
      rename_i cc hcc
      cases hc
      have hc := hcc
      have hdr : ∃ lim, ac = .draws lim := compDraw_draws hc
      obtain ⟨lim, rfl⟩ := hdr
      simp only [interp] at h
      split at h
      · rename_i tr htr
        cases hk : chkTr D G tr 0 lim with
        | false => rw [hk] at h; cases h
        | true =>
          rw [hk] at h; simp only [cond_true] at h
          split at h
          · rename_i x hx
            cases h
            exact draws_sound hFe hmx hG hc id R e hd htr hk hx fun m' a' w' h1 h2 h3 h4 => ⟨rfl, m', h1, ⟨Ds, hD, h2, h4⟩, h3⟩
          · cases h
      · cases h
    | false =>
      simp only [comp, Option.map_eq_some_iff] at hc
      obtain ⟨al, hal, rfl⟩ := hc
      simp only [interp] at h
      split at h
      · rename_i E1 A1 hr
        cases h
        refine wpIn_region ?_
        have := ops_sound (Q := Done M0 F n m .normal E' A') hFe hG ops ops.toList 0 al (fun j => by simp) hal R e hd hr (fun m' a' w' h1 h2 h3 h4 => ⟨rfl, m', h1, ⟨Ds, hD, h2, h4⟩, h3⟩)
        rw [List.range_eq_range']
        simpa using this
      · cases h
  | seq x y ihx ihy =>
    intro ac hc hrf F m E a A w ex E' A' R e h
    simp only [comp] at hc
    split at hc
    · rename_i ax ay hx hy
      cases hc
      have hrx : Fe = Fence.wide ∨ ax.noRF = true := hrf.imp id fun h => by simp only [ACode.noRF, Bool.and_eq_true] at h; exact h.1
      have hry : Fe = Fence.wide ∨ ay.noRF = true := hrf.imp id fun h => by simp only [ACode.noRF, Bool.and_eq_true] at h; exact h.2
      simp only [interp] at h
      refine wpIn_seq ?_
      cases hr : interp D G k ax E A with
      | none => rw [hr] at h; cases h
      | some r =>
        obtain ⟨ex1, E1, A1⟩ := r
        rw [hr] at h
        refine wpIn_mono (ihx ax hx hrx R e hr) fun e1 a1 w1 h1 => ?_
        obtain ⟨rfl, m1, g1, g2, g3⟩ := h1
        cases ex1 with
        | normal =>
          simp only at h
          exact wpIn_mono (ihy ay hy hry g2 g3 h) fun _ _ _ q => q.mono g1
        | exit i => simp only [Option.some.injEq, Prod.mk.injEq] at h; obtain ⟨rfl, rfl, rfl⟩ := h; exact ⟨rfl, m1, g1, g2, g3⟩
        | ret => simp only [Option.some.injEq, Prod.mk.injEq] at h; obtain ⟨rfl, rfl, rfl⟩ := h; exact ⟨rfl, m1, g1, g2, g3⟩
    · cases hc
  | cond c x y ihx ihy =>
    intro ac hc hrf F m E a A w ex E' A' R e h
    simp only [comp] at hc
    split at hc
    · rename_i ax ay hx hy
      cases hc
      have hrx : Fe = Fence.wide ∨ ax.noRF = true := hrf.imp id fun h => by simp only [ACode.noRF, Bool.and_eq_true] at h; exact h.1
      have hry : Fe = Fence.wide ∨ ay.noRF = true := hrf.imp id fun h => by simp only [ACode.noRF, Bool.and_eq_true] at h; exact h.2
      simp only [interp] at h
      split at h
      · rename_i hb
        exact wpIn_cond_true (cvo_bool hb (ev_sound e c)) (ihx ax hx hrx R e h)
      · rename_i hb
        exact wpIn_cond_false (cvo_bool hb (ev_sound e c)) (ihy ay hy hry R e h)
      · cases h
    · cases hc
  | block id x ihx =>
    intro ac hc hrf F m E a A w ex E' A' R e h
    simp only [comp, Option.map_eq_some_iff] at hc
    obtain ⟨ax, hx, rfl⟩ := hc
    simp only [interp] at h
    refine wpIn_block ?_
    cases hr : interp D G k ax E A with
    | none => rw [hr] at h; cases h
    | some r =>
      obtain ⟨ex1, E1, A1⟩ := r
      rw [hr] at h
      refine wpIn_mono (ihx ax hx hrf R e hr) fun e1 a1 w1 h1 => ?_
      obtain ⟨rfl, m1, g1, g2, g3⟩ := h1
      cases ex1 with
      | normal => simp only [Option.some.injEq, Prod.mk.injEq] at h; obtain ⟨rfl, rfl, rfl⟩ := h; exact ⟨rfl, m1, g1, g2, g3⟩
      | ret => simp only [Option.some.injEq, Prod.mk.injEq] at h; obtain ⟨rfl, rfl, rfl⟩ := h; exact ⟨rfl, m1, g1, g2, g3⟩
      | exit i =>
        simp only at h
        simp only [Ex.toExit, Exit.inBlock]
        by_cases hi : i = id
        · rw [if_pos hi] at h ⊢; cases h; exact ⟨rfl, m1, g1, g2, g3⟩
        · rw [if_neg hi] at h ⊢; cases h; exact ⟨rfl, m1, g1, g2, g3⟩
  | loop x ihx =>
    intro ac hc hrf F m E a A w ex E' A' R e h
    simp only [comp, Option.map_eq_some_iff] at hc
    obtain ⟨ax, hx, rfl⟩ := hc
    simp only [interp] at h
    refine wpIn_loop_rounds k ?_
    have key : ∀ j {m : Mu} {E : Env} {a : Act} {A : St} {w : World}, RelD F m A w a → EnvR M0 m n E a → loopN (interp D G k ax) j E A = some (ex, E', A') → Code.roundsIn Fe 0 P x (Done M0 F n m ex E' A') j a w := by
      intro j
      induction j with
      | zero => intro m E a A w R e h; cases h
      | succ j ih =>
        intro m E a A w R e h
        rw [roundsIn_succ]
        simp only [loopN] at h
        cases hr : interp D G k ax E A with
        | none => rw [hr] at h; cases h
        | some r =>
          obtain ⟨ex1, E1, A1⟩ := r
          rw [hr] at h
          refine wpIn_mono (ihx ax hx hrf R e hr) fun e1 a1 w1 h1 => ?_
          obtain ⟨rfl, m1, g1, g2, g3⟩ := h1
          cases ex1 with
          | normal =>
            simp only at h
            have := ih g2 g3 h
            show Code.roundsIn Fe 0 P x _ j a1 w1
            have mono : ∀ j a w, Code.roundsIn Fe 0 P x (Done M0 F n m1 ex E' A') j a w → Code.roundsIn Fe 0 P x (Done M0 F n m ex E' A') j a w := by
              intro j
              induction j with
              | zero => intro a w h; exact h
              | succ j ihj =>
                intro a w h
                rw [roundsIn_succ] at h ⊢
                refine wpIn_mono h fun e' a' w' q => ?_
                cases e' <;> first | exact ihj _ _ q | exact Done.mono g1 q
            exact mono j a1 w1 this
          | exit i => simp only [Option.some.injEq, Prod.mk.injEq] at h; obtain ⟨rfl, rfl, rfl⟩ := h; exact ⟨rfl, m1, g1, g2, g3⟩
          | ret => simp only [Option.some.injEq, Prod.mk.injEq] at h; obtain ⟨rfl, rfl, rfl⟩ := h; exact ⟨rfl, m1, g1, g2, g3⟩
    exact key k R e h
  | exit id =>
    intro ac hc hrf F m E a A w ex E' A' R e h
    simp only [comp, Option.some.injEq] at hc; subst hc
    simp only [interp, Option.some.injEq, Prod.mk.injEq] at h
    obtain ⟨rfl, rfl, rfl⟩ := h
    exact wpIn_exit ⟨rfl, m, Mu.le_refl m, R, e⟩
  | ret =>
    intro ac hc hrf F m E a A w ex E' A' R e h
    simp only [comp, Option.some.injEq] at hc; subst hc
    simp only [interp, Option.some.injEq, Prod.mk.injEq] at h
    obtain ⟨rfl, rfl, rfl⟩ := h
    exact wpIn_ret ⟨rfl, m, Mu.le_refl m, R, e⟩
  | rangeFunc g ps x y =>
    intro ac hc hrf F m E a A w ex E' A' RD e h
    simp only [comp] at hc
    split at hc
    rotate_left
    · cases hc
    rename_i ax ay hx hy
    cases hchk : (ax.noRF && ay.noRF) && ps.toList.all fun p => decide (p < n ∧ p < 1000000) with
    | false =>
      rw [hchk] at hc
      cases hc
      simp [stuckCode, interp, ev, constAV, constFlat] at h
    | true =>
    rw [hchk] at hc
    cases hc
    simp only [Bool.and_eq_true] at hchk
    obtain ⟨⟨hna, hnb⟩, hlt⟩ := hchk
    have hlt : ∀ p ∈ ps.toList, p < n ∧ p < 1000000 := fun p hp => of_decide_eq_true (List.all_eq_true.1 hlt p hp)
    obtain rfl : Fe = Fence.wide := hrf.resolve_right (by simp [ACode.noRF])
    simp only [interp] at h
    split at h
    rotate_left
    · cases h
    rename_i gf first captured hg
    cases hby : Nat.beq gf yieldId with
    | true => rw [hby] at h; cases h
    | false =>
    rw [hby] at h
    simp only [cond_false] at h
    split at h
    rotate_left
    · cases h
    rename_i r B hcall
    obtain ⟨Ds, hD, R, hd⟩ := RD
    have hs := (ev_sound e g).cv (by rw [hg]; simp)
    rw [hg] at hs
    simp only [cvo] at hs
    split at hs
    rotate_left
    · cases hs
    rename_i x' y' q1 q2
    have hs := (Option.some.inj hs).symm
    have hne : gf ≠ yieldId := fun h => by rw [h] at hby; cases hby
    obtain ⟨hD1, R1⟩ := R.frame_new hD
    have hloop : ∀ fn, ∀ m', m.le m' → LoopR m' ⟨E, ps.toList, n, ax, ay, 0, none⟩ { state := .ready, pending := none, fn, tmps := a.tmps, params := ps, assign := x, body := y, defers := w.heap.size } := fun fn m' hle' =>
      LoopR.mono hle' ⟨e.tmp, e.glob, e.size, rfl, hlt, by rw [e.base.pg, hp.pg]; exact hx, by rw [e.base.pg, hp.pg]; exact hy, hna, hnb, rfl, rfl⟩
    have hnew := fun fn => R1.new_obj (b := .iter (.loop ⟨E, ps.toList, n, ax, ay, 0, none⟩)) (ob := .loop { state := .ready, pending := none, fn, tmps := a.tmps, params := ps, assign := x, body := y, defers := w.heap.size }) rfl (fun _ _ _ h => by cases h)
      (fun m' hle' h hF => ⟨_, _, ⟨h, rfl⟩, heap_newest _ _, hF, _, rfl, hloop fn m' hle'⟩)
    have hargs : ∀ fn, cvos (m.add A.next 0 ⟨(w.alloc (.deferred (some []))).heap.size, 0, 0, 0, 0⟩) (first ++ (.yld A.next :: captured)) = some (x' ++ (.func (.yield (w.heap.size + 1)) #[] #[] :: y')) := fun fn => by
      obtain ⟨g1, g2, g3⟩ := hnew fn
      refine cvos_append (cvos_mono g2 _ _ q1) ?_
      have q2' := cvos_mono g2 _ _ q2
      simp only [cvos, q2', cvo, g3, Option.map_some]
      rw [World.size_alloc]
    have hres : ∀ w1, (resolve a.eval (rangeCall g (w.heap.size + 1)) 0).run P w1 = .ok { target := .fn (.func gf) y'.toArray, args := x'.toArray ++ #[.func (.yield (w.heap.size + 1)) #[] #[]] } w1 := fun w1 => by
      simp [resolve, hs, Deferred.ofValue]
      rfl
    have hinv : ∀ w1, (invoke (.fn (.func gf) y'.toArray) (x'.toArray ++ #[.func (.yield (w.heap.size + 1)) #[] #[]])).run P w1 = (callFunc gf (x' ++ (.func (.yield (w.heap.size + 1)) #[] #[] :: y')).toArray).run P w1 := fun w1 => by
      have : x'.toArray ++ #[Value.func (.yield (w.heap.size + 1)) #[] #[]] ++ y'.toArray = (x' ++ (Value.func (.yield (w.heap.size + 1)) #[] #[] :: y')).toArray := by apply Array.ext'; simp
      simp only [invoke]
      rw [this]
    rcases (hG gf _ _ _ _ hcall).2 hne with ⟨⟨fn, f1, f2, f3⟩, hcalls⟩ | hext
    · refine wpIn_rangeFunc fun fnn _ => ?_
      obtain ⟨g1, g2, g3⟩ := hnew fnn
      refine ⟨_, _, _, _, _, gf, _, _, run_enterLoop_outer fnn a.tmps ps x y, hres _, fun _ _ => trivial, (hinv _).trans (run_callFunc f1 f2 f3 _ _), (fun h => by cases h), ?_⟩
      refine callsIn_wide.2 ((hcalls _ _ _ _ (Mu.le_trans e.base g2) g1 (hargs fnn)).mono ?_)
      rintro e' w' ⟨c, m', rfl, k1, k2, k3⟩
      have := k1.loc _ _ _ g3
      rw [World.size_alloc] at this
      exact range_end (P := P) hD1 (Mu.le_trans g2 k1) this k2 ⟨e.tmp, e.glob, e.size, e.base⟩ (by simp [hd, dmark]) h
    · refine wpIn_rangeValue fun fnn => ?_
      obtain ⟨g1, g2, g3⟩ := hnew fnn
      obtain ⟨c, w', m', k0, k1, k2, k3⟩ := hext _ _ _ _ (Mu.le_trans e.base g2) g1 (hargs fnn)
      refine ⟨_, _, _, _, _, c, w', run_enterLoop_outer fnn a.tmps ps x y, hres _, (hinv _).trans k0, ?_⟩
      have := k1.loc _ _ _ g3
      rw [World.size_alloc] at this
      exact range_end (P := P) hD1 (Mu.le_trans g2 k1) this k2 ⟨e.tmp, e.glob, e.size, e.base⟩ (by simp [hd, dmark]) h
  | scope =>
    intro ac hc hrf F m E a A w ex E' A' R e h
    simp only [comp, Option.some.injEq] at hc; subst hc
    simp [stuckCode, interp, ev, constAV, constFlat] at h
  | label =>
    intro ac hc hrf F m E a A w ex E' A' R e h
    simp only [comp, Option.some.injEq] at hc; subst hc
    simp [stuckCode, interp, ev, constAV, constFlat] at h
  | goto =>
    intro ac hc hrf F m E a A w ex E' A' R e h
    simp only [comp, Option.some.injEq] at hc; subst hc
    simp [stuckCode, interp, ev, constAV, constFlat] at h
  | refuse =>
    intro ac hc hrf F m E a A w ex E' A' R e h
    simp only [comp, Option.some.injEq] at hc; subst hc
    simp [stuckCode, interp, ev, constAV, constFlat] at h

theorem setArgs_at (args : List AV) : ∀ (i : Nat) (E : Env) (t : Nat), Env.at (setArgs i args E) t = if i ≤ t ∧ t < i + args.length then args.getD (t - i) .bot else Env.at E t := by
  induction args with
  | nil => intro i E t; simp only [setArgs]; rw [if_neg (by simp)]
  | cons x l ih =>
    intro i E t
    simp only [setArgs]
    rw [ih]
    by_cases h1 : i + 1 ≤ t ∧ t < i + 1 + l.length
    · rw [if_pos h1, if_pos (by simp; omega), show t - i = (t - (i + 1)) + 1 by omega]; simp
    · rw [if_neg h1]
      simp only [Env.at, T.get_set]
      by_cases h2 : t = i
      · subst h2; rw [if_pos rfl, if_pos (by simp)]; simp
      · rw [if_neg h2, if_neg (by simp; omega)]

/-- The globals' own slots. -/
structure BaseOk (M0 : Mu) (G0 : Env) : Prop where
  tmp : ∀ t, t < 1000000 → Env.at G0 t = .bot
  glob : ∀ g, slotR M0 (Env.at G0 (1000000 + g)) (.pointer (some ⟨g, 0, none⟩))

theorem enter_env {G0 : Env} (hb : BaseOk M0 G0) {m : Mu} (hm : M0.le m) {args : List AV} {cargs : List Value} (hc : cvos m args = some cargs) (hn : args.length ≤ n ∧ n ≤ 1000000) :
    EnvR M0 m n (setArgs 0 args G0) { tmps := cargs.toArray ++ Array.replicate (n - cargs.toArray.size) undef, defers := [] } := by
  have hl := cvos_length hc
  refine ⟨fun t ht => ?_, fun g => ?_, by simp; omega, hm⟩
  · rw [setArgs_at]
    by_cases h : t < args.length
    · rw [if_pos (by omega)]
      obtain ⟨y, hy, hj⟩ := cvos_get hc (j := t) (a := args[t]) (List.getElem?_eq_getElem h)
      refine .inr ?_
      have hlt : t < cargs.length := by omega
      have : (cargs.toArray ++ Array.replicate (n - cargs.toArray.size) undef).getD t undef = y := by
        rw [List.getElem?_eq_getElem hlt] at hj
        have := Option.some.inj hj
        simp [Array.getElem?_append_left, hlt, this]
      simp only [Nat.sub_zero]
      rw [this, List.getD_eq_getElem?_getD, List.getElem?_eq_getElem h]
      exact hy
    · rw [if_neg (by omega)]
      exact .inl (hb.tmp t ht)
  · rw [setArgs_at, if_neg (by omega)]
    exact (hb.glob g).mono hm

def resSem (tmps : Array Value) : ResultVar → Sem Value
  | .tmp t => pure (tmps.getD t undef)
  | .cell a t => do loadVar t (← asAddr (tmps.getD a undef))
theorem results_eq (fn : Func) (tmps : Array Value) : results fn tmps = (do
    let vs ← fn.results.mapM (resSem tmps)
    pure (if h : vs.size = 1 then vs[0] else .tuple vs)) := by
  unfold results
  congr 1

theorem res_sound {F : Fr} {m : Mu} {E : Env} {a : Act} {A : St} {w : World} (R : Rel F m A w) (e : EnvR M0 m n E a) : ∀ {rs : List ResultVar} {ars : List ARes} {l : List AV}, compRess P n rs = some ars → resVals E A ars = some l →
    ∃ vs : List Value, cvos m l = some vs ∧ (rs.mapM (resSem a.tmps)).run P w = .ok vs w
  | [], ars, l, hc, h => by
    simp only [compRess, Option.some.injEq] at hc; subst hc
    simp only [resVals, Option.some.injEq] at h; subst h
    exact ⟨[], rfl, by simp⟩
  | r :: rs, ars, l, hc, h => by
    simp only [compRess] at hc
    split at hc
    · rename_i ar as har has
      cases hc
      simp only [resVals] at h
      split at h
      · rename_i v hv
        split at h
        · rename_i vs hvs
          cases h
          obtain ⟨ys, g1, g2⟩ := res_sound R e has hvs
          have key : ∃ y, cvo m v = some y ∧ (resSem a.tmps r).run P w = .ok y w := by
            cases r with
            | tmp t =>
              simp only [compRes] at har
              split at har
              · rename_i ht
                cases har
                simp only [resVal, slotAt] at hv
                have : Nat.blt t 1000000 = true := by simpa [Nat.blt_eq] using ht.2
                rw [this] at hv; simp only [cond_true] at hv
                have hs := e.tmp t ht.2
                unfold known at hv
                split at hv
                · cases hv
                · rename_i hnb
                  cases hv
                  exact ⟨_, hs.cv hnb, rfl⟩
              · cases har
            | cell ad t =>
              simp only [compRes] at har
              split at har
              · rename_i ht
                obtain ⟨ht1, ht2, ht3⟩ := ht
                simp only [Option.map_eq_some_iff] at har
                obtain ⟨s, hs, rfl⟩ := har
                obtain ⟨d, hd⟩ := Option.isSome_iff_exists.1 ht3
                obtain ⟨i, hi1, hi2⟩ := szOf_some hs
                simp only [resVal, slotAt] at hv
                have : Nat.blt ad 1000000 = true := by simpa [Nat.blt_eq] using ht2
                rw [this] at hv; simp only [cond_true] at hv
                split at hv
                · rename_i p hp
                  obtain ⟨add, k1, k2⟩ := ptr_sound hp (e.tmp ad ht2)
                  split at hv
                  · rename_i cl hcl
                    obtain ⟨b, ofs, zs, q1, q2, q3, q4⟩ := R.cells hcl
                    rw [q1] at k1; cases k1
                    cases hg : isAggB P t with
                    | true =>
                      rw [hg] at hv hcl q3; simp only [if_true, cond_true] at hv hcl q3
                      cases hv
                      have hagg : (isAgg t).run P w = .ok true w := by
                        unfold isAggB at hg
                        rw [hd] at hg
                        cases d <;> simp at hg <;> simp [isAgg, run_underlying hd]
                      have hld := run_loadCells_list (P := P) w ⟨b, ofs, none⟩ zs (fun j v hj => by rw [Addr.add_mk]; exact q4 j v hj)
                      rw [q3] at hld
                      refine ⟨.agg zs.toArray, by simp [cvo, q2], ?_⟩
                      simp only [resSem, k2]
                      simp [asAddr, loadVar, hagg, sizeOf, typeInfo, hi1, hi2, hld]
                    | false =>
                      rw [hg] at hv hcl q3; simp only [cond_false] at hv hcl q3
                      split at hv
                      · cases hv
                        simp only [cvos] at q2
                        split at q2
                        · rename_i y us hy hu
                          cases q2
                          have hagg : (isAgg t).run P w = .ok false w := by
                            unfold isAggB at hg
                            rw [hd] at hg
                            cases d <;> simp at hg <;> simp [isAgg, run_underlying hd]
                          have hw := q4 0 y rfl
                          simp only [Nat.add_zero] at hw
                          refine ⟨y, hy, ?_⟩
                          simp only [resSem, k2]
                          simp [asAddr, loadVar, hagg, hw]
                        · cases q2
                      · cases hv
                  · cases hv
                · cases hv
              · cases har
          obtain ⟨y, k1, k2⟩ := key
          refine ⟨y :: ys, by simp [cvos, k1, g1], ?_⟩
          rw [List.mapM_cons]
          simp only [Sem.run_bind, k2, Result.andThen_ok, g2, Sem.run_pure]
        · cases h
      · cases h
    · cases hc

theorem results_sound {F : Fr} {m : Mu} {E : Env} {a : Act} {A : St} {w : World} (R : Rel F m A w) {fn : Func} (e : EnvR M0 m fn.ntmps E a) {ars : List ARes} {l : List AV} (hc : compRess P fn.ntmps fn.results.toList = some ars) (h : resVals E A ars = some l) :
    ∃ v, cvo m (packRes l) = some v ∧ (results fn a.tmps).run P w = .ok v w := by
  obtain ⟨vs, g1, g2⟩ := res_sound R e hc h
  have hl := cvos_length g1
  have hr : (fn.results.mapM (resSem a.tmps)).run P w = .ok vs.toArray w := by
    rw [Array.mapM_eq_mapM_toList]
    simp only [Sem.run_map, g2, Result.andThen_ok]
  rw [results_eq]
  simp only [Sem.run_bind, hr, Result.andThen_ok, Sem.run_pure]
  match l, vs, g1, hl with
  | [], vs, g1, hl =>
    simp [cvos] at g1; subst g1
    exact ⟨.tuple #[], rfl, by simp⟩
  | [v], vs, g1, hl =>
    simp only [cvos] at g1
    split at g1
    · rename_i y ys hy hys
      cases hys
      cases g1
      exact ⟨y, hy, by simp⟩
    · cases g1
  | v :: u :: l, vs, g1, hl =>
    refine ⟨.tuple vs.toArray, by simp [packRes, cvo, g1], ?_⟩
    have : ¬ vs.length = 1 := by simp at hl; omega
    simp [this]

/-- A function's way out, past its marks. -/
theorem leaves {F : Fr} {m : Mu} {A : St} {fn : Func} {tmps : Array Value} {R : Ending → World → Prop} (H : ∀ w, Rel F m A w → ∃ v, (results fn tmps).run P w = .ok v w ∧ R (.returned v) w) : ∀ (Ds : List Nat) (w : World), DefOk F Ds → Rel (F.with Ds) m A w → LeavesInM Fence.wide 0 P fn tmps R (Ds.map dmark) .returning w
  | [], w, hD, hR => by
    rw [Fr.with_nil] at hR
    exact H w hR
  | d :: Ds, w, hD, hR => by
    obtain ⟨h1, h2, h3⟩ := hR.shut hD
    exact ⟨by simp, .inl ⟨d, _, rfl, run_takeDeferred h2, leaves H Ds _ h1 h3⟩⟩

theorem runFn_sound (hmx : P.follows .mixedOrders = true) (hp : PgOk M0 P) (hG : CSound P M0 G) {G0 : Env} (hb : BaseOk M0 G0) {k : Nat} {f : FuncId} {fn : Func} {afn : AFn} (hf : P.funcs[f]? = some fn) (hc : compFn P fn = some afn) {args : List AV} {A B : St} {r : AV} (h : runFn D G k G0 afn args A = some (r, B))
    {F : Fr} {m : Mu} {w : World} {cargs : List Value} (hm : M0.le m) (R : Rel F m A w) (hargs : cvos m args = some cargs) : CallOk P F m r B f cargs.toArray w := by
  unfold compFn at hc
  split at hc
  · rename_i c hbody
    split at hc
    · rename_i b rs hcb hcr
      cases hc
      unfold runFn at h
      split at h
      · rename_i hn
        have e := enter_env hb hm hargs hn
        split at h
        · cases h
        · rename_i ex E1 B1 hex hr
          split at h
          · rename_i l hl
            simp only [Option.some.injEq, Prod.mk.injEq] at h
            obtain ⟨rfl, rfl⟩ := h
            refine callsIn_wide.1 (callsIn_of_wp_marks (n := 0) hf hbody trivial ?_)
            refine wpIn_mono (interp_sound (.inl rfl) hmx hp hG k c b hcb (.inl rfl) (R.toD rfl) e hr) fun ee a' w' q => ?_
            obtain ⟨rfl, m', q1, ⟨Ds, q2, q3, q4⟩, q5⟩ := q
            have H : ∀ w, Rel F m' B1 w → ∃ v, (results fn a'.tmps).run P w = .ok v w ∧ ∃ c m'', Ending.returned v = .returned c ∧ m.le m'' ∧ Rel F m'' B1 w ∧ cvo m'' (packRes l) = some c := fun w R' => by
              obtain ⟨v, v1, v2⟩ := results_sound R' q5 hcr hl
              exact ⟨v, v2, v, m', rfl, q1, R', v1⟩
            have hL := leaves (P := P) (R := fun e w' => ∃ c m'', e = .returned c ∧ m.le m'' ∧ Rel F m'' B1 w' ∧ cvo m'' (packRes l) = some c) H Ds w' q2 q3
            rw [← q4] at hL
            cases ex with
            | normal => exact hL
            | ret => exact hL
            | exit i => exact absurd rfl (hex i)
          · cases h
        · cases h
      · cases h
    · cases hc
  · cases hc

theorem putPs_sound {m : Mu} : ∀ {ps : List Nat} {as : List AV} {cargs : List Value} {E : Env} {tmps : Array Value}, EnvR M0 m n E { tmps := tmps, defers := [] } → (∀ p ∈ ps, p < n ∧ p < 1000000) → cvos m as = some cargs →
    EnvR M0 m n (putPs ps as E) { tmps := (ps.zip cargs).foldl (fun tmps (x : Nat × Value) => tmps.setIfInBounds x.1 x.2) tmps, defers := [] }
  | [], as, cargs, E, tmps, e, hp, hc => by simpa [putPs] using e
  | p :: ps, [], cargs, E, tmps, e, hp, hc => by
    simp only [cvos, Option.some.injEq] at hc
    subst hc
    simpa [putPs] using e
  | p :: ps, v :: as, cargs, E, tmps, e, hp, hc => by
    simp only [cvos] at hc
    split at hc
    · rename_i y ys hy hys
      cases hc
      simp only [putPs, List.zip_cons_cons, List.foldl_cons]
      refine putPs_sound (E := T.set E p v) (tmps := tmps.setIfInBounds p y) ?_ (fun q hq => hp q (List.mem_cons_of_mem _ hq)) hys
      exact EnvR.put (d := some p) e (by simp [dstOk, hp p List.mem_cons_self]) (.inr hy)
    · cases hc

theorem runRound_sound (hmx : P.follows .mixedOrders = true) (hp : PgOk M0 P) (hG : CSound P M0 G) {k : Nat} {g : Nat} {as : List AV} {A B : St} {r : AV} (h : runRound D G k (.yld g :: as) A = some (r, B))
    {F : Fr} {m : Mu} {w : World} {cargs : List Value} {l : Loc} (hm : M0.le m) (R : Rel F m A w) (hargs : cvos m as = some cargs) (hl : m g 0 = some l) : RoundOk P F m r B l.cb cargs.toArray w := by
  simp only [runRound] at h
  split at h
  rotate_left
  · cases h
  rename_i rec hg
  cases hc0 : Nat.beq rec.st 0 && Nat.beq as.length rec.ps.length with
  | false => rw [hc0] at h; cases h
  | true =>
  rw [hc0] at h
  simp only [cond_true] at h
  simp only [Bool.and_eq_true] at hc0
  have hst0 : rec.st = 0 := Nat.eq_of_beq_eq_true hc0.1
  have hlen : as.length = rec.ps.length := Nat.eq_of_beq_eq_true hc0.2
  split at h
  rotate_left
  · cases h
  rename_i E1 A1 hr1
  split at h
  rotate_left
  · cases h
  rename_i r1 hg1
  cases hs1 : Nat.beq r1.st 0 with
  | false => rw [hs1] at h; cases h
  | true =>
  rw [hs1] at h
  simp only [cond_true] at h
  have hst1 : r1.st = 0 := Nat.eq_of_beq_eq_true hs1
  split at h
  rotate_left
  · cases h
  rename_i ex E2 A2 hr2
  split at h
  rotate_left
  · cases h
  rename_i r2 hg2
  simp only [Option.some.injEq, Prod.mk.injEq] at h
  obtain ⟨rfl, rfl⟩ := h
  obtain ⟨l0, ob, ⟨h1, h0⟩, h2, h3, lr, rfl, hlr⟩ := R.got _ _ hg
  rw [hl] at h1
  cases h1
  have hpm : m.pg = P := by rw [hm.pg, hp.pg]
  have hcl := cvos_length hargs
  have hps : lr.params.size = rec.ps.length := by rw [← hlr.ps]; simp
  refine ⟨_, _, _, _, run_yield h2 (by simp; omega), roundIn_of_wpIn trivial ?_⟩
  have e0 : EnvR M0 m rec.n rec.E { tmps := lr.tmps, defers := [] } := ⟨hlr.tmp, hlr.glob, hlr.size, hm⟩
  have e1 := putPs_sound e0 hlr.lt hargs
  have htm : (lr.params.zip cargs.toArray).foldl (fun tmps (x : Nat × Value) => tmps.setIfInBounds x.1 x.2) lr.tmps = (rec.ps.zip cargs).foldl (fun tmps (x : Nat × Value) => tmps.setIfInBounds x.1 x.2) lr.tmps := by
    rw [← hlr.ps, ← Array.foldl_toList, Array.toList_zip]
  rw [← htm] at e1
  have hFe : FOk (Fence.wide.inRound l.cb) := .inr ⟨_, rfl⟩
  have hca := hlr.ca
  have hcb := hlr.cb
  rw [hpm] at hca hcb
  refine wpIn_mono (interp_sound hFe hmx hp hG k lr.assign rec.a hca (.inr hlr.na) (R.toD rfl) e1 hr1) fun ee a1 w1 q => ?_
  obtain ⟨rfl, m1, k1, ⟨Ds, hD, k2, k3⟩, k4⟩ := q
  show ∃ w₂, _
  obtain ⟨l1, ob1, ⟨p1, p0⟩, p2, p3, lr1, rfl, hlr1⟩ := k2.got _ _ hg1
  rw [k1.loc _ _ _ hl] at p1
  cases p1
  refine ⟨_, run_beginRound p2 (by rw [hlr1.st, if_pos hst1]), ?_⟩
  have hl1 : LoopR m1 { r1 with st := 1 } { lr1 with state := .busy } := ⟨hlr1.tmp, hlr1.glob, hlr1.size, hlr1.ps, hlr1.lt, hlr1.ca, hlr1.cb, hlr1.na, hlr1.nb, rfl, hlr1.pend⟩
  have R2 : Rel (F.with Ds) m1 (A1.put g (.iter (.loop { r1 with st := 1 }))) (w1.putObj l.cb (.loop { lr1 with state := .busy })) :=
    k2.put_obj hg1 rfl (k1.loc _ _ _ hl) p3 p2 (fun _ _ _ h => by cases h) ⟨_, _, ⟨k1.loc _ _ _ hl, p0⟩, World.putObj_heap_same (Array.getElem?_eq_some_iff.1 p2).1, p3, _, rfl, hl1⟩
  refine wpIn_mono (interp_sound hFe hmx hp hG k lr.body rec.b hcb (.inr hlr.nb) ⟨Ds, hD, R2, k3⟩ k4 hr2) fun ee a2 w2 q => ?_
  obtain ⟨rfl, m2, u1, ⟨Ds2, hD2, u2, u3⟩, u4⟩ := q
  have hl2 := u1.loc _ _ _ (k1.loc _ _ _ hl)
  obtain ⟨l2, ob2, ⟨t1, t0⟩, t2, t3, lr2, rfl, hlr2⟩ := u2.got _ _ hg2
  rw [hl2] at t1
  cases t1
  have fin : ∀ (j : Option Ex) (st : Nat) (hst : (if (j.map Ex.code).isNone then LoopState.ready else .done) = (if st = 0 then LoopState.ready else if st = 1 then .busy else .done)), Rel F m2 (A2.put g (.iter (.loop { r2 with st := st, pend := j }))) (w2.putObj l.cb (.loop { lr2 with state := if (j.map Ex.code).isNone then .ready else .done, pending := j.map Ex.code })) := fun j st hst => by
    have hl3 : LoopR m2 { r2 with st := st, pend := j } { lr2 with state := if (j.map Ex.code).isNone then .ready else .done, pending := j.map Ex.code } := ⟨hlr2.tmp, hlr2.glob, hlr2.size, hlr2.ps, hlr2.lt, hlr2.ca, hlr2.cb, hlr2.na, hlr2.nb, hst, rfl⟩
    exact (u2.put_obj (b := .iter (.loop { r2 with st := st, pend := j })) (o' := .loop { lr2 with state := if (j.map Ex.code).isNone then .ready else .done, pending := j.map Ex.code }) hg2 rfl hl2 t3 t2 (fun _ _ _ h => by cases h) ⟨_, _, ⟨hl2, t0⟩, World.putObj_heap_same (Array.getElem?_eq_some_iff.1 t2).1, t3, _, rfl, hl3⟩).less hD2
  cases ex with
  | normal => exact ⟨_, _, run_endRound none t2, .bool true, m2, rfl, Mu.le_trans k1 u1, fin none 0 rfl, rfl⟩
  | ret => exact ⟨_, _, run_endRound (some .ret) t2, .bool false, m2, rfl, Mu.le_trans k1 u1, fin (some .ret) 2 rfl, rfl⟩
  | exit i => exact ⟨_, _, run_endRound (some (.exit i)) t2, .bool false, m2, rfl, Mu.le_trans k1 u1, fin (some (.exit i)) 2 rfl, rfl⟩

theorem calls_sound (hmx : P.follows .mixedOrders = true) (hp : PgOk M0 P) {G0 : Env} (hb : BaseOk M0 G0) {fns : Nat → Option AFn} (hfns : ∀ f afn, fns f = some afn → ∃ fn, P.funcs[f]? = some fn ∧ compFn P fn = some afn ∧ fn.name ≠ "runtime.NumGoroutine") {X : Calls'} (hX : GSound P M0 X) : ∀ k, CSound P M0 (calls D G0 fns X k)
  | 0 => fun f args A r B h => by cases h
  | k + 1 => fun f args A r B h => by
    simp only [calls] at h
    split at h
    · rename_i afn hafn
      obtain ⟨fn, h1, h2, h3⟩ := hfns f afn hafn
      refine ⟨fun hf => absurd (Array.getElem?_eq_some_iff.1 h1).1 (by rw [hf]; exact Nat.not_lt.2 hp.few), fun _ => ?_⟩
      refine .inl ⟨⟨fn, h1, ?_, h3⟩, fun F m w cargs hm R hc => runFn_sound hmx hp (calls_sound hmx hp hb hfns hX k) hb h1 h2 h hm R hc⟩
      unfold compFn at h2
      split at h2
      · rename_i c hc; rw [hc]; rfl
      · cases h2
    · cases hby : Nat.beq f yieldId with
      | true =>
        rw [hby] at h
        simp only [cond_true] at h
        have hf : f = yieldId := Nat.eq_of_beq_eq_true hby
        refine ⟨fun _ F m w g as cargs l hm R ha hc hl => ?_, fun hn => absurd hf hn⟩
        subst ha
        exact runRound_sound hmx hp (calls_sound hmx hp hb hfns hX k) h hm R hc hl
      | false =>
        rw [hby] at h
        simp only [cond_false] at h
        exact ⟨fun hf => (by rw [hf] at hby; cases hby), fun _ => hX f args A r B h⟩
/-- A function of the table. -/
theorem calls_ok (hmx : P.follows .mixedOrders = true) (hp : PgOk M0 P) {G0 : Env} (hb : BaseOk M0 G0) {fns : Nat → Option AFn} (hfns : ∀ f afn, fns f = some afn → ∃ fn, P.funcs[f]? = some fn ∧ compFn P fn = some afn ∧ fn.name ≠ "runtime.NumGoroutine") {X : Calls'} (hX : GSound P M0 X) {k : Nat} {f : FuncId} {args : List AV} {A B : St} {r : AV}
    (hff : ∃ afn, fns f = some afn) (h : calls D G0 fns X k f args A = some (r, B)) {F : Fr} {m : Mu} {w : World} {cargs : List Value} (hm : M0.le m) (R : Rel F m A w) (hc : cvos m args = some cargs) : CallOk P F m r B f cargs.toArray w := by
  cases k with
  | zero => cases h
  | succ k =>
    obtain ⟨afn, hafn⟩ := hff
    simp only [calls, hafn] at h
    obtain ⟨fn, h1, h2, h3⟩ := hfns f afn hafn
    exact runFn_sound hmx hp (calls_sound hmx hp hb hfns hX k) hb h1 h2 h hm R hc
end
end Go.AM
