/- The abstract machine: a region that draws its order. -/
import Derived.Test.YtejlhgcheaimjaaGreatDoorAmRunA
import Derived.Test.YtejlhgcheaimjaaGreatDoorAmSame
import Derived.Orders
namespace Go.AM
set_option linter.unusedVariables false
set_option linter.unusedSimpArgs false
section
variable {P : Program} {M0 : Mu} {D : Disp} {G : Calls'} {n : Nat}

/-! ### Operations look at their operands alone -/

theorem evs_congr {E E' : Env} : ∀ {l : List Operand}, (∀ x ∈ l, ev E x = ev E' x) → evs E l = evs E' l
  | [], _ => rfl
  | x :: l, h => by simp only [evs]; rw [h x (by simp), evs_congr (fun y hy => h y (by simp [hy]))]
theorem evParts_congr {E E' : Env} : ∀ {l : List (Nat × Nat × Operand)}, (∀ x ∈ l.map (·.2.2), ev E x = ev E' x) → evParts E l = evParts E' l
  | [], _ => rfl
  | (a, b, x) :: l, h => by simp only [evParts]; rw [h x (by simp), evParts_congr (fun y hy => h y (by simp at hy ⊢; exact .inr hy))]
theorem evo_congr {E E' : Env} {o : Option Operand} (h : ∀ x ∈ o.toList, ev E x = ev E' x) : evo E o = evo E' o := by
  cases o with
  | none => rfl
  | some x => simp only [evo]; rw [h x (by simp)]

theorem opOf_congr {E E' : Env} (A : St) {op : AOp} (h : ∀ x ∈ opndsOf op, ev E x = ev E' x) : opOf D G E A op = opOf D G E' A op := by
  cases op with
  | mkFunc fn x y =>
    simp only [opndsOf, List.mem_append] at h
    simp only [opOf, AOp.cls, pureOf, evs_congr (fun z hz => h z (.inl hz)), evs_congr (fun z hz => h z (.inr hz))]
  | cutStr x lo hi =>
    simp only [opndsOf, List.mem_cons, List.mem_append] at h
    simp only [opOf, AOp.cls, pureOf, h x (.inl rfl), evo_congr (fun z hz => h z (.inr (.inl hz))), evo_congr (fun z hz => h z (.inr (.inr hz)))]
  | cutSlice s x lo hi mx =>
    simp only [opndsOf, List.mem_cons, List.mem_append] at h
    simp only [opOf, AOp.cls, pureOf, h x (.inl rfl), evo_congr (fun z hz => h z (.inr (.inl hz))), evo_congr (fun z hz => h z (.inr (.inr (.inl hz)))), evo_congr (fun z hz => h z (.inr (.inr (.inr hz))))]
  | cutArray k s x lo hi mx =>
    simp only [opndsOf, List.mem_cons, List.mem_append] at h
    simp only [opOf, AOp.cls, pureOf, h x (.inl rfl), evo_congr (fun z hz => h z (.inr (.inl hz))), evo_congr (fun z hz => h z (.inr (.inr (.inl hz)))), evo_congr (fun z hz => h z (.inr (.inr (.inr hz))))]
  | build z ps => simp only [opOf, AOp.cls, pureOf, evParts_congr h]
  | buildSlice k s c ps => simp only [opOf, AOp.cls, newOf, evParts_congr h]
  | minmax m xs =>
    have hh : evs E xs = evs E' xs := evs_congr h
    simp only [opOf, AOp.cls, pureOf, hh]
  | call f xs =>
    have hh : evs E xs = evs E' xs := evs_congr h
    simp only [opOf, AOp.cls, calleeOf, hh]
  | qcall f xs =>
    have hh : evs E xs = evs E' xs := evs_congr h
    simp only [opOf, AOp.cls, calleeOf, hh]
  | callv x xs =>
    simp only [opndsOf, List.mem_cons] at h
    simp only [opOf, AOp.cls, calleeOf, h x (.inl rfl), evs_congr (fun z hz => h z (.inr hz))]
  | invoke x nm xs =>
    simp only [opndsOf, List.mem_cons] at h
    simp only [opOf, AOp.cls, calleeOf, h x (.inl rfl), evs_congr (fun z hz => h z (.inr hz))]
  | pick a b c =>
    simp only [opndsOf, List.mem_cons] at h
    simp only [opOf, AOp.cls, pureOf, h a (.inl rfl)]
    split
    · rename_i v hv
      split at hv
      · rename_i t ht
        cases t <;> simp [h b, h c] at hv ⊢ <;> simp [hv]
      · cases hv
    · rename_i hv
      split at hv
      · cases hv
      · rfl
  | _ =>
    simp only [opndsOf, List.mem_cons, List.not_mem_nil, or_false, forall_eq_or_imp, forall_eq] at h
    simp only [opOf, AOp.cls, pureOf, newOf, readOf, effOf, h]

theorem readOf_congr {E E' : Env} (A : St) {op : AOp} (h : ∀ x ∈ opndsOf op, ev E x = ev E' x) : readOf E A op = readOf E' A op := by
  cases op <;> first
    | rfl
    | (simp only [opndsOf, List.mem_cons, List.not_mem_nil, or_false, forall_eq_or_imp, forall_eq] at h
       simp only [readOf, h])

theorem mem_slotsOf {t : Nat} : ∀ {l : List Operand}, Operand.tmp t ∈ l → t ∈ slotsOf l
  | x :: l, h => by
    rcases List.mem_cons.1 h with rfl | h'
    · simp [slotsOf]
    · have ih := mem_slotsOf h'
      cases x <;> simp [slotsOf, ih]

theorem ev_agree {E E' : Env} {l : List Operand} (h : ∀ t ∈ slotsOf l, t < 1000000 → Env.at E t = Env.at E' t) (hg : ∀ g, Env.at E (1000000 + g) = Env.at E' (1000000 + g)) : ∀ x ∈ l, ev E x = ev E' x := by
  intro x hx
  cases x with
  | tmp t =>
    simp only [ev]
    cases hb : Nat.blt t 1000000 with
    | false => rfl
    | true => exact h t (mem_slotsOf hx) (by simpa [Nat.blt_eq] using hb)
  | const => rfl
  | global g => exact hg g
  | func => rfl


/-! ### Whom an operation waits for -/

theorem masks_length : ∀ (l : List Oper) (tab : List Nat), (masks l tab).length = tab.length + l.length
  | [], tab => rfl
  | o :: l, tab => by simp only [masks]; rw [masks_length l]; simp; omega
theorem masks_head : ∀ (l : List Oper) (tab : List Nat) (i : Nat), i < tab.length → (masks l tab)[i]? = tab[i]?
  | [], tab, i, _ => rfl
  | o :: l, tab, i, h => by simp only [masks]; rw [masks_head l _ i (by simp; omega), List.getElem?_append_left h]
theorem masks_take : ∀ (l : List Oper) (tab : List Nat), (masks l tab).take tab.length = tab
  | [], tab => by simp [masks]
  | o :: l, tab => by
    have := masks_take l (tab ++ [maskStep tab o])
    simp only [masks]
    have h2 := congrArg (List.take tab.length) this
    rw [List.take_take] at h2
    simpa using h2
theorem masks_get (l : List Oper) : ∀ (tab : List Nat) (i : Nat) (o : Oper), l[i]? = some o → (masks l tab)[tab.length + i]? = some (maskStep ((masks l tab).take (tab.length + i)) o) := by
  induction l with
  | nil => intro tab i o h; simp at h
  | cons o l ih =>
    intro tab i o' h
    cases i with
    | zero =>
      simp only [List.getElem?_cons_zero, Option.some.injEq] at h
      subst h
      have h1 := masks_take (o :: l) tab
      rw [Nat.add_zero, h1]
      simp only [masks]
      rw [masks_head l _ _ (by simp)]
      simp
    | succ i =>
      simp only [List.getElem?_cons_succ] at h
      have := ih (tab ++ [maskStep tab o]) i o' h
      rw [List.length_append, List.length_singleton, Nat.add_assoc, Nat.add_comm 1 i] at this
      simp only [masks]
      exact this

theorem maskFold {tab : List Nat} {j : Nat} : ∀ (l : List Edge) (s : Nat), (l.foldl (fun s e => if Region.binds .any e = true then s ||| 2 ^ e.on ||| tab.getD e.on 0 else s) s).testBit j = true →
    s.testBit j = true ∨ ∃ e ∈ l, Region.binds .any e = true ∧ (j = e.on ∨ (tab.getD e.on 0).testBit j = true)
  | [], s, h => .inl h
  | e :: l, s, h => by
    simp only [List.foldl_cons] at h
    rcases maskFold l _ h with h | ⟨e', he', hb, hj⟩
    · split at h
      · rename_i hb
        simp only [Nat.testBit_or, Bool.or_eq_true] at h
        rcases h with (h | h) | h
        · exact .inl h
        · exact .inr ⟨e, by simp, hb, .inl (by rw [Nat.testBit_two_pow] at h; simpa [eq_comm] using h)⟩
        · exact .inr ⟨e, by simp, hb, .inr h⟩
      · exact .inl h
    · exact .inr ⟨e', by simp [he'], hb, hj⟩

/-- What is closed under waiting is closed under the masks. -/
theorem mask_closed {ops : Array Oper} {L : Nat → Prop} (hL : ∀ i o, ops[i]? = some o → L i → ∀ e ∈ o.after, Region.binds .any e = true → L e.on) :
    ∀ (i : Nat) (o : Oper) (k : Nat), ops[i]? = some o → (masks ops.toList [])[i]? = some k → (∀ e ∈ o.after, Region.binds .any e = true → L e.on) → ∀ j, k.testBit j = true → L j := by
  intro i
  induction i using Nat.strongRecOn with
  | _ i ih =>
    intro o k ho hk he j hj
    have h1 := masks_get ops.toList [] i o (by simpa using ho)
    simp only [List.length_nil, Nat.zero_add] at h1
    rw [h1] at hk
    cases hk
    rcases maskFold _ _ hj with h | ⟨e, hmem, hb, h⟩
    · simp at h
    · have hLe := he e (by simpa using hmem) hb
      rcases h with rfl | h
      · exact hLe
      · have hlt : e.on < i := by
          rcases Nat.lt_or_ge e.on i with h' | h'
          · exact h'
          · rw [List.getD_eq_getElem?_getD, List.getElem?_eq_none (by simp; omega)] at h; simp at h
        cases hk2 : (masks ops.toList [])[e.on]? with
        | none => rw [List.getD_eq_getElem?_getD, List.getElem?_take, if_pos hlt, hk2] at h; simp at h
        | some k2 =>
          rw [List.getD_eq_getElem?_getD, List.getElem?_take, if_pos hlt, hk2] at h
          cases ho2 : ops[e.on]? with
          | none =>
            have hl := masks_length ops.toList []
            have : e.on < ops.size := by
              have := (List.getElem?_eq_some_iff.1 hk2).1
              rw [hl] at this; simpa using this
            simp [this] at ho2
          | some o2 => exact ih e.on hlt o2 k2 ho2 hk2 (fun e' he' hb' => hL _ _ ho2 hLe e' he' hb') j h

theorem compOpers_get {ops : Array Oper} : ∀ {l : List Oper} {al : List AOper}, compOpers P n ops l = some al → al.length = l.length ∧ ∀ (i : Nat) o, l[i]? = some o → ∃ ao, al[i]? = some ao ∧ compOper P n ops o = some ao
  | [], al, h => by simp [compOpers] at h; subst h; exact ⟨rfl, fun i o h => by simp at h⟩
  | o :: l, al, h => by
    simp only [compOpers] at h
    split at h
    · rename_i a r ha hr
      cases h
      obtain ⟨h1, h2⟩ := compOpers_get hr
      refine ⟨by simp [h1], fun i o' ho => ?_⟩
      cases i with
      | zero => simp at ho; subst ho; exact ⟨a, rfl, ha⟩
      | succ i => simpa using h2 i o' (by simpa using ho)
    · cases h

theorem compOper_spec {ops : Array Oper} {o : Oper} {ao : AOper} (h : compOper P n ops o = some ao) : dstOk n o.dst = true ∧ ao.dst = o.dst ∧ compOp P o.op = some ao.op ∧
    ((o.guard = none ∧ ao.guard = none) ∨ ∃ j want t, o.guard = some (j, want) ∧ (ops[j]?).bind (·.dst) = some t ∧ t < n ∧ ao.guard = some (t, want)) := by
  unfold compOper at h
  split at h
  · rename_i hdst
    split at h
    · rename_i aop haop
      split at h
      · rename_i hg; cases h; exact ⟨hdst, rfl, haop, .inl ⟨hg, rfl⟩⟩
      · rename_i j want hg
        split at h
        · rename_i t ht
          split at h
          · rename_i htn; cases h; exact ⟨hdst, rfl, haop, .inr ⟨j, want, t, hg, ht, htn, rfl⟩⟩
          · cases h
        · cases h
    · cases h
  · cases h

theorem zipM_get : ∀ {al : List AOper} {mk : List Nat} {i : Nat} {x : AOper} {k : Nat}, al[i]? = some x → mk[i]? = some k → (zipM al mk)[i]? = some (x, k)
  | [], _, _, _, _, h, _ => by simp at h
  | _ :: _, [], _, _, _, _, h => by simp at h
  | a :: al, b :: mk, 0, x, k, h, h' => by simp at h h'; subst h h'; rfl
  | a :: al, b :: mk, i + 1, x, k, h, h' => by simp at h h'; simpa [zipM] using zipM_get h h'
theorem zipM_get' : ∀ {al : List AOper} {mk : List Nat} {i : Nat} {x : AOper} {k : Nat}, (zipM al mk)[i]? = some (x, k) → al[i]? = some x ∧ mk[i]? = some k
  | [], _, _, _, _, h => by simp [zipM] at h
  | _ :: _, [], _, _, _, h => by simp [zipM] at h
  | a :: al, b :: mk, 0, x, k, h => by simp [zipM] at h; obtain ⟨rfl, rfl⟩ := h; exact ⟨rfl, rfl⟩
  | a :: al, b :: mk, i + 1, x, k, h => by simp [zipM] at h; simpa using zipM_get' h
theorem zipM_length : ∀ {al : List AOper} {mk : List Nat}, al.length = mk.length → (zipM al mk).length = al.length
  | [], [], _ => rfl
  | a :: al, b :: mk, h => by simp at h; simp [zipM, zipM_length h]

theorem pair_spec {i : Nat} {x : AOper} : ∀ {l : List (AOper × Nat)}, pairB i x l = true → ∀ y k, (y, k) ∈ l → k.testBit i = true ∨ looseB x y = true
  | [], _, y, k, h => by simp at h
  | (z, c) :: l, hp, y, k, h => by
    simp only [pairB, Bool.and_eq_true, Bool.or_eq_true] at hp
    rcases List.mem_cons.1 h with h | h
    · cases h; exact hp.1
    · exact pair_spec hp.2 y k h
theorem pairs_spec : ∀ {l : List (AOper × Nat)} {s : Nat}, pairsB s l = true → ∀ (i j : Nat) (x : AOper) (kx : Nat) (y : AOper) (ky : Nat), i < j → l[i]? = some (x, kx) → l[j]? = some (y, ky) → ky.testBit (s + i) = true ∨ looseB x y = true
  | [], s, _, i, j, x, kx, y, ky, _, h, _ => by simp at h
  | (z, c) :: l, s, hp, i, j, x, kx, y, ky, hij, hi, hj => by
    simp only [pairsB, Bool.and_eq_true] at hp
    cases j with
    | zero => omega
    | succ j =>
      simp at hj
      cases i with
      | zero => simp at hi; obtain ⟨rfl, rfl⟩ := hi; simpa using pair_spec hp.1 y ky (List.mem_of_getElem? hj)
      | succ i =>
        simp at hi
        have := pairs_spec hp.2 i j x kx y ky (by omega) hi hj
        rwa [show s + 1 + i = s + (i + 1) by omega] at this

theorem limits_get {all : List (AOper × Nat)} (l : List (AOper × Nat)) : ∀ {s i : Nat} {x : AOper} {k : Nat}, l[i]? = some (x, k) → (limits all s l)[i]? = some (x, loOf k 0 (all.map (·.1)) 0, hiOf (s + i) 0 all) := by
  induction l with
  | nil => intro s i x k h; simp at h
  | cons z l ih =>
    obtain ⟨z, c⟩ := z
    intro s i x k h
    cases i with
    | zero =>
      simp only [List.getElem?_cons_zero, Option.some.injEq, Prod.mk.injEq] at h
      obtain ⟨rfl, rfl⟩ := h
      simp only [limits, List.getElem?_cons_zero, Nat.add_zero]
    | succ i =>
      simp only [List.getElem?_cons_succ] at h
      have := ih (s := s + 1) h
      rw [show s + 1 + i = s + (i + 1) by omega] at this
      simp only [limits, List.getElem?_cons_succ]
      exact this
theorem limits_length {all : List (AOper × Nat)} : ∀ (l : List (AOper × Nat)) (s : Nat), (limits all s l).length = l.length
  | [], _ => rfl
  | _ :: l, s => by simp [limits, limits_length l]

theorem lo_spec {mask p : Nat} : ∀ {l : List AOper} {i r : Nat}, r ≤ p → (∀ k x, l[k]? = some x → heavy x = true → mask.testBit (i + k) = true → i + k + 1 ≤ p) → loOf mask i l r ≤ p
  | [], _, _, h, _ => h
  | x :: l, i, r, h, H => by
    simp only [loOf]
    refine lo_spec ?_ fun k y hk hh ht => ?_
    · cases hc : heavy x && mask.testBit i with
      | false => simpa using h
      | true => simp only [Bool.and_eq_true] at hc; simpa using H 0 x rfl hc.1 (by simpa using hc.2)
    · have := H (k + 1) y (by simpa using hk) hh (by rwa [show i + (k + 1) = i + 1 + k by omega]); omega
theorem hi_spec {j p : Nat} : ∀ {l : List (AOper × Nat)} {i : Nat}, p ≤ i + l.length → (∀ k x c, l[k]? = some (x, c) → heavy x = true → c.testBit j = true → p ≤ i + k) → p ≤ hiOf j i l
  | [], i, h, _ => by simpa [hiOf] using h
  | (x, c) :: l, i, h, H => by
    simp only [hiOf]
    cases hc : heavy x && c.testBit j with
    | true => simp only [Bool.and_eq_true] at hc; simpa using H 0 x c rfl hc.1 hc.2
    | false =>
      simp only [cond_false]
      refine hi_spec (by simp at h; omega) fun k y d hk hh ht => ?_
      have := H (k + 1) y d (by simpa using hk) hh ht; omega

theorem back_spec : ∀ {l : List Oper} {s : Nat}, backB s l = true → ∀ i o, l[i]? = some o → ∀ e ∈ o.after, Region.binds .any e = true → e.on < s + i
  | [], s, _, i, o, h, _, _, _ => by simp at h
  | x :: l, s, hb, i, o, h, e, he, hbd => by
    simp only [backB, Bool.and_eq_true] at hb
    cases i with
    | zero =>
      simp at h; subst h
      have := List.all_eq_true.1 hb.1 e (by simpa using he)
      simpa [hbd] using this
    | succ i =>
      have := back_spec hb.2 i o (by simpa using h) e he hbd; omega

/-- One step of the abstract run. -/
def Stp (D : Disp) (G : Calls') (o : AOper) (x y : Env × St) (v : AV) : Prop :=
  ((wantedA x.1 o.guard = some true ∧ opOf D G x.1 x.2 o.op = some (v, y.2)) ∨ (wantedA x.1 o.guard = some false ∧ v = .tuple [] ∧ y.2 = x.2)) ∧ y.1 = Env.put x.1 o.dst v

theorem runTr_spec : ∀ {lim : List (AOper × Nat × Nat)} {E : Env} {A : St} {tr : List (Env × St)}, runTr D G lim E A = some tr → tr.length = lim.length + 1 ∧ tr[0]? = some (E, A) ∧
    ∀ (i : Nat) o lo hi, lim[i]? = some (o, lo, hi) → ∃ x y v, tr[i]? = some x ∧ tr[i + 1]? = some y ∧ Stp D G o x y v
  | [], E, A, tr, h => by simp [runTr] at h; subst h; exact ⟨rfl, rfl, fun i o lo hi h => by simp at h⟩
  | (o, lo, hi) :: l, E, A, tr, h => by
    simp only [runTr] at h
    have fin : ∀ v (y : Env × St) tr', runTr D G l y.1 y.2 = some tr' → tr = (E, A) :: tr' → Stp D G o (E, A) y v → tr.length = l.length + 1 + 1 ∧ tr[0]? = some (E, A) ∧
        ∀ (i : Nat) o' lo' hi', ((o, lo, hi) :: l)[i]? = some (o', lo', hi') → ∃ x y v, tr[i]? = some x ∧ tr[i + 1]? = some y ∧ Stp D G o' x y v := fun v y tr' hr ht hs => by
      obtain ⟨h1, h2, h3⟩ := runTr_spec hr
      subst ht
      refine ⟨by simp [h1], rfl, fun i o' lo' hi' ho => ?_⟩
      cases i with
      | zero => simp at ho; obtain ⟨rfl, rfl, rfl⟩ := ho; exact ⟨(E, A), y, v, rfl, by simpa using h2, hs⟩
      | succ i => simpa using h3 i o' lo' hi' (by simpa using ho)
    split at h
    · rename_i hw
      split at h
      · rename_i v B hop
        split at h
        · rename_i tr' hr; cases h; exact fin v (_, B) tr' hr rfl ⟨.inl ⟨hw, hop⟩, rfl⟩
        · cases h
      · cases h
    · rename_i hw
      split at h
      · rename_i tr' hr; cases h; exact fin (.tuple []) (_, A) tr' hr rfl ⟨.inr ⟨hw, rfl, rfl⟩, rfl⟩
      · cases h
    · cases h

theorem sameIn_spec {tr : List (Env × St)} {E : Env} {op : AOp} {v : Option AV} : ∀ {n q : Nat}, sameIn D G tr E op v q n = true → ∀ r, q ≤ r → r < q + n → ∃ z u, tr[r]? = some z ∧ lookOf D G E z.2 op = some u ∧ v = some u
  | 0, q, _, r, h1, h2 => by omega
  | n + 1, q, h, r, h1, h2 => by
    simp only [sameIn] at h
    split at h
    · rename_i x hx
      simp only [Bool.and_eq_true] at h
      by_cases hr : r = q
      · subst hr
        have h3 := h.1
        unfold sameRead at h3
        cases ha : lookOf D G E x.2 op with
        | none => rw [ha] at h3; simp at h3
        | some a =>
          cases v with
          | none => rw [ha] at h3; simp at h3
          | some b =>
            rw [ha] at h3
            have := AV.beq_eq _ _ h3
            subst this
            exact ⟨x, a, hx, ha, rfl⟩
      · exact sameIn_spec h.2 r (by omega) (by omega)
    · cases h

theorem chk_spec {tr : List (Env × St)} : ∀ {lim : List (AOper × Nat × Nat)} {s : Nat}, chkTr D G tr s lim = true → ∀ (i : Nat) o lo hi, lim[i]? = some (o, lo, hi) → ∃ x, tr[s + i]? = some x ∧
    (isLook o.op = true → wantedA x.1 o.guard = some true → ∀ q, lo ≤ q → q ≤ hi → ∃ z u, tr[q]? = some z ∧ lookOf D G x.1 z.2 o.op = some u ∧ lookOf D G x.1 x.2 o.op = some u)
  | [], s, _, i, o, lo, hi, h => by simp at h
  | (o', lo', hi') :: l, s, h, i, o, lo, hi, ho => by
    simp only [chkTr, Bool.and_eq_true] at h
    cases i with
    | zero =>
      simp at ho; obtain ⟨rfl, rfl, rfl⟩ := ho
      have h1 := h.1
      split at h1
      · rename_i x hx
        refine ⟨x, hx, fun hr hw q h2 h3 => ?_⟩
        rw [hr, hw] at h1
        simp only [isTrue, Bool.and_self, cond_true] at h1
        exact sameIn_spec h1 q h2 (by omega)
      · cases h1
    | succ i =>
      have := chk_spec h.2 i o lo hi (by simpa using ho)
      rwa [show s + 1 + i = s + (i + 1) by omega] at this

theorem lastOf_get {α : Type} : ∀ {l : List α} {x : α}, lastOf l = some x → l[l.length - 1]? = some x
  | [], x, h => by simp [lastOf] at h
  | [y], x, h => by simpa [lastOf] using h
  | y :: z :: l, x, h => by
    have := lastOf_get (l := z :: l) (by simpa [lastOf] using h)
    simpa using this

/-- An environment of which only some slots are kept. -/
def restr (keep : List Nat) : Nat → Env → Env
  | 0, E => E
  | k + 1, E => bif keep.contains k then restr keep k E else T.set (restr keep k E) k .bot
theorem restr_at (keep : List Nat) (E : Env) (t : Nat) : ∀ k, Env.at (restr keep k E) t = if t < k ∧ t ∉ keep then .bot else Env.at E t
  | 0 => by rw [if_neg (by omega)]; rfl
  | k + 1 => by
    have ih := restr_at keep E t k
    simp only [restr]
    cases hc : keep.contains k with
    | true =>
      have hk : k ∈ keep := by simpa using hc
      simp only [cond_true, ih]
      by_cases h : t = k
      · subst h; rw [if_neg (by omega), if_neg (fun q => q.2 hk)]
      · by_cases h2 : t < k ∧ t ∉ keep
        · rw [if_pos h2, if_pos ⟨by omega, h2.2⟩]
        · rw [if_neg h2, if_neg (fun q => h2 ⟨by omega, q.2⟩)]
    | false =>
      have hk : k ∉ keep := by simpa using hc
      simp only [cond_false, Env.at, T.get_set]
      by_cases h : t = k
      · subst h; rw [if_pos rfl, if_pos ⟨by omega, hk⟩]; rfl
      · rw [if_neg h]
        simp only [Env.at] at ih
        rw [ih]
        by_cases h2 : t < k ∧ t ∉ keep
        · rw [if_pos h2, if_pos ⟨by omega, h2.2⟩]
        · rw [if_neg h2, if_neg (fun q => h2 ⟨by omega, q.2⟩)]

theorem toQ_dst (o : AOper) : (toQ o).dst = o.dst := by unfold toQ; split <;> rfl
theorem toQ_guard (o : AOper) : (toQ o).guard = o.guard := by unfold toQ; split <;> rfl
theorem toQ_op (o : AOper) : (toQ o).op = o.op ∨ ∃ f args, o.op = .call f args ∧ (toQ o).op = .qcall f args := by
  unfold toQ
  split
  · rename_i f args h; exact .inr ⟨f, args, h, rfl⟩
  · exact .inl rfl
/-- What looks leaves what lies there. -/
theorem look_state {E : Env} {A B : St} {op : AOp} {v : AV} (hl : isLook op = true) (h : opOf D G E A op = some (v, B)) : B = A := by
  unfold isLook at hl
  unfold opOf at h
  split at h
  · rename_i hc; rw [hc] at hl; cases hl
  · rename_i hc; rw [hc] at hl; cases hl
  · split at h
    · simp only [Option.some.injEq, Prod.mk.injEq] at h; exact h.2.symm
    · cases h
  · rename_i hc; rw [hc] at hl; cases hl
  · rename_i hc; rw [hc] at hl; cases hl
  · split at h
    · rename_i f args _
      cases hk : allKnown args with
      | false => rw [hk] at h; cases h
      | true =>
        rw [hk, cond_true] at h
        split at h
        · simp only [Option.some.injEq, Prod.mk.injEq] at h; exact h.2.symm
        · cases h
    · cases h
/-- A quiet call. -/
theorem op_sound_q {Fe : Fence} (hFe : FOk Fe) (hG : CSound P M0 G) {F : Fr} {m : Mu} {E : Env} {a : Act} {A : St} {w : World} {o : Oper} {f : FuncId} {args : List Operand} {v : AV} {B : St} (R : Rel F m A w) (hc : compOp P o.op = some (.call f args)) (e : EnvR M0 m n E a)
    (h : opOf D G E A (.qcall f args) = some (v, B)) {next : Act → World → Prop} {Q : Exit → Act → World → Prop} (k : ∀ c m' w', m.le m' → Rel F m' B w' → slotR m' v c → next (a.put o.dst c) w') : o.wpIn Fe 0 P a w next Q := by
  have hB := look_state rfl h
  subst hB
  simp only [opOf, AOp.cls, calleeOf] at h
  cases hk : allKnown (evs E args) with
  | false => rw [hk] at h; cases h
  | true =>
    rw [hk, cond_true] at h
    split at h
    · rename_i r hr
      simp only [Option.some.injEq, Prod.mk.injEq] at h
      obtain ⟨rfl, _⟩ := h
      unfold quietOf at hr
      split at hr
      · rename_i r B' hg
        cases hn : noPlace r && sameTo B B' B.next with
        | false => rw [hn] at hr; cases hr
        | true =>
          rw [hn, cond_true] at hr
          cases hr
          rw [Bool.and_eq_true] at hn
          have hop : opOf D G E B (.call f args) = some (r, B') := by
            simp only [opOf, AOp.cls, calleeOf, hk, cond_true]
            exact hg
          refine op_sound hFe hG R hc e hop fun c m' w' h1 h2 h3 => k c m w' (Mu.le_refl m) (canon0 R h2 h1 (sameTo_spec hn.2)) ?_
          rcases h3 with h3 | h3
          · rw [h3] at hn; exact absurd hn.1 (by simp [noPlace])
          · exact .inr (by rw [← noPlace_spec m m' r hn.1]; exact h3)
      · cases hr
    · cases h
/-- The data of a region that draws. -/
structure DrawData (P : Program) (D : Disp) (G : Calls') (n : Nat) (ops : Array Oper) (al : List AOper) (X : Nat → Env × St) : Prop where
  len : al.length = ops.size
  comp : ∀ (i : Nat) o, ops[i]? = some o → ∃ ao a0, al[i]? = some ao ∧ compOper P n ops o = some a0 ∧ (ao = a0 ∨ ao = toQ a0)
  mask : ∀ (i : Nat) o, ops[i]? = some o → ∃ k, (masks ops.toList [])[i]? = some k
  pairs : ∀ (i j : Nat) x y k, i < j → al[i]? = some x → al[j]? = some y → (masks ops.toList [])[j]? = some k → k.testBit i = true ∨ looseB x y = true
  back : ∀ (i : Nat) o, ops[i]? = some o → ∀ e ∈ o.after, Region.binds .any e = true → e.on < i
  step : ∀ (i : Nat) ao, al[i]? = some ao → ∃ v, Stp D G ao (X i) (X (i + 1)) v
  read : ∀ (i : Nat) ao k, al[i]? = some ao → (masks ops.toList [])[i]? = some k → isLook ao.op = true → wantedA (X i).1 ao.guard = some true →
    ∀ p, p ≤ ops.size → (∀ (h : Nat) x, al[h]? = some x → heavy x = true → k.testBit h = true → h + 1 ≤ p) → (∀ (h : Nat) x c, al[h]? = some x → (masks ops.toList [])[h]? = some c → heavy x = true → c.testBit i = true → p ≤ h) →
      ∃ u, lookOf D G (X i).1 (X p).2 ao.op = some u ∧ lookOf D G (X i).1 (X i).2 ao.op = some u

theorem drawData1 {ops : Array Oper} {al : List AOper} {lim : List (AOper × Nat × Nat)} (c1 : al.length = ops.size) (c2 : ∀ (i : Nat) o, ops[i]? = some o → ∃ ao a0, al[i]? = some ao ∧ compOper P n ops o = some a0 ∧ (ao = a0 ∨ ao = toQ a0)) (hc : drawOf ops al = some (.draws lim)) {E : Env} {A : St} {tr : List (Env × St)} (hr : runTr D G lim E A = some tr) (hk : chkTr D G tr 0 lim = true) {x : Env × St} (hx : lastOf tr = some x) :
    ∃ X, DrawData P D G n ops al X ∧ X 0 = (E, A) ∧ X ops.size = x := by
  unfold drawOf at hc
  · dsimp only at hc
    cases hb : pairsB 0 (zipM al (masks ops.toList [])) && backB 0 ops.toList with
    | false => rw [hb] at hc; cases hc
    | true =>
      rw [hb] at hc
      simp only [cond_true, Option.some.injEq, ACode.draws.injEq] at hc
      rw [Bool.and_eq_true] at hb
      have ml : (masks ops.toList []).length = ops.size := by rw [masks_length]; simp
      have zl : (zipM al (masks ops.toList [])).length = ops.size := by rw [zipM_length (by omega)]; exact c1
      have zmap : (zipM al (masks ops.toList [])).map (·.1) = al := by
        apply List.ext_getElem?
        intro i
        rw [List.getElem?_map]
        cases hi : al[i]? with
        | none => rw [List.getElem?_eq_none (by rw [List.getElem?_eq_none_iff] at hi; omega)]; rfl
        | some a =>
          have : i < (masks ops.toList []).length := by have := (List.getElem?_eq_some_iff.1 hi).1; omega
          rw [zipM_get hi (List.getElem?_eq_getElem this)]; rfl
      have mget : ∀ i, i < ops.size → ∃ k, (masks ops.toList [])[i]? = some k := fun i hi => ⟨_, List.getElem?_eq_getElem (by omega)⟩
      obtain ⟨t1, t2, t3⟩ := runTr_spec hr
      have limlen : lim.length = ops.size := by rw [← hc, limits_length, zl]
      have limget : ∀ i ao k, al[i]? = some ao → (masks ops.toList [])[i]? = some k → lim[i]? = some (ao, loOf k 0 al 0, hiOf i 0 (zipM al (masks ops.toList []))) := fun i ao k ha hk => by
        rw [← hc, limits_get _ (zipM_get ha hk), zmap, Nat.zero_add]
      have trX : ∀ i, i ≤ ops.size → tr[i]? = some (tr.getD i (E, A)) := fun i hi => by
        rw [List.getElem?_eq_getElem (by omega)]; simp [List.getD, List.getElem?_eq_getElem (show i < tr.length by omega)]
      refine ⟨fun i => tr.getD i (E, A), ⟨c1, fun i o ho => c2 i o ho, fun i o ho => mget i (Array.getElem?_eq_some_iff.1 ho).1, fun i j x y k hij hx hy hk => ?_, fun i o ho e he hbd => by simpa using back_spec hb.2 i o (by simpa using ho) e he hbd, fun i ao ha => ?_, fun i ao k ha hkk hrd hw p hp h1 h2 => ?_⟩, ?_, ?_⟩
      · have hi : i < ops.size := by have := (List.getElem?_eq_some_iff.1 hx).1; omega
        obtain ⟨kx, hkx⟩ := mget i hi
        simpa using pairs_spec hb.1 i j x kx y k hij (zipM_get hx hkx) (zipM_get hy hk)
      · have hi : i < ops.size := by have := (List.getElem?_eq_some_iff.1 ha).1; omega
        obtain ⟨k, hk⟩ := mget i hi
        obtain ⟨a, b, v, g1, g2, g3⟩ := t3 i _ _ _ (limget i ao k ha hk)
        have e1 := trX i (by omega)
        have e2 := trX (i + 1) (by omega)
        rw [g1] at e1; rw [g2] at e2
        cases e1; cases e2
        exact ⟨v, g3⟩
      · have hi : i < ops.size := by have := (List.getElem?_eq_some_iff.1 ha).1; omega
        obtain ⟨z, g1, g2⟩ := chk_spec hk i _ _ _ (limget i ao k ha hkk)
        rw [Nat.zero_add] at g1
        have e1 := trX i (by omega)
        rw [g1] at e1; cases e1
        obtain ⟨y, u, q1, q2, q3⟩ := g2 hrd hw p (lo_spec (Nat.zero_le _) fun h x hx hh ht => by simpa using h1 h x hx hh (by simpa using ht)) (hi_spec (by omega) fun h x c hx hh ht => by
          obtain ⟨z1, z2⟩ := zipM_get' hx
          simpa using h2 h x c z1 z2 hh ht)
        have e2 := trX p hp
        rw [q1] at e2; cases e2
        exact ⟨u, q2, q3⟩
      · have := trX 0 (Nat.zero_le _); rw [t2] at this; exact (Option.some.inj this).symm
      · have h1 := lastOf_get hx
        have h2 := trX ops.size (Nat.le_refl _)
        rw [show tr.length - 1 = ops.size by omega] at h1
        rw [h1] at h2; exact (Option.some.inj h2).symm

theorem drawData {ops : Array Oper} {lim : List (AOper × Nat × Nat)} (hc : compDraw P n ops = some (.draws lim)) {E : Env} {A : St} {tr : List (Env × St)} (hr : runTr D G lim E A = some tr) (hk : chkTr D G tr 0 lim = true) {x : Env × St} (hx : lastOf tr = some x) :
    ∃ al X, DrawData P D G n ops al X ∧ X 0 = (E, A) ∧ X ops.size = x := by
  unfold compDraw at hc
  split at hc
  · rename_i al hal
    obtain ⟨c1, c2⟩ := compOpers_get hal
    have c1 : al.length = ops.size := by simpa using c1
    split at hc
    · rename_i c hc1
      cases hc
      exact ⟨al, drawData1 c1 (fun i o ho => by
        obtain ⟨ao, h1, h2⟩ := c2 i o (by simpa using ho)
        exact ⟨ao, ao, h1, h2, .inl rfl⟩) hc1 hr hk hx⟩
    · exact ⟨al.map toQ, drawData1 (by simpa using c1) (fun i o ho => by
        obtain ⟨ao, h1, h2⟩ := c2 i o (by simpa using ho)
        exact ⟨toQ ao, ao, by rw [List.getElem?_map, h1]; rfl, h2, .inr rfl⟩) hc hr hk hx⟩
  · cases hc

theorem light_state {x y : Env × St} {o : AOper} {v : AV} (hl : heavy o = false) (h : Stp D G o x y v) : y.2 = x.2 := by
  rcases h.1 with ⟨_, h⟩ | ⟨_, _, h⟩
  · unfold opOf at h
    unfold heavy at hl
    split at h
    · split at h
      · simp only [Option.some.injEq, Prod.mk.injEq] at h; exact h.2.symm
      · cases h
    · rename_i hc; rw [hc] at hl; cases hl
    · split at h
      · simp only [Option.some.injEq, Prod.mk.injEq] at h; exact h.2.symm
      · cases h
    · rename_i hc; rw [hc] at hl; cases hl
    · rename_i hc; rw [hc] at hl; cases hl
    · split at h
      · rename_i f args _
        cases hk : allKnown args with
        | false => rw [hk] at h; cases h
        | true =>
          rw [hk, cond_true] at h
          split at h
          · simp only [Option.some.injEq, Prod.mk.injEq] at h; exact h.2.symm
          · cases h
      · cases h
  · exact h

section data
variable {ops : Array Oper} {al : List AOper} {X : Nat → Env × St} (H : DrawData P D G n ops al X)
include H

theorem DrawData.al_of {i : Nat} (hi : i < ops.size) : ∃ o ao a0, ops[i]? = some o ∧ al[i]? = some ao ∧ compOper P n ops o = some a0 ∧ (ao = a0 ∨ ao = toQ a0) := by
  obtain ⟨ao, a0, h1, h2, h3⟩ := H.comp i ops[i] (Array.getElem?_eq_getElem hi)
  exact ⟨_, ao, a0, Array.getElem?_eq_getElem hi, h1, h2, h3⟩

theorem DrawData.same_state {a b : Nat} (hab : a ≤ b) (hb : b ≤ ops.size) (h : ∀ k x, a ≤ k → k < b → al[k]? = some x → heavy x = false) : (X b).2 = (X a).2 := by
  induction b with
  | zero => have : a = 0 := by omega
            subst this; rfl
  | succ b ih =>
    by_cases e : a = b + 1
    · subst e; rfl
    · obtain ⟨o, ao, _, _, h2, _⟩ := H.al_of (show b < ops.size by omega)
      obtain ⟨v, hv⟩ := H.step b ao h2
      rw [light_state (h b ao (by omega) (by omega) h2) hv]
      exact ih (by omega) (by omega) fun k x h1 h3 h4 => h k x h1 (by omega) h4

theorem DrawData.same_slot {a b t : Nat} (hab : a ≤ b) (hb : b ≤ ops.size) (h : ∀ k x, a ≤ k → k < b → al[k]? = some x → x.dst ≠ some t) : Env.at (X b).1 t = Env.at (X a).1 t := by
  induction b with
  | zero => have : a = 0 := by omega
            subst this; rfl
  | succ b ih =>
    by_cases e : a = b + 1
    · subst e; rfl
    · obtain ⟨o, ao, _, _, h2, _⟩ := H.al_of (show b < ops.size by omega)
      obtain ⟨v, hv⟩ := H.step b ao h2
      have hne := h b ao (by omega) (by omega) h2
      rw [hv.2]
      have : Env.at (Env.put (X b).1 ao.dst v) t = Env.at (X b).1 t := by
        cases hd : ao.dst with
        | none => rfl
        | some d => simp only [Env.put, Env.at, T.get_set]; rw [if_neg (by intro q; subst q; exact hne hd)]
      rw [this]
      exact ih (by omega) (by omega) fun k x h1 h3 h4 => h k x h1 (by omega) h4

theorem DrawData.dst_lt {k : Nat} {x : AOper} {t : Nat} (hk : al[k]? = some x) (hd : x.dst = some t) : t < n ∧ t < 1000000 := by
  have hi : k < ops.size := by have := (List.getElem?_eq_some_iff.1 hk).1; rw [H.len] at this; exact this
  obtain ⟨o, ao, a0, _, h2, h3, hq⟩ := H.al_of hi
  rw [hk] at h2; cases h2
  obtain ⟨g1, g2, _⟩ := compOper_spec h3
  have hd0 : a0.dst = some t := by
    rcases hq with rfl | rfl
    · exact hd
    · rw [← toQ_dst]; exact hd
  rw [← g2, hd0] at g1
  simpa [dstOk] using g1
end data

/-- What holds while a region runs in whatever order. -/
structure Inv (P : Program) (M0 : Mu) (n : Nat) (ops : Array Oper) (al : List AOper) (X : Nat → Env × St) (F : Fr) (ds : List Deferred) (m : Mu) (listed : Array Bool) (a : Act) (w : World) : Prop where
  size : listed.size = ops.size
  closed : ∀ i o, ops[i]? = some o → listed.getD i false = true → ∀ e ∈ o.after, Region.binds .any e = true → listed.getD e.on false = true
  at_ : ∃ p μ, p ≤ ops.size ∧ (∀ (i : Nat) x, al[i]? = some x → heavy x = true → (listed.getD i false = true ↔ i < p)) ∧ (p = 0 ∨ ∃ (h : Nat) (x : AOper), p = h + 1 ∧ al[h]? = some x ∧ heavy x = true) ∧ m.le μ ∧ Rel F μ (X p).2 w ∧
    (∀ t, t < 1000000 → ∀ j, j ≤ ops.size → (∀ (k : Nat) x, al[k]? = some x → x.dst = some t → (listed.getD k false = true ↔ k < j)) → slotR μ (Env.at (X j).1 t) (a.tmps.getD t undef))
  len : a.tmps.size = n
  defers : a.defers = ds

def unlisted (ops : Array Oper) (listed : Array Bool) : Nat := ((List.range ops.size).filter fun i => !listed.getD i false).length

theorem listed_set {listed : Array Bool} {i k : Nat} (hi : i < listed.size) : (listed.setIfInBounds i true).getD k false = true ↔ listed.getD k false = true ∨ k = i := by
  by_cases h : i = k
  · subst h; simp [hi]
  · rw [getD_set_ne false h]; simp; intro q; exact absurd q.symm h

theorem unlisted_set {ops : Array Oper} {listed : Array Bool} {i : Nat} (hs : listed.size = ops.size) (hi : i < ops.size) (hl : listed.getD i false = false) : unlisted ops (listed.setIfInBounds i true) < unlisted ops listed := by
  unfold unlisted
  have : (List.range ops.size).filter (fun k => !(listed.setIfInBounds i true).getD k false) = ((List.range ops.size).filter fun k => !listed.getD k false).filter fun k => decide (k ≠ i) := by
    rw [List.filter_filter]
    apply List.filter_congr
    intro k _
    rw [Bool.eq_iff_iff]
    have := listed_set (listed := listed) (i := i) (k := k) (by omega)
    simp only [Bool.not_eq_true', Bool.and_eq_true, decide_eq_true_eq]
    rw [← Bool.not_eq_true, this, not_or, Bool.not_eq_true]
    exact ⟨fun h => ⟨h.2, h.1⟩, fun h => ⟨h.2, h.1⟩⟩
  rw [this]
  refine List.length_filter_lt_length_iff_exists.2 ⟨i, List.mem_filter.2 ⟨List.mem_range.2 hi, by simp [hl]⟩, by simp⟩

theorem inv_step {Fe : Fence} (hFe : FOk Fe) {ds : List Deferred} (hG : CSound P M0 G) {ops : Array Oper} {al : List AOper} {X : Nat → Env × St} (H : DrawData P D G n ops al X) {F : Fr} {m : Mu} (hbase : M0.le m) (hglob : ∀ g, slotR m (Env.at (X 0).1 (1000000 + g)) (.pointer (some ⟨g, 0, none⟩)))
    {listed : Array Bool} {a : Act} {w : World} (I : Inv P M0 n ops al X F ds m listed a w) {i : Nat} (hi : i ∈ Region.ready .any ops listed) {Q : Exit → Act → World → Prop} {K : Act → World → Prop}
    (hK : ∀ a' w', Inv P M0 n ops al X F ds m (listed.setIfInBounds i true) a' w' → K a' w') : wpOpIn Fe 0 P ops Q i K a w := by
  obtain ⟨hun, o, ho, hedges⟩ := mem_ready.1 hi
  have hilt : i < ops.size := (Array.getElem?_eq_some_iff.1 ho).1
  have hls : i < listed.size := by rw [I.size]; exact hilt
  have hnl : listed.getD i false = false := by simp [hls] at hun ⊢; exact hun
  obtain ⟨ao, a0, hao, hcomp, hq⟩ := H.comp i o ho
  obtain ⟨g1, g2, g3, g4⟩ := compOper_spec hcomp
  have hqd : ao.dst = a0.dst := by
    rcases hq with rfl | rfl
    · rfl
    · exact toQ_dst _
  have hqg : ao.guard = a0.guard := by
    rcases hq with rfl | rfl
    · rfl
    · exact toQ_guard _
  rw [← hqd] at g2
  rw [← hqg] at g4
  obtain ⟨mk, hmk⟩ := H.mask i o ho
  obtain ⟨p, μ, hp, hheavy, hplast, hle, R, hslots⟩ := I.at_
  -- whom it waits for, and who waits for it
  have hanc : ∀ j, mk.testBit j = true → listed.getD j false = true := fun j hj => mask_closed (L := fun j => listed.getD j false = true) I.closed i o mk ho hmk hedges j hj
  have hdesc : ∀ k x c, al[k]? = some x → (masks ops.toList [])[k]? = some c → c.testBit i = true → listed.getD k false = false := fun k x c hx hc ht => by
    cases hL : listed.getD k false with
    | false => rfl
    | true =>
      have hk : k < ops.size := by have := (List.getElem?_eq_some_iff.1 hx).1; rw [H.len] at this; exact this
      have := mask_closed (L := fun j => listed.getD j false = true) I.closed k ops[k] c (Array.getElem?_eq_getElem hk) hc (I.closed k ops[k] (Array.getElem?_eq_getElem hk) hL) i ht
      rw [hnl] at this; cases this
  have hmaskof : ∀ k x, al[k]? = some x → ∃ c, (masks ops.toList [])[k]? = some c := fun k x hx => by
    have hk : k < ops.size := by have := (List.getElem?_eq_some_iff.1 hx).1; rw [H.len] at this; exact this
    exact H.mask k _ (Array.getElem?_eq_getElem hk)
  have hbefore : ∀ k x, al[k]? = some x → k < i → looseB x ao = false → listed.getD k false = true := fun k x hx hk hl => by
    rcases H.pairs k i x ao mk hk hx hao hmk with h | h
    · exact hanc k h
    · rw [hl] at h; cases h
  have hbehind : ∀ k x, al[k]? = some x → i < k → looseB ao x = false → listed.getD k false = false := fun k x hx hk hl => by
    obtain ⟨c, hc⟩ := hmaskof k x hx
    rcases H.pairs i k ao x c hk hao hx hc with h | h
    · exact hdesc k x c hx hc h
    · rw [hl] at h; cases h
  have hlook : ∀ t, t ∈ looksOf ao → ∀ k x, al[k]? = some x → x.dst = some t → (listed.getD k false = true ↔ k < i) := fun t ht k x hx hd => by
    rcases Nat.lt_trichotomy k i with h | h | h
    · have := hbefore k x hx h (by simp [looseB, hd, ht]); simp [this, h]
    · subst h; simp [hnl]
    · have := hbehind k x hx h (by simp [looseB, hd, ht]); simp [this]; omega
  have hwrite : ∀ t, ao.dst = some t → ∀ k x, al[k]? = some x → x.dst = some t → (listed.getD k false = true ↔ k < i) := fun t ht k x hx hd => by
    rcases Nat.lt_trichotomy k i with h | h | h
    · have := hbefore k x hx h (by simp [looseB, hd, ht]); simp [this, h]
    · subst h; simp [hnl]
    · have := hbehind k x hx h (by simp [looseB, hd, ht]); simp [this]; omega
  -- the environment of what it looks at
  have hglobX : ∀ g, Env.at (X i).1 (1000000 + g) = Env.at (X 0).1 (1000000 + g) := fun g => H.same_slot (Nat.zero_le _) (by omega) fun k x _ _ hx hd => by have := (H.dst_lt hx hd).2; omega
  let E' := restr (looksOf ao) (min n 1000000) (X i).1
  have hE'at : ∀ t, Env.at E' t = if t < min n 1000000 ∧ t ∉ looksOf ao then .bot else Env.at (X i).1 t := fun t => restr_at _ _ t _
  have hglobE : ∀ g, Env.at E' (1000000 + g) = Env.at (X i).1 (1000000 + g) := fun g => by rw [hE'at, if_neg (by omega)]
  have eR : EnvR M0 μ n E' a := by
    refine ⟨fun t ht => ?_, fun g => ?_, I.len, Mu.le_trans hbase hle⟩
    · rw [hE'at]
      split
      · exact .inl rfl
      · rename_i hcond
        refine hslots t ht i (by omega) fun k x hx hd => ?_
        by_cases hl : t ∈ looksOf ao
        · exact hlook t hl k x hx hd
        · have := H.dst_lt hx hd; exact absurd ⟨by omega, hl⟩ hcond
    · rw [hglobE, hglobX]; exact (hglob g).mono hle
  have hev : ∀ x ∈ opndsOf ao.op, ev (X i).1 x = ev E' x := ev_agree (fun t ht _ => by
    rw [hE'at, if_neg (fun q => q.2 (List.mem_append_right _ ht))]) (fun g => (hglobE g).symm)
  have hwant : wantedA E' ao.guard = wantedA (X i).1 ao.guard := by
    cases hg : ao.guard with
    | none => rfl
    | some gt =>
      obtain ⟨t, b⟩ := gt
      simp only [wantedA]
      have : Env.at E' t = Env.at (X i).1 t := by rw [hE'at, if_neg (fun q => q.2 (by simp [looksOf, hg]))]
      rw [this]
  obtain ⟨v, hstp⟩ := H.step i ao hao
  -- what holds behind it
  have fin : ∀ (p' : Nat) (μ' : Mu) (c : Value) (w' : World), p' ≤ ops.size → (∀ (k : Nat) x, al[k]? = some x → heavy x = true → ((listed.getD k false = true ∨ k = i) ↔ k < p')) →
      (p' = 0 ∨ ∃ (h : Nat) (x : AOper), p' = h + 1 ∧ al[h]? = some x ∧ heavy x = true) → μ.le μ' → Rel F μ' (X p').2 w' → slotR μ' v c → K (a.put o.dst c) w' := fun p' μ' c w' q1 q2 q3 q4 q5 q6 => by
    refine hK _ _ ⟨by simp [I.size], fun k o' ho' hk e he hbd => ?_, ⟨p', μ', q1, fun k x hx hh => by rw [listed_set hls]; exact q2 k x hx hh, q3, Mu.le_trans hle q4, q5, fun t ht j hj hag => ?_⟩, ?_, ?_⟩
    · rw [listed_set hls] at hk ⊢
      rcases hk with hk | rfl
      · exact .inl (I.closed k o' ho' hk e he hbd)
      · rw [ho] at ho'; cases ho'; exact .inl (hedges e he hbd)
    · have hag' : ∀ (k : Nat) x, al[k]? = some x → x.dst = some t → ((listed.getD k false = true ∨ k = i) ↔ k < j) := fun k x hx hd => by rw [← listed_set hls]; exact hag k x hx hd
      by_cases hd : ao.dst = some t
      · have hij : i < j := (hag' i ao hao hd).1 (.inr rfl)
        have hsame : Env.at (X j).1 t = Env.at (X (i + 1)).1 t := H.same_slot (by omega) hj fun k x h1 h2 hx hdx => by
          rcases (hag' k x hx hdx).2 h2 with h | h
          · have := (hwrite t hd k x hx hdx).1 h; omega
          · omega
        have hv : Env.at (X (i + 1)).1 t = v := by
          rw [hstp.2, hd]; simp only [Env.put, Env.at, T.get_set]; rfl
        have hlt := H.dst_lt hao hd
        rw [hsame, hv, ← g2, hd]
        have : ((a.put (some t) c).tmps).getD t undef = c := by
          simp only [Act.put]
          have : t < a.tmps.size := by rw [I.len]; exact hlt.1
          simp [this]
        rw [this]; exact q6
      · have h1 := hslots t ht j hj fun k x hx hdx => by
          have := hag' k x hx hdx
          have hki : k ≠ i := by intro q; subst q; rw [hao] at hx; cases hx; exact hd hdx
          rw [← this]; simp [hki]
        have h2 : ((a.put o.dst c).tmps).getD t undef = a.tmps.getD t undef := by
          rw [g2] at hd
          cases hdd : o.dst with
          | none => rfl
          | some d =>
            have hne : d ≠ t := by intro q; subst q; exact hd hdd
            simp [Act.put, Array.getElem?_setIfInBounds_ne hne]
        rw [h2]; exact h1.mono q4
    · cases o.dst <;> simp [Act.put, I.len]
    · cases o.dst <;> exact I.defers
  unfold wpOpIn
  simp only [ho]
  rcases hstp.1 with ⟨hw, hop⟩ | ⟨hw, hv, hst⟩
  · rw [wanted_sound eR g4 (by rw [hwant]; exact hw), if_pos rfl]
    -- the state at hand
    have hres : ∃ p', p' ≤ ops.size ∧ opOf D G E' (X p).2 ao.op = some (v, (X p').2) ∧ (∀ (k : Nat) x, al[k]? = some x → heavy x = true → ((listed.getD k false = true ∨ k = i) ↔ k < p')) ∧ (p' = 0 ∨ ∃ (h : Nat) (x : AOper), p' = h + 1 ∧ al[h]? = some x ∧ heavy x = true) := by
      cases hhv : heavy ao with
      | true =>
        have hpi : p ≤ i := by
          rcases Nat.lt_or_ge i p with h | h
          · have := (hheavy i ao hao hhv).2 h; rw [hnl] at this; cases this
          · exact h
        have hcst : (X i).2 = (X p).2 := H.same_state hpi (by omega) fun k x h1 h2 hx => by
          cases hhx : heavy x with
          | false => rfl
          | true =>
            have h3 := hbefore k x hx h2 (by simp [looseB, hhx, hhv])
            have := (hheavy k x hx hhx).1 h3; omega
        refine ⟨i + 1, by omega, by rw [← hcst, ← opOf_congr (X i).2 hev]; exact hop, fun k x hx hhx => ?_, .inr ⟨i, ao, rfl, hao, hhv⟩⟩
        rcases Nat.lt_trichotomy k i with h | h | h
        · have := hbefore k x hx h (by simp [looseB, hhx, hhv]); simp [this]; omega
        · subst h; simp
        · have := hbehind k x hx h (by simp [looseB, hhx, hhv]); simp [this]; omega
      | false =>
        have hli : ∀ (k : Nat) x, al[k]? = some x → heavy x = true → ((listed.getD k false = true ∨ k = i) ↔ k < p) := fun k x hx hhx => by
          have hki : k ≠ i := by intro q; subst q; rw [hao] at hx; cases hx; rw [hhv] at hhx; cases hhx
          rw [← hheavy k x hx hhx]; simp [hki]
        refine ⟨p, hp, ?_, hli, hplast⟩
        rw [← opOf_congr (X p).2 hev]
        cases hrd : isLook ao.op with
        | false =>
          have hcls : ao.op.cls = .pure := by
            unfold heavy at hhv; unfold isLook at hrd
            cases hc : ao.op.cls <;> rw [hc] at hhv hrd <;> simp at hhv hrd ⊢
          unfold opOf at hop ⊢
          rw [hcls] at hop ⊢
          dsimp only at hop ⊢
          split at hop
          · simp only [Option.some.injEq, Prod.mk.injEq] at hop; rw [hop.1]
          · cases hop
        | true =>
          obtain ⟨u, k1, k2⟩ := H.read i ao mk hao hmk hrd hw p hp (fun h x hx hhx ht => by
            have := (hheavy h x hx hhx).1 (hanc h ht); omega) (fun h x c hx hc hhx ht => by
            have h1 := hdesc h x c hx hc ht
            rcases Nat.lt_or_ge h p with h2 | h2
            · have := (hheavy h x hx hhx).2 h2; rw [h1] at this; cases this
            · exact h2)
          unfold lookOf at k1 k2
          rw [hop] at k2
          cases k2
          split at k1
          · rename_i u B hB
            cases k1
            rw [hB, look_state hrd hB]
          · cases k1
    obtain ⟨p', q1, q2, q3, q4⟩ := hres
    rcases hq with rfl | rfl
    · exact (op_sound hFe hG R g3 eR q2 fun c μ' w' h1 h2 h3 => fin p' μ' c w' q1 q3 q4 h1 h2 h3)
    · rcases toQ_op a0 with h | ⟨f, args, h5, h6⟩
      · rw [h] at q2
        exact (op_sound hFe hG R g3 eR q2 fun c μ' w' h1 h2 h3 => fin p' μ' c w' q1 q3 q4 h1 h2 h3)
      · rw [h6] at q2
        rw [h5] at g3
        exact (op_sound_q hFe hG R g3 eR q2 fun c μ' w' h1 h2 h3 => fin p' μ' c w' q1 q3 q4 h1 h2 h3)
  · rw [wanted_sound eR g4 (by rw [hwant]; exact hw)]
    simp only [Bool.false_eq_true, if_false]
    refine ⟨fun f _ => hFe.fn f, ?_⟩
    by_cases hhv : heavy ao = true
    · have hpi : p ≤ i := by
        rcases Nat.lt_or_ge i p with h | h
        · have := (hheavy i ao hao hhv).2 h; rw [hnl] at this; cases this
        · exact h
      have hcst : (X i).2 = (X p).2 := H.same_state hpi (by omega) fun k x h1 h2 hx => by
        cases hhx : heavy x with
        | false => rfl
        | true =>
          have h3 := hbefore k x hx h2 (by simp [looseB, hhx, hhv])
          have := (hheavy k x hx hhx).1 h3; omega
      refine fin (i + 1) μ undef w (by omega) (fun k x hx hhx => ?_) (.inr ⟨i, ao, rfl, hao, hhv⟩) (Mu.le_refl μ) (by rw [hst, hcst]; exact R) (.inr (by rw [hv]; simp [cvo, cvos, undef]))
      rcases Nat.lt_trichotomy k i with h | h | h
      · have := hbefore k x hx h (by simp [looseB, hhx, hhv]); simp [this]; omega
      · subst h; simp
      · have := hbehind k x hx h (by simp [looseB, hhx, hhv]); simp [this]; omega
    · refine fin p μ undef w hp (fun k x hx hhx => ?_) hplast (Mu.le_refl μ) R (.inr (by rw [hv]; simp [cvo, cvos, undef]))
      have hki : k ≠ i := by intro q; subst q; rw [hao] at hx; cases hx; exact hhv hhx
      rw [← hheavy k x hx hhx]; simp [hki]

theorem inv_any {Fe : Fence} (hFe : FOk Fe) {ds : List Deferred} (hG : CSound P M0 G) {ops : Array Oper} {al : List AOper} {X : Nat → Env × St} (H : DrawData P D G n ops al X) {F : Fr} {m : Mu} (hbase : M0.le m) (hglob : ∀ g, slotR m (Env.at (X 0).1 (1000000 + g)) (.pointer (some ⟨g, 0, none⟩))) {Q : Exit → Act → World → Prop}
    (hQ : ∀ listed a w, Inv P M0 n ops al X F ds m listed a w → (∀ i, i < ops.size → listed.getD i false = true) → Q .normal a w) :
    ∀ (fuel : Nat) (listed : Array Bool) (a : Act) (w : World), Inv P M0 n ops al X F ds m listed a w → unlisted ops listed ≤ fuel → wpAnyIn Fe 0 P .any ops Q fuel listed a w := by
  have hall : ∀ listed : Array Bool, listed.size = ops.size → Region.ready .any ops listed = [] → ∀ i, i < ops.size → listed.getD i false = true := fun listed hs hr i => by
    induction i using Nat.strongRecOn with
    | _ i ih =>
      intro hi
      cases hl : listed.getD i false with
      | true => rfl
      | false =>
        have : i ∈ Region.ready .any ops listed := mem_ready.2 ⟨by have : i < listed.size := by omega
                                                                   simp [this] at hl ⊢; exact hl, ops[i], Array.getElem?_eq_getElem hi, fun e he hb => by
          have := H.back i ops[i] (Array.getElem?_eq_getElem hi) e he hb
          exact ih e.on this (by omega)⟩
        rw [hr] at this; cases this
  intro fuel
  induction fuel with
  | zero =>
    intro listed a w I hf
    have hev : ∀ i, i < ops.size → listed.getD i false = true := fun i hi => by
      cases hl : listed.getD i false with
      | true => rfl
      | false =>
        have := unlisted_set I.size hi hl; omega
    refine ⟨?_, hQ listed a w I hev⟩
    cases hr : Region.ready .any ops listed with
    | nil => rfl
    | cons i l =>
      have hi : i ∈ Region.ready .any ops listed := by rw [hr]; simp
      obtain ⟨hun, o, ho, _⟩ := mem_ready.1 hi
      have hlt := (Array.getElem?_eq_some_iff.1 ho).1
      have := hev i hlt
      have h2 : i < listed.size := by rw [I.size]; exact hlt
      simp [h2] at hun this
      rw [hun] at this; cases this
  | succ fuel ih =>
    intro listed a w I hf
    refine ⟨fun hr => hQ listed a w I (hall listed I.size hr), fun i hi => ?_⟩
    refine inv_step hFe hG H hbase hglob I hi fun a' w' I' => ih _ a' w' I' ?_
    obtain ⟨hun, o, ho, _⟩ := mem_ready.1 hi
    have hlt := (Array.getElem?_eq_some_iff.1 ho).1
    have h2 : i < listed.size := by rw [I.size]; exact hlt
    have := unlisted_set I.size hlt (listed := listed) (i := i) (by simp [h2] at hun ⊢; exact hun)
    omega

/-- A region that draws its order. -/
theorem draws_sound {Fe : Fence} (hFe : FOk Fe) {ds : List Deferred} (hm : P.follows .mixedOrders = true) (hG : CSound P M0 G) {ops : Array Oper} {lim : List (AOper × Nat × Nat)} (hc : compDraw P n ops = some (.draws lim)) {F : Fr} {m : Mu} {E : Env} {a : Act} {A : St} {w : World} {tr : List (Env × St)} {x : Env × St} (id : Nat)
    (R : Rel F m A w) (e : EnvR M0 m n E a) (hd : a.defers = ds) (hr : runTr D G lim E A = some tr) (hk : chkTr D G tr 0 lim = true) (hx : lastOf tr = some x) {Q : Exit → Act → World → Prop}
    (K : ∀ m' a' w', m.le m' → Rel F m' x.2 w' → EnvR M0 m' n x.1 a' → a'.defers = ds → Q .normal a' w') : (Code.region id ops true).wpIn Fe 0 P Q a w := by
  obtain ⟨al, X, H, h0, hM⟩ := drawData hc hr hk hx
  refine wpIn_region_any hm (inv_any hFe (F := F) (m := m) hG H e.base (fun g => by rw [h0]; exact e.glob g) (fun listed a' w' I hall => ?_) ops.size _ a _ ⟨by simp, fun i o ho hl => ?_, ⟨0, m, Nat.zero_le _, fun i x hx hh => ?_, .inl rfl, Mu.le_refl m, ?_, fun t ht j hj hag => ?_⟩, e.size, hd⟩ ?_)
  · obtain ⟨p, μ, q1, q2, q3, q4, q5, q6⟩ := I.at_
    have hst : (X ops.size).2 = (X p).2 := H.same_state q1 (Nat.le_refl _) fun k y h1 h2 hy => by
      cases hh : heavy y with
      | false => rfl
      | true => have := (q2 k y hy hh).1 (hall k h2); omega
    rw [hM] at hst
    refine K μ a' w' q4 (by rw [hst]; exact q5) ⟨fun t ht => ?_, fun g => ?_, I.len, Mu.le_trans e.base q4⟩ I.defers
    · have := q6 t ht ops.size (Nat.le_refl _) fun k y hy hdy => by
        have hk : k < ops.size := by have := (List.getElem?_eq_some_iff.1 hy).1; rw [H.len] at this; exact this
        simp [hall k hk, hk]
      rw [hM] at this; exact this
    · have := H.same_slot (Nat.zero_le _) (Nat.le_refl _) (t := 1000000 + g) fun k y _ _ hy hdy => by have := (H.dst_lt hy hdy).2; omega
      rw [hM, h0] at this
      rw [this]; exact (e.glob g).mono q4
  · simp at hl
    exact absurd hl (by
      intro q
      by_cases hi : i < ops.size
      · simp [hi] at q
      · simp [hi] at q)
  · constructor
    · intro q
      exfalso
      by_cases hi : i < ops.size
      · simp [hi] at q
      · simp [hi] at q
    · intro q; omega
  · rw [h0]; exact R.drew
  · have hj0 : Env.at (X j).1 t = Env.at (X 0).1 t := H.same_slot (Nat.zero_le _) hj fun k y h1 h2 hy hdy => by
      have := (hag k y hy hdy).2 h2
      by_cases hi : k < ops.size
      · simp [hi] at this
      · simp [hi] at this
    rw [hj0, h0]; exact e.tmp t ht
  · unfold unlisted
    refine Nat.le_trans (List.length_filter_le _ _) (by simp)
end
end Go.AM
