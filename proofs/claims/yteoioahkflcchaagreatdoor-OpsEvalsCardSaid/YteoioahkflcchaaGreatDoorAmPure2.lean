/- The abstract machine: operations of their operands alone, all of them. -/
import Derived.Test.YteoioahkflcchaaGreatDoorAmPure
namespace Go.AM
set_option linter.unusedVariables false
set_option linter.unusedSimpArgs false
section
variable {P : Program} {M0 : Mu} {m : Mu} {n : Nat} {E : Env} {a : Act}

theorem szOf_some {t : TypeId} {s : Nat} (h : szOf P t = some s) : ∃ i, P.info? t = some i ∧ i.size = s := by
  unfold szOf at h; simpa [Option.map_eq_some_iff] using h

/-- What a pure operation comes to. -/
def PureOk (P : Program) (m : Mu) (a : Act) (o : Oper) (v : AV) (w : World) : Prop := ∃ c, (execOp a.eval o).run P w = .ok (.value c) w ∧ slotR m v c

theorem run_asBool (b : Bool) (w : World) : (asBool (.bool b)).run P w = .ok b w := rfl

theorem bounds_sound {cap len : Nat} {lo hi mx : Option Operand} {mm h l : Nat} (e : EnvR M0 m n E a) (hm : boundMx (evo E mx) cap = some mm) (hh : boundHi (evo E hi) mm len = some h) (hl : boundLo (evo E lo) h = some l) (hx : ¬ ((evo E mx).isSome && (evo E hi).isNone) = true) (isSlice : Bool) (w : World) :
    (Instr.sliceBounds isSlice len cap (lo.map a.eval) (hi.map a.eval) (mx.map a.eval)).run P w = .ok (l, h, mm) w ∧ l ≤ h ∧ mm ≤ cap ∧ (hi.isSome = true → h ≤ mm) := by
  have hL : ∀ x j, lo = some x → boundLo (evo E (some x)) h = some j → ∃ k, a.eval x = .int k (j : Int) ∧ j ≤ h := fun x j _ hj => bound_sound (ev_sound e x) hj
  have hH : ∀ x j, hi = some x → boundHi (evo E (some x)) mm len = some j → ∃ k, a.eval x = .int k (j : Int) ∧ j ≤ mm := fun x j _ hj => bound_sound (ev_sound e x) hj
  have hM : ∀ x j, mx = some x → boundMx (evo E (some x)) cap = some j → ∃ k, a.eval x = .int k (j : Int) ∧ j ≤ cap := fun x j _ hj => bound_sound (ev_sound e x) hj
  have hmc : mm ≤ cap := by
    cases mx with
    | none => simp [evo, boundMx] at hm; omega
    | some x => obtain ⟨_, _, q⟩ := hM x mm rfl hm; exact q
  have hhm : hi.isSome = true → h ≤ mm := by
    cases hi with
    | none => simp
    | some x => obtain ⟨_, _, q⟩ := hH x h rfl hh; exact fun _ => q
  have hlh : l ≤ h := by
    cases lo with
    | none => simp [evo, boundLo] at hl; omega
    | some x => obtain ⟨_, _, q⟩ := hL x l rfl hl; exact q
  refine ⟨?_, hlh, hmc, hhm⟩
  cases mx with
  | none =>
    simp [evo, boundMx] at hm; subst hm
    cases hi with
    | none =>
      simp [evo, boundHi] at hh; subst hh
      cases lo with
      | none => simp [evo, boundLo] at hl; subst hl; simp [Instr.sliceBounds]
      | some z => obtain ⟨_, q, _⟩ := hL z l rfl hl; simp [Instr.sliceBounds, q, run_sliceBound hlh]
    | some y =>
      obtain ⟨_, qh, _⟩ := hH y h rfl hh
      cases lo with
      | none => simp [evo, boundLo] at hl; subst hl; simp [Instr.sliceBounds, qh, run_sliceBound (hhm rfl)]
      | some z => obtain ⟨_, q, _⟩ := hL z l rfl hl; simp [Instr.sliceBounds, q, qh, run_sliceBound (hhm rfl), run_sliceBound hlh]
  | some x =>
    obtain ⟨_, qm, _⟩ := hM x mm rfl hm
    cases hi with
    | none => simp [evo] at hx
    | some y =>
      obtain ⟨_, qh, _⟩ := hH y h rfl hh
      cases lo with
      | none => simp [evo, boundLo] at hl; subst hl; simp [Instr.sliceBounds, qm, qh, run_sliceBound hmc, run_sliceBound (hhm rfl)]
      | some z => obtain ⟨_, q, _⟩ := hL z l rfl hl; simp [Instr.sliceBounds, q, qm, qh, run_sliceBound hmc, run_sliceBound (hhm rfl), run_sliceBound hlh]

theorem cells_sound {v : AV} {c : Value} (s : slotR m v c) (hb : v.isBot = false) : ∃ us, cvos m v.cells = some us ∧ c.cells = us.toArray := by
  have hne : v ≠ .bot := by intro h; subst h; cases hb
  have hc := s.cv hne
  have one : v.cells = [v] → c.cells = #[c] → ∃ us, cvos m v.cells = some us ∧ c.cells = us.toArray := fun h1 h2 => ⟨[c], by rw [h1]; simp [cvos, hc], by rw [h2]⟩
  cases v with
  | agg l => obtain ⟨us, h1, h2⟩ := agg_sound rfl s; exact ⟨us, h1, by rw [h2]; rfl⟩
  | bot => cases hb
  | tuple l => refine one rfl ?_; simp only [cvo, Option.map_eq_some_iff] at hc; obtain ⟨_, _, rfl⟩ := hc; rfl
  | _ => refine one rfl ?_; have := oneCell_of_flat (m := m) (by rfl) hc; cases c <;> first | rfl | (simp [Value.oneCell'] at this)

theorem fold_splice (off : Nat) : ∀ (us : List Value) (k : Nat) (ys : List Value), off + k + us.length ≤ ys.length →
    (us.zipIdx k).foldl (fun (cs : Array Value) (x : Value × Nat) => cs.setIfInBounds (off + x.2) x.1) ys.toArray = (ys.take (off + k) ++ (us ++ ys.drop (off + k + us.length))).toArray
  | [], k, ys, _ => by simp
  | u :: us, k, ys, h => by
    simp at h
    simp only [List.zipIdx_cons, List.foldl_cons, List.setIfInBounds_toArray]
    rw [fold_splice off us (k + 1) _ (by simp; omega)]
    have e1 : (ys.set (off + k) u).take (off + (k + 1)) = ys.take (off + k) ++ [u] := by
      rw [List.set_eq_take_append_cons_drop, if_pos (by omega), List.take_append, List.length_take, Nat.min_eq_left (by omega), show off + (k + 1) - (off + k) = 1 by omega, List.take_of_length_le (by simp; omega)]
      rfl
    have e2 : (ys.set (off + k) u).drop (off + (k + 1) + us.length) = ys.drop (off + k + (us.length + 1)) := by
      rw [List.drop_set_of_lt (by omega)]; congr 1; omega
    rw [e1, e2, List.append_assoc]
    rfl

theorem cvos_take : ∀ {l : List AV} {ys : List Value}, cvos m l = some ys → ∀ k, cvos m (l.take k) = some (ys.take k)
  | _, _, _, 0 => by simp [cvos]
  | [], ys, h, k + 1 => by simp [cvos] at h; subst h; simp [cvos]
  | a :: l, ys, h, k + 1 => by
    simp only [cvos] at h
    split at h
    · rename_i y zs hy hz; cases h; simp [cvos, hy, cvos_take hz k]
    · cases h
theorem cvos_drop : ∀ {l : List AV} {ys : List Value}, cvos m l = some ys → ∀ k, cvos m (l.drop k) = some (ys.drop k)
  | _, _, h, 0 => by simpa using h
  | [], ys, h, k + 1 => by simp [cvos] at h; subst h; simp [cvos]
  | a :: l, ys, h, k + 1 => by
    simp only [cvos] at h
    split at h
    · rename_i y zs hy hz; cases h; simpa using cvos_drop hz k
    · cases h
def splice' (cs : List Value) (o : Nat) (l : List Value) : List Value := cs.take o ++ (l ++ cs.drop (o + l.length))

theorem fill_sound {place : Nat → Option (Nat × Nat)} : ∀ {parts : List (Nat × Operand)} {ap : List (Nat × Nat × Operand)} {cells : List AV} {r : List AV} {ys : List Value},
    (∀ (k : Nat) i x, parts[k]? = some (i, x) → ∃ o s, ap[k]? = some (o, s, x) ∧ place i = some (o, s)) → ap.length = parts.length → EnvR M0 m n E a → cvos m cells = some ys → fillA cells (evParts E ap) = some r →
    ∃ zs, Instr.fill place ys.toArray (parts.map fun (i, x) => (i, a.eval x)) = some zs.toArray ∧ cvos m r = some zs
  | [], [], cells, r, ys, _, _, e, hc, h => by simp [evParts, fillA] at h; subst h; exact ⟨ys, rfl, hc⟩
  | [], _ :: _, _, _, _, _, hl, _, _, _ => by simp at hl
  | _ :: _, [], _, _, _, _, hl, _, _, _ => by simp at hl
  | (i, x) :: parts, (o, s, x') :: ap, cells, r, ys, hp, hl, e, hc, h => by
    obtain ⟨o', s', h1, h2⟩ := hp 0 i x rfl
    simp at h1
    obtain ⟨rfl, rfl, rfl⟩ := h1
    simp only [evParts, fillA] at h
    split at h
    · rename_i hcnd
      obtain ⟨hb, hsz, hin⟩ := hcnd
      have hlen := cvos_length hc
      obtain ⟨us, hu, hcell⟩ := cells_sound (ev_sound e x') hb
      have hul := cvos_length hu
      have hsp : cvos m (splice cells o (ev E x').cells) = some (splice' ys o us) := cvos_append (cvos_take hc o) (cvos_append hu (by rw [← hul]; exact cvos_drop hc _))
      obtain ⟨zs, h3, h4⟩ := fill_sound (fun k i x hk => hp (k + 1) i x hk) (by simpa using hl) e hsp h
      refine ⟨zs, ?_, h4⟩
      rw [← h3]
      simp only [List.map_cons, Instr.fill, h2, hcell]
      rw [if_neg (by simp; omega)]
      congr 1
      rw [Array.zipIdx_toArray, List.foldl_toArray', fold_splice o us 0 ys (by omega)]
      · rfl
      · simp
    · cases h
theorem fillA_length : ∀ {parts : List (Nat × Nat × AV)} {cells r : List AV}, fillA cells parts = some r → r.length = cells.length
  | [], cells, r, h => by simp [fillA] at h; subst h; rfl
  | (o, s, v) :: l, cells, r, h => by
    simp only [fillA] at h
    split at h
    · rename_i hc
      rw [fillA_length h, splice_length _ _ _ (by omega)]
    · cases h
end
end Go.AM
