/- The abstract machine: maps, as lists of keys and values. -/
import Derived.Test.YtejlhgcheaimjaaGreatDoorAmTr
namespace Go.AM
set_option linter.unusedVariables false
set_option linter.unusedSimpArgs false
set_option linter.unusedSectionVars false

/-- How keys are told. -/
structure KeyEnc {α : Type} [DecidableEq α] (kd : KK) (enc : α → AV) : Prop where
  ok : ∀ a, keyOk kd (enc a) = true
  same : ∀ a b, keySame (enc a) (enc b) = some (decide (a = b))
theorem keyEnc_int (k : IntKind) : KeyEnc (.int k) (fun i : Int => AV.int k i) :=
  ⟨fun a => by simp [keyOk], fun a b => by
    simp only [keySame, if_true]
    congr 1⟩
theorem keyEnc_str : KeyEnc .str AV.str :=
  ⟨fun a => rfl, fun a b => by
    simp only [keySame]
    congr 1
    rw [Bool.eq_iff_iff]
    simp⟩

section
variable {α : Type} [DecidableEq α] {δ : Type}

/-- What a key has in a list. -/
def assoc (k : α) : List (α × δ) → Option δ
  | [] => none
  | (x, v) :: l => if x = k then some v else assoc k l
/-- A key has another value, at its place, or behind all others. -/
def putA (k : α) (v : δ) : List (α × δ) → List (α × δ)
  | [] => [(k, v)]
  | (x, u) :: l => if x = k then (k, v) :: l else (x, u) :: putA k v l
def delA (k : α) : List (α × δ) → List (α × δ)
  | [] => []
  | (x, u) :: l => if x = k then l else (x, u) :: delA k l
def keysA (l : List (α × δ)) : List α := l.map (·.1)
@[simp] theorem assoc_nil (k : α) : assoc k ([] : List (α × δ)) = none := rfl
@[simp] theorem keysA_nil : keysA ([] : List (α × δ)) = [] := rfl
@[simp] theorem keysA_cons (x : α × δ) (l : List (α × δ)) : keysA (x :: l) = x.1 :: keysA l := rfl

theorem assoc_none {k : α} : ∀ {l : List (α × δ)}, assoc k l = none ↔ k ∉ keysA l
  | [] => by simp
  | (x, v) :: l => by
    simp only [assoc, keysA_cons, List.mem_cons, not_or]
    by_cases h : x = k
    · simp [h]
    · rw [if_neg h, assoc_none]
      exact ⟨fun g => ⟨fun e => h e.symm, g⟩, fun g => g.2⟩
theorem assoc_mem {k : α} {v : δ} : ∀ {l : List (α × δ)}, assoc k l = some v → (k, v) ∈ l
  | [], h => by cases h
  | (x, u) :: l, h => by
    simp only [assoc] at h
    split at h
    · rename_i e; cases h; subst e; exact List.mem_cons_self
    · exact List.mem_cons_of_mem _ (assoc_mem h)
theorem assoc_of_mem {k : α} {v : δ} : ∀ {l : List (α × δ)}, (keysA l).Nodup → (k, v) ∈ l → assoc k l = some v
  | [], _, h => by cases h
  | (x, u) :: l, hn, h => by
    rw [keysA_cons, List.nodup_cons] at hn
    simp only [assoc]
    rcases List.mem_cons.1 h with h | h
    · cases h; rw [if_pos rfl]
    · rw [if_neg, assoc_of_mem hn.2 h]
      rintro rfl
      exact hn.1 (List.mem_map.2 ⟨_, h, rfl⟩)
theorem assoc_some_iff {k : α} {l : List (α × δ)} : (assoc k l).isSome = true ↔ k ∈ keysA l := by
  cases h : assoc k l with
  | none => simp [assoc_none.1 h]
  | some v => simp; exact List.mem_map.2 ⟨_, assoc_mem h, rfl⟩
@[simp] theorem assoc_put (k k' : α) (v : δ) : ∀ l : List (α × δ), assoc k' (putA k v l) = if k' = k then some v else assoc k' l
  | [] => by
    simp only [putA, assoc]
    by_cases h : k' = k
    · subst h; simp
    · rw [if_neg (fun e => h e.symm), if_neg h]
  | (x, u) :: l => by
    simp only [putA]
    by_cases hx : x = k
    · rw [if_pos hx]
      simp only [assoc]
      by_cases h : k' = k
      · subst h; simp
      · rw [if_neg (fun e => h e.symm), if_neg h, if_neg (fun e => h (by rw [← e, hx]))]
    · rw [if_neg hx]
      simp only [assoc]
      rw [assoc_put k k' v l]
      by_cases h : x = k'
      · subst h; rw [if_pos rfl, if_neg hx, if_pos rfl]
      · rw [if_neg h, if_neg h]
theorem keysA_put (k : α) (v : δ) : ∀ l : List (α × δ), keysA (putA k v l) = if k ∈ keysA l then keysA l else keysA l ++ [k]
  | [] => by simp [putA]
  | (x, u) :: l => by
    simp only [putA]
    by_cases hx : x = k
    · rw [if_pos hx]
      subst hx
      simp
    · rw [if_neg hx]
      simp only [keysA_cons, keysA_put k v l, List.mem_cons]
      by_cases h : k ∈ keysA l
      · rw [if_pos h, if_pos (.inr h)]
      · rw [if_neg h, if_neg (by rintro (e | e); exact hx e.symm; exact h e)]; rfl
theorem mem_keysA_put {k k' : α} {v : δ} {l : List (α × δ)} : k' ∈ keysA (putA k v l) ↔ k' = k ∨ k' ∈ keysA l := by
  rw [keysA_put]
  split
  · rename_i h
    constructor
    · exact .inr
    · rintro (rfl | h'); exact h; exact h'
  · simp [or_comm]
theorem nodup_put {k : α} {v : δ} {l : List (α × δ)} (h : (keysA l).Nodup) : (keysA (putA k v l)).Nodup := by
  rw [keysA_put]
  split
  · exact h
  · rename_i hn
    rw [List.nodup_append]
    refine ⟨h, by simp, fun a ha b hb => ?_⟩
    simp at hb
    subst hb
    rintro rfl
    exact hn ha
theorem keysA_del (k : α) : ∀ l : List (α × δ), keysA (delA k l) = (keysA l).erase k
  | [] => rfl
  | (x, u) :: l => by
    simp only [delA, keysA_cons, List.erase_cons]
    by_cases hx : x = k
    · rw [if_pos hx, if_pos (by simpa using hx)]
    · rw [if_neg hx, if_neg (by simpa using hx), keysA_cons, keysA_del k l]
theorem nodup_del {k : α} {l : List (α × δ)} (h : (keysA l).Nodup) : (keysA (delA k l)).Nodup := by rw [keysA_del]; exact h.erase k
theorem assoc_del {k k' : α} : ∀ {l : List (α × δ)}, (keysA l).Nodup → assoc k' (delA k l) = if k' = k then none else assoc k' l
  | [], _ => by simp [delA]
  | (x, u) :: l, hn => by
    rw [keysA_cons, List.nodup_cons] at hn
    simp only [delA]
    by_cases hx : x = k
    · rw [if_pos hx]
      subst hx
      by_cases h : k' = x
      · rw [if_pos h, h, assoc_none]; exact hn.1
      · rw [if_neg h]; simp only [assoc]; rw [if_neg (fun e => h e.symm)]
    · rw [if_neg hx]
      simp only [assoc]
      rw [assoc_del hn.2]
      by_cases h : x = k'
      · subst h; rw [if_pos rfl, if_neg hx, if_pos rfl]
      · rw [if_neg h, if_neg h]
theorem mem_keysA_del {k k' : α} {l : List (α × δ)} (h : (keysA l).Nodup) : k' ∈ keysA (delA k l) ↔ k' ≠ k ∧ k' ∈ keysA l := by
  rw [keysA_del, List.Nodup.mem_erase_iff h]
theorem length_put (k : α) (v : δ) (l : List (α × δ)) : (putA k v l).length = if k ∈ keysA l then l.length else l.length + 1 := by
  have h : (keysA (putA k v l)).length = (putA k v l).length := by simp [keysA]
  rw [← h, keysA_put]
  split <;> simp [keysA]
theorem length_del {k : α} {l : List (α × δ)} (hk : k ∈ keysA l) : (delA k l).length = l.length - 1 := by
  have h : (keysA (delA k l)).length = (delA k l).length := by simp [keysA]
  rw [← h, keysA_del, List.length_erase_of_mem hk]
  simp [keysA]
theorem delA_of_not_mem {k : α} : ∀ {l : List (α × δ)}, k ∉ keysA l → delA k l = l
  | [], _ => rfl
  | (x, u) :: l, h => by
    rw [keysA_cons, List.mem_cons, not_or] at h
    simp only [delA]
    rw [if_neg (fun e => h.1 e.symm), delA_of_not_mem h.2]

/-- Data that some values stand for, key by key. -/
def ValsR {β : Type} (R : β → δ → Prop) : List (α × β) → List (α × δ) → Prop
  | [], [] => True
  | x :: l, y :: r => x.1 = y.1 ∧ R x.2 y.2 ∧ ValsR R l r
  | _, _ => False
section
variable {β : Type} {R : β → δ → Prop}
theorem ValsR.keys : ∀ {l : List (α × β)} {r : List (α × δ)}, ValsR R l r → keysA l = keysA r
  | [], [], _ => rfl
  | x :: l, y :: r, ⟨h1, _, h3⟩ => by rw [keysA_cons, keysA_cons, h1, ValsR.keys h3]
  | [], _ :: _, h => h.elim
  | _ :: _, [], h => h.elim
theorem ValsR.length {l : List (α × β)} {r : List (α × δ)} (h : ValsR R l r) : l.length = r.length := by
  have := congrArg List.length h.keys
  simpa [keysA] using this
theorem ValsR.mono {R' : β → δ → Prop} : ∀ {l : List (α × β)} {r : List (α × δ)}, ValsR R l r → (∀ x ∈ l, ∀ d, R x.2 d → R' x.2 d) → ValsR R' l r
  | [], [], _, _ => trivial
  | x :: l, y :: r, ⟨h1, h2, h3⟩, h => ⟨h1, h x List.mem_cons_self _ h2, ValsR.mono h3 fun z hz => h z (List.mem_cons_of_mem _ hz)⟩
  | [], _ :: _, h, _ => h.elim
  | _ :: _, [], h, _ => h.elim
theorem ValsR.assoc {k : α} : ∀ {l : List (α × β)} {r : List (α × δ)}, ValsR R l r → (∀ v, AM.assoc k l = some v → ∃ d, AM.assoc k r = some d ∧ R v d) ∧ (AM.assoc k l = none → AM.assoc k r = none)
  | [], [], _ => by simp
  | (x, v) :: l, (y, d) :: r, ⟨h1, h2, h3⟩ => by
    simp only at h1
    subst h1
    simp only [AM.assoc]
    by_cases h : x = k
    · rw [if_pos h, if_pos h]
      exact ⟨fun u hu => by cases hu; exact ⟨d, rfl, h2⟩, fun hu => by cases hu⟩
    · rw [if_neg h, if_neg h]; exact ValsR.assoc h3
  | [], _ :: _, h => h.elim
  | _ :: _, [], h => h.elim
theorem ValsR.put {k : α} {v : β} {d : δ} (hv : R v d) : ∀ {l : List (α × β)} {r : List (α × δ)}, ValsR R l r → ValsR R (putA k v l) (putA k d r)
  | [], [], _ => ⟨rfl, hv, trivial⟩
  | (x, u) :: l, (y, e) :: r, ⟨h1, h2, h3⟩ => by
    simp only at h1
    subst h1
    simp only [putA]
    by_cases h : x = k
    · rw [if_pos h, if_pos h]; exact ⟨rfl, hv, h3⟩
    · rw [if_neg h, if_neg h]; exact ⟨rfl, h2, ValsR.put hv h3⟩
  | [], _ :: _, h => h.elim
  | _ :: _, [], h => h.elim
theorem ValsR.del {k : α} : ∀ {l : List (α × β)} {r : List (α × δ)}, ValsR R l r → ValsR R (delA k l) (delA k r)
  | [], [], _ => trivial
  | (x, u) :: l, (y, e) :: r, ⟨h1, h2, h3⟩ => by
    simp only at h1
    subst h1
    simp only [delA]
    by_cases h : x = k
    · rw [if_pos h, if_pos h]; exact h3
    · rw [if_neg h, if_neg h]; exact ⟨rfl, h2, ValsR.del h3⟩
  | [], _ :: _, h => h.elim
  | _ :: _, [], h => h.elim
end

/-! ### A map's entries -/
/-- The entries of a map's family. -/
def entC (enc : α → AV) (l : List (α × AV × Nat)) : List (AV × AV × Nat) := l.map fun x => (enc x.1, x.2.1, x.2.2)
structure MapE (enc : α → AV) (A : St) (f : Nat) (l : List (α × AV × Nat)) (clock : Nat) : Prop where
  lt : f < A.next
  get : A.get f = some (.map (entC enc l) clock)
  keys : (keysA l).Nodup
  stamps : l.Pairwise fun a b => a.2.2 < b.2.2
  below : ∀ x ∈ l, x.2.2 < clock

variable {kd : KK} {enc : α → AV}
theorem mapFind_none (he : KeyEnc kd enc) {k : α} : ∀ {l : List (α × AV × Nat)} (i : Nat), k ∉ keysA l → mapFind (enc k) (entC enc l) i = some none
  | [], _, _ => rfl
  | x :: l, i, h => by
    rw [keysA_cons, List.mem_cons, not_or] at h
    show mapFind (enc k) ((enc x.1, x.2.1, x.2.2) :: entC enc l) i = _
    unfold mapFind
    rw [he.same, decide_eq_false h.1]
    exact mapFind_none he (i + 1) h.2
theorem mapFind_some (he : KeyEnc kd enc) {k : α} {v : AV} {b : Nat} {c : List (α × AV × Nat)} : ∀ {a : List (α × AV × Nat)} (i : Nat), k ∉ keysA a → mapFind (enc k) (entC enc (a ++ (k, v, b) :: c)) i = some (some (i + a.length, v, b))
  | [], i, _ => by
    show mapFind (enc k) ((enc k, v, b) :: entC enc c) i = _
    unfold mapFind
    rw [he.same, decide_eq_true rfl]
    rfl
  | x :: a, i, h => by
    rw [keysA_cons, List.mem_cons, not_or] at h
    show mapFind (enc k) ((enc x.1, x.2.1, x.2.2) :: entC enc (a ++ (k, v, b) :: c)) i = _
    unfold mapFind
    rw [he.same, decide_eq_false h.1]
    dsimp only
    rw [mapFind_some he (i + 1) h.2, List.length_cons]
    congr 3
    omega
/-- Where a key stands. -/
theorem split_key {k : α} : ∀ {l : List (α × δ)}, k ∈ keysA l → ∃ a v c, l = a ++ (k, v) :: c ∧ k ∉ keysA a ∧ assoc k l = some v
  | [], h => by cases h
  | (x, u) :: l, h => by
    by_cases hx : x = k
    · subst hx
      exact ⟨[], u, l, rfl, by simp, by simp [assoc]⟩
    · rw [keysA_cons, List.mem_cons] at h
      obtain ⟨a, v, c, rfl, h2, h3⟩ := split_key (h.resolve_left fun e => hx e.symm)
      refine ⟨(x, u) :: a, v, c, rfl, ?_, ?_⟩
      · rw [keysA_cons, List.mem_cons, not_or]; exact ⟨fun e => hx e.symm, h2⟩
      · simp only [assoc]; rw [if_neg hx]; exact h3
theorem putA_split {k : α} {v v' : δ} {a c : List (α × δ)} (h : k ∉ keysA a) : putA k v' (a ++ (k, v) :: c) = a ++ (k, v') :: c := by
  induction a with
  | nil => simp [putA]
  | cons x a ih =>
    rw [keysA_cons, List.mem_cons, not_or] at h
    rw [List.cons_append, putA, if_neg (fun e => h.1 e.symm), ih h.2]; rfl
theorem putA_new {k : α} {v : δ} : ∀ {l : List (α × δ)}, k ∉ keysA l → putA k v l = l ++ [(k, v)]
  | [], _ => rfl
  | x :: l, h => by
    rw [keysA_cons, List.mem_cons, not_or] at h
    rw [putA, if_neg (fun e => h.1 e.symm), putA_new h.2]; rfl
theorem delA_split {k : α} {v : δ} {a c : List (α × δ)} (h : k ∉ keysA a) : delA k (a ++ (k, v) :: c) = a ++ c := by
  induction a with
  | nil => simp [delA]
  | cons x a ih =>
    rw [keysA_cons, List.mem_cons, not_or] at h
    rw [List.cons_append, delA, if_neg (fun e => h.1 e.symm), ih h.2]; rfl
/-- The values, without stamps. -/
def valsA (l : List (α × AV × Nat)) : List (α × AV) := l.map fun x => (x.1, x.2.1)
@[simp] theorem keysA_vals (l : List (α × AV × Nat)) : keysA (valsA l) = keysA l := by simp [keysA, valsA]
theorem assoc_vals (k : α) : ∀ l : List (α × AV × Nat), assoc k (valsA l) = (assoc k l).map (·.1)
  | [] => rfl
  | (x, v, b) :: l => by
    show assoc k ((x, v) :: valsA l) = _
    simp only [assoc]
    split
    · rfl
    · exact assoc_vals k l
theorem vals_append (a b : List (α × AV × Nat)) : valsA (a ++ b) = valsA a ++ valsA b := by simp [valsA]

theorem modifyM {α : Type} (f : α → α) (x : α) (c : List α) : ∀ a : List α, (a ++ x :: c).modify a.length f = a ++ f x :: c
  | [] => by simp [List.modify]
  | e :: a => by simp [modifyM f x c a]
theorem MapE.find (he : KeyEnc kd enc) {A : St} {f : Nat} {l : List (α × AV × Nat)} {c : Nat} (h : MapE enc A f l c) (k : α) :
    (assoc k (valsA l) = none ∧ k ∉ keysA l ∧ mapFind (enc k) (entC enc l) 0 = some none) ∨ ∃ a v b d, assoc k (valsA l) = some v ∧ l = a ++ (k, v, b) :: d ∧ k ∉ keysA a ∧ mapFind (enc k) (entC enc l) 0 = some (some (a.length, v, b)) := by
  by_cases hk : k ∈ keysA l
  · obtain ⟨a, ⟨v, b⟩, d, rfl, h2, h3⟩ := split_key hk
    refine .inr ⟨a, v, b, d, by rw [assoc_vals, h3]; rfl, rfl, h2, ?_⟩
    have := mapFind_some he (v := v) (b := b) (c := d) 0 h2
    rwa [Nat.zero_add] at this
  · exact .inl ⟨assoc_none.2 (by simpa using hk), hk, mapFind_none he 0 hk⟩
theorem MapE.lookup (he : KeyEnc kd enc) {A : St} {f : Nat} {l : List (α × AV × Nat)} {c : Nat} (h : MapE enc A f l c) {E : Env} {mp x : Operand} {k : α} (hm : ev E mp = .map (some f)) (hx : ev E x = enc k) (z : AV) (ok : Bool) :
    readOf E A (.lookup kd z ok mp x) = some (match assoc k (valsA l) with
      | some v => bif ok then .tuple [v, .bool true] else v
      | none => bif ok then .tuple [z, .bool false] else z) := by
  simp only [readOf, hx, he.ok, cond_true, hm, h.get]
  rcases h.find he k with ⟨h1, _, h2⟩ | ⟨a, v, b, d, h1, _, _, h2⟩
  · rw [h1, h2]
  · rw [h1, h2]
theorem MapE.len {A : St} {f : Nat} {l : List (α × AV × Nat)} {c : Nat} (h : MapE enc A f l c) {E : Env} {mp : Operand} (hm : ev E mp = .map (some f)) : readOf E A (.lenMap mp) = some (.int .i64 l.length) := by
  simp only [readOf, hm, h.get]
  simp [entC]
theorem lookup_nil (he : KeyEnc kd enc) {A : St} {E : Env} {mp x : Operand} {k : α} (hm : ev E mp = .map none) (hx : ev E x = enc k) (z : AV) (ok : Bool) : readOf E A (.lookup kd z ok mp x) = some (bif ok then .tuple [z, .bool false] else z) := by
  simp only [readOf, hx, he.ok, cond_true, hm]
/-- A value is put. -/
theorem MapE.put (he : KeyEnc kd enc) {A : St} {f : Nat} {l : List (α × AV × Nat)} {c : Nat} (h : MapE enc A f l c) {E : Env} {mp x y : Operand} {k : α} {v : AV} (hm : ev E mp = .map (some f)) (hx : ev E x = enc k) (hy : ev E y = v) (hv : v ≠ .bot) :
    ∃ l' c', effOf E A (.mapPut kd mp x y) = some (.bot, A.put f (.map (entC enc l') c')) ∧ valsA l' = putA k v (valsA l) ∧ MapE enc (A.put f (.map (entC enc l') c')) f l' c' := by
  have hb : effOf E A (.mapPut kd mp x y) = match mapSet (enc k) v (entC enc l) c with | some b => some (.bot, A.put f b) | none => none := by
    simp only [effOf, hx, he.ok, cond_true, hm, h.get, hy]
    cases v <;> first | rfl | exact absurd rfl hv
  have hget : ∀ b, (A.put f b).get f = some b := fun b => by rw [St.get_put, if_pos rfl]
  rcases h.find he k with ⟨h1, h2, h3⟩ | ⟨a, u, b, d, h1, rfl, h2, h3⟩
  · refine ⟨l ++ [(k, v, c)], c + 1, ?_, ?_, h.lt, hget _, ?_, ?_, fun z hz => ?_⟩
    · rw [hb]
      unfold mapSet
      rw [h3]
      simp [entC]
    · rw [vals_append, putA_new (by simpa using h2)]; rfl
    · show (keysA (l ++ [(k, v, c)])).Nodup
      simp only [keysA, List.map_append, List.map_cons, List.map_nil]
      rw [List.nodup_append]
      refine ⟨h.keys, by simp, fun a ha b hb => ?_⟩
      simp at hb
      subst hb
      rintro rfl
      exact h2 ha
    · rw [List.pairwise_append]
      exact ⟨h.stamps, by simp, fun a ha b hb => by rw [List.mem_singleton] at hb; subst hb; exact h.below a ha⟩
    · rcases List.mem_append.1 hz with hz | hz
      · exact Nat.lt_succ_of_lt (h.below z hz)
      · rw [List.mem_singleton] at hz; subst hz; exact Nat.lt_succ_self c
  · refine ⟨a ++ (k, v, b) :: d, c, ?_, ?_, h.lt, hget _, ?_, ?_, fun z hz => ?_⟩
    · rw [hb]
      unfold mapSet
      rw [h3]
      dsimp only
      congr 4
      unfold setVal entC
      rw [List.map_append, List.map_cons, List.map_append, List.map_cons]
      have := modifyM (fun e : AV × AV × Nat => (e.1, v, e.2.2)) (enc k, u, b) (d.map fun x => (enc x.1, x.2.1, x.2.2)) (a.map fun x => (enc x.1, x.2.1, x.2.2))
      rw [List.length_map] at this
      rw [this]
    · rw [vals_append, vals_append]
      exact (putA_split (v := u) (v' := v) (c := valsA d) (by simpa using h2)).symm
    · have := h.keys; simpa [keysA] using this
    · have := h.stamps; simp only [List.pairwise_append, List.pairwise_cons] at this ⊢
      refine ⟨this.1, this.2.1, fun x hx y hy => ?_⟩
      rcases List.mem_cons.1 hy with rfl | hy
      · exact this.2.2 x hx (k, u, b) List.mem_cons_self
      · exact this.2.2 x hx y (List.mem_cons_of_mem _ hy)
    · rcases List.mem_append.1 hz with hz | hz
      · exact h.below z (List.mem_append_left _ hz)
      · rcases List.mem_cons.1 hz with rfl | hz
        · exact h.below (k, u, b) (by simp)
        · exact h.below z (by simp [hz])
/-- A key is taken away. -/
theorem MapE.del (he : KeyEnc kd enc) {A : St} {f : Nat} {l : List (α × AV × Nat)} {c : Nat} (h : MapE enc A f l c) {E : Env} {mp x : Operand} {k : α} (hm : ev E mp = .map (some f)) (hx : ev E x = enc k) :
    ∃ l', effOf E A (.mapDel kd mp x) = some (.tuple [], A.put f (.map (entC enc l') c)) ∧ valsA l' = delA k (valsA l) ∧ MapE enc (A.put f (.map (entC enc l') c)) f l' c := by
  have hb : effOf E A (.mapDel kd mp x) = match mapCut (enc k) (entC enc l) c with | some b => some (.tuple [], A.put f b) | none => none := by
    simp only [effOf, hx, he.ok, cond_true, hm, h.get]
    rfl
  have hget : ∀ b, (A.put f b).get f = some b := fun b => by rw [St.get_put, if_pos rfl]
  rcases h.find he k with ⟨h1, h2, h3⟩ | ⟨a, u, b, d, h1, rfl, h2, h3⟩
  · refine ⟨l, ?_, by rw [delA_of_not_mem (by simpa using h2)], h.lt, hget _, h.keys, h.stamps, h.below⟩
    rw [hb]
    unfold mapCut
    rw [h3]
  · have hs := h.stamps
    have hk := h.keys
    simp only [List.pairwise_append, List.pairwise_cons] at hs
    refine ⟨a ++ d, ?_, ?_, h.lt, hget _, ?_, ?_, fun z hz => ?_⟩
    · rw [hb]
      unfold mapCut
      rw [h3]
      dsimp only
      congr 4
      unfold entC
      rw [List.map_append, List.map_cons, List.map_append]
      have := List.eraseIdx_append_of_length_le (l := a.map fun x => (enc x.1, x.2.1, x.2.2)) (k := a.length) (by simp) ((enc k, u, b) :: d.map fun x => (enc x.1, x.2.1, x.2.2))
      rw [this]
      simp
    · rw [vals_append, vals_append]
      exact (delA_split (v := u) (c := valsA d) (by simpa using h2)).symm
    · simp only [keysA, List.map_append, List.map_cons] at hk ⊢
      rw [List.nodup_append] at hk ⊢
      exact ⟨hk.1, (List.nodup_cons.1 hk.2.1).2, fun x hx y hy => hk.2.2 x hx y (List.mem_cons_of_mem _ hy)⟩
    · rw [List.pairwise_append]
      exact ⟨hs.1, hs.2.1.2, fun x hx y hy => hs.2.2 x hx y (List.mem_cons_of_mem _ hy)⟩
    · rcases List.mem_append.1 hz with hz | hz
      · exact h.below z (List.mem_append_left _ hz)
      · exact h.below z (by simp [hz])
theorem MapE.but {A B : St} {f : Nat} {l : List (α × AV × Nat)} {c : Nat} (h : MapE enc A f l c) (hn : A.next ≤ B.next) (hg : B.get f = A.get f) : MapE enc B f l c := ⟨Nat.lt_of_lt_of_le h.lt hn, by rw [hg]; exact h.get, h.keys, h.stamps, h.below⟩
theorem MapE.ext {A B : St} {f : Nat} {l : List (α × AV × Nat)} {c : Nat} (h : MapE enc A f l c) (x : A.Ext B) : MapE enc B f l c := h.but x.next (x.get f h.lt)
/-- A new map. -/
theorem mapE_new (enc : α → AV) (A : St) : MapE enc (A.push (.map [] 0)) A.next [] 0 := ⟨Nat.lt_succ_self _, by rw [St.get_push, if_pos rfl]; rfl, by simp, List.Pairwise.nil, fun _ h => by cases h⟩
end
end Go.AM
