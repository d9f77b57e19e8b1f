/- Texts of operations, in plain Lean. -/
import Derived.Test.YtejlhgcheaimjaaGreatDoorRtSame
import Derived.Lib.ItoaNum
import Derived.Test.YtejlhgcheaimjaaGreatDoorRtErr
import Derived.Test.YtejlhgcheaimjaaGreatDoorAmStr
import Derived.Lib.IndexLaws
import Derived.Test.YtejlhgcheaimjaaGreatDoorStCrc
namespace Go.Proofs.YtejlhgcheaimjaaGreatDoor
open Go.AM
set_option linter.unusedSimpArgs false
set_option linter.unusedVariables false

/-! ### Numbers -/
def digB (c : UInt8) : Bool := decide (48 ≤ c.toNat) && decide (c.toNat ≤ 57)
def valD (l : List UInt8) : Nat := l.foldl (fun n c => n * 10 + (c.toNat - 48)) 0
theorem valD_snoc (l : List UInt8) (c : UInt8) : valD (l ++ [c]) = valD l * 10 + (c.toNat - 48) := by simp [valD]
theorem dec_small {u : Nat} (h : u < 10) : Lib.decDigits u = [UInt8.ofNat (48 + u)] := by rw [Lib.decDigits, dif_pos h]
theorem dec_big {u : Nat} (h : ¬ u < 10) : Lib.decDigits u = Lib.decDigits (u / 10) ++ [UInt8.ofNat (48 + u % 10)] := by rw [Lib.decDigits, dif_neg h]
theorem toNat_dig {d : Nat} (h : d < 10) : (UInt8.ofNat (48 + d)).toNat = 48 + d := by
  rw [UInt8.toNat_ofNat']
  omega
theorem dec_val (u : Nat) : valD (Lib.decDigits u) = u := by
  induction u using Nat.strongRecOn with
  | _ u ih =>
    by_cases h : u < 10
    · rw [dec_small h]
      simp only [valD, List.foldl, toNat_dig h]
      omega
    · rw [dec_big h, valD_snoc, ih (u / 10) (by omega), toNat_dig (Nat.mod_lt _ (by decide))]
      omega
theorem dec_dig (u : Nat) : ∀ c ∈ Lib.decDigits u, digB c = true := by
  induction u using Nat.strongRecOn with
  | _ u ih =>
    intro c hc
    by_cases h : u < 10
    · rw [dec_small h, List.mem_singleton] at hc
      subst hc
      unfold digB
      rw [toNat_dig h]
      simp; omega
    · rw [dec_big h, List.mem_append, List.mem_singleton] at hc
      rcases hc with hc | hc
      · exact ih (u / 10) (by omega) c hc
      · subst hc
        unfold digB
        rw [toNat_dig (Nat.mod_lt _ (by decide))]
        simp; omega
theorem dec_ne (u : Nat) : Lib.decDigits u ≠ [] := by
  by_cases h : u < 10
  · rw [dec_small h]; simp
  · rw [dec_big h]; simp
theorem dec_len (u k : Nat) (h : u < 10 ^ (k + 1)) : (Lib.decDigits u).length ≤ k + 1 := by
  induction k generalizing u with
  | zero => rw [dec_small (by simpa using h)]; simp
  | succ k ih =>
    by_cases hs : u < 10
    · rw [dec_small hs]; simp
    · rw [dec_big hs, List.length_append, List.length_singleton]
      have := ih (u / 10) (by rw [Nat.pow_succ] at h; omega)
      omega
theorem itoa_pos {n : Int} (h : 0 ≤ n) : Lib.itoa n = Lib.decDigits n.toNat := by unfold Lib.itoa; rw [if_neg (by omega)]
theorem itoa_neg {n : Int} (h : n < 0) : Lib.itoa n = 45 :: Lib.decDigits n.natAbs := by unfold Lib.itoa; rw [if_pos h]
theorem dec_no45 (u : Nat) : ∀ r, Lib.decDigits u ≠ 45 :: r := fun r h => by
  have := dec_dig u 45 (by rw [h]; exact List.mem_cons_self)
  revert this; decide
theorem itoa_inj {a b : Int} (h : Lib.itoa a = Lib.itoa b) : a = b := by
  by_cases ha : a < 0 <;> by_cases hb : b < 0
  · rw [itoa_neg ha, itoa_neg hb] at h
    have := congrArg valD (List.cons.inj h).2
    rw [dec_val, dec_val] at this
    omega
  · rw [itoa_neg ha, itoa_pos (by omega)] at h
    exact absurd h.symm (dec_no45 _ _)
  · rw [itoa_neg hb, itoa_pos (by omega)] at h
    exact absurd h (dec_no45 _ _)
  · rw [itoa_pos (by omega), itoa_pos (by omega)] at h
    have := congrArg valD h
    rw [dec_val, dec_val] at this
    omega
theorem itoa_len {n : Int} (h : i64ok n) : 1 ≤ (Lib.itoa n).length ∧ (Lib.itoa n).length ≤ 20 := by
  unfold i64ok at h
  have hp : 9223372036854775808 < 10 ^ (18 + 1) := by decide
  by_cases hn : n < 0
  · rw [itoa_neg hn, List.length_cons]
    have := dec_len n.natAbs 18 (by omega)
    omega
  · rw [itoa_pos (by omega)]
    have := dec_len n.toNat 18 (by omega)
    have := dec_ne n.toNat
    have : (Lib.decDigits n.toNat).length ≠ 0 := by simpa using this
    omega
/-- The letters of a number. -/
theorem itoa_mem {n : Int} : ∀ c ∈ Lib.itoa n, c = 45 ∨ digB c = true := fun c hc => by
  by_cases hn : n < 0
  · rw [itoa_neg hn] at hc
    rcases List.mem_cons.1 hc with rfl | hc
    · exact .inl rfl
    · exact .inr (dec_dig _ c hc)
  · rw [itoa_pos (by omega)] at hc
    exact .inr (dec_dig _ c hc)
open Classical in
/-- The number whose text it is. -/
noncomputable def numT (s : List UInt8) : Option Int := if h : ∃ m, i64ok m ∧ Lib.itoa m = s then some h.choose else none
theorem numT_itoa {m : Int} (h : i64ok m) : numT (Lib.itoa m) = some m := by
  have hx : ∃ k, i64ok k ∧ Lib.itoa k = Lib.itoa m := ⟨m, h, rfl⟩
  unfold numT
  rw [dif_pos hx]
  exact congrArg some (itoa_inj hx.choose_spec.2)
theorem numT_some {s : List UInt8} {m : Int} (h : numT s = some m) : i64ok m ∧ Lib.itoa m = s := by
  unfold numT at h
  split at h
  · rename_i hx
    cases h
    exact hx.choose_spec
  · cases h
theorem numT_none {s : List UInt8} (h : numT s = none) {m : Int} (hm : i64ok m) : Lib.itoa m ≠ s := fun e => by
  rw [← e, numT_itoa hm] at h
  cases h

/-! ### Parts of a text -/
def splitS (c : UInt8) : List UInt8 → List (List UInt8)
  | [] => [[]]
  | x :: s => if x = c then [] :: splitS c s else match splitS c s with
    | [] => [[x]]
    | p :: ps => (x :: p) :: ps
theorem splitS_cons (c x : UInt8) (s : List UInt8) : splitS c (x :: s) = if x = c then [] :: splitS c s else match splitS c s with
    | [] => [[x]]
    | p :: ps => (x :: p) :: ps := rfl
theorem splitS_ne (c : UInt8) (s : List UInt8) : splitS c s ≠ [] := by
  cases s with
  | nil => simp [splitS]
  | cons x s =>
    unfold splitS
    split
    · simp
    · split <;> simp
theorem splitS_none {c : UInt8} : ∀ {p : List UInt8}, c ∉ p → splitS c p = [p]
  | [], _ => rfl
  | x :: p, h => by
    unfold splitS
    rw [if_neg (fun e => h (by rw [e]; exact List.mem_cons_self)), splitS_none (fun hm => h (List.mem_cons_of_mem _ hm))]
theorem splitS_cut {c : UInt8} {r : List UInt8} : ∀ {p : List UInt8}, c ∉ p → splitS c (p ++ c :: r) = p :: splitS c r
  | [], _ => by
    show splitS c (c :: r) = _
    rw [splitS_cons, if_pos rfl]
  | x :: p, h => by
    show splitS c (x :: (p ++ c :: r)) = _
    rw [splitS_cons, if_neg (fun e => h (by rw [e]; exact List.mem_cons_self)), splitS_cut (fun hm => h (List.mem_cons_of_mem _ hm))]
theorem splitS_length (c : UInt8) : ∀ s : List UInt8, (splitS c s).length = s.count c + 1
  | [] => rfl
  | x :: s => by
    have ih := splitS_length c s
    have hne := splitS_ne c s
    unfold splitS
    by_cases hx : x = c
    · rw [if_pos hx, List.length_cons, ih, hx, List.count_cons_self]
    · rw [if_neg hx, List.count_cons_of_ne hx]
      cases hs : splitS c s with
      | nil => exact absurd hs hne
      | cons p ps => rw [hs] at ih; simpa using ih
/-- The parts are of no more bytes than the text. -/
theorem splitS_mem (c : UInt8) : ∀ (s : List UInt8), ∀ p ∈ splitS c s, p.length ≤ s.length
  | [], p, h => by simp [splitS] at h; simp [h]
  | x :: s, p, h => by
    unfold splitS at h
    split at h
    · rcases List.mem_cons.1 h with rfl | h
      · exact Nat.zero_le _
      · have := splitS_mem c s p h
        simp; omega
    · cases hs : splitS c s with
      | nil => exact absurd hs (splitS_ne c s)
      | cons q qs =>
        rw [hs] at h
        have ih := splitS_mem c s
        rw [hs] at ih
        rcases List.mem_cons.1 h with rfl | h
        · have := ih q List.mem_cons_self
          simp; omega
        · have := ih p (List.mem_cons_of_mem _ h)
          simp; omega
def wordsS (s : List UInt8) : List (List UInt8) := (splitS 32 s).filter (fun w => !w.isEmpty)

/-! ### Operations -/
/-- The word of a kind. -/
def wordK (k : Int) : List UInt8 :=
  if k = 1 then [103, 101, 116] else if k = 2 then [112, 117, 116] else if k = 3 then [100, 101, 108] else if k = 4 then [97, 100, 100] else if k = 5 then [109, 105, 110] else if k = 6 then [98, 97, 99, 107] else []
/-- The kind of a word; 0: there is none. -/
def kindW (w : List UInt8) : Nat :=
  if w = [103, 101, 116] then 1 else if w = [112, 117, 116] then 2 else if w = [100, 101, 108] then 3 else if w = [97, 100, 100] then 4 else if w = [109, 105, 110] then 5 else if w = [98, 97, 99, 107] then 6 else 0
def needK (k : Nat) : Nat := if k = 1 then 2 else if k = 2 then 3 else if k = 3 then 2 else if k = 4 then 3 else if k = 5 then 4 else if k = 6 then 3 else 0
def showT (o : OpD) : List UInt8 :=
  if mayL o = false then [63] else
  wordK o.kind ++ (32 :: (o.key ++ ((if o.kind ≠ 1 ∧ o.kind ≠ 3 then 32 :: Lib.itoa o.n else []) ++ (if o.kind = 5 then 32 :: Lib.itoa o.lo else []))))
/-- Texts, "; " between them. -/
def joinT : List (List UInt8) → List UInt8
  | [] => []
  | [a] => a
  | a :: b :: l => a ++ (59 :: 32 :: joinT (b :: l))
def printT (l : List OpD) : List UInt8 := joinT (l.map showT)
/-- The operation of words. -/
noncomputable def oneW (f : List (List UInt8)) : Option OpD :=
  match f with
  | w :: key :: r =>
    if needK (kindW w) = r.length + 2 ∧ keyL key = true then
      match r with
      | [] => some ⟨kindW w, key, 0, 0⟩
      | a :: r' => match numT a with
        | none => none
        | some n => match r' with
          | [] => some ⟨kindW w, key, n, 0⟩
          | b :: _ => match numT b with
            | none => none
            | some lo => some ⟨kindW w, key, n, lo⟩
    else none
  | _ => none
/-- The operations of texts; or which of them is none, first. -/
noncomputable def onesT : Nat → List (List UInt8) → Nat ⊕ List OpD
  | _, [] => .inr []
  | i, p :: ps => match oneW (wordsS p) with
    | none => .inl i
    | some o => match onesT (i + 1) ps with
      | .inl j => .inl j
      | .inr l => .inr (o :: l)
noncomputable def parseT (s : List UInt8) : List OpD × Int × Int :=
  if wordsS s = [] then ([], 0, 0) else
  match onesT 0 (splitS 59 s) with
  | .inl i => ([], i, 6)
  | .inr l => if 8 < l.length then ([], 0, 7) else (l, 0, 0)

/-! ### What is printed is read again -/
theorem let_no {s : List UInt8} (h : keyL s = true) {c : UInt8} (hc : letN c.toNat = false) : c ∉ s := fun hm => by
  unfold keyL lettersL at h
  simp only [Bool.and_eq_true, List.all_eq_true] at h
  have := h.2.1 c hm
  rw [hc] at this
  cases this
theorem key_ne {s : List UInt8} (h : keyL s = true) : s ≠ [] := by
  unfold keyL lettersL at h
  rintro rfl
  simp at h
theorem itoa_no {n : Int} {c : UInt8} (h1 : c ≠ 45) (h2 : digB c = false) : c ∉ Lib.itoa n := fun hm => by
  rcases itoa_mem c hm with h | h
  · exact h1 h
  · rw [h2] at h; cases h
theorem itoa_ne (n : Int) : Lib.itoa n ≠ [] := by
  unfold Lib.itoa
  split
  · simp
  · exact dec_ne _
theorem wordK_no (k : Int) {c : UInt8} (h : c = 32 ∨ c = 59) : c ∉ wordK k := by
  unfold wordK
  repeat' split
  all_goals rcases h with rfl | rfl <;> decide
theorem kindW_word {k : Int} (h1 : 1 ≤ k) (h6 : k ≤ 6) : (kindW (wordK k) : Int) = k ∧ wordK k ≠ [] := by
  have : k = 1 ∨ k = 2 ∨ k = 3 ∨ k = 4 ∨ k = 5 ∨ k = 6 := by omega
  rcases this with rfl | rfl | rfl | rfl | rfl | rfl <;> decide
theorem wordsS_cut {w r : List UInt8} (h : (32 : UInt8) ∉ w) (hw : w ≠ []) : wordsS (w ++ 32 :: r) = w :: wordsS r := by
  unfold wordsS
  rw [splitS_cut h, List.filter_cons_of_pos (by cases w; exact absurd rfl hw; rfl)]
theorem wordsS_one {w : List UInt8} (h : (32 : UInt8) ∉ w) (hw : w ≠ []) : wordsS w = [w] := by
  unfold wordsS
  rw [splitS_none h, List.filter_cons_of_pos (by cases w; exact absurd rfl hw; rfl)]
  rfl
theorem wordsS_blank (r : List UInt8) : wordsS (32 :: r) = wordsS r := by
  unfold wordsS
  rw [splitS_cons, if_pos rfl, List.filter_cons_of_neg (by simp)]
theorem kind_of {o : OpD} (h : mayL o = true) : 1 ≤ o.kind ∧ o.kind ≤ 6 ∧ (o.kind ≠ 5 → o.lo = 0) ∧ (o.kind = 1 ∨ o.kind = 3 → o.n = 0) := by
  unfold mayL plainL at h
  rw [Bool.and_eq_true] at h
  have h := h.1
  split at h
  · simp at h; omega
  · split at h
    · simp at h; omega
    · simp at h; omega
/-- An operation's words. -/
def opW (o : OpD) : List (List UInt8) := wordK o.kind :: o.key :: ((if o.kind ≠ 1 ∧ o.kind ≠ 3 then [Lib.itoa o.n] else []) ++ (if o.kind = 5 then [Lib.itoa o.lo] else []))
theorem words_show {o : OpD} (h : mayL o = true) (hk : keyL o.key = true) : wordsS (showT o) = opW o := by
  obtain ⟨k1, k6, _, _⟩ := kind_of h
  obtain ⟨_, hw⟩ := kindW_word k1 k6
  have n32 : (32 : UInt8) ∉ o.key := let_no hk (by decide)
  have hkn := key_ne hk
  have i32 : ∀ n : Int, (32 : UInt8) ∉ Lib.itoa n := fun n => itoa_no (by decide) (by decide)
  unfold showT opW
  rw [if_neg (by rw [h]; simp), wordsS_cut (wordK_no _ (.inl rfl)) hw]
  congr 1
  by_cases h13 : o.kind ≠ 1 ∧ o.kind ≠ 3
  · rw [if_pos h13, if_pos h13]
    by_cases h5 : o.kind = 5
    · rw [if_pos h5, if_pos h5, List.cons_append, wordsS_cut n32 hkn, wordsS_cut (i32 _) (itoa_ne _), wordsS_one (i32 _) (itoa_ne _)]
      rfl
    · rw [if_neg h5, if_neg h5, List.append_nil, wordsS_cut n32 hkn, wordsS_one (i32 _) (itoa_ne _)]
      rfl
  · rw [if_neg h13, if_neg h13]
    have h5 : ¬ o.kind = 5 := by omega
    rw [if_neg h5, if_neg h5, List.append_nil, List.append_nil, wordsS_one n32 hkn]
    rfl
theorem one_show {o : OpD} (ho : o.Ok) (h : mayL o = true) (hk : keyL o.key = true) : oneW (opW o) = some o := by
  obtain ⟨k1, k6, hlo, hn⟩ := kind_of h
  obtain ⟨hkk, hw⟩ := kindW_word k1 k6
  obtain ⟨k, key, n, lo⟩ := o
  simp only at hkk hlo hn k1 k6 hk
  have hN : numT (Lib.itoa n) = some n := numT_itoa ho.n
  have hL : numT (Lib.itoa lo) = some lo := numT_itoa ho.lo
  unfold oneW opW
  simp only
  have : k = 1 ∨ k = 2 ∨ k = 3 ∨ k = 4 ∨ k = 5 ∨ k = 6 := by omega
  rcases this with rfl | rfl | rfl | rfl | rfl | rfl <;> simp [hN, hL, needK, hk] <;> simp_all [kindW, wordK, needK]
theorem show_no59 {o : OpD} (h : keyL o.key = true) : (59 : UInt8) ∉ showT o := by
  have n59 : (59 : UInt8) ∉ o.key := let_no h (by decide)
  have i59 : ∀ n : Int, (59 : UInt8) ∉ Lib.itoa n := fun n => itoa_no (by decide) (by decide)
  have w59 := wordK_no o.kind (c := 59) (.inr rfl)
  unfold showT
  split
  · decide
  · intro hm
    simp only [List.mem_append, List.mem_cons] at hm
    rcases hm with hm | hm | hm | hm | hm
    · exact w59 hm
    · exact absurd hm (by decide)
    · exact n59 hm
    · split at hm
      · rcases List.mem_cons.1 hm with hm | hm
        · exact absurd hm (by decide)
        · exact i59 _ hm
      · cases hm
    · split at hm
      · rcases List.mem_cons.1 hm with hm | hm
        · exact absurd hm (by decide)
        · exact i59 _ hm
      · cases hm
theorem ones_print : ∀ (l : List OpD) (i : Nat) (b : Bool), l ≠ [] → (∀ o ∈ l, o.Ok ∧ mayL o = true ∧ keyL o.key = true) →
    onesT i (splitS 59 ((if b then [32] else []) ++ printT l)) = .inr l
  | [], _, _, h, _ => absurd rfl h
  | [o], i, b, _, h => by
    obtain ⟨h1, h2, h3⟩ := h o List.mem_cons_self
    have hs := show_no59 h3
    have e : printT [o] = showT o := rfl
    have hb : (59 : UInt8) ∉ (if b then [32] else []) ++ showT o := by
      intro hm
      rcases List.mem_append.1 hm with hm | hm
      · cases b <;> simp at hm
      · exact hs hm
    have hw : wordsS ((if b then [32] else []) ++ showT o) = opW o := by
      cases b
      · exact words_show h2 h3
      · show wordsS (32 :: showT o) = _
        rw [wordsS_blank]
        exact words_show h2 h3
    rw [e, splitS_none hb]
    simp only [onesT, hw, one_show h1 h2 h3]
  | o :: p :: l, i, b, _, h => by
    obtain ⟨h1, h2, h3⟩ := h o List.mem_cons_self
    have hs := show_no59 h3
    have e : printT (o :: p :: l) = showT o ++ (59 :: ((if true then [32] else []) ++ printT (p :: l))) := rfl
    have hb : (59 : UInt8) ∉ (if b then [32] else []) ++ showT o := by
      intro hm
      rcases List.mem_append.1 hm with hm | hm
      · cases b <;> simp at hm
      · exact hs hm
    have hw : wordsS ((if b then [32] else []) ++ showT o) = opW o := by
      cases b
      · exact words_show h2 h3
      · show wordsS (32 :: showT o) = _
        rw [wordsS_blank]
        exact words_show h2 h3
    rw [e, ← List.append_assoc, splitS_cut hb]
    have ih := ones_print (p :: l) (i + 1) true (by simp) fun x hx => h x (List.mem_cons_of_mem _ hx)
    simp only [if_true] at ih
    simp only [onesT, hw, one_show h1 h2 h3, if_true, ih]
theorem words_ne {o : OpD} {r : List UInt8} (h : mayL o = true) (hk : keyL o.key = true) : wordsS (showT o ++ r) ≠ [] := by
  obtain ⟨k1, k6, _, _⟩ := kind_of h
  obtain ⟨_, hw⟩ := kindW_word k1 k6
  unfold showT
  rw [if_neg (by rw [h]; simp), List.append_assoc, List.cons_append, wordsS_cut (wordK_no _ (.inl rfl)) hw]
  simp
theorem print_words {l : List OpD} (h : ∀ o ∈ l, mayL o = true ∧ keyL o.key = true) (hl : l ≠ []) : wordsS (printT l) ≠ [] := by
  cases l with
  | nil => exact absurd rfl hl
  | cons o l =>
    obtain ⟨h2, h3⟩ := h o List.mem_cons_self
    cases l with
    | nil =>
      have := words_ne (r := []) h2 h3
      rw [List.append_nil] at this
      exact this
    | cons p l => exact words_ne h2 h3
theorem parse_print {l : List OpD} (hl : l.length ≤ 8) (h : ∀ o ∈ l, o.Ok ∧ mayL o = true ∧ keyL o.key = true) : parseT (printT l) = (l, 0, 0) := by
  unfold parseT
  by_cases h0 : l = []
  · subst h0
    rfl
  · rw [if_neg (print_words (fun o ho => (h o ho).2) h0)]
    have e := ones_print l 0 false h0 h
    rw [show (if false = true then [32] else []) ++ printT l = printT l from rfl] at e
    rw [e]
    simp only
    rw [if_neg (by omega)]
end Go.Proofs.YtejlhgcheaimjaaGreatDoor
/- Operations are printed. -/
namespace Go.Proofs.YtejlhgcheaimjaaGreatDoor
open Go.AM
set_option maxRecDepth 100000
set_option linter.unusedSimpArgs false
set_option linter.unusedVariables false
theorem str_add {a b : List UInt8} (h : a.length + b.length ≤ 1000000) : binOf .add (.str a) (.str b) = some (.str (a ++ b)) := by
  simp only [binOf, binStr]
  rw [if_pos (by omega)]
theorem xa_row {f : FuncId} {args : List AV} {A B : St} {r : AV} (h1 : nowhereG A0 GA (fun n => Nat.beq n 12) f args A = none) (h2 : errX ET A0 GA (fun n => Nat.beq n 27 || Nat.beq n 26) f args A = none) (h : rowsT f args A = some (r, B)) : XA f args A = some (r, B) := by
  unfold XA orX
  rw [h1, h2]
  exact h
theorem fmt_spec {A : St} {n : Int} (hn : i64ok n) : Ev D0 G0 fnsL XA 55 [.int .i64 n, .int .i64 10] A fun r B => A = B ∧ r = .str (Lib.itoa n) :=
  Ev.ext rfl (xa_row rfl rfl (show fmtX [.int .i64 n, .int .i64 10] A = some (.str (Lib.itoa n), A) from if_pos ⟨rfl, hn.1, hn.2⟩)) ⟨rfl, rfl⟩
theorem word_spec {D : Disp} {G0 : Env} {X : Calls'} {A : St} {k : Int} : Ev D G0 fnsL X 54 [.int .i64 k] A fun r B => A = B ∧ r = .str (wordK k) := by
  refine Ev.fnK (fn := a54) rfl ⟨by simp [a54], by decide⟩ ?_
  unfold a54
  by_cases h1 : k = 1
  · simp [h1, wordK]
  by_cases h2 : k = 2
  · simp [h2, wordK]
  by_cases h3 : k = 3
  · simp [h3, wordK]
  by_cases h4 : k = 4
  · simp [h4, wordK]
  by_cases h5 : k = 5
  · simp [h5, wordK]
  by_cases h6 : k = 6
  · simp [h6, wordK]
  simp [h1, h2, h3, h4, h5, h6, wordK]
theorem wordK_len (k : Int) : (wordK k).length ≤ 4 := by
  unfold wordK
  repeat' split
  all_goals decide
theorem show_spec {A : St} {o : OpD} (ho : o.Ok) (hk20 : o.key.length ≤ 20) : Ev D0 G0 fnsL XA 17 [.agg o.cells] A fun r B => A.Ext B ∧ r = .str (showT o) := by
  refine Ev.fnK (fn := a17) rfl ⟨by simp [a17], by decide⟩ ?_
  unfold a17
  have hb := B4.make A (.int .i64 o.kind) (.str o.key) (.int .i64 o.n) (.int .i64 o.lo)
  have x1 := ext_make A [.int .i64 o.kind, .str o.key, .int .i64 o.n, .int .i64 o.lo] 1
  have hc : o.cells = [.int .i64 o.kind, .str o.key, .int .i64 o.n, .int .i64 o.lo] := rfl
  simp [OpD.cells, boxV, AV.cells, AV.isBot, Made.value, AV.addr, ops_callf, allKnown, fillA, splice]
  generalize (A.make [.int .i64 o.kind, .str o.key, .int .i64 o.n, .int .i64 o.lo] 1).2 = A1 at *
  rw [← hc]
  refine (may_spec o).mono fun r B ⟨x2, hr⟩ => ?_
  subst hr
  have hb2 := hb.ext x2
  have hx := x1.trans x2
  cases hm : mayL o with
  | false =>
    simp [showT, hm]
    exact hx
  | true =>
    have hw := wordK_len o.kind
    have hin := itoa_len ho.n
    have hil := itoa_len ho.lo
    have e1 : binOf .add (.str (wordK o.kind)) (.str [32]) = some (.str (wordK o.kind ++ [32])) := str_add (by simp; omega)
    have e2 : binOf .add (.str (wordK o.kind ++ [32])) (.str o.key) = some (.str (wordK o.kind ++ [32] ++ o.key)) := str_add (by simp; omega)
    simp
    refine Wp.draws ?_
    simp [AV.addr, hb2.l0, hb2.l1, opsD_callf, allKnown]
    refine word_spec.mono fun r B3 ⟨hB, hr⟩ => ?_
    subst hB hr
    simp [AV.addr, hb2.l0, hb2.l1, e1, e2, InAll, AV.beq, -List.append_assoc]
    obtain ⟨k1, k6, _, _⟩ := kind_of hm
    have hlen : (wordK o.kind ++ [32] ++ o.key).length ≤ 25 := by simp; omega
    have hsh : showT o = wordK o.kind ++ [32] ++ o.key ++ ((if o.kind ≠ 1 ∧ o.kind ≠ 3 then 32 :: Lib.itoa o.n else []) ++ (if o.kind = 5 then 32 :: Lib.itoa o.lo else [])) := by
      unfold showT
      rw [if_neg (by rw [hm]; simp)]
      simp
    generalize wordK o.kind ++ [32] ++ o.key = W at *
    have e3 : binOf .add (.str W) (.str [32]) = some (.str (W ++ [32])) := str_add (by simp; omega)
    have e4 : binOf .add (.str (W ++ [32])) (.str (Lib.itoa o.n)) = some (.str (W ++ [32] ++ Lib.itoa o.n)) := str_add (by simp; omega)
    have hk : o.kind = 1 ∨ o.kind = 2 ∨ o.kind = 3 ∨ o.kind = 4 ∨ o.kind = 5 ∨ o.kind = 6 := by omega
    rcases hk with hk | hk | hk | hk | hk | hk
    · simp [hk, hsh]
      exact hx
    · simp [hk, e3, AV.addr, hb2.l2, ops_callf, allKnown]
      refine (fmt_spec ho.n).mono fun r B4' ⟨hB, hr⟩ => ?_
      subst hB hr
      simp [hk, e4, hsh]
      exact hx
    · simp [hk, hsh]
      exact hx
    · simp [hk, e3, AV.addr, hb2.l2, ops_callf, allKnown]
      refine (fmt_spec ho.n).mono fun r B4' ⟨hB, hr⟩ => ?_
      subst hB hr
      simp [hk, e4, hsh]
      exact hx
    · have e5 : binOf .add (.str (W ++ [32] ++ Lib.itoa o.n)) (.str [32]) = some (.str (W ++ [32] ++ Lib.itoa o.n ++ [32])) := str_add (by simp; omega)
      have e6 : binOf .add (.str (W ++ [32] ++ Lib.itoa o.n ++ [32])) (.str (Lib.itoa o.lo)) = some (.str (W ++ [32] ++ Lib.itoa o.n ++ [32] ++ Lib.itoa o.lo)) := str_add (by simp; omega)
      simp [hk]
      refine Wp.draws ?_
      simp [e3, AV.addr, hb2.l2, opsD_callf, allKnown]
      refine (fmt_spec ho.n).mono fun r B4' ⟨hB, hr⟩ => ?_
      subst hB hr
      simp [e4, e5, AV.addr, hb2.l3, opsD_callf, allKnown, -List.append_assoc]
      refine (fmt_spec ho.lo).mono fun r B4' ⟨hB, hr⟩ => ?_
      subst hB hr
      simp [e6, InAll, AV.beq, hb2.l2, hb2.l3, hsh, hk, -List.append_assoc]
      exact ⟨hx, by simp⟩
    · simp [hk, e3, AV.addr, hb2.l2, ops_callf, allKnown]
      refine (fmt_spec ho.n).mono fun r B4' ⟨hB, hr⟩ => ?_
      subst hB hr
      simp [hk, e4, hsh]
      exact hx

/-! ### Lists of texts -/
def strsV (l : List (List UInt8)) : List AV := l.map AV.str
theorem strsV_flat (l : List (List UInt8)) : (strsV l).all AV.flat = true := by simp [strsV, AV.flat]
theorem strsV_append (a b : List (List UInt8)) : strsV (a ++ b) = strsV a ++ strsV b := by simp [strsV]
@[simp] theorem strsV_length (l : List (List UInt8)) : (strsV l).length = l.length := by simp [strsV]
theorem strsOf_strs : ∀ l : List (List UInt8), strsOf (strsV l) = some l
  | [] => rfl
  | x :: l => by
    show (match strsOf (strsV l) with | some r => some (x :: r) | none => none) = _
    rw [strsOf_strs l]
theorem Sl.str_at {A : St} {s : AV} {l : List (List UInt8)} (h : Sl A 1 s (strsV l)) {j : Nat} {t : List UInt8} (hj : l[j]? = some t) (k : IntKind) :
    ∃ p, atSliceV 1 s (.int k j) = some (.ptr (some p)) ∧ loadV A 1 false (.ptr (some p)) = some (.str t) := h.at_one (by simp [strsV, hj]) k
/-- One more text at the end of one's own. -/
theorem append_strs {A0 A : St} {s : AV} {l : List (List UInt8)} (h : AM.Own A0.next A 1 s (strsV l)) (x : A0.Ext A) (hl : l.length < 1000000) (t : List UInt8) :
    ∃ s' B, appendV (A.make [.str t] 1).2 false 1 16 s (.slice (some (A.next, 0, 0)) 0 1 1 0) = some (s', B) ∧ AM.Own A0.next B 1 s' (strsV (l ++ [t])) ∧ A0.Ext B := by
  have hx := ext_make A [.str t] 1
  have h1 := h.ext hx
  have h2 := (own_make_exact A (cs := [.str t]) (sz := 1) (n := 1) rfl (Nat.le_refl _) (len := 1) (Nat.le_refl _)).sl
  have hn : s.slen = l.length := by have := h.sl.length; simp at this; omega
  obtain ⟨s', B, g1, g2, g3, g4, g5⟩ := appendV_own (bytes := 16) h1 h2 (Nat.le_trans x.next hx.next) (by decide) (strsV_flat [t]) (by rw [hn, slen_slice]; omega) (by rw [hn, slen_slice]; omega)
  exact ⟨s', B, g1, by rw [strsV_append]; exact g3, g4.ext (x.trans hx) h1⟩
theorem joinT_eq : ∀ l : List (List UInt8), Lib.join l [59, 32] = joinT l
  | [] => rfl
  | [a] => Lib.join_one a _
  | a :: b :: l => by
    have ih := joinT_eq (b :: l)
    rw [Lib.join_cons] at ih ⊢
    show a ++ Lib.joinTail [59, 32] (b :: l) = a ++ (59 :: 32 :: joinT (b :: l))
    rw [← ih]
    simp [Lib.joinTail]
theorem joinT_snoc : ∀ (l : List (List UInt8)) (x : List UInt8), joinT (l ++ [x]) = joinT l ++ ((if l = [] then [] else [59, 32]) ++ x)
  | [], x => rfl
  | [a], x => rfl
  | a :: b :: l, x => by
    have ih := joinT_snoc (b :: l) x
    show a ++ (59 :: 32 :: joinT (b :: l ++ [x])) = _
    rw [ih]
    show _ = a ++ (59 :: 32 :: joinT (b :: l)) ++ _
    simp
theorem joinT_len (n : Nat) : ∀ l : List (List UInt8), (∀ x ∈ l, x.length ≤ n) → (joinT l).length ≤ (n + 2) * l.length
  | [], _ => Nat.zero_le _
  | [a], h => by
    have := h a List.mem_cons_self
    simp [joinT]; omega
  | a :: b :: l, h => by
    have h1 := h a List.mem_cons_self
    have ih := joinT_len n (b :: l) fun x hx => h x (List.mem_cons_of_mem _ hx)
    simp only [joinT, List.length_append, List.length_cons] at ih ⊢
    rw [Nat.mul_succ (n + 2) (l.length + 1)]
    omega
theorem show_len {o : OpD} (ho : o.Ok) (hk : o.key.length ≤ 20) : (showT o).length ≤ 70 := by
  have hw := wordK_len o.kind
  have hin := itoa_len ho.n
  have hil := itoa_len ho.lo
  unfold showT
  split
  · decide
  · simp only [List.length_append, List.length_cons]
    split <;> split <;> simp <;> omega
theorem join_spec {A : St} {v : AV} {l : List (List UInt8)} {sep : List UInt8} (hv : Sl A 1 v (strsV l)) (h : (Lib.join l sep).length ≤ 1000000) (hl : l.length ≤ 1000000) : Ev D0 G0 fnsL XA 18 [v, .str sep] A fun r B => A = B ∧ r = .str (Lib.join l sep) := by
  have hr : rowsT 18 [v, .str sep] A = some (.str (Lib.join l sep), A) := by
    show joinX [v, .str sep] A = _
    generalize hcs : strsV l = cs at hv
    cases hv with
    | nil po cap q =>
      have : l = [] := by simpa [strsV] using hcs
      subst this
      rfl
    | @mem f v o po len cap q _ hf hc hq =>
      subst hcs
      rw [Nat.mul_one] at hc
      have hlen := cells_length hc
      rw [strsV_length] at hlen
      unfold joinX
      dsimp only
      by_cases h0 : len = 0
      · rw [if_pos h0]
        have : l = [] := List.length_eq_zero_iff.1 (by omega)
        subst this
        rfl
      · rw [if_neg h0]
        simp only [hc, strsOf_strs]
        rw [if_pos ⟨by omega, by omega⟩]
  exact Ev.ext rfl (xa_row rfl rfl hr) ⟨rfl, rfl⟩
theorem print_spec {A : St} {s : AV} {l : List OpD} (hs : Sl A 4 s (opsCells l)) (hl : l.length ≤ 100) (hok : ∀ o ∈ l, o.Ok ∧ o.key.length ≤ 20) : Ev D0 G0 fnsL XA 6 [s] A fun r B => A.Ext B ∧ r = .str (printT l) := by
  refine Ev.fnK (fn := a6) rfl ⟨by simp [a6], by decide⟩ ?_
  unfold a6
  simp [hs.ops_lenV]
  refine Wp.loopK (fun d E A' => A.Ext A' ∧ Env.at E 6 = s ∧ Env.at E 7 = .int .i64 l.length ∧ ∃ (i : Nat) (o : AV), Env.at E 8 = .int .i64 i ∧ i + d = l.length ∧ Env.at E 3 = o ∧ AM.Own A.next A' 1 o (strsV ((l.take i).map showT))) l.length ?_ ?_
  · exact ⟨St.Ext.refl A, by simp, by simp, 0, .slice none 0 0 0 0, by simp, by simp, by simp, by simpa [strsV] using AM.Own.nil _ _ _⟩
  rintro d E B1 ⟨x1, e6, e7, i, o, e8, hi, e3, ho1⟩
  simp [e6, e7, e8, lss_nat, -bin_lss]
  refine contC_of (fun hc => ?_) (fun hc => ?_)
  · simp at hc
    obtain ⟨op, hop⟩ : ∃ o, l[i]? = some o := ⟨l[i], List.getElem?_eq_getElem hc⟩
    obtain ⟨ok1, ok2⟩ := hok op (List.mem_of_getElem? hop)
    obtain ⟨p, g1, g2⟩ := (Sl.ext x1 hs).op_at hop .i64
    have ea := add_one (i := i) (by omega)
    have x2 := ext_make B1 [AV.int .i64 0, .str [], .int .i64 0, .int .i64 0] 1
    have hb := B4.make B1 (.int .i64 0) (.str []) (.int .i64 0) (.int .i64 0)
    obtain ⟨B2, k1, k2, k3, k4⟩ := hb.st (a' := .int .i64 op.kind) (b' := .str op.key) (c' := .int .i64 op.n) (d' := .int .i64 op.lo) rfl
    have x3 : B1.Ext B2 := ⟨by rw [← k3]; exact x2.next, fun f hf => by rw [k4 f (by omega)]; exact x2.get f hf⟩
    simp [OpD.cells] at g2
    simp [e6, e8, g1, g2, Made.value, k1, k2.ld, e3, ops_callf, allKnown]
    refine (show_spec ok1 ok2).mono fun r B3 ⟨x4, hr⟩ => ?_
    subst hr
    have ho3 := ho1.ext (x3.trans x4)
    obtain ⟨s', B4', h1, h2, h3⟩ := append_strs ho3 (x1.trans (x3.trans x4)) (by simp; omega) (showT op)
    simp [fillA, AV.isBot, AV.cells, splice, Made.value, e3, e6, e7, e8, h1, ea, -bin_add]
    refine ⟨d - 1, by omega, h3, i + 1, by omega, by omega, ?_⟩
    have htk : l.take (i + 1) = l.take i ++ [op] := by rw [List.take_add_one, hop]; rfl
    rw [← List.map_take, htk, List.map_append]
    simpa using h2
  · simp at hc
    have hil : i = l.length := by omega
    rw [hil, List.take_length] at ho1
    have hlen : (Lib.join (l.map showT) [59, 32]).length ≤ 1000000 := by
      rw [joinT_eq]
      have := joinT_len 70 (l.map showT) fun x hx => by
        obtain ⟨o, ho, rfl⟩ := List.mem_map.1 hx
        exact show_len (hok o ho).1 (hok o ho).2
      rw [List.length_map] at this
      omega
    simp [e3, ops_callf, allKnown, ho1.sl.allKnown]
    refine (join_spec ho1.sl hlen (by simp; omega)).mono fun r B3 ⟨hB, hr⟩ => ?_
    subst hB hr
    simp [joinT_eq]
    exact ⟨x1, rfl⟩
end Go.Proofs.YtejlhgcheaimjaaGreatDoor
/- The document prints operations. -/
namespace Go.Proofs.YtejlhgcheaimjaaGreatDoor
open Go.AM
set_option maxRecDepth 100000
set_option linter.unusedSimpArgs false
set_option linter.unusedVariables false
variable {D : Disp} {G0 : Env} {X : Calls'}
theorem digit_cut {d : Nat} (h : d < 10) : cutStrV (.str [48, 49, 50, 51, 52, 53, 54, 55, 56, 57]) (some (.int .u64 (d : Int))) (some (.int .u64 ((d + 1 : Nat) : Int))) = some (.str [UInt8.ofNat (48 + d)]) := by
  have : d = 0 ∨ d = 1 ∨ d = 2 ∨ d = 3 ∨ d = 4 ∨ d = 5 ∨ d = 6 ∨ d = 7 ∨ d = 8 ∨ d = 9 := by omega
  rcases this with rfl | rfl | rfl | rfl | rfl | rfl | rfl | rfl | rfl | rfl <;> rfl
theorem digits_spec (u : Nat) : ∀ {A : St}, u < 18446744073709551616 → Ev D G0 fnsL X 60 [.int .u64 u] A fun r B => A = B ∧ r = .str (Lib.decDigits u) := by
  induction u using Nat.strongRecOn with
  | _ u ih =>
    intro A hu
    refine Ev.fnK (fn := a60) rfl ⟨by simp [a60], by decide⟩ ?_
    unfold a60
    obtain ⟨d, hd, er⟩ : ∃ d : Nat, d = u % 10 ∧ binOf .rem (.int .u64 (u : Int)) (.int .u64 10) = some (.int .u64 (d : Int)) := ⟨_, rfl, bin_rem_nat (b := 10) (by decide)⟩
    obtain ⟨z, hz, eq⟩ : ∃ z : Nat, z = u / 10 ∧ binOf .quo (.int .u64 (u : Int)) (.int .u64 10) = some (.int .u64 (z : Int)) := ⟨_, rfl, bin_quo_nat (b := 10) (by decide) (wrap_un_small rfl (show u / 10 < 2 ^ 64 by omega))⟩
    have ea : binOf .add (.int .u64 (d : Int)) (.int .u64 1) = some (.int .u64 ((d + 1 : Nat) : Int)) := by
      rw [bin_add, show (d : Int) + 1 = ((d + 1 : Nat) : Int) by omega, wrap_un_small rfl (show d + 1 < 2 ^ 64 by omega)]
    have ec := digit_cut (d := d) (by omega)
    have eg : binOf .geq (.int .u64 (u : Int)) (.int .u64 10) = some (.bool (decide (10 ≤ u))) := by rw [bin_geq]; simp; omega
    generalize hdv : AV.int .u64 ((d + 1 : Nat) : Int) = dv at *
    generalize hby : UInt8.ofNat (48 + d) = c at *
    simp [er, ea, ec, eg, -bin_add, -bin_geq]
    refine contC_of (fun hc => ?_) (fun hc => ?_)
    · simp at hc
      simp [eq, ops_callf, allKnown]
      refine (ih z (by omega) (by omega)).mono fun r B ⟨hB, hr⟩ => ?_
      subst hB hr
      have hl := dec_len z 19 (by have : 18446744073709551616 < 10 ^ (19 + 1) := by decide
                                  omega)
      have es : binOf .add (.str (Lib.decDigits z)) (.str [c]) = some (.str (Lib.decDigits z ++ [c])) := str_add (by simp; omega)
      simp [es]
      rw [dec_big (by omega : ¬ u < 10), hz, ← hby, hd]
    · simp at hc
      simp
      rw [dec_small (by omega), ← hby, hd, Nat.mod_eq_of_lt (by omega)]
theorem rdigits_spec {A : St} {n : Int} (hn : i64ok n) : Ev D G0 fnsL X 21 [.int .i64 n] A fun r B => A = B ∧ r = .str (Lib.itoa n) := by
  refine Ev.fnK (fn := a21) rfl ⟨by simp [a21], by decide⟩ ?_
  unfold a21
  unfold i64ok at hn
  simp
  refine contC_of (fun hc => ?_) (fun hc => ?_)
  · simp at hc
    have e1 : binOf .add (.int .i64 n) (.int .i64 1) = some (.int .i64 (n + 1)) := by rw [bin_add, wrap_i64 (by omega) (by omega)]
    have e2 : unOf .neg (.int .i64 (n + 1)) = some (.int .i64 (0 - (n + 1))) := by rw [un_neg, wrap_i64 (by omega) (by omega)]
    have e3 : convV .u64 (.int .i64 (0 - (n + 1))) = some (.int .u64 (0 - (n + 1))) := by
      rw [convV_int, wrap_un rfl]
      congr 2
      show _ % 18446744073709551616 = _
      omega
    obtain ⟨z, hz, e4⟩ : ∃ z : Nat, z = n.natAbs ∧ binOf .add (.int .u64 (0 - (n + 1))) (.int .u64 1) = some (.int .u64 (z : Int)) := ⟨_, rfl, by
      rw [bin_add, wrap_un rfl]
      congr 2
      show _ % 18446744073709551616 = _
      omega⟩
    generalize (0 - (n + 1) : Int) = y at *
    simp [e1, e2, e3, e4, ops_callf, allKnown, -bin_add, -convV_int]
    refine (digits_spec z (by omega)).mono fun r B ⟨hB, hr⟩ => ?_
    subst hB hr
    have hl := dec_len z 19 (by have : 18446744073709551616 < 10 ^ (19 + 1) := by decide
                                omega)
    have es : binOf .add (.str [45]) (.str (Lib.decDigits z)) = some (.str ([45] ++ Lib.decDigits z)) := str_add (by simp; omega)
    simp [es]
    rw [itoa_neg hc, hz]
  · simp at hc
    obtain ⟨z, hz, e4⟩ : ∃ z : Nat, z = n.toNat ∧ convV .u64 (.int .i64 n) = some (.int .u64 (z : Int)) := ⟨_, rfl, by
      rw [convV_int, wrap_un rfl]
      congr 2
      show _ % 18446744073709551616 = _
      omega⟩
    simp [e4, ops_callf, allKnown, -convV_int]
    refine (digits_spec z (by omega)).mono fun r B ⟨hB, hr⟩ => ?_
    subst hB hr
    simp
    rw [itoa_pos hc, hz]
def wordsK : List (List UInt8) := [[], [103, 101, 116], [112, 117, 116], [100, 101, 108], [97, 100, 100], [109, 105, 110], [98, 97, 99, 107]]
theorem wordsK_at {k : Int} (h1 : 1 ≤ k) (h6 : k ≤ 6) : wordsK[k.toNat]? = some (wordK k) := by
  have : k = 1 ∨ k = 2 ∨ k = 3 ∨ k = 4 ∨ k = 5 ∨ k = 6 := by omega
  rcases this with rfl | rfl | rfl | rfl | rfl | rfl <;> rfl
theorem rwords_spec {A : St} : Ev D G0 fnsL X 20 [] A fun r B => A.Ext B ∧ AM.Own A.next B 1 r (strsV wordsK) := by
  refine Ev.fnK (fn := a20) rfl ⟨by simp [a20], by decide⟩ ?_
  unfold a20
  simp [fillA, AV.isBot, AV.cells, splice, Made.value]
  exact ⟨ext_make A _ 1, own_make_exact A (cs := strsV wordsK) (sz := 1) (n := 7) rfl (Nat.le_refl _) (len := 7) (Nat.le_refl _)⟩
theorem rprint_spec {A : St} {s : AV} {l : List OpD} (hs : Sl A 4 s (opsCells l)) (hl : l.length ≤ 100) (hok : ∀ o ∈ l, o.Ok ∧ o.key.length ≤ 20) : Ev D G0 fnsL X 7 [s] A fun r B => A.Ext B ∧ r = .str (printT l) := by
  refine Ev.fnK (fn := a7) rfl ⟨by simp [a7], by decide⟩ ?_
  unfold a7
  simp [hs.ops_lenV]
  refine Wp.loopK (fun d E A' => A.Ext A' ∧ Env.at E 6 = s ∧ Env.at E 7 = .int .i64 l.length ∧ ∃ i : Nat, Env.at E 8 = .int .i64 i ∧ i + d = l.length ∧ Env.at E 3 = .str (joinT ((l.take i).map showT))) l.length ?_ ?_
  · exact ⟨St.Ext.refl A, by simp, by simp, 0, by simp, by simp, by simp [joinT]⟩
  rintro d E B1 ⟨x1, e6, e7, i, e8, hi, e3⟩
  simp [e6, e7, e8, lss_nat, -bin_lss]
  refine contC_of (fun hc => ?_) (fun hc => ?_)
  · simp at hc
    obtain ⟨op, hop⟩ : ∃ o, l[i]? = some o := ⟨l[i], List.getElem?_eq_getElem hc⟩
    obtain ⟨ok1, ok2⟩ := hok op (List.mem_of_getElem? hop)
    obtain ⟨p, g1, g2⟩ := (Sl.ext x1 hs).op_at hop .i64
    have ea := add_one (i := i) (by omega)
    have x2 := ext_make B1 [AV.int .i64 0, .str [], .int .i64 0, .int .i64 0] 1
    have hb := B4.make B1 (.int .i64 0) (.str []) (.int .i64 0) (.int .i64 0)
    obtain ⟨B2, k1, k2, k3, k4⟩ := hb.st (a' := .int .i64 op.kind) (b' := .str op.key) (c' := .int .i64 op.n) (d' := .int .i64 op.lo) rfl
    have x3 : B1.Ext B2 := ⟨by rw [← k3]; exact x2.next, fun f hf => by rw [k4 f (by omega)]; exact x2.get f hf⟩
    have hcells : op.cells = [.int .i64 op.kind, .str op.key, .int .i64 op.n, .int .i64 op.lo] := rfl
    have htk : l.take (i + 1) = l.take i ++ [op] := by rw [List.take_add_one, hop]; rfl
    have hJ : (joinT ((l.take i).map showT)).length ≤ 7200 := by
      have := joinT_len 70 ((l.take i).map showT) fun x hx => by
        obtain ⟨o, ho, rfl⟩ := List.mem_map.1 hx
        have := hok o (List.mem_of_mem_take ho)
        exact show_len this.1 this.2
      rw [List.length_map, List.length_take] at this
      omega
    have hnx : joinT ((l.take (i + 1)).map showT) = joinT ((l.take i).map showT) ++ ((if i = 0 then [] else [59, 32]) ++ showT op) := by
      rw [htk, List.map_append, List.map_singleton, joinT_snoc]
      congr 2
      by_cases h0 : i = 0
      · subst h0; simp
      · rw [if_neg h0, if_neg]
        intro he
        have := congrArg List.length he
        rw [List.length_map, List.length_take, List.length_nil] at this
        omega
    rw [← List.append_assoc] at hnx
    generalize joinT ((l.take i).map showT) = J at *
    simp [OpD.cells] at g2
    simp [e6, e8, g1, g2, Made.value, k1]
    refine contC_join (fun E A' => B2 = A' ∧ Env.at E 5 = .ptr (some (B1.next, 0, 0)) ∧ Env.at E 6 = s ∧ Env.at E 7 = .int .i64 l.length ∧ Env.at E 8 = .int .i64 i ∧ Env.at E 3 = .str (J ++ (if i = 0 then [] else [59, 32]))) (fun hc2 => ?_) (fun hc2 => ?_) ?_
    · simp at hc2
      have h0 : ¬ i = 0 := by omega
      have es : binOf .add (.str J) (.str [59, 32]) = some (.str (J ++ [59, 32])) := str_add (by simp; omega)
      simp [e3, e6, e7, e8, es, h0]
    · simp at hc2
      have h0 : i = 0 := by omega
      simp [e3, e6, e7, e8, h0]
    rintro E B2' ⟨rfl, f5, f6, f7, f8, f3⟩
    have hJ' : (J ++ (if i = 0 then [] else [59, 32])).length ≤ 7210 := by
      rw [List.length_append]
      split <;> simp <;> omega
    generalize J ++ (if i = 0 then [] else [59, 32]) = J' at *
    simp [f5, AV.addr, k2.ld, ops_callf, allKnown]
    rw [← hcells]
    refine (rmay_spec op).mono fun r B3 ⟨x4, hr⟩ => ?_
    subst hr
    have m3 := k2.ext x4
    have hsh : showT op = if mayL op = false then [63] else wordK op.kind ++ (32 :: (op.key ++ ((if op.kind ≠ 1 ∧ op.kind ≠ 3 then 32 :: Lib.itoa op.n else []) ++ (if op.kind = 5 then 32 :: Lib.itoa op.lo else [])))) := rfl
    cases hm : mayL op with
    | false =>
      have es : binOf .add (.str J') (.str [63]) = some (.str (J' ++ [63])) := str_add (by simp; omega)
      rw [hm, if_pos rfl] at hsh
      simp [f3, f6, f7, f8, es, ea, -bin_add]
      exact ⟨d - 1, by omega, x1.trans (x3.trans x4), i + 1, by omega, by omega, by rw [← List.map_take, hnx, hsh]⟩
    | true =>
      rw [hm, if_neg (by simp)] at hsh
      have hw := wordK_len op.kind
      have hin := itoa_len ok1.n
      have hil := itoa_len ok1.lo
      obtain ⟨kk1, kk6, _, _⟩ := kind_of hm
      simp
      refine Wp.draws ?_
      simp [f3, f5, AV.addr, opsD_callf, allKnown]
      refine rwords_spec.mono fun r B4' ⟨x5, o5⟩ => ?_
      have m4 := m3.ext x5
      obtain ⟨q, q1, q2⟩ := Sl.str_at o5.sl (wordsK_at kk1 kk6) .i64
      rw [show ((op.kind.toNat : Nat) : Int) = op.kind by omega] at q1
      have e1 : binOf .add (.str (wordK op.kind)) (.str [32]) = some (.str (wordK op.kind ++ [32])) := str_add (by simp; omega)
      have e2 : binOf .add (.str (wordK op.kind ++ [32])) (.str op.key) = some (.str (wordK op.kind ++ [32] ++ op.key)) := str_add (by simp; omega)
      have e4 : binOf .add (.str J') (.str (wordK op.kind ++ [32] ++ op.key)) = some (.str (J' ++ (wordK op.kind ++ [32] ++ op.key))) := str_add (by simp; omega)
      simp [f5, AV.addr, m3.l0, m3.l1, m4.l0, m4.l1, q1, q2, e1, e2, e4, InAll, AV.beq, -List.append_assoc]
      have hW : (J' ++ (wordK op.kind ++ [32] ++ op.key)).length ≤ 7240 := by simp; omega
      have hx := x1.trans (x3.trans (x4.trans x5))
      have hfin : ∀ W, J' ++ (wordK op.kind ++ [32] ++ op.key) ++ W = J' ++ (wordK op.kind ++ (32 :: (op.key ++ W))) := fun W => by simp
      generalize J' ++ (wordK op.kind ++ [32] ++ op.key) = W at *
      have e5 : binOf .add (.str [32]) (.str (Lib.itoa op.n)) = some (.str ([32] ++ Lib.itoa op.n)) := str_add (by simp; omega)
      have e9 : binOf .add (.str W) (.str ([32] ++ Lib.itoa op.n)) = some (.str (W ++ ([32] ++ Lib.itoa op.n))) := str_add (by simp; omega)
      have e10 : binOf .add (.str [32]) (.str (Lib.itoa op.lo)) = some (.str ([32] ++ Lib.itoa op.lo)) := str_add (by simp; omega)
      have e11 : binOf .add (.str (W ++ ([32] ++ Lib.itoa op.n))) (.str ([32] ++ Lib.itoa op.lo)) = some (.str (W ++ ([32] ++ Lib.itoa op.n) ++ ([32] ++ Lib.itoa op.lo))) := str_add (by simp; omega)
      have hk : op.kind = 1 ∨ op.kind = 2 ∨ op.kind = 3 ∨ op.kind = 4 ∨ op.kind = 5 ∨ op.kind = 6 := by omega
      rcases hk with hk | hk | hk | hk | hk | hk
      · simp [f5, f6, f7, f8, AV.addr, m4.l0, hk, ea, pickV, -bin_add]
        exact ⟨d - 1, by omega, hx, i + 1, by omega, by omega, by rw [← List.map_take, hnx, hsh, ← hfin]; simp [hk]⟩
      · simp [f5, f6, f7, f8, AV.addr, m4.l0, m4.l2, hk, ea, pickV, ops_callf, allKnown, -bin_add]
        refine (rdigits_spec ok1.n).mono fun r B5 ⟨hB, hr⟩ => ?_
        subst hB hr
        simp only [List.singleton_append] at e5 e9
        simp [f5, f6, f7, f8, AV.addr, m4.l0, hk, ea, e5, e9, -bin_add]
        exact ⟨d - 1, by omega, hx, i + 1, by omega, by omega, by rw [← List.map_take, hnx, hsh, ← hfin]; simp [hk]⟩
      · simp [f5, f6, f7, f8, AV.addr, m4.l0, hk, ea, pickV, -bin_add]
        exact ⟨d - 1, by omega, hx, i + 1, by omega, by omega, by rw [← List.map_take, hnx, hsh, ← hfin]; simp [hk]⟩
      · simp [f5, f6, f7, f8, AV.addr, m4.l0, m4.l2, hk, ea, pickV, ops_callf, allKnown, -bin_add]
        refine (rdigits_spec ok1.n).mono fun r B5 ⟨hB, hr⟩ => ?_
        subst hB hr
        simp only [List.singleton_append] at e5 e9
        simp [f5, f6, f7, f8, AV.addr, m4.l0, hk, ea, e5, e9, -bin_add]
        exact ⟨d - 1, by omega, hx, i + 1, by omega, by omega, by rw [← List.map_take, hnx, hsh, ← hfin]; simp [hk]⟩
      · simp [f5, f6, f7, f8, AV.addr, m4.l0, m4.l2, hk, ea, pickV, ops_callf, allKnown, -bin_add]
        refine (rdigits_spec ok1.n).mono fun r B5 ⟨hB, hr⟩ => ?_
        subst hB hr
        simp only [List.singleton_append] at e5 e9 e10 e11
        simp [f5, f6, f7, f8, AV.addr, m4.l0, m4.l3, hk, ea, e5, e9, ops_callf, allKnown, -bin_add]
        refine (rdigits_spec ok1.lo).mono fun r B5 ⟨hB, hr⟩ => ?_
        subst hB hr
        simp [f5, f6, f7, f8, AV.addr, m4.l0, hk, ea, e10, e11, -bin_add, -List.append_assoc]
        exact ⟨d - 1, by omega, hx, i + 1, by omega, by omega, by rw [← List.map_take, hnx, hsh, ← hfin]; simp [hk]⟩
      · simp [f5, f6, f7, f8, AV.addr, m4.l0, m4.l2, hk, ea, pickV, ops_callf, allKnown, -bin_add]
        refine (rdigits_spec ok1.n).mono fun r B5 ⟨hB, hr⟩ => ?_
        subst hB hr
        simp only [List.singleton_append] at e5 e9
        simp [f5, f6, f7, f8, AV.addr, m4.l0, hk, ea, e5, e9, -bin_add]
        exact ⟨d - 1, by omega, hx, i + 1, by omega, by omega, by rw [← List.map_take, hnx, hsh, ← hfin]; simp [hk]⟩
  · simp at hc
    have hil : i = l.length := by omega
    rw [hil, List.take_length] at e3
    simp [e3]
    exact ⟨x1, rfl⟩
end Go.Proofs.YtejlhgcheaimjaaGreatDoor
/- Texts are cut into parts and words. -/
namespace Go.Proofs.YtejlhgcheaimjaaGreatDoor
open Go.AM
set_option maxRecDepth 100000
set_option linter.unusedSimpArgs false
set_option linter.unusedVariables false
/-- One cell of one's own is written. -/
theorem own_set1 {lo : Nat} {A : St} {s : AV} {cs : List AV} (h : AM.Own lo A 1 s cs) {j : Nat} (hj : j < cs.length) (k : IntKind) :
    ∃ p, atSliceV 1 s (.int k j) = some (.ptr (some p)) ∧ ∀ d : AV, d.flat = true → d.cells = [d] → d.isBot = false → ∃ B, storeV A 1 (.ptr (some p)) d = some (.bot, B) ∧ AM.Own lo B 1 s (cs.set j d) ∧ But A B s := by
  cases h with
  | nil po cap q => simp at hj
  | @mem f v o po len cap q all vers nv y hlo hf hg hv h1 h2 h3 hq =>
    rw [List.length_take, List.length_drop] at hj
    refine ⟨(f, v, o + j), ?_, fun d hd1 hd2 hd3 => ?_⟩
    · unfold atSliceV
      dsimp only
      rw [show index? len (.int k (j : Int)) = some j by simp [index?]; omega]
      simp [AV.addr]
    have hlook : A.look (f, v, o + j) = some (all, y, nv, false) := by
      unfold St.look; dsimp only; rw [hg]; dsimp only; rw [hv]; rfl
    refine ⟨A.put f (.cells (splice all (o + j) [d]) [y] nv false), ?_, ?_, but_put _⟩
    · have hw : A.write (f, v, o + j) [d] = some (A.put f (.cells (splice all (o + j) [d]) [y] nv false)) := by
        simp only [St.write, hlook]
        rw [if_pos ⟨by omega, by simp only [List.length_singleton]; omega, h3, by simp [hd1]⟩]
      unfold storeV
      cases d <;> simp [AV.isBot] at hd3 <;> simp only [hd2, hw] <;> rfl
    · have hall : o + j < all.length := by omega
      rw [splice_one hall]
      have e2 : ((all.drop o).take (len * 1)).set j d = ((all.set (o + j) d).drop o).take (len * 1) := by
        rw [List.drop_set, if_neg (by omega), List.take_set]
        congr 1
        omega
      rw [e2]
      have hy := (findVer_spec hv).2
      exact .mem hlo hf (by rw [St.get_put, if_pos rfl]) (by simp [findVer, hy]) h1 h2 (by simpa using h3) hq
theorem idxB_spec {A : St} {s : List UInt8} {c : UInt8} : Ev D0 G0 fnsL XA 136 [.str s, .int .u8 c.toNat] A fun r B => A = B ∧ r = .int .i64 (Lib.indexByte s c) :=
  Ev.ext rfl (xa_row rfl rfl (show indexX [.str s, .int .u8 c.toNat] A = some (.int .i64 (Lib.indexByte s c), A) by simp [indexX])) ⟨rfl, rfl⟩
theorem cntB_spec {A : St} {s : List UInt8} {c : UInt8} : Ev D0 G0 fnsL XA 110 [.str s, .int .u8 c.toNat] A fun r B => A = B ∧ r = .int .i64 ((s.count c : Nat) : Int) :=
  Ev.ext rfl (xa_row rfl rfl (show countX [.str s, .int .u8 c.toNat] A = some (.int .i64 ((s.count c : Nat) : Int), A) by simp [countX, Lib.countByte])) ⟨rfl, rfl⟩
theorem index_spec {A : St} {s : List UInt8} {c : UInt8} : Ev D0 G0 fnsL XA 88 [.str s, .str [c]] A fun r B => A = B ∧ r = .int .i64 (Lib.indexByte s c) := by
  refine Ev.fnK (fn := a88) rfl ⟨by simp [a88], by decide⟩ ?_
  unfold a88
  simp [ops_callf, allKnown]
  refine Ev.fnK (fn := a111) rfl ⟨by simp [a111], by decide⟩ ?_
  unfold a111
  by_cases hs : [c] = s
  · subst hs
    simp [Lib.indexByte, pickV]
  · have hb : byteAtV (.str [c]) (.int .i64 0) = some (.int .u8 c.toNat) := rfl
    simp [hs, pickV, hb, ops_callf, allKnown]
    refine Ev.fnK (fn := a125) rfl ⟨by simp [a125], by decide⟩ ?_
    unfold a125
    simp [ops_callf, allKnown]
    refine idxB_spec.mono fun r B ⟨hB, hr⟩ => ?_
    subst hB hr
    simp
theorem count_spec {A : St} {s : List UInt8} {c : UInt8} : Ev D0 G0 fnsL XA 87 [.str s, .str [c]] A fun r B => A = B ∧ r = .int .i64 ((s.count c : Nat) : Int) := by
  refine Ev.fnK (fn := a87) rfl ⟨by simp [a87], by decide⟩ ?_
  unfold a87
  have hb : byteAtV (.str [c]) (.int .i64 0) = some (.int .u8 c.toNat) := rfl
  simp [hb, ops_callf, allKnown]
  refine cntB_spec.mono fun r B ⟨hB, hr⟩ => ?_
  subst hB hr
  simp
/-- Where a sign stands first. -/
theorem index_cut {s : List UInt8} {c : UInt8} (h : 0 < s.count c) : ∃ o : Nat, Lib.indexByte s c = o ∧ o < s.length ∧ splitS c s = s.take o :: splitS c (s.drop (o + 1)) ∧ (s.drop (o + 1)).count c + 1 = s.count c := by
  have hm : c ∈ s := List.count_pos_iff.1 h
  have hge := Lib.indexByte_ge s c
  rcases Int.lt_or_le (Lib.indexByte s c) 0 with hneg | hpos
  · have : Lib.indexByte s c = -1 := by omega
    obtain ⟨k, hk⟩ := List.mem_iff_getElem?.1 hm
    exact absurd hk (Lib.indexByte_none this k)
  · obtain ⟨o, ho⟩ : ∃ o : Nat, Lib.indexByte s c = o := ⟨(Lib.indexByte s c).toNat, by omega⟩
    obtain ⟨h1, h2⟩ := Lib.indexByte_some ho
    obtain ⟨hlt, hg⟩ := List.getElem?_eq_some_iff.1 h1
    have hs : s = s.take o ++ c :: s.drop (o + 1) := by
      rw [← hg, ← List.drop_eq_getElem_cons hlt, List.take_append_drop]
    have hno : c ∉ s.take o := fun hm => by
      obtain ⟨k, hk⟩ := List.mem_iff_getElem?.1 hm
      rw [List.getElem?_take] at hk
      split at hk
      · rename_i hko; exact h2 k hko hk
      · cases hk
    refine ⟨o, ho, hlt, ?_, ?_⟩
    · conv => lhs; rw [hs]
      exact splitS_cut hno
    · conv => rhs; rw [hs]
      rw [List.count_append, List.count_cons_self, List.count_eq_zero.2 hno]
      omega
theorem split_spec {A : St} {s : List UInt8} {c : UInt8} (hs : s.length ≤ 100000) : Ev D0 G0 fnsL XA 23 [.str s, .str [c]] A fun r B => A.Ext B ∧ Sl B 1 r (strsV (splitS c s)) := by
  refine Ev.fnK (fn := a23) rfl ⟨by simp [a23], by decide⟩ ?_
  unfold a23
  simp [ops_callf, allKnown]
  have key : Ev D0 G0 fnsL XA 61 [.str s, .str [c], .int .i64 0, .int .i64 (-1)] A fun r B => A.Ext B ∧ Sl B 1 r (strsV (splitS c s)) := by
    refine Ev.fnK (fn := a61) rfl ⟨by simp [a61], by decide⟩ ?_
    unfold a61
    simp [ops_callf, allKnown]
    refine count_spec.mono fun r B ⟨hB, hr⟩ => ?_
    subst hB hr
    have hcl : s.count c ≤ s.length := List.count_le_length
    obtain ⟨m, hm, e1⟩ : ∃ m : Nat, m = s.count c + 1 ∧ binOf .add (.int .i64 (s.count c : Int)) (.int .i64 1) = some (.int .i64 (m : Int)) := ⟨_, rfl, add_one (i := s.count c) (by omega)⟩
    obtain ⟨m2, hm2, e2⟩ : ∃ m : Nat, m = s.length + 1 ∧ binOf .add (.int .i64 (s.length : Int)) (.int .i64 1) = some (.int .i64 (m : Int)) := ⟨_, rfl, add_one (i := s.length) (by omega)⟩
    have e3 : foldA min2 (.int .i64 (m : Int)) [.int .i64 (m2 : Int)] = some (.int .i64 (m : Int)) := by
      simp only [foldA, min2]
      rw [if_pos trivial]
      simp only [Option.some.injEq, AV.int.injEq, true_and]
      split <;> omega
    have e4 := makeV_nat (size := 1) (bytes := 16) (zero := [AV.str []]) (k := .i64) (j := .i64) (Nat.le_refl m) (by omega) (by omega) rfl
    have e5 : binOf .sub (.int .i64 (m : Int)) (.int .i64 1) = some (.int .i64 (s.count c : Int)) := by
      rw [bin_sub, show (m : Int) - 1 = (s.count c : Int) by omega, wrap_i64_nat (by omega)]
    generalize hn : s.count c = n at *
    simp [e1, e2, e3, e4, e5, pureOf, Made.value, Made.ver, -bin_add, -bin_sub]
    have hfl : (List.replicate m [AV.str []]).flatten = List.replicate m (AV.str []) := by simp
    try rw [hfl]
    have om := own_make_exact A (cs := List.replicate m (AV.str [])) (sz := 1) (n := m) (by simp) (Nat.le_refl _) (len := m) (Nat.le_refl _)
    rw [Nat.mul_one, List.take_of_length_le (by simp)] at om
    have xm := ext_make A (List.replicate m (AV.str [])) 1
    have hmk : (A.makeV (List.replicate m (AV.str [])) 1 0).2 = (A.make (List.replicate m (AV.str [])) 1).2 := rfl
    try rw [hmk]
    generalize (A.make (List.replicate m (AV.str [])) 1).2 = A1 at *
    generalize hsl : AV.slice (some (A.next, 0, 0)) 0 m m 0 = sl at *
    refine Wp.loopK (fun d E A' => A.Ext A' ∧ Env.at E 1 = .str [c] ∧ Env.at E 2 = .int .i64 0 ∧ Env.at E 3 = .int .i64 (n : Int) ∧ Env.at E 9 = sl ∧ ∃ (i : Nat) (t : List UInt8) (ps : List (List UInt8)), Env.at E 10 = .int .i64 i ∧ Env.at E 0 = .str t ∧ i + d = n ∧ t.length ≤ s.length ∧
      splitS c s = ps ++ splitS c t ∧ ps.length = i ∧ t.count c = d ∧ AM.Own A.next A' 1 sl (strsV ps ++ List.replicate (m - i) (AV.str []))) n ?_ ?_
    · exact ⟨xm, by simp, by simp, by simp, by simp, 0, s, [], by simp, by simp, by simp, Nat.le_refl _, rfl, rfl, hn, by simpa [strsV] using om⟩
    rintro d E B ⟨x1, e1', e2', e3', e9, i, t, ps, e10, e0, hid, htl, hsp, hps, hcnt, ho⟩
    have hlen : (strsV ps ++ List.replicate (m - i) (AV.str [])).length = m := by simp; omega
    have hrep : m - i = (m - (i + 1)) + 1 := by omega
    have hset : ∀ w : List UInt8, (strsV ps ++ List.replicate (m - i) (AV.str [])).set i (.str w) = strsV (ps ++ [w]) ++ List.replicate (m - (i + 1)) (AV.str []) := fun w => by
      rw [hrep, List.replicate_succ, List.set_append_right _ _ (by simp [hps]), strsV_append, List.append_assoc]
      simp [hps, strsV]
    obtain ⟨p, g1, g2⟩ := own_set1 ho (j := i) (by omega) .i64
    simp [e0, e1', e2', e3', e9, e10, lss_nat, -bin_lss]
    refine contC_of (fun hc => ?_) (fun hc => ?_)
    · simp at hc
      obtain ⟨o, q1, q2, q3, q4⟩ := index_cut (s := t) (c := c) (by omega)
      obtain ⟨B2, k1, k2, k3⟩ := g2 (.str (t.take o)) rfl rfl rfl
      rw [hset] at k2
      simp [e0, e1', ops_callf, allKnown]
      refine index_spec.mono fun r B' ⟨hB, hr⟩ => ?_
      subst hB hr
      rw [q1]
      have el : binOf .lss (.int .i64 (o : Int)) (.int .i64 0) = some (.bool false) := by rw [bin_lss]; simp
      have ea0 : binOf .add (.int .i64 (o : Int)) (.int .i64 0) = some (.int .i64 (o : Int)) := by rw [bin_add, Int.add_zero, wrap_i64_nat (by omega)]
      obtain ⟨o1, ho1, ea1⟩ : ∃ y : Nat, y = o + 1 ∧ binOf .add (.int .i64 (o : Int)) (.int .i64 1) = some (.int .i64 (y : Int)) := ⟨_, rfl, add_one (i := o) (by omega)⟩
      obtain ⟨i1, hi1, eai⟩ : ∃ y : Nat, y = i + 1 ∧ binOf .add (.int .i64 (i : Int)) (.int .i64 1) = some (.int .i64 (y : Int)) := ⟨_, rfl, add_one (i := i) (by omega)⟩
      have c1 : cutStrV (.str t) none (some (.int .i64 (o : Int))) = some (.str (t.take o)) := by
        unfold cutStrV
        simp only [boundHi, boundLo, show bound? t.length (.int .i64 (o : Int)) = some o by simp [bound?]; omega]
        simp
      have c2 : cutStrV (.str t) (some (.int .i64 (o1 : Int))) none = some (.str (t.drop o1)) := by
        unfold cutStrV
        simp only [boundHi, boundLo, show bound? t.length (.int .i64 (o1 : Int)) = some o1 by simp [bound?]; omega]
        simp
      simp [e0, e1', e2', e3', e9, e10, el, ea0, ea1, eai, c1, c2, g1, k1, -bin_lss, -bin_add]
      rw [← ho1] at q3 q4
      exact ⟨d - 1, by omega, k3.ext x1 ho, i1, rfl, by omega, by omega, ps ++ [t.take o], by rw [hsp, q3]; simp, by simp; omega, by omega, by rw [hi1]; exact k2⟩
    · simp at hc
      have hd0 : d = 0 := by omega
      have hno : c ∉ t := fun hm => by have := List.count_pos_iff.2 hm; omega
      rw [splitS_none hno] at hsp
      obtain ⟨B2, k1, k2, k3⟩ := g2 (.str t) rfl rfl rfl
      rw [hset, show m - (i + 1) = 0 by omega, List.replicate_zero, List.append_nil, ← hsp] at k2
      obtain ⟨i1, hi1, eai⟩ : ∃ y : Nat, y = i + 1 ∧ binOf .add (.int .i64 (i : Int)) (.int .i64 1) = some (.int .i64 (y : Int)) := ⟨_, rfl, add_one (i := i) (by omega)⟩
      have hsl2 := k2.sl
      have hcl := hsl2.length
      rw [strsV_length, hsp] at hcl
      simp at hcl
      obtain ⟨s', h1, h2, h3⟩ := hsl2.cutTo (hi := i1) (by omega) (j := .i64)
      rw [List.take_of_length_le (by rw [strsV_length, hsp]; simp; omega)] at h3
      simp [e0, e9, e10, g1, k1, eai, h1, h3.known, -bin_add]
      exact ⟨k3.ext x1 ho, h3⟩
  refine key.mono fun r B ⟨x, o⟩ => ?_
  simp [o.known]
  exact ⟨x, o⟩
/-- The document cuts a text. -/
theorem rsplit_spec {D : Disp} {G0 : Env} {X : Calls'} {A : St} {s : List UInt8} {c : UInt8} (hs : s.length ≤ 100000) : Ev D G0 fnsL X 29 [.str s, .int .u8 c.toNat] A fun r B => A.Ext B ∧ Sl B 1 r (strsV (splitS c s)) := by
  refine Ev.fnK (fn := a29) rfl ⟨by simp [a29], by decide⟩ ?_
  unfold a29
  simp
  refine Wp.loopK (fun d E A' => A.Ext A' ∧ Env.at E 0 = .str s ∧ Env.at E 1 = .int .u8 c.toNat ∧ ∃ (i a : Nat) (o : AV) (ps : List (List UInt8)), Env.at E 7 = .int .i64 i ∧ Env.at E 6 = .int .i64 a ∧ Env.at E 5 = o ∧ i + d = s.length + 1 ∧ AM.Own A.next A' 1 o (strsV ps) ∧ ps.length ≤ i ∧
    ((i ≤ s.length ∧ a ≤ i ∧ splitS c s = ps ++ splitS c (s.drop a) ∧ c ∉ (s.drop a).take (i - a)) ∨ (i = s.length + 1 ∧ splitS c s = ps))) (s.length + 1) ?_ ?_
  · exact ⟨St.Ext.refl A, by simp, by simp, 0, 0, .slice none 0 0 0 0, [], by simp, by simp, by simp, by simp, by simpa [strsV] using AM.Own.nil _ _ _, by simp, .inl ⟨by simp, by simp, by simp, by simp⟩⟩
  rintro d E B ⟨x1, e0, e1, i, a, o, ps, e7, e6, e5, hid, ho, hpl, hst⟩
  have el : binOf .leq (.int .i64 (i : Int)) (.int .i64 (s.length : Int)) = some (.bool (decide (i ≤ s.length))) := leq_nat .i64 i s.length
  have ee : binOf .eql (.int .i64 (i : Int)) (.int .i64 (s.length : Int)) = some (.bool (decide (i = s.length))) := eql_nat .i64 i s.length
  obtain ⟨i1, hi1, eai⟩ : ∃ y : Nat, y = i + 1 ∧ binOf .add (.int .i64 (i : Int)) (.int .i64 1) = some (.int .i64 (y : Int)) := ⟨_, rfl, add_one (i := i) (by omega)⟩
  simp [e0, e7, el, -bin_leq]
  refine contC_of (fun hc => ?_) (fun hc => ?_)
  · simp at hc
    rcases hst with ⟨_, hai, hsp, hno⟩ | ⟨h, _⟩
    rotate_left
    · omega
    -- the part that ends here
    obtain ⟨w, hw, cut⟩ : ∃ w, w = (s.drop a).take (i - a) ∧ cutStrV (.str s) (some (.int .i64 (a : Int))) (some (.int .i64 (i : Int))) = some (.str w) := ⟨_, rfl, by
      unfold cutStrV
      simp only [boundHi, boundLo, show bound? s.length (.int .i64 (i : Int)) = some i by simp [bound?]; omega, show bound? i (.int .i64 (a : Int)) = some a by simp [bound?]; omega]
      rw [List.drop_take]⟩
    rw [← hw] at hno
    obtain ⟨s', B2, h1, h2, h3⟩ := append_strs ho x1 (by omega) w
    by_cases hend : i = s.length
    · subst hend
      have hwd : w = s.drop a := by rw [hw, List.take_of_length_le (by simp)]
      have hsp2 : splitS c s = ps ++ [w] := by
        rw [hsp, ← hwd, splitS_none hno]
      simp [e0, e1, e5, e6, e7, pickV, ee, cut, fillA, AV.isBot, AV.cells, splice, Made.value, eai, h1, -bin_add, -bin_eql]
      exact ⟨d - 1, by omega, h3, i1, rfl, i1, rfl, by omega, _, h2, by simp; omega, .inr ⟨by omega, hsp2⟩⟩
    · obtain ⟨b, hb⟩ : ∃ b, s[i]? = some b := ⟨s[i], List.getElem?_eq_getElem (by omega)⟩
      have hbt : byteAtV (.str s) (.int .i64 i) = some (.int .u8 b.toNat) := by
        unfold byteAtV index?
        simp only
        rw [if_pos ⟨by omega, by omega⟩]
        simp [hb]
      have hcut : s.drop a = w ++ b :: s.drop i1 := by
        have h1 : (s.drop a).drop (i - a) = b :: s.drop i1 := by
          rw [List.drop_drop, show a + (i - a) = i by omega, hi1]
          obtain ⟨hlt, hg⟩ := List.getElem?_eq_some_iff.1 hb
          rw [← hg, List.drop_eq_getElem_cons hlt]
        rw [← h1, hw, List.take_append_drop]
      have eeb : binOf .eql (.int .u8 (b.toNat : Int)) (.int .u8 (c.toNat : Int)) = some (.bool (decide (b = c))) := by
        rw [bin_eql]
        congr 2
        simp only [decide_eq_decide]
        constructor
        · intro h
          exact UInt8.toNat_inj.1 (by omega)
        · rintro rfl; rfl
      by_cases hbc : b = c
      · subst hbc
        have hsp2 : splitS b s = (ps ++ [w]) ++ splitS b (s.drop i1) := by
          rw [hsp, hcut, splitS_cut hno]
          simp
        simp [e0, e1, e5, e6, e7, pickV, ee, hend, hbt, eeb, cut, fillA, AV.isBot, AV.cells, splice, Made.value, eai, h1, -bin_add, -bin_eql]
        exact ⟨d - 1, by omega, h3, i1, rfl, i1, rfl, by omega, _, h2, by simp; omega, .inl ⟨by omega, by omega, hsp2, by simp⟩⟩
      · have hno2 : c ∉ (s.drop a).take (i1 - a) := by
          rw [hcut, show i1 - a = w.length + 1 by rw [hw]; simp; omega, List.take_length_add_append]
          simp only [List.mem_append, List.take_succ_cons, List.take_zero, List.mem_singleton]
          rintro (h | h)
          · exact hno h
          · exact hbc h.symm
        simp [e0, e1, e5, e6, e7, pickV, ee, hend, hbt, eeb, hbc, eai, -bin_add, -bin_eql]
        exact ⟨d - 1, by omega, x1, i1, rfl, a, rfl, by omega, ps, ho, by omega, .inl ⟨by omega, by omega, hsp, hno2⟩⟩
  · simp at hc
    rcases hst with ⟨h, _⟩ | ⟨_, h⟩
    · omega
    · rw [h]
      simp [e5, ho.sl.known]
      exact ⟨x1, ho.sl⟩

/-! ### Words -/
theorem wordsS_mem {s w : List UInt8} (h : w ∈ wordsS s) : w ≠ [] ∧ w.length ≤ s.length := by
  unfold wordsS at h
  rw [List.mem_filter] at h
  exact ⟨by rintro rfl; simp at h, splitS_mem 32 s w h.1⟩
theorem filt_take {p : List UInt8 → Bool} {l : List (List UInt8)} {i : Nat} {w : List UInt8} (h : l[i]? = some w) : (l.take (i + 1)).filter p = (l.take i).filter p ++ (if p w then [w] else []) := by
  rw [List.take_add_one, h, List.filter_append]
  congr 1
  show List.filter p [w] = _
  cases hp : p w <;> simp [hp]
theorem splitS_len_le (c : UInt8) (s : List UInt8) : (splitS c s).length ≤ s.length + 1 := by
  rw [splitS_length]
  have : s.count c ≤ s.length := List.count_le_length
  omega
theorem words_spec {A : St} {s : List UInt8} (hs : s.length ≤ 100000) : Ev D0 G0 fnsL XA 22 [.str s] A fun r B => A.Ext B ∧ Sl B 1 r (strsV (wordsS s)) ∧ ∀ f, r.into f = true → A.next ≤ f := by
  refine Ev.fnK (fn := a22) rfl ⟨by simp [a22], by decide⟩ ?_
  unfold a22
  simp [ops_callf, allKnown]
  refine (split_spec hs).mono fun r B ⟨x0, hr⟩ => ?_
  have hl := splitS_len_le 32 s
  have hlen := hr.lenV1
  rw [strsV_length] at hlen
  simp [hlen]
  unfold wordsS
  generalize splitS 32 s = L at *
  refine Wp.loopK (fun d E A' => B.Ext A' ∧ Env.at E 7 = r ∧ Env.at E 8 = .int .i64 L.length ∧ ∃ (i : Nat) (o : AV), Env.at E 9 = .int .i64 i ∧ i + d = L.length ∧ Env.at E 3 = o ∧ AM.Own B.next A' 1 o (strsV ((L.take i).filter (fun w => !w.isEmpty)))) L.length ?_ ?_
  · exact ⟨St.Ext.refl B, by simp, by simp, 0, .slice none 0 0 0 0, by simp, by simp, by simp, by simpa [strsV] using AM.Own.nil _ _ _⟩
  rintro d E B1 ⟨xB, e7, e8, i, o, e9, hi, e3, ho⟩
  simp [e7, e8, e9, lss_nat, -bin_lss]
  refine contC_of (fun hc => ?_) (fun hc => ?_)
  · simp at hc
    obtain ⟨w, hw⟩ : ∃ w, L[i]? = some w := ⟨L[i], List.getElem?_eq_getElem hc⟩
    obtain ⟨p, g1, g2⟩ := Sl.str_at (hr.ext xB) hw .i64
    obtain ⟨i1, hi1, eai⟩ : ∃ y : Nat, y = i + 1 ∧ binOf .add (.int .i64 (i : Int)) (.int .i64 1) = some (.int .i64 (y : Int)) := ⟨_, rfl, add_one (i := i) (by omega)⟩
    have hft := filt_take (p := fun w => !w.isEmpty) hw
    have hfl : ((L.take i).filter (fun w => !w.isEmpty)).length ≤ 200000 := Nat.le_trans (List.length_filter_le _ _) (by rw [List.length_take]; omega)
    rw [← hi1] at hft
    by_cases h0 : w = []
    · subst h0
      simp [e7, e9, g1, g2, eai, -bin_add]
      simp at hft
      exact ⟨d - 1, by omega, xB, e8, i1, rfl, by omega, by rw [hft, e3]; exact ho⟩
    · obtain ⟨s', B2, h1, h2, h3⟩ := append_strs ho xB (by omega) w
      simp [e3, e7, e9, g1, g2, h0, eai, fillA, AV.isBot, AV.cells, splice, Made.value, h1, -bin_add]
      simp [h0] at hft
      exact ⟨d - 1, by omega, h3, e8, i1, rfl, by omega, by rw [hft]; exact h2⟩
  · simp at hc
    have hil : i = L.length := by omega
    rw [hil, List.take_length] at ho
    simp [e3, ho.sl.known]
    exact ⟨x0.trans xB, ho.sl, fun f hf => Nat.le_trans x0.next (ho.into hf)⟩
theorem fields_spec {D : Disp} {G0 : Env} {X : Calls'} {A : St} {s : List UInt8} (hs : s.length ≤ 100000) : Ev D G0 fnsL X 28 [.str s] A fun r B => A.Ext B ∧ Sl B 1 r (strsV (wordsS s)) ∧ ∀ f, r.into f = true → A.next ≤ f := by
  refine Ev.fnK (fn := a28) rfl ⟨by simp [a28], by decide⟩ ?_
  unfold a28
  simp [ops_callf, allKnown]
  refine (rsplit_spec (c := 32) hs).mono fun r B ⟨x0, hr⟩ => ?_
  have hl := splitS_len_le 32 s
  have hlen := hr.lenV1
  rw [strsV_length] at hlen
  simp [hlen]
  unfold wordsS
  generalize splitS 32 s = L at *
  refine Wp.loopK (fun d E A' => B.Ext A' ∧ Env.at E 7 = r ∧ Env.at E 8 = .int .i64 L.length ∧ ∃ (i : Nat) (o : AV), Env.at E 9 = .int .i64 i ∧ i + d = L.length ∧ Env.at E 3 = o ∧ AM.Own B.next A' 1 o (strsV ((L.take i).filter (fun w => !w.isEmpty)))) L.length ?_ ?_
  · exact ⟨St.Ext.refl B, by simp, by simp, 0, .slice none 0 0 0 0, by simp, by simp, by simp, by simpa [strsV] using AM.Own.nil _ _ _⟩
  rintro d E B1 ⟨xB, e7, e8, i, o, e9, hi, e3, ho⟩
  simp [e7, e8, e9, lss_nat, -bin_lss]
  refine contC_of (fun hc => ?_) (fun hc => ?_)
  · simp at hc
    obtain ⟨w, hw⟩ : ∃ w, L[i]? = some w := ⟨L[i], List.getElem?_eq_getElem hc⟩
    obtain ⟨p, g1, g2⟩ := Sl.str_at (hr.ext xB) hw .i64
    obtain ⟨i1, hi1, eai⟩ : ∃ y : Nat, y = i + 1 ∧ binOf .add (.int .i64 (i : Int)) (.int .i64 1) = some (.int .i64 (y : Int)) := ⟨_, rfl, add_one (i := i) (by omega)⟩
    have hft := filt_take (p := fun w => !w.isEmpty) hw
    have hfl : ((L.take i).filter (fun w => !w.isEmpty)).length ≤ 200000 := Nat.le_trans (List.length_filter_le _ _) (by rw [List.length_take]; omega)
    rw [← hi1] at hft
    by_cases h0 : w = []
    · subst h0
      simp [e7, e9, g1, g2, eai, -bin_add]
      simp at hft
      exact ⟨d - 1, by omega, xB, e8, i1, rfl, by omega, by rw [hft, e3]; exact ho⟩
    · obtain ⟨s', B2, h1, h2, h3⟩ := append_strs ho xB (by omega) w
      simp [e3, e7, e9, g1, g2, h0, eai, fillA, AV.isBot, AV.cells, splice, Made.value, h1, -bin_add]
      simp [h0] at hft
      exact ⟨d - 1, by omega, h3, e8, i1, rfl, by omega, by rw [hft]; exact h2⟩
  · simp at hc
    have hil : i = L.length := by omega
    rw [hil, List.take_length] at ho
    simp [e3, ho.sl.known]
    exact ⟨x0.trans xB, ho.sl, fun f hf => Nat.le_trans x0.next (ho.into hf)⟩
end Go.Proofs.YtejlhgcheaimjaaGreatDoor
