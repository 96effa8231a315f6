/-
  Certs as bytes (chapter 24), in plain words: what is written, what is read, and that what is read, written again, is itself. No condition.
-/
import Derived.Test.YtnamcghcgcknpaaChecked
import Derived.WalkKit
import Derived.WalkSmall
namespace Go.Proofs.Ytnamcghcgcknpaa
open Go.RowKit

/-- A number in groups of seven digits. -/
def eNum (n : Nat) : List Nat := if n < 128 then [n] else (n % 128 + 128) :: eNum (n / 128)
termination_by n
decreasing_by omega
/-- What is read as a number: i groups were read, worth a. -/
def dNum (i a : Nat) : List Nat → Option (Nat × List Nat)
  | [] => none
  | c :: r => if c < 128 then (if (0 < i ∧ c = 0) ∨ i = 9 then none else some (a + c * 128 ^ i, r)) else if 9 ≤ i then none else dNum (i + 1) (a + (c - 128) * 128 ^ i) r
theorem eNum_small {n : Nat} (h : n < 128) : eNum n = [n] := by rw [eNum, if_pos h]
theorem eNum_big {n : Nat} (h : ¬ n < 128) : eNum n = (n % 128 + 128) :: eNum (n / 128) := by rw [eNum, if_neg h]
theorem eNum_group {c m : Nat} (hc : c < 256) (h : 128 ≤ c) (hm : m ≠ 0) : eNum (c - 128 + 128 * m) = c :: eNum m := by
  rw [eNum_big (by omega), show (c - 128 + 128 * m) % 128 + 128 = c by omega, show (c - 128 + 128 * m) / 128 = m by omega]
theorem pow_step (i : Nat) (h : i ≤ 8) : 128 ^ (9 - i) = 128 * 128 ^ (9 - (i + 1)) := by
  rw [show 9 - i = (9 - (i + 1)) + 1 by omega, Nat.pow_succ]; omega
theorem dNum_inv (bs : List Nat) : ∀ (i a n : Nat) (r : List Nat), i ≤ 9 → (∀ b ∈ bs, b < 256) → dNum i a bs = some (n, r) →
    ∃ m, n = a + m * 128 ^ i ∧ bs = eNum m ++ r ∧ (0 < i → m ≠ 0) ∧ m < 128 ^ (9 - i) := by
  induction bs with
  | nil => intro i a n r hi hb h; simp [dNum] at h
  | cons c bs ih =>
    intro i a n r hi hb h
    have hc := hb c (List.mem_cons_self ..)
    have hb' : ∀ b ∈ bs, b < 256 := fun b h => hb b (List.mem_cons_of_mem _ h)
    rw [dNum] at h
    by_cases h1 : c < 128
    · rw [if_pos h1] at h
      split at h
      · cases h
      · rename_i hno
        obtain ⟨rfl, rfl⟩ := by simpa using h
        refine ⟨c, rfl, by rw [eNum_small h1]; rfl, fun hi h => hno (.inl ⟨hi, h⟩), ?_⟩
        have h9 : i ≤ 8 := by omega
        rw [pow_step i h9]
        have := Nat.pow_pos (n := 9 - (i + 1)) (show 0 < 128 by omega)
        omega
    · rw [if_neg h1] at h
      split at h
      · cases h
      · rename_i hno
        obtain ⟨m, rfl, rfl, hm0, hm⟩ := ih (i + 1) _ n r (by omega) hb' h
        refine ⟨c - 128 + 128 * m, ?_, ?_, fun _ => ?_, ?_⟩
        · rw [Nat.pow_succ, Nat.add_mul, Nat.add_assoc]
          congr 2
          rw [Nat.mul_comm 128 m, Nat.mul_assoc, Nat.mul_comm 128]
        · rw [eNum_group hc (by omega) (hm0 (by omega))]; rfl
        · have := hm0 (by omega); omega
        · rw [pow_step i (by omega)]
          omega
theorem dNum_eNum (m : Nat) : ∀ (i a : Nat) (r : List Nat), i ≤ 8 → m < 128 ^ (9 - i) → (0 < i → m ≠ 0) → dNum i a (eNum m ++ r) = some (a + m * 128 ^ i, r) := by
  induction m using Nat.strongRecOn with
  | ind m ih =>
    intro i a r hi hm h0
    by_cases h : m < 128
    · have hno : ¬ ((0 < i ∧ m = 0) ∨ i = 9) := fun h => h.elim (fun h => h0 h.1 h.2) (fun h => by omega)
      rw [eNum_small h, List.cons_append, List.nil_append, dNum, if_pos h, if_neg hno]
    · rw [pow_step i hi] at hm
      have h8 : i ≤ 7 := by
        rcases Nat.lt_or_ge i 8 with h | h8
        · omega
        · obtain rfl : i = 8 := by omega
          simp at hm; omega
      rw [eNum_big h, List.cons_append, dNum, if_neg (by omega), if_neg (by omega), ih (m / 128) (by omega) (i + 1) _ r (by omega) (by omega) (by omega), Nat.pow_succ]
      congr 2
      rw [Nat.add_sub_cancel, Nat.add_assoc]
      congr 1
      conv => rhs; rw [← Nat.div_add_mod m 128]
      rw [Nat.add_mul, Nat.add_comm, Nat.mul_comm (128 ^ i) 128, ← Nat.mul_assoc, Nat.mul_comm (m / 128) 128]
/-- More bytes behind what was read stay. -/
theorem dNum_app (bs : List Nat) : ∀ (i a n : Nat) (r t : List Nat), dNum i a bs = some (n, r) → dNum i a (bs ++ t) = some (n, r ++ t) := by
  induction bs with
  | nil => intro i a n r t h; simp [dNum] at h
  | cons c bs ih =>
    intro i a n r t h
    rw [dNum] at h
    rw [List.cons_append, dNum]
    split at h
    · rename_i h1
      rw [if_pos h1]
      split at h
      · cases h
      · rename_i h2
        obtain ⟨rfl, rfl⟩ := by simpa using h
        rw [if_neg h2]
    · rename_i h1
      rw [if_neg h1]
      split at h
      · cases h
      · rename_i h2
        rw [if_neg h2]
        exact ih _ _ _ _ _ h
theorem dNum_one {bs r : List Nat} {n : Nat} (hb : ∀ b ∈ bs, b < 256) (h : dNum 0 0 bs = some (n, r)) : bs = eNum n ++ r ∧ n < 9223372036854775808 := by
  obtain ⟨m, rfl, rfl, _, hm⟩ := dNum_inv bs 0 0 n r (by omega) hb h
  simp at hm ⊢
  omega
theorem eNum_one (n : Nat) (r : List Nat) (h : n < 9223372036854775808) : dNum 0 0 (eNum n ++ r) = some (n, r) := by
  rw [dNum_eNum n 0 0 r (by omega) (by simpa using h) (by omega)]; simp

/-- So many numbers. -/
def dNums : Nat → List Nat → Option (List Nat × List Nat)
  | 0, bs => some ([], bs)
  | k + 1, bs => match dNum 0 0 bs with
    | none => none
    | some (n, r) => match dNums k r with
      | none => none
      | some (l, t) => some (n :: l, t)
def eNums : List Nat → List Nat
  | [] => []
  | n :: l => eNum n ++ eNums l
theorem eNums_app (a b : List Nat) : eNums (a ++ b) = eNums a ++ eNums b := by
  induction a with
  | nil => rfl
  | cons n l ih => simp [eNums, ih]
theorem dNums_inv (k : Nat) : ∀ (bs r l : List Nat), (∀ b ∈ bs, b < 256) → dNums k bs = some (l, r) → bs = eNums l ++ r ∧ l.length = k ∧ ∀ n ∈ l, n < 9223372036854775808 := by
  induction k with
  | zero => intro bs r l hb h; obtain ⟨rfl, rfl⟩ := (by simpa [dNums] using h); exact ⟨rfl, rfl, by simp⟩
  | succ k ih =>
    intro bs r l hb h
    rw [dNums] at h
    split at h
    · cases h
    · rename_i n t hn
      split at h
      · cases h
      · rename_i l' t' hl
        obtain ⟨rfl, rfl⟩ := by simpa using h
        obtain ⟨rfl, h63⟩ := dNum_one hb hn
        obtain ⟨rfl, rfl, h2⟩ := ih t _ _ (fun b h => hb b (List.mem_append_right _ h)) hl
        exact ⟨by simp [eNums], rfl, by simpa using ⟨h63, h2⟩⟩
theorem eNums_inv (l : List Nat) : ∀ r : List Nat, (∀ n ∈ l, n < 9223372036854775808) → dNums l.length (eNums l ++ r) = some (l, r) := by
  induction l with
  | nil => intro r h; rfl
  | cons n l ih =>
    intro r h
    simp only [List.length_cons, dNums, eNums, List.append_assoc]
    rw [eNum_one n _ (h n (List.mem_cons_self ..))]
    simp only [ih r (fun m hm => h m (List.mem_cons_of_mem _ hm))]
theorem dNums_app (k : Nat) : ∀ (bs l r t : List Nat), dNums k bs = some (l, r) → dNums k (bs ++ t) = some (l, r ++ t) := by
  induction k with
  | zero => intro bs l r t h; obtain ⟨rfl, rfl⟩ := (by simpa [dNums] using h); rfl
  | succ k ih =>
    intro bs l r t h
    rw [dNums] at h ⊢
    split at h
    · cases h
    · rename_i n u hn
      rw [dNum_app bs 0 0 n u t hn]
      split at h
      · cases h
      · rename_i l' t' hl
        obtain ⟨rfl, rfl⟩ := by simpa using h
        simp only [ih _ _ _ t hl]

/-- A step as a number, a number as a step. -/
def stepOf (k : Nat) : Nat × Bool := (k / 2, k % 2 == 1)
def ofStep (s : Nat × Bool) : Nat := 2 * s.1 + if s.2 then 1 else 0
theorem ofStep_stepOf (k : Nat) : ofStep (stepOf k) = k := by
  unfold ofStep stepOf
  rcases Nat.mod_two_eq_zero_or_one k with h | h <;> simp [h] <;> omega
theorem stepOf_ofStep (s : Nat × Bool) : stepOf (ofStep s) = s := by
  obtain ⟨n, b⟩ := s
  cases b <;> simp [ofStep, stepOf] <;> omega
theorem ofStep_map (l : List Nat) : (l.map stepOf).map ofStep = l := by simp [Function.comp_def, ofStep_stepOf]
theorem stepOf_map (l : List (Nat × Bool)) : (l.map ofStep).map stepOf = l := by simp [Function.comp_def, stepOf_ofStep]

/-- A walk: how many steps, and the steps. -/
def dWalk (bs : List Nat) : Option (List (Nat × Bool) × List Nat) :=
  match dNum 0 0 bs with
  | none => none
  | some (n, r) => if 2000 < n then none else match dNums n r with
    | none => none
    | some (l, t) => some (l.map stepOf, t)
def eWalk (l : List (Nat × Bool)) : List Nat := eNum l.length ++ eNums (l.map ofStep)
theorem dWalk_inv {bs r : List Nat} {l : List (Nat × Bool)} (hb : ∀ b ∈ bs, b < 256) (h : dWalk bs = some (l, r)) : bs = eWalk l ++ r ∧ l.length ≤ 2000 ∧ ∀ s ∈ l, ofStep s < 9223372036854775808 := by
  unfold dWalk at h
  split at h
  · cases h
  · rename_i n t hn
    split at h
    · cases h
    · rename_i h2
      split at h
      · cases h
      · rename_i l' t' hl
        obtain ⟨rfl, rfl⟩ := by simpa using h
        obtain ⟨rfl, h63⟩ := dNum_one hb hn
        obtain ⟨rfl, rfl, h3⟩ := dNums_inv n t _ _ (fun b h => hb b (List.mem_append_right _ h)) hl
        refine ⟨?_, by simpa using Nat.not_lt.1 h2, ?_⟩
        · rw [eWalk, ofStep_map, List.length_map, List.append_assoc]
        · intro s hs
          obtain ⟨k, hk, rfl⟩ := List.mem_map.1 hs
          rw [ofStep_stepOf]
          exact h3 k hk
theorem eWalk_inv (l : List (Nat × Bool)) (r : List Nat) (h : l.length ≤ 2000) (h2 : ∀ s ∈ l, ofStep s < 9223372036854775808) : dWalk (eWalk l ++ r) = some (l, r) := by
  unfold dWalk eWalk
  rw [List.append_assoc, eNum_one _ _ (by omega)]
  have := eNums_inv (l.map ofStep) r (fun n hn => by obtain ⟨s, hs, rfl⟩ := List.mem_map.1 hn; exact h2 s hs)
  rw [List.length_map] at this
  simp only [this, stepOf_map]
  rw [if_neg (by omega)]
theorem dWalk_app {bs r : List Nat} {l : List (Nat × Bool)} (t : List Nat) (h : dWalk bs = some (l, r)) : dWalk (bs ++ t) = some (l, r ++ t) := by
  unfold dWalk at h ⊢
  split at h
  · cases h
  · rename_i n u hn
    rw [dNum_app bs 0 0 n u t hn]
    split at h
    · cases h
    · rename_i h2
      split at h
      · cases h
      · rename_i l' t' hl
        obtain ⟨rfl, rfl⟩ := by simpa using h
        simp only [if_neg h2, dNums_app _ _ _ _ t hl]

/-- So many walks. -/
def dWalks : Nat → List Nat → Option (List (List (Nat × Bool)) × List Nat)
  | 0, bs => some ([], bs)
  | k + 1, bs => match dWalk bs with
    | none => none
    | some (n, r) => match dWalks k r with
      | none => none
      | some (l, t) => some (n :: l, t)
def eWalks : List (List (Nat × Bool)) → List Nat
  | [] => []
  | n :: l => eWalk n ++ eWalks l
theorem dWalks_inv (k : Nat) : ∀ (bs r : List Nat) (l : List (List (Nat × Bool))), (∀ b ∈ bs, b < 256) → dWalks k bs = some (l, r) → bs = eWalks l ++ r ∧ l.length = k ∧ ∀ n ∈ l, n.length ≤ 2000 ∧ ∀ s ∈ n, ofStep s < 9223372036854775808 := by
  induction k with
  | zero => intro bs r l hb h; obtain ⟨rfl, rfl⟩ := (by simpa [dWalks] using h); exact ⟨rfl, rfl, by simp⟩
  | succ k ih =>
    intro bs r l hb h
    rw [dWalks] at h
    split at h
    · cases h
    · rename_i n t hn
      split at h
      · cases h
      · rename_i l' t' hl
        obtain ⟨rfl, rfl⟩ := by simpa using h
        obtain ⟨rfl, h63⟩ := dWalk_inv hb hn
        obtain ⟨rfl, rfl, h2⟩ := ih t _ _ (fun b h => hb b (List.mem_append_right _ h)) hl
        exact ⟨by simp [eWalks], rfl, fun m hm => by
          rcases List.mem_cons.1 hm with rfl | hm
          · exact h63
          · exact h2 m hm⟩
theorem eWalks_inv (l : List (List (Nat × Bool))) : ∀ r : List Nat, (∀ n ∈ l, n.length ≤ 2000 ∧ ∀ s ∈ n, ofStep s < 9223372036854775808) → dWalks l.length (eWalks l ++ r) = some (l, r) := by
  induction l with
  | nil => intro r h; rfl
  | cons n l ih =>
    intro r h
    have h1 := h n (List.mem_cons_self ..)
    simp only [List.length_cons, dWalks, eWalks, List.append_assoc]
    rw [eWalk_inv n _ h1.1 h1.2]
    simp only [ih r (fun m hm => h m (List.mem_cons_of_mem _ hm))]
theorem dWalks_app (k : Nat) : ∀ (bs r t : List Nat) (l : List (List (Nat × Bool))), dWalks k bs = some (l, r) → dWalks k (bs ++ t) = some (l, r ++ t) := by
  induction k with
  | zero => intro bs r t l h; obtain ⟨rfl, rfl⟩ := (by simpa [dWalks] using h); rfl
  | succ k ih =>
    intro bs r t l h
    rw [dWalks] at h ⊢
    split at h
    · cases h
    · rename_i n u hn
      rw [dWalk_app t hn]
      split at h
      · cases h
      · rename_i l' t' hl
        obtain ⟨rfl, rfl⟩ := by simpa using h
        simp only [ih _ _ t _ hl]

/-! ### Values -/

/-- Digits of 32 bits. -/
def eWord (d : Nat) : List Nat := [d % 256, d / 256 % 256, d / 65536 % 256, d / 16777216 % 256]
def eWords : List Nat → List Nat
  | [] => []
  | d :: l => eWord d ++ eWords l
def dWords : Nat → List Nat → Option (List Nat × List Nat)
  | 0, bs => some ([], bs)
  | k + 1, a :: b :: c :: d :: r => match dWords k r with
    | none => none
    | some (l, t) => some ((a + b * 256 + c * 65536 + d * 16777216) :: l, t)
  | _ + 1, _ => none
theorem dWords_inv (k : Nat) : ∀ (bs r l : List Nat), (∀ b ∈ bs, b < 256) → dWords k bs = some (l, r) → bs = eWords l ++ r ∧ l.length = k ∧ ∀ n ∈ l, n < 4294967296 := by
  induction k with
  | zero => intro bs r l hb h; obtain ⟨rfl, rfl⟩ := (by simpa [dWords] using h); exact ⟨rfl, rfl, by simp⟩
  | succ k ih =>
    intro bs r l hb h
    match bs, hb, h with
    | a :: b :: c :: d :: t, hb, h =>
      rw [dWords] at h
      split at h
      · cases h
      · rename_i l' t' hl
        obtain ⟨rfl, rfl⟩ := by simpa using h
        obtain ⟨rfl, rfl, h2⟩ := ih t _ _ (fun b h => hb b (by simp [h])) hl
        have ha := hb a (by simp)
        have hb1 := hb b (by simp)
        have hc := hb c (by simp)
        have hd := hb d (by simp)
        refine ⟨?_, rfl, ?_⟩
        · simp only [eWords, eWord, List.cons_append, List.nil_append, List.cons.injEq]
          refine ⟨?_, ?_, ?_, ?_, trivial⟩ <;> omega
        · intro n hn
          rcases List.mem_cons.1 hn with rfl | hn
          · omega
          · exact h2 n hn
    | [], _, h => simp [dWords] at h
    | [_], _, h => simp [dWords] at h
    | [_, _], _, h => simp [dWords] at h
    | [_, _, _], _, h => simp [dWords] at h
theorem eWords_inv (l : List Nat) : ∀ r : List Nat, (∀ n ∈ l, n < 4294967296) → dWords l.length (eWords l ++ r) = some (l, r) := by
  induction l with
  | nil => intro r h; rfl
  | cons n l ih =>
    intro r h
    have hn := h n (List.mem_cons_self ..)
    simp only [List.length_cons, eWords, eWord, List.cons_append, List.nil_append, dWords, ih r (fun m hm => h m (List.mem_cons_of_mem _ hm))]
    simp
    omega
theorem dWords_app (k : Nat) : ∀ (bs l r t : List Nat), dWords k bs = some (l, r) → dWords k (bs ++ t) = some (l, r ++ t) := by
  induction k with
  | zero => intro bs l r t h; obtain ⟨rfl, rfl⟩ := (by simpa [dWords] using h); rfl
  | succ k ih =>
    intro bs l r t h
    match bs, h with
    | a :: b :: c :: d :: u, h =>
      rw [dWords] at h
      split at h
      · cases h
      · rename_i l' t' hl
        obtain ⟨rfl, rfl⟩ := by simpa using h
        simp only [List.cons_append, dWords, ih _ _ _ t hl]
    | [], h => simp [dWords] at h
    | [_], h => simp [dWords] at h
    | [_, _], h => simp [dWords] at h
    | [_, _, _], h => simp [dWords] at h
/-- Digits without noughts at the end. -/
def whole (l : List Nat) : Bool := match l.getLast? with
  | some d => d != 0
  | none => true
/-- A number without an end. -/
def dNat : List Nat → Option ((Bool × List Nat) × List Nat)
  | [] => none
  | k :: r => if k = 255 then some ((true, []), r) else if 64 < k then none else match dWords k r with
    | none => none
    | some (l, t) => if whole l then some ((false, l), t) else none
def eNat (a : Bool × List Nat) : List Nat := if a.1 then [255] else a.2.length :: eWords a.2
theorem dNat_inv {bs r : List Nat} {a : Bool × List Nat} (hb : ∀ b ∈ bs, b < 256) (h : dNat bs = some (a, r)) : bs = eNat a ++ r ∧ a.2.length ≤ 64 ∧ (∀ n ∈ a.2, n < 4294967296) ∧ (a.1 = true → a.2 = []) ∧ (a.1 = false → whole a.2 = true) := by
  match bs, hb, h with
  | [], _, h => simp [dNat] at h
  | k :: u, hb, h =>
    rw [dNat] at h
    split at h
    · rename_i hk
      subst hk
      obtain ⟨rfl, rfl⟩ := by simpa using h
      simp [eNat]
    · split at h
      · cases h
      · split at h
        · cases h
        · rename_i l t hl
          split at h
          · rename_i hw
            obtain ⟨rfl, rfl⟩ := by simpa using h
            obtain ⟨rfl, rfl, h2⟩ := dWords_inv k u _ _ (fun b h => hb b (List.mem_cons_of_mem _ h)) hl
            exact ⟨by simp [eNat], by simp; omega, h2, by simp, fun _ => hw⟩
          · cases h
theorem eNat_inv (a : Bool × List Nat) (r : List Nat) (h0 : a.2.length ≤ 64) (h1 : ∀ n ∈ a.2, n < 4294967296) (h2 : a.1 = true → a.2 = []) (h3 : a.1 = false → whole a.2 = true) : dNat (eNat a ++ r) = some (a, r) := by
  obtain ⟨b, l⟩ := a
  cases b with
  | true =>
    obtain rfl : l = [] := h2 rfl
    simp [eNat, dNat]
  | false =>
    simp only [eNat, Bool.false_eq_true, if_false, List.cons_append, dNat]
    simp only at h0
    rw [if_neg (by omega), if_neg (by omega), eWords_inv l r h1]
    simp [h3 rfl]
theorem dNat_app {bs r : List Nat} {a : Bool × List Nat} (t : List Nat) (h : dNat bs = some (a, r)) : dNat (bs ++ t) = some (a, r ++ t) := by
  match bs, h with
  | [], h => simp [dNat] at h
  | k :: u, h =>
    rw [dNat] at h
    rw [List.cons_append, dNat]
    split at h
    · rename_i hk
      obtain ⟨rfl, rfl⟩ := by simpa using h
      rw [if_pos hk]
    · rename_i hk
      rw [if_neg hk]
      split at h
      · cases h
      · rename_i h6
        rw [if_neg h6]
        split at h
        · cases h
        · rename_i l v hl
          split at h
          · rename_i hw
            obtain ⟨rfl, rfl⟩ := by simpa using h
            simp only [dWords_app _ _ _ _ t hl, hw, if_true]
          · cases h
end Go.Proofs.Ytnamcghcgcknpaa
