/-
  Values and certs as bytes (chapter 24), in plain words. What a semiring lets in of doubles is left open here (fd); so are the bits of a double (fb), and the double of bits (fo).
-/
import Derived.Test.YtnamcghcgcknpaaCertP
namespace Go.Proofs.Ytnamcghcgcknpaa
open Go.RowKit

/-- A value: its semiring, whether it is without an end, its digits, its level, its double's bits. -/
structure Val where
  sem : Int
  inf : Bool
  w : List Nat
  level : Int
  x : Nat
/-- A double's bits, one for all that are none. -/
def fb (x : Nat) : Nat := if (FloatKind.f64.format.order x x != some Ordering.eq) = true then 9221120237041090560 else x
/-- The double of bits. -/
def fo (b : Nat) : Nat := if 9218868437227405312 < b % 9223372036854775808 then 9221120237041090560 else b
def leq (x y : Nat) : Bool := FloatKind.f64.format.order x y == some .lt || FloatKind.f64.format.order x y == some .eq
def geq (x y : Nat) : Bool := FloatKind.f64.format.order x y == some .gt || FloatKind.f64.format.order x y == some .eq
/-- Within 0 and the semiring's greatest double, and no -0. -/
def fd (sem : Int) (x : Nat) : Bool :=
  if (geq x 0 && leq x (if sem = 5 then 4607182418800017408 else 9218868437227405312)) = true then fb x == fb (x % 9223372036854775808) else false
def mayNat (inf : Bool) (w : List Nat) : Bool := if inf then w.length == 0 else whole w
def mayV (v : Val) : Int :=
  if 1 ≤ v.sem ∧ v.sem ≤ 6 then
    if v.sem = 1 ∨ v.sem = 3 then (if mayNat v.inf v.w then 0 else 16)
    else if v.sem = 2 ∨ v.sem = 4 then (if 0 ≤ v.level ∧ v.level ≤ (if v.sem = 2 then 1 else 7) then 0 else 16)
    else if fd v.sem v.x then 0 else 16
  else 9
/-- Eight bytes, the greatest first. -/
def eOct (b : Nat) : List Nat := [b / 72057594037927936 % 256, b / 281474976710656 % 256, b / 1099511627776 % 256, b / 4294967296 % 256, b / 16777216 % 256, b / 65536 % 256, b / 256 % 256, b % 256]
def dOct (a : Nat) : Nat → List Nat → Option (Nat × List Nat)
  | 0, bs => some (a, bs)
  | _ + 1, [] => none
  | k + 1, c :: r => dOct (a * 256 + c) k r
/-- A value's bytes behind its semiring, or why there are none. -/
def eVal (v : Val) : List Nat :=
  v.sem.toNat :: if v.sem = 1 ∨ v.sem = 3 then eNat (v.inf, v.w) else if v.sem = 2 ∨ v.sem = 4 then [v.level.toNat] else eOct (fb v.x)
def codeV (v : Val) : Int := if mayV v = 0 then (if (v.sem = 1 ∨ v.sem = 3) ∧ v.inf = false ∧ 64 < v.w.length then 5 else 0) else mayV v
def dLev : List Nat → Option (Nat × List Nat)
  | [] => none
  | l :: t => some (l, t)
def dVal0 : List Nat → Option (Val × List Nat)
  | [] => none
  | s :: r =>
    if s = 1 ∨ s = 3 then match dNat r with
      | none => none
      | some (a, t) => some (⟨s, a.1, a.2, 0, 0⟩, t)
    else if s = 2 ∨ s = 4 then match dLev r with
      | none => none
      | some (l, t) => some (⟨s, false, [], l, 0⟩, t)
    else match dOct 0 8 r with
      | none => none
      | some (b, t) => if fb (fo b) = b then some (⟨s, false, [], 0, fo b⟩, t) else none
def dVal (bs : List Nat) : Option (Val × List Nat) := match dVal0 bs with
  | none => none
  | some (v, t) => if mayV v = 0 then some (v, t) else none

theorem dOct_inv {bs r : List Nat} {b : Nat} (hb : ∀ b ∈ bs, b < 256) (h : dOct 0 8 bs = some (b, r)) : bs = eOct b ++ r ∧ b < 18446744073709551616 := by
  match bs, hb, h with
  | a0 :: a1 :: a2 :: a3 :: a4 :: a5 :: a6 :: a7 :: t, hb, h =>
    simp only [dOct, Option.some.injEq, Prod.mk.injEq] at h
    obtain ⟨h, rfl⟩ := h
    have h0 := hb a0 (by simp)
    have h1 := hb a1 (by simp)
    have h2 := hb a2 (by simp)
    have h3 := hb a3 (by simp)
    have h4 := hb a4 (by simp)
    have h5 := hb a5 (by simp)
    have h6 := hb a6 (by simp)
    have h7 := hb a7 (by simp)
    clear hb
    refine ⟨?_, by omega⟩
    simp only [eOct, List.cons_append, List.nil_append, List.cons.injEq]
    refine ⟨?_, ?_, ?_, ?_, ?_, ?_, ?_, ?_, trivial⟩ <;> omega
  | [], _, h => simp [dOct] at h
  | [_], _, h => simp [dOct] at h
  | [_, _], _, h => simp [dOct] at h
  | [_, _, _], _, h => simp [dOct] at h
  | [_, _, _, _], _, h => simp [dOct] at h
  | [_, _, _, _, _], _, h => simp [dOct] at h
  | [_, _, _, _, _, _], _, h => simp [dOct] at h
  | [_, _, _, _, _, _, _], _, h => simp [dOct] at h
theorem eOct_inv (b : Nat) (r : List Nat) (h : b < 18446744073709551616) : dOct 0 8 (eOct b ++ r) = some (b, r) := by
  simp only [eOct, List.cons_append, List.nil_append, dOct, Option.some.injEq, Prod.mk.injEq, and_true]
  omega
theorem dOct_app (k : Nat) : ∀ (a : Nat) (bs : List Nat) (b : Nat) (r t : List Nat), dOct a k bs = some (b, r) → dOct a k (bs ++ t) = some (b, r ++ t) := by
  induction k with
  | zero => intro a bs b r t h; obtain ⟨rfl, rfl⟩ := (by simpa [dOct] using h); rfl
  | succ k ih =>
    intro a bs b r t h
    match bs, h with
    | [], h => simp [dOct] at h
    | c :: u, h =>
      rw [dOct] at h
      rw [List.cons_append, dOct]
      exact ih _ _ _ _ _ h
theorem fb_lt (x : Nat) (h : x < 18446744073709551616) : fb x < 18446744073709551616 := by
  unfold fb; split <;> omega
/-- What was read as a value, written, is itself. -/
theorem dVal_inv {bs r : List Nat} {v : Val} (hb : ∀ b ∈ bs, b < 256) (h : dVal bs = some (v, r)) :
    bs = eVal v ++ r ∧ codeV v = 0 ∧ (∀ n ∈ v.w, n < 4294967296) ∧ v.x < 18446744073709551616 ∧ v.w.length ≤ 64 ∧ 0 ≤ v.sem ∧ v.sem < 256 ∧ 0 ≤ v.level ∧ v.level < 256 := by
  unfold dVal at h
  split at h
  · cases h
  rename_i u t hu
  split at h
  case isFalse => cases h
  rename_i hm
  obtain ⟨rfl, rfl⟩ := by simpa using h
  match bs, hb, hu with
  | [], _, hu => simp [dVal0] at hu
  | s :: r0, hb, hu =>
    have hs := hb s (List.mem_cons_self ..)
    have hb' : ∀ b ∈ r0, b < 256 := fun b h => hb b (List.mem_cons_of_mem _ h)
    rw [dVal0] at hu
    split at hu
    · rename_i h13
      have h13' : (s : Int) = 1 ∨ (s : Int) = 3 := by omega
      split at hu
      · cases hu
      · rename_i a t' ha
        obtain ⟨rfl, rfl⟩ := by simpa using hu
        obtain ⟨rfl, h1, h2, h3, h4⟩ := dNat_inv hb' ha
        refine ⟨?_, ?_, h2, by simp, h1, by simp, by simp; omega, by simp, by simp⟩
        · simp only [eVal, if_pos h13', Int.toNat_natCast, List.cons_append]
        · simp only [codeV, hm, if_true]
          rw [if_neg (fun h => by have := h.2.2; omega)]
    · rename_i h13
      have h13' : ¬ ((s : Int) = 1 ∨ (s : Int) = 3) := by omega
      split at hu
      · rename_i h24
        have h24' : (s : Int) = 2 ∨ (s : Int) = 4 := by omega
        match r0, hb', hu with
        | [], _, hu => simp [dLev] at hu
        | l :: t', hb', hu =>
          have hl := hb' l (List.mem_cons_self ..)
          obtain ⟨rfl, rfl⟩ := by simpa [dLev] using hu
          refine ⟨?_, ?_, by simp, by simp, by simp, by simp, by simp; omega, by simp, by simp; omega⟩
          · simp only [eVal, if_neg h13', if_pos h24', Int.toNat_natCast, List.cons_append, List.nil_append]
          · simp only [codeV, hm, if_true]
            rw [if_neg (fun h => h13' h.1)]
      · rename_i h24
        have h24' : ¬ ((s : Int) = 2 ∨ (s : Int) = 4) := by omega
        split at hu
        · cases hu
        · rename_i b t' ho
          split at hu
          case isFalse => cases hu
          rename_i hfb
          obtain ⟨rfl, rfl⟩ := by simpa using hu
          obtain ⟨rfl, hlt⟩ := dOct_inv hb' ho
          refine ⟨?_, ?_, by simp, ?_, by simp, by simp, by simp; omega, by simp, by simp⟩
          · simp only [eVal, if_neg h13', if_neg h24', Int.toNat_natCast, List.cons_append, hfb]
          · simp only [codeV, hm, if_true]
            rw [if_neg (fun h => h13' h.1)]
          · simp only [fo]; split <;> omega
theorem dVal_app {bs r : List Nat} {v : Val} (t : List Nat) (h : dVal bs = some (v, r)) : dVal (bs ++ t) = some (v, r ++ t) := by
  unfold dVal at h ⊢
  split at h
  · cases h
  rename_i u r1 hu
  split at h
  case isFalse => cases h
  rename_i hm
  obtain ⟨rfl, rfl⟩ := by simpa using h
  have : dVal0 (bs ++ t) = some (u, r1 ++ t) := by
    match bs, hu with
    | [], hu => simp [dVal0] at hu
    | s :: r0, hu =>
      rw [dVal0] at hu
      rw [List.cons_append, dVal0]
      split at hu
      · rename_i h13
        rw [if_pos h13]
        split at hu
        · cases hu
        · rename_i a t' ha
          obtain ⟨rfl, rfl⟩ := by simpa using hu
          rw [dNat_app t ha]
      · rename_i h13
        rw [if_neg h13]
        split at hu
        · rename_i h24
          rw [if_pos h24]
          match r0, hu with
          | [], hu => simp [dLev] at hu
          | l :: t', hu =>
            obtain ⟨rfl, rfl⟩ := by simpa [dLev] using hu
            rfl
        · rename_i h24
          rw [if_neg h24]
          split at hu
          · cases hu
          · rename_i b t' ho
            split at hu
            case isFalse => cases hu
            rename_i hfb
            obtain ⟨rfl, rfl⟩ := by simpa using hu
            rw [dOct_app 8 0 r0 b _ t ho]
            simp only [hfb, if_true]
  rw [this]
  simp only [hm, if_true]

/-! ### Certs -/

structure Crt where
  conj : Int
  nodes : List Int
  walks : List (List (Int × Bool))
  claim : Val
def mayC (c : Crt) : Bool :=
  decide (0 ≤ c.conj ∧ c.conj ≤ 255 ∧ c.nodes.length ≤ 5 ∧ c.walks.length ≤ 6) && c.nodes.all (fun n => decide (1 ≤ n ∧ n ≤ 1000)) && c.walks.all (fun w => decide (w.length ≤ 2000) && w.all (fun s => decide (1 ≤ s.1 ∧ s.1 ≤ 1099511627776)))
def natStep (s : Int × Bool) : Nat × Bool := (s.1.toNat, s.2)
def intStep (s : Nat × Bool) : Int × Bool := ((s.1 : Int), s.2)
def eCrt (c : Crt) : List Nat :=
  67 :: c.conj.toNat :: c.nodes.length :: (eNums (c.nodes.map Int.toNat) ++ (c.walks.length :: (eWalks (c.walks.map fun w => w.map natStep) ++ eVal c.claim)))
def codeC (c : Crt) : Int := if mayC c then codeV c.claim else 16
def dCrt0 : List Nat → Option (Crt × List Nat)
  | m :: c :: n :: r => if m = 67 then match dNums n r with
    | none => none
    | some (_, []) => none
    | some (l, k :: t) => match dWalks k t with
      | none => none
      | some (ws, u) => match dVal u with
        | none => none
        | some (v, z) => some (⟨c, l.map Int.ofNat, ws.map (fun w => w.map intStep), v⟩, z)
    else none
  | _ => none
def dCrt (bs : List Nat) : Option Crt := match dCrt0 bs with
  | some (c, []) => if mayC c then some c else none
  | _ => none
theorem natInt (l : List Nat) : (l.map Int.ofNat).map Int.toNat = l := by simp [Function.comp_def]
theorem natIntStep (l : List (List (Nat × Bool))) : (l.map fun w => w.map intStep).map (fun w => w.map natStep) = l := by
  simp [Function.comp_def, intStep, natStep]
/-- What was read, written, is itself. -/
theorem dCrt0_inv {bs r : List Nat} {c : Crt} (hb : ∀ b ∈ bs, b < 256) (h : dCrt0 bs = some (c, r)) : bs = eCrt c ++ r ∧ codeV c.claim = 0 := by
  match bs, hb, h with
  | m :: k :: n :: t, hb, h =>
    rw [dCrt0] at h
    have hb1 : ∀ b ∈ t, b < 256 := fun b h => hb b (by simp [h])
    split at h
    case isFalse => cases h
    rename_i hm
    split at h
    · cases h
    · cases h
    · rename_i l k2 t2 hl
      split at h
      · cases h
      · rename_i ws u hw
        split at h
        · cases h
        · rename_i v z hv
          obtain ⟨rfl, rfl⟩ := by simpa using h
          obtain ⟨rfl, rfl, h3⟩ := dNums_inv n t _ _ hb1 hl
          have hb2 : ∀ b ∈ t2, b < 256 := fun b h => hb1 b (by simp [h])
          obtain ⟨rfl, rfl, h4⟩ := dWalks_inv k2 t2 _ _ hb2 hw
          obtain ⟨rfl, h5, _⟩ := dVal_inv (fun b h => hb2 b (by simp [h])) hv
          refine ⟨?_, h5⟩
          rw [eCrt]
          simp only [natInt, natIntStep, hm, Int.toNat_natCast, List.length_map, List.cons_append, List.append_assoc]
  | [], _, h => simp [dCrt0] at h
  | [_], _, h => simp [dCrt0] at h
  | [_, _], _, h => simp [dCrt0] at h
theorem dCrt_inv {bs : List Nat} {c : Crt} (hb : ∀ b ∈ bs, b < 256) (h : dCrt bs = some c) : bs = eCrt c ∧ codeC c = 0 := by
  unfold dCrt at h
  split at h
  · rename_i d hd
    split at h
    · rename_i hm
      obtain rfl := by simpa using h
      obtain ⟨h1, h2⟩ := dCrt0_inv hb hd
      exact ⟨by simpa using h1, by rw [codeC, if_pos hm, h2]⟩
    · cases h
  · cases h
theorem dCrt0_app {bs r : List Nat} {c : Crt} (t : List Nat) (h : dCrt0 bs = some (c, r)) : dCrt0 (bs ++ t) = some (c, r ++ t) := by
  match bs, h with
  | m :: k :: n :: t0, h =>
    rw [dCrt0] at h
    simp only [List.cons_append]
    rw [dCrt0]
    split at h
    case isFalse => cases h
    rename_i hm
    split at h
    · cases h
    · cases h
    · rename_i l k2 t2 hl
      split at h
      · cases h
      · rename_i ws u hw
        split at h
        · cases h
        · rename_i v z hv
          obtain ⟨rfl, rfl⟩ := by simpa using h
          rw [dNums_app _ _ _ _ t hl]
          simp only [List.cons_append, dWalks_app _ _ _ t _ hw, dVal_app t hv, if_pos hm]
  | [], h => simp [dCrt0] at h
  | [_], h => simp [dCrt0] at h
  | [_, _], h => simp [dCrt0] at h
end Go.Proofs.Ytnamcghcgcknpaa
