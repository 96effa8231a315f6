/-
  Values (chapters 1 to 4) in plain words; doubles: bits, within, and what a semiring lets in. Numbers without an end and values (chapters 3, 4): what may be. Values (chapter 4): what may be. Numbers without an end (chapter 3): none, and infinity. Numbers without an end (chapter 3): sums of none and infinity.
-/
import Derived.Test.YtkhllknahjmciaaGreatM16
import Derived.Laws.BitsAllLaws
import Derived.Handy
import Derived.Deep.DeepCutAuto
/-! Values (chapters 1 to 4) in plain words; doubles: bits, within, and what a semiring lets in. -/
namespace Go.Proofs.YtkhllknahjmciaaGreat
open Go.RowKit
set_option linter.unusedVariables false
set_option linter.unusedSimpArgs false

/-- Digits without noughts at the end. -/
def whole (l : List Nat) : Bool := match l.getLast? with
  | some d => d != 0
  | none => true
/-- A value: its semiring, whether it is without an end, its digits, its level, its double's bits. -/
structure Val where
  sem : Int
  inf : Bool
  w : List Nat
  level : Int
  x : Nat
/-- A double's bits, one for all that are none. -/
def fb (x : Nat) : Nat := if (FloatKind.f64.format.order x x != some Ordering.eq) = true then 9221120237041090560 else x
/-- The double of bits. -/
def fo (b : Nat) : Nat := if 9218868437227405312 < b % 9223372036854775808 then 9221120237041090560 else b
def leq (x y : Nat) : Bool := FloatKind.f64.format.order x y == some .lt || FloatKind.f64.format.order x y == some .eq
def geq (x y : Nat) : Bool := FloatKind.f64.format.order x y == some .gt || FloatKind.f64.format.order x y == some .eq
/-- Within 0 and the semiring's greatest double, and no -0. -/
def fd (sem : Int) (x : Nat) : Bool :=
  if (geq x 0 && leq x (if sem = 5 then 4607182418800017408 else 9218868437227405312)) = true then fb x == fb (x % 9223372036854775808) else false
def mayNat (inf : Bool) (w : List Nat) : Bool := if inf then w.length == 0 else whole w
def mayV (v : Val) : Int :=
  if 1 ≤ v.sem ∧ v.sem ≤ 6 then
    if v.sem = 1 ∨ v.sem = 3 then (if mayNat v.inf v.w then 0 else 16)
    else if v.sem = 2 ∨ v.sem = 4 then (if 0 ≤ v.level ∧ v.level ≤ (if v.sem = 2 then 1 else 7) then 0 else 16)
    else if fd v.sem v.x then 0 else 16
  else 9
theorem clr63 (b : Nat) (h : b < 18446744073709551616) : bits .andNot .u64 (b : Int) 9223372036854775808 = ((b % 9223372036854775808 : Nat) : Int) := by
  have := u64_andNot_nat b 9223372036854775808 h (by omega)
  rw [show ((9223372036854775808 : Nat) : Int) = 9223372036854775808 from rfl] at this
  rw [this, show 18446744073709551615 - 9223372036854775808 = 2 ^ 63 - 1 from rfl, Nat.and_two_pow_sub_one_eq_mod]
theorem run_to (x : Nat) (w : World) : (callFunc 154 #[.float .f64 x]).run Tryz.prog w = .ok (.value (.int .u64 x)) w := by
  kernel_rfl
theorem run_from (b : Nat) (w : World) : (callFunc 153 #[.int .u64 b]).run Tryz.prog w = .ok (.value (.float .f64 b)) w := by
  kernel_rfl
theorem bits_any (x : Nat) (w : World) : Calls Tryz.prog 266 #[.float .f64 x] w fun e w' => e = .returned (.int .u64 (fb x)) ∧ w' = w := by
  have hr := run_to
  cases hb : (FloatKind.f64.format.order x x != some Ordering.eq) with
  | true =>
    have hf : fb x = 9221120237041090560 := by rw [fb, if_pos hb]
    rw [hf]
    clear hf
    go_enter Tryz.func266, Tryz.ntmps266
    go_wp2_with fail
    go_ret
    exact ⟨rfl, rfl⟩
  | false =>
    have hf : fb x = x := by rw [fb, if_neg (by rw [hb]; simp)]
    rw [hf]
    clear hf
    go_enter Tryz.func266, Tryz.ntmps266
    go_wp2_with fail
    go_ret
    exact ⟨rfl, rfl⟩
theorem fsame_any (x y : Nat) (w : World) : Calls Tryz.prog 250 #[.float .f64 x, .float .f64 y] w fun e w' => e = .returned (.bool (fb x == fb y)) ∧ w' = w := by
  have h1 := bits_any x w
  have h2 := bits_any y w
  have heq : (((fb x : Nat) : Int) == ((fb y : Nat) : Int)) = (fb x == fb y) := by
    rw [Bool.eq_iff_iff, beq_iff_eq, beq_iff_eq]; exact Int.ofNat_inj
  rw [← heq]
  clear heq
  generalize fb x = p at h1 ⊢
  generalize fb y = q at h2 ⊢
  have H1 := Lib.hid h1
  have H2 := Lib.hid h2
  clear h1 h2
  go_enter Tryz.func250, Tryz.ntmps250
  go_wp2_with fail
  refine H1.out.mono ?_
  rintro e w' ⟨rfl, h9⟩
  subst w'
  go_wp2_with fail
  refine H2.out.mono ?_
  rintro e w' ⟨rfl, h9⟩
  subst w'
  go_wp2_with fail
  go_ret
  exact ⟨rfl, rfl⟩
set_option maxRecDepth 100000 in
theorem abs_any (x : Nat) (hx : x < 18446744073709551616) (w : World) : Calls Tryz.prog 258 #[.float .f64 x] w fun e w' => e = .returned (.float .f64 (x % 9223372036854775808)) ∧ w' = w := by
  have hc := clr63 x hx
  have hr := run_to x
  obtain ⟨y, hy⟩ : ∃ y, x % 9223372036854775808 = y := ⟨_, rfl⟩
  rw [hy] at hc ⊢
  have hr2 := run_from y
  have HY := Lib.hid hy
  clear hy
  go_enter Tryz.func258, Tryz.ntmps258
  go_wp2_with fail
  go_ret
  exact ⟨rfl, rfl⟩
set_option maxRecDepth 100000 in
theorem inf_any (w : World) : Calls Tryz.prog 134 #[.int .i64 1] w fun e w' => e = .returned (.float .f64 9218868437227405312) ∧ w' = w := by
  have hr2 := run_from 9218868437227405312
  rw [show ((9218868437227405312 : Nat) : Int) = 9218868437227405312 from rfl] at hr2
  go_enter Tryz.func134, Tryz.ntmps134
  go_wp2_with fail
  go_ret
  exact ⟨rfl, rfl⟩
/-- Within 0 and so much. -/
def inb (x m : Nat) : Bool := geq x 0 && leq x m
theorem within_any (x m : Nat) (hx : x < 18446744073709551616) (w : World) : Calls Tryz.prog 263 #[.float .f64 x, .float .f64 m] w fun e w' =>
    e = .returned (.tuple #[.float .f64 (if inb x m then x % 9223372036854775808 else 0), .int .i64 (if inb x m then 0 else 16)]) ∧ w' = w := by
  have h1 := abs_any x hx w
  generalize x % 9223372036854775808 = y at h1 ⊢
  have H1 := Lib.hid h1
  clear h1 hx
  have hI : inb x m = (geq x 0 && leq x m) := rfl
  unfold geq leq at hI
  cases hb : inb x m with
  | true =>
    rw [hb] at hI
    obtain ⟨ha, hb'⟩ : ((FloatKind.f64.format.order x 0 == some .gt || FloatKind.f64.format.order x 0 == some .eq)) = true ∧ (FloatKind.f64.format.order x m == some .lt || FloatKind.f64.format.order x m == some .eq) = true := by
      rwa [eq_comm, Bool.and_eq_true] at hI
    clear hI
    go_enter Tryz.func263, Tryz.ntmps263
    go_wp2_with fail
    refine H1.out.mono ?_
    rintro e w' ⟨rfl, rfl⟩
    go_wp2_with fail
    go_ret2
    exact ⟨rfl, rfl⟩
  | false =>
    rw [hb] at hI
    cases ha : (FloatKind.f64.format.order x 0 == some .gt || FloatKind.f64.format.order x 0 == some .eq) with
    | false =>
      clear hI
      go_enter Tryz.func263, Tryz.ntmps263
      go_wp2_with fail
      go_ret2
      exact ⟨rfl, rfl⟩
    | true =>
      rw [ha, Bool.true_and] at hI
      have hI' := hI.symm
      clear hI
      go_enter Tryz.func263, Tryz.ntmps263
      go_wp2_with fail
      go_ret2
      exact ⟨rfl, rfl⟩
theorem price_any (x : Nat) (hx : x < 18446744073709551616) (w : World) : Calls Tryz.prog 246 #[.float .f64 x] w fun e w' =>
    e = .returned (.tuple #[.float .f64 (if inb x 9218868437227405312 then x % 9223372036854775808 else 0), .int .i64 (if inb x 9218868437227405312 then 0 else 16)]) ∧ w' = w := by
  have h1 := within_any x 9218868437227405312 hx w
  generalize (if inb x 9218868437227405312 = true then x % 9223372036854775808 else 0) = y at h1 ⊢
  generalize (if inb x 9218868437227405312 = true then (0 : Int) else 16) = z at h1 ⊢
  have H1 := Lib.hid h1
  have H2 := Lib.hid (inf_any w)
  clear h1 hx
  go_enter Tryz.func246, Tryz.ntmps246
  go_wp2_with (first | (refine H1.out.mono ?_; rintro e w' ⟨rfl, rfl⟩) | (refine H2.out.mono ?_; rintro e w' ⟨rfl, rfl⟩))
  go_ret2
  exact ⟨rfl, rfl⟩
theorem unit_any (x : Nat) (hx : x < 18446744073709551616) (w : World) : Calls Tryz.prog 245 #[.float .f64 x] w fun e w' =>
    e = .returned (.tuple #[.float .f64 (if inb x 4607182418800017408 then x % 9223372036854775808 else 0), .int .i64 (if inb x 4607182418800017408 then 0 else 16)]) ∧ w' = w := by
  have h1 := within_any x 4607182418800017408 hx w
  generalize (if inb x 4607182418800017408 = true then x % 9223372036854775808 else 0) = y at h1 ⊢
  generalize (if inb x 4607182418800017408 = true then (0 : Int) else 16) = z at h1 ⊢
  have H1 := Lib.hid h1
  clear h1 hx
  go_enter Tryz.func245, Tryz.ntmps245
  go_wp2_with (refine H1.out.mono ?_; rintro e w' ⟨rfl, rfl⟩)
  go_ret2
  exact ⟨rfl, rfl⟩
theorem fd_five (x : Nat) : fd 5 x = if inb x 4607182418800017408 then fb x == fb (x % 9223372036854775808) else false := rfl
theorem fd_other (s : Int) (h : ¬ s = 5) (x : Nat) : fd s x = if inb x 9218868437227405312 then fb x == fb (x % 9223372036854775808) else false := by
  unfold fd; rw [if_neg h]; rfl
theorem double_any (s : Int) (x : Nat) (hx : x < 18446744073709551616) (w : World) : Calls Tryz.prog 210 #[.int .i64 s, .float .f64 x] w fun e w' => e = .returned (.int .i64 (if fd s x then 0 else 16)) ∧ w' = w := by
  have hp := price_any x hx w
  have hu := unit_any x hx w
  obtain ⟨m, hm⟩ : ∃ m, x % 9223372036854775808 = m := ⟨_, rfl⟩
  have hs := fsame_any x m w
  by_cases h5 : s = 5
  · subst h5
    rw [fd_five, hm]
    rw [hm] at hp hu
    clear hm hx
    cases hI : inb x 4607182418800017408 with
    | true =>
      rw [hI] at hu
      simp only [if_true] at hu ⊢
      generalize (if inb x 9218868437227405312 = true then m else 0) = y at hp
      generalize (if inb x 9218868437227405312 = true then (0 : Int) else 16) = z at hp
      cases hB : (fb x == fb m) with
      | true =>
        rw [hB] at hs
        simp only [if_true]
        have HP := Lib.hid hp
        have HU := Lib.hid hu
        have HS := Lib.hid hs
        clear hp hu hs hB hI
        go_enter Tryz.func210, Tryz.ntmps210
        go_wp2_with (first | (refine HP.out.mono ?_; rintro e w' ⟨rfl, rfl⟩) | (refine HU.out.mono ?_; rintro e w' ⟨rfl, rfl⟩) | (refine HS.out.mono ?_; rintro e w' ⟨rfl, rfl⟩))
        go_ret
        exact ⟨rfl, rfl⟩
      | false =>
        rw [hB] at hs
        simp only [Bool.false_eq_true, if_false]
        have HP := Lib.hid hp
        have HU := Lib.hid hu
        have HS := Lib.hid hs
        clear hp hu hs hB hI
        go_enter Tryz.func210, Tryz.ntmps210
        go_wp2_with (first | (refine HP.out.mono ?_; rintro e w' ⟨rfl, rfl⟩) | (refine HU.out.mono ?_; rintro e w' ⟨rfl, rfl⟩) | (refine HS.out.mono ?_; rintro e w' ⟨rfl, rfl⟩))
        go_ret
        exact ⟨rfl, rfl⟩
    | false =>
      rw [hI] at hu
      simp only [Bool.false_eq_true, if_false] at hu ⊢
      generalize (if inb x 9218868437227405312 = true then m else 0) = y at hp
      generalize (if inb x 9218868437227405312 = true then (0 : Int) else 16) = z at hp
      have HP := Lib.hid hp
      have HU := Lib.hid hu
      clear hp hu hs hI
      go_enter Tryz.func210, Tryz.ntmps210
      go_wp2_with (first | (refine HP.out.mono ?_; rintro e w' ⟨rfl, rfl⟩) | (refine HU.out.mono ?_; rintro e w' ⟨rfl, rfl⟩))
      go_ret
      exact ⟨rfl, rfl⟩
  · rw [fd_other s h5, hm]
    rw [hm] at hp
    clear hm hx hu
    cases hI : inb x 9218868437227405312 with
    | true =>
      rw [hI] at hp
      simp only [if_true] at hp ⊢
      cases hB : (fb x == fb m) with
      | true =>
        rw [hB] at hs
        simp only [if_true]
        have HP := Lib.hid hp
        have HS := Lib.hid hs
        clear hp hs hB hI
        go_enter Tryz.func210, Tryz.ntmps210
        go_wp2_with (first | (refine HP.out.mono ?_; rintro e w' ⟨rfl, rfl⟩) | (refine HS.out.mono ?_; rintro e w' ⟨rfl, rfl⟩))
        go_ret
        exact ⟨rfl, rfl⟩
      | false =>
        rw [hB] at hs
        simp only [Bool.false_eq_true, if_false]
        have HP := Lib.hid hp
        have HS := Lib.hid hs
        clear hp hs hB hI
        go_enter Tryz.func210, Tryz.ntmps210
        go_wp2_with (first | (refine HP.out.mono ?_; rintro e w' ⟨rfl, rfl⟩) | (refine HS.out.mono ?_; rintro e w' ⟨rfl, rfl⟩))
        go_ret
        exact ⟨rfl, rfl⟩
    | false =>
      rw [hI] at hp
      simp only [Bool.false_eq_true, if_false] at hp ⊢
      have HP := Lib.hid hp
      clear hp hs hI
      go_enter Tryz.func210, Tryz.ntmps210
      go_wp2_with (refine HP.out.mono ?_; rintro e w' ⟨rfl, rfl⟩)
      go_ret
      exact ⟨rfl, rfl⟩
end Go.Proofs.YtkhllknahjmciaaGreat

/-! Numbers without an end and values (chapters 3, 4): what may be. -/
namespace Go.Proofs.YtkhllknahjmciaaGreat
open Go.RowKit
set_option linter.unusedVariables false
set_option linter.unusedSimpArgs false

def wordCells (l : List Nat) : List Value := l.map fun (d : Nat) => Value.int .u32 (d : Int)
/-- How many digits stay, of the first m. -/
def wl (l : List Nat) : Nat → Nat
  | 0 => 0
  | m + 1 => if l.getD m 0 = 0 then wl l m else m + 1
theorem wl_le (l : List Nat) : ∀ m, wl l m ≤ m := by
  intro m
  induction m with
  | zero => simp [wl]
  | succ m ih => rw [wl]; split <;> omega
theorem whole_wl (l : List Nat) : whole l = (wl l l.length == l.length) := by
  unfold whole
  rcases List.eq_nil_or_concat l with rfl | ⟨l', d, rfl⟩
  · rfl
  · have hl : (l' ++ [d]).length = l'.length + 1 := by simp
    rw [List.concat_eq_append, hl, wl]
    have := wl_le (l' ++ [d]) l'.length
    simp only [List.getLast?_append, List.getLast?_singleton]
    by_cases h : d = 0
    · subst h
      simp
      omega
    · simp [h]
theorem word_cell {w : World} {a : Option Addr} {n cap : Nat} {l : List Nat} (h : Cells w a n cap (wordCells l)) {m : Nat} (hm : m < l.length) : ∃ x, a = some x ∧ w.cell? (x.add m) = some (.int .u32 ((l.getD m 0 : Nat) : Int)) := by
  have : (wordCells l)[m]? = some (.int .u32 ((l.getD m 0 : Nat) : Int)) := by
    simp [wordCells, hm]
  exact h.2.2 m _ this
theorem whole_any {w : World} {a : Option Addr} {cap : Nat} {l : List Nat} (h : Cells w a l.length cap (wordCells l)) :
    Calls Tryz.prog 243 #[.slice a l.length cap] w fun e w' => e = .returned (.slice a (wl l l.length) cap) ∧ w' = w := by
  have hcap := h.1
  have hmax := h.2.1
  unfold maxLen at hmax
  have H := Lib.hid h
  clear h
  obtain ⟨n, hn⟩ : ∃ n, l.length = n := ⟨_, rfl⟩
  obtain ⟨z, hz⟩ : ∃ z, wl l n = z := ⟨_, rfl⟩
  rw [hn] at hcap H ⊢
  rw [hz]
  have HZ := Lib.hid (And.intro hn hz)
  clear hn hz
  go_enter Tryz.func243, Tryz.ntmps243
  go_wp2_with fail
  go_loopg [0] n (fun g l0 wr => ∃ m, wr = w ∧ m ≤ n ∧ l0 = .slice a m cap ∧ wl l m = z ∧ g = m)
  case atStart => exact ⟨n, rfl, Nat.le_refl _, rfl, HZ.out.2, rfl⟩
  case round =>
    obtain ⟨m, rfl, hm, rfl, hzm, hg⟩ := hrel
    have HM := Lib.hid hzm
    clear hzm
    cases m with
    | zero =>
      have hz0 : Hid (z = 0) := Lib.hid (by have := HM.out; simpa [wl] using this.symm)
      go_wp2_with fail
      go_ret
      rw [hz0.out]
      exact ⟨rfl, rfl⟩
    | succ m =>
      obtain ⟨x, rfl, hx⟩ := word_cell H.out (m := m) (by rw [HZ.out.1]; omega)
      obtain ⟨d, hd⟩ : ∃ d, l.getD m 0 = d := ⟨_, rfl⟩
      rw [hd] at hx
      have hmz := HM.out
      rw [wl, hd] at hmz
      by_cases h0 : d = 0
      · subst h0
        have HMZ : Hid (wl l m = z) := Lib.hid (by simpa using hmz)
        clear hmz hd
        go_wp2_with fail
        go_roundg m
        case measure => omega
        case rel => exact ⟨m, rfl, by omega, rfl, HMZ.out, rfl⟩
      · have HMZ : Hid (m + 1 = z) := Lib.hid (by simpa [h0] using hmz)
        have h0' : ¬ (d : Int) = 0 := by omega
        clear hmz hd
        go_wp2_with fail
        go_ret
        rw [← HMZ.out]
        exact ⟨rfl, rfl⟩
theorem natMay_any {w : World} {a : Option Addr} {cap : Nat} {l : List Nat} (inf : Bool) (h : Cells w a l.length cap (wordCells l)) :
    Calls Tryz.prog 207 #[.agg #[.bool inf, .slice a l.length cap]] w fun e w' => e = .returned (.bool (mayNat inf l)) ∧ Ext w w' := by
  have hcap := h.1
  have hmax := h.2.1
  unfold maxLen at hmax
  have H := Lib.hid h
  have hb : Ext w (w.alloc (Obj.cells #[.bool inf, .slice a l.length cap] 35)) := (Chg.refl w).alloc _
  have HB := Lib.hid (fun n => whole_any (h.chg (S := fun _ => False) (hb.drewN n) (fun _ _ h => h)))
  have HX := Lib.hid hb
  clear h hb
  cases inf with
  | true =>
    rw [mayNat]
    obtain ⟨n, hn⟩ : ∃ n, l.length = n := ⟨_, rfl⟩
    rw [hn] at hcap HX ⊢
    clear hn H HB
    simp only [if_true]
    have heq : (n == 0) = ((n : Int) == 0) := by rw [Bool.eq_iff_iff, beq_iff_eq, beq_iff_eq]; omega
    rw [heq]
    clear heq
    go_enter Tryz.func207, Tryz.ntmps207
    go_wp2_with fail
    go_ret
    exact ⟨rfl, HX.out⟩
  | false =>
    rw [mayNat, whole_wl]
    have hle := wl_le l l.length
    generalize wl l l.length = z at HB hle ⊢
    obtain ⟨n, hn⟩ : ∃ n, l.length = n := ⟨_, rfl⟩
    rw [hn] at hcap HX HB hle ⊢
    clear hn H
    simp only [Bool.false_eq_true, if_false]
    have heq : (z == n) = ((z : Int) == (n : Int)) := by rw [Bool.eq_iff_iff, beq_iff_eq, beq_iff_eq]; omega
    rw [heq]
    clear heq
    go_enter Tryz.func207, Tryz.ntmps207
    go_wp2_with fail
    go_quiet ((go_at_call 243; exact Calls.quiet_of_same ((HB.out _).mono fun e w' ⟨h1, h2⟩ => ⟨h1, h2⟩)))
    go_wp2_with fail
    go_ret
    exact ⟨rfl, HX.out.drewN _⟩
theorem known_any (s : Int) (w : World) (b : Bool) (hb : decide (1 ≤ s ∧ s ≤ 6) = b) : Calls Tryz.prog 82 #[.int .i64 s] w fun e w' => e = .returned (.bool b) ∧ w' = w := by
  by_cases h1 : 1 ≤ s
  · by_cases h2 : s ≤ 6
    · obtain rfl : b = true := by rw [← hb]; simp [h1, h2]
      clear hb
      go_enter Tryz.func82, Tryz.ntmps82
      go_wp2_with fail
      go_ret
      exact ⟨rfl, rfl⟩
    · obtain rfl : b = false := by rw [← hb]; simp [h2]
      clear hb
      go_enter Tryz.func82, Tryz.ntmps82
      go_wp2_with fail
      go_ret
      exact ⟨rfl, rfl⟩
  · obtain rfl : b = false := by rw [← hb]; simp [h1]
    clear hb
    go_enter Tryz.func82, Tryz.ntmps82
    go_wp2_with fail
    go_ret
    exact ⟨rfl, rfl⟩
theorem isNat_any (s : Int) (w : World) (b : Bool) (hb : decide (s = 1 ∨ s = 3) = b) : Calls Tryz.prog 206 #[.int .i64 s] w fun e w' => e = .returned (.bool b) ∧ w' = w := by
  by_cases h1 : s = 1
  · subst h1
    obtain rfl : b = true := by rw [← hb]; rfl
    clear hb
    go_enter Tryz.func206, Tryz.ntmps206
    go_wp2_with fail
    go_ret
    exact ⟨rfl, rfl⟩
  · by_cases h2 : s = 3
    · subst h2
      obtain rfl : b = true := by rw [← hb]; rfl
      clear hb
      go_enter Tryz.func206, Tryz.ntmps206
      go_wp2_with fail
      go_ret
      exact ⟨rfl, rfl⟩
    · obtain rfl : b = false := by rw [← hb]; simp [h1, h2]
      clear hb
      have e1 : (s == 1) = false := by simpa using h1
      have e2 : (s == 3) = false := by simpa using h2
      go_enter Tryz.func206, Tryz.ntmps206
      go_wp2_with fail
      go_ret
      exact ⟨rfl, rfl⟩
theorem isLevel_any (s : Int) (w : World) (b : Bool) (hb : decide (s = 2 ∨ s = 4) = b) : Calls Tryz.prog 208 #[.int .i64 s] w fun e w' => e = .returned (.bool b) ∧ w' = w := by
  by_cases h1 : s = 2
  · subst h1
    obtain rfl : b = true := by rw [← hb]; rfl
    clear hb
    go_enter Tryz.func208, Tryz.ntmps208
    go_wp2_with fail
    go_ret
    exact ⟨rfl, rfl⟩
  · by_cases h2 : s = 4
    · subst h2
      obtain rfl : b = true := by rw [← hb]; rfl
      clear hb
      go_enter Tryz.func208, Tryz.ntmps208
      go_wp2_with fail
      go_ret
      exact ⟨rfl, rfl⟩
    · obtain rfl : b = false := by rw [← hb]; simp [h1, h2]
      clear hb
      have e1 : (s == 2) = false := by simpa using h1
      have e2 : (s == 4) = false := by simpa using h2
      go_enter Tryz.func208, Tryz.ntmps208
      go_wp2_with fail
      go_ret
      exact ⟨rfl, rfl⟩
theorem top_any (s : Int) (w : World) : Calls Tryz.prog 209 #[.int .i64 s] w fun e w' => e = .returned (.int .i64 (if s = 2 then 1 else 7)) ∧ w' = w := by
  by_cases h1 : s = 2
  · subst h1
    rw [if_pos rfl]
    go_enter Tryz.func209, Tryz.ntmps209
    go_wp2_with fail
    go_ret
    exact ⟨rfl, rfl⟩
  · rw [if_neg h1]
    have e1 : (s == 2) = false := by simpa using h1
    go_enter Tryz.func209, Tryz.ntmps209
    go_wp2_with fail
    go_ret
    exact ⟨rfl, rfl⟩
/-- A value as it is handed on. -/
def valV (v : Val) (a : Option Addr) (cap : Nat) : Value := .agg #[.int .i64 v.sem, .bool v.inf, .slice a v.w.length cap, .int .i64 v.level, .float .f64 v.x]
def valCells (v : Val) (a : Option Addr) (cap : Nat) : List Value := [.int .i64 v.sem, .bool v.inf, .slice a v.w.length cap, .int .i64 v.level, .float .f64 v.x]
end Go.Proofs.YtkhllknahjmciaaGreat

/-! Values (chapter 4): what may be. -/
namespace Go.Proofs.YtkhllknahjmciaaGreat
open Go.RowKit
set_option linter.unusedVariables false

set_option maxHeartbeats 400000 in
theorem may_any {w : World} {v : Val} {a : Option Addr} {cap : Nat} (h : Cells w a v.w.length cap (wordCells v.w)) (hx : v.x < 18446744073709551616) :
    Calls Tryz.prog 148 #[valV v a cap] w fun e w' => e = .returned (.int .i64 (mayV v)) ∧ Ext w w' := by
  obtain ⟨s, inf, l, lev, x⟩ := v
  simp only at h hx
  have hb : Ext w (w.alloc (Obj.cells #[.int .i64 s, .bool inf, .slice a l.length cap, .int .i64 lev, .float .f64 x] 38)) := (Chg.refl w).alloc _
  have HX := Lib.hid hb
  have H := Lib.hid (natMay_any inf (h.chg (S := fun _ => False) hb (fun _ _ h => h)))
  unfold valV
  simp only
  have hm : mayV ⟨s, inf, l, lev, x⟩ = if 1 ≤ s ∧ s ≤ 6 then
    if s = 1 ∨ s = 3 then (if mayNat inf l then 0 else 16)
    else if s = 2 ∨ s = 4 then (if 0 ≤ lev ∧ lev ≤ (if s = 2 then 1 else 7) then 0 else 16)
    else if fd s x then 0 else 16 else 9 := rfl
  rw [hm]
  clear hm h hb
  generalize l.length = n at H HX ⊢
  generalize mayNat inf l = N at H ⊢
  have HK := Lib.hid (fun w b h => known_any s w b h)
  have HN := Lib.hid (fun w b h => isNat_any s w b h)
  have HL := Lib.hid (fun w b h => isLevel_any s w b h)
  by_cases hk : 1 ≤ s ∧ s ≤ 6
  · rw [if_pos hk]
    have HK' := Lib.hid (fun w => HK.out w true (by simpa using hk))
    by_cases hn : s = 1 ∨ s = 3
    · rw [if_pos hn]
      have HN' := Lib.hid (fun w => HN.out w true (by simpa using hn))
      clear HK HN HL hk hn hx
      cases N with
      | true =>
        simp only [if_true]
        go_enter Tryz.func148, Tryz.ntmps148
        go_wp2_with (first | (go_at_call 82; refine (HK'.out _).mono ?_; rintro e w' ⟨rfl, rfl⟩) | (go_at_call 206; refine (HN'.out _).mono ?_; rintro e w' ⟨rfl, rfl⟩) | (go_at_call 207; refine H.out.mono ?_; rintro e w' ⟨rfl, hx⟩))
        go_ret
        exact ⟨rfl, HX.out.trans hx⟩
      | false =>
        simp only [Bool.false_eq_true, if_false]
        go_enter Tryz.func148, Tryz.ntmps148
        go_wp2_with (first | (go_at_call 82; refine (HK'.out _).mono ?_; rintro e w' ⟨rfl, rfl⟩) | (go_at_call 206; refine (HN'.out _).mono ?_; rintro e w' ⟨rfl, rfl⟩) | (go_at_call 207; refine H.out.mono ?_; rintro e w' ⟨rfl, hx⟩))
        go_ret
        exact ⟨rfl, HX.out.trans hx⟩
    · rw [if_neg hn]
      have HN' := Lib.hid (fun w => HN.out w false (by simpa using hn))
      by_cases hl : s = 2 ∨ s = 4
      · rw [if_pos hl]
        have HL' := Lib.hid (fun w => HL.out w true (by simpa using hl))
        have HT := Lib.hid (fun w => top_any s w)
        clear HK HN HL hk hn hx H
        generalize (if s = 2 then (1 : Int) else 7) = t at HT ⊢
        by_cases h0 : 0 ≤ lev
        · by_cases h1 : lev ≤ t
          · rw [if_pos ⟨h0, h1⟩]
            have e1 : decide (lev ≤ t) = true := by simp [h1]
            go_enter Tryz.func148, Tryz.ntmps148
            go_wp2_with (first | (go_at_call 82; refine (HK'.out _).mono ?_; rintro e w' ⟨rfl, rfl⟩) | (go_at_call 206; refine (HN'.out _).mono ?_; rintro e w' ⟨rfl, rfl⟩) | (go_at_call 208; refine (HL'.out _).mono ?_; rintro e w' ⟨rfl, rfl⟩))
            go_quiet ((go_at_call 209; exact Calls.quiet_of_same ((HT.out _).mono fun e w' ⟨h1, h2⟩ => ⟨h1, h2⟩)))
            go_wp2_with fail
            go_ret
            exact ⟨rfl, HX.out.drewN _⟩
          · rw [if_neg (fun h => h1 h.2)]
            have e1 : decide (lev ≤ t) = false := by simp [h1]
            go_enter Tryz.func148, Tryz.ntmps148
            go_wp2_with (first | (go_at_call 82; refine (HK'.out _).mono ?_; rintro e w' ⟨rfl, rfl⟩) | (go_at_call 206; refine (HN'.out _).mono ?_; rintro e w' ⟨rfl, rfl⟩) | (go_at_call 208; refine (HL'.out _).mono ?_; rintro e w' ⟨rfl, rfl⟩))
            go_quiet ((go_at_call 209; exact Calls.quiet_of_same ((HT.out _).mono fun e w' ⟨h1, h2⟩ => ⟨h1, h2⟩)))
            go_wp2_with fail
            go_ret
            exact ⟨rfl, HX.out.drewN _⟩
        · rw [if_neg (fun h => h0 h.1)]
          have e0 : decide (0 ≤ lev) = false := by simp [h0]
          have e2 : lev < 0 := by omega
          go_enter Tryz.func148, Tryz.ntmps148
          go_wp2_with (first | (go_at_call 82; refine (HK'.out _).mono ?_; rintro e w' ⟨rfl, rfl⟩) | (go_at_call 206; refine (HN'.out _).mono ?_; rintro e w' ⟨rfl, rfl⟩) | (go_at_call 208; refine (HL'.out _).mono ?_; rintro e w' ⟨rfl, rfl⟩))
          go_quiet (fail)
          go_wp2_with fail
          go_ret
          exact ⟨rfl, HX.out.drewN _⟩
      · rw [if_neg hl]
        have HL' := Lib.hid (fun w => HL.out w false (by simpa using hl))
        have HD := Lib.hid (fun w => double_any s x hx w)
        clear HK HN HL hk hn hx H hl
        generalize (if fd s x = true then (0 : Int) else 16) = t at HD ⊢
        go_enter Tryz.func148, Tryz.ntmps148
        go_wp2_with (first | (go_at_call 82; refine (HK'.out _).mono ?_; rintro e w' ⟨rfl, rfl⟩) | (go_at_call 206; refine (HN'.out _).mono ?_; rintro e w' ⟨rfl, rfl⟩) | (go_at_call 208; refine (HL'.out _).mono ?_; rintro e w' ⟨rfl, rfl⟩) | (go_at_call 210; refine (HD.out _).mono ?_; rintro e w' ⟨rfl, rfl⟩))
        go_ret
        exact ⟨rfl, HX.out⟩
  · rw [if_neg hk]
    have HK' := Lib.hid (fun w => HK.out w false (by simpa using hk))
    clear HK HN HL hk hx H
    go_enter Tryz.func148, Tryz.ntmps148
    go_wp2_with (go_at_call 82; refine (HK'.out _).mono ?_; rintro e w' ⟨rfl, rfl⟩)
    go_ret
    exact ⟨rfl, HX.out⟩
end Go.Proofs.YtkhllknahjmciaaGreat

/-! Numbers without an end (chapter 3): none, and infinity. -/
namespace Go.Proofs.YtkhllknahjmciaaGreat
open Go.RowKit
set_option linter.unusedVariables false
set_option linter.unusedSimpArgs false

theorem info_u32 : (Tryz.prog.info? 118).map (fun i => (i.zero, i.size, i.bytes)) = some (some (.int .u32 0), 1, 4) := by kernel_rfl
set_option maxRecDepth 100000 in
set_option maxHeartbeats 1000000 in
theorem cloneU_any (xs : List Value) (w : World) (a : Option Addr) (m cap : Nat) (hl : xs.length = m * 1) (hc : Cells w a m cap xs) (h1 : ∀ u ∈ xs, u.oneCell' = true) (hb : m ≤ 1000) :
    Calls Tryz.prog 244 #[.slice a m cap] w fun e w' => ∃ v', e = .returned v' ∧ w'.ownsRow w.heap.size 118 1 v' m xs ∧ Ext w w' := by
  have q22 := fun (w : World) (a : Option Addr) (n c n' c' : Nat) => Lib.run_eql_slice_nil (P := Tryz.prog) w 33 _ a n c n' c' Tryz.underlying33
  cases a with
  | none =>
    have h0 : m = 0 := by
      rcases Nat.eq_zero_or_pos m with h | h
      · exact h
      · obtain ⟨u, hu⟩ : ∃ u, xs[0]? = some u := ⟨_, List.getElem?_eq_getElem (by omega)⟩
        obtain ⟨x, e, -⟩ := hc.at 0 u hu
        cases e
    subst h0
    obtain rfl := List.length_eq_zero_iff.1 (by simpa using hl)
    clear hc hl h1
    go_enter Tryz.func244, Tryz.ntmps244
    go_wp2_with fail
    go_ret
    exact ⟨_, rfl, World.ownsRow_nil _ _ _ _, Chg.refl _⟩
  | some x =>
    obtain ⟨i0, hi0, hii⟩ := Option.map_eq_some_iff.1 info_u32
    obtain ⟨hz0, hz1, hz2⟩ : i0.zero = some (.int .u32 0) ∧ i0.size = 1 ∧ i0.bytes = 4 := by
      have := hii; simp at this; exact this
    have HI := Lib.hid (And.intro hi0 (And.intro hz0 (And.intro hz1 hz2)))
    have HC := Lib.hid (And.intro hc (And.intro hl h1))
    clear hi0 hii hz0 hz1 hz2 hc hl h1
    go_enter Tryz.func244, Tryz.ntmps244
    go_wp2_with (at_builtin; refine wpList_append_st _ rfl (.tmp 5) (.tmp 6) 33 rfl w.heap.size 118 i0 (.int .u32 0) 1 4 Tryz.underlying33 HI.out.1 HI.out.2.1 HI.out.2.2.1 HI.out.2.2.2 rfl (by decide) _ 0 [] rfl (World.ownsRow_made w #[] 0 (Nat.le_refl _) (Nat.zero_le _) rfl) x m cap xs rfl HC.out.2.1 (fun j u hj => by obtain ⟨y, e, hy⟩ := (HC.out.1.ext ((Chg.refl w).alloc _)).at j u hj; cases e; exact hy) HC.out.2.2 (by unfold maxLen; omega) (by omega) (by simp) ?_; intro v' w' u1 u2 u3; have HF := Lib.hid (And.intro u1 (And.intro u2 u3)); clear u1 u2 u3)
    go_wp2_with fail
    go_ret
    obtain ⟨u1, u2, u3⟩ := HF.out
    refine ⟨v', rfl, by simpa using u1, ?_⟩
    exact Ext.put (p := w.heap.size) ((Chg.refl w).alloc _) ((Chg.of_grown u2).mono fun b hb e => by have e2 : some b = some w.heap.size := e; simpa using e2) (Nat.le_refl _)
theorem natInf_any (w : World) : Calls Tryz.prog 133 #[] w fun e w' => e = .returned (.agg #[.bool true, .slice none 0 0]) ∧ Ext w w' := by
  have hb := Blk.new w #[.bool true, .slice none 0 0] 35
  have y0 : (w.alloc (.cells #[.bool true, .slice none 0 0] 35)).cell? ⟨w.heap.size, 0, none⟩ = some (.bool true) := hb.cell 0 _ rfl
  have y1 : (w.alloc (.cells #[.bool true, .slice none 0 0] 35)).cell? ⟨w.heap.size, 1, none⟩ = some (.slice none 0 0) := hb.cell 1 _ rfl
  clear hb
  go_enter Tryz.func133, Tryz.ntmps133
  go_wp2_with fail
  refine bodyPost_ret (by simp [results, Tryz.results133, go_sem, y0, y1]; try rfl) rfl ?_
  exact ⟨rfl, (Chg.refl w).alloc _⟩
theorem whole0 (a : Option Addr) (cap : Nat) (hc : cap ≤ maxLen) (w : World) : Calls Tryz.prog 243 #[.slice a 0 cap] w fun e w' => e = .returned (.slice a 0 cap) ∧ w' = w :=
  whole_any (l := []) ⟨Nat.zero_le _, hc, fun j u hu => by simp [wordCells] at hu⟩
def cmpInf (i j : Bool) : Int := if i && j then 0 else if i then 1 else if j then -1 else 0
set_option maxRecDepth 100000 in
set_option maxHeartbeats 1000000 in
theorem natCmp0 (i j : Bool) (a b : Option Addr) (c d : Nat) (hc : c ≤ maxLen) (hd : d ≤ maxLen) (w : World) :
    Calls Tryz.prog 265 #[.agg #[.bool i, .slice a 0 c], .agg #[.bool j, .slice b 0 d]] w fun e w' => e = .returned (.int .i64 (cmpInf i j)) ∧ Ext w w' := by
  have hb := Blk.new w #[.bool i, .slice a 0 c] 35
  have hw1 : Ext w (w.alloc (.cells #[.bool i, .slice a 0 c] 35)) := (Chg.refl w).alloc _
  have hb2 := Blk.new (w.alloc (.cells #[.bool i, .slice a 0 c] 35)) #[.bool j, .slice b 0 d] 35
  have hw2 := hw1.alloc (.cells #[.bool j, .slice b 0 d] 35)
  rw [World.size_alloc] at hb2
  have H1 := Lib.hid (fun W => whole0 a c hc W)
  have H2 := Lib.hid (fun W => whole0 b d hd W)
  have HC : Hid (∀ W, Calls Tryz.prog 220 #[.int .i64 0, .int .i64 0] W fun e w' => e = .returned (.int .i64 0) ∧ w' = W) := Lib.hid (fun W => cmpI_any 0 0 W)
  have HB := Lib.hid hw2
  clear hb hb2 hw1 hw2 hc hd
  cases i with
  | true =>
    cases j with
    | true =>
      go_enter Tryz.func265, Tryz.ntmps265
      go_wp2_with fail
      go_ret
      exact ⟨rfl, HB.out⟩
    | false =>
      go_enter Tryz.func265, Tryz.ntmps265
      go_wp2_with fail
      go_ret
      exact ⟨rfl, HB.out⟩
  | false =>
    cases j with
    | true =>
      go_enter Tryz.func265, Tryz.ntmps265
      go_wp2_with fail
      go_ret
      exact ⟨rfl, HB.out⟩
    | false =>
      go_enter Tryz.func265, Tryz.ntmps265
      go_wp2_with fail
      go_quiet ((first | (go_at_call_of 243 (Value.slice a 0 c); exact Calls.quiet_of_same ((H1.out _).mono fun e w' ⟨h1, h2⟩ => ⟨h1, h2⟩)) | (go_at_call_of 243 (Value.slice b 0 d); exact Calls.quiet_of_same ((H2.out _).mono fun e w' ⟨h1, h2⟩ => ⟨h1, h2⟩))))
      go_wp2_with fail
      refine (HC.out _).mono ?_
      rintro e w9 ⟨rfl, h9⟩
      subst w9
      go_wp2_with fail
      go_loopg [7, 8] 1 (fun g l7 l8 wr => l7 = .int .i64 0 ∧ l8 = .int .i64 (-1) ∧ Ext w wr ∧ g = 1)
      case atStart => exact ⟨rfl, rfl, HB.out.drewN _, rfl⟩
      case round =>
        obtain ⟨rfl, rfl, hx, rfl⟩ := hrel
        have HX := Lib.hid hx
        clear hx
        go_wp2_with fail
        go_ret
        exact ⟨rfl, HX.out⟩
set_option maxRecDepth 100000 in
set_option maxHeartbeats 1000000 in
theorem natSame0 (i j : Bool) (a b : Option Addr) (c d : Nat) (hc : c ≤ maxLen) (hd : d ≤ maxLen) (w : World) :
    Calls Tryz.prog 275 #[.agg #[.bool i, .slice a 0 c], .agg #[.bool j, .slice b 0 d]] w fun e w' => e = .returned (.bool (i == j)) ∧ Ext w w' := by
  have hw2 : Ext w ((w.alloc (.cells #[.bool i, .slice a 0 c] 35)).alloc (.cells #[.bool j, .slice b 0 d] 35)) := ((Chg.refl w).alloc _).alloc _
  have HC := Lib.hid (fun W => natCmp0 i j a b c d hc hd W)
  have HB := Lib.hid hw2
  have e1 : (cmpInf i j == 0) = (i == j) := by cases i <;> cases j <;> rfl
  generalize cmpInf i j = z at HC e1
  clear hw2 hc hd
  go_enter Tryz.func275, Tryz.ntmps275
  go_wp2_with fail
  refine (HC.out _).mono ?_
  rintro e w2 ⟨rfl, hx⟩
  go_wp2_with fail
  go_ret
  exact ⟨rfl, HB.out.trans hx⟩
end Go.Proofs.YtkhllknahjmciaaGreat

/-! Numbers without an end (chapter 3): sums of none and infinity. -/
namespace Go.Proofs.YtkhllknahjmciaaGreat
open Go.RowKit
set_option linter.unusedVariables false
set_option linter.unusedSimpArgs false

def Nat0 (i : Bool) (v : Value) : Prop := ∃ a c, v = .agg #[.bool i, .slice a 0 c] ∧ c ≤ maxLen
def NatPost (i : Bool) (w : World) (e : Ending) (w' : World) : Prop := ∃ a c, e = .returned (.agg #[.bool i, .slice a 0 c]) ∧ c ≤ maxLen ∧ Ext w w'
theorem blk2_base {w : World} {p t : Nat} {a0 a1 : Value} (h : Blk w p #[a0, a1] t) : w.cell? ⟨p, 0, none⟩ = some a0 ∧ w.frozen? ⟨p, 0, none⟩ = false ∧ w.cell? ⟨p, 1, none⟩ = some a1 ∧ w.frozen? ⟨p, 1, none⟩ = false := ⟨h.cell 0 _ rfl, h.frozen 0, h.cell 1 _ rfl, h.frozen 1⟩
theorem blk2_facts {w : World} {p t : Nat} {a0 a1 : Value} (h : Blk w p #[a0, a1] t) (c0 c1 : Value) :
    ((w.setCell ⟨p, 0, none⟩ c0).setCell ⟨p, 1, none⟩ c1).cell? ⟨p, 0, none⟩ = some c0 ∧ ((w.setCell ⟨p, 0, none⟩ c0).setCell ⟨p, 1, none⟩ c1).cell? ⟨p, 1, none⟩ = some c1 := by
  have h3 := (h.set 0 c0).set 1 c1
  exact ⟨h3.cell 0 _ rfl, h3.cell 1 _ rfl⟩
set_option maxRecDepth 100000 in
set_option maxHeartbeats 1000000 in
theorem natAdd0 (i j : Bool) (a b : Option Addr) (c d : Nat) (hc : c ≤ maxLen) (hd : d ≤ maxLen) (w : World) :
    Calls Tryz.prog 199 #[.agg #[.bool i, .slice a 0 c], .agg #[.bool j, .slice b 0 d]] w (NatPost (i || j) w) := by
  have hw2 : Ext w ((w.alloc (.cells #[.bool i, .slice a 0 c] 35)).alloc (.cells #[.bool j, .slice b 0 d] 35)) := ((Chg.refl w).alloc _).alloc _
  have hb3 := Blk.new ((w.alloc (.cells #[.bool i, .slice a 0 c] 35)).alloc (.cells #[.bool j, .slice b 0 d] 35)) #[.bool false, .slice none 0 0] 35
  have hw3 := hw2.alloc (.cells #[.bool false, .slice none 0 0] 35)
  simp only [World.size_alloc] at hb3
  have HS3 : Hid (w.heap.size + 3 = (((w.alloc (.cells #[.bool i, .slice a 0 c] 35)).alloc (.cells #[.bool j, .slice b 0 d] 35)).alloc (.cells #[.bool false, .slice none 0 0] 35)).heap.size) := Lib.hid (by simp)
  have H1 := Lib.hid (fun W => whole0 a c hc W)
  have H2 := Lib.hid (fun W => whole0 b d hd W)
  have HB := Lib.hid (And.intro hw3 hb3)
  have HCl := Lib.hid (fun W => cloneU_any [] W a 0 c (by simp) ⟨Nat.zero_le _, hc, fun j u hu => by simp at hu⟩ (by simp) (by omega))
  have hcases : (i || j) = true ∨ (i = false ∧ j = false) := by cases i <;> cases j <;> simp
  rcases hcases with hij | ⟨rfl, rfl⟩
  · rw [hij]
    have hI : Hid (∀ W, Calls Tryz.prog 133 #[] W fun e w' => e = .returned (.agg #[.bool true, .slice none 0 0]) ∧ Ext W w') := Lib.hid natInf_any
    clear hw2 hw3 hb3 hc hd
    cases i with
    | true =>
      go_enter Tryz.func199, Tryz.ntmps199
      go_wp2_with fail
      refine (hI.out _).mono ?_
      rintro e w2 ⟨rfl, hx⟩
      have kb := HB.out.2.chg hx (fun h => h)
      obtain ⟨b0, f0, b1, f1⟩ := blk2_base kb
      obtain ⟨q0, q1⟩ := blk2_facts kb (.bool true) (.slice none 0 0)
      have HX := Lib.hid (HB.out.1.trans hx)
      clear hx kb
      go_wp2_with fail
      refine bodyPost_ret (by simp [results, Tryz.results199, go_sem, q0, q1]; try rfl) rfl ?_
      exact ⟨_, _, rfl, by unfold maxLen; omega, (HX.out.setCell _ _ (by simp <;> omega)).setCell _ _ (by simp <;> omega)⟩
    | false =>
      obtain rfl : j = true := by simpa using hij
      go_enter Tryz.func199, Tryz.ntmps199
      go_wp2_with fail
      refine (hI.out _).mono ?_
      rintro e w2 ⟨rfl, hx⟩
      have kb := HB.out.2.chg hx (fun h => h)
      obtain ⟨b0, f0, b1, f1⟩ := blk2_base kb
      obtain ⟨q0, q1⟩ := blk2_facts kb (.bool true) (.slice none 0 0)
      have HX := Lib.hid (HB.out.1.trans hx)
      clear hx kb
      go_wp2_with fail
      refine bodyPost_ret (by simp [results, Tryz.results199, go_sem, q0, q1]; try rfl) rfl ?_
      exact ⟨_, _, rfl, by unfold maxLen; omega, (HX.out.setCell _ _ (by simp <;> omega)).setCell _ _ (by simp <;> omega)⟩
  · clear hw2 hw3 hb3 hc hd
    obtain ⟨i0, hi0, hii⟩ := Option.map_eq_some_iff.1 info_u32
    obtain ⟨hz0, hz1, hz2⟩ : i0.zero = some (.int .u32 0) ∧ i0.size = 1 ∧ i0.bytes = 4 := by
      have := hii; simp at this; exact this
    have HI := Lib.hid (And.intro hi0 (And.intro hz0 (And.intro hz1 hz2)))
    clear hi0 hii hz0 hz1 hz2
    go_enter Tryz.func199, Tryz.ntmps199
    go_wp2_with fail
    go_quiet ((first | (go_at_call_of 243 (Value.slice a 0 c); exact Calls.quiet_of_same ((H1.out _).mono fun e w' ⟨h1, h2⟩ => ⟨h1, h2⟩)) | (go_at_call_of 243 (Value.slice b 0 d); exact Calls.quiet_of_same ((H2.out _).mono fun e w' ⟨h1, h2⟩ => ⟨h1, h2⟩))))
    go_wp2_with fail
    refine (HCl.out _).mono ?_
    rintro e w2 ⟨v2, rfl, u1, hx⟩
    obtain ⟨a2, c2, rfl⟩ := own_slice u1
    have HX := Lib.hid (And.intro ((HB.out.1.drewN nq).trans hx) (And.intro (HB.out.2.chg ((Chg.refl (S := fun _ => False) _).drewN nq |>.trans hx) (fun h => h)) (ownsRow_base u1 (Nat.le_of_eq HS3.out))))
    have hsz2 := HX.out.2.1.lt
    clear u1 hx
    go_wp2_with fail
    go_loopg [8, 34] 1 (fun g l8 l34 wr => l8 = .int .u64 0 ∧ l34 = .int .i64 0 ∧ wr = w2 ∧ g = 1)
    case atStart => exact ⟨rfl, rfl, rfl, rfl⟩
    case round =>
      obtain ⟨rfl, rfl, rfl, rfl⟩ := hrel
      go_wp2_with (at_builtin; refine wpList_append_st _ rfl (.tmp 63) (.tmp 66) 33 rfl (w.heap.size + 3) 118 i0 (.int .u32 0) 1 4 Tryz.underlying33 HI.out.1 HI.out.2.1 HI.out.2.2.1 HI.out.2.2.2 rfl (by decide) (.slice a2 0 c2) 0 [] rfl (HX.out.2.2.alloc _) ⟨wr.heap.size, 0, none⟩ 1 1 [.int .u32 0] rfl rfl (by exact fun j u hj => news wr _ _ j u hj) (by simp [Value.oneCell']) (by unfold maxLen; omega) (by omega) (by simp; omega) ?_; intro v' w' u1 u2 u3; obtain ⟨a', cap', rfl⟩ := own_slice u1; have HF := Lib.hid (And.intro u1 (And.intro u2 u3)); clear u1 u2 u3)
      have hC := Cells.of_own HF.out.1
      have hg := grow_chg (wr := wr) HF.out.2.1
      have hxg : Ext w w' := Ext.own HX.out.1 HX.out.2.2 (by omega) hg
      have kb := HX.out.2.1.chg hg (fun e => by have := (HX.out.2.2.lt _ e).1; omega)
      have HW := Lib.hid (whole_any (l := [0]) (w := w') (a := a') (cap := cap') hC)
      have e1 : wl [0] [0].length = 0 := rfl
      rw [e1] at HW
      obtain ⟨b0, f0, b1, f1⟩ := blk2_base kb
      obtain ⟨q0, q1⟩ := blk2_facts kb (.bool false) (.slice a' 0 cap')
      have HE := Lib.hid (And.intro hxg hC.2.1)
      clear hC hg hxg kb e1
      refine HW.out.mono ?_
      rintro e w9 ⟨rfl, h9⟩
      subst w9
      go_wp2_with fail
      refine bodyPost_ret (by simp [results, Tryz.results199, go_sem, q0, q1]; try rfl) rfl ?_
      exact ⟨_, _, rfl, HE.out.2, (HE.out.1.setCell _ _ (by simp <;> omega)).setCell _ _ (by simp <;> omega)⟩
end Go.Proofs.YtkhllknahjmciaaGreat
