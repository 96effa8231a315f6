/-
  Doubles (chapter 1): bits, within, and what a semiring lets in.
-/
import Derived.Test.YtnamcghcgcknpaaCertC
namespace Go.Proofs.Ytnamcghcgcknpaa
open Go.RowKit
set_option linter.unusedVariables false

theorem clr63 (b : Nat) (h : b < 18446744073709551616) : bits .andNot .u64 (b : Int) 9223372036854775808 = ((b % 9223372036854775808 : Nat) : Int) := by
  have := u64_andNot_nat b 9223372036854775808 h (by omega)
  rw [show ((9223372036854775808 : Nat) : Int) = 9223372036854775808 from rfl] at this
  rw [this, show 18446744073709551615 - 9223372036854775808 = 2 ^ 63 - 1 from rfl, Nat.and_two_pow_sub_one_eq_mod]
theorem run_to (x : Nat) (w : World) : (callFunc 55 #[.float .f64 x]).run Try.prog w = .ok (.value (.int .u64 x)) w := by
  kernel_rfl
theorem run_from (b : Nat) (w : World) : (callFunc 59 #[.int .u64 b]).run Try.prog w = .ok (.value (.float .f64 b)) w := by
  kernel_rfl
theorem bits_any (x : Nat) (w : World) : Calls Try.prog 26 #[.float .f64 x] w fun e w' => e = .returned (.int .u64 (fb x)) ∧ w' = w := by
  have hr := run_to
  cases hb : (FloatKind.f64.format.order x x != some Ordering.eq) with
  | true =>
    have hf : fb x = 9221120237041090560 := by rw [fb, if_pos hb]
    rw [hf]
    clear hf
    go_enter Try.func26, Try.ntmps26
    go_wp2_with fail
    go_ret
    exact ⟨rfl, rfl⟩
  | false =>
    have hf : fb x = x := by rw [fb, if_neg (by rw [hb]; simp)]
    rw [hf]
    clear hf
    go_enter Try.func26, Try.ntmps26
    go_wp2_with fail
    go_ret
    exact ⟨rfl, rfl⟩
theorem of_any (b : Nat) (hb : b < 18446744073709551616) (w : World) : Calls Try.prog 58 #[.int .u64 b] w fun e w' => e = .returned (.float .f64 (fo b)) ∧ w' = w := by
  have hc := clr63 b hb
  have hr := run_from b
  have hr2 := run_from 9221120237041090560
  rw [show ((9221120237041090560 : Nat) : Int) = 9221120237041090560 from rfl] at hr2
  by_cases h : 9218868437227405312 < b % 9223372036854775808
  · have hf : fo b = 9221120237041090560 := by rw [fo, if_pos h]
    have h' : (9218868437227405312 : Int) < (b : Int) % 9223372036854775808 := by omega
    rw [hf]
    clear hf
    go_enter Try.func58, Try.ntmps58
    go_wp2_with fail
    go_ret
    exact ⟨rfl, rfl⟩
  · have hf : fo b = b := by rw [fo, if_neg h]
    have h' : ¬ (9218868437227405312 : Int) < (b : Int) % 9223372036854775808 := by omega
    rw [hf]
    clear hf
    go_enter Try.func58, Try.ntmps58
    go_wp2_with fail
    go_ret
    exact ⟨rfl, rfl⟩
theorem fsame_any (x y : Nat) (w : World) : Calls Try.prog 62 #[.float .f64 x, .float .f64 y] w fun e w' => e = .returned (.bool (fb x == fb y)) ∧ w' = w := by
  have h1 := bits_any x w
  have h2 := bits_any y w
  have heq : (((fb x : Nat) : Int) == ((fb y : Nat) : Int)) = (fb x == fb y) := by
    rw [Bool.eq_iff_iff, beq_iff_eq, beq_iff_eq]; exact Int.ofNat_inj
  rw [← heq]
  clear heq
  generalize fb x = p at h1 ⊢
  generalize fb y = q at h2 ⊢
  have H1 := Lib.hid h1
  have H2 := Lib.hid h2
  clear h1 h2
  go_enter Try.func62, Try.ntmps62
  go_wp2_with (first | (refine H1.out.mono ?_; rintro e w' ⟨rfl, rfl⟩) | (refine H2.out.mono ?_; rintro e w' ⟨rfl, rfl⟩))
  go_ret
  exact ⟨rfl, rfl⟩
theorem abs_any (x : Nat) (hx : x < 18446744073709551616) (w : World) : Calls Try.prog 74 #[.float .f64 x] w fun e w' => e = .returned (.float .f64 (x % 9223372036854775808)) ∧ w' = w := by
  have hc := clr63 x hx
  have hr := run_to x
  obtain ⟨y, hy⟩ : ∃ y, x % 9223372036854775808 = y := ⟨_, rfl⟩
  rw [hy] at hc ⊢
  have hr2 := run_from y
  have HY := Lib.hid hy
  clear hy
  go_enter Try.func74, Try.ntmps74
  go_wp2_with fail
  go_ret
  exact ⟨rfl, rfl⟩
theorem inf_any (w : World) : Calls Try.prog 71 #[.int .i64 1] w fun e w' => e = .returned (.float .f64 9218868437227405312) ∧ w' = w := by
  have hr2 := run_from 9218868437227405312
  rw [show ((9218868437227405312 : Nat) : Int) = 9218868437227405312 from rfl] at hr2
  go_enter Try.func71, Try.ntmps71
  go_wp2_with fail
  go_ret
  exact ⟨rfl, rfl⟩
/-- Within 0 and so much. -/
def inb (x m : Nat) : Bool := geq x 0 && leq x m
theorem within_any (x m : Nat) (hx : x < 18446744073709551616) (w : World) : Calls Try.prog 70 #[.float .f64 x, .float .f64 m] w fun e w' =>
    e = .returned (.tuple #[.float .f64 (if inb x m then x % 9223372036854775808 else 0), .int .i64 (if inb x m then 0 else 16)]) ∧ w' = w := by
  have h1 := abs_any x hx w
  generalize x % 9223372036854775808 = y at h1 ⊢
  have H1 := Lib.hid h1
  clear h1 hx
  have hI : inb x m = (geq x 0 && leq x m) := rfl
  unfold geq leq at hI
  cases hb : inb x m with
  | true =>
    rw [hb] at hI
    obtain ⟨ha, hb'⟩ : ((FloatKind.f64.format.order x 0 == some .gt || FloatKind.f64.format.order x 0 == some .eq)) = true ∧ (FloatKind.f64.format.order x m == some .lt || FloatKind.f64.format.order x m == some .eq) = true := by
      rwa [eq_comm, Bool.and_eq_true] at hI
    clear hI
    go_enter Try.func70, Try.ntmps70
    go_wp2_with fail
    refine H1.out.mono ?_
    rintro e w' ⟨rfl, rfl⟩
    go_wp2_with fail
    go_ret2
    exact ⟨rfl, rfl⟩
  | false =>
    rw [hb] at hI
    cases ha : (FloatKind.f64.format.order x 0 == some .gt || FloatKind.f64.format.order x 0 == some .eq) with
    | false =>
      clear hI
      go_enter Try.func70, Try.ntmps70
      go_wp2_with fail
      go_ret2
      exact ⟨rfl, rfl⟩
    | true =>
      rw [ha, Bool.true_and] at hI
      have hI' := hI.symm
      clear hI
      go_enter Try.func70, Try.ntmps70
      go_wp2_with fail
      go_ret2
      exact ⟨rfl, rfl⟩
theorem price_any (x : Nat) (hx : x < 18446744073709551616) (w : World) : Calls Try.prog 66 #[.float .f64 x] w fun e w' =>
    e = .returned (.tuple #[.float .f64 (if inb x 9218868437227405312 then x % 9223372036854775808 else 0), .int .i64 (if inb x 9218868437227405312 then 0 else 16)]) ∧ w' = w := by
  have h1 := within_any x 9218868437227405312 hx w
  generalize (if inb x 9218868437227405312 = true then x % 9223372036854775808 else 0) = y at h1 ⊢
  generalize (if inb x 9218868437227405312 = true then (0 : Int) else 16) = z at h1 ⊢
  have H1 := Lib.hid h1
  have H2 := Lib.hid (inf_any w)
  clear h1 hx
  go_enter Try.func66, Try.ntmps66
  go_wp2_with (first | (refine H1.out.mono ?_; rintro e w' ⟨rfl, rfl⟩) | (refine H2.out.mono ?_; rintro e w' ⟨rfl, rfl⟩))
  go_ret2
  exact ⟨rfl, rfl⟩
theorem unit_any (x : Nat) (hx : x < 18446744073709551616) (w : World) : Calls Try.prog 67 #[.float .f64 x] w fun e w' =>
    e = .returned (.tuple #[.float .f64 (if inb x 4607182418800017408 then x % 9223372036854775808 else 0), .int .i64 (if inb x 4607182418800017408 then 0 else 16)]) ∧ w' = w := by
  have h1 := within_any x 4607182418800017408 hx w
  generalize (if inb x 4607182418800017408 = true then x % 9223372036854775808 else 0) = y at h1 ⊢
  generalize (if inb x 4607182418800017408 = true then (0 : Int) else 16) = z at h1 ⊢
  have H1 := Lib.hid h1
  clear h1 hx
  go_enter Try.func67, Try.ntmps67
  go_wp2_with (refine H1.out.mono ?_; rintro e w' ⟨rfl, rfl⟩)
  go_ret2
  exact ⟨rfl, rfl⟩
theorem fd_five (x : Nat) : fd 5 x = if inb x 4607182418800017408 then fb x == fb (x % 9223372036854775808) else false := rfl
theorem fd_other (s : Int) (h : ¬ s = 5) (x : Nat) : fd s x = if inb x 9218868437227405312 then fb x == fb (x % 9223372036854775808) else false := by
  unfold fd; rw [if_neg h]; rfl
theorem double_any (s : Int) (x : Nat) (hx : x < 18446744073709551616) (w : World) : Calls Try.prog 54 #[.int .i64 s, .float .f64 x] w fun e w' => e = .returned (.int .i64 (if fd s x then 0 else 16)) ∧ w' = w := by
  have hp := price_any x hx w
  have hu := unit_any x hx w
  obtain ⟨m, hm⟩ : ∃ m, x % 9223372036854775808 = m := ⟨_, rfl⟩
  have hs := fsame_any x m w
  by_cases h5 : s = 5
  · subst h5
    rw [fd_five, hm]
    rw [hm] at hp hu
    clear hm hx
    cases hI : inb x 4607182418800017408 with
    | true =>
      rw [hI] at hu
      simp only [if_true] at hu ⊢
      generalize (if inb x 9218868437227405312 = true then m else 0) = y at hp
      generalize (if inb x 9218868437227405312 = true then (0 : Int) else 16) = z at hp
      cases hB : (fb x == fb m) with
      | true =>
        rw [hB] at hs
        simp only [if_true]
        have HP := Lib.hid hp
        have HU := Lib.hid hu
        have HS := Lib.hid hs
        clear hp hu hs hB hI
        go_enter Try.func54, Try.ntmps54
        go_wp2_with (first | (refine HP.out.mono ?_; rintro e w' ⟨rfl, rfl⟩) | (refine HU.out.mono ?_; rintro e w' ⟨rfl, rfl⟩) | (refine HS.out.mono ?_; rintro e w' ⟨rfl, rfl⟩))
        go_ret
        exact ⟨rfl, rfl⟩
      | false =>
        rw [hB] at hs
        simp only [Bool.false_eq_true, if_false]
        have HP := Lib.hid hp
        have HU := Lib.hid hu
        have HS := Lib.hid hs
        clear hp hu hs hB hI
        go_enter Try.func54, Try.ntmps54
        go_wp2_with (first | (refine HP.out.mono ?_; rintro e w' ⟨rfl, rfl⟩) | (refine HU.out.mono ?_; rintro e w' ⟨rfl, rfl⟩) | (refine HS.out.mono ?_; rintro e w' ⟨rfl, rfl⟩))
        go_ret
        exact ⟨rfl, rfl⟩
    | false =>
      rw [hI] at hu
      simp only [Bool.false_eq_true, if_false] at hu ⊢
      generalize (if inb x 9218868437227405312 = true then m else 0) = y at hp
      generalize (if inb x 9218868437227405312 = true then (0 : Int) else 16) = z at hp
      have HP := Lib.hid hp
      have HU := Lib.hid hu
      clear hp hu hs hI
      go_enter Try.func54, Try.ntmps54
      go_wp2_with (first | (refine HP.out.mono ?_; rintro e w' ⟨rfl, rfl⟩) | (refine HU.out.mono ?_; rintro e w' ⟨rfl, rfl⟩))
      go_ret
      exact ⟨rfl, rfl⟩
  · rw [fd_other s h5, hm]
    rw [hm] at hp
    clear hm hx hu
    cases hI : inb x 9218868437227405312 with
    | true =>
      rw [hI] at hp
      simp only [if_true] at hp ⊢
      cases hB : (fb x == fb m) with
      | true =>
        rw [hB] at hs
        simp only [if_true]
        have HP := Lib.hid hp
        have HS := Lib.hid hs
        clear hp hs hB hI
        go_enter Try.func54, Try.ntmps54
        go_wp2_with (first | (refine HP.out.mono ?_; rintro e w' ⟨rfl, rfl⟩) | (refine HS.out.mono ?_; rintro e w' ⟨rfl, rfl⟩))
        go_ret
        exact ⟨rfl, rfl⟩
      | false =>
        rw [hB] at hs
        simp only [Bool.false_eq_true, if_false]
        have HP := Lib.hid hp
        have HS := Lib.hid hs
        clear hp hs hB hI
        go_enter Try.func54, Try.ntmps54
        go_wp2_with (first | (refine HP.out.mono ?_; rintro e w' ⟨rfl, rfl⟩) | (refine HS.out.mono ?_; rintro e w' ⟨rfl, rfl⟩))
        go_ret
        exact ⟨rfl, rfl⟩
    | false =>
      rw [hI] at hp
      simp only [Bool.false_eq_true, if_false] at hp ⊢
      have HP := Lib.hid hp
      clear hp hs hI
      go_enter Try.func54, Try.ntmps54
      go_wp2_with (refine HP.out.mono ?_; rintro e w' ⟨rfl, rfl⟩)
      go_ret
      exact ⟨rfl, rfl⟩
end Go.Proofs.Ytnamcghcgcknpaa
