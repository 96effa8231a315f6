/-
  The document's own answer on values (chapter 4): what may be.
-/
import Derived.Test.YtnamcghcgcknpaaValA
namespace Go.Proofs.Ytnamcghcgcknpaa
open Go.RowKit
set_option linter.unusedVariables false

theorem ord_self {y : Nat} (h : y % 9223372036854775808 ≤ 9218868437227405312) : FloatKind.f64.format.order y y = some .eq := by
  have hs : FloatKind.f64.format.signWeight = 9223372036854775808 := by decide
  have hi : FloatKind.f64.format.infRung = 9218868437227405312 := by decide
  cases hr : FloatKind.f64.format.read y with
  | nan s t =>
    unfold Ieee.Format.read at hr
    simp only [hs, hi] at hr
    split at hr
    · cases hr
    · split at hr
      · cases hr
      · split at hr
        · cases hr
        · rename_i h1 h2 h3; omega
  | infinity s => unfold Ieee.Format.order; rw [hr]; simp [Ieee.Datum.order]
  | number s m e => unfold Ieee.Format.order; rw [hr]; simp [Ieee.Datum.order]
theorem leq_inf {x : Nat} (h : geq x 0 = true) : leq x 9218868437227405312 = true := by
  have h0 : FloatKind.f64.format.read 0 = .number false 0 (-1074) := by decide
  have h1 : FloatKind.f64.format.read 9218868437227405312 = .infinity false := by decide
  unfold geq Ieee.Format.order at h
  unfold leq Ieee.Format.order
  rw [h0] at h
  rw [h1]
  cases hr : FloatKind.f64.format.read x with
  | nan s t => rw [hr] at h; simp [Ieee.Datum.order] at h
  | infinity s =>
    rw [hr] at h
    cases s with
    | true => simp [Ieee.Datum.order] at h
    | false => simp [Ieee.Datum.order]
  | number s m e => simp [Ieee.Datum.order]
theorem fb_low {x : Nat} (hg : geq x 0 = true) (hx : x < 18446744073709551616) : (fb x == fb (x % 9223372036854775808)) = decide (fb x < 9223372036854775808) := by
  obtain ⟨h1, h2⟩ := geq_real hg
  have e1 : fb x = x := by rw [fb, h2]; rfl
  have e2 : fb (x % 9223372036854775808) = x % 9223372036854775808 := by rw [fb, ord_self (by omega)]; rfl
  rw [e1, e2, Bool.eq_iff_iff, beq_iff_eq, decide_eq_true_iff]
  omega
theorem fd_best {x : Nat} (hx : x < 18446744073709551616) : fd 5 x = (geq x 0 && (leq x 4607182418800017408 && decide (fb x < 9223372036854775808))) := by
  rw [fd_five, inb]
  cases hg : geq x 0 with
  | false => rfl
  | true =>
    rw [fb_low hg hx]
    cases leq x 4607182418800017408 <;> rfl
theorem fd_cost {x : Nat} (hx : x < 18446744073709551616) : fd 6 x = (geq x 0 && decide (fb x < 9223372036854775808)) := by
  rw [fd_other 6 (by decide), inb]
  cases hg : geq x 0 with
  | false => rfl
  | true => rw [fb_low hg hx, leq_inf hg]; rfl
set_option maxRecDepth 100000 in
set_option maxHeartbeats 1600000 in
theorem rmay_any {w : World} {v : Val} {a : Option Addr} {cap : Nat} (h : Cells w a v.w.length cap (wordCells v.w)) (hx : v.x < 18446744073709551616) :
    Calls Try.prog 27 #[valV v a cap] w fun e w' => e = .returned (.int .i64 (mayV v)) ∧ Ext w w' := by
  obtain ⟨s, inf, l, lev, x⟩ := v
  simp only at h hx
  have hb : Ext w (w.alloc (Obj.cells #[.int .i64 s, .bool inf, .slice a l.length cap, .int .i64 lev, .float .f64 x] 31)) := (Chg.refl w).alloc _
  have HX := Lib.hid hb
  have H := Lib.hid (rnMay_any inf (h.chg (S := fun _ => False) hb (fun _ _ h => h)))
  have HB := Lib.hid (fun w => rbits_any x w)
  unfold valV
  simp only
  rw [may_eq]
  simp only
  have H5 := Lib.hid (fd_best hx)
  have H6 := Lib.hid (fd_cost hx)
  clear h hb hx
  generalize l.length = n at H HX ⊢
  generalize mayNat inf l = N at H ⊢
  have hs : (s = 1 ∨ s = 3) ∨ s = 2 ∨ s = 4 ∨ s = 5 ∨ s = 6 ∨ ¬ (1 ≤ s ∧ s ≤ 6) := by omega
  rcases hs with hs | rfl | rfl | rfl | rfl | hs
  · rw [if_pos (by omega), if_pos hs]
    rcases hs with rfl | rfl
    all_goals
      cases N
      all_goals
        go_enter Try.func27, Try.ntmps27
        go_wp2_with (go_at_call 56; refine H.out.mono ?_; rintro e w' ⟨rfl, hx⟩)
        go_ret
        exact ⟨rfl, HX.out.trans hx⟩
  · rw [if_pos (by omega), if_neg (by omega), if_pos (by omega), if_pos (show (2 : Int) = 2 from rfl)]
    have hl : lev = 0 ∨ lev = 1 ∨ ¬ (0 ≤ lev ∧ lev ≤ 1) := by omega
    clear H HB H5 H6
    rcases hl with rfl | rfl | hl
    · rw [if_pos (by omega)]
      go_enter Try.func27, Try.ntmps27
      go_wp2_with fail
      go_ret
      exact ⟨rfl, HX.out⟩
    · rw [if_pos (by omega)]
      go_enter Try.func27, Try.ntmps27
      go_wp2_with fail
      go_ret
      exact ⟨rfl, HX.out⟩
    · rw [if_neg hl]
      have e0 : (lev == 0) = false := by simp; omega
      have e1 : (lev == 1) = false := by simp; omega
      clear hl
      go_enter Try.func27, Try.ntmps27
      go_wp2_with fail
      go_ret
      exact ⟨rfl, HX.out⟩
  · rw [if_pos (by omega), if_neg (by omega), if_pos (by omega), if_neg (show ¬ (4 : Int) = 2 by decide)]
    clear H HB H5 H6
    by_cases h0 : 0 ≤ lev
    · have e0 : decide (0 ≤ lev) = true := by simpa using h0
      by_cases h1 : lev ≤ 7
      · rw [if_pos ⟨h0, h1⟩]
        have e1 : decide (lev ≤ 7) = true := by simpa using h1
        go_enter Try.func27, Try.ntmps27
        go_wp2_with fail
        go_ret
        exact ⟨rfl, HX.out⟩
      · rw [if_neg (fun h => h1 h.2)]
        have e1 : decide (lev ≤ 7) = false := by simpa using h1
        go_enter Try.func27, Try.ntmps27
        go_wp2_with fail
        go_ret
        exact ⟨rfl, HX.out⟩
    · rw [if_neg (fun h => h0 h.1)]
      have e0 : decide (0 ≤ lev) = false := by simpa using h0
      go_enter Try.func27, Try.ntmps27
      go_wp2_with fail
      go_ret
      exact ⟨rfl, HX.out⟩
  · rw [if_pos (by omega), if_neg (by omega), if_neg (by omega), H5.out]
    have hg : geq x 0 = (FloatKind.f64.format.order x 0 == some .gt || FloatKind.f64.format.order x 0 == some .eq) := rfl
    have hl : leq x 4607182418800017408 = (FloatKind.f64.format.order x 4607182418800017408 == some .lt || FloatKind.f64.format.order x 4607182418800017408 == some .eq) := rfl
    have hbb : decide (fb x < 9223372036854775808) = decide ((fb x : Int) < 9223372036854775808) := by rw [Bool.eq_iff_iff, decide_eq_true_iff, decide_eq_true_iff]; omega
    rw [hg, hl, hbb]
    clear hg hl hbb H H5 H6
    generalize ((fb x : Nat) : Int) = y at HB ⊢
    cases h1 : (FloatKind.f64.format.order x 0 == some .gt || FloatKind.f64.format.order x 0 == some .eq) with
    | false =>
      go_enter Try.func27, Try.ntmps27
      go_wp2_with fail
      go_ret
      exact ⟨rfl, HX.out⟩
    | true =>
      cases h2 : (FloatKind.f64.format.order x 4607182418800017408 == some .lt || FloatKind.f64.format.order x 4607182418800017408 == some .eq) with
      | false =>
        go_enter Try.func27, Try.ntmps27
        go_wp2_with fail
        go_ret
        exact ⟨rfl, HX.out⟩
      | true =>
        by_cases h3 : y < 9223372036854775808
        rotate_left
        · have hd : decide (y < 9223372036854775808) = false := by simpa using h3
          rw [hd]
          clear h3
          go_enter Try.func27, Try.ntmps27
          go_wp2_with (go_at_call 29; refine (HB.out _).mono ?_; rintro e w' ⟨rfl, rfl⟩)
          go_ret
          exact ⟨rfl, HX.out⟩
        · have hd : decide (y < 9223372036854775808) = true := by simpa using h3
          rw [hd]
          clear h3
          go_enter Try.func27, Try.ntmps27
          go_wp2_with (go_at_call 29; refine (HB.out _).mono ?_; rintro e w' ⟨rfl, rfl⟩)
          go_ret
          exact ⟨rfl, HX.out⟩
  · rw [if_pos (by omega), if_neg (by omega), if_neg (by omega), H6.out]
    have hg : geq x 0 = (FloatKind.f64.format.order x 0 == some .gt || FloatKind.f64.format.order x 0 == some .eq) := rfl
    have hbb : decide (fb x < 9223372036854775808) = decide ((fb x : Int) < 9223372036854775808) := by rw [Bool.eq_iff_iff, decide_eq_true_iff, decide_eq_true_iff]; omega
    rw [hg, hbb]
    clear hg hbb H H5 H6
    generalize ((fb x : Nat) : Int) = y at HB ⊢
    cases h1 : (FloatKind.f64.format.order x 0 == some .gt || FloatKind.f64.format.order x 0 == some .eq) with
    | false =>
      go_enter Try.func27, Try.ntmps27
      go_wp2_with fail
      go_ret
      exact ⟨rfl, HX.out⟩
    | true =>
      by_cases h3 : y < 9223372036854775808
      · have hd : decide (y < 9223372036854775808) = true := by simpa using h3
        rw [hd]
        clear h3
        go_enter Try.func27, Try.ntmps27
        go_wp2_with (go_at_call 29; refine (HB.out _).mono ?_; rintro e w' ⟨rfl, rfl⟩)
        go_ret
        exact ⟨rfl, HX.out⟩
      · have hd : decide (y < 9223372036854775808) = false := by simpa using h3
        rw [hd]
        clear h3
        go_enter Try.func27, Try.ntmps27
        go_wp2_with (go_at_call 29; refine (HB.out _).mono ?_; rintro e w' ⟨rfl, rfl⟩)
        go_ret
        exact ⟨rfl, HX.out⟩
  · rw [if_neg hs]
    have e1 : (s == 1) = false := by simp; omega
    have e2 : (s == 2) = false := by simp; omega
    have e3 : (s == 3) = false := by simp; omega
    have e4 : (s == 4) = false := by simp; omega
    have e5 : (s == 5) = false := by simp; omega
    have e6 : (s == 6) = false := by simp; omega
    clear H HB H5 H6 hs
    go_enter Try.func27, Try.ntmps27
    go_wp2_with fail
    go_ret
    exact ⟨rfl, HX.out⟩
end Go.Proofs.Ytnamcghcgcknpaa
