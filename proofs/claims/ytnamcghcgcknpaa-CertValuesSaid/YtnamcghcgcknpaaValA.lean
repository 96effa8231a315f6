/-
  The document's own answer on doubles and values (chapters 1, 3, 4): bits, the double of bits, what may be.
-/
import Derived.Test.YtnamcghcgcknpaaCertR
import Derived.Test.YtnamcghcgcknpaaEncE
namespace Go.Proofs.Ytnamcghcgcknpaa
open Go.RowKit
set_option linter.unusedVariables false

theorem rbits_any (x : Nat) (w : World) : Calls Try.prog 29 #[.float .f64 x] w fun e w' => e = .returned (.int .u64 (fb x)) ∧ w' = w := by
  have hr := run_to
  cases hb : (FloatKind.f64.format.order x x != some Ordering.eq) with
  | true =>
    have hf : fb x = 9221120237041090560 := by rw [fb, if_pos hb]
    rw [hf]
    clear hf
    go_enter Try.func29, Try.ntmps29
    go_wp2_with fail
    go_ret
    exact ⟨rfl, rfl⟩
  | false =>
    have hf : fb x = x := by rw [fb, if_neg (by rw [hb]; simp)]
    rw [hf]
    clear hf
    go_enter Try.func29, Try.ntmps29
    go_wp2_with fail
    go_ret
    exact ⟨rfl, rfl⟩
theorem rof_any (x : Nat) (w : World) : Calls Try.prog 33 #[.int .u64 x] w fun e w' => e = .returned (.float .f64 (fb x)) ∧ w' = w := by
  have hr := run_from x
  have hr2 := run_from 9221120237041090560
  rw [show ((9221120237041090560 : Nat) : Int) = 9221120237041090560 from rfl] at hr2
  cases hb : (FloatKind.f64.format.order x x != some Ordering.eq) with
  | true =>
    have hf : fb x = 9221120237041090560 := by rw [fb, if_pos hb]
    rw [hf]
    clear hf
    go_enter Try.func33, Try.ntmps33
    go_wp2_with fail
    go_ret
    exact ⟨rfl, rfl⟩
  | false =>
    have hf : fb x = x := by rw [fb, if_neg (by rw [hb]; simp)]
    rw [hf]
    clear hf
    go_enter Try.func33, Try.ntmps33
    go_wp2_with fail
    go_ret
    exact ⟨rfl, rfl⟩
theorem rsame_any (x y : Nat) (w : World) : Calls Try.prog 34 #[.float .f64 x, .float .f64 y] w fun e w' => e = .returned (.bool (fb x == fb y)) ∧ w' = w := by
  have h1 := rbits_any x w
  have h2 := rbits_any y w
  have heq : (((fb x : Nat) : Int) == ((fb y : Nat) : Int)) = (fb x == fb y) := by
    rw [Bool.eq_iff_iff, beq_iff_eq, beq_iff_eq]; exact Int.ofNat_inj
  rw [← heq]
  clear heq
  generalize fb x = p at h1 ⊢
  generalize fb y = q at h2 ⊢
  have H1 := Lib.hid h1
  have H2 := Lib.hid h2
  clear h1 h2
  go_enter Try.func34, Try.ntmps34
  go_wp2_with (first | (refine H1.out.mono ?_; rintro e w' ⟨rfl, rfl⟩) | (refine H2.out.mono ?_; rintro e w' ⟨rfl, rfl⟩))
  go_ret
  exact ⟨rfl, rfl⟩
theorem rnMay_any {w : World} {a : Option Addr} {cap : Nat} {l : List Nat} (inf : Bool) (h : Cells w a l.length cap (wordCells l)) :
    Calls Try.prog 56 #[.agg #[.bool inf, .slice a l.length cap]] w fun e w' => e = .returned (.bool (mayNat inf l)) ∧ Ext w w' := by
  have hcap := h.1
  have hmax := h.2.1
  unfold maxLen at hmax
  have hb : Ext w (w.alloc (Obj.cells #[.bool inf, .slice a l.length cap] 28)) := (Chg.refl w).alloc _
  have H := Lib.hid (h.chg (S := fun _ => False) hb (fun _ _ h => h))
  have HX := Lib.hid hb
  clear h hb
  obtain ⟨M, hM⟩ : ∃ M, mayNat inf l = M := ⟨_, rfl⟩
  rw [hM]
  have HM := Lib.hid hM
  clear hM
  cases inf with
  | true =>
    have hM2 : M = ((l.length : Int) == 0) := by rw [← HM.out, mayNat, if_pos rfl, Bool.eq_iff_iff, beq_iff_eq, beq_iff_eq]; omega
    rw [hM2]
    clear hM2 HM H
    generalize l.length = n at hcap HX ⊢
    go_enter Try.func56, Try.ntmps56
    go_wp2_with fail
    go_ret
    exact ⟨rfl, HX.out⟩
  | false =>
    rcases List.eq_nil_or_concat l with rfl | ⟨l, d, rfl⟩
    · have hM2 : M = true := by rw [← HM.out]; rfl
      subst hM2
      clear HM H
      simp only [List.length_nil] at hcap HX ⊢
      go_enter Try.func56, Try.ntmps56
      go_wp2_with fail
      go_ret
      exact ⟨rfl, HX.out⟩
    · have hM2 : M = ((d : Int) != 0) := by
        rw [← HM.out, mayNat, if_neg (by simp)]; simp only [whole, List.concat_eq_append, List.getLast?_concat]; rw [Bool.eq_iff_iff, bne_iff_ne, bne_iff_ne]; omega
      rw [hM2]
      obtain ⟨x, rfl, hx⟩ := word_cell H.out (m := l.length) (by simp)
      have hd : (l ++ [d]).getD l.length 0 = d := by simp
      simp only [List.concat_eq_append] at hx H HX hcap ⊢
      rw [hd] at hx
      have hlen : (l ++ [d]).length = l.length + 1 := by simp
      rw [hlen] at HX hcap hx ⊢
      clear HM H hM2 hd hlen
      generalize l.length = n at hcap HX hx hmax ⊢
      have e0 : (((n + 1 : Nat) : Int) == 0) = false := by simp; omega
      have e0' : ((n : Int) + 1 == 0) = false := by simp; omega
      go_enter Try.func56, Try.ntmps56
      go_wp2_with fail
      go_ret
      exact ⟨rfl, HX.out⟩
end Go.Proofs.Ytnamcghcgcknpaa
