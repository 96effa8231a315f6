/-
  Two certs that are the same (chapter 24): rows.
-/
import Derived.Test.YtnamcghcgcknpaaEncE
namespace Go.Proofs.Ytnamcghcgcknpaa
open Go.RowKit
set_option linter.unusedVariables false

theorem eqInts_any {w : World} {a1 a2 : Option Addr} {cap1 cap2 : Nat} {l : List Int} (h1 : Cells w a1 l.length cap1 (l.map (Value.int .i64))) (h2 : Cells w a2 l.length cap2 (l.map (Value.int .i64))) :
    Calls Try.prog 36 #[.slice a1 l.length cap1, .slice a2 l.length cap2] w fun e w' => e = .returned (.bool true) ∧ Ext w w' := by
  have hc1 := h1.1
  have hc2 := h2.1
  have hm1 := h1.2.1
  have hm2 := h2.2.1
  unfold maxLen at hm1 hm2
  have H1 := Lib.hid h1
  have H2 := Lib.hid h2
  clear h1 h2
  obtain ⟨n, hn⟩ : ∃ n, l.length = n := ⟨_, rfl⟩
  rw [hn] at hc1 hc2 ⊢
  have HN := Lib.hid hn
  clear hn
  go_enter Try.func36, Try.ntmps36
  go_wp2_with fail
  go_loopg [13] n (fun g l13 wr => ∃ i : Nat, Ext w wr ∧ i ≤ n ∧ l13 = .int .i64 i ∧ g = n - i)
  case atStart => exact ⟨0, Chg.refl w, Nat.zero_le _, rfl, rfl⟩
  case round =>
    obtain ⟨i, hex, hi, rfl, rfl⟩ := hrel
    have HE := Lib.hid hex
    clear hex
    by_cases hin : i < n
    · have hin' : (i : Int) < n := by omega
      obtain ⟨z, hz⟩ : ∃ z, l[i]? = some z := ⟨_, List.getElem?_eq_getElem (by rw [HN.out]; exact hin)⟩
      obtain ⟨x, rfl, c0⟩ := int_cell H1.out hz
      obtain ⟨y, rfl, c1⟩ := int_cell H2.out hz
      have d0 := (HE.out.cell (lt_of_cell c0) (fun h => h)).trans c0
      have d1 := (HE.out.cell (lt_of_cell c1) (fun h => h)).trans c1
      clear c0 c1 hz
      go_wp2_with fail
      go_quiet (fail)
      go_wp2_with fail
      go_roundg (n - (i + 1))
      case measure => omega
      case rel => exact ⟨i + 1, HE.out.drewN _, by omega, rfl, rfl⟩
    · have e0 : n = i := by omega
      subst e0
      have hin' : ¬ (n : Int) < n := by omega
      go_wp2_with fail
      go_ret
      exact ⟨rfl, HE.out⟩
theorem eqSteps_any {w : World} {a1 a2 : Option Addr} {cap1 cap2 : Nat} {l : List (Int × Bool)} (h1 : Cells w a1 l.length cap1 (stepsI l)) (h2 : Cells w a2 l.length cap2 (stepsI l)) :
    Calls Try.prog 40 #[.slice a1 l.length cap1, .slice a2 l.length cap2] w fun e w' => e = .returned (.bool true) ∧ Ext w w' := by
  have hc1 := h1.1
  have hc2 := h2.1
  have hm1 := h1.2.1
  have hm2 := h2.2.1
  unfold maxLen at hm1 hm2
  have H1 := Lib.hid h1
  have H2 := Lib.hid h2
  clear h1 h2
  obtain ⟨n, hn⟩ : ∃ n, l.length = n := ⟨_, rfl⟩
  rw [hn] at hc1 hc2 ⊢
  have HN := Lib.hid hn
  clear hn
  go_enter Try.func40, Try.ntmps40
  go_wp2_with fail
  go_loopg [13] n (fun g l13 wr => ∃ i : Nat, Ext w wr ∧ i ≤ n ∧ l13 = .int .i64 i ∧ g = n - i)
  case atStart => exact ⟨0, Chg.refl w, Nat.zero_le _, rfl, rfl⟩
  case round =>
    obtain ⟨i, hex, hi, rfl, rfl⟩ := hrel
    have HE := Lib.hid hex
    clear hex
    by_cases hin : i < n
    · have hin' : (i : Int) < n := by omega
      obtain ⟨⟨t, b⟩, hz⟩ : ∃ z, l[i]? = some z := ⟨_, List.getElem?_eq_getElem (by rw [HN.out]; exact hin)⟩
      obtain ⟨x, rfl, c0, c0'⟩ := step_cell H1.out hz
      obtain ⟨y, rfl, c1, c1'⟩ := step_cell H2.out hz
      have d0 := (HE.out.cell (lt_of_cell c0) (fun h => h)).trans c0
      have d1 := (HE.out.cell (lt_of_cell c1) (fun h => h)).trans c1
      have d0' := (HE.out.cell (lt_of_cell c0') (fun h => h)).trans c0'
      have d1' := (HE.out.cell (lt_of_cell c1') (fun h => h)).trans c1'
      rw [Nat.mul_comm 2 i] at d0 d1
      rw [add_one] at d0' d1'
      simp only at d0 d1 d0' d1'
      clear c0 c1 hz c0' c1'
      go_wp2_with fail
      go_quiet (fail)
      go_wp2_with fail
      go_roundg (n - (i + 1))
      case measure => omega
      case rel => exact ⟨i + 1, HE.out.drewN _, by omega, rfl, rfl⟩
    · have e0 : n = i := by omega
      subst e0
      have hin' : ¬ (n : Int) < n := by omega
      go_wp2_with fail
      go_ret
      exact ⟨rfl, HE.out⟩
end Go.Proofs.Ytnamcghcgcknpaa
