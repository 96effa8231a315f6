/-
  Two certs, whatever they are: told to be the same only if they are (chapter 24): rows.
-/
import Derived.Test.YtnamcghcgcknpaaSameA
namespace Go.Proofs.Ytnamcghcgcknpaa
open Go.RowKit
set_option linter.unusedVariables false

/-- A truth came back; where it is true, P holds. -/
def Says (P : Prop) (w : World) (e : Ending) (w' : World) : Prop := (∃ b, e = .returned (.bool b) ∧ (b = true → P)) ∧ Ext w w'
theorem Says.no {P : Prop} {w w' : World} (k : Ext w w') : Says P w (.returned (.bool false)) w' := ⟨⟨false, rfl, fun h => by cases h⟩, k⟩
theorem Says.yes {P : Prop} {w w' : World} (h : P) (k : Ext w w') : Says P w (.returned (.bool true)) w' := ⟨⟨true, rfl, fun _ => h⟩, k⟩
theorem same_all {α : Type} {l1 l2 : List α} {n : Nat} (h1 : l1.length = n) (h2 : l2.length = n) (h : ∀ j, j < n → l1[j]? = l2[j]?) : l1 = l2 := by
  refine List.ext_getElem? fun j => ?_
  by_cases hj : j < n
  · exact h j hj
  · rw [List.getElem?_eq_none (by omega), List.getElem?_eq_none (by omega)]
theorem same_step {α : Type} {l1 l2 : List α} {i : Nat} {z : α} (h : ∀ j, j < i → l1[j]? = l2[j]?) (h1 : l1[i]? = some z) (h2 : l2[i]? = some z) : ∀ j, j < i + 1 → l1[j]? = l2[j]? := by
  intro j hj
  by_cases e : j = i
  · subst e; rw [h1, h2]
  · exact h j (by omega)
theorem eqInts_gen {w : World} {a1 a2 : Option Addr} {cap1 cap2 : Nat} {l1 l2 : List Int} (h1 : Cells w a1 l1.length cap1 (l1.map (Value.int .i64))) (h2 : Cells w a2 l2.length cap2 (l2.map (Value.int .i64))) :
    Calls Try.prog 36 #[.slice a1 l1.length cap1, .slice a2 l2.length cap2] w (Says (l1 = l2) w) := by
  have hc1 := h1.1
  have hc2 := h2.1
  have hm1 := h1.2.1
  have hm2 := h2.2.1
  unfold maxLen at hm1 hm2
  have H1 := Lib.hid h1
  have H2 := Lib.hid h2
  clear h1 h2
  obtain ⟨n, hn⟩ : ∃ n, l1.length = n := ⟨_, rfl⟩
  obtain ⟨m, hm⟩ : ∃ n, l2.length = n := ⟨_, rfl⟩
  rw [hn] at hc1 ⊢
  rw [hm] at hc2 ⊢
  have HN := Lib.hid (And.intro hn hm)
  clear hn hm
  by_cases hnm : n = m
  · subst hnm
    go_enter Try.func36, Try.ntmps36
    go_wp2_with fail
    go_loopg [13] n (fun g l13 wr => ∃ i : Nat, Ext w wr ∧ i ≤ n ∧ (∀ j, j < i → l1[j]? = l2[j]?) ∧ l13 = .int .i64 i ∧ g = n - i)
    case atStart => exact ⟨0, Chg.refl w, Nat.zero_le _, fun j hj => absurd hj (by omega), rfl, rfl⟩
    case round =>
      obtain ⟨i, hex, hi, hall, rfl, rfl⟩ := hrel
      have HE := Lib.hid hex
      have HAL := Lib.hid hall
      clear hex hall
      by_cases hin : i < n
      · have hin' : (i : Int) < n := by omega
        obtain ⟨z, hz⟩ : ∃ z, l1[i]? = some z := ⟨_, List.getElem?_eq_getElem (by rw [HN.out.1]; exact hin)⟩
        obtain ⟨y, hy⟩ : ∃ z, l2[i]? = some z := ⟨_, List.getElem?_eq_getElem (by rw [HN.out.2]; exact hin)⟩
        obtain ⟨x, rfl, c0⟩ := int_cell H1.out hz
        obtain ⟨x', rfl, c1⟩ := int_cell H2.out hy
        have d0 := (HE.out.cell (lt_of_cell c0) (fun h => h)).trans c0
        have d1 := (HE.out.cell (lt_of_cell c1) (fun h => h)).trans c1
        have HZ := Lib.hid (And.intro hz hy)
        clear c0 c1 hz hy
        by_cases hzy : z = y
        · subst hzy
          go_wp2_with fail
          go_quiet (fail)
          go_wp2_with fail
          go_roundg (n - (i + 1))
          case measure => omega
          case rel => exact ⟨i + 1, HE.out.drewN _, by omega, same_step HAL.out HZ.out.1 HZ.out.2, rfl, rfl⟩
        · have hne : (z != y) = true := by simpa using hzy
          clear hzy
          go_wp2_with fail
          go_quiet (fail)
          go_wp2_with fail
          go_ret
          exact Says.no (HE.out.drewN _)
      · have e0 : n = i := by omega
        subst e0
        have hin' : ¬ (n : Int) < n := by omega
        go_wp2_with fail
        go_ret
        exact Says.yes (same_all HN.out.1 HN.out.2 HAL.out) HE.out
  · have hne : ((n : Int) != (m : Int)) = true := by simp; omega
    clear hnm
    go_enter Try.func36, Try.ntmps36
    go_wp2_with fail
    go_ret
    exact Says.no (Chg.refl _)
theorem eqSteps_gen {w : World} {a1 a2 : Option Addr} {cap1 cap2 : Nat} {l1 l2 : List (Int × Bool)} (h1 : Cells w a1 l1.length cap1 (stepsI l1)) (h2 : Cells w a2 l2.length cap2 (stepsI l2)) :
    Calls Try.prog 40 #[.slice a1 l1.length cap1, .slice a2 l2.length cap2] w (Says (l1 = l2) w) := by
  have hc1 := h1.1
  have hc2 := h2.1
  have hm1 := h1.2.1
  have hm2 := h2.2.1
  unfold maxLen at hm1 hm2
  have H1 := Lib.hid h1
  have H2 := Lib.hid h2
  clear h1 h2
  obtain ⟨n, hn⟩ : ∃ n, l1.length = n := ⟨_, rfl⟩
  obtain ⟨m, hm⟩ : ∃ n, l2.length = n := ⟨_, rfl⟩
  rw [hn] at hc1 ⊢
  rw [hm] at hc2 ⊢
  have HN := Lib.hid (And.intro hn hm)
  clear hn hm
  by_cases hnm : n = m
  · subst hnm
    go_enter Try.func40, Try.ntmps40
    go_wp2_with fail
    go_loopg [13] n (fun g l13 wr => ∃ i : Nat, Ext w wr ∧ i ≤ n ∧ (∀ j, j < i → l1[j]? = l2[j]?) ∧ l13 = .int .i64 i ∧ g = n - i)
    case atStart => exact ⟨0, Chg.refl w, Nat.zero_le _, fun j hj => absurd hj (by omega), rfl, rfl⟩
    case round =>
      obtain ⟨i, hex, hi, hall, rfl, rfl⟩ := hrel
      have HE := Lib.hid hex
      have HAL := Lib.hid hall
      clear hex hall
      by_cases hin : i < n
      · have hin' : (i : Int) < n := by omega
        obtain ⟨⟨t, b⟩, hz⟩ : ∃ z, l1[i]? = some z := ⟨_, List.getElem?_eq_getElem (by rw [HN.out.1]; exact hin)⟩
        obtain ⟨⟨t', b'⟩, hy⟩ : ∃ z, l2[i]? = some z := ⟨_, List.getElem?_eq_getElem (by rw [HN.out.2]; exact hin)⟩
        obtain ⟨x, rfl, c0, c0'⟩ := step_cell H1.out hz
        obtain ⟨y, rfl, c1, c1'⟩ := step_cell H2.out hy
        have d0 := (HE.out.cell (lt_of_cell c0) (fun h => h)).trans c0
        have d1 := (HE.out.cell (lt_of_cell c1) (fun h => h)).trans c1
        have d0' := (HE.out.cell (lt_of_cell c0') (fun h => h)).trans c0'
        have d1' := (HE.out.cell (lt_of_cell c1') (fun h => h)).trans c1'
        rw [Nat.mul_comm 2 i] at d0 d1
        rw [add_one] at d0' d1'
        simp only at d0 d1 d0' d1'
        have HZ := Lib.hid (And.intro hz hy)
        clear c0 c1 hz c0' c1' hy
        by_cases htt : t = t'
        · subst htt
          by_cases hbb : b = b'
          · subst hbb
            go_wp2_with fail
            go_quiet (fail)
            go_wp2_with fail
            go_roundg (n - (i + 1))
            case measure => omega
            case rel => exact ⟨i + 1, HE.out.drewN _, by omega, same_step HAL.out HZ.out.1 HZ.out.2, rfl, rfl⟩
          · have hne : (b == b') = false := by simpa using hbb
            clear hbb
            go_wp2_with fail
            go_quiet (fail)
            go_wp2_with fail
            go_ret
            exact Says.no (HE.out.drewN _)
        · have hne : (t == t') = false := by simpa using htt
          clear htt
          go_wp2_with fail
          go_quiet (fail)
          go_wp2_with fail
          go_ret
          exact Says.no (HE.out.drewN _)
      · have e0 : n = i := by omega
        subst e0
        have hin' : ¬ (n : Int) < n := by omega
        go_wp2_with fail
        go_ret
        exact Says.yes (same_all HN.out.1 HN.out.2 HAL.out) HE.out
  · have hne : ((n : Int) != (m : Int)) = true := by simp; omega
    clear hnm
    go_enter Try.func40, Try.ntmps40
    go_wp2_with fail
    go_ret
    exact Says.no (Chg.refl _)
theorem same1_gen {w : World} {a1 a2 : Option Addr} {cap1 cap2 : Nat} {l1 l2 : List (Int × Bool)} (h1 : Cells w a1 l1.length cap1 (stepsI l1)) (h2 : Cells w a2 l2.length cap2 (stepsI l2)) :
    Calls Try.prog 39 #[.slice a1 l1.length cap1, .slice a2 l2.length cap2] w (Says (l1 = l2) w) := by
  have H := Lib.hid (eqSteps_gen h1 h2)
  clear h1 h2
  obtain ⟨P, hP⟩ : ∃ P : Prop, (l1 = l2) = P := ⟨_, rfl⟩
  rw [hP] at H ⊢
  clear hP
  generalize l1.length = n at H ⊢
  generalize l2.length = m at H ⊢
  go_enter Try.func39, Try.ntmps39
  go_wp2_with (go_at_call 40; refine H.out.mono ?_; rintro e w' ⟨⟨b, rfl, hb⟩, hx⟩)
  go_ret
  exact ⟨⟨_, rfl, hb⟩, hx⟩
end Go.Proofs.Ytnamcghcgcknpaa
