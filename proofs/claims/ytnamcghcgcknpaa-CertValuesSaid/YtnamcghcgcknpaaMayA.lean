/-
  What certs may be (chapter 24): steps.
-/
import Derived.Test.YtnamcghcgcknpaaCertJ
import Derived.Handy
namespace Go.Proofs.Ytnamcghcgcknpaa
open Go.RowKit
set_option linter.unusedVariables false

/-- A step's token may be. -/
def okS (s : Int × Bool) : Bool := decide (1 ≤ s.1 ∧ s.1 ≤ 1099511627776)
/-- The cells of steps. -/
def stepsI (l : List (Int × Bool)) : List Value := l.flatMap fun s => [.int .i64 s.1, .bool s.2]
theorem stepsI_length (l : List (Int × Bool)) : (stepsI l).length = l.length * 2 := by
  induction l with
  | nil => rfl
  | cons s l ih =>
    have : stepsI (s :: l) = [.int .i64 s.1, .bool s.2] ++ stepsI l := rfl
    rw [this, List.length_append, ih]; simp; omega
theorem stepsI_get (l : List (Int × Bool)) : ∀ i s, l[i]? = some s → (stepsI l)[2 * i]? = some (.int .i64 s.1) ∧ (stepsI l)[2 * i + 1]? = some (.bool s.2) := by
  induction l with
  | nil => intro i s h; simp at h
  | cons t l ih =>
    intro i s h
    have e : stepsI (t :: l) = .int .i64 t.1 :: .bool t.2 :: stepsI l := rfl
    rw [e]
    cases i with
    | zero =>
      obtain rfl := (by simpa using h)
      exact ⟨rfl, rfl⟩
    | succ i =>
      rw [show 2 * (i + 1) = 2 * i + 1 + 1 by omega]
      simpa using ih i s (by simpa using h)
theorem add_one (x : Addr) (p : Nat) : x.add (2 * p + 1) = { block := (x.add (p * 2)).block, off := (x.add (p * 2)).off + 1 } := by
  rw [Nat.mul_comm 2 p]
  by_cases hp : p = 0
  · subst hp; simp [Addr.add]
  · have h2 : ¬ p * 2 = 0 := by omega
    simp [Addr.add, h2, Nat.add_assoc]
/-- A step in its place. -/
theorem step_cell {w : World} {a : Option Addr} {n cap : Nat} {l : List (Int × Bool)} (h : Cells w a n cap (stepsI l)) {i : Nat} {s : Int × Bool} (hi : l[i]? = some s) :
    ∃ x, a = some x ∧ w.cell? (x.add (2 * i)) = some (.int .i64 s.1) ∧ w.cell? (x.add (2 * i + 1)) = some (.bool s.2) := by
  obtain ⟨h1, h2⟩ := stepsI_get l i s hi
  obtain ⟨x, rfl, e1⟩ := h.2.2 _ _ h1
  obtain ⟨y, hy, e2⟩ := h.2.2 _ _ h2
  cases hy
  exact ⟨x, rfl, e1, e2⟩
theorem may1_any (t : Int) (b : Bool) (w : World) : Calls Try.prog 48 #[.agg #[.int .i64 t, .bool b]] w fun e w' => e = .returned (.bool (!okS (t, b))) ∧ Ext w w' := by
  have hx : Ext w (w.alloc (Obj.cells #[.int .i64 t, .bool b] 56)) := (Chg.refl w).alloc _
  have HX := Lib.hid hx
  clear hx
  by_cases h1 : t < 1
  · have hb : okS (t, b) = false := by simp [okS]; omega
    rw [hb]
    clear hb
    go_enter Try.func48, Try.ntmps48
    go_wp2_with fail
    go_ret
    exact ⟨rfl, HX.out⟩
  · by_cases h2 : 1099511627776 < t
    · have hb : okS (t, b) = false := by simp [okS]; omega
      rw [hb]
      clear hb
      go_enter Try.func48, Try.ntmps48
      go_wp2_with fail
      go_ret
      exact ⟨rfl, HX.out⟩
    · have hb : okS (t, b) = true := by simp [okS]; omega
      rw [hb]
      clear hb
      go_enter Try.func48, Try.ntmps48
      go_wp2_with fail
      go_ret
      exact ⟨rfl, HX.out⟩
theorem index_any {w : World} {a : Option Addr} {cap : Nat} {l : List (Int × Bool)} (h : Cells w a l.length cap (stepsI l)) :
    Calls Try.prog 64 #[.slice a l.length cap, .func (.func 48) #[] #[]] w fun e w' => Ext w w' ∧ ∃ z, e = .returned (.int .i64 z) ∧ decide (0 ≤ z) = !(l.all okS) := by
  have hcap := h.1
  have hmax := h.2.1
  unfold maxLen at hmax
  have H := Lib.hid h
  clear h
  obtain ⟨n, hn⟩ : ∃ n, l.length = n := ⟨_, rfl⟩
  obtain ⟨B, hB⟩ : ∃ B, l.all okS = B := ⟨_, rfl⟩
  rw [hn] at hcap H ⊢
  rw [hB]
  have HN := Lib.hid (And.intro hn hB)
  clear hn hB
  go_enter Try.func64, Try.ntmps64
  go_wp2_with fail
  go_loopg [8] n (fun g l8 wr => ∃ i : Nat, Ext w wr ∧ i ≤ n ∧ (∀ j s, j < i → l[j]? = some s → okS s = true) ∧ l8 = .int .i64 i ∧ g = n - i)
  case atStart => exact ⟨0, Chg.refl w, Nat.zero_le _, fun j s hj => by omega, rfl, rfl⟩
  case round =>
    obtain ⟨i, hex, hi, hall, rfl, rfl⟩ := hrel
    have HE := Lib.hid hex
    have HA := Lib.hid hall
    clear hall hex
    by_cases hin : i < n
    · have hin' : (i : Int) < n := by omega
      obtain ⟨s, hs⟩ : ∃ s, l[i]? = some s := ⟨_, List.getElem?_eq_getElem (by rw [HN.out.1]; exact hin)⟩
      obtain ⟨x, rfl, c0, c1⟩ := step_cell H.out hs
      have d0 : wr.cell? (x.add (2 * i)) = some (.int .i64 s.1) := by rw [HE.out.cell (lt_of_cell c0) (fun h => h)]; exact c0
      have d1 : wr.cell? (x.add (2 * i + 1)) = some (.bool s.2) := by rw [HE.out.cell (lt_of_cell c1) (fun h => h)]; exact c1
      clear c0 c1
      obtain ⟨t, b⟩ := s
      simp only at d0 d1
      rw [Nat.mul_comm 2 i] at d0
      rw [add_one] at d1
      have HS := Lib.hid hs
      clear hs
      have HM := Lib.hid (fun w => may1_any t b w)
      obtain ⟨B2, hB2⟩ : ∃ B2, okS (t, b) = B2 := ⟨_, rfl⟩
      rw [hB2] at HM
      have HB2 := Lib.hid hB2
      clear hB2
      cases B2 with
      | true =>
        go_wp2_with (go_at_call 48; refine (HM.out _).mono ?_; rintro e w' ⟨rfl, hx⟩)
        go_roundg (n - (i + 1))
        case measure => omega
        case rel =>
          refine ⟨i + 1, HE.out.trans hx, by omega, fun j s hj hs => ?_, rfl, rfl⟩
          rcases Nat.lt_or_ge j i with h | h
          · exact HA.out j s h hs
          · obtain rfl : j = i := by omega
            rw [HS.out] at hs
            cases hs
            exact HB2.out
      | false =>
        have hBf : B = false := by
          rw [← HN.out.2]
          refine Bool.eq_false_iff.2 fun h => ?_
          have := List.all_eq_true.1 h (t, b) (List.mem_of_getElem? HS.out)
          rw [HB2.out] at this; cases this
        have HBF := Lib.hid hBf
        have hi0 : 0 ≤ (i : Int) := by omega
        clear hBf
        go_wp2_with (go_at_call 48; refine (HM.out _).mono ?_; rintro e w' ⟨rfl, hx⟩)
        go_ret
        refine ⟨HE.out.trans hx, _, rfl, ?_⟩
        rw [HBF.out]
        simp
    · obtain rfl : i = n := by omega
      have hin' : ¬ (i : Int) < i := by omega
      have hBt : B = true := by
        rw [← HN.out.2]
        refine List.all_eq_true.2 fun s hs => ?_
        obtain ⟨j, hj, rfl⟩ := List.mem_iff_getElem.1 hs
        exact HA.out j _ (by rw [← HN.out.1]; exact hj) (List.getElem?_eq_getElem hj)
      have HBT := Lib.hid hBt
      clear hBt
      go_wp2_with fail
      go_ret
      refine ⟨HE.out, _, rfl, ?_⟩
      rw [HBT.out]
      rfl
theorem contains_any {w : World} {a : Option Addr} {cap : Nat} {l : List (Int × Bool)} (h : Cells w a l.length cap (stepsI l)) :
    Calls Try.prog 47 #[.slice a l.length cap, .func (.func 48) #[] #[]] w fun e w' => e = .returned (.bool (!(l.all okS))) ∧ Ext w w' := by
  have H := Lib.hid (index_any h)
  clear h
  generalize l.length = n at H ⊢
  generalize l.all okS = B at H ⊢
  go_enter Try.func47, Try.ntmps47
  go_wp2_with (go_at_call 64; refine H.out.mono ?_; rintro e w' ⟨hx, z, rfl, hz⟩)
  go_ret
  exact ⟨rfl, hx⟩
end Go.Proofs.Ytnamcghcgcknpaa
