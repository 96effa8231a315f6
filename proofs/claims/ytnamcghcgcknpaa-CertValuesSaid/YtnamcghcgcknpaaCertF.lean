/-
  Values (chapter 4): what may be.
-/
import Derived.Test.YtnamcghcgcknpaaCertE
namespace Go.Proofs.Ytnamcghcgcknpaa
open Go.RowKit
set_option linter.unusedVariables false

set_option maxHeartbeats 400000 in
theorem may_any {w : World} {v : Val} {a : Option Addr} {cap : Nat} (h : Cells w a v.w.length cap (wordCells v.w)) (hx : v.x < 18446744073709551616) :
    Calls Try.prog 24 #[valV v a cap] w fun e w' => e = .returned (.int .i64 (mayV v)) ∧ Ext w w' := by
  obtain ⟨s, inf, l, lev, x⟩ := v
  simp only at h hx
  have hb : Ext w (w.alloc (Obj.cells #[.int .i64 s, .bool inf, .slice a l.length cap, .int .i64 lev, .float .f64 x] 31)) := (Chg.refl w).alloc _
  have HX := Lib.hid hb
  have H := Lib.hid (natMay_any inf (h.chg (S := fun _ => False) hb (fun _ _ h => h)))
  unfold valV
  simp only
  have hm : mayV ⟨s, inf, l, lev, x⟩ = if 1 ≤ s ∧ s ≤ 6 then
    if s = 1 ∨ s = 3 then (if mayNat inf l then 0 else 16)
    else if s = 2 ∨ s = 4 then (if 0 ≤ lev ∧ lev ≤ (if s = 2 then 1 else 7) then 0 else 16)
    else if fd s x then 0 else 16 else 9 := rfl
  rw [hm]
  clear hm h hb
  generalize l.length = n at H HX ⊢
  generalize mayNat inf l = N at H ⊢
  have HK := Lib.hid (fun w b h => known_any s w b h)
  have HN := Lib.hid (fun w b h => isNat_any s w b h)
  have HL := Lib.hid (fun w b h => isLevel_any s w b h)
  by_cases hk : 1 ≤ s ∧ s ≤ 6
  · rw [if_pos hk]
    have HK' := Lib.hid (fun w => HK.out w true (by simpa using hk))
    by_cases hn : s = 1 ∨ s = 3
    · rw [if_pos hn]
      have HN' := Lib.hid (fun w => HN.out w true (by simpa using hn))
      clear HK HN HL hk hn hx
      cases N with
      | true =>
        simp only [if_true]
        go_enter Try.func24, Try.ntmps24
        go_wp2_with (first | (go_at_call 49; refine (HK'.out _).mono ?_; rintro e w' ⟨rfl, rfl⟩) | (go_at_call 50; refine (HN'.out _).mono ?_; rintro e w' ⟨rfl, rfl⟩) | (go_at_call 51; refine H.out.mono ?_; rintro e w' ⟨rfl, hx⟩))
        go_ret
        exact ⟨rfl, HX.out.trans hx⟩
      | false =>
        simp only [Bool.false_eq_true, if_false]
        go_enter Try.func24, Try.ntmps24
        go_wp2_with (first | (go_at_call 49; refine (HK'.out _).mono ?_; rintro e w' ⟨rfl, rfl⟩) | (go_at_call 50; refine (HN'.out _).mono ?_; rintro e w' ⟨rfl, rfl⟩) | (go_at_call 51; refine H.out.mono ?_; rintro e w' ⟨rfl, hx⟩))
        go_ret
        exact ⟨rfl, HX.out.trans hx⟩
    · rw [if_neg hn]
      have HN' := Lib.hid (fun w => HN.out w false (by simpa using hn))
      by_cases hl : s = 2 ∨ s = 4
      · rw [if_pos hl]
        have HL' := Lib.hid (fun w => HL.out w true (by simpa using hl))
        have HT := Lib.hid (fun w => top_any s w)
        clear HK HN HL hk hn hx H
        generalize (if s = 2 then (1 : Int) else 7) = t at HT ⊢
        by_cases h0 : 0 ≤ lev
        · by_cases h1 : lev ≤ t
          · rw [if_pos ⟨h0, h1⟩]
            have e1 : decide (lev ≤ t) = true := by simp [h1]
            go_enter Try.func24, Try.ntmps24
            go_wp2_with (first | (go_at_call 49; refine (HK'.out _).mono ?_; rintro e w' ⟨rfl, rfl⟩) | (go_at_call 50; refine (HN'.out _).mono ?_; rintro e w' ⟨rfl, rfl⟩) | (go_at_call 52; refine (HL'.out _).mono ?_; rintro e w' ⟨rfl, rfl⟩))
            go_quiet ((go_at_call 53; exact Calls.quiet_of_same ((HT.out _).mono fun e w' ⟨h1, h2⟩ => ⟨h1, h2⟩)))
            go_wp2_with fail
            go_ret
            exact ⟨rfl, HX.out.drewN _⟩
          · rw [if_neg (fun h => h1 h.2)]
            have e1 : decide (lev ≤ t) = false := by simp [h1]
            go_enter Try.func24, Try.ntmps24
            go_wp2_with (first | (go_at_call 49; refine (HK'.out _).mono ?_; rintro e w' ⟨rfl, rfl⟩) | (go_at_call 50; refine (HN'.out _).mono ?_; rintro e w' ⟨rfl, rfl⟩) | (go_at_call 52; refine (HL'.out _).mono ?_; rintro e w' ⟨rfl, rfl⟩))
            go_quiet ((go_at_call 53; exact Calls.quiet_of_same ((HT.out _).mono fun e w' ⟨h1, h2⟩ => ⟨h1, h2⟩)))
            go_wp2_with fail
            go_ret
            exact ⟨rfl, HX.out.drewN _⟩
        · rw [if_neg (fun h => h0 h.1)]
          have e0 : decide (0 ≤ lev) = false := by simp [h0]
          have e2 : lev < 0 := by omega
          go_enter Try.func24, Try.ntmps24
          go_wp2_with (first | (go_at_call 49; refine (HK'.out _).mono ?_; rintro e w' ⟨rfl, rfl⟩) | (go_at_call 50; refine (HN'.out _).mono ?_; rintro e w' ⟨rfl, rfl⟩) | (go_at_call 52; refine (HL'.out _).mono ?_; rintro e w' ⟨rfl, rfl⟩))
          go_quiet (fail)
          go_wp2_with fail
          go_ret
          exact ⟨rfl, HX.out.drewN _⟩
      · rw [if_neg hl]
        have HL' := Lib.hid (fun w => HL.out w false (by simpa using hl))
        have HD := Lib.hid (fun w => double_any s x hx w)
        clear HK HN HL hk hn hx H hl
        generalize (if fd s x = true then (0 : Int) else 16) = t at HD ⊢
        go_enter Try.func24, Try.ntmps24
        go_wp2_with (first | (go_at_call 49; refine (HK'.out _).mono ?_; rintro e w' ⟨rfl, rfl⟩) | (go_at_call 50; refine (HN'.out _).mono ?_; rintro e w' ⟨rfl, rfl⟩) | (go_at_call 52; refine (HL'.out _).mono ?_; rintro e w' ⟨rfl, rfl⟩) | (go_at_call 54; refine (HD.out _).mono ?_; rintro e w' ⟨rfl, rfl⟩))
        go_ret
        exact ⟨rfl, HX.out⟩
  · rw [if_neg hk]
    have HK' := Lib.hid (fun w => HK.out w false (by simpa using hk))
    clear HK HN HL hk hx H
    go_enter Try.func24, Try.ntmps24
    go_wp2_with (go_at_call 49; refine (HK'.out _).mono ?_; rintro e w' ⟨rfl, rfl⟩)
    go_ret
    exact ⟨rfl, HX.out⟩
end Go.Proofs.Ytnamcghcgcknpaa
