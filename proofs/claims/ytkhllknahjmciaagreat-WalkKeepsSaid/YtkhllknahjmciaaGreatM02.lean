/-
  The document's own answer on paths (chapter 7): how great.
-/
import Derived.Test.YtkhllknahjmciaaGreatM01
/-! The document's own answer on paths (chapter 7): how great. -/
namespace Go.Proofs.YtkhllknahjmciaaGreat
open Go.RowKit
set_option linter.unusedVariables false
set_option linter.unusedSimpArgs false

def rsizeK (k mn mx n : Int) : Int :=
  if k = 4 ∨ k = 5 ∨ k = 6 then rsum n 1
  else if k = 7 then rsum (rsum n n) 2
  else if k = 8 then rsum n 2
  else if k = 9 then
    if 0 < n ∧ 1099511627776 / n < (if mx = -1 then min (max mn 0) 1099511627776 + 1 else max mx 0) then 1099511627776
    else rsum ((if mx = -1 then min (max mn 0) 1099511627776 + 1 else max mx 0) * n) 3
  else if k = 1 ∨ k = 2 ∨ k = 3 then 1 else 0
mutual
def rsize : Tr → Int → Int
  | .node k _ kids mn mx, at' => if 40 ≤ at' then 1099511627776 else rsizeK k mn mx (rsizes kids at' 0)
def rsizes : List Tr → Int → Int → Int
  | [], _, n => n
  | t :: ts, at', n => rsizes ts at' (rsum n (rsize t (at' + 1)))
end
theorem rsizes_drop {kids : List Tr} {i : Nat} {t : Tr} (h : kids[i]? = some t) (at' n : Int) : rsizes (kids.drop i) at' n = rsizes (kids.drop (i + 1)) at' (rsum n (rsize t (at' + 1))) := by
  obtain ⟨hi, rfl⟩ := List.getElem?_eq_some_iff.1 h
  rw [List.drop_eq_getElem_cons hi, rsizes]
theorem mul_le_of {n c M : Int} (hM : 0 ≤ M) (h0 : 0 ≤ n) (h1 : 0 ≤ c) (h : ¬ (0 < n ∧ M / n < c)) : 0 ≤ c * n ∧ c * n ≤ M := by
  refine ⟨Int.mul_nonneg h1 h0, ?_⟩
  by_cases hn : 0 < n
  · have h2 : c ≤ M / n := by
      rcases Int.lt_or_le (M / n) c with h3 | h3
      · exact absurd ⟨hn, h3⟩ h
      · exact h3
    exact Int.le_trans (Int.mul_le_mul_of_nonneg_right h2 h0) (Int.ediv_mul_le M (by omega))
  · have : n = 0 := by omega
    subst this
    simpa using hM
theorem rsizeK_le {k mn mx n : Int} (h : 0 ≤ n) : 0 ≤ rsizeK k mn mx n ∧ rsizeK k mn mx n ≤ 1099511627776 := by
  unfold rsizeK
  have hc0 : 0 ≤ (if mx = -1 then min (max mn 0) 1099511627776 + 1 else max mx 0) := by split <;> omega
  generalize (if mx = -1 then min (max mn 0) 1099511627776 + 1 else max mx 0) = c at hc0
  split
  · exact rsum_le _ _ ⟨h, by omega⟩
  · split
    · exact rsum_le _ _ ⟨(rsum_le n n ⟨h, h⟩).1, by omega⟩
    · split
      · exact rsum_le _ _ ⟨h, by omega⟩
      · split
        · split
          · omega
          · rename_i hq
            have h2 := mul_le_of (by omega) h hc0 hq
            exact rsum_le _ _ ⟨h2.1, by omega⟩
        · split <;> omega
theorem rsize_le (t : Tr) (at' : Int) : 0 ≤ rsize t at' ∧ rsize t at' ≤ 1099511627776 := by
  refine Tr.rec (motive_1 := fun t => ∀ at', 0 ≤ rsize t at' ∧ rsize t at' ≤ 1099511627776) (motive_2 := fun ts => ∀ at' n, 0 ≤ n → 0 ≤ rsizes ts at' n) ?_ ?_ ?_ t at'
  · intro k l kids mn mx ih at'
    rw [rsize]
    split
    · omega
    · exact rsizeK_le (ih _ _ (by omega))
  · intro at' n h
    rw [rsizes]; exact h
  · intro t ts ih1 ih2 at' n h
    rw [rsizes]
    exact ih2 _ _ (rsum_le _ _ ⟨h, (ih1 _).1⟩).1
set_option maxRecDepth 100000 in
set_option maxHeartbeats 1000000 in
theorem rsize_any (t : Tr) (w : World) (cs : List Value) (at' : Int) (h : TrC w t cs) (h0 : 0 ≤ at') (h1 : at' ≤ 100) :
    Calls Tryz.prog 63 #[.agg cs.toArray, .int .i64 at'] w fun e w' => e = .returned (.int .i64 (rsize t at')) ∧ Ext w w' := by
  induction t using Tr.ind generalizing w cs at' with
  | node k l kids mn mx ih =>
    obtain ⟨a, cap, css, rfl, hc, ht⟩ := TrC_node.1 h
    have hb := Blk.new w #[.int .i64 k, .string l, .slice a kids.length cap, .int .i64 mn, .int .i64 mx] 28
    have hw1 : Ext w (w.alloc (.cells #[.int .i64 k, .string l, .slice a kids.length cap, .int .i64 mn, .int .i64 mx] 28)) := (Chg.refl w).alloc _
    have hcap := hc.1
    have hmax := hc.2.1
    unfold maxLen at hmax
    obtain ⟨R, hR⟩ : ∃ R, rsize (.node k l kids mn mx) at' = R := ⟨_, rfl⟩
    rw [hR]
    rw [rsize] at hR
    have HI := Lib.hid ih
    clear ih
    have HK := Lib.hid (And.intro hc ht)
    have HB := Lib.hid (And.intro hb hw1)
    clear hc ht hb hw1 h
    obtain ⟨m, hm⟩ : ∃ m, kids.length = m := ⟨_, rfl⟩
    rw [hm] at HB hcap ⊢
    have HM := Lib.hid hm
    clear hm
    by_cases h40 : 40 ≤ at'
    · have h40' : decide (40 ≤ at') = true := by simpa using h40
      rw [if_pos h40] at hR
      have HR := Lib.hid hR
      clear hR
      go_enter Tryz.func63, Tryz.ntmps63
      go_wp2_with fail
      go_ret
      exact ⟨congrArg (fun n => Ending.returned (.int .i64 n)) HR.out, HB.out.2⟩
    · have h40' : decide (40 ≤ at') = false := by simpa using h40
      rw [if_neg h40] at hR
      obtain ⟨S, hS⟩ : ∃ S, rsizes kids at' 0 = S := ⟨_, rfl⟩
      rw [hS] at hR
      have HS := Lib.hid (And.intro hS hR)
      clear hS hR
      go_enter Tryz.func63, Tryz.ntmps63
      go_wp2_with fail
      go_loopg [5, 6] m (fun g l5 l6 wr => ∃ (i : Nat) (n : Int), i ≤ m ∧ Ext (w.alloc (.cells #[.int .i64 k, .string l, .slice a m cap, .int .i64 mn, .int .i64 mx] 28)) wr ∧ rsizes (kids.drop i) at' n = S ∧ 0 ≤ n ∧ n ≤ 1099511627776 ∧ l5 = .int .i64 n ∧ l6 = .int .i64 i ∧ g = m - i)
      case atStart => exact ⟨0, 0, Nat.zero_le _, Chg.refl _, HS.out.1, by omega, by omega, rfl, rfl, rfl⟩
      case round =>
        obtain ⟨i, n, hi, hx, hr, hn0, hn1, rfl, rfl, rfl⟩ := hrel
        have HX := Lib.hid hx
        have kb := HB.out.1.chg hx (fun h => h)
        obtain ⟨k0, f0, k1, f1, k2, f2, k3, f3, k4, f4⟩ := blk5_base kb
        clear kb
        by_cases hin : i < m
        · have hin' : (i : Int) < m := by omega
          obtain ⟨u, hu⟩ : ∃ u, kids[i]? = some u := ⟨_, List.getElem?_eq_getElem (by rw [HM.out]; exact hin)⟩
          obtain ⟨x, ku, lu, au, nu, cu, mnu, mxu, rfl, htu, c0, c1, c2, c3, c4⟩ := kid_at (HK.out.1.ext (HB.out.2.trans hx)) (HK.out.2.ext (HB.out.2.trans hx) _ _) hu
          rw [rsizes_drop hu] at hr
          have hs := rsize_le u (at' + 1)
          have HC := Lib.hid (HI.out u (List.mem_of_getElem? hu) wr _ (at' + 1) htu (by omega) (by omega))
          obtain ⟨d, hd⟩ : ∃ d, rsize u (at' + 1) = d := ⟨_, rfl⟩
          rw [hd] at HC hr hs
          have hs2 := rsum_le n d ⟨hn0, hs.1⟩
          have HS2 := Lib.hid (fun w => rsum_any n d (by omega) w)
          obtain ⟨q, hq⟩ : ∃ q, rsum n d = q := ⟨_, rfl⟩
          rw [hq] at HS2 hs2 hr
          have HR := Lib.hid hr
          clear hx hr hu htu hd hq
          go_wp2_with fail
          refine HC.out.mono ?_
          rintro e w2 ⟨rfl, hx2⟩
          have HX2 := Lib.hid hx2
          clear hx2
          go_wp2_with fail
          refine (HS2.out _).mono ?_
          rintro e w' ⟨rfl, rfl⟩
          go_wp2_with fail
          go_roundg (m - (i + 1))
          case measure => omega
          case rel => exact ⟨i + 1, q, by omega, HX.out.trans HX2.out, HR.out, hs2.1, hs2.2, rfl, rfl, rfl⟩
        · obtain rfl : i = m := by omega
          rw [← HM.out, drop_end] at hr
          rw [rsizes] at hr
          subst hr
          have hR := HS.out.2
          clear HS hx HI
          unfold rsizeK at hR
          have hk : k = 4 ∨ k = 5 ∨ k = 6 ∨ k = 7 ∨ k = 8 ∨ k = 9 ∨ k = 1 ∨ k = 2 ∨ k = 3 ∨ ¬ (1 ≤ k ∧ k ≤ 9) := by omega
          rcases hk with rfl | rfl | rfl | rfl | rfl | rfl | rfl | rfl | rfl | hk
          · rw [if_pos (by omega)] at hR
            have HC := Lib.hid (rsum_any n 1 (by omega) wr)
            rw [hR] at HC
            clear hR
            go_wp2_with fail
            refine HC.out.mono ?_
            rintro e w' ⟨rfl, rfl⟩
            go_wp2_with fail
            go_ret
            exact ⟨rfl, HB.out.2.trans HX.out⟩
          · rw [if_pos (by omega)] at hR
            have HC := Lib.hid (rsum_any n 1 (by omega) wr)
            rw [hR] at HC
            clear hR
            go_wp2_with fail
            refine HC.out.mono ?_
            rintro e w' ⟨rfl, rfl⟩
            go_wp2_with fail
            go_ret
            exact ⟨rfl, HB.out.2.trans HX.out⟩
          · rw [if_pos (by omega)] at hR
            have HC := Lib.hid (rsum_any n 1 (by omega) wr)
            rw [hR] at HC
            clear hR
            go_wp2_with fail
            refine HC.out.mono ?_
            rintro e w' ⟨rfl, rfl⟩
            go_wp2_with fail
            go_ret
            exact ⟨rfl, HB.out.2.trans HX.out⟩
          · rw [if_neg (by omega), if_pos rfl] at hR
            have hs2 := rsum_le n n ⟨hn0, hn0⟩
            have HS2 := Lib.hid (rsum_any n n (by omega) wr)
            obtain ⟨q, hq⟩ : ∃ q, rsum n n = q := ⟨_, rfl⟩
            rw [hq] at HS2 hs2 hR
            clear hq
            have HC := Lib.hid (rsum_any q 2 (by omega) wr)
            rw [hR] at HC
            clear hR
            go_wp2_with fail
            refine HS2.out.mono ?_
            rintro e w' ⟨rfl, rfl⟩
            go_wp2_with fail
            refine HC.out.mono ?_
            rintro e w' ⟨rfl, rfl⟩
            go_wp2_with fail
            go_ret
            exact ⟨rfl, HB.out.2.trans HX.out⟩
          · rw [if_neg (by omega), if_neg (by omega), if_pos rfl] at hR
            have HC := Lib.hid (rsum_any n 2 (by omega) wr)
            rw [hR] at HC
            clear hR
            go_wp2_with fail
            refine HC.out.mono ?_
            rintro e w' ⟨rfl, rfl⟩
            go_wp2_with fail
            go_ret
            exact ⟨rfl, HB.out.2.trans HX.out⟩
          · rw [if_neg (by omega), if_neg (by omega), if_neg (by omega), if_pos rfl] at hR
            by_cases hmx : mx = -1
            · subst hmx
              rw [if_pos rfl] at hR
              have hmn : mn < 0 ∨ (0 ≤ mn ∧ mn ≤ 1099511627776) ∨ 1099511627776 < mn := by omega
              rcases hmn with hmn | hmn | hmn
              · rw [show min (max mn 0) 1099511627776 + 1 = 1 by omega] at hR
                by_cases hn : 0 < n
                · by_cases hq : 1099511627776 / n < 1
                  · rw [if_pos ⟨hn, hq⟩] at hR
                    have e1 : decide (0 < n) = true := by simpa using hn
                    have e2 : decide (1099511627776 / n < 1) = true := by simpa using hq
                    have HR := Lib.hid hR
                    clear hR hq
                    go_wp2_with fail
                    go_ret
                    exact ⟨congrArg (fun n => Ending.returned (.int .i64 n)) HR.out, HB.out.2.trans HX.out⟩
                  · rw [if_neg (fun h => hq h.2)] at hR
                    have e1 : decide (0 < n) = true := by simpa using hn
                    have e2 : decide (1099511627776 / n < 1) = false := by simpa using hq
                    obtain ⟨p0, p1⟩ := mul_le_of (by omega) hn0 (by omega) (fun h => hq h.2 : ¬ (0 < n ∧ 1099511627776 / n < 1))
                    have HC := Lib.hid (rsum_any (1 * n) 3 (by omega) wr)
                    rw [hR] at HC
                    try simp only [Int.one_mul, Int.zero_mul] at HC p0 p1
                    clear hR hq
                    go_wp2_with fail
                    refine HC.out.mono ?_
                    rintro e w' ⟨rfl, rfl⟩
                    go_wp2_with fail
                    go_ret
                    exact ⟨rfl, HB.out.2.trans HX.out⟩
                · rw [if_neg (fun h => hn h.1)] at hR
                  have e1 : decide (0 < n) = false := by simpa using hn
                  obtain rfl : n = 0 := by omega
                  rw [Int.mul_zero] at hR
                  have HC := Lib.hid (rsum_any 0 3 (by omega) wr)
                  rw [hR] at HC
                  clear hR
                  go_wp2_with fail
                  refine HC.out.mono ?_
                  rintro e w' ⟨rfl, rfl⟩
                  go_wp2_with fail
                  go_ret
                  exact ⟨rfl, HB.out.2.trans HX.out⟩
              · rw [show min (max mn 0) 1099511627776 + 1 = mn + 1 by omega] at hR
                by_cases hn : 0 < n
                · by_cases hq : 1099511627776 / n < (mn + 1)
                  · rw [if_pos ⟨hn, hq⟩] at hR
                    have e1 : decide (0 < n) = true := by simpa using hn
                    have e2 : decide (1099511627776 / n < (mn + 1)) = true := by simpa using hq
                    have HR := Lib.hid hR
                    clear hR hq
                    go_wp2_with fail
                    go_ret
                    exact ⟨congrArg (fun n => Ending.returned (.int .i64 n)) HR.out, HB.out.2.trans HX.out⟩
                  · rw [if_neg (fun h => hq h.2)] at hR
                    have e1 : decide (0 < n) = true := by simpa using hn
                    have e2 : decide (1099511627776 / n < (mn + 1)) = false := by simpa using hq
                    obtain ⟨p0, p1⟩ := mul_le_of (by omega) hn0 (by omega) (fun h => hq h.2 : ¬ (0 < n ∧ 1099511627776 / n < (mn + 1)))
                    have HC := Lib.hid (rsum_any ((mn + 1) * n) 3 (by omega) wr)
                    rw [hR] at HC
                    try simp only [Int.one_mul, Int.zero_mul] at HC p0 p1
                    clear hR hq
                    go_wp2_with fail
                    refine HC.out.mono ?_
                    rintro e w' ⟨rfl, rfl⟩
                    go_wp2_with fail
                    go_ret
                    exact ⟨rfl, HB.out.2.trans HX.out⟩
                · rw [if_neg (fun h => hn h.1)] at hR
                  have e1 : decide (0 < n) = false := by simpa using hn
                  obtain rfl : n = 0 := by omega
                  rw [Int.mul_zero] at hR
                  have HC := Lib.hid (rsum_any 0 3 (by omega) wr)
                  rw [hR] at HC
                  clear hR
                  go_wp2_with fail
                  refine HC.out.mono ?_
                  rintro e w' ⟨rfl, rfl⟩
                  go_wp2_with fail
                  go_ret
                  exact ⟨rfl, HB.out.2.trans HX.out⟩
              · rw [show min (max mn 0) 1099511627776 + 1 = 1099511627777 by omega] at hR
                by_cases hn : 0 < n
                · by_cases hq : 1099511627776 / n < 1099511627777
                  · rw [if_pos ⟨hn, hq⟩] at hR
                    have e1 : decide (0 < n) = true := by simpa using hn
                    have e2 : decide (1099511627776 / n < 1099511627777) = true := by simpa using hq
                    have HR := Lib.hid hR
                    clear hR hq
                    go_wp2_with fail
                    go_ret
                    exact ⟨congrArg (fun n => Ending.returned (.int .i64 n)) HR.out, HB.out.2.trans HX.out⟩
                  · exact absurd (Int.lt_of_le_of_lt (Int.ediv_le_self n (by omega : (0 : Int) ≤ 1099511627776)) (by omega)) hq
                · rw [if_neg (fun h => hn h.1)] at hR
                  have e1 : decide (0 < n) = false := by simpa using hn
                  obtain rfl : n = 0 := by omega
                  rw [Int.mul_zero] at hR
                  have HC := Lib.hid (rsum_any 0 3 (by omega) wr)
                  rw [hR] at HC
                  clear hR
                  go_wp2_with fail
                  refine HC.out.mono ?_
                  rintro e w' ⟨rfl, rfl⟩
                  go_wp2_with fail
                  go_ret
                  exact ⟨rfl, HB.out.2.trans HX.out⟩
            · rw [if_neg hmx] at hR
              have em : (mx == -1) = false := by simpa using hmx
              by_cases hmx0 : 0 ≤ mx
              · rw [show max mx 0 = mx by omega] at hR
                by_cases hn : 0 < n
                · by_cases hq : 1099511627776 / n < mx
                  · rw [if_pos ⟨hn, hq⟩] at hR
                    have e1 : decide (0 < n) = true := by simpa using hn
                    have e2 : decide (1099511627776 / n < mx) = true := by simpa using hq
                    have HR := Lib.hid hR
                    clear hR hq
                    go_wp2_with fail
                    go_ret
                    exact ⟨congrArg (fun n => Ending.returned (.int .i64 n)) HR.out, HB.out.2.trans HX.out⟩
                  · rw [if_neg (fun h => hq h.2)] at hR
                    have e1 : decide (0 < n) = true := by simpa using hn
                    have e2 : decide (1099511627776 / n < mx) = false := by simpa using hq
                    obtain ⟨p0, p1⟩ := mul_le_of (by omega) hn0 (by omega) (fun h => hq h.2 : ¬ (0 < n ∧ 1099511627776 / n < mx))
                    have HC := Lib.hid (rsum_any (mx * n) 3 (by omega) wr)
                    rw [hR] at HC
                    try simp only [Int.one_mul, Int.zero_mul] at HC p0 p1
                    clear hR hq
                    go_wp2_with fail
                    refine HC.out.mono ?_
                    rintro e w' ⟨rfl, rfl⟩
                    go_wp2_with fail
                    go_ret
                    exact ⟨rfl, HB.out.2.trans HX.out⟩
                · rw [if_neg (fun h => hn h.1)] at hR
                  have e1 : decide (0 < n) = false := by simpa using hn
                  obtain rfl : n = 0 := by omega
                  rw [Int.mul_zero] at hR
                  have HC := Lib.hid (rsum_any 0 3 (by omega) wr)
                  rw [hR] at HC
                  clear hR
                  go_wp2_with fail
                  refine HC.out.mono ?_
                  rintro e w' ⟨rfl, rfl⟩
                  go_wp2_with fail
                  go_ret
                  exact ⟨rfl, HB.out.2.trans HX.out⟩
              · rw [show max mx 0 = 0 by omega] at hR
                by_cases hn : 0 < n
                · by_cases hq : 1099511627776 / n < 0
                  · rw [if_pos ⟨hn, hq⟩] at hR
                    have e1 : decide (0 < n) = true := by simpa using hn
                    have e2 : decide (1099511627776 / n < 0) = true := by simpa using hq
                    have HR := Lib.hid hR
                    clear hR hq
                    go_wp2_with fail
                    go_ret
                    exact ⟨congrArg (fun n => Ending.returned (.int .i64 n)) HR.out, HB.out.2.trans HX.out⟩
                  · rw [if_neg (fun h => hq h.2)] at hR
                    have e1 : decide (0 < n) = true := by simpa using hn
                    have e2 : decide (1099511627776 / n < 0) = false := by simpa using hq
                    obtain ⟨p0, p1⟩ := mul_le_of (by omega) hn0 (by omega) (fun h => hq h.2 : ¬ (0 < n ∧ 1099511627776 / n < 0))
                    have HC := Lib.hid (rsum_any (0 * n) 3 (by omega) wr)
                    rw [hR] at HC
                    try simp only [Int.one_mul, Int.zero_mul] at HC p0 p1
                    clear hR hq
                    go_wp2_with fail
                    refine HC.out.mono ?_
                    rintro e w' ⟨rfl, rfl⟩
                    go_wp2_with fail
                    go_ret
                    exact ⟨rfl, HB.out.2.trans HX.out⟩
                · rw [if_neg (fun h => hn h.1)] at hR
                  have e1 : decide (0 < n) = false := by simpa using hn
                  obtain rfl : n = 0 := by omega
                  rw [Int.mul_zero] at hR
                  have HC := Lib.hid (rsum_any 0 3 (by omega) wr)
                  rw [hR] at HC
                  clear hR
                  go_wp2_with fail
                  refine HC.out.mono ?_
                  rintro e w' ⟨rfl, rfl⟩
                  go_wp2_with fail
                  go_ret
                  exact ⟨rfl, HB.out.2.trans HX.out⟩
          · rw [if_neg (by omega), if_neg (by omega), if_neg (by omega), if_neg (by omega), if_pos (by omega)] at hR
            subst hR
            go_wp2_with fail
            go_ret
            exact ⟨rfl, HB.out.2.trans HX.out⟩
          · rw [if_neg (by omega), if_neg (by omega), if_neg (by omega), if_neg (by omega), if_pos (by omega)] at hR
            subst hR
            go_wp2_with fail
            go_ret
            exact ⟨rfl, HB.out.2.trans HX.out⟩
          · rw [if_neg (by omega), if_neg (by omega), if_neg (by omega), if_neg (by omega), if_pos (by omega)] at hR
            subst hR
            go_wp2_with fail
            go_ret
            exact ⟨rfl, HB.out.2.trans HX.out⟩
          · rw [if_neg (by omega), if_neg (by omega), if_neg (by omega), if_neg (by omega), if_neg (by omega)] at hR
            subst hR
            have d1 : (k == 1) = false := by simp; omega
            have d2 : (k == 2) = false := by simp; omega
            have d3 : (k == 3) = false := by simp; omega
            have d4 : (k == 4) = false := by simp; omega
            have d5 : (k == 5) = false := by simp; omega
            have d6 : (k == 6) = false := by simp; omega
            have d7 : (k == 7) = false := by simp; omega
            have d8 : (k == 8) = false := by simp; omega
            have d9 : (k == 9) = false := by simp; omega
            go_wp2_with fail
            go_ret
            exact ⟨rfl, HB.out.2.trans HX.out⟩
end Go.Proofs.YtkhllknahjmciaaGreat
