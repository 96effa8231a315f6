/-
  Two values field by field (chapter 4): the same value, twice.
-/
import Derived.Test.YtnamcghcgcknpaaValE
namespace Go.Proofs.Ytnamcghcgcknpaa
open Go.RowKit
set_option linter.unusedVariables false
set_option maxRecDepth 100000 in
set_option maxHeartbeats 1600000 in
theorem fields_same {w : World} {v : Val} {a a' : Option Addr} {cap cap' : Nat} (h : Cells w a v.w.length cap (wordCells v.w)) (h' : Cells w a' v.w.length cap' (wordCells v.w)) :
    Calls Try.prog 15 #[valV v a cap, valV v a' cap'] w fun e w' => e = .returned (.bool true) ∧ Ext w w' := by
  obtain ⟨s, inf, l, lev, x⟩ := v
  simp only at h h'
  unfold valV
  simp only
  have hcap := h.1
  have hmax := h.2.1
  have hcap' := h'.1
  unfold maxLen at hmax
  have hb : Ext w ((w.alloc (Obj.cells #[.int .i64 s, .bool inf, .slice a l.length cap, .int .i64 lev, .float .f64 x] 31)).alloc (Obj.cells #[.int .i64 s, .bool inf, .slice a' l.length cap', .int .i64 lev, .float .f64 x] 31)) := ((Chg.refl w).alloc _).alloc _
  have H := Lib.hid (And.intro h h')
  have HX := Lib.hid hb
  have HS := Lib.hid (fun w => rsame_any x x w)
  have hsx : (fb x == fb x) = true := by simp
  rw [hsx] at HS
  clear h h' hsx hb
  have e1 : (s != s) = false := by simp
  have e2 : (lev != lev) = false := by simp
  have e3 : (inf != inf) = false := by simp
  obtain ⟨n, hn⟩ : ∃ n, l.length = n := ⟨_, rfl⟩
  rw [hn] at hcap hcap' H HX ⊢
  have HN := Lib.hid hn
  clear hn
  have e4 : ((n : Int) != n) = false := by simp
  go_enter Try.func15, Try.ntmps15
  go_wp2_with (go_at_call 34; refine (HS.out _).mono ?_; rintro e w' ⟨rfl, rfl⟩)
  go_loopg [5] n (fun g l5 wr => ∃ i : Nat, i ≤ n ∧ (∃ q, wr = ((w.alloc (Obj.cells #[.int .i64 s, .bool inf, .slice a n cap, .int .i64 lev, .float .f64 x] 31)).alloc (Obj.cells #[.int .i64 s, .bool inf, .slice a' n cap', .int .i64 lev, .float .f64 x] 31)).drewN q) ∧ l5 = .int .i64 i ∧ g = n - i)
  case atStart => exact ⟨0, Nat.zero_le _, ⟨0, rfl⟩, rfl, rfl⟩
  case round =>
    obtain ⟨i, hi, ⟨q, rfl⟩, rfl, rfl⟩ := hrel
    by_cases hin : i < n
    · have hin' : (i : Int) < n := by omega
      obtain ⟨y, rfl, c0⟩ := word_cell H.out.1 (m := i) (by rw [HN.out]; exact hin)
      obtain ⟨z, rfl, c1⟩ := word_cell H.out.2 (m := i) (by rw [HN.out]; exact hin)
      generalize l.getD i 0 = d at c0 c1
      have d0 := (HX.out.cell (lt_of_cell c0) (fun h => h)).trans c0
      have d1 := (HX.out.cell (lt_of_cell c1) (fun h => h)).trans c1
      have e5 : ((d : Int) != d) = false := by simp
      clear c0 c1
      go_wp2_with fail
      go_quiet (fail)
      go_wp2_with fail
      go_roundg (n - (i + 1))
      case measure => omega
      case rel => exact ⟨i + 1, by omega, ⟨_, rfl⟩, rfl, rfl⟩
    · obtain rfl : i = n := by omega
      go_wp2_with fail
      go_ret
      exact ⟨rfl, HX.out.drewN _⟩
end Go.Proofs.Ytnamcghcgcknpaa
