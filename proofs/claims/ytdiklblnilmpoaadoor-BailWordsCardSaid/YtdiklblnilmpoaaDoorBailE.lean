/-
  Contracts of the meter (chapter 6).
-/
import Derived.Test.YtdiklblnilmpoaaDoorBailD
namespace Go.Proofs.YtdiklblnilmpoaaDoor
open Go.RowKit

theorem newMeter_any (b : Int) (w : World) :
    Calls Tryd.prog 14 #[.int .i64 b] w fun e w' => e = .returned (.pointer (some ⟨w.heap.size, 0, none⟩)) ∧ w' = w.alloc (.cells #[.int .i64 (max b 0)] 45) := by
  go_enter Tryd.func14, Tryd.ntmps14
  rcases (by omega : b < 0 ∨ 0 ≤ b) with h | h
  · go_wp2
    go_ret
    exact ⟨rfl, by rw [show max b 0 = 0 from by omega]⟩
  · have h' : ¬ b < 0 := by omega
    go_wp2
    go_ret
    exact ⟨rfl, by rw [show max b 0 = b from by omega]⟩
theorem newMeter_pos (b : Int) (w : World) (hb : 0 ≤ b) :
    Calls Tryd.prog 14 #[.int .i64 b] w fun e w' => e = .returned (.pointer (some ⟨w.heap.size, 0, none⟩)) ∧ w' = w.alloc (.cells #[.int .i64 b] 45) := by
  have h := newMeter_any b w
  rwa [show max b 0 = b from by omega] at h
theorem left_nil (w : World) :
    Calls Tryd.prog 15 #[.pointer none] w fun e w' => e = .returned (.int .i64 0) ∧ w = w' := by
  go_enter Tryd.func15, Tryd.ntmps15
  go_wp2
  go_ret
  exact ⟨rfl, rfl⟩
theorem left_some (m : Nat) (n : Int) (w : World) (h : w.cell? ⟨m, 0, none⟩ = some (.int .i64 n)) :
    Calls Tryd.prog 15 #[.pointer (some ⟨m, 0, none⟩)] w fun e w' => e = .returned (.int .i64 n) ∧ w = w' := by
  go_enter Tryd.func15, Tryd.ntmps15
  go_wp2
  go_ret
  exact ⟨rfl, rfl⟩
end Go.Proofs.YtdiklblnilmpoaaDoor
