/-
  Contracts of the meter (chapter 6).
-/
import Derived.Test.YtdiklblnilmpoaaBailD
namespace Go.Proofs.Ytdiklblnilmpoaa
open Go.RowKit

theorem newMeter_any (b : Int) (w : World) :
    Calls Try.prog 9 #[.int .i64 b] w fun e w' => e = .returned (.pointer (some ⟨w.heap.size, 0, none⟩)) ∧ w' = w.alloc (.cells #[.int .i64 (max b 0)] 62) := by
  go_enter Try.func9, Try.ntmps9
  rcases (by omega : b < 0 ∨ 0 ≤ b) with h | h
  · go_wp2
    go_ret
    exact ⟨rfl, by rw [show max b 0 = 0 from by omega]⟩
  · have h' : ¬ b < 0 := by omega
    go_wp2
    go_ret
    exact ⟨rfl, by rw [show max b 0 = b from by omega]⟩
theorem newMeter_pos (b : Int) (w : World) (hb : 0 ≤ b) :
    Calls Try.prog 9 #[.int .i64 b] w fun e w' => e = .returned (.pointer (some ⟨w.heap.size, 0, none⟩)) ∧ w' = w.alloc (.cells #[.int .i64 b] 62) := by
  have h := newMeter_any b w
  rwa [show max b 0 = b from by omega] at h
theorem left_nil (w : World) :
    Calls Try.prog 13 #[.pointer none] w fun e w' => e = .returned (.int .i64 0) ∧ w = w' := by
  go_enter Try.func13, Try.ntmps13
  go_wp2
  go_ret
  exact ⟨rfl, rfl⟩
theorem left_some (m : Nat) (n : Int) (w : World) (h : w.cell? ⟨m, 0, none⟩ = some (.int .i64 n)) :
    Calls Try.prog 13 #[.pointer (some ⟨m, 0, none⟩)] w fun e w' => e = .returned (.int .i64 n) ∧ w = w' := by
  go_enter Try.func13, Try.ntmps13
  go_wp2
  go_ret
  exact ⟨rfl, rfl⟩
theorem use_neg (p : Option Addr) (n : Int) (w : World) (hn : n < 0) :
    Calls Try.prog 12 #[.pointer p, .int .i64 n] w fun e w' => e = .panicked [{ v := .iface 35 (.pointer (some ⟨w.heap.size, 0, none⟩)), recovered := false }] ∧ w' = w.alloc (.cells #[.int .i64 1, .int .i64 n] 59) := by
  go_enter Try.func12, Try.ntmps12
  go_wp2_with (go_at_call 16; refine (out_any _ _ _).mono ?_; rintro e w' ⟨rfl, rfl⟩)
  exact ⟨rfl, rfl, rfl⟩
theorem use_over (m : Nat) (k n : Int) (w : World) (hc : w.cell? ⟨m, 0, none⟩ = some (.int .i64 k)) (hn : ¬ n < 0) (hk : k < n) :
    Calls Try.prog 12 #[.pointer (some ⟨m, 0, none⟩), .int .i64 n] w fun e w' => e = .panicked [{ v := .iface 35 (.pointer (some ⟨w.heap.size, 0, none⟩)), recovered := false }] ∧ w' = w.alloc (.cells #[.int .i64 10, .int .i64 n] 59) := by
  go_enter Try.func12, Try.ntmps12
  go_wp2_with (first | (go_at_call 16; refine (out_any _ _ _).mono ?_; rintro e w' ⟨rfl, rfl⟩) | (go_at_call 13; refine (left_some _ _ _ hc).mono ?_; rintro e w' ⟨rfl, rfl⟩))
  exact ⟨rfl, rfl, rfl⟩
theorem use_nil (n : Int) (w : World) (hn : ¬ n < 0) (hk : 0 < n) :
    Calls Try.prog 12 #[.pointer none, .int .i64 n] w fun e w' => e = .panicked [{ v := .iface 35 (.pointer (some ⟨w.heap.size, 0, none⟩)), recovered := false }] ∧ w' = w.alloc (.cells #[.int .i64 10, .int .i64 n] 59) := by
  go_enter Try.func12, Try.ntmps12
  go_wp2_with (first | (go_at_call 16; refine (out_any _ _ _).mono ?_; rintro e w' ⟨rfl, rfl⟩) | (go_at_call 13; refine (left_nil _).mono ?_; rintro e w' ⟨rfl, rfl⟩))
  exact ⟨rfl, rfl, rfl⟩
theorem use_some (m : Nat) (k n : Int) (w : World) (hc : w.cell? ⟨m, 0, none⟩ = some (.int .i64 k)) (hf : w.frozen? ⟨m, 0, none⟩ = false) (hn : ¬ n < 0) (hk : ¬ k < n) (hk2 : k ≤ 9223372036854775807) :
    Calls Try.prog 12 #[.pointer (some ⟨m, 0, none⟩), .int .i64 n] w fun e w' => e = .returned (.tuple #[]) ∧ w' = w.setCell ⟨m, 0, none⟩ (.int .i64 (k - n)) := by
  go_enter Try.func12, Try.ntmps12
  go_wp2_with (go_at_call 13; refine (left_some _ _ _ hc).mono ?_; rintro e w' ⟨rfl, rfl⟩)
  go_end0
  exact ⟨rfl, rfl⟩
end Go.Proofs.Ytdiklblnilmpoaa
