/-
  awake (law 6's own look at what the document fixes) answers true, and changes nothing that was there.
-/
import Derived.Test.YtdiklblnilmpoaaDoorBailE
namespace Go.Proofs.YtdiklblnilmpoaaDoor
open Go.RowKit

abbrev NoD : World → Nat → Prop := fun _ _ => False
theorem as_int (v : Value) (w : World) : (Instr.typeAssert (.iface 3 v) 20 3 true).run Tryd.prog w = .ok (.tuple #[v, .bool true]) w := by
  simp [Instr.typeAssert, run_underlying Tryd.underlying3]
theorem awake1_runs (w : World) : Runs NoD (.func (.func 11) #[] #[]) w (fun o _ => o = .bail 4 7) := by
  refine Runs.of (fun args w => run_enter Tryd.func11 rfl rfl args w) ?_
  go_enter Tryd.func11, Tryd.ntmps11
  go_wp2_with fail
  refine (out_fin (D := NoD) 4 7 w loc_none (there_none w)).mono ?_
  rintro e w' ⟨hk, he, _⟩
  obtain ⟨ch, b, rfl, rest⟩ := he
  exact ⟨rfl, hk, .bail 4 7, ⟨ch, b, rfl, rest⟩, rfl⟩
theorem awake2_runs (w : World) : Runs NoD (.func (.func 13) #[] #[]) w (fun o _ => o = .other 3 (.int .i64 3)) := by
  refine Runs.of (fun args w => run_enter Tryd.func13 rfl rfl args w) ?_
  go_enter Tryd.func13, Tryd.ntmps13
  go_wp2
  exact ⟨rfl, Keep.refl w, .other 3 (.int .i64 3), ⟨_, rfl, Thrown.one _, .inl (by decide)⟩, rfl⟩
theorem awake_catch (w : World) : Calls Tryd.prog 5 #[.func (.func 11) #[] #[]] w fun e w' => e = .returned (.tuple #[.int .i64 4, .int .i64 7]) ∧ Ext w w' := by
  refine (catch_runs loc_none (there_none w) fun w1 _ => awake1_runs w1).mono ?_
  rintro e w' ⟨o, w2, hk, rfl, ⟨hk', _⟩, he⟩
  exact ⟨he, hk'.ext⟩
theorem awake_safe (w : World) : Calls Tryd.prog 6 #[.func (.func 13) #[] #[]] w fun e w' => e = .returned (.tuple #[.iface 3 (.int .i64 3), .bool false]) ∧ Ext w w' := by
  refine (safe_runs loc_none (there_none w) fun w1 _ => awake2_runs w1).mono ?_
  rintro e w' ⟨o, w2, hk, rfl, ⟨hk', _⟩, he, _⟩
  exact ⟨he, hk'.ext⟩
theorem awake_any (w : World) : Calls Tryd.prog 4 #[] w fun e w' => e = .returned (.bool true) ∧ Ext w w' := by
  have hi := as_int
  go_enter Tryd.func4, Tryd.ntmps4
  go_wp2_with fail
  refine (awake_catch w).mono ?_
  rintro e w1 ⟨rfl, h1⟩
  go_wp2_with fail
  refine (awake_safe w1).mono ?_
  rintro e w2 ⟨rfl, h2⟩
  go_wp2_with (first | (go_at_call 14; refine (newMeter_pos 5 _ (by omega)).mono ?_; rintro e w' ⟨rfl, rfl⟩) | (go_at_call 15; refine (left_some _ 5 _ (by simp [go_sem])).mono ?_; rintro e w' ⟨rfl, rfl⟩))
  go_ret
  exact ⟨rfl, (h1.trans (h2.mono fun _ _ h => h)).alloc _⟩
end Go.Proofs.YtdiklblnilmpoaaDoor
