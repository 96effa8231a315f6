/-
  The law EngineOrder, for all arguments.
-/
import Derived.Test.YtibhkabmihhjiaaGreatDoorOA
import Derived.Test.YtibhkabmihhjiaaGreatDoorOB
import Derived.Test.YtibhkabmihhjiaaGreatDoorOC
import Derived.Test.YtibhkabmihhjiaaGreatDoorOD
namespace Go.Proofs.YtibhkabmihhjiaaGreatDoor
open Go Go.RowKit
set_option linter.unusedVariables false
namespace Ev
theorem orderV (r : Bool) (sem : Int) (t : Bool) : valOf (evFF Tryz.prog hkA 100 3 [.bool r, .int .i64 sem, .bool t] st0) = some (.bool true) := by
  cases r with
  | false =>
    cases t with
    | true => exact oFT sem
    | false => exact oFF sem
  | true =>
    have h : (∃ k, sem = .negSucc k) ∨ sem = 0 ∨ sem = 1 ∨ sem = 2 ∨ sem = 3 ∨ sem = 4 ∨ sem = 5 ∨ sem = 6 ∨ ∃ k : Nat, sem = .ofNat (k + 7) := by
      cases sem with
      | negSucc k => exact .inl ⟨k, rfl⟩
      | ofNat n =>
        rcases n with _ | _ | _ | _ | _ | _ | _ | n
        · exact .inr (.inl rfl)
        · exact .inr (.inr (.inl rfl))
        · exact .inr (.inr (.inr (.inl rfl)))
        · exact .inr (.inr (.inr (.inr (.inl rfl))))
        · exact .inr (.inr (.inr (.inr (.inr (.inl rfl)))))
        · exact .inr (.inr (.inr (.inr (.inr (.inr (.inl rfl))))))
        · exact .inr (.inr (.inr (.inr (.inr (.inr (.inr (.inl rfl)))))))
        · exact .inr (.inr (.inr (.inr (.inr (.inr (.inr (.inr ⟨n, rfl⟩)))))))
    cases t with
    | true =>
      rcases h with ⟨k, rfl⟩ | rfl | rfl | rfl | rfl | rfl | rfl | rfl | ⟨k, rfl⟩
      · exact oNT k
      · exact oZT
      · exact o1T
      · exact o2T
      · exact o3T
      · exact o4T
      · exact o5T
      · exact o6T
      · exact oBT k
    | false =>
      rcases h with ⟨k, rfl⟩ | rfl | rfl | rfl | rfl | rfl | rfl | rfl | ⟨k, rfl⟩
      · exact oNF k
      · exact oZF
      · exact o1F
      · exact o2F
      · exact o3F
      · exact o4F
      · exact o5F
      · exact o6F
      · exact oBF k
theorem order (r : Bool) (sem : Int) (t : Bool) (w : World) : Calls Tryz.prog 3 #[.bool r, .int .i64 sem, .bool t] w fun e w' => e = .returned (.bool true) ∧ Below w.heap.size w w' :=
  (knownA 100 3 [.bool r, .int .i64 sem, .bool t] rfl rfl (orderV r sem t) w).mono fun _ _ ⟨h, x⟩ => ⟨h, x.below⟩
end Ev
end Go.Proofs.YtibhkabmihhjiaaGreatDoor
