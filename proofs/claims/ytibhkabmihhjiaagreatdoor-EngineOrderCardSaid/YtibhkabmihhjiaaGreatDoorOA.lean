/-
  The law EngineOrder, reckoned: part 1.
-/
import Derived.Test.YtibhkabmihhjiaaGreatDoorEZ
namespace Go.Proofs.YtibhkabmihhjiaaGreatDoor
open Go Go.RowKit
set_option linter.unusedVariables false
namespace Ev
set_option maxRecDepth 100000
theorem oFT (sem : Int) : valOf (evFF Tryz.prog hkA 100 3 [.bool false, .int .i64 sem, .bool true] st0) = some (.bool true) := by kernel_rfl
theorem oFF (sem : Int) : valOf (evFF Tryz.prog hkA 100 3 [.bool false, .int .i64 sem, .bool false] st0) = some (.bool true) := by kernel_rfl
theorem oNT (k : Nat) : valOf (evFF Tryz.prog hkA 100 3 [.bool true, .int .i64 (.negSucc k), .bool true] st0) = some (.bool true) := by kernel_rfl
theorem oNF (k : Nat) : valOf (evFF Tryz.prog hkA 100 3 [.bool true, .int .i64 (.negSucc k), .bool false] st0) = some (.bool true) := by kernel_rfl
theorem oZT : valOf (evFF Tryz.prog hkA 100 3 [.bool true, .int .i64 0, .bool true] st0) = some (.bool true) := by kernel_rfl
theorem oZF : valOf (evFF Tryz.prog hkA 100 3 [.bool true, .int .i64 0, .bool false] st0) = some (.bool true) := by kernel_rfl
end Ev
end Go.Proofs.YtibhkabmihhjiaaGreatDoor
