/-
  The law EngineOrder, reckoned: part 2.
-/
import Derived.Test.YtibhkabmihhjiaaGreatDoorEZ
namespace Go.Proofs.YtibhkabmihhjiaaGreatDoor
open Go Go.RowKit
set_option linter.unusedVariables false
namespace Ev
set_option maxRecDepth 100000
theorem oBT (k : Nat) : valOf (evFF Tryz.prog hkA 100 3 [.bool true, .int .i64 (.ofNat (k + 7)), .bool true] st0) = some (.bool true) := by kernel_rfl
theorem oBF (k : Nat) : valOf (evFF Tryz.prog hkA 100 3 [.bool true, .int .i64 (.ofNat (k + 7)), .bool false] st0) = some (.bool true) := by kernel_rfl
theorem o1T : valOf (evFF Tryz.prog hkA 100 3 [.bool true, .int .i64 1, .bool true] st0) = some (.bool true) := by kernel_rfl
theorem o1F : valOf (evFF Tryz.prog hkA 100 3 [.bool true, .int .i64 1, .bool false] st0) = some (.bool true) := by kernel_rfl
theorem o2T : valOf (evFF Tryz.prog hkA 100 3 [.bool true, .int .i64 2, .bool true] st0) = some (.bool true) := by kernel_rfl
theorem o2F : valOf (evFF Tryz.prog hkA 100 3 [.bool true, .int .i64 2, .bool false] st0) = some (.bool true) := by kernel_rfl
end Ev
end Go.Proofs.YtibhkabmihhjiaaGreatDoor
