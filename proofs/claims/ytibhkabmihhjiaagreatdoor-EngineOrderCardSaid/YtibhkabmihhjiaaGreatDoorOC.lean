/-
  The law EngineOrder, reckoned: part 3.
-/
import Derived.Test.YtibhkabmihhjiaaGreatDoorEZ
namespace Go.Proofs.YtibhkabmihhjiaaGreatDoor
open Go Go.RowKit
set_option linter.unusedVariables false
namespace Ev
set_option maxRecDepth 100000
theorem o3T : valOf (evFF Tryz.prog hkA 100 3 [.bool true, .int .i64 3, .bool true] st0) = some (.bool true) := by kernel_rfl
theorem o3F : valOf (evFF Tryz.prog hkA 100 3 [.bool true, .int .i64 3, .bool false] st0) = some (.bool true) := by kernel_rfl
theorem o4T : valOf (evFF Tryz.prog hkA 100 3 [.bool true, .int .i64 4, .bool true] st0) = some (.bool true) := by kernel_rfl
theorem o4F : valOf (evFF Tryz.prog hkA 100 3 [.bool true, .int .i64 4, .bool false] st0) = some (.bool true) := by kernel_rfl
end Ev
end Go.Proofs.YtibhkabmihhjiaaGreatDoor
