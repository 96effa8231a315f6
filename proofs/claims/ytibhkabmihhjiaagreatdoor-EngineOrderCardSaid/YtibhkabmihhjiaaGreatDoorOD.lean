/-
  The law EngineOrder, reckoned: part 4.
-/
import Derived.Test.YtibhkabmihhjiaaGreatDoorEZ
namespace Go.Proofs.YtibhkabmihhjiaaGreatDoor
open Go Go.RowKit
set_option linter.unusedVariables false
namespace Ev
set_option maxRecDepth 100000
theorem o5T : valOf (evFF Tryz.prog hkA 100 3 [.bool true, .int .i64 5, .bool true] st0) = some (.bool true) := by kernel_rfl
theorem o5F : valOf (evFF Tryz.prog hkA 100 3 [.bool true, .int .i64 5, .bool false] st0) = some (.bool true) := by kernel_rfl
theorem o6T : valOf (evFF Tryz.prog hkA 100 3 [.bool true, .int .i64 6, .bool true] st0) = some (.bool true) := by kernel_rfl
theorem o6F : valOf (evFF Tryz.prog hkA 100 3 [.bool true, .int .i64 6, .bool false] st0) = some (.bool true) := by kernel_rfl
end Ev
end Go.Proofs.YtibhkabmihhjiaaGreatDoor
