/-
  The call awake() of the laws of this folder, reckoned once; the reckoner that knows it.
-/
import Derived.Test.YtibhkabmihhjiaaGreatDoorEX
namespace Go.Proofs.YtibhkabmihhjiaaGreatDoor
open Go Go.RowKit
set_option linter.unusedVariables false
namespace Ev
theorem awakeV : valOf (evFF Tryz.prog hk 100 11 [] st0) = some (.bool true) := by kernel_rfl
theorem awake (w : World) : Calls Tryz.prog 11 #[] w fun e w' => e = .returned (.bool true) ∧ Ext w w' :=
  known 100 11 [] rfl rfl awakeV w
def awakeG : List Value → Option Value
  | [] => some (.bool true)
  | _ => none
noncomputable def hkA : Hook := orHook (plainH 11 awakeG) hk
theorem hkA_ok : HookOk Tryz.prog hkA := by
  refine orHook_ok (plain_ok ⟨_, Tryz.func11, rfl⟩ fun args v h => ?_) hk_ok
  unfold awakeG at h
  split at h
  · injection h with h
    subst h
    exact ⟨fun ρ => .bool _, awake⟩
  · cases h
theorem knownA (n : Nat) (f : FuncId) (args : List Value) (hargs : args.all plainConst = true) {v : Value} (hv : scalC v = true) (h : valOf (evFF Tryz.prog hkA n f args st0) = some v) (w : World) :
    Calls Tryz.prog f args.toArray w fun e w' => e = .returned v ∧ Ext w w' :=
  reckonedF hmix named hkA_ok n f args hargs hv h w
end Ev
end Go.Proofs.YtibhkabmihhjiaaGreatDoor
