/-
  The reckoner's hooks at this program: bail.Catch, eval.weigh with no weights, strings.Join, strconv.Atoi.
-/
import Derived.Test.YtibhkabmihhjiaaGreatDoorET
import Derived.Test.YtibhkabmihhjiaaGreatDoorEV
import Derived.Test.YtibhkabmihhjiaaGreatDoorEW
import Derived.Test.YtibhkabmihhjiaaGreatDoorShelf
import Derived.Test.YtibhkabmihhjiaaGreatDoorFG
import Derived.Lib.AtoiErrMem
import Derived.Laws.Externs
namespace Go.Proofs.YtibhkabmihhjiaaGreatDoor
open Go Go.RowKit
set_option linter.unusedVariables false
set_option linter.unusedSimpArgs false
namespace Ev
theorem named_of {P : Program} (h : P.funcs.toList.all (fun fn => !(fn.body.isSome && fn.name == "runtime.NumGoroutine")) = true) : Named P := by
  intro f fn hf hb
  have hm : fn ∈ P.funcs.toList := Array.mem_toList_iff.2 (Array.mem_of_getElem? hf)
  have := List.all_eq_true.1 h fn hm
  simpa [hb] using this
theorem named : Named Tryz.prog := named_of (by kernel_rfl)
theorem hmix : Tryz.prog.follows .mixedOrders = true := by kernel_rfl
theorem run_frombits (n : Int) (w : World) : (callFunc 205 #[.int .u64 n]).run Tryz.prog w = .ok (.value (.float .f64 n.toNat)) w := by
  rw [run_callFunc_extern Tryz.func205 (by kernel_rfl) (by kernel_rfl) (by kernel_rfl) (e := Extern.MathFloatBits.float64frombits) (by kernel_rfl)]
  rfl
theorem inf_walk (w : World) : Calls Tryz.prog 129 #[.int .i64 1] w fun e w' => e = .returned (.float .f64 9218868437227405312) ∧ w' = w := by
  have hfb := run_frombits
  go_enter Tryz.func129, Tryz.ntmps129
  go_wp2_with fail
  go_ret
  exact ⟨rfl, rfl⟩
def infG : List Value → Option Value
  | [.int .i64 n] => if n = 1 then some (.float .f64 9218868437227405312) else none
  | _ => none
theorem inf_ok : HookOk Tryz.prog (plainH 129 infG) := by
  refine plain_ok ⟨_, Tryz.func129, rfl⟩ fun args v h => ?_
  unfold infG at h
  split at h
  · split at h
    · next hn =>
      subst hn
      injection h with h
      subst h
      exact ⟨fun ρ => .float _ _, fun w => (inf_walk w).mono fun e w' ⟨h1, h2⟩ => ⟨h1, by subst h2; exact Chg.refl _⟩⟩
    · cases h
  · cases h
noncomputable def hk : Hook := orHook (catchH 47 174 31 3) (orHook (weighH 206 92) (orHook (joinH 77) (orHook (plainH 218 atoiG) (plainH 129 infG))))
theorem join_gen : JoinGen Tryz.prog 77 := fun bk o c xs sep w h1 h2 h3 h4 h5 => Tryz.strings_Join bk o c xs sep w h1 h2 h3 h4 h5
theorem atoi_gen (s : ByteArray) (n : Int) (hl : s.size ≤ 18) (h : Lib.atoi s.data.toList = some n) (w : World) : Calls Tryz.prog 218 #[.string s] w fun e w' => e = .returned (.tuple #[.int .i64 n, .nilIface]) ∧ Ext w w' := by
  refine (Tryz.strconv_Atoi s n hl h w).mono ?_
  rintro e w' ⟨rfl, t, rfl⟩
  exact ⟨rfl, Ext.of_below (Lib.bytesWorld_below _ _ _)⟩
theorem hk_ok : HookOk Tryz.prog hk :=
  orHook_ok (catch_ok catch_gen ⟨_, Tryz.func47, rfl⟩) (orHook_ok weigh_ok (orHook_ok (join_ok join_gen ⟨_, Tryz.func77, rfl⟩) (orHook_ok (atoi_ok ⟨_, Tryz.func218, rfl⟩ atoi_gen) inf_ok)))
/-- A call whose arguments are known, reckoned. -/
theorem known (n : Nat) (f : FuncId) (args : List Value) (hargs : args.all plainConst = true) {v : Value} (hv : scalC v = true) (h : valOf (evFF Tryz.prog hk n f args st0) = some v) (w : World) :
    Calls Tryz.prog f args.toArray w fun e w' => e = .returned v ∧ Ext w w' :=
  reckonedF hmix named hk_ok n f args hargs hv h w
end Ev
end Go.Proofs.YtibhkabmihhjiaaGreatDoor
