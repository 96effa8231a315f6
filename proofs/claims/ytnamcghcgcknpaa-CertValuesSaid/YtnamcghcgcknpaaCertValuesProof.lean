/-
  CertValues: any value is written, or refused; any bytes are read as the value that they begin with, or refused; as the document says. No condition.
-/
import Derived.Test.YtnamcghcgcknpaaRows
import Derived.Test.YtnamcghcgcknpaaValK
import Derived.Test.YtnamcghcgcknpaaLawR
import Derived.WalkKit
import Derived.Below
import Derived.Carry
import Derived.ProofKit
import Derived.OpenShut
import Derived.ShutString
import Derived.Lib.SmallJoins
namespace Go.Proofs.Ytnamcghcgcknpaa.certValues
open Go.RowKit
open Go.ChangeShapes Go.WideShapes Go.ChangeAt Go.RowKit Go.Joins
set_option linter.unusedVariables false

theorem own : ownKnob Try.prog.godebug = none := by kernel_rfl
theorem laidOut : laidOutB Try.prog = true := by kernel_rfl

set_option maxRecDepth 100000 in
theorem lifted (os : Os) (started : os.Started) (H : Type) (enc : TypeId × Value → H) :
    ReturnsInHanded {} Try.checked os 4 .any (Rows.certValuesSpec.pre6 enc Try.prog Try.f4 Rows.certValuesRow.domain false) (Rows.certValuesSpec.post enc Try.prog Try.f4 false true false false) := by
  refine returnsInHanded_of_change (C := Try.checked) own started (by kernel_rfl) Try.func4
    (ChangeSpec.witness6 (enc := enc) (C := Try.checked) false ⟨#[], #[.agg #[.int .i64 0, .bool false, .slice none 0 0, .int .i64 0, .float .f64 0], .slice none 0 0], []⟩ 8 (by kernel_rfl) (by kernel_rfl) (by kernel_rfl) (by kernel_rfl)) ?_
  intro W base args ds gs before hval0 hW hcnd _
  have hval : ∀ (j : Nat) t v, Try.f4.params[j]? = some t → args[j]? = some v → Value.okWide Try.prog W .any base t v := hval0
  have hW' := hW
  obtain ⟨p, q, hA0, hV, rfl, hfz, hnd⟩ := hW
  have hA : DataW.TrodAll enc Try.prog W 0 (fun _ => true) true Try.f4.params.toList args.toList ds p := hA0
  rw [Try.params4] at hA hval
  obtain ⟨v0, vs0, d0, ds0, p0, q0, hargs, rfl, rfl, h0, r0⟩ := trodAll_cons hA
  obtain ⟨v1, vs1, d1, ds1, p1, q1, rfl, rfl, rfl, h1, r1⟩ := trodAll_cons r0
  obtain ⟨rfl, rfl, rfl⟩ := trodAll_nil r1
  obtain rfl : args = #[v0, v1] := by cases args; simp_all
  obtain ⟨rfl, rfl⟩ := trodVars_none hV
  have k0 := h0
  have k1 := h1
  obtain ⟨cs0, rfl, hsz0⟩ := okWide_struct Try.underlying31 (hval 0 31 v0 rfl rfl)
  obtain ⟨fuel, hf⟩ := h0
  obtain ⟨v, a, cap, hcs, hcv, h32, hx⟩ := value_reads hf
  have lt0 : ∀ x ∈ p0, x.block < W.heap.size := DataW.trod_lt fuel _ _ _ hf
  obtain ⟨a2, len2, cap2, rfl⟩ := okWide_slice Try.underlying22 (hval 1 22 v1 rfl rfl)
  obtain ⟨fuel2, hf2⟩ := h1
  have lt1 : ∀ x ∈ p1, x.block < W.heap.size := DataW.trod_lt fuel2 _ _ _ hf2
  obtain ⟨a3, cap3, zs, hcs2, hcl2, hwz⟩ := ints_reads Try.underlying22 Try.underlying5 (by kernel_rfl) hf2
  have hz0 : ∀ z ∈ zs, 0 ≤ z ∧ z ≤ 255 := fun z hz => by
    have := hwz z hz
    simp only [Lit.wf, Bool.and_eq_true, decide_eq_true_eq] at this
    exact ⟨this.1, this.2⟩
  have hwc : zs.map (Value.int .u8) = byteCells (zs.map Int.toNat) := by
    unfold byteCells
    rw [List.map_map]
    refine List.map_congr_left fun z hz => ?_
    have := hz0 z hz
    simp only [Function.comp_apply]
    rw [Int.toNat_of_nonneg this.1]
  rw [hwc] at hcl2
  have hbb : ∀ b ∈ zs.map Int.toNat, b < 256 := fun b hb => by
    obtain ⟨z, hz, rfl⟩ := List.mem_map.1 hb
    have := hz0 z hz
    omega
  have he2 : (Value.slice a2 len2 cap2 : Value) = .slice a3 zs.length cap3 := by
    have := hcs2
    simp only [Value.cells] at this
    simpa using this
  have hv0 : Value.agg cs0 = valV v a cap := by
    obtain ⟨l⟩ := cs0
    simp only [Value.cells] at hcs
    unfold valV
    rw [← hcs]
  clear hA0 hval0
  simp only [List.append_nil] at hW'
  rw [hv0, he2]
  refine (values_walk hcv h32 hx hcl2 hbb (by simp)).mono fun e W' ⟨he, bel⟩ => ?_
  subst he
  rw [hv0, he2] at hW'
  rw [hv0] at k0
  rw [he2] at k1
  exact ⟨_, rfl, _, _, _, [], _, [], hW', trodAll_mk1 (shut_bool Try.underlying4 _), (trodAll_cons_mk (Below.trod laidOut (by kernel_rfl) (of_decide_eq_true (by kernel_rfl)) k0 bel lt0) (trodAll_cons_mk (Below.trod laidOut (by kernel_rfl) (of_decide_eq_true (by kernel_rfl)) k1 bel lt1) trodAll_mk0)), rfl, bel.frame _, fun h => by cases h⟩

theorem over : Rows.certValuesRow.holds Try.pinned (OpenSpec.ofChange Rows.certValuesSpec) :=
  OpenClaim.holds_of_wide 4 Try.f4 rfl rfl rfl rfl rfl rfl rfl ⟨rfl, rfl, rfl, rfl, rfl⟩ rfl rfl rfl rfl rfl (by kernel_rfl) Try.func4 (by kernel_rfl)
    (of_decide_eq_true (by kernel_rfl)) (by unfold Func.isWrapper; first | (rw [if_pos (by decide +kernel)]; kernel_rfl) | (rw [if_neg (by decide +kernel)]; exact ⟨rfl, rfl⟩))
    (fun os started H enc _ => lifted os started H enc)

theorem proved : Rows.CertValuesSaid :=
  over
#print axioms proved
end Go.Proofs.Ytnamcghcgcknpaa.certValues
