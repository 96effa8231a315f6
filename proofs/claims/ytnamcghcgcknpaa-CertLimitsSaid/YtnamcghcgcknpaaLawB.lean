/-
  The law CertBytes (chapter 24): bytes that are taken, written again, are themselves.
-/
import Derived.Test.YtnamcghcgcknpaaLawA
namespace Go.Proofs.Ytnamcghcgcknpaa
open Go.RowKit
set_option linter.unusedVariables false

/-- A slice of integers that came in. -/
def IsRow (k : IntKind) (w : World) (a : Option Addr) (len cap : Nat) (zs : List Int) : Prop :=
  (a = none ∧ len = 0 ∧ cap = 0 ∧ zs = []) ∨
  ∃ x, a = some x ∧ len ≤ cap ∧ cap ≤ maxLen ∧ zs.length = cap ∧ (∀ i, i < zs.length → w.cell? (x.add i) = some (.int k (zs.getD i 0))) ∧ ∀ n ∈ zs, (Lit.int k n).wf = true
/-- Its bytes. -/
theorem row_bytes {w : World} {a : Option Addr} {len cap : Nat} {zs : List Int} (h : IsRow .u8 w a len cap zs) : ∃ bs : List Nat, bs.length = len ∧ (∀ b ∈ bs, b < 256) ∧ Cells w a len cap (byteCells bs) := by
  rcases h with ⟨rfl, rfl, rfl, rfl⟩ | ⟨x, rfl, hl, hm, hz, hc, hw⟩
  · exact ⟨[], rfl, by simp, Nat.le_refl _, by unfold maxLen; omega, fun j u hu => by simp [byteCells] at hu⟩
  · refine ⟨(zs.take len).map Int.toNat, by simp; omega, fun b hb => ?_, hl, hm, fun j u hu => ⟨x, rfl, ?_⟩⟩
    · obtain ⟨z, hz', rfl⟩ := List.mem_map.1 hb
      have := hw z (List.mem_of_mem_take hz')
      simp only [Lit.wf, Bool.and_eq_true, decide_eq_true_eq] at this
      have h1 : 0 ≤ z := this.1
      have h2 : z ≤ 255 := this.2
      omega
    · have hj : j < len := by
        rcases Nat.lt_or_ge j len with h | h
        · exact h
        · rw [List.getElem?_eq_none (by simp [byteCells]; omega)] at hu; cases hu
      have hjz : j < zs.length := by omega
      have hmem : zs[j] ∈ zs := List.getElem_mem _
      have := hw _ hmem
      simp only [Lit.wf, Bool.and_eq_true, decide_eq_true_eq] at this
      have h1 : 0 ≤ zs[j] := this.1
      have e : (byteCells ((zs.take len).map Int.toNat))[j]? = some (.int .u8 (zs.getD j 0)) := by
        simp [byteCells, hj, hjz]
        omega
      rw [e] at hu
      rw [hc j hjz, hu]
/-- What a claim that was read is made of. -/
theorem dCrt0_fits {bs r : List Nat} {c : Crt} (hb : ∀ b ∈ bs, b < 256) (h : dCrt0 bs = some (c, r)) : (∀ d ∈ c.claim.w, d < 4294967296) ∧ c.claim.x < 18446744073709551616 := by
  match bs, hb, h with
  | m :: k :: n :: t, hb, h =>
    rw [dCrt0] at h
    have hb1 : ∀ b ∈ t, b < 256 := fun b h => hb b (by simp [h])
    split at h
    case isFalse => cases h
    split at h
    · cases h
    · cases h
    · rename_i l k2 t2 hl
      split at h
      · cases h
      · rename_i ws u hw
        split at h
        · cases h
        · rename_i v z hv
          obtain ⟨rfl, rfl⟩ := by simpa using h
          obtain ⟨rfl, -, -⟩ := dNums_inv n t _ _ hb1 hl
          have hb2 : ∀ b ∈ t2, b < 256 := fun b h => hb1 b (by simp [h])
          obtain ⟨rfl, -, -⟩ := dWalks_inv k2 t2 _ _ hb2 hw
          obtain ⟨-, -, h1, h2, -⟩ := dVal_inv (fun b h => hb2 b (by simp [h])) hv
          exact ⟨h1, h2⟩
  | [], _, h => simp [dCrt0] at h
  | [_], _, h => simp [dCrt0] at h
  | [_, _], _, h => simp [dCrt0] at h
theorem dCrtR_inv {bs r : List Nat} {c : Crt} (hb : ∀ b ∈ bs, b < 256) (h : dCrtR bs = some (c, r)) : eCrt c = bs ∧ codeC c = 0 ∧ (∀ d ∈ c.claim.w, d < 4294967296) ∧ c.claim.x < 18446744073709551616 := by
  unfold dCrtR at h
  split at h
  · rename_i d hd
    split at h
    · rename_i hm
      obtain ⟨rfl, -⟩ := by simpa using h
      obtain ⟨h1, h2⟩ := dCrt0_inv hb hd
      obtain ⟨h3, h4⟩ := dCrt0_fits hb hd
      exact ⟨by simpa using h1.symm, by rw [codeC, if_pos hm, h2], h3, h4⟩
    · cases h
  · cases h
set_option maxRecDepth 100000 in
set_option maxHeartbeats 2000000 in
theorem bytes_walk (a : Option Addr) (len cap : Nat) (zs : List Int) (w : World) (h : IsRow .u8 w a len cap zs) :
    Calls Try.prog 3 #[.slice a len cap] w fun e w' => e = .returned (.bool true) ∧ Below w.heap.size w w' := by
  obtain ⟨bs, hl, hb, hc⟩ := row_bytes h
  have hcap := hc.1
  have hmax := hc.2.1
  unfold maxLen at hmax
  have HA := Lib.hid awake_any
  clear h
  by_cases h2 : 2000 < len
  · have h2' : (2000 : Int) < len := by omega
    clear hb hc hl
    go_enter Try.func3, Try.ntmps3
    go_wp2_with fail
    refine (HA.out _).mono ?_
    rintro e w' ⟨rfl, hx⟩
    go_wp2_with fail
    go_ret
    exact ⟨rfl, Ext.below hx⟩
  · have h2' : ¬ (2000 : Int) < len := by omega
    have hD := decode_any (w := w) (a := a) (cap := cap) (bs := bs) (by rw [hl]; exact hc) hb (by omega)
    rw [hl] at hD
    have HC := Lib.hid hc
    have HB := Lib.hid (And.intro hl hb)
    have hsf := run_store_f
    cases hd : dCrtR bs with
    | none =>
      have HD : Hid (Calls Try.prog 9 #[.slice a len cap] w fun e w' => Ext w w' ∧ e = .returned (.tuple #[nilC, .int .i64 13])) := Lib.hid (by unfold Dec at hD; rw [hd] at hD; exact hD)
      clear hD hd hc hb hl
      go_enter Try.func3, Try.ntmps3
      go_wp2_with fail
      refine HD.out.mono ?_
      rintro e w2 ⟨hx2, rfl⟩
      unfold nilC
      have HX := Lib.hid hx2
      clear hx2
      go_wp2_with fail
      refine (HA.out _).mono ?_
      rintro e w' ⟨rfl, hx⟩
      go_wp2_with fail
      go_ret
      exact ⟨rfl, Ext.below ((HX.out.alloc _).trans hx)⟩
    | some q =>
      obtain ⟨c, t⟩ := q
      have HD : Hid (Calls Try.prog 9 #[.slice a len cap] w fun e w' => Ext w w' ∧ ∃ val, e = .returned (.tuple #[val, .int .i64 0]) ∧ CertR w c val w') := Lib.hid (by unfold Dec at hD; rw [hd] at hD; exact hD)
      obtain ⟨i1, i2, i3, i4⟩ := dCrtR_inv hb hd
      have HI := Lib.hid (And.intro i1 (And.intro i2 (And.intro i3 i4)))
      have hbs : 0 < bs.length := by
        rw [← i1]; simp [eCrt]
      clear hD hd hc hb hl i1 i2 i3 i4
      go_enter Try.func3, Try.ntmps3
      go_wp2_with fail
      refine HD.out.mono ?_
      rintro e w2 ⟨hx2, val, rfl, hcr⟩
      obtain ⟨a1, cap1, a2, cap2, a3, cap3, us, rfl, hcv⟩ := hcr.crt
      have HX := Lib.hid hx2
      have HE0 := Lib.hid (fun w' (k : Ext w2 w') => enc_any (w := w') (hcv.ext k) HI.out.2.2.2 HI.out.2.2.1)
      unfold crtV at *
      clear hx2 hcr hcv
      go_wp2_with fail
      refine (HE0.out _ ((Chg.refl w2).alloc _)).mono ?_
      rintro e w3 ⟨hx3, hw⟩
      rw [HI.out.1, HI.out.2.1] at hw
      rcases hw with ⟨-, v, rfl, hown⟩ | ⟨hne, -⟩
      case inr => exact absurd rfl hne
      obtain ⟨g, cap', rfl, hnews⟩ := own_form hown hbs
      have HX3 := Lib.hid (Chg.trans (HX.out.alloc _) hx3)
      have hv1 := conv_str hnews HB.out.2 rfl (cap := cap')
      obtain ⟨y, rfl⟩ : ∃ y, a = some y := by
        obtain ⟨y, hy, _⟩ := HC.out.2.2 0 (.int .u8 ((bs.getD 0 0 : Nat) : Int)) (by simp [byteCells, hbs])
        exact ⟨y, hy⟩
      have hv2 : (convert 22 9 (.slice (some y) len cap)).run Try.prog w3 = .ok (.string (strOf bs)) w3 := conv_str (fun j u hu => by
        obtain ⟨z, hz, hcz⟩ := HC.out.2.2 j u hu
        cases hz
        exact (HX3.out.cell (lt_of_cell hcz) (fun h => h)).trans hcz) HB.out.2 HB.out.1
      obtain ⟨S, hS⟩ : ∃ S, strOf bs = S := ⟨_, rfl⟩
      rw [hS] at hv1 hv2
      have hq := str_self S
      clear hx3 hown hnews hS
      go_wp2_with fail
      refine (HA.out _).mono ?_
      rintro e w' ⟨rfl, hx⟩
      go_wp2_with fail
      go_ret
      exact ⟨rfl, Ext.below (HX3.out.trans hx)⟩
end Go.Proofs.Ytnamcghcgcknpaa
