/-
  The walk of the law BailWords.
-/
import Derived.Test.YtdiklblnilmpoaaDoorWordsB
namespace Go.Proofs.YtdiklblnilmpoaaDoor
open Go.RowKit
set_option linter.unusedVariables false

theorem catch_none (w : World) : Calls Tryd.prog 5 #[.nilFunc] w fun e w' => e = .returned (.tuple #[.int .i64 0, .int .i64 0]) ∧ Ext w w' := by
  refine (catch_runs (Φ := fun o _ => o = .ret) loc_none (there_none w) fun w1 _ => Runs.nil (D := NoD) rfl).mono ?_
  rintro e w' ⟨o, w2, hk, rfl, ⟨hk', _⟩, he⟩
  exact ⟨he, hk'.ext⟩
theorem safe_none (w : World) : Calls Tryd.prog 6 #[.nilFunc] w fun e w' => e = .returned (.tuple #[.nilIface, .bool true]) ∧ Ext w w' := by
  refine (safe_runs (Φ := fun o _ => o = .ret) loc_none (there_none w) fun w1 _ => Runs.nil (D := NoD) rfl).mono ?_
  rintro e w' ⟨o, w2, hk, rfl, ⟨hk', _⟩, he⟩
  exact ⟨he, hk'.ext⟩
theorem after_none (w : World) : Calls Tryd.prog 7 #[.nilFunc, .nilFunc] w fun e w' => e = .returned (.tuple #[]) ∧ Ext w w' := by
  refine (after_runs (D := NoD) (Φ := fun o _ => o = .ret) (Ψ := fun o o' _ => o = .ret ∧ o' = .ret) (Runs.nil rfl) fun o w2 _ h => Runs.nil ⟨h, rfl⟩).mono ?_
  rintro e w' ⟨hk, o, o', ⟨rfl, rfl⟩, he⟩
  exact ⟨he, hk.ext⟩
theorem only_none (c : Int) (w : World) : Calls Tryd.prog 10 #[.int .i64 c, .nilFunc] w fun e w' => e = .returned (.bool false) ∧ Ext w w' := by
  refine (only_runs (Φ := fun o _ => o = .ret) loc_none (there_none w) fun w1 _ => Runs.nil (D := NoD) rfl).mono ?_
  rintro e w' ⟨o, w2, hk, rfl, ⟨hk', _⟩, he⟩
  exact ⟨he, hk'.ext⟩
set_option maxHeartbeats 4000000 in
theorem words_walk (c a : Int) (w : World) (ht : Tab w) :
    Calls Tryd.prog 3 #[.int .i64 c, .int .i64 a] w fun e w' => e = .returned (.bool true) ∧ Below w.heap.size w w' := by
  by_cases hout : c < -1000 ∨ 1000 < c ∨ a < -1000 ∨ 1000 < a
  · rcases (by omega : c < -1000 ∨ (¬ c < -1000 ∧ 1000 < c) ∨ (¬ c < -1000 ∧ ¬ 1000 < c ∧ a < -1000) ∨ (¬ c < -1000 ∧ ¬ 1000 < c ∧ ¬ a < -1000 ∧ 1000 < a)) with h | ⟨h, h'⟩ | ⟨h, h', h''⟩ | ⟨h, h', h'', h3⟩
    all_goals
      clear hout
      go_enter Tryd.func3, Tryd.ntmps3
      go_wp2_with fail
      refine (awake_any _).mono ?_
      rintro e w2 ⟨rfl, h2⟩
      go_wp2
      go_ret
      exact ⟨rfl, Ext.below h2⟩
  · have h0 : ¬ c < -1000 := by omega
    have h1 : ¬ 1000 < c := by omega
    have h2 : ¬ a < -1000 := by omega
    have h3 : ¬ 1000 < a := by omega
    have hl1 : (Lib.itoa c).length ≤ 21 := Lib.itoa_length_le c (by omega) (by omega)
    have hl2 : (Lib.itoa a).length ≤ 21 := Lib.itoa_length_le a (by omega) (by omega)
    have hdc := fun w1 => decimal_any c w1 (by omega) (by omega)
    have hda := fun w1 => decimal_any a w1 (by omega) (by omega)
    have her := fun (w1 : World) b (e : Ext w w1) hb hb1 => error_any b c a w1 (by omega) (by omega) (by omega) (by omega) (ht.ext e) hb hb1
    unfold words at her
    obtain ⟨C, hC⟩ : ∃ C, ByteArray.mk (Lib.itoa c).toArray = C := ⟨_, rfl⟩
    obtain ⟨A, hA⟩ : ∃ A, ByteArray.mk (Lib.itoa a).toArray = A := ⟨_, rfl⟩
    have hsC : C.size ≤ 21 := by rw [← hC]; simpa [ByteArray.size] using hl1
    have hsA : A.size ≤ 21 := by rw [← hA]; simpa [ByteArray.size] using hl2
    rw [hC] at hdc her
    rw [hA] at hda her
    have t1 : ¬ 9223372036854775807 < 5 + C.size := by omega
    have t2 : ¬ 9223372036854775807 < 5 + C.size + 4 := by omega
    have t3 : ¬ 9223372036854775807 < 5 + C.size + 4 + A.size := by omega
    have HC := Lib.hid hdc
    have HA := Lib.hid hda
    have HE := Lib.hid her
    clear hdc hda her hC hA hl1 hl2 hsC hsA hout ht
    go_enter Tryd.func3, Tryd.ntmps3
    go_wp2_with fail
    have hx : Ext w (w.alloc (.cells #[.int .i64 c, .int .i64 a] 26)) := (Chg.refl w).alloc _
    have B0 := Blk.new w #[.int .i64 c, .int .i64 a] 26
    have HX := Lib.hid (And.intro hx B0)
    clear hx B0
    refine (catch_none _).mono ?_
    rintro e w1 ⟨rfl, e1⟩
    have H1 := Lib.hid (And.intro (HX.out.1.trans e1) (HX.out.2.chg e1 (fun h => h)))
    clear e1 HX
    go_wp2_with fail
    refine (safe_none _).mono ?_
    rintro e w2 ⟨rfl, e1⟩
    have H2 := Lib.hid (And.intro (H1.out.1.trans e1) (H1.out.2.chg e1 (fun h => h)))
    clear e1 H1
    go_wp2_with fail
    refine (after_none _).mono ?_
    rintro e w3 ⟨rfl, e1⟩
    have H3 := Lib.hid (And.intro (H2.out.1.trans e1) (H2.out.2.chg e1 (fun h => h)))
    clear e1 H2
    go_wp2_with fail
    refine (HE.out w3 _ H3.out.1 (H3.out.2.cell 0 _ rfl) (H3.out.2.cell 1 _ rfl)).mono ?_
    rintro e w4 ⟨rfl, e1⟩
    have H4 := Lib.hid (H3.out.1.trans e1)
    clear e1 H3
    go_wp2_with fail
    refine (HC.out _).mono ?_
    rintro e w5 ⟨rfl, e1⟩
    have H5 := Lib.hid (H4.out.trans e1)
    clear e1 H4
    go_wp2_with fail
    refine (HA.out _).mono ?_
    rintro e w6 ⟨rfl, e1⟩
    have H6 := Lib.hid (H5.out.trans e1)
    clear e1 H5
    go_wp2_with fail
    refine (error_none _).mono ?_
    rintro e w7 ⟨rfl, e1⟩
    have H7 := Lib.hid (H6.out.trans e1)
    clear e1 H6
    go_wp2_with fail
    refine (only_none _ _).mono ?_
    rintro e w8 ⟨rfl, e1⟩
    have H8 := Lib.hid (H7.out.trans e1)
    clear e1 H7
    go_wp2_with fail
    refine (awake_any _).mono ?_
    rintro e w9 ⟨rfl, e1⟩
    have H9 := Lib.hid (H8.out.trans e1)
    clear e1 H8
    go_wp2_with fail
    go_ret
    exact ⟨rfl, Ext.below H9.out⟩
end Go.Proofs.YtdiklblnilmpoaaDoor
