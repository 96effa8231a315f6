/-
  The words of a Bail.
-/
import Derived.Test.YtdiklblnilmpoaaDoorWordsA
import Derived.Test.YtdiklblnilmpoaaDoorShelf
import Derived.Deep.RegionHeld3
import Derived.Lib.AppendIntMem
import Derived.Lib.ItoaLen
namespace Go.Proofs.YtdiklblnilmpoaaDoor
open Go.RowKit
set_option linter.unusedVariables false

abbrev Tab (w : World) : Prop := Lib.TabIs Tryd.prog w "internal/strconv.uint64pow10" .u64 Lib.pow10Tab
theorem Tab.ext {w w' : World} (h : Tab w) (e : Ext w w') : Tab w' := by
  unfold Tab Lib.TabIs World.var? at *
  cases hg : Tryd.prog.globalNamed "internal/strconv.uint64pow10" with
  | none => rw [hg] at h; cases h
  | some g =>
    rw [hg] at h
    simp only [Option.bind_some] at h ⊢
    have hlt : g < w.heap.size := by
      rcases Nat.lt_or_ge g w.heap.size with h1 | h1
      · exact h1
      · rw [Array.getElem?_eq_none h1] at h; cases h
    rw [e.block g hlt (fun h => h)]
    exact h
theorem itoa_any (n : Int) (W w : World) (h0 : -9223372036854775808 ≤ n) (h1 : n ≤ 9223372036854775807) (ht : Tab W) (e : Ext W w) :
    Calls Tryd.prog 19 #[.int .i64 n] w fun e' w' => e' = .returned (.string ⟨(Lib.itoa n).toArray⟩) ∧ Ext w w' := by
  refine (Tryd.strconv_Itoa n h0 h1 w (ht.ext e)).mono ?_
  rintro e' w' ⟨rfl, k, os, rfl⟩
  exact ⟨rfl, Ext.of_below (Lib.below_grow w.heap.size w (Nat.le_refl _) k os)⟩
/-- The words of a Bail, as bytes. -/
def words (c a : Int) : ByteArray := (ByteArray.mk #[98, 97, 105, 108, 32] ++ ByteArray.mk (Lib.itoa c).toArray) ++ ByteArray.mk #[32, 97, 116, 32] ++ ByteArray.mk (Lib.itoa a).toArray
theorem error_none (w : World) :
    Calls Tryd.prog 8 #[.pointer none] w fun e w' => e = .returned (.string ⟨#[98, 97, 105, 108]⟩) ∧ Ext w w' := by
  go_enter Tryd.func8, Tryd.ntmps8
  go_wp2_with fail
  go_ret
  exact ⟨rfl, Chg.refl w⟩
set_option maxHeartbeats 2000000 in
theorem error_any (b : Nat) (c a : Int) (w : World) (h0 : -1000 ≤ c) (h1 : c ≤ 1000) (h2 : -1000 ≤ a) (h3 : a ≤ 1000) (ht : Tab w) (hb : w.cell? ⟨b, 0, none⟩ = some (.int .i64 c)) (hb1 : w.cell? ⟨b, 1, none⟩ = some (.int .i64 a)) :
    Calls Tryd.prog 8 #[.pointer (some ⟨b, 0, none⟩)] w fun e w' => e = .returned (.string (words c a)) ∧ Ext w w' := by
  have hl1 : (Lib.itoa c).length ≤ 21 := Lib.itoa_length_le c (by omega) (by omega)
  have hl2 : (Lib.itoa a).length ≤ 21 := Lib.itoa_length_le a (by omega) (by omega)
  have hic := fun w1 (e : Ext w w1) => itoa_any c w w1 (by omega) (by omega) ht e
  have hia := fun w1 (e : Ext w w1) => itoa_any a w w1 (by omega) (by omega) ht e
  unfold words
  obtain ⟨C, hC⟩ : ∃ C, ByteArray.mk (Lib.itoa c).toArray = C := ⟨_, rfl⟩
  obtain ⟨A, hA⟩ : ∃ A, ByteArray.mk (Lib.itoa a).toArray = A := ⟨_, rfl⟩
  have hsC : C.size ≤ 21 := by rw [← hC]; simpa [ByteArray.size] using hl1
  have hsA : A.size ≤ 21 := by rw [← hA]; simpa [ByteArray.size] using hl2
  rw [hC] at hic ⊢
  rw [hA] at hia ⊢
  have t1 : ¬ 9223372036854775807 < 5 + C.size := by omega
  have t2 : ¬ 9223372036854775807 < 5 + C.size + 4 := by omega
  have t3 : ¬ 9223372036854775807 < 5 + C.size + 4 + A.size := by omega
  have HI := Lib.hid hic
  have HA := Lib.hid hia
  have hlt := lt_of_cell hb
  clear ht hic hia hC hA hl1 hl2 hsC hsA h0 h1 h2 h3
  go_enter Tryd.func8, Tryd.ntmps8
  go_wp2_with fail
  go_region_held3 (fun v => v.cell? ⟨b, 0, none⟩ = some (.int .i64 c) ∧ v.cell? ⟨b, 1, none⟩ = some (.int .i64 a)) (first | exact ⟨hb, hb1⟩ | exact ⟨k0, k1⟩ | exact ⟨j0, j1⟩)
    (first
      | (go_at_call_of 19 (Value.int .i64 c); refine (HI.out _ (Chg.drew (Chg.refl w))).mono ?_; rintro e w1 ⟨rfl, e1⟩; have k0 := (e1.cell (p := ⟨b, 0, none⟩) hlt (fun h => h)).trans hb; have k1 := (e1.cell (p := ⟨b, 1, none⟩) hlt (fun h => h)).trans hb1)
      | (go_at_call_of 19 (Value.int .i64 a); have e0 : Ext w w1 := Chg.trans (Chg.drew (Chg.refl w)) e1; refine (HA.out w1 e0).mono ?_; rintro e w2 ⟨rfl, e2⟩; have hlt1 : b < w1.heap.size := lt_of_cell (p := ⟨b, 0, none⟩) k0; have j0 := (e2.cell (p := ⟨b, 0, none⟩) hlt1 (fun h => h)).trans k0; have j1 := (e2.cell (p := ⟨b, 1, none⟩) hlt1 (fun h => h)).trans k1))
  all_goals
    go_wp2_with fail
    go_ret
    exact ⟨rfl, e0.trans e2⟩
end Go.Proofs.YtdiklblnilmpoaaDoor
