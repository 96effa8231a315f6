/-
  The walk of the law BailThrough: true, and nothing that was there has turned.
-/
import Derived.Test.YtdiklblnilmpoaaThruB
namespace Go.Proofs.Ytdiklblnilmpoaa
open Go.RowKit
set_option linter.unusedVariables false
theorem thru_walk (a0 a1 a2 a3 : Int) (w : World) :
    Calls Try.prog 6 #[.int .i64 a0, .int .i64 a1, .int .i64 a2, .int .i64 a3] w fun e w' => e = .returned (.bool true) ∧ Below w.heap.size w w' := by
  have hb : Hid (Ext w (((w.alloc (Obj.cells #[Value.int .i64 a0] 3)).alloc (Obj.cells #[Value.int .i64 a1] 3)).alloc (Obj.cells #[Value.int .i64 a3] 3))) := (((Chg.refl w).alloc _).alloc _).alloc _
  by_cases hout : a0 < 1 ∨ 16 < a0 ∨ a2 < 0 ∨ 40 < a2 ∨ a3 = a0
  · rcases (by omega : a0 < 1 ∨ (¬ a0 < 1 ∧ 16 < a0) ∨ (¬ a0 < 1 ∧ ¬ 16 < a0 ∧ a2 < 0) ∨ (¬ a0 < 1 ∧ ¬ 16 < a0 ∧ ¬ a2 < 0 ∧ 40 < a2) ∨ (¬ a0 < 1 ∧ ¬ 16 < a0 ∧ ¬ a2 < 0 ∧ ¬ 40 < a2 ∧ a3 = a0)) with h | ⟨h, h'⟩ | ⟨h, h', h''⟩ | ⟨h, h', h'', h3⟩ | ⟨h, h', h'', h3, h4⟩
    · clear hout
      go_enter Try.func6, Try.ntmps6
      go_wp2_with fail
      refine (awake_any _).mono ?_
      rintro e w2 ⟨rfl, h2⟩
      go_wp2
      go_ret
      exact ⟨rfl, Ext.below (hb.out.trans h2)⟩
    · clear hout
      go_enter Try.func6, Try.ntmps6
      go_wp2_with fail
      refine (awake_any _).mono ?_
      rintro e w2 ⟨rfl, h2⟩
      go_wp2
      go_ret
      exact ⟨rfl, Ext.below (hb.out.trans h2)⟩
    · clear hout
      go_enter Try.func6, Try.ntmps6
      go_wp2_with fail
      refine (awake_any _).mono ?_
      rintro e w2 ⟨rfl, h2⟩
      go_wp2
      go_ret
      exact ⟨rfl, Ext.below (hb.out.trans h2)⟩
    · clear hout
      go_enter Try.func6, Try.ntmps6
      go_wp2_with fail
      refine (awake_any _).mono ?_
      rintro e w2 ⟨rfl, h2⟩
      go_wp2
      go_ret
      exact ⟨rfl, Ext.below (hb.out.trans h2)⟩
    · have h5 : (a3 == a0) = true := by simpa using h4
      clear hout h4
      go_enter Try.func6, Try.ntmps6
      go_wp2_with fail
      refine (awake_any _).mono ?_
      rintro e w2 ⟨rfl, h2⟩
      go_wp2
      go_ret
      exact ⟨rfl, Ext.below (hb.out.trans h2)⟩
  · have h1 : ¬ a0 < 1 := by omega
    have h2 : ¬ 16 < a0 := by omega
    have h3 : ¬ a2 < 0 := by omega
    have h4 : ¬ 40 < a2 := by omega
    have h5 : (a3 == a0) = false := by simp; omega
    have hne : Hid (¬ a0 = a3) := show ¬ a0 = a3 by omega
    clear hout
    obtain ⟨n, rfl⟩ := Int.eq_ofNat_of_zero_le (show 0 ≤ a2 by omega)
    have hmf := run_mkFunc
    go_enter Try.func6, Try.ntmps6
    go_wp2_with fail
    clear hb
    go_loopg [11] n (fun gg l11 wr => ∃ (i b11 g : Nat) (cap : Array Value), i ≤ n ∧ TSt w wr a0 a1 a3 i b11 g cap ∧ l11 = .pointer (some ⟨b11, 0, none⟩) ∧ gg = n - i)
    case atStart => exact ⟨0, _, _, _, Nat.zero_le _, TSt.start w a0 a1 a3, rfl, rfl⟩
    case round =>
      obtain ⟨i, b11, g, cap, hile, hst, rfl, rfl⟩ := hrel
      have c10 := hst.h10.cell
      have f10 := hst.h10.frozen
      have c11 := hst.h11.cell
      have c4 := hst.h4.cell
      have c5 := hst.h5.cell
      by_cases hi : i < n
      · have hi2 : (i : Int) < (n : Int) := by omega
        have l10 := hst.h10.lt
        have l11 := hst.h11.lt
        have n10 : ¬ w.heap.size + 1 + 1 + 1 + 1 = wr.heap.size := by omega
        have n11 : ¬ b11 = wr.heap.size := by omega
        have n12 : ¬ b11 = w.heap.size + 1 + 1 + 1 + 1 := by have := hst.le11; omega
        have HS := Lib.hid hst
        clear hst
        go_wp2_with fail
        go_roundg (n - (i + 1))
        case measure => omega
        case rel => exact ⟨i + 1, _, _, _, by omega, HS.out.step2 _ _, rfl, rfl⟩
      · have hi2 : ¬ (i : Int) < (n : Int) := by omega
        obtain rfl : i = n := by omega
        clear hi hile
        have hbl := hst.h9.lt
        have ho0 : Ord wr.heap.size wr (w.heap.size + 1 + 1 + 1) [] := ⟨_, hst.h9, World.ownsRow_nil _ _ _ _, hbl⟩
        have hcat := catch_runs (fv := .func (.func 30) #[] #[.pointer (some ⟨w.heap.size + 1 + 1, 0, none⟩), .pointer (some ⟨w.heap.size + 1 + 1 + 1 + 1, 0, none⟩)])
          (ordD_loc (w.heap.size + 1 + 1 + 1)) ho0.there fun w1 he => thru3_runs wr.heap.size (w.heap.size + 1 + 1 + 1) _ _ a0 a1 a3 _ [] (rng i) w1 (ho0.of fun k hk => he.block k (ho0.there k hk) (fun h => h)) (hst.h7.chg he (fun h => h)) (hst.h10.chg he (fun h => h)) hne.out
            fun w2 he2 => by
              have he12 := he.trans he2
              have := hst.run wr.heap.size w2 [] (fun k hk _ _ _ => he12.block k hk (fun h => h)) (Nat.le_refl _) he12.size (by simp; omega) (ho0.of fun k hk => he12.block k (ho0.there k hk) (fun h => h))
              simpa using this
        have HC := Lib.hid hcat
        have HS := Lib.hid hst
        have H0 := Lib.hid ho0
        clear hst hcat ho0
        go_wp2_with fail
        refine HC.out.mono ?_
        rintro e w1 ⟨o, w2, hk2, ⟨rfl, ho2⟩, ha, he⟩
        simp only at he
        subst he
        have hk := ha.1
        have ho := ho2.aft ha
        have nd : ∀ k, k < wr.heap.size → k ≠ w.heap.size + 1 + 1 + 1 → ¬ OrdD (w.heap.size + 1 + 1 + 1) wr k := fun k h1 h2 => H0.out.notD h2 h1
        have l4 := HS.out.h4.lt
        have l5 := HS.out.h5.lt
        have l10 := HS.out.h10.lt
        have k4 := HS.out.h4.keep hk (nd _ l4 (by omega))
        have k5 := HS.out.h5.keep hk (nd _ l5 (by omega))
        have k10 := HS.out.h10.keep hk (nd _ l10 (by omega))
        have e1 : Ext w w1 := ⟨hk.os.trans HS.out.bel.os, hk.tape.trans HS.out.bel.tape, hk.output.trans HS.out.bel.output, Nat.le_trans HS.out.bel.size hk.size, fun k h1 _ => (hk.block k (by omega) (nd k (by omega) (by omega))).trans (HS.out.bel.block k h1 (fun h => h))⟩
        have c4' := k4.cell
        have c5' := k5.cell
        have c10' := k10.cell
        obtain ⟨va, vc, c9, hval⟩ := ho.val
        rw [rng_len] at c9
        have honly := only_runs (code := a0) (fv := .func (.func g) #[] cap) (ordD_loc (w.heap.size + 1 + 1 + 1)) ho.there fun w3 he3 =>
          HS.out.run wr.heap.size w3 (rng i) (fun k hk1 h2 _ _ => (he3.block k (by have := hk.size; omega) (fun h => h)).trans (hk.block k hk1 (nd k hk1 h2))) (Nat.le_refl _) (Nat.le_trans hk.size he3.size) (by rw [rng_len]; omega) (ho.of fun k hk => he3.block k (ho.there k hk) (fun h => h))
        have HV := Lib.hid hval
        have HL := Lib.hid honly
        have HE := Lib.hid e1
        have HK := Lib.hid (And.intro ho hbl)
        clear hval honly e1 ho ho2 ha hk hk2 nd k4 k5 k10 HC c4 c5 c10 f10 c11 hbl
        go_wp2_with fail
        go_loopg [15] i (fun gg l15 wx => ∃ j : Nat, j ≤ i ∧ wx = w1 ∧ l15 = .int .i64 j ∧ gg = i - j)
        case atStart => exact ⟨0, Nat.zero_le _, rfl, rfl, rfl⟩
        case round =>
          obtain ⟨j, hjle, rfl, rfl, rfl⟩ := hrel
          by_cases hj : j < i
          · have hj1 : 0 ≤ (j : Int) := by omega
            have hj2 : (j : Int) < (i : Int) := by omega
            obtain ⟨p, rfl, hcj⟩ := HV.out j j (rng_get i j hj)
            clear HL HK HS H0
            go_wp2_with fail
            go_roundg (i - (j + 1))
            case measure => omega
            case rel => exact ⟨j + 1, by omega, rfl, by go_num, rfl⟩
          · have hj2 : ¬ (j : Int) < (i : Int) := by omega
            obtain rfl : j = i := by omega
            clear hj
            go_wp2_with fail
            refine HL.out.mono ?_
            rintro e w5 ⟨o, w2, hk2, ⟨rfl, ho2⟩, ha, he⟩
            simp only [if_true] at he
            subst he
            have hk := ha.1
            obtain ⟨va', vc', c9', _⟩ := (ho2.aft ha).val
            have hlen : (rng j ++ rng j).length = j + j := by simp [rng_len]
            rw [hlen] at c9'
            have heq : (((j + j : Nat) : Int) == 2 * (j : Int)) = true := by simp; omega
            have hE5 : Ext w w5 := ⟨hk.os.trans HE.out.os, hk.tape.trans HE.out.tape, hk.output.trans HE.out.output, Nat.le_trans HE.out.size hk.size, fun k h1 _ => (hk.block k (by have := HE.out.size; omega) (HK.out.1.notD (by omega) (by have := HK.out.2; omega))).trans (HE.out.block k h1 (fun h => h))⟩
            have HE5 := Lib.hid hE5
            clear hE5 hk hk2 ho2 ha hlen HL HK HS H0 HV HE
            have hj0 : 0 ≤ (j : Int) := by omega
            have hj40 : (j : Int) ≤ 40 := by omega
            go_wp2_with (go_at_call 8; refine (awake_any _).mono ?_; rintro e w3 ⟨rfl, h3⟩)
            go_ret
            exact ⟨rfl, Ext.below (HE5.out.trans h3)⟩
end Go.Proofs.Ytdiklblnilmpoaa
