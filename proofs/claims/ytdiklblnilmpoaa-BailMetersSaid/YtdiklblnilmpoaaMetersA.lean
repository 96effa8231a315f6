/-
  What the two function literals of the law BailMeters do.
-/
import Derived.Test.YtdiklblnilmpoaaBailF
import Derived.StillTailTactics
namespace Go.Proofs.Ytdiklblnilmpoaa
open Go.RowKit
set_option linter.unusedVariables false

/-- What using n of a meter that holds k comes to. -/
def Used (m : Nat) (k n : Int) (o : Fin) (w' : World) : Prop :=
  (n < 0 ∧ o = .bail 1 n ∧ Box w' m (.int .i64 k)) ∨ (¬ n < 0 ∧ k < n ∧ o = .bail 10 n ∧ Box w' m (.int .i64 k)) ∨ (¬ n < 0 ∧ ¬ k < n ∧ o = .ret ∧ Box w' m (.int .i64 (k - n)))
theorem use_fin (m : Nat) (k n : Int) (w : World) (hb : Box w m (.int .i64 k)) (hk : k ≤ 9223372036854775807) :
    Calls Try.prog 12 #[.pointer (some ⟨m, 0, none⟩), .int .i64 n] w fun e w' => Keep (fun _ b => b = m) w w' ∧ ∃ o, Ends (fun _ b => b = m) o e w' ∧ Used m k n o w' := by
  have hl : Loc (fun _ b => b = m) := loc_const _
  have ht : There (fun _ b => b = m) w := by rintro b rfl; exact hb.lt
  by_cases h0 : n < 0
  · refine (use_neg _ n w h0).mono ?_
    rintro e w' ⟨rfl, rfl⟩
    obtain ⟨h1, h2⟩ := out_ends 1 n w hl ht
    exact ⟨h1, _, h2, .inl ⟨h0, rfl, hb.chg ((Chg.refl (S := fun _ => False) w).alloc _) (fun h => h)⟩⟩
  · by_cases h1 : k < n
    · refine (use_over m k n w hb.cell h0 h1).mono ?_
      rintro e w' ⟨rfl, rfl⟩
      obtain ⟨h2, h3⟩ := out_ends 10 n w hl ht
      exact ⟨h2, _, h3, .inr (.inl ⟨h0, h1, rfl, hb.chg ((Chg.refl (S := fun _ => False) w).alloc _) (fun h => h)⟩)⟩
    · refine (use_some m k n w hb.cell hb.frozen h0 h1 hk).mono ?_
      rintro e w' ⟨rfl, rfl⟩
      refine ⟨⟨rfl, rfl, rfl, by simp [World.setCell], fun b _ hne => Below.heap_setCell _ _ _ _ hne, fun _ _ h => h, fun h b hb' => by simpa [World.setCell] using h b hb'⟩, .ret, rfl, .inr (.inr ⟨h0, h1, rfl, hb.set _⟩)⟩
theorem meters1_runs (b5 b3 b7 m len cap i : Nat) (a : Addr) (k n : Int) (w : World) (h5 : Box w b5 (.pointer (some ⟨m, 0, none⟩))) (h3 : Box w b3 (.slice (some a) len cap)) (h7 : Box w b7 (.int .i64 i))
    (hi : i < len) (hlen : len ≤ 9223372036854775807) (hc : w.cell? (a.add i) = some (.int .i64 n)) (hb : Box w m (.int .i64 k)) (hk : k ≤ 9223372036854775807) :
    Runs (fun _ b => b = m) (.func (.func 11) #[] #[.pointer (some ⟨b5, 0, none⟩), .pointer (some ⟨b3, 0, none⟩), .pointer (some ⟨b7, 0, none⟩)]) w (Used m k n) := by
  refine Runs.of (fun args w => run_enter Try.func11 rfl rfl args w) ?_
  have hl : Loc (fun _ b => b = m) := loc_const _
  have ht : There (fun _ b => b = m) w := by rintro b rfl; exact hb.lt
  have c5 := h5.cell
  have c3 := h3.cell
  have c7 := h7.cell
  have cm := hb.cell
  have fm := hb.frozen
  have hi1 : 0 ≤ (i : Int) := by omega
  have hi2 : (i : Int) < (len : Int) := by omega
  have HB := Lib.hid hb
  clear hb h5 h3 h7 hl ht
  have hd : Keep (fun _ b => b = m) w w.drew := ⟨rfl, rfl, rfl, Nat.le_refl _, fun _ _ _ => rfl, fun _ _ h => h, fun h => h⟩
  have HD := Lib.hid hd
  clear hd
  go_enter Try.func11, Try.ntmps11
  refine wp_region_still_tail 5 (by kernel_rfl) (by kernel_rfl) ?_
  simp only [List.take_succ_cons, List.take_zero, List.drop_succ_cons, List.drop_zero]
  change wpStill _ _ w.drew _ _ _
  repeat still_step
  refine wpStill_nil ?_
  change wpList _ _ _ _ _ w.drew
  go_wp2_with fail
  refine (use_fin m k n w.drew (HB.out.of rfl) hk).mono ?_
  rintro e w' ⟨hk', o, he, hu⟩
  have hfin : Keep (fun _ b => b = m) w w' ∧ ∃ o, Ends (fun _ b => b = m) o e w' ∧ Used m k n o w' := ⟨HD.out.trans hk', o, he, hu⟩
  cases o with
  | ret =>
    simp only [Ends] at he
    subst he
    go_wp2_with fail
    go_end0
    exact hfin
  | bail c a =>
    obtain ⟨ch, b, rfl, rest⟩ := he
    exact ⟨rfl, hfin⟩
  | other t x =>
    obtain ⟨ch, rfl, rest⟩ := he
    exact ⟨rfl, hfin⟩
theorem meters2_runs (b : Nat) (w : World) (hb : Box w b (.pointer none)) :
    Runs NoD (.func (.func 14) #[] #[.pointer (some ⟨b, 0, none⟩)]) w (fun o _ => o = .bail 10 1) := by
  refine Runs.of (fun args w => run_enter Try.func14 rfl rfl args w) ?_
  have cb := hb.cell
  go_enter Try.func14, Try.ntmps14
  go_wp2_with fail
  refine (use_nil 1 w (by omega) (by omega)).mono ?_
  rintro e w' ⟨rfl, rfl⟩
  obtain ⟨h1, h2⟩ := out_ends (D := NoD) 10 1 w loc_none (there_none w)
  exact ⟨rfl, h1, _, h2, rfl⟩
end Go.Proofs.Ytdiklblnilmpoaa
