/-
  What is found goes over edges.
-/
import Derived.Test.YtkhllknahjmciaaGreatUH
namespace Go.Proofs.YtkhllknahjmciaaGreat
open Go.RowKit
set_option linter.unusedVariables false
set_option linter.unusedSimpArgs false

theorem Built.toks {wt : Int → Bool} {es : List Eg} {ms : List Mv} {b1 b2 : Int} {L : List Et} (h : Built wt es ms b1 b2 L) : ∀ e ∈ L, 0 < e.tok → ∃ g ∈ es, g.tok = e.tok := by
  induction h with
  | one =>
    intro e he h0
    rw [List.mem_singleton] at he
    subst he
    exact absurd h0 (Int.lt_irrefl 0)
  | @snoc L n h h1 h2 h3 ih =>
    intro e he h0
    rcases List.mem_append.1 he with he | he
    · exact ih e he h0
    · rw [List.mem_singleton] at he
      subst he
      obtain ⟨m, hm, -, -, ⟨-, -, h, -⟩ | ⟨-, -, g, hg, -, -, hk, -⟩⟩ := h3
      · omega
      · exact ⟨g, hg, hk.symm⟩
theorem steps_toks {es : List Eg} {L : List Et} (h : ∀ e ∈ L, 0 < e.tok → ∃ g ∈ es, g.tok = e.tok) (b1 b2 : Int) : ∀ (k : Nat) (a s : Int), ∀ x ∈ stepsE L b1 b2 k a s, ∃ g ∈ es, g.tok = x.1
  | 0, a, s, x, hx => by simp [stepsE] at hx
  | k + 1, a, s, x, hx => by
    rw [stepsE] at hx
    split at hx
    · simp at hx
    · cases hq : seek a s L with
      | none => rw [hq] at hx; simp at hx
      | some e =>
        rw [hq] at hx
        simp only at hx
        rcases List.mem_append.1 hx with hx | hx
        · split at hx
          · next h0 =>
            rw [List.mem_singleton] at hx
            subst hx
            exact h e (seek_is hq).1 h0
          · simp at hx
        · exact steps_toks h b1 b2 k _ _ x hx
theorem find_toks {g : Gr} (hm : MayG g) (wt : Int → Bool) (t : Tr) (b1 tn : Int) {l : List (Int × Bool)} (h : findE wt g t b1 tn = some l) : ∀ x ∈ l, (g.edges.any fun e => decide (e.tok = x.1)) = true := by
  unfold findE at h
  by_cases h0 : 0 ≤ placeN g.nodes b1 0
  · rw [if_pos h0] at h
    simp only at h
    obtain ⟨L, hL⟩ : ∃ L, runE wt g.edges g.nodes (machP t).ms (g.nodes.length * (machP t).n.toNat + 1) [⟨b1, (machP t).s, b1, (machP t).s, 0, false⟩] = L := ⟨_, rfl⟩
    rw [hL] at h
    obtain ⟨hb, -, -⟩ := run_facts hm wt t h0 hL
    split at h
    · cases h
    · injection h with h
      subst h
      intro x hx
      obtain ⟨e, he, hk⟩ := steps_toks hb.toks _ _ _ _ _ x hx
      exact List.any_eq_true.2 ⟨e, he, by simpa using hk⟩
  · rw [if_neg h0] at h
    cases h
/-- What the best walk by prices is, where nothing is weighed, in one form. -/
theorem best3 (g : Gr) (t : Tr) (hm : MayG g) (hv : rcheck t = 0) (gcs tcs : List Value) (b1 tn : Int) (w : World) (hg : GrC w g gcs) (ht : TrC w t tcs) (L : List (Int × Bool)) (S E : Int) (hL : (findE (fun _ => true) g t b1 tn).getD [] = L) (hS : (if (findE (fun _ => true) g t b1 tn).isSome = true then 3 else 0) = S) (hE : (if (findE (fun _ => true) g t b1 tn).isSome = true then 0 else 15) = E) :
    Calls Tryz.prog 11 #[.agg gcs.toArray, .agg tcs.toArray, .int .i64 b1, .int .i64 tn, .int .i64 3, .slice none 0 0] w fun e w' => (∃ v ca cc, e = .returned (.tuple #[v, .agg (V5 S false ca cc 0).toArray, .int .i64 E]) ∧ w'.ownsRow w.heap.size 67 2 v L.length (stepC L.reverse)) ∧ Ext w w' := by
  refine (Best_any 3 (.inr rfl) g t hm hv gcs tcs b1 tn w hg ht).mono ?_
  rintro e w' ⟨hx, h⟩
  refine ⟨?_, hx⟩
  obtain ⟨hq, rfl⟩ | ⟨l, v, cs, hq, rfl, ho, i3, a3, c3, l3, rfl, -, hok⟩ := h
  · rw [hq] at hL hS hE
    subst hL hS hE
    exact ⟨.slice none 0 0, none, 0, rfl, World.ownsRow_nil _ _ _ _⟩
  · rw [hq] at hL hS hE
    subst hL hS hE
    rcases hok with ⟨h, -⟩ | ⟨-, rfl, rfl⟩
    · omega
    · exact ⟨v, a3, c3, rfl, ho⟩
theorem best3_toks {g : Gr} (hm : MayG g) (t : Tr) (b1 tn : Int) (L : List (Int × Bool)) (hL : (findE (fun _ => true) g t b1 tn).getD [] = L) : ∀ x ∈ L, (g.edges.any fun e => decide (e.tok = x.1)) = true := by
  cases hq : findE (fun _ => true) g t b1 tn with
  | none => rw [hq] at hL; subst hL; intro x hx; simp at hx
  | some l => rw [hq] at hL; subst hL; exact find_toks hm _ t b1 tn hq
end Go.Proofs.YtkhllknahjmciaaGreat
