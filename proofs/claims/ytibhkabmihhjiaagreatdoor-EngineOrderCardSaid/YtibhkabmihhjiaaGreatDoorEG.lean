/-
  The reckoner's operations are the machine's: slices.
-/
import Derived.Test.YtibhkabmihhjiaaGreatDoorEF
namespace Go.Proofs.YtibhkabmihhjiaaGreatDoor
open Go Go.RowKit
set_option linter.unusedVariables false
set_option linter.unusedSimpArgs false
namespace Ev
variable {P : Program}
section
variable {w0 : Base} {w : World} {ρ : Pl} {σ : St} {n : Nat} {a : Env} {A : Act}
theorem optNat (ha : ActR ρ n a A) {lo : Option Operand} {l : List Value} {d m : Nat} (h : evOs a lo.toList = some l) (hm : bound d l = some m) :
    (lo = none ∧ l = [] ∧ m = d) ∨ ∃ x k, lo = some x ∧ A.eval x = .int k (m : Int) ∧ l.length = 1 := by
  cases lo with
  | none =>
    simp only [Option.toList, evOs, Option.some.injEq] at h
    subst h
    simp only [bound, Option.some.injEq] at hm
    exact .inl ⟨rfl, rfl, hm.symm⟩
  | some x =>
    simp only [Option.toList, evOs] at h
    split at h
    · cases h
    · next v hv =>
      simp only [Option.some.injEq] at h
      subst h
      simp only [bound] at hm
      obtain ⟨k, rfl⟩ := natOf_spec hm
      have hr := evO_rel ha hv
      generalize hu : A.eval x = u at hr
      cases hr
      exact .inr ⟨x, k, rfl, hu, rfl⟩
theorem sliceBound_run {k : IntKind} {m y : Nat} (h : m ≤ y) (code : BoundsCode) (w : World) : (Instr.sliceBound (.int k (m : Int)) y code).run P w = .ok m w := by
  have h1 : (0 : Int) ≤ (m : Int) ∧ (m : Int) ≤ (y : Int) := ⟨by omega, by omega⟩
  simp [Instr.sliceBound, asIntOf, h1, h]
theorem sliceBounds_run (ha : ActR ρ n a A) (isSlice : Bool) {lo hi mx : Option Operand} {l1 l2 l3 : List Value} {len cap cap' l h m : Nat} (e1 : evOs a lo.toList = some l1) (e2 : evOs a hi.toList = some l2) (e3 : evOs a mx.toList = some l3)
    (hl : bound 0 l1 = some l) (hh : bound len l2 = some h) (hm : bound cap l3 = some m)
    (c1 : l ≤ h) (c2 : h ≤ m) (c3 : m ≤ cap) (c4 : cap ≤ cap') (c5 : ¬ l2.length < l3.length) (w : World) :
    (Instr.sliceBounds isSlice len cap' (lo.map A.eval) (hi.map A.eval) (mx.map A.eval)).run P w = .ok (l, h, if l3 = [] then cap' else m) w := by
  rcases optNat ha e1 hl with ⟨rfl, rfl, rfl⟩ | ⟨x1, k1, rfl, hx1, n1⟩ <;> rcases optNat ha e2 hh with ⟨rfl, rfl, rfl⟩ | ⟨x2, k2, rfl, hx2, n2⟩ <;> rcases optNat ha e3 hm with ⟨rfl, rfl, rfl⟩ | ⟨x3, k3, rfl, hx3, n3⟩
  all_goals first
    | (exact absurd (by rw [n3]; exact Nat.zero_lt_one) c5)
    | skip
  · simp [Instr.sliceBounds]
  · simp [Instr.sliceBounds, hx2, sliceBound_run (P := P) (show h ≤ cap' by omega)]
  · have h3 : l3 ≠ [] := by intro e; rw [e] at n3; cases n3
    simp [Instr.sliceBounds, hx2, hx3, h3, sliceBound_run (P := P) (show m ≤ cap' by omega), sliceBound_run (P := P) c2]
  · simp [Instr.sliceBounds, hx1, sliceBound_run (P := P) c1]
  · simp [Instr.sliceBounds, hx1, hx2, sliceBound_run (P := P) (show h ≤ cap' by omega), sliceBound_run (P := P) c1]
  · have h3 : l3 ≠ [] := by intro e; rw [e] at n3; cases n3
    simp [Instr.sliceBounds, hx1, hx2, hx3, h3, sliceBound_run (P := P) (show m ≤ cap' by omega), sliceBound_run (P := P) c2, sliceBound_run (P := P) c1]
theorem s_slice (hs : Sim w0 ρ σ w) (ha : ActR ρ n a A) (t : TypeId) (x : Operand) (lo hi mx : Option Operand) (o : Oper) (ho : o.op = .slice t x lo hi mx) {r : OR} (h : opA P σ a (.slice t x lo hi mx) = some r) : OpOk P w0 ρ σ w A o r := by
  obtain ⟨dst, op', ty', pos, af, gd⟩ := o
  subst ho
  simp only [opA] at h
  split at h
  · next s l1 l2 hv e1 e2 e3 =>
    have hr := evO_rel ha hv
    generalize hu : A.eval x = u at hr
    cases hr
    split at h
    · next hd =>
      split at h
      · next l hh hl1 hl2 =>
        split at h
        · next c1 =>
          split at h
          · next c2 =>
            injection h with h
            subst h
            refine ⟨.string (s.extract l hh), w, ρ, run_v ?_, hs, Step.refl ρ σ, by rw [strOf_extract]; exact .string _⟩
            have hmx : mx = none := by
              cases mx with
              | none => rfl
              | some y =>
                simp only [Option.toList, evOs] at e3
                split at e3 <;> simp at e3
            subst hmx
            have hsz : s.data.toList.length = s.size := by simp
            have hb := sliceBounds_run (P := P) ha false (mx := none) (l3 := []) (len := s.size) (cap := s.size) (cap' := s.size) (m := s.size) e1 e2 rfl hl1 (by rw [← hsz]; exact hl2) rfl c1 (by omega) (Nat.le_refl _) (Nat.le_refl _) (by simp) w
            simp only [Option.map_none, if_true] at hb
            simp only [Instr.sliceAt, Sem.run_bind, run_underlying hd, Result.andThen_ok, Instr.slice, hu, Option.map_none, Option.isSome_none, Bool.false_eq_true, if_false, Sem.run_pure, hb]
          · cases h
        · cases h
      · cases h
    · cases h
  · next base len cap l1 l2 l3 hv e1 e2 e3 =>
    have hr := evO_rel ha hv
    generalize hu : A.eval x = u at hr
    split at h
    · next e hd =>
      split at h
      · next i hinf =>
        split at h
        · next l hh m hl1 hl2 hl3 =>
          split at h
          · next c1 =>
            split at h
            · next c2 =>
              split at h
              · next c3 =>
                split at h
                · cases h
                · next hsz =>
                  split at h
                  · cases h
                  · next c5 =>
                    have key : ∀ (base' : Option Addr) (cap' : Nat), u = .slice base' len cap' → cap ≤ cap' → (Instr.sliceAt t (A.eval x) (lo.map A.eval) (hi.map A.eval) (mx.map A.eval)).run P w = .ok (.slice (if (if l3 = [] then cap' else m) = l then base' else base'.map (·.add (l * i.size))) (hh - l) ((if l3 = [] then cap' else m) - l)) w := by
                      intro base' cap' hu' hc
                      have hb := sliceBounds_run (P := P) ha true e1 e2 e3 hl1 hl2 hl3 c1 c2 c3 hc c5 w
                      simp only [Instr.sliceAt, Sem.run_bind, run_underlying hd, Result.andThen_ok, Instr.slice, hu, hu', hb, sizeOf, typeInfo, run_program, hinf, Sem.run_pure]
                    split at h
                    · injection h with h
                      subst h
                      cases hr
                      refine ⟨_, w, ρ, run_v (key _ _ rfl (Nat.le_refl _)), hs, Step.refl ρ σ, ?_⟩
                      have hm : (if l3 = [] then cap else m) = m := by
                        split
                        · next e => subst e; simp [bound] at hl3; omega
                        · rfl
                      rw [hm]
                      rw [Option.map_none, ite_self]
                      exact .nilSlice _ _
                    · next p =>
                      cases hr with
                      | @slice b c k off _ _ hb =>
                        dsimp only at h
                        injection h with h
                        subst h
                        refine ⟨_, w, ρ, run_v (key _ _ rfl (Nat.le_refl _)), hs, Step.refl ρ σ, ?_⟩
                        have hm : (if l3 = [] then cap else m) = m := by
                          split
                          · next e => subst e; simp [bound] at hl3; omega
                          · rfl
                        rw [hm]
                        by_cases hml : m = l
                        · rw [if_pos hml, if_pos hml]; exact .slice _ _ _ hb
                        · rw [if_neg hml, if_neg hml, Option.map_some, Addr.add_mid]; exact .slice _ _ _ hb
                      | @grown b c k off _ _ m' hb hm h0 =>
                        cases l3 with
                        | nil =>
                          simp only [bound, Option.some.injEq] at hl3
                          subst hl3
                          dsimp only at h
                          split at h
                          · next hl0 =>
                            subst hl0
                            injection h with h
                            subst h
                            refine ⟨_, w, ρ, run_v (key _ _ rfl hm), hs, Step.refl ρ σ, ?_⟩
                            rw [if_pos rfl, Nat.zero_mul, Option.map_some, Addr.add_mid, Nat.add_zero]
                            rw [ite_self]
                            exact .grown _ _ _ _ hb hm h0
                          · next hl0 =>
                            split at h
                            · next hlc =>
                              injection h with h
                              subst h
                              refine ⟨_, w, ρ, run_v (key _ _ rfl hm), hs, Step.refl ρ σ, ?_⟩
                              rw [if_pos rfl, if_neg (by omega), Option.map_some, Addr.add_mid]
                              refine .grown _ _ _ _ hb (by omega) (fun e => ?_)
                              have := Nat.mul_pos (show 0 < l by omega) (show 0 < i.size by omega)
                              omega
                            · injection h with h
                              subst h
                              refine ⟨_, w, ρ, run_v (key _ _ rfl hm), hs, Step.refl ρ σ, ?_⟩
                              rw [show hh - l = 0 by omega, Option.map_some, Addr.add_mid, if_pos (rfl : ([] : List Value) = [])]
                              by_cases hq : m' = l
                              · rw [if_pos hq]; exact .past _ _
                              · rw [if_neg hq]; exact .past _ _
                        | cons v vs =>
                          dsimp only at h
                          injection h with h
                          subst h
                          refine ⟨_, w, ρ, run_v (key _ _ rfl hm), hs, Step.refl ρ σ, ?_⟩
                          have hne : (if (v :: vs : List Value) = [] then m' else m) = m := if_neg (List.cons_ne_nil _ _)
                          rw [hne]
                          by_cases hml : m = l
                          · rw [if_pos hml, if_pos hml]; exact .slice _ _ _ hb
                          · rw [if_neg hml, if_neg hml, Option.map_some, Addr.add_mid]; exact .slice _ _ _ hb
                      | past x0 m' =>
                        cases l3 with
                        | nil =>
                          simp only [bound, Option.some.injEq] at hl3
                          subst hl3
                          dsimp only at h
                          split at h
                          · next hl0 =>
                            subst hl0
                            injection h with h
                            subst h
                            refine ⟨_, w, ρ, run_v (key _ _ rfl (Nat.zero_le _)), hs, Step.refl ρ σ, ?_⟩
                            obtain rfl : hh = 0 := by omega
                            have h1 : x0.add (0 * i.size) = x0 := by rw [Nat.zero_mul]; unfold Addr.add; rw [if_pos rfl]
                            rw [Option.map_some, h1]
                            rw [ite_self]
                            exact .past _ _
                          · cases h
                        | cons v vs =>
                          dsimp only at h
                          cases h
              · cases h
            · cases h
          · cases h
        · cases h
      · cases h
    · cases h
  · cases h
end
end Ev
end Go.Proofs.YtibhkabmihhjiaaGreatDoor
