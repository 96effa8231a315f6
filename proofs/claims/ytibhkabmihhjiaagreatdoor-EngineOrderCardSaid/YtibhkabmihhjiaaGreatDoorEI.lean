/-
  The reckoner's operations are the machine's: maps, built values, calls; all of them.
-/
import Derived.Test.YtibhkabmihhjiaaGreatDoorEH
namespace Go.Proofs.YtibhkabmihhjiaaGreatDoor
open Go Go.RowKit
set_option linter.unusedVariables false
set_option linter.unusedSimpArgs false
namespace Ev
variable {P : Program}
section
variable {w0 : Base} {w : World} {ρ : Pl} {σ : St} {n : Nat} {a : Env} {A : Act}
/-! ### Calls, and what is built in -/
theorem copy_run {ts : Array TypeId} {t ty e : TypeId} {i : TypeInfo} (ht0 : ts[0]? = some t) (ht : P.underlying t = some (.slice e)) (hi : P.info? e = some i) {base : Option Addr} {q q2 m : Nat} {x' : Value} {cs : List Value} {w' : World}
    (hx : (Builtin.lenOf x').run P w = .ok m w) (hn : (Builtin.firstCells i.size (min m q) x').run P w = .ok cs.toArray w) (hst : (match base with | some p => storeCells p cs | none => pure ()).run P w = .ok () w') :
    (Builtin.copy_ ts ty #[.slice base q q2, x']).run P w = .ok (.int .i64 ((min m q : Nat) : Int)) w' := by
  have hn' : (Builtin.firstCells i.size (Nat.min m q) x').run P w = .ok cs.toArray w := hn
  cases base with
  | none =>
    simp only [Sem.run_pure, Result.ok.injEq, true_and] at hst
    subst hst
    simp [Builtin.copy_, ht0, run_underlying ht, sizeOf, typeInfo, hi, hx, hn', goInt]
  | some p =>
    simp [Builtin.copy_, ht0, run_underlying ht, sizeOf, typeInfo, hi, hx, hn', goInt, hst]
theorem s_builtin (hs : Sim w0 ρ σ w) {b : Builtin} {ts : List TypeId} {args : List Value} {cargs : Array Value} (hr : Rels ρ args cargs.toList) {r : OR} (h : builtinA P σ b ts args = some r) (ty : TypeId) (consts : Array Bool) :
    ∃ v σ' v' w' ρ', r = .val v σ' ∧ (builtin b ts.toArray ty consts cargs).run P w = .ok (.value v') w' ∧ Sim w0 ρ' σ' w' ∧ Step ρ σ ρ' σ' ∧ Rel ρ' v v' := by
  unfold builtinA at h
  split at h
  · -- len
    next x =>
    obtain ⟨x', hx, e1⟩ : ∃ x', Rel ρ x x' ∧ cargs = #[x'] := by
      cases hc : cargs.toList with
      | nil => rw [hc] at hr; cases hr
      | cons y ys =>
        rw [hc] at hr
        cases hr with
        | cons h k => cases k; exact ⟨y, h, by rw [← Array.toArray_toList (xs := cargs), hc]⟩
    subst e1
    split at h
    · next t tr =>
      split at h
      · next k e hd =>
        injection h with h
        subst h
        cases hx
        exact ⟨_, _, .int .i64 0, w, ρ, rfl, run_v (by simp [Builtin.len_, run_underlying hd, goInt]), hs, Step.refl ρ σ, .int _ _⟩
      · next k e r0 hd =>
        split at h
        · next es hg =>
          injection h with h
          subst h
          cases hx with
          | map hb =>
            have hob := hs.ob _ _ _ hb
            rw [hg] at hob
            obtain ⟨ms, cl, h1, h2⟩ := hob
            have hl : es.length = ms.size := by
              have key : ∀ (l : List (Value × Value)) (m : List MapEntry), EntR ρ l m → l.length = m.length := by
                intro l
                induction l with
                | nil => intro m hm; cases m with
                  | nil => rfl
                  | cons _ _ => exact hm.elim
                | cons x l ih => intro m hm; cases m with
                  | nil => exact hm.elim
                  | cons y m => rw [List.length_cons, List.length_cons, ih m hm.2.2]
              have := key _ _ h2
              simpa using this
            exact ⟨_, _, .int .i64 ms.size, w, ρ, rfl, run_v (by simp [Builtin.len_, run_underlying hd, goInt, getObj, Sem.run, h1]), hs, Step.refl ρ σ, by rw [hl]; exact .int _ _⟩
        · cases h
      · next s hd =>
        injection h with h
        subst h
        cases hx
        exact ⟨_, _, .int .i64 s.size, w, ρ, rfl, run_v (by simp [Builtin.len_, run_underlying hd, goInt]), hs, Step.refl ρ σ, by rw [show s.data.toList.length = s.size by simp]; exact .int _ _⟩
      · next e q m q2 hd =>
        injection h with h
        subst h
        refine ⟨_, _, .int .i64 m, w, ρ, rfl, run_v ?_, hs, Step.refl ρ σ, .int _ _⟩
        cases hx <;> simp [Builtin.len_, run_underlying hd, goInt]
      · cases h
    · cases h
  · -- cap
    next base q c =>
    obtain ⟨x', hx, e1⟩ : ∃ x', Rel ρ (.slice base q c) x' ∧ cargs = #[x'] := by
      cases hc : cargs.toList with
      | nil => rw [hc] at hr; cases hr
      | cons y ys =>
        rw [hc] at hr
        cases hr with
        | cons h k => cases k; exact ⟨y, h, by rw [← Array.toArray_toList (xs := cargs), hc]⟩
    subst e1
    split at h
    · next t tr =>
      split at h
      · next e hd =>
        split at h
        · injection h with h
          subst h
          cases hx
          exact ⟨_, _, .int .i64 c, w, ρ, rfl, run_v (by simp [Builtin.cap_, run_underlying hd, goInt]), hs, Step.refl ρ σ, .int _ _⟩
        · next p =>
          split at h
          · next hsp =>
            injection h with h
            subst h
            cases hx with
            | slice o _ _ hb => exact ⟨_, _, .int .i64 c, w, ρ, rfl, run_v (by simp [Builtin.cap_, run_underlying hd, goInt]), hs, Step.refl ρ σ, .int _ _⟩
            | grown => simp at hsp
            | past => simp at hsp
          · cases h
      · cases h
    · cases h
  · -- append
    next s x =>
    obtain ⟨s', x', hs', hx', e1⟩ : ∃ s' x', Rel ρ s s' ∧ Rel ρ x x' ∧ cargs = #[s', x'] := by
      cases hc : cargs.toList with
      | nil => rw [hc] at hr; cases hr
      | cons y ys =>
        rw [hc] at hr
        cases hr with
        | cons h k =>
          cases k with
          | cons h2 k2 => cases k2; exact ⟨y, _, h, h2, by rw [← Array.toArray_toList (xs := cargs), hc]⟩
    subst e1
    split at h
    · next t t2 =>
      split at h
      · next e e2 hd hd2 =>
        split at h
        · next i hi =>
          obtain ⟨v, σ', v', w', ρ', h1, h2, h3, h4, h5⟩ := appendA_sound (P := P) hs hs' hx' (ty := ty) hd hd2 (.inr ⟨_, rfl⟩) hi h
          exact ⟨v, σ', v', w', ρ', h1, run_v h2, h3, h4, h5⟩
        · cases h
      · next e hd hd2 =>
        split at h
        · next i hi =>
          obtain ⟨v, σ', v', w', ρ', h1, h2, h3, h4, h5⟩ := appendA_sound (P := P) hs hs' hx' (ty := ty) hd hd2 (.inl rfl) hi h
          exact ⟨v, σ', v', w', ρ', h1, run_v h2, h3, h4, h5⟩
        · cases h
      · cases h
    · cases h
  · -- copy
    next base q q2 x =>
    obtain ⟨s', x', hs', hx', e1⟩ : ∃ s' x', Rel ρ (.slice base q q2) s' ∧ Rel ρ x x' ∧ cargs = #[s', x'] := by
      cases hc : cargs.toList with
      | nil => rw [hc] at hr; cases hr
      | cons y ys =>
        rw [hc] at hr
        cases hr with
        | cons h k =>
          cases k with
          | cons h2 k2 => cases k2; exact ⟨y, _, h, h2, by rw [← Array.toArray_toList (xs := cargs), hc]⟩
    subst e1
    split at h
    · next t tr =>
      split at h
      · next e hd =>
        split at h
        · next i m hi hm =>
          split at h
          · cases h
          · next cs hcs =>
            obtain ⟨cs', hn, hnr⟩ := firstA_run (P := P) hs hx' hcs
            have hlx := lenA_run (P := P) hx' hm w
            split at h
            · injection h with h
              subst h
              cases hs'
              exact ⟨_, _, _, w, ρ, rfl, run_v (copy_run rfl hd hi hlx (hn w rfl) rfl), hs, Step.refl ρ σ, .int _ _⟩
            · next p =>
              split at h
              · next hm0 =>
                injection h with h
                subst h
                rw [hm0] at hcs hn
                have e0 := firstA_zero hcs
                subst e0
                cases hnr
                have key : ∀ (p' : Addr) (q2' : Nat), (Builtin.copy_ (t :: tr).toArray ty #[.slice (some p') q q2', x']).run P w = .ok (.int .i64 0) w := by
                  intro p' q2'
                  have := copy_run (P := P) (ty := ty) (ts := (t :: tr).toArray) (base := some p') (q2 := q2') (w' := w) rfl hd hi hlx (by rw [hm0]; exact hn w rfl) (by simp [storeCells])
                  rw [hm0] at this
                  exact this
                cases hs' with
                | slice o _ _ hb => exact ⟨_, _, .int .i64 0, w, ρ, rfl, run_v (key _ _), hs, Step.refl ρ σ, .int _ _⟩
                | grown o _ _ m' hb hm h0 => exact ⟨_, _, .int .i64 0, w, ρ, rfl, run_v (key _ _), hs, Step.refl ρ σ, .int _ _⟩
                | past y m' => exact ⟨_, _, .int .i64 0, w, ρ, rfl, run_v (key _ _), hs, Step.refl ρ σ, .int _ _⟩
              · split at h
                · cases h
                · next hok =>
                  split at h
                  · cases h
                  · next σ' hst =>
                    injection h with h
                    subst h
                    cases hs' with
                    | slice o _ _ hb =>
                      obtain ⟨w', h1, h2, h3⟩ := storeL_sound (P := P) hs hb hst hnr
                      exact ⟨_, _, _, w', ρ, rfl, run_v (copy_run rfl hd hi hlx (hn w rfl) h1), h2, h3, .int _ _⟩
                    | grown o _ _ m' hb hm h0 =>
                      obtain ⟨w', h1, h2, h3⟩ := storeL_sound (P := P) hs hb hst hnr
                      exact ⟨_, _, _, w', ρ, rfl, run_v (copy_run rfl hd hi hlx (hn w rfl) h1), h2, h3, .int _ _⟩
                    | past y m' => simp [okS] at hok
        · cases h
      · cases h
    · cases h
  · -- clear
    next base q q2 =>
    obtain ⟨s', hs', e1⟩ : ∃ s', Rel ρ (.slice base q q2) s' ∧ cargs = #[s'] := by
      cases hc : cargs.toList with
      | nil => rw [hc] at hr; cases hr
      | cons y ys =>
        rw [hc] at hr
        cases hr with
        | cons h k => cases k; exact ⟨y, h, by rw [← Array.toArray_toList (xs := cargs), hc]⟩
    subst e1
    split at h
    · next t tr =>
      split at h
      · next e hd =>
        split at h
        · injection h with h
          subst h
          cases hs'
          exact ⟨_, _, _, w, ρ, rfl, run_v (by simp [Builtin.clear_, run_underlying hd]), hs, Step.refl ρ σ, .tuple .nil⟩
        · next p =>
          split at h
          · next hq =>
            subst hq
            injection h with h
            subst h
            cases hs' <;> exact ⟨_, _, _, w, ρ, rfl, run_v (by simp [Builtin.clear_, run_underlying hd]), hs, Step.refl ρ σ, .tuple .nil⟩
          · next hq =>
            split at h
            · cases h
            · next z hz =>
              split at h
              · cases h
              · next hok =>
                split at h
                · cases h
                · next σ' hst =>
                  injection h with h
                  subst h
                  obtain ⟨i, h1, h2, h3⟩ := zeroA_spec hz
                  have hzr : Rels ρ (zerosL (cellsL z) q) (Builtin.zeroCells z.cells q).toList := by
                    unfold Builtin.zeroCells
                    rw [zerosL_range _ _ _ rfl]
                    exact (Rel.cells (Rel.const ρ h3)).zeros q
                  have key : ∀ (p' : Addr) (q2' : Nat) (w' : World), (storeCells p' (Builtin.zeroCells z.cells q).toList).run P w = .ok () w' → (Builtin.clear_ (t :: tr).toArray ty #[.slice (some p') q q2']).run P w = .ok (.tuple #[]) w' := by
                    intro p' q2' w' hw
                    obtain ⟨q, rfl⟩ : ∃ k, q = k + 1 := ⟨q - 1, by omega⟩
                    simp [Builtin.clear_, run_underlying hd, zeroValue, typeInfo, h1, h2, hw]
                  cases hs' with
                  | slice o _ _ hb =>
                    obtain ⟨w', k1, k2, k3⟩ := storeL_sound (P := P) hs hb hst hzr
                    exact ⟨_, _, _, w', ρ, rfl, run_v (key _ _ _ k1), k2, k3, .tuple .nil⟩
                  | grown o _ _ m' hb hm h0 =>
                    obtain ⟨w', k1, k2, k3⟩ := storeL_sound (P := P) hs hb hst hzr
                    exact ⟨_, _, _, w', ρ, rfl, run_v (key _ _ _ k1), k2, k3, .tuple .nil⟩
                  | past y m' => simp [okS] at hok
      · cases h
    · cases h
  · -- min
    next k x k2 y =>
    obtain ⟨s', x', hs', hx', e1⟩ : ∃ s' x', Rel ρ (.int k x) s' ∧ Rel ρ (.int k2 y) x' ∧ cargs = #[s', x'] := by
      cases hc : cargs.toList with
      | nil => rw [hc] at hr; cases hr
      | cons y ys =>
        rw [hc] at hr
        cases hr with
        | cons h k =>
          cases k with
          | cons h2 k2 => cases k2; exact ⟨y, _, h, h2, by rw [← Array.toArray_toList (xs := cargs), hc]⟩
    subst e1
    injection h with h
    subst h
    cases hs'; cases hx'
    exact ⟨_, _, _, w, ρ, rfl, run_v (by simp [Builtin.min_, Builtin.min2]), hs, Step.refl ρ σ, .int _ _⟩
  · -- max
    next k x k2 y =>
    obtain ⟨s', x', hs', hx', e1⟩ : ∃ s' x', Rel ρ (.int k x) s' ∧ Rel ρ (.int k2 y) x' ∧ cargs = #[s', x'] := by
      cases hc : cargs.toList with
      | nil => rw [hc] at hr; cases hr
      | cons y ys =>
        rw [hc] at hr
        cases hr with
        | cons h k =>
          cases k with
          | cons h2 k2 => cases k2; exact ⟨y, _, h, h2, by rw [← Array.toArray_toList (xs := cargs), hc]⟩
    subst e1
    injection h with h
    subst h
    cases hs'; cases hx'
    exact ⟨_, _, _, w, ρ, rfl, run_v (by simp [Builtin.max_, Builtin.max2]), hs, Step.refl ρ σ, .int _ _⟩
  · cases h
end
end Ev
end Go.Proofs.YtibhkabmihhjiaaGreatDoor
