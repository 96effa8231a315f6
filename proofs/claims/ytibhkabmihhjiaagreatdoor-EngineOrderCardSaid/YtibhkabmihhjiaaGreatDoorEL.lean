/-
  The reckoner's plain regions are the machine's.
-/
import Derived.Test.YtibhkabmihhjiaaGreatDoorEK
import Derived.Tactics
import Derived.Scope
namespace Go.Proofs.YtibhkabmihhjiaaGreatDoor
open Go Go.RowKit
set_option linter.unusedVariables false
set_option linter.unusedSimpArgs false
namespace Ev
variable {P : Program}
/-- How a call ends. -/
def FPost (w0 : Base) (ρ : Pl) (σ : St) (fr : FR) (σ' : St) (e : Ending) (w' : World) : Prop :=
  ∃ ρ', Sim w0 ρ' σ' w' ∧ Step ρ σ ρ' σ' ∧ match fr with
    | .ret v => ∃ v', e = .returned v' ∧ Rel ρ' v v'
    | .pan v => ∃ v', e = .panicked [{ v := v', recovered := false }] ∧ Rel ρ' v v'
/-- Calls that are reckoned as the machine does them. -/
def Good (P : Program) (call : CallF) : Prop :=
  ∀ f args σ fr σ', call f args σ = .ok (fr, σ') → (∃ fn, P.funcs[f]? = some fn ∧ fn.body.isSome = true ∧ (fn.name == "runtime.NumGoroutine") = false) ∧
    ∀ w0 ρ w (cargs : Array Value), Sim w0 ρ σ w → Rels ρ args cargs.toList → Calls P f cargs w (FPost w0 ρ σ fr σ')
/-- How a piece of code ends. -/
def CPost (w0 : Base) (ρ : Pl) (σ : St) (n : Nat) (ex : Ex) (a' : Env) (σ' : St) (e : Exit) (A : Act) (w : World) : Prop :=
  ∃ ρ', Sim w0 ρ' σ' w ∧ Step ρ σ ρ' σ' ∧ A.defers = [] ∧ match ex with
    | .normal => e = .normal ∧ ActR ρ' n a' A
    | .exit id => e = .exit id ∧ ActR ρ' n a' A
    | .ret => e = .ret ∧ ActR ρ' n a' A
    | .pan v => ∃ v', e = .panic [{ v := v', recovered := false }] ∧ Rel ρ' v v'
theorem CPost.trans {w0 : Base} {ρ ρ1 : Pl} {σ σ1 : St} {n : Nat} {ex : Ex} {a' : Env} {σ' : St} {e : Exit} {A : Act} {w : World} (h : Step ρ σ ρ1 σ1) (k : CPost w0 ρ1 σ1 n ex a' σ' e A w) : CPost w0 ρ σ n ex a' σ' e A w := by
  obtain ⟨ρ', h1, h2, h3⟩ := k
  exact ⟨ρ', h1, h.trans h2, h3⟩
section
variable {w0 : Base} {w : World} {ρ : Pl} {σ : St} {n : Nat} {a : Env} {A : Act}
theorem ActR.putA (ha : ActR ρ n a A) {d : Option Tmp} (hf : fits n d = true) {v v' : Value} (hr : Rel ρ v v') : ActR ρ n (Ev.putA a d v) (A.put d v') := by
  cases d with
  | none => exact ha
  | some d => exact ha.put (by simpa [fits] using hf) hr
theorem undef_rel (ρ : Pl) : Rel ρ undefA undef := .tuple .nil
theorem wantA_spec (ha : ActR ρ n a A) (ops : Array Oper) (o : Oper) {b : Bool} (h : wantA ops.toList a o.guard = some b) : Region.wanted o (yielded ops A.tmps) = b := by
  unfold wantA at h
  unfold Region.wanted
  cases hg : o.guard with
  | none =>
    rw [hg] at h
    simpa using h
  | some jw =>
    obtain ⟨j, want⟩ := jw
    rw [hg] at h
    simp only at h
    split at h
    · next oj hj =>
      rw [Array.getElem?_toList] at hj
      split at h
      · next d hd =>
        have hy : ∀ x, A.tmps[d]? = some x → yielded ops A.tmps j = match x with | .bool b => some b | _ => none := by
          intro x hx
          unfold yielded
          simp only [hj, Option.bind_some, hd, hx]
          cases x <;> rfl
        split at h
        · next c hc =>
          injection h with h
          obtain ⟨x, hx, hr⟩ := ha.tmp _ _ hc
          cases hr
          simp only
          rw [hy _ hx, ← h]
          cases c <;> cases want <;> rfl
        · next v hv hc =>
          injection h with h
          obtain ⟨x, hx, hr⟩ := ha.tmp _ _ hc
          simp only
          rw [hy _ hx, ← h]
          cases hr <;> first | rfl | (exact absurd rfl (hv _))
        · cases h
      · cases h
    · cases h
/-- One operation, and what comes behind it. -/
theorem effA_sound {call : CallF} (hg : Good P call) (hs : Sim w0 ρ σ w) (ha : ActR ρ n a A) (o : Oper) (hf : fits n o.dst = true) {next : Env → St → Out} {ex : Ex} {a' : Env} {σ' : St} (h : effA P call n o a σ next = .ok (ex, a', σ'))
    {K : Act → World → Prop} {Q : Exit → Act → World → Prop}
    (hK : ∀ a1 σ1, next a1 σ1 = .ok (ex, a', σ') → ∀ ρ1 A1 w1, Sim w0 ρ1 σ1 w1 → Step ρ σ ρ1 σ1 → ActR ρ1 n a1 A1 → (∃ v v', Rel ρ1 v v' ∧ a1 = Ev.putA a o.dst v ∧ A1 = A.put o.dst v') → K A1 w1)
    (hQ : ∀ v σ1, ex = .pan v → σ' = σ1 → ∀ ρ1 v' w1, Sim w0 ρ1 σ1 w1 → Step ρ σ ρ1 σ1 → Rel ρ1 v v' → Q (.panic [{ v := v', recovered := false }]) A w1) :
    o.wp P A w K Q := by
  unfold effA at h
  unfold Oper.wp
  cases hop : opA P σ a o.op with
  | none => rw [hop] at h; cases h
  | some r =>
    rw [hop] at h
    have hok := opA_sound hs ha o hop
    cases r with
    | val v σ1 =>
      obtain ⟨v', w', ρ', h1, h2, h3, h4⟩ := hok
      rw [h1]
      exact hK _ _ h ρ' _ w' h2 h3 ((ha.mono (h3.le hs)).putA hf h4) ⟨v, v', h4, rfl, rfl⟩
    | skip σ1 =>
      obtain ⟨w', ρ', h1, h2, h3⟩ := hok
      rw [h1]
      exact hK _ _ h ρ' _ w' h2 h3 ((ha.mono (h3.le hs)).putA hf (undef_rel ρ')) ⟨_, _, undef_rel ρ', rfl, rfl⟩
    | pan v =>
      obtain ⟨v', h1, h2⟩ := hok
      rw [h1]
      simp only [Rs.ok.injEq, Prod.mk.injEq] at h
      exact hQ v σ h.1.symm h.2.2.symm ρ v' w hs (Step.refl ρ σ) h2
    | call f args =>
      obtain ⟨cargs, h1, h2⟩ := hok
      simp only at h
      cases hc : call f args σ with
      | no ws => rw [hc] at h; cases h
      | ok p =>
        obtain ⟨fr, σ1⟩ := p
        obtain ⟨⟨fn, hfn, hb, hnm⟩, hcalls⟩ := hg f args σ fr σ1 hc
        rw [h1 fn hfn hb hnm]
        refine (hcalls w0 ρ w cargs hs h2).mono ?_
        rintro e w1 ⟨ρ1, k1, k2, k3⟩
        rw [hc] at h
        cases fr with
        | ret v =>
          obtain ⟨v', rfl, k4⟩ := k3
          exact hK _ _ h ρ1 _ w1 k1 k2 ((ha.mono (k2.le hs)).putA hf k4) ⟨v, v', k4, rfl, rfl⟩
        | pan v =>
          obtain ⟨v', rfl, k4⟩ := k3
          simp only [Rs.ok.injEq, Prod.mk.injEq] at h
          exact hQ v σ1 h.1.symm h.2.2.symm ρ1 v' w1 k1 k2 k4
theorem regL_sound {call : CallF} (hg : Good P call) (ops : Array Oper) {ρ0 : Pl} {σ0 : St} : ∀ (l : List Oper) {ρ : Pl} {σ : St} {w : World} {a : Env} {A : Act}, Step ρ0 σ0 ρ σ → Sim w0 ρ σ w → ActR ρ n a A → ∀ {ex : Ex} {a' : Env} {σ' : St}, regL P call n ops.toList l a σ = .ok (ex, a', σ') → wpList P ops (CPost w0 ρ0 σ0 n ex a' σ') l A w
  | [], ρ, σ, w, a, A, ht, hs, ha, ex, a', σ', h => by
    have h : (Rs.ok (Ex.normal, a, σ) : Out) = .ok (ex, a', σ') := h
    simp only [Rs.ok.injEq, Prod.mk.injEq] at h
    obtain ⟨rfl, rfl, rfl⟩ := h
    exact ⟨ρ, hs, ht, ha.defers, rfl, ha⟩
  | o :: l, ρ, σ, w, a, A, ht, hs, ha, ex, a', σ', h => by
    have h : (match fits n o.dst with
      | false => .no [7005]
      | true => match wantA ops.toList a o.guard with
        | none => .no [7011]
        | some false => regL P call n ops.toList l (putA a o.dst undefA) σ
        | some true => effA P call n o a σ (regL P call n ops.toList l) : Out) = .ok (ex, a', σ') := h
    split at h
    · cases h
    · next hf =>
      split at h
      · cases h
      · next hw =>
        have hwt := wantA_spec ha ops o hw
        rw [wpList, if_neg (by rw [hwt]; simp)]
        exact regL_sound hg ops l ht hs (ha.putA hf (undef_rel ρ)) h
      · next hw =>
        have hwt := wantA_spec ha ops o hw
        rw [wpList, if_pos hwt]
        refine .inl (effA_sound hg hs ha o hf h ?_ ?_)
        · intro a1 σ1 h1 ρ1 A1 w1 k1 k2 k3 _
          exact regL_sound hg ops l (ht.trans k2) k1 k3 h1
        · rintro v σ1 rfl rfl ρ1 v' w1 k1 k2 k3
          exact ⟨ρ1, k1, ht.trans k2, ha.defers, v', rfl, k3⟩
end
end Ev
end Go.Proofs.YtibhkabmihhjiaaGreatDoor
