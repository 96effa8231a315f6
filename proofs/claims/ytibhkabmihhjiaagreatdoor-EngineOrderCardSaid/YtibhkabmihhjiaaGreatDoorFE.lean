/-
  The quick reckoner says what the reckoner says: operations done ahead in a region that draws.
-/
import Derived.Test.YtibhkabmihhjiaaGreatDoorFD
import Derived.Test.YtibhkabmihhjiaaGreatDoorEQ
namespace Go.Proofs.YtibhkabmihhjiaaGreatDoor
open Go Go.RowKit
set_option linter.unusedVariables false
set_option linter.unusedSimpArgs false
namespace Ev
variable {P : Program}
def HInv (P : Program) (σ : St) (h : Held) : Prop := ∀ x ∈ h, holdsH P σ x.2 = true ∧ ∀ b ob, x.2 = .made b ob → Clean ob
theorem HInv.nil (σ : St) : HInv P σ [] := fun x hx => by cases hx
theorem HInv.cons {σ : St} {h : Held} {i : Nat} {x : Hd} (h1 : holdsH P σ x = true) (h2 : ∀ b ob, x = .made b ob → Clean ob) (h3 : HInv P σ h) : HInv P σ ((i, x) :: h) := by
  intro y hy
  rcases List.mem_cons.1 hy with rfl | hy
  · exact ⟨h1, h2⟩
  · exact h3 y hy
theorem loadA_new {σ : St} {ob : Ob} {t : TypeId} {p : Addr} {v : Value} (hn : σ.heap.get σ.next = none) (h : loadA P σ t p = some v) : loadA P (σ.new ob) t p = some v := by
  have hne : p.block ≠ σ.next := fun e => by
    unfold loadA at h
    rw [e, hn] at h
    cases h
  have e : (σ.new ob).heap.get p.block = σ.heap.get p.block := Tr.get_other _ _ hne
  unfold loadA at h ⊢
  rw [e]
  exact h
theorem HInv.new {σ : St} {h : Held} {ob : Ob} (hn : σ.heap.get σ.next = none) (hh : HInv P σ h) : HInv P (σ.new ob) h := by
  intro x hx
  obtain ⟨h1, h2⟩ := hh x hx
  refine ⟨?_, h2⟩
  cases hq : x.2 with
  | load t p v =>
    rw [hq] at h1
    have h1 : loadA P σ t p = some v := by simpa [holdsH] using h1
    simpa [holdsH] using loadA_new hn h1
  | made b o =>
    rw [hq] at h1
    have h1 : σ.heap.get b = some o := by simpa [holdsH] using h1
    have hne : b ≠ σ.next := fun e => by rw [e, hn] at h1; cases h1
    have e : (σ.new ob).heap.get b = σ.heap.get b := Tr.get_other _ _ hne
    simpa [holdsH, e] using h1
theorem makesF_eq (o : Op) : makesF o = makes o := by
  cases o <;> first | rfl | (rename_i t r; cases r <;> rfl)
/-- What is done ahead keeps what is held. -/
theorem float_inv {i : Nat} {σ : St} {a : Env} {o : Op} {v : Value} {σ' : St} {h : Held} (hfl : floatsA a o = true) (hop : opA P σ a o = some (.val v σ')) (hn : makes o = true → σ.heap.get σ.next = none) (hh : HInv P σ h) : HInv P σ' (heldOf i σ a o v σ' h) := by
  rcases floats_kind hfl hop with ⟨rfl, h1, h2⟩ | ⟨t, y, p, rfl, hy, rfl⟩ | hm
  · rw [h2]
    exact hh
  · have hl : loadA P σ' t p = some v := by
      simp only [opA, hy] at hop
      obtain ⟨u, hu, h1⟩ := map_some hop
      simp only [OR.val.injEq] at h1
      rw [← h1.1]
      exact hu
    have e : heldOf i σ' a (.load t y) v σ' h = (i, .load t p v) :: h := by simp [heldOf, hy]
    rw [e]
    exact HInv.cons (by simp [holdsH, hl]) (fun b ob e => by cases e) hh
  · obtain ⟨ob, rfl, hcl, -⟩ := made_of (o := ⟨none, o, 0, "", #[], none⟩) hm hop
    rw [heldOf_made hm hop]
    have hg : (σ.new ob).heap.get σ.next = some ob := Tr.get_same _ _ _
    exact HInv.cons (by simp [holdsH, hg]) (fun b o e => by cases e; exact hcl) (hh.new (hn hm))
theorem no_skip {σ : St} {a : Env} {o : Op} (hfl : floatsA a o = true) {σ' : St} : opA P σ a o ≠ some (.skip σ') := by
  intro h
  cases o <;> first
    | (cases hfl; done)
    | skip
  case call c =>
    simp only [floatsA] at hfl
    cases hc : c.callee with
    | value f => rw [hc] at hfl; simp only at hfl; obtain ⟨callee, args, tys⟩ := c; simp only at hc; subst hc; cases hfl
    | invoke r m => rw [hc] at hfl; simp only at hfl; obtain ⟨callee, args, tys⟩ := c; simp only at hc; subst hc; cases hfl
    | builtin b =>
      simp only [opA, hc] at h
      rw [hc] at hfl
      split at h
      · cases h
      · next args hargs =>
        cases b <;> first
          | (simp only at hfl; obtain ⟨callee, cargs, tys⟩ := c; simp only at hc; subst hc; cases hfl; done)
          | skip
        all_goals (unfold builtinA at h; repeat' split at h)
        all_goals first
          | contradiction
          | (cases h; done)
          | (injection h with h; cases h; done)
          | skip
  all_goals (simp only [opA] at h; repeat' split at h)
  all_goals first
    | contradiction
    | (cases h; done)
    | (injection h with h; cases h; done)
    | (obtain ⟨_, _, h⟩ := map_some h; cases h; done)
    | skip
def FlLe (P : Program) (i : Nat) (o : Op) (run : FlRun) : Prop := ∀ a σ h K W, HInv P σ h → Bad (run a σ h K W) ∨
  (∃ v σ', floatsA a o = true ∧ opA P σ a o = some (.val v σ') ∧ HInv P σ' (heldOf i σ a o v σ' h) ∧ run a σ h K W = K v σ' (heldOf i σ a o v σ' h)) ∨ (floatsA a o = false ∧ run a σ h K W = W a σ h)
/-- Neither read nor made. -/
def calmF : Op → Bool
  | .load .. => false
  | o => !makesF o
theorem calm_held {i : Nat} {σ σ' : St} {a : Env} {o : Op} {v : Value} {h : Held} (hc : calmF o = true) : heldOf i σ a o v σ' h = h := by
  cases o <;> first | rfl | (cases hc; done) | (rename_i t r; cases r <;> first | rfl | (cases hc; done))
theorem flPlain_le {i : Nat} {o : Op} {run : OpRun} (h : OpLe P o run) (hc : calmF o = true) (hfl : ∀ a, floatsA a o = true) : FlLe P i o (flPlain run) := by
  intro a σ hd K W hh
  unfold flPlain
  rcases h σ a (fun v σ' => K v σ' hd) with h | ⟨v, σ', h1 | ⟨h1, rfl⟩, h2⟩
  · exact .inl h
  · have hi := float_inv (i := i) (hfl a) h1 (fun hm => by rw [← makesF_eq] at hm; cases o <;> simp [calmF, hm] at hc) hh
    exact .inr (.inl ⟨v, σ', hfl a, h1, hi, by rw [h2, calm_held hc]⟩)
  · exact absurd h1 (no_skip (hfl a))
theorem flAsks_le {i : Nat} {o : Op} {run : OpRun} (h : OpLe P o run) (hc : calmF o = true) : FlLe P i o (flAsks o run) := by
  intro a σ hd K W hh
  unfold flAsks
  cases hfl : floatsA a o with
  | false => exact .inr (.inr ⟨rfl, rfl⟩)
  | true =>
    show Bad (run σ a fun v σ' => K v σ' hd) ∨ _
    rcases h σ a (fun v σ' => K v σ' hd) with h | ⟨v, σ', h1 | ⟨h1, rfl⟩, h2⟩
    · exact .inl h
    · have hi := float_inv (i := i) hfl h1 (fun hm => by rw [← makesF_eq] at hm; cases o <;> simp [calmF, hm] at hc) hh
      exact .inr (.inl ⟨v, σ', rfl, h1, hi, by show run σ a _ = _; rw [h2, calm_held hc]⟩)
    · exact absurd h1 (no_skip hfl)
theorem flLen_le {i : Nat} {c : Call} {x : Operand} {t e : TypeId} {r : Rd} (hr : RdLe x r) (hc : c.callee = .builtin .len) (ha : c.args.toList = [x]) (hat : c.argTypes.toList = [t]) (ht : P.underlying t = some (.slice e)) : FlLe P i (.call c) (flLen r) := by
  intro a σ hd K W hh
  unfold flLen
  rcases hr a _ with h | ⟨v, hv, h⟩
  · exact .inl h
  · rw [h]
    rcases onSlice_c v _ with h | ⟨q, n, m, rfl, h⟩
    · exact .inl h
    · have hfl : floatsA a (.call c) = true := by simp [floatsA, hc, ha, evOs, hv]
      have hop : opA P σ a (.call c) = some (.val (.int .i64 n) σ) := by simp only [opA, ha, evOs, hv, hc, builtinA, hat, ht]
      have hi := float_inv (i := i) hfl hop (fun hm => by cases hm) hh
      exact .inr (.inl ⟨_, σ, hfl, hop, hi, h⟩)
theorem flLoad_le {i : Nat} {t : TypeId} {x : Operand} {r : Rd} {run : OpRun} (hr : RdLe x r) (h : OpLe P (.load t x) run) : FlLe P i (.load t x) (flLoad i t r run) := by
  intro a σ hd K W hh
  unfold flLoad
  rcases hr a _ with h' | ⟨u, hu, h'⟩
  · exact .inl h'
  · rw [h']
    rcases onPtr_c u _ with h' | ⟨q, rfl, h'⟩
    · exact .inl h'
    · rw [h']
      cases q with
      | none => exact .inl ⟨_, rfl⟩
      | some p =>
        show Bad (run σ a fun v σ' => K v σ' ((i, .load t p v) :: hd)) ∨ _
        rcases h σ a (fun v σ' => K v σ' ((i, .load t p v) :: hd)) with h | ⟨v, σ', h1 | ⟨h1, rfl⟩, h2⟩
        · exact .inl h
        · have hi := float_inv (i := i) (a := a) (o := .load t x) rfl h1 (fun hm => by cases hm) hh
          have e : heldOf i σ a (.load t x) v σ' hd = (i, .load t p v) :: hd := by simp [heldOf, hu]
          exact .inr (.inl ⟨v, σ', rfl, h1, hi, by show run σ a _ = _; rw [h2, e]⟩)
        · exact absurd h1 (no_skip rfl)
theorem flMade_le {i : Nat} {o : Op} {run : OpRun} (h : OpLe P o run) (hm : makes o = true) (hfl : ∀ a, floatsA a o = true) : FlLe P i o (flMade i run) := by
  intro a σ hd K W hh
  obtain ⟨n, hp⟩ := σ
  obtain ⟨g, g1, g2⟩ := getOK_spec n
  have e : flMade i run a ⟨n, hp⟩ hd K W = Option.rec (motive := fun _ => OutF)
      (run ⟨n, hp⟩ a fun v σ' => St.rec (motive := fun _ => OutF) (fun _ hp' => Option.rec (motive := fun _ => OutF) (.no [7381]) (fun ob => K v σ' ((i, .made n ob) :: hd)) (hp'.get n)) σ') (fun _ => .no [7382]) (hp.get n) := by
    show Option.rec (motive := fun _ => OutF) (run ⟨n, hp⟩ a fun v σ' => St.rec (motive := fun _ => OutF) (fun _ hp' => Option.rec (motive := fun _ => OutF) (.no [7381]) (fun ob => K v σ' ((i, .made n ob) :: hd)) (Clo.rec (motive := fun _ => Option Ob) (fun g => g hp') (getOK n))) σ') (fun _ => .no [7382]) (Clo.rec (motive := fun _ => Option Ob) (fun g => g hp) (getOK n)) = _
    rw [g1]
    simp only [g2]
  rw [e]
  cases hn : hp.get n with
  | some o => exact .inl ⟨_, rfl⟩
  | none =>
    show Bad (run ⟨n, hp⟩ a fun v σ' => St.rec (motive := fun _ => OutF) (fun _ hp' => Option.rec (motive := fun _ => OutF) (.no [7381]) (fun ob => K v σ' ((i, .made n ob) :: hd)) (hp'.get n)) σ') ∨ _
    rcases h ⟨n, hp⟩ a (fun v σ' => St.rec (motive := fun _ => OutF) (fun _ hp' => Option.rec (motive := fun _ => OutF) (.no [7381]) (fun ob => K v σ' ((i, .made n ob) :: hd)) (hp'.get n)) σ') with h | ⟨v, σ', h1 | ⟨h1, rfl⟩, h2⟩
    · exact .inl h
    · have hi := float_inv (i := i) (hfl a) h1 (fun _ => hn) hh
      obtain ⟨ob, rfl, hcl, -⟩ := made_of (o := ⟨none, o, 0, "", #[], none⟩) hm h1
      have hg : (St.new ⟨n, hp⟩ ob).heap.get n = some ob := Tr.get_same _ _ _
      rw [heldOf_made hm h1] at hi
      refine .inr (.inl ⟨v, _, hfl a, h1, by rw [heldOf_made hm h1]; exact hi, ?_⟩)
      rw [heldOf_made hm h1]
      refine h2.trans ?_
      show Option.rec (motive := fun _ => OutF) (.no [7381]) (fun ob' => K v (St.new ⟨n, hp⟩ ob) ((i, .made n ob') :: hd)) ((St.new ⟨n, hp⟩ ob).heap.get n) = _
      rw [hg]
    · exact absurd h1 (no_skip (hfl a))
theorem flOf_never {o : Op} (h : flOf o = .never) (a : Env) : floatsA a o = false := by
  unfold flOf at h
  split at h
  · next c =>
    split at h
    · cases h
    · next hb =>
      have e : floatsA a (.call c) = floats (.call c) := by
        simp only [floatsA]
      rw [e]
      split at h
      · cases h
      · next hf => exact hf
  · cases h
  · next o h1 h2 =>
    split at h
    · cases h
    · next hf =>
      rw [← hf]
      unfold floatsA
      split
      · exact absurd rfl (h1 _)
      · exact absurd rfl (h2 _ _ _)
      · rfl
theorem flOf_always {o : Op} (h : flOf o = .always) (a : Env) : floatsA a o = true := by
  unfold flOf at h
  split at h
  · next c =>
    split at h
    · cases h
    · next hb =>
      have e : floatsA a (.call c) = floats (.call c) := by
        simp only [floatsA]
      rw [e]
      split at h
      · next hf => exact hf
      · cases h
  · cases h
  · next o h1 h2 =>
    split at h
    · next hf =>
      rw [← hf]
      unfold floatsA
      split
      · exact absurd rfl (h1 _)
      · exact absurd rfl (h2 _ _ _)
      · rfl
    · cases h
theorem flOf_asks {o : Op} (h : flOf o = .asks) : calmF o = true := by
  unfold flOf at h
  split at h
  · rfl
  · rfl
  · split at h <;> cases h
theorem flNever_le {i : Nat} {o : Op} (h : ∀ a, floatsA a o = false) : FlLe P i o flNever := fun a σ hd K W hh => .inr (.inr ⟨h a, rfl⟩)
theorem flC_le {R : Type} (i : Nat) (o : Op) (K : FlRun → R) : ∃ run, FlLe P i o run ∧ flC P i o K = K run := by
  have asks : calmF o = true → ∃ run, FlLe P i o run ∧ (opC P o fun run => K (flAsks o run)) = K run := fun hc => by
    obtain ⟨run, h1, h2⟩ := opC_le (P := P) o (fun run => K (flAsks o run))
    exact ⟨_, flAsks_le h1 hc, h2⟩
  unfold flC
  split
  · next h => exact ⟨_, flNever_le (flOf_never h), rfl⟩
  · next h =>
    have hc := flOf_asks h
    split
    · next c =>
      split
      · next x t hcc ha hat =>
        split
        · next e ht =>
          obtain ⟨r, h1, h2⟩ := opdC_le x (fun r => K (flLen r))
          exact ⟨_, flLen_le h1 hcc ha hat ht, h2⟩
        · exact asks hc
      · exact asks hc
    · exact asks hc
  · next h =>
    have hfl := flOf_always h
    split
    · next t x =>
      obtain ⟨r, h1, h2⟩ := opdC_le x (fun r => opC P (.load t x) fun run => K (flLoad i t r run))
      obtain ⟨run, h3, h4⟩ := opC_le (P := P) (.load t x) (fun run => K (flLoad i t r run))
      exact ⟨_, flLoad_le h1 h3, h2.trans h4⟩
    · next o' hno =>
      split
      · next hm =>
        obtain ⟨run, h1, h2⟩ := opC_le (P := P) o (fun run => K (flMade i run))
        exact ⟨_, flMade_le h1 (by rw [← makesF_eq]; exact hm) hfl, h2⟩
      · next hm =>
        obtain ⟨run, h1, h2⟩ := opC_le (P := P) o (fun run => K (flPlain run))
        refine ⟨_, flPlain_le h1 ?_ hfl, h2⟩
        cases o <;> first | (exact absurd rfl (hno _ _)) | (simp [calmF, hm])
end Ev
end Go.Proofs.YtibhkabmihhjiaaGreatDoor
