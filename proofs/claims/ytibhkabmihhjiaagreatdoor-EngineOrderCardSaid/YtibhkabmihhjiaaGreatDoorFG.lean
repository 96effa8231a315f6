/-
  The quick reckoner says what the reckoner says: regions that draw, code, functions.
-/
import Derived.Test.YtibhkabmihhjiaaGreatDoorFE
import Derived.Test.YtibhkabmihhjiaaGreatDoorEM
namespace Go.Proofs.YtibhkabmihhjiaaGreatDoor
open Go Go.RowKit
set_option linter.unusedVariables false
set_option linter.unusedSimpArgs false
namespace Ev
variable {P : Program}
/-! ### A step of a plan -/
def SPutLe (P : Program) (i : Nat) (o : Oper) (run : StepRun) : Prop := ∀ a σ h S N W, HInv P σ h → Bad (run a σ h S N W) ∨
  (floatsA a o.op = true ∧ ∃ v σ', opA P σ a o.op = some (.val v σ') ∧ HInv P σ' (heldOf i σ a o.op v σ' h) ∧ run a σ h S N W = N (putA a o.dst v) σ' (heldOf i σ a o.op v σ' h)) ∨ (floatsA a o.op = false ∧ run a σ h S N W = W a σ h)
def StepLe (P : Program) (ops : List Oper) (i : Nat) (o : Oper) (run : StepRun) : Prop := ∀ a σ h S N W, HInv P σ h → Bad (run a σ h S N W) ∨
  (wantA ops a o.guard = some false ∧ run a σ h S N W = S (putA a o.dst undefA) σ h) ∨
  (wantA ops a o.guard = some true ∧ ((floatsA a o.op = true ∧ ∃ v σ', opA P σ a o.op = some (.val v σ') ∧ HInv P σ' (heldOf i σ a o.op v σ' h) ∧ run a σ h S N W = N (putA a o.dst v) σ' (heldOf i σ a o.op v σ' h)) ∨ (floatsA a o.op = false ∧ run a σ h S N W = W a σ h)))
theorem stepPut_le {i : Nat} {o : Oper} {run : FlRun} (h : FlLe P i o.op run) {put : Value → Env → Env} (hp : ∀ v t, put v t = putA t o.dst v) : SPutLe P i o (stepPut put run) := by
  intro a σ hd S N W hh
  unfold stepPut
  rcases h a σ hd _ W hh with h | ⟨v, σ', h1, h2, h3, h4⟩ | ⟨h1, h2⟩
  · exact .inl h
  · exact .inr (.inl ⟨h1, v, σ', h2, h3, by rw [h4, hp]⟩)
  · exact .inr (.inr ⟨h1, h2⟩)
theorem dstS_le {R : Type} {i : Nat} {o : Oper} {run : FlRun} (h : FlLe P i o.op run) (K : (Env → Env) → StepRun → R) : ∃ skip run', (∀ t, skip t = putA t o.dst undefA) ∧ SPutLe P i o run' ∧ dstS o.dst run K = K skip run' := by
  have key : ∀ d, o.dst = d → ∃ skip run', (∀ t, skip t = putA t d undefA) ∧ SPutLe P i o run' ∧ dstS d run K = K skip run' := fun d hd => by
    cases d with
    | none => exact ⟨_, _, fun t => rfl, stepPut_le h (fun v t => by rw [hd]; rfl), rfl⟩
    | some t =>
      obtain ⟨s, s1, s2⟩ := setC_spec (α := Value) 2 t (fun p => K (p undefA) (stepPut p run))
      exact ⟨_, _, fun a => s1 undefA a, stepPut_le h (fun v a => by rw [hd]; exact s1 v a), s2⟩
  exact key _ rfl
theorem stepGuard_le {ops : List Oper} {i : Nat} {o : Oper} {run : StepRun} (h : SPutLe P i o run) {j d : Nat} {want : Bool} (hg : o.guard = some (j, want)) {og : Oper} (ho : ops[j]? = some og) (hd : og.dst = some d) {q : GetE} (hq : ∀ t : Env, q t = t.get d) {skip : Env → Env} (hs : ∀ t, skip t = putA t o.dst undefA) : StepLe P ops i o (stepGuard q want skip run) := by
  intro a σ hl S N W hh
  unfold stepGuard
  rw [hq a]
  cases hv : a.get d with
  | none => exact .inl ⟨_, rfl⟩
  | some v =>
    have hw := want_some (want := want) ho hd hv
    rw [← hg] at hw
    have yes : wantA ops a o.guard = some true → ∀ r, r = run a σ hl S N W → Bad r ∨ (wantA ops a o.guard = some false ∧ r = S (putA a o.dst undefA) σ hl) ∨
        (wantA ops a o.guard = some true ∧ ((floatsA a o.op = true ∧ ∃ v σ', opA P σ a o.op = some (.val v σ') ∧ HInv P σ' (heldOf i σ a o.op v σ' hl) ∧ r = N (putA a o.dst v) σ' (heldOf i σ a o.op v σ' hl)) ∨ (floatsA a o.op = false ∧ r = W a σ hl))) := by
      intro hw r hr
      subst hr
      rcases h a σ hl S N W hh with h | h | h
      · exact .inl h
      · exact .inr (.inr ⟨hw, .inl h⟩)
      · exact .inr (.inr ⟨hw, .inr h⟩)
    have no : wantA ops a o.guard = some false → ∀ r, r = S (skip a) σ hl → Bad r ∨ (wantA ops a o.guard = some false ∧ r = S (putA a o.dst undefA) σ hl) ∨
        (wantA ops a o.guard = some true ∧ ((floatsA a o.op = true ∧ ∃ v σ', opA P σ a o.op = some (.val v σ') ∧ HInv P σ' (heldOf i σ a o.op v σ' hl) ∧ r = N (putA a o.dst v) σ' (heldOf i σ a o.op v σ' hl)) ∨ (floatsA a o.op = false ∧ r = W a σ hl))) := by
      intro hw r hr
      subst hr
      exact .inr (.inl ⟨hw, by rw [hs]⟩)
    rcases onGuard_c v (fun b => Bool.rec (motive := fun _ => OutF) (Bool.rec (motive := fun _ => OutF) (run a σ hl S N W) (S (skip a) σ hl) want) (Bool.rec (motive := fun _ => OutF) (S (skip a) σ hl) (run a σ hl S N W) want) b) (S (skip a) σ hl) with ⟨b, rfl, e⟩ | ⟨hb, e⟩
    · cases b <;> cases want
      · exact yes hw _ e
      · exact no hw _ e
      · exact no hw _ e
      · exact yes hw _ e
    · refine no ?_ _ e
      rw [hw]
      cases v <;> first | rfl | exact absurd rfl (hb _)
theorem stepC2_le {R : Type} (ops : List Oper) (i : Nat) (o : Oper) (K : StepRun → R) : ∃ run, StepLe P ops i o run ∧ stepC2 P ops i o K = K run := by
  unfold stepC2
  obtain ⟨run, h1, h2⟩ := flC_le (P := P) i o.op (fun run => dstS o.dst run fun skip run => guardC ops o.guard (K run) (fun q want => K (stepGuard q want skip run)) (K (noStep 7384)))
  refine chain h2 ?_
  obtain ⟨skip, run', q1, q2, q3⟩ := dstS_le h1 (fun skip run => guardC ops o.guard (K run) (fun q want => K (stepGuard q want skip run)) (K (noStep 7384)))
  refine chain q3 ?_
  rcases guardC_le ops o.guard (K run') (fun q want => K (stepGuard q want skip run')) (K (noStep 7384)) with ⟨hg, e⟩ | ⟨j, want, og, d, q, hg, ho, hd, hq, e⟩ | e
  · refine ⟨run', fun a σ hl S N W hh => ?_, e⟩
    have hw : wantA ops a o.guard = some true := by rw [hg]; rfl
    rcases q2 a σ hl S N W hh with h | h | h
    · exact .inl h
    · exact .inr (.inr ⟨hw, .inl h⟩)
    · exact .inr (.inr ⟨hw, .inr h⟩)
  · exact ⟨_, stepGuard_le q2 hg ho hd hq q1, e⟩
  · exact ⟨_, fun a σ hl S N W hh => .inl ⟨_, rfl⟩, e⟩
theorem stepK_le (ops : List Oper) (i : Nat) (o : Oper) : ∃ run, StepLe P ops i o run ∧ stepK P ops i o = .mk run := stepC2_le ops i o Clo.mk
/-! ### An effect -/
def EffLe (P : Program) (ops : List Oper) (o : Oper) (run : OperRun) : Prop := ∀ cF cS, CallLe cF cS → ∀ a σ k, Bad (run cF a σ k) ∨ (wantA ops a o.guard = some true ∧ ((∃ a' σ', (∀ n next, effA P cS n o a σ next = next a' σ') ∧ run cF a σ k = k a' σ') ∨ (∃ v σ', (∀ n next, effA P cS n o a σ next = .ok (.pan v, .leaf, σ')) ∧ run cF a σ k = .pan v σ')))
theorem guardE_le {ops : List Oper} {o : Oper} {run : OperRun} (h : WantLe P o run) {j d : Nat} {want : Bool} (hg : o.guard = some (j, want)) {og : Oper} (ho : ops[j]? = some og) (hd : og.dst = some d) {q : GetE} (hq : ∀ t : Env, q t = t.get d) : EffLe P ops o (guardE q want run) := by
  intro cF cS hle a σ k
  unfold guardE
  rw [hq a]
  cases hv : a.get d with
  | none => exact .inl ⟨_, rfl⟩
  | some v =>
    have hw := want_some (want := want) ho hd hv
    rw [← hg] at hw
    have yes : wantA ops a o.guard = some true → ∀ r, r = run cF a σ k → Bad r ∨ (wantA ops a o.guard = some true ∧ ((∃ a' σ', (∀ n next, effA P cS n o a σ next = next a' σ') ∧ r = k a' σ') ∨ (∃ v σ', (∀ n next, effA P cS n o a σ next = .ok (.pan v, .leaf, σ')) ∧ r = .pan v σ'))) := by
      intro hw r hr
      subst hr
      rcases h cF cS hle a σ k with h | h | h
      · exact .inl h
      · exact .inr ⟨hw, .inl h⟩
      · exact .inr ⟨hw, .inr h⟩
    rcases onBool_c v (fun b => Bool.rec (motive := fun _ => OutF) (Bool.rec (motive := fun _ => OutF) (run cF a σ k) (.no [7386]) want) (Bool.rec (motive := fun _ => OutF) (.no [7386]) (run cF a σ k) want) b) with ⟨w, e⟩ | ⟨b, rfl, e⟩
    · exact .inl ⟨w, e⟩
    · cases b <;> cases want
      · exact yes hw _ e
      · exact .inl ⟨_, e⟩
      · exact .inl ⟨_, e⟩
      · exact yes hw _ e
theorem effC_le {R : Type} (ops : List Oper) (o : Oper) (K : OperRun → R) : ∃ run, EffLe P ops o run ∧ effC P ops o K = K run := by
  unfold effC
  obtain ⟨run, h1, h2⟩ := runC_le (P := P) o.op (fun run => dstC o.dst run fun _ run => guardC ops o.guard (K run) (fun q want => K (guardE q want run)) (K (noRun 7387)))
  refine chain h2 ?_
  obtain ⟨skip, run', q1, q2, q3⟩ := dstC_le h1 (fun _ run => guardC ops o.guard (K run) (fun q want => K (guardE q want run)) (K (noRun 7387)))
  refine chain q3 ?_
  rcases guardC_le ops o.guard (K run') (fun q want => K (guardE q want run')) (K (noRun 7387)) with ⟨hg, e⟩ | ⟨j, want, og, d, q, hg, ho, hd, hq, e⟩ | e
  · refine ⟨run', fun cF cS hle a σ k => ?_, e⟩
    have hw : wantA ops a o.guard = some true := by rw [hg]; rfl
    rcases q2 cF cS hle a σ k with h | h | h
    · exact .inl h
    · exact .inr ⟨hw, .inl h⟩
    · exact .inr ⟨hw, .inr h⟩
  · exact ⟨_, guardE_le q2 hg ho hd hq, e⟩
  · exact ⟨_, fun cF cS hle a σ k => .inl ⟨_, rfl⟩, e⟩
theorem effK_le (ops : List Oper) (o : Oper) : ∃ run, EffLe P ops o run ∧ effK P ops o = .mk run := effC_le ops o Clo.mk
theorem heldF_c (mask : Nat) (σ : St) : ∀ (h : Held) (K : Held → OutF), (∀ x ∈ h, ∀ b ob, x.2 = .made b ob → Clean ob) → Bad (heldF P mask σ h K) ∨ (HInv P σ (h.filter fun x => !Nat.testBit mask x.1) ∧ heldF P mask σ h K = K (h.filter fun x => !Nat.testBit mask x.1))
  | [], K, hc => .inr ⟨HInv.nil σ, rfl⟩
  | (i, hd) :: h, K, hc => by
    have hc' : ∀ x ∈ h, ∀ b ob, x.2 = .made b ob → Clean ob := fun x hx => hc x (List.mem_cons_of_mem _ hx)
    have e : heldF P mask σ ((i, hd) :: h) K = Bool.rec (motive := fun _ => OutF) (Bool.rec (motive := fun _ => OutF) (.no [7008]) (heldF P mask σ h fun r => K ((i, hd) :: r)) (holdsB P σ hd)) (heldF P mask σ h K) (Nat.testBit mask i) := rfl
    rw [e]
    cases hb : Nat.testBit mask i with
    | true =>
      rw [List.filter_cons_of_neg (by simp [hb])]
      exact heldF_c mask σ h K hc'
    | false =>
      rw [List.filter_cons_of_pos (by simp [hb])]
      cases hh : holdsB P σ hd with
      | false => exact .inl ⟨_, rfl⟩
      | true =>
        have hcl := hc _ (List.mem_cons_self ..)
        rcases heldF_c mask σ h (fun r => K ((i, hd) :: r)) hc' with h | ⟨h1, h2⟩
        · exact .inl h
        · exact .inr ⟨HInv.cons (holdsB_spec hh hcl) hcl h1, h2⟩
/-! ### A region that draws -/
section
variable {n : Nat} {ops : List Oper} {L : List (Nat × Oper)} {ms : List Nat}
theorem pass_le (cF : CallF) (kt : Env → St → OutF) (ih : Nat → Plan) : ∀ (l : List (Nat × Oper)) (done : Nat) (a : Env) (σ : St) (h : Held), HInv P σ h → Bad (runP P ops (passP L ms ih l done) cF a σ h kt) ∨
    ∃ s', passD P n ops l ⟨done, a, σ, h⟩ = .ok s' ∧ HInv P s'.σ s'.held ∧ runP P ops (passP L ms ih l done) cF a σ h kt = runP P ops (afterP L ms ih s'.done) cF s'.a s'.σ s'.held kt
  | [], done, a, σ, h, hh => .inr ⟨⟨done, a, σ, h⟩, rfl, hh, rfl⟩
  | x :: l, done, a, σ, h, hh => by
    have e1 : passP L ms ih (x :: l) done = (match Nat.testBit done x.1 with
      | true => passP L ms ih l done
      | false => match readyD done x.2 with
        | false => passP L ms ih l done
        | true => stepP x.1 x.2 (passP L ms ih l (done ||| 2 ^ x.1)) (passP L ms ih l done)) := rfl
    have e2 : passD P n ops (x :: l) ⟨done, a, σ, h⟩ = (match Nat.testBit done x.1 with
      | true => passD P n ops l ⟨done, a, σ, h⟩
      | false => match readyD done x.2 with
        | false => passD P n ops l ⟨done, a, σ, h⟩
        | true => match wantA ops a x.2.guard with
          | none => .no [7012]
          | some false => passD P n ops l ⟨done ||| 2 ^ x.1, putA a x.2.dst undefA, σ, h⟩
          | some true => match floatsA a x.2.op with
            | false => passD P n ops l ⟨done, a, σ, h⟩
            | true => match opA P σ a x.2.op with
              | some (.val v σ') => passD P n ops l ⟨done ||| 2 ^ x.1, putA a x.2.dst v, σ', heldOf x.1 σ a x.2.op v σ' h⟩
              | _ => .no (match x.2.dst with | some d => [d, 7006] | none => [7006])) := rfl
    rw [e1, e2]
    cases Nat.testBit done x.1 with
    | true => exact pass_le cF kt ih l done a σ h hh
    | false =>
      cases readyD done x.2 with
      | false => exact pass_le cF kt ih l done a σ h hh
      | true =>
        simp only
        have node : ∀ sk : Plan, sk = .step x.1 x.2 (passP L ms ih l (done ||| 2 ^ x.1)) (passP L ms ih l (done ||| 2 ^ x.1)) (passP L ms ih l done) → Bad (runP P ops sk cF a σ h kt) ∨ ∃ s', (match wantA ops a x.2.guard with
          | none => .no [7012]
          | some false => passD P n ops l ⟨done ||| 2 ^ x.1, putA a x.2.dst undefA, σ, h⟩
          | some true => match floatsA a x.2.op with
            | false => passD P n ops l ⟨done, a, σ, h⟩
            | true => match opA P σ a x.2.op with
              | some (.val v σ') => passD P n ops l ⟨done ||| 2 ^ x.1, putA a x.2.dst v, σ', heldOf x.1 σ a x.2.op v σ' h⟩
              | _ => .no (match x.2.dst with | some d => [d, 7006] | none => [7006]) : Rs DS) = .ok s' ∧ HInv P s'.σ s'.held ∧ runP P ops sk cF a σ h kt = runP P ops (afterP L ms ih s'.done) cF s'.a s'.σ s'.held kt := by
          rintro sk rfl
          obtain ⟨run, h1, h2⟩ := stepK_le (P := P) ops x.1 x.2
          have e3 : runP P ops (.step x.1 x.2 (passP L ms ih l (done ||| 2 ^ x.1)) (passP L ms ih l (done ||| 2 ^ x.1)) (passP L ms ih l done)) cF a σ h kt = run a σ h (fun a σ h => runP P ops (passP L ms ih l (done ||| 2 ^ x.1)) cF a σ h kt) (fun a σ h => runP P ops (passP L ms ih l (done ||| 2 ^ x.1)) cF a σ h kt) (fun a σ h => runP P ops (passP L ms ih l done) cF a σ h kt) := by
            show Clo.rec (motive := fun _ => OutF) (fun run => run a σ h (fun a σ h => runP P ops (passP L ms ih l (done ||| 2 ^ x.1)) cF a σ h kt) (fun a σ h => runP P ops (passP L ms ih l (done ||| 2 ^ x.1)) cF a σ h kt) (fun a σ h => runP P ops (passP L ms ih l done) cF a σ h kt)) (stepK P ops x.1 x.2) = _
            rw [h2]
          rw [e3]
          rcases h1 a σ h (fun a σ h => runP P ops (passP L ms ih l (done ||| 2 ^ x.1)) cF a σ h kt) (fun a σ h => runP P ops (passP L ms ih l (done ||| 2 ^ x.1)) cF a σ h kt) (fun a σ h => runP P ops (passP L ms ih l done) cF a σ h kt) hh with h' | ⟨hw, e⟩ | ⟨hw, ⟨hf, v, σ', ho, hi, e⟩ | ⟨hf, e⟩⟩
          · exact .inl h'
          · rw [e, hw]
            exact pass_le cF kt ih l _ _ _ _ hh
          · rw [e, hw, hf, ho]
            exact pass_le cF kt ih l _ _ _ _ hi
          · rw [e, hw, hf]
            exact pass_le cF kt ih l _ _ _ _ hh
        cases hg : x.2.guard with
        | some jw =>
          rw [hg] at node
          exact node _ (by unfold stepP; rw [hg])
        | none =>
          rw [hg] at node
          cases hf : flOf x.2.op with
          | never =>
            have e4 : stepP x.1 x.2 (passP L ms ih l (done ||| 2 ^ x.1)) (passP L ms ih l done) = passP L ms ih l done := by unfold stepP; rw [hg, hf]
            rw [e4]
            have hw : wantA ops a none = some true := rfl
            rw [hw, flOf_never hf a]
            exact pass_le cF kt ih l done a σ h hh
          | always => exact node _ (by unfold stepP; rw [hg, hf])
          | asks => exact node _ (by unfold stepP; rw [hg, hf])
theorem stage_le {cF cS : CallF} (hle : CallLe cF cS) (kt : Env → St → OutF) : ∀ (k : Nat) (done : Nat) (a : Env) (σ : St) (h : Held), HInv P σ h → Bad (runP P ops (planD L ms k done) cF a σ h kt) ∨
    (∃ a' σ', stageD P cS n ops ms L k ⟨done, a, σ, h⟩ = .ok (.normal, a', σ') ∧ runP P ops (planD L ms k done) cF a σ h kt = kt a' σ') ∨
    (∃ v σ', stageD P cS n ops ms L k ⟨done, a, σ, h⟩ = .ok (.pan v, .leaf, σ') ∧ runP P ops (planD L ms k done) cF a σ h kt = .pan v σ')
  | 0, done, a, σ, h, hh => .inl ⟨_, rfl⟩
  | k + 1, done, a, σ, h, hh => by
    have e1 : planD L ms (k + 1) done = passP L ms (planD L ms k) L done := rfl
    have e2 : stageD P cS n ops ms L (k + 1) ⟨done, a, σ, h⟩ = (match passD P n ops L ⟨done, a, σ, h⟩ with
      | .no w => .no w
      | .ok s => match s.held.all (fun h => holdsH P s.σ h.2) with
        | false => .no [7008]
        | true => afterD P cS n ops ms L (stageD P cS n ops ms L k) s) := rfl
    rw [e1, e2]
    rcases pass_le (P := P) (n := n) (ops := ops) (L := L) (ms := ms) cF kt (planD L ms k) L done a σ h hh with h' | ⟨s', p1, p2, p3⟩
    · exact .inl h'
    · rw [p1, p3]
      obtain ⟨done', a', σ', h2⟩ := s'
      have hall : h2.all (fun h => holdsH P σ' h.2) = true := List.all_eq_true.2 fun x hx => (p2 x hx).1
      simp only
      rw [hall]
      simp only
      simp only [afterD, afterP]
      generalize L.filter (fun x => !Nat.testBit done' x.1) = F1
      cases F1 with
      | nil => exact .inr (.inl ⟨a', σ', rfl, rfl⟩)
      | cons y rest =>
        simp only
        generalize (y :: rest).filter (fun x => readyD done' x.2) = F2
        rcases F2 with _ | ⟨x, _ | ⟨z, r⟩⟩
        · exact .inl ⟨_, rfl⟩
        · simp only
          obtain ⟨run, h1, h3⟩ := effK_le (P := P) ops x.2
          have e3 : runP P ops (.effect x.1 x.2 (ms.getD x.1 0) (planD L ms k (done' ||| 2 ^ x.1))) cF a' σ' h2 kt = run cF a' σ' (fun a σ => heldF P (ms.getD x.1 0) σ h2 fun h => runP P ops (planD L ms k (done' ||| 2 ^ x.1)) cF a σ h kt) := by
            show Clo.rec (motive := fun _ => OutF) (fun run => run cF a' σ' fun a σ => heldF P (ms.getD x.1 0) σ h2 fun h => runP P ops (planD L ms k (done' ||| 2 ^ x.1)) cF a σ h kt) (effK P ops x.2) = _
            rw [h3]
          rw [e3]
          rcases h1 cF cS hle a' σ' (fun a σ => heldF P (ms.getD x.1 0) σ h2 fun h => runP P ops (planD L ms k (done' ||| 2 ^ x.1)) cF a σ h kt) with h' | ⟨hw, ⟨a2, σ2, q1, q2⟩ | ⟨v, σ2, q1, q2⟩⟩
          · exact .inl h'
          · rw [q2, hw]
            simp only
            rw [q1]
            rcases heldF_c (P := P) (ms.getD x.1 0) σ2 h2 (fun h => runP P ops (planD L ms k (done' ||| 2 ^ x.1)) cF a2 σ2 h kt) (fun x hx => (p2 x hx).2) with h' | ⟨r1, r2⟩
            · exact .inl h'
            · rw [r2]
              exact stage_le hle kt k _ _ _ _ r1
          · rw [q2, hw]
            simp only
            rw [q1]
            exact .inr (.inr ⟨v, σ2, rfl, rfl⟩)
        · exact .inl ⟨_, rfl⟩
end
/-! ### Code -/
def outF : Ex → Env → St → OutF
  | .normal, a, σ => .nrm a σ
  | .exit i, a, σ => .ext i a σ
  | .ret, a, σ => .ret a σ
  | .pan v, a, σ => .pan v σ
def CodeLe (slow : Code → Env → St → Rs (Ex × Env × St)) (fast : Code → Env → St → (Env → St → OutF) → OutF) : Prop := ∀ c a σ k, Bad (fast c a σ k) ∨ (∃ a' σ', slow c a σ = .ok (.normal, a', σ') ∧ fast c a σ k = k a' σ') ∨
  (∃ ex a' σ', ex ≠ .normal ∧ slow c a σ = .ok (ex, a', σ') ∧ fast c a σ k = outF ex a' σ')
theorem seq_le {slow : Code → Env → St → Rs (Ex × Env × St)} {fast : Code → Env → St → (Env → St → OutF) → OutF} (h : CodeLe slow fast) (x y : Code) (a : Env) (σ : St) (k : Env → St → OutF) : Bad (fast x a σ fun a σ => fast y a σ k) ∨
    (∃ a' σ', (match slow x a σ with | .ok (.normal, a, σ) => slow y a σ | r => r) = .ok (.normal, a', σ') ∧ (fast x a σ fun a σ => fast y a σ k) = k a' σ') ∨
    (∃ ex a' σ', ex ≠ .normal ∧ (match slow x a σ with | .ok (.normal, a, σ) => slow y a σ | r => r) = .ok (ex, a', σ') ∧ (fast x a σ fun a σ => fast y a σ k) = outF ex a' σ') := by
  rcases h x a σ (fun a σ => fast y a σ k) with h' | ⟨a', σ', h1, h2⟩ | ⟨ex, a', σ', h0, h1, h2⟩
  · exact .inl h'
  · rw [h1, h2]
    exact h y a' σ' k
  · rw [h1, h2]
    cases ex with
    | normal => exact absurd rfl h0
    | exit i => exact .inr (.inr ⟨_, a', σ', h0, rfl, rfl⟩)
    | ret => exact .inr (.inr ⟨_, a', σ', h0, rfl, rfl⟩)
    | pan v => exact .inr (.inr ⟨_, a', σ', h0, rfl, rfl⟩)
theorem stepC_le {cF cS : CallF} (hle : CallLe cF cS) (n : Nat) {ihS : Code → Env → St → Rs (Ex × Env × St)} {ihF : Code → CodeRun} (h : CodeLe ihS (fun c => ihF c cF n)) : CodeLe (stepC P cS n ihS) (fun c => stepCF P ihF c cF n) := by
  intro c a σ k
  cases c with
  | skip => exact .inr (.inl ⟨a, σ, rfl, rfl⟩)
  | label l => exact .inr (.inl ⟨a, σ, rfl, rfl⟩)
  | region id ops draw =>
    cases draw with
    | false =>
      rcases regF_le (P := P) n ops.toList hle ops.toList a σ k with h' | ⟨a', σ', h1, h2⟩ | ⟨v, σ', h1, h2⟩
      · exact .inl h'
      · exact .inr (.inl ⟨a', σ', h1, h2⟩)
      · exact .inr (.inr ⟨.pan v, .leaf, σ', (fun e => by cases e), h1, h2⟩)
    | true =>
      have e : ∀ r, r = runP P ops.toList (planK n ops.toList) cF a σ [] k → Bad r ∨ (∃ a' σ', regD P cS n ops.toList a σ = .ok (.normal, a', σ') ∧ r = k a' σ') ∨ (∃ ex a' σ', ex ≠ .normal ∧ regD P cS n ops.toList a σ = .ok (ex, a', σ') ∧ r = outF ex a' σ') := by
        rintro r rfl
        unfold regD planK
        cases regOk n ops.toList with
        | false => exact .inl ⟨_, rfl⟩
        | true =>
          simp only
          rcases stage_le (P := P) (n := n) (ops := ops.toList) (L := ops.toList.zipIdx.map fun x => (x.2, x.1)) (ms := masksOf ops.toList) hle k (ops.toList.length + 1) 0 a σ [] (HInv.nil σ) with h' | ⟨a', σ', h1, h2⟩ | ⟨v, σ', h1, h2⟩
          · exact .inl h'
          · exact .inr (.inl ⟨a', σ', h1, h2⟩)
          · exact .inr (.inr ⟨.pan v, .leaf, σ', (fun e => by cases e), h1, h2⟩)
      exact e _ rfl
  | seq x y => exact seq_le h x y a σ k
  | loop b => exact seq_le h b (.loop b) a σ k
  | scope b => exact h b a σ k
  | exit id => exact .inr (.inr ⟨.exit id, a, σ, (fun e => by cases e), rfl, rfl⟩)
  | ret => exact .inr (.inr ⟨.ret, a, σ, (fun e => by cases e), rfl, rfl⟩)
  | goto l => exact .inl ⟨_, rfl⟩
  | refuse s => exact .inl ⟨_, rfl⟩
  | rangeFunc f p x y => exact .inl ⟨_, rfl⟩
  | cond x t e =>
    obtain ⟨r, h1, h2⟩ := opdC_le x (Clo.mk : Rd → Clo Rd)
    have e0 : stepCF P ihF (.cond x t e) cF n a σ k = r a (fun v => onBool v fun b => Bool.rec (motive := fun _ => OutF) (ihF e cF n a σ k) (ihF t cF n a σ k) b) := by
      show Clo.rec (motive := fun _ => OutF) (fun r => r a fun v => onBool v fun b => Bool.rec (motive := fun _ => OutF) (ihF e cF n a σ k) (ihF t cF n a σ k) b) (opdC x Clo.mk) = _
      rw [h2]
    simp only
    rw [e0]
    rcases h1 a (fun v => onBool v fun b => Bool.rec (motive := fun _ => OutF) (ihF e cF n a σ k) (ihF t cF n a σ k) b) with h' | ⟨v, hv, e1⟩
    · exact .inl h'
    · rw [e1]
      rcases onBool_c v (fun b => Bool.rec (motive := fun _ => OutF) (ihF e cF n a σ k) (ihF t cF n a σ k) b) with h' | ⟨b, rfl, e2⟩
      · exact .inl h'
      · rw [e2]
        cases b with
        | true =>
          have e3 : stepC P cS n ihS (.cond x t e) a σ = ihS t a σ := by simp only [stepC, hv]
          rw [e3]
          exact h t a σ k
        | false =>
          have e3 : stepC P cS n ihS (.cond x t e) a σ = ihS e a σ := by simp only [stepC, hv]
          rw [e3]
          exact h e a σ k
  | block id b =>
    have e0 : stepCF P ihF (.block id b) cF n a σ k = OutF.rec (motive := fun _ => OutF) (fun a σ => k a σ) (fun i a σ => Bool.rec (motive := fun _ => OutF) (.ext i a σ) (k a σ) (Nat.beq i id)) (fun a σ => .ret a σ) (fun v σ => .pan v σ) (fun w => .no w) (ihF b cF n a σ OutF.nrm) := rfl
    have e1 : stepC P cS n ihS (.block id b) a σ = (match ihS b a σ with
      | .ok (.exit i, a, σ) => if i = id then .ok (.normal, a, σ) else .ok (.exit i, a, σ)
      | r => r) := rfl
    simp only
    rw [e0, e1]
    rcases h b a σ OutF.nrm with ⟨w, h'⟩ | ⟨a', σ', h1, h2⟩ | ⟨ex, a', σ', h0, h1, h2⟩
    · have h' : ihF b cF n a σ OutF.nrm = .no w := h'
      rw [h']
      exact .inl ⟨_, rfl⟩
    · have h2 : ihF b cF n a σ OutF.nrm = OutF.nrm a' σ' := h2
      rw [h1, h2]
      exact .inr (.inl ⟨a', σ', rfl, rfl⟩)
    · have h2 : ihF b cF n a σ OutF.nrm = outF ex a' σ' := h2
      rw [h1, h2]
      cases ex with
      | normal => exact absurd rfl h0
      | exit i =>
        by_cases hi : i = id
        · subst hi
          refine .inr (.inl ⟨a', σ', if_pos rfl, ?_⟩)
          show Bool.rec (motive := fun _ => OutF) (.ext i a' σ') (k a' σ') (Nat.beq i i) = _
          rw [Nat.beq_refl]
        · refine .inr (.inr ⟨.exit i, a', σ', (fun e => by cases e), if_neg hi, ?_⟩)
          show Bool.rec (motive := fun _ => OutF) (.ext i a' σ') (k a' σ') (Nat.beq i id) = _
          cases hb : Nat.beq i id with
          | false => rfl
          | true => exact absurd (Nat.eq_of_beq_eq_true hb) hi
      | ret => exact .inr (.inr ⟨_, a', σ', h0, rfl, rfl⟩)
      | pan v => exact .inr (.inr ⟨_, a', σ', h0, rfl, rfl⟩)
theorem evC_le {cF cS : CallF} (hle : CallLe cF cS) (n : Nat) : ∀ k, CodeLe (evC P cS n k) (fun c => evCF P k c cF n)
  | 0 => fun c a σ k => .inl ⟨_, rfl⟩
  | k + 1 => stepC_le hle n (evC_le hle n k)
/-! ### Functions -/
theorem fnTree_get (P : Program) (f : Nat) : (fnTree P).get f = P.funcs[f]? := by
  have key : ∀ (l : List Func) (i : Nat) (t : Tr 3 Func), ((List.rec (motive := fun _ => Nat → Tr 3 Func → Tr 3 Func) (fun _ t => t) (fun fn _ ih i t => ih (Nat.succ i) (Tr.set t i fn)) l : Nat → Tr 3 Func → Tr 3 Func) i t).get f = if i ≤ f ∧ f < i + l.length then l[f - i]? else t.get f := by
    intro l
    induction l with
    | nil => intro i t; rw [if_neg (by simp)]
    | cons fn l ih =>
      intro i t
      refine (ih (i + 1) (Tr.set t i fn)).trans ?_
      rw [Tr.get_set]
      by_cases h1 : f = i
      · subst h1
        rw [if_neg (by omega), if_pos rfl, if_pos (by simp), Nat.sub_self]
        rfl
      · rw [if_neg h1]
        by_cases h2 : i + 1 ≤ f ∧ f < i + 1 + l.length
        · rw [if_pos h2, if_pos (by simp; omega), show f - i = (f - (i + 1)) + 1 by omega]
          simp
        · rw [if_neg h2, if_neg (by simp; omega)]
  unfold fnTree
  rw [key]
  by_cases h : f < P.funcs.toList.length
  · rw [if_pos (by omega), Nat.sub_zero, Array.getElem?_toList]
  · rw [if_neg (by omega), Tr.get_leaf, ← Array.getElem?_toList, List.getElem?_eq_none (by omega)]
theorem argsF_eq : ∀ (l : List Value) (i : Nat) (t : Env), argsF l i t = argsT l i t
  | [], i, t => rfl
  | v :: l, i, t => by
    obtain ⟨s, h1, h2⟩ := setVK_spec i
    show argsF l (i + 1) (Clo.rec (motive := fun _ => Env) (fun s => s v t) (setVK i)) = argsT l (i + 1) (t.set i v)
    rw [h1]
    show argsF l (i + 1) (s v t) = _
    rw [h2]
    exact argsF_eq l (i + 1) _
theorem plainF_le {cF cS : CallF} (hle : CallLe cF cS) (k : Nat) {f : FuncId} {args : List Value} {σ : St} {fr : FR} {σ' : St} (h : plainFF P cF k f args σ = .ok (fr, σ')) : plainF P cS k f args σ = .ok (fr, σ') := by
  unfold plainFF fnK at h
  rw [fnTree_get] at h
  unfold plainF
  cases hf : P.funcs[f]? with
  | none => rw [hf] at h; cases h
  | some fn =>
    rw [hf] at h
    simp only at h ⊢
    cases hb : fn.body with
    | none => rw [hb] at h; cases h
    | some body =>
      rw [hb] at h
      simp only at h ⊢
      rw [argsF_eq] at h
      have res : ∀ a σ1, resF P f fn.results.toList a σ1 = .ok (fr, σ') → (match resA P σ1 a fn.results.toList with
        | some vs => .ok (.ret (oneRes vs), σ1)
        | none => .no [8002, f] : Rs (FR × St)) = .ok (fr, σ') := by
        intro a σ1 hr
        unfold resF at hr
        cases hq : resA P σ1 a fn.results.toList with
        | none => rw [hq] at hr; cases hr
        | some vs => rw [hq] at hr; exact hr
      rcases evC_le (P := P) hle fn.ntmps k body (argsT args 0 .leaf) σ OutF.nrm with ⟨w, h'⟩ | ⟨a', σ1, h1, h2⟩ | ⟨ex, a', σ1, h0, h1, h2⟩
      · have h' : evCF P k body cF fn.ntmps (argsT args 0 .leaf) σ OutF.nrm = .no w := h'
        rw [h'] at h
        cases h
      · have h2 : evCF P k body cF fn.ntmps (argsT args 0 .leaf) σ OutF.nrm = .nrm a' σ1 := h2
        rw [h2] at h
        rw [h1]
        exact res _ _ h
      · have h2 : evCF P k body cF fn.ntmps (argsT args 0 .leaf) σ OutF.nrm = outF ex a' σ1 := h2
        rw [h2] at h
        rw [h1]
        cases ex with
        | normal => exact absurd rfl h0
        | exit i => cases h
        | ret => exact res _ _ h
        | pan v => exact h
/-- The quick reckoner reckons as the machine does. -/
theorem evFF_good {hk : Hook} (hm : P.follows .mixedOrders = true) (hn : Named P) (hh : HookOk P hk) : ∀ n, Good P (evFF P hk n)
  | 0 => fun f args σ fr σ' h => by cases h
  | n + 1 => by
    have hg := evFF_good hm hn hh n
    intro f args σ fr σ' h
    have h : stepFF P hk (evFF P hk n) 1000000 f args σ = .ok (fr, σ') := h
    unfold stepFF at h
    have fin : (∃ fn, P.funcs[f]? = some fn ∧ fn.body.isSome = true) ∧ ∀ w0 ρ w (cargs : Array Value), Sim w0 ρ σ w → Rels ρ args cargs.toList → Calls P f cargs w (FPost w0 ρ σ fr σ') := by
      cases hr : hk (evFF P hk n) f args σ with
      | some r =>
        rw [hr] at h
        have h : r = .ok (fr, σ') := h
        subst h
        exact hh _ hg f args σ fr σ' hr
      | none =>
        rw [hr] at h
        have h : plainFF P (evFF P hk n) 1000000 f args σ = .ok (fr, σ') := h
        exact plainF_sound hm hg 1000000 (plainF_le (fun _ _ _ _ _ h => h) 1000000 h)
    obtain ⟨⟨fn, h1, h2⟩, h3⟩ := fin
    exact ⟨⟨fn, h1, h2, hn f fn h1 h2⟩, h3⟩
/-- A call whose arguments hold no addresses, reckoned quickly. -/
theorem reckonedF {hk : Hook} (hm : P.follows .mixedOrders = true) (hn : Named P) (hh : HookOk P hk) (n : Nat) (f : FuncId) (args : List Value) (hargs : args.all plainConst = true) {v : Value} (hv : scalC v = true) (h : valOf (evFF P hk n f args st0) = some v) (w : World) :
    Calls P f args.toArray w fun e w' => e = .returned v ∧ Ext w w' := by
  cases hr : evFF P hk n f args st0 with
  | no ws => rw [hr] at h; cases h
  | ok p =>
    obtain ⟨fr, σ'⟩ := p
    rw [hr] at h
    cases fr with
    | pan u => cases h
    | ret u =>
      simp only [valOf, Option.some.injEq] at h
      subst h
      exact good_start (evFF_good hm hn hh n) hargs hv hr w
end Ev
end Go.Proofs.YtibhkabmihhjiaaGreatDoor
