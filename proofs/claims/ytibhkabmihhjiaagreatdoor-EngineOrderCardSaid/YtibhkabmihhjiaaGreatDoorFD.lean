/-
  The quick reckoner says what the reckoner says: calls, regions that do not draw.
-/
import Derived.Test.YtibhkabmihhjiaaGreatDoorFC
namespace Go.Proofs.YtibhkabmihhjiaaGreatDoor
open Go Go.RowKit
set_option linter.unusedVariables false
set_option linter.unusedSimpArgs false
namespace Ev
variable {P : Program}
/-- What the quick one says of a call the reckoner says. -/
def CallLe (cF cS : CallF) : Prop := ∀ f args σ fr σ', cF f args σ = .ok (fr, σ') → cS f args σ = .ok (fr, σ')
def EffV (P : Program) (cS : CallF) (o : Op) (a : Env) (σ : St) (v : Value) (σ' : St) : Prop :=
  opA P σ a o = some (.val v σ') ∨ (opA P σ a o = some (.skip σ') ∧ v = undefA) ∨ ∃ f args, opA P σ a o = some (.call f args) ∧ cS f args σ = .ok (.ret v, σ')
def EffP (P : Program) (cS : CallF) (o : Op) (a : Env) (σ : St) (v : Value) (σ' : St) : Prop :=
  (opA P σ a o = some (.pan v) ∧ σ' = σ) ∨ ∃ f args, opA P σ a o = some (.call f args) ∧ cS f args σ = .ok (.pan v, σ')
theorem EffV.eff {cS : CallF} {o : Oper} {a : Env} {σ : St} {v : Value} {σ' : St} (h : EffV P cS o.op a σ v σ') (n : Nat) (next : Env → St → Out) : effA P cS n o a σ next = next (putA a o.dst v) σ' := by
  unfold effA
  rcases h with h | ⟨h, rfl⟩ | ⟨f, args, h, hc⟩
  · rw [h]
  · rw [h]
  · rw [h]
    simp only
    rw [hc]
theorem EffP.eff {cS : CallF} {o : Oper} {a : Env} {σ : St} {v : Value} {σ' : St} (h : EffP P cS o.op a σ v σ') (n : Nat) (next : Env → St → Out) : effA P cS n o a σ next = .ok (.pan v, .leaf, σ') := by
  unfold effA
  rcases h with ⟨h, rfl⟩ | ⟨f, args, h, hc⟩
  · rw [h]
  · rw [h]
    simp only
    rw [hc]
def CRunLe (P : Program) (o : Op) (run : CRun) : Prop := ∀ cF cS, CallLe cF cS → ∀ σ a K, Bad (run cF σ a K) ∨ (∃ v σ', EffV P cS o a σ v σ' ∧ run cF σ a K = K v σ') ∨ (∃ v σ', EffP P cS o a σ v σ' ∧ run cF σ a K = .pan v σ')
theorem plainR_le {o : Op} {run : OpRun} (h : OpLe P o run) : CRunLe P o (plainR run) := by
  intro cF cS hle σ a K
  rcases h σ a K with h | ⟨v, σ', h1, h2⟩
  · exact .inl h
  · exact .inr (.inl ⟨v, σ', h1.elim .inl (fun h => .inr (.inl h)), h2⟩)
def RdsLe (xs : List Operand) (rs : Rds) : Prop := ∀ a K, Bad (rs a K) ∨ ∃ vs, evOs a xs = some vs ∧ rs a K = K vs
theorem opdsC_le {R : Type} : ∀ (xs : List Operand) (K : Rds → R), ∃ rs, RdsLe xs rs ∧ opdsC xs K = K rs
  | [], K => ⟨rdsNil, fun a K => .inr ⟨[], rfl, rfl⟩, rfl⟩
  | x :: xs, K => by
    obtain ⟨r, h1, h2⟩ := opdC_le x (fun r => opdsC xs fun rs => K (rdsCons r rs))
    obtain ⟨rs, h3, h4⟩ := opdsC_le xs (fun rs => K (rdsCons r rs))
    refine ⟨rdsCons r rs, fun a K => ?_, h2.trans h4⟩
    unfold rdsCons
    rcases h1 a _ with h | ⟨v, hv, h⟩
    · exact .inl h
    · rw [h]
      rcases h3 a _ with h | ⟨vs, hvs, h⟩
      · exact .inl h
      · exact .inr ⟨v :: vs, by simp only [evOs, hv, hvs], h⟩
theorem afterCall_c (r : Rs (FR × St)) (K : KV) : Bad (afterCall r K) ∨ (∃ v σ, r = .ok (.ret v, σ) ∧ afterCall r K = K v σ) ∨ (∃ v σ, r = .ok (.pan v, σ) ∧ afterCall r K = .pan v σ) := by
  cases r with
  | no w => exact .inl ⟨_, rfl⟩
  | ok p =>
    obtain ⟨fr, σ⟩ := p
    cases fr with
    | ret v => exact .inr (.inl ⟨v, σ, rfl, rfl⟩)
    | pan v => exact .inr (.inr ⟨v, σ, rfl, rfl⟩)
theorem callR_le {c : Call} {g : FuncId} {rs : Rds} (hc : c.callee = .value (.func g)) (hr : RdsLe c.args.toList rs) : CRunLe P (.call c) (callR g rs) := by
  intro cF cS hle σ a K
  unfold callR
  rcases hr a _ with h | ⟨vs, hv, h⟩
  · exact .inl h
  · rw [h]
    have ho : opA P σ a (.call c) = some (.call g vs) := by simp [opA, hv, hc, evO]
    rcases afterCall_c (cF g vs σ) K with h | ⟨v, σ', h1, h2⟩ | ⟨v, σ', h1, h2⟩
    · exact .inl h
    · exact .inr (.inl ⟨v, σ', .inr (.inr ⟨g, vs, ho, hle _ _ _ _ _ h1⟩), h2⟩)
    · exact .inr (.inr ⟨v, σ', .inr ⟨g, vs, ho, hle _ _ _ _ _ h1⟩, h2⟩)
theorem callVR_le {c : Call} {f : Operand} {r : Rd} {rs : Rds} (hc : c.callee = .value f) (h0 : RdLe f r) (hr : RdsLe c.args.toList rs) : CRunLe P (.call c) (callVR r rs) := by
  intro cF cS hle σ a K
  unfold callVR
  rcases h0 a _ with h | ⟨u, hu, h⟩
  · exact .inl h
  · rw [h]
    rcases onFunc_c u _ with h | ⟨fn, fs, cs, rfl, h⟩
    · exact .inl h
    · rw [h]
      cases fn with
      | func g =>
        show Bad (rs a fun vs => afterCall (cF g (fs.toList ++ vs ++ cs.toList) σ) K) ∨ _
        rcases hr a (fun vs => afterCall (cF g (fs.toList ++ vs ++ cs.toList) σ) K) with h | ⟨vs, hv, h⟩
        · exact .inl h
        · have ho : opA P σ a (.call c) = some (.call g (fs.toList ++ vs ++ cs.toList)) := by simp only [opA, hv, hc, hu]
          have e : (Fn.rec (motive := fun _ => OutF) (fun g => rs a fun vs => afterCall (cF g (fs.toList ++ vs ++ cs.toList) σ) K) (fun _ => .no [7360]) (fun _ _ => .no [7360]) (fun _ _ _ _ => .no [7360]) (fun _ => .no [7360]) (Fn.func g) : OutF) = afterCall (cF g (fs.toList ++ vs ++ cs.toList) σ) K := h
          rcases afterCall_c (cF g (fs.toList ++ vs ++ cs.toList) σ) K with h | ⟨v, σ', h1, h2⟩ | ⟨v, σ', h1, h2⟩
          · exact .inl (by rw [‹(rs a fun vs => _) = _›]; exact h)
          · exact .inr (.inl ⟨v, σ', .inr (.inr ⟨g, _, ho, hle _ _ _ _ _ h1⟩), e.trans h2⟩)
          · exact .inr (.inr ⟨v, σ', .inr ⟨g, _, ho, hle _ _ _ _ _ h1⟩, e.trans h2⟩)
      | method s => exact .inl ⟨_, rfl⟩
      | methodOf t s => exact .inl ⟨_, rfl⟩
      | via t p f b => exact .inl ⟨_, rfl⟩
      | yield l => exact .inl ⟨_, rfl⟩
theorem panicR_le (o : Op) : CRunLe P o (panicR P o) := by
  intro cF cS hle σ a K
  unfold panicR
  split
  · next v h => exact .inr (.inr ⟨v, σ, .inl ⟨h, rfl⟩, rfl⟩)
  · exact .inl ⟨_, rfl⟩
theorem runC_le {R : Type} (o : Op) (K : CRun → R) : ∃ run, CRunLe P o run ∧ runC P o K = K run := by
  have plain : ∀ o : Op, ∃ run, CRunLe P o run ∧ (opC P o fun run => K (plainR run)) = K run := fun o => by
    obtain ⟨run, h1, h2⟩ := opC_le (P := P) o (fun run => K (plainR run))
    exact ⟨_, plainR_le h1, h2⟩
  unfold runC
  split
  · next x => exact ⟨_, panicR_le _, rfl⟩
  · next c =>
    split
    · next g hc =>
      obtain ⟨rs, h1, h2⟩ := opdsC_le c.args.toList (fun rs => K (callR g rs))
      exact ⟨_, callR_le hc h1, h2⟩
    · next f _ hc =>
      obtain ⟨r, h1, h2⟩ := opdC_le f (fun r => opdsC c.args.toList fun rs => K (callVR r rs))
      obtain ⟨rs, h3, h4⟩ := opdsC_le c.args.toList (fun rs => K (callVR r rs))
      exact ⟨_, callVR_le hc h1 h3, h2.trans h4⟩
    · exact plain _
  · exact plain _
/-! ### One operation of a region -/
noncomputable def stepS (P : Program) (cS : CallF) (n : Nat) (ops : List Oper) (o : Oper) (a : Env) (σ : St) (next : Env → St → Out) : Out :=
  match fits n o.dst with
  | false => .no [7005]
  | true => match wantA ops a o.guard with
    | none => .no [7011]
    | some false => next (putA a o.dst undefA) σ
    | some true => effA P cS n o a σ next
theorem regL_cons (cS : CallF) (n : Nat) (ops : List Oper) (o : Oper) (l : List Oper) (a : Env) (σ : St) : regL P cS n ops (o :: l) a σ = stepS P cS n ops o a σ (regL P cS n ops l) := rfl
def OperLe (P : Program) (n : Nat) (ops : List Oper) (o : Oper) (run : OperRun) : Prop := ∀ cF cS, CallLe cF cS → ∀ a σ k, Bad (run cF a σ k) ∨ (∃ a' σ', (∀ next, stepS P cS n ops o a σ next = next a' σ') ∧ run cF a σ k = k a' σ') ∨ (∃ v σ', (∀ next, stepS P cS n ops o a σ next = .ok (.pan v, .leaf, σ')) ∧ run cF a σ k = .pan v σ')
/-- An operation that is wanted. -/
def WantLe (P : Program) (o : Oper) (run : OperRun) : Prop := ∀ cF cS, CallLe cF cS → ∀ a σ k, Bad (run cF a σ k) ∨ (∃ a' σ', (∀ n next, effA P cS n o a σ next = next a' σ') ∧ run cF a σ k = k a' σ') ∨ (∃ v σ', (∀ n next, effA P cS n o a σ next = .ok (.pan v, .leaf, σ')) ∧ run cF a σ k = .pan v σ')
theorem putNone_le {o : Oper} {run : CRun} (h : CRunLe P o.op run) (hd : o.dst = none) : WantLe P o (putNone run) := by
  intro cF cS hle a σ k
  unfold putNone
  rcases h cF cS hle σ a _ with h | ⟨v, σ', h1, h2⟩ | ⟨v, σ', h1, h2⟩
  · exact .inl h
  · exact .inr (.inl ⟨a, σ', fun n next => by rw [h1.eff, hd]; rfl, h2⟩)
  · exact .inr (.inr ⟨v, σ', fun n next => h1.eff n next, h2⟩)
theorem putSome_le {o : Oper} {run : CRun} (h : CRunLe P o.op run) {d : Nat} (hd : o.dst = some d) {s : SetE} (hs : ∀ x (t : Env), s x t = t.set d x) : WantLe P o (putSome s run) := by
  intro cF cS hle a σ k
  unfold putSome
  rcases h cF cS hle σ a _ with h | ⟨v, σ', h1, h2⟩ | ⟨v, σ', h1, h2⟩
  · exact .inl h
  · exact .inr (.inl ⟨a.set d v, σ', fun n next => by rw [h1.eff, hd]; rfl, by rw [h2, hs]⟩)
  · exact .inr (.inr ⟨v, σ', fun n next => h1.eff n next, h2⟩)
theorem WantLe.free {n : Nat} {ops : List Oper} {o : Oper} {run : OperRun} (h : WantLe P o run) (hf : fits n o.dst = true) (hg : o.guard = none) : OperLe P n ops o run := by
  intro cF cS hle a σ k
  have e : ∀ next, stepS P cS n ops o a σ next = effA P cS n o a σ next := fun next => by unfold stepS; rw [hf, hg]; rfl
  rcases h cF cS hle a σ k with h | ⟨a', σ', h1, h2⟩ | ⟨v, σ', h1, h2⟩
  · exact .inl h
  · exact .inr (.inl ⟨a', σ', fun next => (e next).trans (h1 n next), h2⟩)
  · exact .inr (.inr ⟨v, σ', fun next => (e next).trans (h1 n next), h2⟩)
theorem onGuard_c (v : Value) (K : Bool → OutF) (s : OutF) : (∃ b, v = .bool b ∧ onGuard v K s = K b) ∨ ((∀ b, v ≠ .bool b) ∧ onGuard v K s = s) := by
  cases v <;> first | exact .inl ⟨_, rfl, rfl⟩ | exact .inr ⟨(by intro b e; cases e), rfl⟩
/-- What a guard says. -/
theorem want_some {ops : List Oper} {a : Env} {j d : Nat} {want : Bool} {og : Oper} (ho : ops[j]? = some og) (hd : og.dst = some d) {v : Value} (hv : a.get d = some v) : wantA ops a (some (j, want)) = (match v with | .bool b => some (b == want) | _ => some false) := by
  unfold wantA
  simp only [ho, hd, hv]
  cases v <;> rfl
theorem guard_le {n : Nat} {ops : List Oper} {o : Oper} {run : OperRun} (h : WantLe P o run) (hf : fits n o.dst = true) {j d : Nat} {want : Bool} (hg : o.guard = some (j, want)) {og : Oper} (ho : ops[j]? = some og) (hd : og.dst = some d) {g : GetE} (hgs : ∀ t : Env, g t = t.get d) {skip : Env → Env} (hsk : ∀ t, skip t = putA t o.dst undefA) : OperLe P n ops o (guardR g want skip run) := by
  intro cF cS hle a σ k
  have go : ∀ next, stepS P cS n ops o a σ next = match wantA ops a (some (j, want)) with
    | none => .no [7011]
    | some false => next (putA a o.dst undefA) σ
    | some true => effA P cS n o a σ next := fun next => by unfold stepS; rw [hf, hg]
  have yes : wantA ops a (some (j, want)) = some true → Bad (run cF a σ k) ∨ (∃ a' σ', (∀ next, stepS P cS n ops o a σ next = next a' σ') ∧ run cF a σ k = k a' σ') ∨ (∃ v σ', (∀ next, stepS P cS n ops o a σ next = .ok (.pan v, .leaf, σ')) ∧ run cF a σ k = .pan v σ') := fun hw => by
    have e : ∀ next, stepS P cS n ops o a σ next = effA P cS n o a σ next := fun next => by rw [go, hw]
    rcases h cF cS hle a σ k with h | ⟨a', σ', h1, h2⟩ | ⟨v, σ', h1, h2⟩
    · exact .inl h
    · exact .inr (.inl ⟨a', σ', fun next => (e next).trans (h1 n next), h2⟩)
    · exact .inr (.inr ⟨v, σ', fun next => (e next).trans (h1 n next), h2⟩)
  have no : wantA ops a (some (j, want)) = some false → ∃ a' σ', (∀ next, stepS P cS n ops o a σ next = next a' σ') ∧ k (skip a) σ = k a' σ' := fun hw => ⟨_, _, fun next => by rw [go, hw], by rw [hsk]⟩
  unfold guardR
  rw [hgs a]
  cases hv : a.get d with
  | none => exact .inl ⟨_, rfl⟩
  | some v =>
    have hw := want_some (want := want) ho hd hv
    show Bad (onGuard v _ _) ∨ _
    rcases onGuard_c v (fun b => Bool.rec (motive := fun _ => OutF) (Bool.rec (motive := fun _ => OutF) (run cF a σ k) (k (skip a) σ) want) (Bool.rec (motive := fun _ => OutF) (k (skip a) σ) (run cF a σ k) want) b) (k (skip a) σ) with ⟨b, rfl, e⟩ | ⟨hb, e⟩
    · simp only at hw
      have e' : ∀ r, (Bool.rec (motive := fun _ => OutF) (Bool.rec (motive := fun _ => OutF) (run cF a σ k) (k (skip a) σ) want) (Bool.rec (motive := fun _ => OutF) (k (skip a) σ) (run cF a σ k) want) b : OutF) = r → onGuard (.bool b) (fun b => Bool.rec (motive := fun _ => OutF) (Bool.rec (motive := fun _ => OutF) (run cF a σ k) (k (skip a) σ) want) (Bool.rec (motive := fun _ => OutF) (k (skip a) σ) (run cF a σ k) want) b) (k (skip a) σ) = r := fun r h => e.trans h
      cases b <;> cases want
      · exact yes hw
      · exact .inr (.inl (no hw))
      · exact .inr (.inl (no hw))
      · exact yes hw
    · have hw' : wantA ops a (some (j, want)) = some false := by
        rw [hw]
        cases v <;> first | rfl | exact absurd rfl (hb _)
      obtain ⟨a', σ', h1, h2⟩ := no hw'
      exact .inr (.inl ⟨a', σ', h1, e.trans h2⟩)
theorem chain {β R : Type} {Q : β → Prop} {K : β → R} {r s : R} (e : r = s) (h : ∃ x, Q x ∧ s = K x) : ∃ x, Q x ∧ r = K x := h.imp fun x h => ⟨h.1, e.trans h.2⟩
theorem dstC_le {R : Type} {o : Oper} {run : CRun} (h : CRunLe P o.op run) (K : (Env → Env) → OperRun → R) : ∃ skip run', (∀ t, skip t = putA t o.dst undefA) ∧ WantLe P o run' ∧ dstC o.dst run K = K skip run' := by
  have key : ∀ d, o.dst = d → ∃ skip run', (∀ t, skip t = putA t d undefA) ∧ WantLe P o run' ∧ dstC d run K = K skip run' := fun d hd => by
    cases d with
    | none => exact ⟨_, _, fun t => rfl, putNone_le h hd, rfl⟩
    | some t =>
      obtain ⟨s, s1, s2⟩ := setC_spec (α := Value) 2 t (fun p => K (p undefA) (putSome p run))
      exact ⟨_, _, fun a => s1 undefA a, putSome_le h hd s1, s2⟩
  exact key _ rfl
theorem guardC_le {R : Type} (ops : List Oper) (g : Option (Nat × Bool)) (free : R) (K : GetE → Bool → R) (bad : R) :
    (g = none ∧ guardC ops g free K bad = free) ∨ (∃ j want og d q, g = some (j, want) ∧ ops[j]? = some og ∧ og.dst = some d ∧ (∀ t : Env, q t = t.get d) ∧ guardC ops g free K bad = K q want) ∨ guardC ops g free K bad = bad := by
  unfold guardC
  cases g with
  | none => exact .inl ⟨rfl, rfl⟩
  | some jw =>
    obtain ⟨j, want⟩ := jw
    simp only
    cases ho : ops[j]? with
    | none => exact .inr (.inr rfl)
    | some og =>
      simp only
      cases hd : og.dst with
      | none => exact .inr (.inr rfl)
      | some d =>
        obtain ⟨q, q1, q2⟩ := getC_spec (α := Value) 2 d (fun q => K q want)
        exact .inr (.inl ⟨j, want, og, d, q, rfl, ho, hd, q1, q2⟩)
theorem operC_le {R : Type} (n : Nat) (ops : List Oper) (o : Oper) (K : OperRun → R) : ∃ run, OperLe P n ops o run ∧ operC P n ops o K = K run := by
  unfold operC
  cases hf : fits n o.dst with
  | false => exact ⟨_, fun cF cS hle a σ k => .inl ⟨_, rfl⟩, rfl⟩
  | true =>
    simp only
    obtain ⟨run, h1, h2⟩ := runC_le (P := P) o.op (fun run => dstC o.dst run fun skip run => guardC ops o.guard (K run) (fun q want => K (guardR q want skip run)) (K (noRun 7371)))
    refine chain h2 ?_
    obtain ⟨skip, run', q1, q2, q3⟩ := dstC_le h1 (fun skip run => guardC ops o.guard (K run) (fun q want => K (guardR q want skip run)) (K (noRun 7371)))
    refine chain q3 ?_
    rcases guardC_le ops o.guard (K run') (fun q want => K (guardR q want skip run')) (K (noRun 7371)) with ⟨hg, e⟩ | ⟨j, want, og, d, q, hg, ho, hd, hq, e⟩ | e
    · exact ⟨_, q2.free hf hg, e⟩
    · exact ⟨_, guard_le q2 hf hg ho hd hq q1, e⟩
    · exact ⟨_, fun cF cS hle a σ k => .inl ⟨_, rfl⟩, e⟩
theorem operK_le (n : Nat) (ops : List Oper) (o : Oper) : ∃ run, OperLe P n ops o run ∧ operK P n ops o = .mk run := operC_le n ops o Clo.mk
theorem regF_le (n : Nat) (ops : List Oper) {cF cS : CallF} (hle : CallLe cF cS) : ∀ (l : List Oper) a σ k, Bad (regF P n ops l cF a σ k) ∨ (∃ a' σ', regL P cS n ops l a σ = .ok (.normal, a', σ') ∧ regF P n ops l cF a σ k = k a' σ') ∨ (∃ v σ', regL P cS n ops l a σ = .ok (.pan v, .leaf, σ') ∧ regF P n ops l cF a σ k = .pan v σ')
  | [], a, σ, k => .inr (.inl ⟨a, σ, rfl, rfl⟩)
  | o :: l, a, σ, k => by
    obtain ⟨run, h1, h2⟩ := operK_le (P := P) n ops o
    have e : regF P n ops (o :: l) cF a σ k = run cF a σ (fun a σ => regF P n ops l cF a σ k) := by
      show Clo.rec (motive := fun _ => OutF) (fun run => run cF a σ fun a σ => regF P n ops l cF a σ k) (operK P n ops o) = _
      rw [h2]
    rw [e, regL_cons]
    rcases h1 cF cS hle a σ (fun a σ => regF P n ops l cF a σ k) with h | ⟨a', σ', q1, q2⟩ | ⟨v, σ', q1, q2⟩
    · exact .inl h
    · rw [q2, q1]
      exact regF_le n ops hle l a' σ' k
    · rw [q2, q1]
      exact .inr (.inr ⟨v, σ', rfl, rfl⟩)
end Ev
end Go.Proofs.YtibhkabmihhjiaaGreatDoor
