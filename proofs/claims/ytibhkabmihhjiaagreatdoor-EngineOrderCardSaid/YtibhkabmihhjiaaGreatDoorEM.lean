/-
  The reckoner's code and functions are the machine's.
-/
import Derived.Test.YtibhkabmihhjiaaGreatDoorER
namespace Go.Proofs.YtibhkabmihhjiaaGreatDoor
open Go Go.RowKit
set_option linter.unusedVariables false
set_option linter.unusedSimpArgs false
namespace Ev
variable {P : Program}
/-- A loop that has gone round. -/
def LoopWp (P : Program) (b : Code) (Q : Exit → Act → World → Prop) (A : Act) (w : World) : Prop :=
  ∀ (fr : Frame) (k : List Item) (cs : List Frame), ∃ e A' w', Q e A' w' ∧ Arrives P (lone (fr.at A (.inLoop b :: k)) cs w) fr k cs e A' w'
theorem loop_of {b : Code} {Q : Exit → Act → World → Prop} {A : Act} {w : World} (h : b.wp P (Exit.then (LoopWp P b Q) Q) A w) : (Code.loop b).wp P Q A w ∧ LoopWp P b Q A w := by
  have key : ∀ (fr : Frame) (k : List Item) (cs : List Frame) (m : Machine), step P m = .next (lone (fr.at A (.code b :: .inLoop b :: k)) cs w) → ∃ e A' w', Q e A' w' ∧ Arrives P m fr k cs e A' w' := by
    intro fr k cs m hm
    obtain ⟨e, A1, w1, hq, harr⟩ := h fr (.inLoop b :: k) cs
    cases e with
    | normal =>
      obtain ⟨e2, A2, w2, hq2, harr2⟩ := hq fr k cs
      exact ⟨e2, A2, w2, hq2, .of_steps (.head hm harr) harr2⟩
    | exit id => exact ⟨_, A1, w1, hq, .of_steps (.one hm) (.pass (x := .inLoop b) rfl (fun _ _ => .inl (by simp)) harr)⟩
    | goto l => exact ⟨_, A1, w1, hq, .of_steps (.one hm) (.pass (x := .inLoop b) rfl (fun _ _ => .inl (by simp)) harr)⟩
    | ret => exact ⟨_, A1, w1, hq, .of_steps (.one hm) (.pass (x := .inLoop b) rfl (fun _ _ => .inl (by simp)) harr)⟩
    | panic ch => exact ⟨_, A1, w1, hq, .of_steps (.one hm) (.pass (x := .inLoop b) rfl (fun _ _ => .inl (by simp)) harr)⟩
    | outgrown => exact ⟨_, A1, w1, hq, .of_steps (b := fr) (k := k) (cs := cs) (e := .outgrown) (.one hm) harr⟩
  exact ⟨fun fr k cs => key fr k cs _ step_loop, fun fr k cs => key fr k cs _ step_inLoop⟩
section
variable {w0 : Base} {n : Nat}
theorem LoopWp.mono {b : Code} {Q Q' : Exit → Act → World → Prop} {A : Act} {w : World} (hq : ∀ e A w, Q e A w → Q' e A w) (h : LoopWp P b Q A w) : LoopWp P b Q' A w :=
  fun fr k cs => let ⟨e, A', w', q, r⟩ := h fr k cs; ⟨e, A', w', hq _ _ _ q, r⟩
/-- Behind a piece of code that has not gone on. -/
theorem CPost.stop {ρ : Pl} {σ : St} {ex : Ex} {a' : Env} {σ' : St} {K : Act → World → Prop} (hne : ex ≠ .normal) (e : Exit) (A : Act) (w : World) (h : CPost w0 ρ σ n ex a' σ' e A w) : Exit.then K (CPost w0 ρ σ n ex a' σ') e A w := by
  obtain ⟨ρ', h1, h2, h3, h4⟩ := h
  cases ex with
  | normal => exact absurd rfl hne
  | exit id => obtain ⟨rfl, h5⟩ := h4; exact ⟨ρ', h1, h2, h3, rfl, h5⟩
  | ret => obtain ⟨rfl, h5⟩ := h4; exact ⟨ρ', h1, h2, h3, rfl, h5⟩
  | pan v => obtain ⟨v', rfl, h5⟩ := h4; exact ⟨ρ', h1, h2, h3, v', rfl, h5⟩
theorem evC_sound {call : CallF} (hm : P.follows .mixedOrders = true) (hg : Good P call) : ∀ (k : Nat) (c : Code) {ρ : Pl} {σ : St} {w : World} {a : Env} {A : Act}, Sim w0 ρ σ w → ActR ρ n a A → ∀ {ex : Ex} {a' : Env} {σ' : St}, evC P call n k c a σ = .ok (ex, a', σ') →
    c.wp P (CPost w0 ρ σ n ex a' σ') A w ∧ ∀ b, c = .loop b → LoopWp P b (CPost w0 ρ σ n ex a' σ') A w
  | 0, c, ρ, σ, w, a, A, hs, ha, ex, a', σ', h => by cases (show (Rs.no [7000] : Out) = .ok (ex, a', σ') from h)
  | k + 1, c, ρ, σ, w, a, A, hs, ha, ex, a', σ', h => by
    have ih := fun c {ρ σ w a A} hs ha {ex a' σ'} h => evC_sound hm hg k c (ρ := ρ) (σ := σ) (w := w) (a := a) (A := A) hs ha (ex := ex) (a' := a') (σ' := σ') h
    have h : stepC P call n (evC P call n k) c a σ = .ok (ex, a', σ') := h
    have here : CPost w0 ρ σ n .normal a σ .normal A w := ⟨ρ, hs, Step.refl ρ σ, ha.defers, rfl, ha⟩
    cases c with
    | skip =>
      simp only [stepC, Rs.ok.injEq, Prod.mk.injEq] at h
      obtain ⟨rfl, rfl, rfl⟩ := h
      exact ⟨wp_skip here, fun b hb => by cases hb⟩
    | label l =>
      simp only [stepC, Rs.ok.injEq, Prod.mk.injEq] at h
      obtain ⟨rfl, rfl, rfl⟩ := h
      exact ⟨wp_label here, fun b hb => by cases hb⟩
    | exit id =>
      simp only [stepC, Rs.ok.injEq, Prod.mk.injEq] at h
      obtain ⟨rfl, rfl, rfl⟩ := h
      exact ⟨wp_exit ⟨ρ, hs, Step.refl ρ σ, ha.defers, rfl, ha⟩, fun b hb => by cases hb⟩
    | ret =>
      simp only [stepC, Rs.ok.injEq, Prod.mk.injEq] at h
      obtain ⟨rfl, rfl, rfl⟩ := h
      exact ⟨wp_ret ⟨ρ, hs, Step.refl ρ σ, ha.defers, rfl, ha⟩, fun b hb => by cases hb⟩
    | region id ops draw =>
      refine ⟨?_, fun b hb => by cases hb⟩
      simp only [stepC] at h
      cases draw with
      | false => exact wp_region_list (regL_sound hg ops ops.toList (Step.refl ρ σ) hs ha h)
      | true => exact regD_sound hm hg id ops hs ha h
    | seq x y =>
      refine ⟨?_, fun b hb => by cases hb⟩
      simp only [stepC] at h
      split at h
      · next a1 σ1 h1 =>
        refine wp_seq (Code.wp_mono ?_ (ih x hs ha h1).1)
        rintro e A1 w1 ⟨ρ1, k1, k2, k3, rfl, k4⟩
        exact Code.wp_mono (fun e A w hq => CPost.trans k2 hq) (ih y k1 k4 h).1
      · next hne =>
        have hex : ex ≠ .normal := fun e => by subst e; exact hne _ _ h
        exact wp_seq (Code.wp_mono (CPost.stop hex) (ih x hs ha h).1)
    | cond c x y =>
      refine ⟨?_, fun b hb => by cases hb⟩
      simp only [stepC] at h
      split at h
      · next hc =>
        have hr := evO_rel ha hc
        generalize hu : A.eval c = u at hr
        cases hr
        exact wp_cond_true hu (ih x hs ha h).1
      · next hc =>
        have hr := evO_rel ha hc
        generalize hu : A.eval c = u at hr
        cases hr
        exact wp_cond_false hu (ih y hs ha h).1
      · cases h
    | block id b =>
      refine ⟨?_, fun b hb => by cases hb⟩
      simp only [stepC] at h
      split at h
      · next i a1 σ1 h1 =>
        refine wp_block (Code.wp_mono ?_ (ih b hs ha h1).1)
        rintro e A1 w1 ⟨ρ1, k1, k2, k3, rfl, k4⟩
        split at h
        · next hi =>
          simp only [Rs.ok.injEq, Prod.mk.injEq] at h
          obtain ⟨rfl, rfl, rfl⟩ := h
          simp only [Exit.inBlock, hi, if_true]
          exact ⟨ρ1, k1, k2, k3, rfl, k4⟩
        · next hi =>
          simp only [Rs.ok.injEq, Prod.mk.injEq] at h
          obtain ⟨rfl, rfl, rfl⟩ := h
          simp only [Exit.inBlock, hi, if_false]
          exact ⟨ρ1, k1, k2, k3, rfl, k4⟩
      · next hne =>
        refine wp_block (Code.wp_mono ?_ (ih b hs ha h).1)
        rintro e A1 w1 ⟨ρ1, k1, k2, k3, k4⟩
        cases ex with
        | normal => obtain ⟨rfl, k5⟩ := k4; exact ⟨ρ1, k1, k2, k3, rfl, k5⟩
        | exit i => exact absurd h (hne _ _ _)
        | ret => obtain ⟨rfl, k5⟩ := k4; exact ⟨ρ1, k1, k2, k3, rfl, k5⟩
        | pan v => obtain ⟨v', rfl, k5⟩ := k4; exact ⟨ρ1, k1, k2, k3, v', rfl, k5⟩
    | loop b =>
      simp only [stepC] at h
      have key : b.wp P (Exit.then (LoopWp P b (CPost w0 ρ σ n ex a' σ')) (CPost w0 ρ σ n ex a' σ')) A w := by
        split at h
        · next a1 σ1 h1 =>
          refine Code.wp_mono ?_ (ih b hs ha h1).1
          rintro e A1 w1 ⟨ρ1, k1, k2, k3, rfl, k4⟩
          exact LoopWp.mono (fun e A w hq => CPost.trans k2 hq) ((ih (.loop b) k1 k4 h).2 b rfl)
        · next hne =>
          have hex : ex ≠ .normal := fun e => by subst e; exact hne _ _ h
          exact Code.wp_mono (CPost.stop hex) (ih b hs ha h).1
      obtain ⟨l1, l2⟩ := loop_of key
      exact ⟨l1, fun b' hb => by cases hb; exact l2⟩
    | scope b =>
      refine ⟨?_, fun b hb => by cases hb⟩
      simp only [stepC] at h
      refine wp_scope_straight (Code.wp_mono ?_ (ih b hs ha h).1)
      rintro e A1 w1 ⟨ρ1, k1, k2, k3, k4⟩
      cases ex with
      | normal => obtain ⟨rfl, k5⟩ := k4; exact ⟨ρ1, k1, k2, k3, rfl, k5⟩
      | exit i => obtain ⟨rfl, k5⟩ := k4; exact ⟨ρ1, k1, k2, k3, rfl, k5⟩
      | ret => obtain ⟨rfl, k5⟩ := k4; exact ⟨ρ1, k1, k2, k3, rfl, k5⟩
      | pan v => obtain ⟨v', rfl, k5⟩ := k4; exact ⟨ρ1, k1, k2, k3, v', rfl, k5⟩
    | _ => simp only [stepC] at h; cases h
end
/-! ### Functions -/
section
variable {w0 : Base} {w : World} {ρ : Pl} {σ : St} {n : Nat} {a : Env} {A : Act}
theorem argsT_get : ∀ (l : List Value) (i : Nat) (t : Env) (j : Nat), (argsT l i t).get j = if i ≤ j ∧ j < i + l.length then l[j - i]? else t.get j
  | [], i, t, j => by
    show t.get j = _
    rw [if_neg (by rw [List.length_nil]; omega)]
  | v :: l, i, t, j => by
    show (argsT l (i + 1) (t.set i v)).get j = _
    rw [argsT_get l (i + 1) (t.set i v) j, List.length_cons]
    by_cases h1 : i + 1 ≤ j ∧ j < i + 1 + l.length
    · rw [if_pos h1, if_pos (by omega), show j - i = (j - (i + 1)) + 1 by omega, List.getElem?_cons_succ]
    · rw [if_neg h1, Tr.get_set]
      by_cases h2 : j = i
      · subst h2
        simp
      · rw [if_neg h2, if_neg (by omega)]
theorem args_actR {args : List Value} {cargs : Array Value} (hr : Rels ρ args cargs.toList) (m : Nat) : ActR ρ m (argsT args 0 .leaf) { tmps := cargs ++ Array.replicate (m - cargs.size) undef, defers := [] } := by
  refine ⟨fun t v ht => ?_, rfl, by simp; omega⟩
  rw [argsT_get] at ht
  split at ht
  · next h1 =>
    obtain ⟨v', h2, h3⟩ := hr.get _ ht
    rw [Nat.sub_zero, Array.getElem?_toList] at h2
    exact ⟨v', by rw [Array.getElem?_append_left (Array.getElem?_eq_some_iff.1 h2).1]; exact h2, h3⟩
  · rw [Tr.get_leaf] at ht; cases ht
theorem resA_run (hs : Sim w0 ρ σ w) (ha : ActR ρ n a A) : ∀ (rs : List ResultVar) (vs : List Value), resA P σ a rs = some vs → ∃ vs', (rs.mapM (fun | .tmp t => pure (A.tmps.getD t undef) | .cell p t => do loadVar t (← asAddr (A.tmps.getD p undef))) : Sem (List Value)).run P w = .ok vs' w ∧ Rels ρ vs vs'
  | [], vs, h => by
    simp only [resA, Option.some.injEq] at h
    subst h
    exact ⟨[], rfl, .nil⟩
  | .tmp t :: rs, vs, h => by
    simp only [resA] at h
    split at h
    · cases h
    · next v hv =>
      split at h
      · cases h
      · next ws hw =>
        injection h with h
        subst h
        obtain ⟨ws', k1, k2⟩ := resA_run hs ha rs ws hw
        obtain ⟨v', k3, k4⟩ := ha.tmp t v hv
        refine ⟨v' :: ws', ?_, .cons k4 k2⟩
        have : A.tmps.getD t undef = v' := by simp [k3]
        rw [List.mapM_cons, Sem.run_bind]
        simp only [this, Sem.run_pure, Result.andThen_ok]
        rw [Sem.run_bind, k1]
        rfl
  | .cell p t :: rs, vs, h => by
    simp only [resA] at h
    split at h
    · next q hq =>
      split at h
      · cases h
      · next v hv =>
        split at h
        · cases h
        · next ws hw =>
          injection h with h
          subst h
          obtain ⟨ws', k1, k2⟩ := resA_run hs ha rs ws hw
          obtain ⟨u, k3, k4⟩ := ha.tmp p _ hq
          cases k4 with
          | @ptr b c kk o hb =>
            obtain ⟨v', q1, q2⟩ := loadA_sound hs hb hv
            refine ⟨v' :: ws', ?_, .cons q2 k2⟩
            have : A.tmps.getD p undef = .pointer (some ⟨c, o, none⟩) := by simp [k3]
            have h1 : (do loadVar t (← asAddr (A.tmps.getD p undef)) : Sem Value).run P w = .ok v' w := by rw [this]; simp [asAddr, q1]
            rw [List.mapM_cons, Sem.run_bind]
            refine (congrArg (fun r => Result.andThen r _) h1).trans ?_
            rw [Result.andThen_ok, Sem.run_bind, k1]
            rfl
    · cases h
theorem results_run (hs : Sim w0 ρ σ w) (ha : ActR ρ n a A) {fn : Func} {vs : List Value} (h : resA P σ a fn.results.toList = some vs) : ∃ v', (results fn A.tmps).run P w = .ok v' w ∧ Rel ρ (oneRes vs) v' := by
  obtain ⟨vs', h1, h2⟩ := resA_run (P := P) hs ha _ vs h
  have hm : (fn.results.mapM (fun | .tmp t => pure (A.tmps.getD t undef) | .cell p t => do loadVar t (← asAddr (A.tmps.getD p undef))) : Sem (Array Value)).run P w = .ok vs'.toArray w := by
    rw [Array.mapM_eq_mapM_toList, Sem.run_map, h1]
    rfl
  refine ⟨oneRes vs', ?_, ?_⟩
  · unfold results
    rw [Sem.run_bind]
    generalize hX : Sem.run P (Array.mapM _ fn.results) w = X
    have hX2 : X = .ok vs'.toArray w := hX.symm.trans hm
    rw [hX2]
    simp only [Result.andThen_ok, Sem.run_pure]
    congr 1
    match vs' with
    | [] => rfl
    | [v] => rfl
    | v :: u :: l => simp [oneRes]
  · match vs, vs', h2 with
    | [], [], _ => exact .tuple .nil
    | [v], [v'], .cons h .nil => exact h
    | _ :: _ :: _, _ :: _ :: _, h2 => exact .tuple (by simpa [oneRes] using h2)
end
/-- Nobody but the machine's own is called so. -/
def Named (P : Program) : Prop := ∀ (f : FuncId) (fn : Func), P.funcs[f]? = some fn → fn.body.isSome = true → (fn.name == "runtime.NumGoroutine") = false
def HookOk (P : Program) (hk : Hook) : Prop :=
  ∀ call, Good P call → ∀ f args σ fr σ', hk call f args σ = some (.ok (fr, σ')) → (∃ fn, P.funcs[f]? = some fn ∧ fn.body.isSome = true) ∧
    ∀ w0 ρ w (cargs : Array Value), Sim w0 ρ σ w → Rels ρ args cargs.toList → Calls P f cargs w (FPost w0 ρ σ fr σ')
theorem noHook_ok : HookOk P noHook := fun call hg f args σ fr σ' h => by cases h
theorem plainF_sound {call : CallF} (hm : P.follows .mixedOrders = true) (hg : Good P call) (k : Nat) {f : FuncId} {args : List Value} {σ : St} {fr : FR} {σ' : St} (h : plainF P call k f args σ = .ok (fr, σ')) : (∃ fn, P.funcs[f]? = some fn ∧ fn.body.isSome = true) ∧
    ∀ w0 ρ w (cargs : Array Value), Sim w0 ρ σ w → Rels ρ args cargs.toList → Calls P f cargs w (FPost w0 ρ σ fr σ') := by
  unfold plainF at h
  split at h
  · cases h
  · next fn hfn =>
    split at h
    · cases h
    · next body hb =>
      refine ⟨⟨fn, hfn, by rw [hb]; rfl⟩, fun w0 ρ w cargs hs hr => calls_of_wp hfn hb ?_⟩
      have ha := args_actR hr fn.ntmps
      split at h
      · next a1 σ1 h1 =>
        refine Code.wp_mono ?_ (evC_sound hm hg k body hs ha h1).1
        rintro e A1 w1 ⟨ρ1, k1, k2, k3, rfl, k4⟩
        split at h
        · next vs hvs =>
          simp only [Rs.ok.injEq, Prod.mk.injEq] at h
          obtain ⟨rfl, rfl⟩ := h
          obtain ⟨v', q1, q2⟩ := results_run (P := P) k1 k4 hvs
          exact ⟨k3, v', q1, ρ1, k1, k2, v', rfl, q2⟩
        · cases h
      · next a1 σ1 h1 =>
        refine Code.wp_mono ?_ (evC_sound hm hg k body hs ha h1).1
        rintro e A1 w1 ⟨ρ1, k1, k2, k3, rfl, k4⟩
        split at h
        · next vs hvs =>
          simp only [Rs.ok.injEq, Prod.mk.injEq] at h
          obtain ⟨rfl, rfl⟩ := h
          obtain ⟨v', q1, q2⟩ := results_run (P := P) k1 k4 hvs
          exact ⟨k3, v', q1, ρ1, k1, k2, v', rfl, q2⟩
        · cases h
      · next v a1 σ1 h1 =>
        refine Code.wp_mono ?_ (evC_sound hm hg k body hs ha h1).1
        rintro e A1 w1 ⟨ρ1, k1, k2, k3, v', rfl, k4⟩
        simp only [Rs.ok.injEq, Prod.mk.injEq] at h
        obtain ⟨rfl, rfl⟩ := h
        exact ⟨k3, ρ1, k1, k2, v', rfl, k4⟩
      · cases h
      · cases h
/-- What is reckoned is what the machine does. -/
theorem evF_good {hk : Hook} (hm : P.follows .mixedOrders = true) (hn : Named P) (hh : HookOk P hk) : ∀ n, Good P (evF P hk n)
  | 0 => fun f args σ fr σ' h => by cases (show (Rs.no [8004, f] : Rs (FR × St)) = .ok (fr, σ') from h)
  | n + 1 => fun f args σ fr σ' h => by
    have h : stepF P hk (evF P hk n) 1000000 f args σ = .ok (fr, σ') := h
    have hg := evF_good hm hn hh n
    unfold stepF at h
    have fin : ((∃ fn, P.funcs[f]? = some fn ∧ fn.body.isSome = true) ∧ ∀ w0 ρ w (cargs : Array Value), Sim w0 ρ σ w → Rels ρ args cargs.toList → Calls P f cargs w (FPost w0 ρ σ fr σ')) := by
      split at h
      · next r hr =>
        rw [h] at hr
        exact hh _ hg f args σ fr σ' hr
      · exact plainF_sound hm hg 1000000 h
    obtain ⟨⟨fn, h1, h2⟩, h3⟩ := fin
    exact ⟨⟨fn, h1, h2, hn f fn h1 h2⟩, h3⟩
/-- What has been reckoned from an empty heap. -/
theorem good_start {call : CallF} (hg : Good P call) {f : FuncId} {args : List Value} (hargs : args.all plainConst = true) {v : Value} (hv : scalC v = true) {σ' : St} (hr : call f args st0 = .ok (.ret v, σ')) (w : World) :
    Calls P f args.toArray w fun e w' => e = .returned v ∧ Ext w w' := by
  have hs : Sim ⟨w, fun _ => False⟩ (fun _ => none) st0 w := ⟨Chg.refl w, (fun b c k hb => by cases hb), (fun b b' c k k' hb => by cases hb), (fun b c k hb => by cases hb), (fun b hb => Tr.get_leaf b)⟩
  have hra : Rels (fun _ => none) args args.toArray.toList := by
    have : ∀ l : List Value, l.all plainConst = true → Rels (fun _ => none) l l := by
      intro l
      induction l with
      | nil => intro _; exact .nil
      | cons x l ih =>
        intro hl
        simp only [List.all_cons, Bool.and_eq_true] at hl
        exact .cons (Rel.const _ hl.1) (ih hl.2)
    simpa using this args hargs
  refine ((hg f args st0 _ σ' hr).2 ⟨w, fun _ => False⟩ _ w args.toArray hs hra).mono ?_
  rintro e w' ⟨ρ', k1, k2, v', rfl, k3⟩
  rw [scal_same k3 hv]
  exact ⟨rfl, k1.chg⟩
/-- The reckoner, at the start: a call whose arguments hold no addresses. -/
theorem reckoned {hk : Hook} (hm : P.follows .mixedOrders = true) (hn : Named P) (hh : HookOk P hk) (n : Nat) (f : FuncId) (args : List Value) (hargs : args.all plainConst = true) {v : Value} (hv : scalC v = true) (h : valOf (evF P hk n f args st0) = some v) (w : World) :
    Calls P f args.toArray w fun e w' => e = .returned v ∧ Ext w w' := by
  cases hr : evF P hk n f args st0 with
  | no ws => rw [hr] at h; cases h
  | ok p =>
    obtain ⟨fr, σ'⟩ := p
    rw [hr] at h
    cases fr with
    | pan u => cases h
    | ret u =>
      simp only [valOf, Option.some.injEq] at h
      subst h
      exact good_start (evF_good hm hn hh n) hargs hv hr w
end Ev
end Go.Proofs.YtibhkabmihhjiaaGreatDoor
