/-
  The reckoner's regions that draw their order are the machine's, at every order.
-/
import Derived.Test.YtibhkabmihhjiaaGreatDoorEN
namespace Go.Proofs.YtibhkabmihhjiaaGreatDoor
open Go Go.RowKit
set_option linter.unusedVariables false
set_option linter.unusedSimpArgs false
namespace Ev
variable {P : Program}
theorem floats_kind {σ : St} {a : Env} {op : Op} (hfl : floatsA a op = true) {v : Value} {σ' : St} (h : opA P σ a op = some (.val v σ')) :
    (σ' = σ ∧ (∀ σ1, opA P σ1 a op = some (.val v σ1)) ∧ ∀ i hl, heldOf i σ a op v σ' hl = hl) ∨ (∃ t x p, op = .load t x ∧ evO a x = some (.pointer (some p)) ∧ σ' = σ) ∨ makes op = true := by
  cases op <;> first
    | (exact .inr (.inr rfl))
    | (obtain ⟨h1, h2⟩ := pure_indep rfl h; exact .inl ⟨h1, h2, fun i hl => rfl⟩)
    | (cases hfl; done)
    | skip
  case makeMap t r =>
    cases r with
    | none => exact .inr (.inr rfl)
    | some _ => cases hfl
  case load t x =>
    simp only [opA] at h
    split at h
    · next p hp =>
      obtain ⟨u, hu, h1⟩ := map_some h
      simp only [OR.val.injEq] at h1
      exact .inr (.inl ⟨t, x, p, rfl, hp, h1.2.symm⟩)
    · cases h
  case convert s d x =>
    left
    obtain ⟨h1, h2⟩ := conv_indep (fun b m c e => by simp [floatsA, e] at hfl) h
    exact ⟨h1, h2, fun i hl => rfl⟩
  case call c =>
    left
    simp only [floatsA] at hfl
    cases hc : c.callee with
    | value f => rw [hc] at hfl; simp only at hfl; obtain ⟨callee, args, tys⟩ := c; simp only at hc; subst hc; cases hfl
    | invoke r m => rw [hc] at hfl; simp only at hfl; obtain ⟨callee, args, tys⟩ := c; simp only at hc; subst hc; cases hfl
    | builtin b =>
      rw [hc] at hfl
      simp only [opA, hc] at h ⊢
      cases hargs : evOs a c.args.toList with
      | none => rw [hargs] at h; cases h
      | some args =>
        rw [hargs] at h
        simp only at h ⊢
        have key : σ' = σ ∧ ∀ σ1, builtinA P σ1 b c.argTypes.toList args = some (.val v σ1) := by
          generalize c.argTypes.toList = tys at h ⊢
          cases b <;> simp only at hfl <;> first
            | (obtain ⟨callee, cargs, tys⟩ := c; simp only at hc; subst hc; cases hfl; done)
            | skip
          case len =>
            rw [hargs] at hfl
            rcases args with _ | ⟨x, _ | ⟨y, r⟩⟩
            · have h : (none : Option OR) = some (.val v σ') := h
              cases h
            · rcases tys with _ | ⟨t, tr⟩
              · have h : (none : Option OR) = some (.val v σ') := h
                cases h
              · simp only [builtinA] at h ⊢
                split at h
                · next k e hd =>
                  injection h with h
                  simp only [OR.val.injEq] at h
                  obtain ⟨rfl, rfl⟩ := h
                  exact ⟨rfl, fun σ1 => by simp only [hd]⟩
                · next k e r0 hd => cases hfl
                · next s hd =>
                  injection h with h
                  simp only [OR.val.injEq] at h
                  obtain ⟨rfl, rfl⟩ := h
                  exact ⟨rfl, fun σ1 => by simp only [hd]⟩
                · next e q m q2 hd =>
                  injection h with h
                  simp only [OR.val.injEq] at h
                  obtain ⟨rfl, rfl⟩ := h
                  exact ⟨rfl, fun σ1 => by simp only [hd]⟩
                · cases h
            · have h : (none : Option OR) = some (.val v σ') := h
              cases h
          case cap =>
            rcases args with _ | ⟨x, _ | ⟨y, r⟩⟩
            · have h : (none : Option OR) = some (.val v σ') := h
              cases h
            · cases x <;> first
                | (have h : (none : Option OR) = some (.val v σ') := h; cases h; done)
                | skip
              next base q cc =>
              rcases tys with _ | ⟨t, tr⟩
              · have h : (none : Option OR) = some (.val v σ') := h
                cases h
              · simp only [builtinA] at h ⊢
                split at h
                · next e hd =>
                  split at h
                  · injection h with h
                    simp only [OR.val.injEq] at h
                    obtain ⟨rfl, rfl⟩ := h
                    exact ⟨rfl, fun σ1 => by simp only [hd]⟩
                  · next p =>
                    split at h
                    · next hsp =>
                      injection h with h
                      simp only [OR.val.injEq] at h
                      obtain ⟨rfl, rfl⟩ := h
                      exact ⟨rfl, fun σ1 => by simp only [hd, hsp]⟩
                    · cases h
                · cases h
            · cases x <;> (have h : (none : Option OR) = some (.val v σ') := h; cases h)
          case min =>
            rcases args with _ | ⟨x, _ | ⟨y, _ | ⟨z, r⟩⟩⟩
            · have h : (none : Option OR) = some (.val v σ') := h
              cases h
            · cases x <;> (have h : (none : Option OR) = some (.val v σ') := h; cases h)
            · cases x <;> first
                | (have h : (none : Option OR) = some (.val v σ') := h; cases h; done)
                | skip
              cases y <;> first
                | (have h : (none : Option OR) = some (.val v σ') := h; cases h; done)
                | skip
              simp only [builtinA] at h ⊢
              injection h with h
              simp only [OR.val.injEq] at h
              obtain ⟨rfl, rfl⟩ := h
              exact ⟨rfl, fun σ1 => rfl⟩
            · cases x <;> first
                | (have h : (none : Option OR) = some (.val v σ') := h; cases h; done)
                | (cases y <;> (have h : (none : Option OR) = some (.val v σ') := h; cases h; done))
          case max =>
            rcases args with _ | ⟨x, _ | ⟨y, _ | ⟨z, r⟩⟩⟩
            · have h : (none : Option OR) = some (.val v σ') := h
              cases h
            · cases x <;> (have h : (none : Option OR) = some (.val v σ') := h; cases h)
            · cases x <;> first
                | (have h : (none : Option OR) = some (.val v σ') := h; cases h; done)
                | skip
              cases y <;> first
                | (have h : (none : Option OR) = some (.val v σ') := h; cases h; done)
                | skip
              simp only [builtinA] at h ⊢
              injection h with h
              simp only [OR.val.injEq] at h
              obtain ⟨rfl, rfl⟩ := h
              exact ⟨rfl, fun σ1 => rfl⟩
            · cases x <;> first
                | (have h : (none : Option OR) = some (.val v σ') := h; cases h; done)
                | (cases y <;> (have h : (none : Option OR) = some (.val v σ') := h; cases h; done))
        exact ⟨key.1, key.2, fun i hl => rfl⟩
/-- What has been made ahead is held. -/
theorem heldOf_made {i : Nat} {σ : St} {a : Env} {op : Op} {v : Value} {ob : Ob} {h : List (Nat × Hd)} (hm : makes op = true) (hop : opA P σ a op = some (.val v (σ.new ob))) : heldOf i σ a op v (σ.new ob) h = (i, .made σ.next ob) :: h := by
  obtain ⟨ob', h6, hcl, -⟩ := made_of (o := ⟨none, op, 0, "", #[], none⟩) hm hop
  have h8 : ob = ob' := by
    have e1 : (σ.new ob).heap.get σ.next = some ob := Tr.get_same _ _ _
    have e2 : (σ.new ob').heap.get σ.next = some ob' := Tr.get_same _ _ _
    rw [h6, e2] at e1
    injection e1 with e1
    exact e1.symm
  subst h8
  have hg : (σ.new ob).heap.get σ.next = some ob := Tr.get_same _ _ _
  have key : ∀ vs e g, ob = .cells vs e g → g = 0 := fun vs e g e1 => by subst e1; exact hcl
  cases op <;> first
    | (cases hm; done)
    | skip
  case makeMap t r =>
    cases r with
    | some _ => cases hm
    | none =>
      simp only [opA, Option.some.injEq, OR.val.injEq] at hop
      have e1 := hop.2
      have : (σ.new (.map [])).heap.get σ.next = some (.map []) := Tr.get_same _ _ _
      rw [e1, hg] at this
      injection this with this
      subst this
      rfl
  case alloc e =>
    simp only [opA] at hop
    obtain ⟨z, hz, h1⟩ := map_some hop
    simp only [ptrNew, OR.val.injEq] at h1
    have : (σ.new (.cells (cellsL z) e 0)).heap.get σ.next = some (.cells (cellsL z) e 0) := Tr.get_same _ _ _
    rw [h1.2, hg] at this
    injection this with this
    subst this
    simp [heldOf, hg]
  case box e x =>
    simp only [opA] at hop
    obtain ⟨z, hz, h1⟩ := map_some hop
    simp only [ptrNew, OR.val.injEq] at h1
    have : (σ.new (.cells (cellsL z) e 0)).heap.get σ.next = some (.cells (cellsL z) e 0) := Tr.get_same _ _ _
    rw [h1.2, hg] at this
    injection this with this
    subst this
    simp [heldOf, hg]
  all_goals
    cases ob with
    | cells vs e g =>
      obtain rfl := key vs e g rfl
      simp [heldOf, hg]
    | map es => exact absurd hop (by
        intro hop
        simp only [opA] at hop
        repeat' split at hop
        all_goals first
          | (cases hop; done)
          | skip
        all_goals first
          | (obtain ⟨l, hl, h1⟩ := map_some hop
             simp only [OR.val.injEq] at h1
             have h1 := h1.2
             have e2 := congrArg (fun s : St => s.heap.get σ.next) h1
             simp only [hg] at e2
             rw [show ∀ o, (σ.new o).heap.get σ.next = some o from fun o => Tr.get_same _ _ _] at e2
             cases e2)
          | (injection hop with hop
             simp only [OR.val.injEq] at hop
             have h1 := hop.2
             have e2 := congrArg (fun s : St => s.heap.get σ.next) h1
             simp only [hg] at e2
             rw [show ∀ o, (σ.new o).heap.get σ.next = some o from fun o => Tr.get_same _ _ _] at e2
             cases e2))
    | dead => exact hcl.elim
theorem holds_made {σ : St} {b : Nat} {ob : Ob} (hcl : Clean ob) (h : holdsH P σ (.made b ob) = true) : σ.heap.get b = some ob := by
  simpa [holdsH] using h
/-- What the reckoned check says. -/
theorem holdsB_spec {σ : St} {x : Hd} (h : holdsB P σ x = true) (hcl : ∀ b ob, x = .made b ob → Clean ob) : holdsH P σ x = true := by
  cases x with
  | load t p v =>
    simp only [holdsB] at h
    split at h
    · next u hu =>
      have := valEq_spec 50 u v h
      subst this
      simp [holdsH, hu]
    · cases h
  | made b ob =>
    have hcl := hcl b ob rfl
    cases ob with
    | cells vs e g =>
      have hcl : g = 0 := hcl
      subst hcl
      simp only [holdsB] at h
      split at h
      · next us e2 g hg =>
        simp only [Bool.and_eq_true] at h
        obtain ⟨⟨m1, m2⟩, m3⟩ := h
        have m1 := Nat.eq_of_beq_eq_true m1
        have m2 := Nat.eq_of_beq_eq_true m2
        have m3 := allEq_spec (valEq_spec 50) m3
        subst m1; subst m2; subst m3
        simp [holdsH, hg]
      · cases h
    | map es =>
      have hcl : es = [] := hcl
      subst hcl
      simp only [holdsB] at h
      split at h
      · next hg => simp [holdsH, hg]
      · cases h
    | dead => exact hcl.elim
section
variable {w0 : Base} {w : World} {ρ ρ0 : Pl} {σ0 : St} {n : Nat} {a0 : Env} {A : Act} {L : List Oper} {D : Nat → Prop} {s : DS}
theorem ready_deps {o : Oper} {s : DS} (h : readyD s.done o = true) : ∀ d ∈ depsOf o, SD s d := fun d hd => List.all_eq_true.1 h d hd
theorem passD_keeps (hf : RegF n L) : ∀ (l : List (Nat × Oper)) (s s' : DS), (∀ x ∈ l, L[x.1]? = some x.2) → CI P n L a0 ρ0 σ0 w0 D A w ρ s → passD P n L l s = .ok s' → CI P n L a0 ρ0 σ0 w0 D A w ρ s'
  | [], s, s', hl, h, hp => by
    have hp : (Rs.ok s : Rs DS) = .ok s' := hp
    injection hp with hp
    exact hp ▸ h
  | x :: l, s, s', hl, h, hp => by
    have hx := hl x (List.mem_cons_self ..)
    have hl' : ∀ y ∈ l, L[y.1]? = some y.2 := fun y hy => hl y (List.mem_cons_of_mem _ hy)
    have hp : (match Nat.testBit s.done x.1 with
      | true => passD P n L l s
      | false => match readyD s.done x.2 with
        | false => passD P n L l s
        | true => match wantA L s.a x.2.guard with
          | none => .no [7012]
          | some false => passD P n L l ⟨s.done ||| 2 ^ x.1, putA s.a x.2.dst undefA, s.σ, s.held⟩
          | some true => match floatsA s.a x.2.op with
            | false => passD P n L l s
            | true => match opA P s.σ s.a x.2.op with
              | some (.val v σ') => passD P n L l ⟨s.done ||| 2 ^ x.1, putA s.a x.2.dst v, σ', heldOf x.1 s.σ s.a x.2.op v σ' s.held⟩
              | _ => .no (match x.2.dst with | some d => [d, 7006] | none => [7006]) : Rs DS) = .ok s' := hp
    split at hp
    · exact passD_keeps hf l s s' hl' h hp
    · next hnd =>
      have hi : ¬ SD s x.1 := fun e => by unfold SD at e; rw [hnd] at e; cases e
      split at hp
      · exact passD_keeps hf l s s' hl' h hp
      · next hrd =>
        have hr := ready_deps hrd
        split at hp
        · cases hp
        · next hw =>
          refine passD_keeps hf l _ s' hl' ?_ hp
          exact h.float hf hx hi hr h.sim h.st (Nat.le_refl _) (fun y hy => hy) (fun j b e hj => .inl hj) (.inl ⟨hw, rfl⟩)
        · next hw =>
          split at hp
          · exact passD_keeps hf l s s' hl' h hp
          · next hfl =>
            split at hp
            · next v σ' hop =>
              refine passD_keeps hf l _ s' hl' ?_ hp
              rcases floats_kind hfl hop with ⟨rfl, h1, h2⟩ | ⟨t, y, p, ht, hy, rfl⟩ | hm
              · rw [h2]
                exact h.float hf hx hi hr h.sim h.st (Nat.le_refl _) (fun y hy => hy) (fun j b e hj => .inl hj) (.inr ⟨hw, .calm h1⟩)
              · have hh : heldOf x.1 s.σ s.a x.2.op v s.σ s.held = (x.1, .load t p v) :: s.held := by rw [ht]; simp [heldOf, hy]
                rw [hh]
                exact h.float hf hx hi hr h.sim h.st (Nat.le_refl _) (fun y hy => List.mem_cons_of_mem _ hy) (fun j b e hj => by
                  rcases List.mem_cons.1 hj with e | hj
                  · cases e
                  · exact .inl hj) (.inr ⟨hw, .load t y p ht hy (List.mem_cons_self ..)⟩)
              · obtain ⟨ob, rfl, hcl, -⟩ := made_of hm hop
                have hg : (s.σ.new ob).heap.get s.σ.next = some ob := Tr.get_same _ _ _
                have hh : heldOf x.1 s.σ s.a x.2.op v (s.σ.new ob) s.held = (x.1, .made s.σ.next ob) :: s.held := by
                  exact heldOf_made hm hop
                rw [hh]
                have hst : Step ρ0 σ0 ρ (s.σ.new ob) := ⟨Nat.le_trans h.st.next (Nat.le_succ _), h.st.pl, fun b hb hn => by
                  have hb' := h.st.next
                  have : (s.σ.new ob).heap.get b = s.σ.heap.get b := Tr.get_other _ _ (by omega)
                  rw [this]
                  exact h.st.keep b hb hn⟩
                have hρ : ρ s.σ.next = none := by
                  cases hq : ρ s.σ.next with
                  | none => rfl
                  | some y => have := (h.sim.dom _ y.1 y.2 hq).1; omega
                exact h.float hf hx hi hr (h.sim.fresh _) hst (Nat.le_succ _) (fun y hy => List.mem_cons_of_mem _ hy) (fun j b e' hj => by
                  rcases List.mem_cons.1 hj with e | hj
                  · cases e
                    exact .inr ⟨rfl, rfl, Nat.lt_succ_self _⟩
                  · exact .inl hj) (.inr ⟨hw, .made s.σ ob hm hop (List.mem_cons_self ..) hρ⟩)
            · cases hp
/-- What has been reckoned ahead is done, as a step of the machine. -/
theorem CI.floatStep (hf : RegF n L) {ops : Array Oper} (hL : ops.toList = L) (h : CI P n L a0 ρ0 σ0 w0 D A w ρ s) (hh : s.held.all (fun x => holdsH P s.σ x.2) = true) {i : Nat} {o : Oper} (ho : L[i]? = some o) (hi : ¬ D i) (hS : SD s i) (hr : ∀ d ∈ depsOf o, D d) {K : Act → World → Prop} {Q : Exit → Act → World → Prop}
    (hK : ∀ A' w' ρ', CI P n L a0 ρ0 σ0 w0 (fun k => D k ∨ k = i) A' w' ρ' s → K A' w') : wpOp P ops Q i K A w := by
  obtain ⟨ai, ag, hc⟩ := h.pend i o hS hi ho
  obtain ⟨a', ha, hop, hwt, hev⟩ := h.frame hf ho hi hr ag
  have hoa : ops[i]? = some o := by rw [← Array.getElem?_toList, hL]; exact ho
  unfold wpOp
  rw [hoa]
  simp only
  subst hL
  rcases hc with ⟨q1, q2⟩ | ⟨q1, v, q2, q3⟩
  · have hw := wantA_spec ha ops o (by rw [← hwt]; exact q1)
    rw [if_neg (by rw [hw]; simp)]
    exact hK _ _ _ (h.done hf ho hi hS hr h.sim (Pl.le.refl ρ) h.st (fun d hd => ⟨undefA, q2 d hd, undef_rel ρ⟩) (fun j b e _ _ hn => hn))
  · have hw := wantA_spec ha ops o (by rw [← hwt]; exact q1)
    rw [if_pos hw]
    refine .inl ?_
    unfold Oper.wp
    have same : opA P s.σ a' o.op = some (.val v s.σ) → o.upon P A K Q ((execOp A.eval o).run P w) := by
      intro h2
      obtain ⟨v', w', ρ', k1, k2, k3, k4⟩ := opA_sound h.sim ha o h2
      rw [k1]
      exact hK _ _ _ (h.done hf ho hi hS hr k2 (k3.le h.sim) (h.st.trans k3) (fun d hd => ⟨v, q2 d hd, k4⟩) (fun j b e _ hj hn => (k3.pl b (h.hd j b e hj).2).trans hn))
    cases q3 with
    | calm hcalm => exact same ((hop s.σ).symm.trans (hcalm s.σ))
    | load t x p h1 h2 h3 =>
      apply same
      have hx : evO a' x = some (.pointer (some p)) := by rw [← hev x (by rw [h1]; simp [Op.operands])]; exact h2
      have hhd := List.all_eq_true.1 hh _ h3
      have hu : loadA P s.σ t p = some v := by simpa [holdsH] using hhd
      rw [h1]
      simp only [opA, hx, hu, Option.map_some]
    | made σi ob h1 h2 h3 h4 =>
      have h5 : opA P σi a' o.op = some (.val v (σi.new ob)) := (hop σi).symm.trans h2
      obtain ⟨ob', h6, hcl, h7⟩ := made_of h1 h5
      have h8 : some ob = some ob' := by
        have e1 : (σi.new ob).heap.get σi.next = some ob := Tr.get_same _ _ _
        have e2 : (σi.new ob').heap.get σi.next = some ob' := Tr.get_same _ _ _
        rw [← e1, h6, e2]
      simp only [Option.some.injEq] at h8
      subst h8
      have hhd := List.all_eq_true.1 hh _ h3
      have hg := holds_made hcl hhd
      obtain ⟨v', ca, k1, k2, k3⟩ := h7 h.sim ha
      obtain ⟨b1, b2⟩ := h.hd _ _ _ h3
      obtain ⟨s1, l1⟩ := h.sim.place h4 b2 hg hcl k2
      rw [k1]
      refine hK _ _ _ (h.done hf ho hi hS hr s1 l1 ⟨h.st.next, fun b hb => ?_, h.st.keep⟩ (fun d hd => ⟨v, q2 d hd, k3 _ (if_pos rfl)⟩) (fun j b e' hji hj hn => ?_))
      · exact (if_neg (by omega)).trans (h.st.pl b hb)
      · have hne : b ≠ σi.next := fun eb => hji (h.hinj j i b e' ob (by exact hj) (by rw [eb]; exact h3))
        exact (if_neg hne).trans hn
/-- The one effect that is ready, as a step of the machine. -/
theorem CI.effect {call : CallF} (hg : Good P call) (hf : RegF n L) {ops : Array Oper} (hL : ops.toList = L) (h : CI P n L a0 ρ0 σ0 w0 D A w ρ s) {i : Nat} {o : Oper} (ho : L[i]? = some o) (hi : ¬ SD s i) (hr : ∀ d ∈ depsOf o, D d) (hw : wantA L s.a o.guard = some true) {ih : DS → Out} {ex : Ex} {a' : Env} {σ' : St}
    (he : effA P call n o s.a s.σ (fun a σ => ih ⟨s.done ||| 2 ^ i, a, σ, s.held.filter fun x => !Nat.testBit ((masksOf L).getD i 0) x.1⟩) = .ok (ex, a', σ'))
    {K : Act → World → Prop} {Q : Exit → Act → World → Prop}
    (hK : ∀ A' w' ρ' s2, ih s2 = .ok (ex, a', σ') → CI P n L a0 ρ0 σ0 w0 (fun k => D k ∨ k = i) A' w' ρ' s2 → K A' w')
    (hQ : ∀ v σ1, ex = .pan v → σ' = σ1 → ∀ ρ1 v' w1, Sim w0 ρ1 σ1 w1 → Step ρ0 σ0 ρ1 σ1 → Rel ρ1 v v' → Q (.panic [{ v := v', recovered := false }]) A w1) : wpOp P ops Q i K A w := by
  have hiD : ¬ D i := fun hd => hi (h.sub i hd)
  obtain ⟨aw, ha, hop, hwt, -⟩ := h.frame hf ho hiD hr (h.now hf ho hi)
  have hoa : ops[i]? = some o := by rw [← Array.getElem?_toList, hL]; exact ho
  unfold wpOp
  rw [hoa]
  simp only
  have hwd : Region.wanted o (yielded ops A.tmps) = true := by
    subst hL
    exact wantA_spec ha ops o (by rw [← hwt]; exact hw)
  rw [if_pos hwd]
  refine .inl ?_
  -- the same, aw far aw the operation reads
  have he2 : effA P call n o aw s.σ (fun a1 σ1 => match o.dst with
      | some d => match a1.get d with
        | some v => ih ⟨s.done ||| 2 ^ i, putA s.a o.dst v, σ1, s.held.filter fun x => !Nat.testBit ((masksOf L).getD i 0) x.1⟩
        | none => .no []
      | none => ih ⟨s.done ||| 2 ^ i, s.a, σ1, s.held.filter fun x => !Nat.testBit ((masksOf L).getD i 0) x.1⟩) = .ok (ex, a', σ') := by
    rw [← he]
    unfold effA
    rw [← hop s.σ]
    have hnx : ∀ v σ1, (match o.dst with
        | some d => match (putA aw o.dst v).get d with
          | some v => ih ⟨s.done ||| 2 ^ i, putA s.a o.dst v, σ1, s.held.filter fun x => !Nat.testBit ((masksOf L).getD i 0) x.1⟩
          | none => .no []
        | none => ih ⟨s.done ||| 2 ^ i, s.a, σ1, s.held.filter fun x => !Nat.testBit ((masksOf L).getD i 0) x.1⟩ : Out) = ih ⟨s.done ||| 2 ^ i, putA s.a o.dst v, σ1, s.held.filter fun x => !Nat.testBit ((masksOf L).getD i 0) x.1⟩ := by
      intro v σ1
      cases hd : o.dst with
      | none => rfl
      | some d => simp only [putA_same]
    cases opA P s.σ s.a o.op with
    | none => rfl
    | some r =>
      cases r with
      | val v σ1 => exact hnx v σ1
      | skip σ1 => exact hnx undefA σ1
      | pan v => rfl
      | call f args =>
        simp only
        cases call f args s.σ with
        | no ws => rfl
        | ok p =>
          obtain ⟨fr, σ1⟩ := p
          cases fr with
          | ret v => exact hnx v σ1
          | pan v => rfl
  refine effA_sound hg h.sim ha o (hf.fit i o ho) he2 ?_ ?_
  · rintro a1 σ1 h1 ρ1 A1 w1 k1 k2 k3 ⟨v, v', hvr, rfl, rfl⟩
    have h2 : ih ⟨s.done ||| 2 ^ i, putA s.a o.dst v, σ1, s.held.filter fun x => !Nat.testBit ((masksOf L).getD i 0) x.1⟩ = .ok (ex, a', σ') := by
      rw [← h1]
      cases hd : o.dst with
      | none => rfl
      | some d => simp only [putA_same]
    refine hK _ _ ρ1 _ h2 ?_
    have hl := k2.le h.sim
    have hother : ∀ t k, writerOf t L 0 = some k → k ≠ i → (Ev.putA s.a o.dst v).get t = s.a.get t := by
      intro t k hk hne
      refine putA_other fun e => hne ?_
      have := hf.once i o t ho e
      rw [hk] at this
      injection this
    have hsz : (A.put o.dst v').tmps.size = A.tmps.size := by cases o.dst <;> simp [Act.put]
    have hget : ∀ t, o.dst ≠ some t → (A.put o.dst v').tmps[t]? = A.tmps[t]? := by
      intro t ht
      cases hd : o.dst with
      | none => rfl
      | some d =>
        rw [hd] at ht
        simp only [Act.put, Array.getElem?_setIfInBounds]
        rw [if_neg (fun e => ht (by rw [e]))]
    have hkeep : ∀ j x, SD s j → ¬ D j → (j, x) ∈ s.held → (j, x) ∈ s.held.filter fun x => !Nat.testBit ((masksOf L).getD i 0) x.1 := by
      intro j x hj hjD hx
      refine List.mem_filter.2 ⟨hx, ?_⟩
      cases hq : Nat.testBit ((masksOf L).getD i 0) j with
      | false => simp [hq]
      | true => exact absurd (anc_ready hf h.dcl ho hr hq) hjD
    refine ⟨fun k hk => (sd_or k).2 (hk.elim (fun e => .inl (h.sub k e)) .inr), fun k ok hk hok d hd => ?_, fun k ok hk hok d hd => ?_, fun k ok hk hkD hok => ?_, fun t ht => ?_, fun t k u hw hk hu => ?_, fun t u ht hu => ?_, k1, h.st.trans k2, ?_, by rw [hsz]; exact h.sz, fun j b e hj => ?_, fun j j' b e e' q1 q2 => h.hinj j j' b e e' (List.mem_filter.1 q1).1 (List.mem_filter.1 q2).1⟩
    · rcases hk with hk | rfl
      · exact .inl (h.dcl k ok hk hok d hd)
      · rw [ho] at hok
        cases hok
        exact .inl (hr d hd)
    · rw [sd_or] at hk ⊢
      rcases hk with hk | rfl
      · exact .inl (h.scl k ok hk hok d hd)
      · rw [ho] at hok
        cases hok
        exact .inl (h.sub d (hr d hd))
    · rw [sd_or] at hk
      have hki : k ≠ i := fun e => hkD (.inr e)
      have hkS : SD s k := hk.resolve_right hki
      have hkD' : ¬ D k := fun hd => hkD (.inl hd)
      obtain ⟨ai, g1, g2⟩ := h.pend k ok hkS hkD' hok
      have hdst : ∀ d, ok.dst = some d → (Ev.putA s.a o.dst v).get d = s.a.get d := fun d hd => hother d k (hf.once k ok d hok hd) hki
      refine ⟨ai, g1.next fun t k' ht hw hne ha => hother t k' hw fun e => ?_, ?_⟩
      · subst e
        exact hi (anc_closed hf h.scl k hkS ha)
      · rcases g2 with ⟨q1, q2⟩ | ⟨q1, u, q2, q3⟩
        · exact .inl ⟨q1, fun d hd => (hdst d hd).trans (q2 d hd)⟩
        · refine .inr ⟨q1, u, fun d hd => (hdst d hd).trans (q2 d hd), ?_⟩
          cases q3 with
          | calm h => exact .calm h
          | load t x p h1 h2 h3 => exact .load t x p h1 h2 (hkeep _ _ hkS hkD' h3)
          | made σi e h1 h2 h3 h4 => exact .made σi e h1 h2 (hkeep _ _ hkS hkD' h3) ((k2.pl _ (h.hd _ _ _ h3).2).trans h4)
    · have h1 : (Ev.putA s.a o.dst v).get t = s.a.get t := putA_other fun e => ht i (hf.once i o t ho e) ((sd_or i).2 (.inr rfl))
      exact h1.trans (h.init t fun k hk hS => ht k hk ((sd_or k).2 (.inl hS)))
    · have hu : (Ev.putA s.a o.dst v).get t = some u := hu
      by_cases hd : o.dst = some t
      · rw [hd, putA_same] at hu
        injection hu with hu
        subst hu
        refine ⟨v', ?_, hvr⟩
        have hlt : t < A.tmps.size := by
          have := hf.fit i o ho
          rw [hd] at this
          have h4 : (t : Nat) < n := by simpa [fits] using this
          exact Nat.lt_of_lt_of_le h4 h.sz
        rw [hd]
        simp [Act.put, Array.getElem?_setIfInBounds, hlt]
      · have hk' : D k := by
          rcases hk with hk | rfl
          · exact hk
          · exfalso
            obtain ⟨-, o', q1, q2⟩ := writer_get hw
            rw [Nat.sub_zero, ho] at q1
            cases q1
            exact hd q2
        rw [putA_other hd] at hu
        obtain ⟨x, q1, q2⟩ := h.tmpD t k u hw hk' hu
        exact ⟨x, by rw [hget t hd]; exact q1, q2.mono hl⟩
    · have hd : o.dst ≠ some t := fun e => ht i (hf.once i o t ho e) (.inr rfl)
      obtain ⟨x, q1, q2⟩ := h.tmp0 t u (fun k hk hD => ht k hk (.inl hD)) hu
      exact ⟨x, by rw [hget t hd]; exact q1, q2.mono hl⟩
    · cases o.dst <;> exact h.dfr
    · obtain ⟨q1, q2⟩ := h.hd j b e (List.mem_filter.1 hj).1
      have := k2.next
      exact ⟨q1, by show b < σ1.next; omega⟩
  · intro v σ1 e1 e2 ρ1 v' w1 k1 k2 k3
    exact hQ v σ1 e1 e2 ρ1 v' w1 k1 (h.st.trans k2) k3
end
end Ev
end Go.Proofs.YtibhkabmihhjiaaGreatDoor
