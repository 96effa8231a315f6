/-
  The reckoner's regions that draw their order are the machine's.
-/
import Derived.Test.YtibhkabmihhjiaaGreatDoorEP
namespace Go.Proofs.YtibhkabmihhjiaaGreatDoor
open Go Go.RowKit
set_option linter.unusedVariables false
set_option linter.unusedSimpArgs false
namespace Ev
variable {P : Program}
/-- What an operation reads. -/
def Reads (L : List Oper) (o : Oper) (t : Nat) : Prop := t ∈ tmpsOf o ∨ ∃ g b og, o.guard = some (g, b) ∧ L[g]? = some og ∧ og.dst = some t
theorem reads_ord {n : Nat} {L : List Oper} (hf : RegF n L) {i : Nat} {o : Oper} (ho : L[i]? = some o) {t : Nat} (ht : Reads L o t) {k : Nat} (hk : writerOf t L 0 = some k) : k = i ∨ Anc L k i ∨ Anc L i k := by
  rcases ht with ht | ⟨g, b, og, hg, hog, hd⟩
  · exact hf.ord i o t k ho ht hk
  · have := hf.once g og t hog hd
    rw [hk] at this
    injection this with this
    subst this
    exact .inr (.inl (dep_anc ho (hf.grd i o _ b ho hg)))
structure Agree (L : List Oper) (a0 sa ai : Env) (i : Nat) (o : Oper) : Prop where
  free : ∀ t, Reads L o t → writerOf t L 0 = none → ai.get t = a0.get t
  self : ∀ t, Reads L o t → writerOf t L 0 = some i → ai.get t = a0.get t
  fore : ∀ t k, Reads L o t → writerOf t L 0 = some k → k ≠ i → Anc L k i → ai.get t = sa.get t
  aft : ∀ t k, Reads L o t → writerOf t L 0 = some k → k ≠ i → Anc L i k → ai.get t = a0.get t
/-- How an operation that floats was reckoned. -/
inductive FK (P : Program) (s : DS) (ρ : Pl) (i : Nat) (o : Oper) (ai : Env) (v : Value) : Prop where
  | calm (h : ∀ σ, opA P σ ai o.op = some (.val v σ))
  | load (t : TypeId) (x : Operand) (p : Addr) (ho : o.op = .load t x) (hx : evO ai x = some (.pointer (some p))) (hh : (i, Hd.load t p v) ∈ s.held)
  | made (σi : St) (ob : Ob) (hm : makes o.op = true) (hop : opA P σi ai o.op = some (.val v (σi.new ob))) (hh : (i, Hd.made σi.next ob) ∈ s.held) (hρ : ρ σi.next = none)
def Rec (P : Program) (L : List Oper) (a0 : Env) (s : DS) (ρ : Pl) (i : Nat) (o : Oper) : Prop :=
  ∃ ai, Agree L a0 s.a ai i o ∧ ((wantA L ai o.guard = some false ∧ ∀ d, o.dst = some d → s.a.get d = some undefA) ∨
    (wantA L ai o.guard = some true ∧ ∃ v, (∀ d, o.dst = some d → s.a.get d = some v) ∧ FK P s ρ i o ai v))
def SD (s : DS) (i : Nat) : Prop := Nat.testBit s.done i = true
structure CI (P : Program) (n : Nat) (L : List Oper) (a0 : Env) (ρ0 : Pl) (σ0 : St) (w0 : Base) (D : Nat → Prop) (A : Act) (w : World) (ρ : Pl) (s : DS) : Prop where
  sub : ∀ i, D i → SD s i
  dcl : Closed L D
  scl : Closed L (SD s)
  pend : ∀ i o, SD s i → ¬ D i → L[i]? = some o → Rec P L a0 s ρ i o
  init : ∀ t, (∀ i, writerOf t L 0 = some i → ¬ SD s i) → s.a.get t = a0.get t
  tmpD : ∀ t i v, writerOf t L 0 = some i → D i → s.a.get t = some v → ∃ v', A.tmps[t]? = some v' ∧ Rel ρ v v'
  tmp0 : ∀ t v, (∀ i, writerOf t L 0 = some i → ¬ D i) → a0.get t = some v → ∃ v', A.tmps[t]? = some v' ∧ Rel ρ v v'
  sim : Sim w0 ρ s.σ w
  st : Step ρ0 σ0 ρ s.σ
  dfr : A.defers = []
  sz : n ≤ A.tmps.size
  hd : ∀ i b e, (i, Hd.made b e) ∈ s.held → σ0.next ≤ b ∧ b < s.σ.next
  hinj : ∀ i j b e e', (i, Hd.made b e) ∈ s.held → (j, Hd.made b e') ∈ s.held → i = j
section
variable {w0 : Base} {w : World} {ρ ρ0 : Pl} {σ0 : St} {n : Nat} {a0 : Env} {A : Act} {L : List Oper} {D : Nat → Prop} {s : DS}
/-- What is read, in the world. -/
theorem CI.rel (hf : RegF n L) (h : CI P n L a0 ρ0 σ0 w0 D A w ρ s) {i : Nat} {o : Oper} (ho : L[i]? = some o) (hi : ¬ D i) (hr : ∀ d ∈ depsOf o, D d) {ai : Env} (ha : Agree L a0 s.a ai i o) {t : Nat} (ht : Reads L o t) {v : Value} (hv : ai.get t = some v) : ∃ v', A.tmps[t]? = some v' ∧ Rel ρ v v' := by
  cases hw : writerOf t L 0 with
  | none =>
    rw [ha.free t ht hw] at hv
    exact h.tmp0 t v (fun k hk => by rw [hw] at hk; cases hk) hv
  | some k =>
    by_cases hki : k = i
    · subst hki
      rw [ha.self t ht hw] at hv
      exact h.tmp0 t v (fun k' hk' => by rw [hw] at hk'; cases hk'; exact hi) hv
    · rcases reads_ord hf ho ht hw with e | e | e
      · exact absurd e hki
      · rw [ha.fore t k ht hw hki e] at hv
        exact h.tmpD t k v hw (anc_ready hf h.dcl ho hr e) hv
      · rw [ha.aft t k ht hw hki e] at hv
        exact h.tmp0 t v (fun k' hk' hD => by rw [hw] at hk'; cases hk'; exact hi (anc_closed hf h.dcl _ hD e)) hv
theorem pick_tmps (ai : Env) : ∀ (T : List Nat), ∃ a' : Env, (∀ t ∈ T, a'.get t = ai.get t) ∧ ∀ t v, a'.get t = some v → t ∈ T ∧ ai.get t = some v
  | [] => ⟨.leaf, (fun t ht => by cases ht), (fun t v h => by rw [Tr.get_leaf] at h; cases h)⟩
  | x :: T => by
    obtain ⟨a', h1, h2⟩ := pick_tmps ai T
    cases hx : ai.get x with
    | none =>
      refine ⟨a', fun t ht => ?_, fun t v h => ⟨List.mem_cons_of_mem _ (h2 t v h).1, (h2 t v h).2⟩⟩
      rcases List.mem_cons.1 ht with rfl | ht
      · cases hq : a'.get t with
        | none => exact hx.symm
        | some u => rw [← hq, hq, (h2 t u hq).2]
      · exact h1 t ht
    | some u =>
      refine ⟨a'.set x u, fun t ht => ?_, fun t v h => ?_⟩
      · rw [Tr.get_set]
        by_cases e : t = x
        · subst e; rw [if_pos rfl, hx]
        · rw [if_neg e]
          rcases List.mem_cons.1 ht with rfl | ht
          · exact absurd rfl e
          · exact h1 t ht
      · rw [Tr.get_set] at h
        by_cases e : t = x
        · subst e
          rw [if_pos rfl] at h
          exact ⟨List.mem_cons_self .., by rw [hx]; exact h⟩
        · rw [if_neg e] at h
          exact ⟨List.mem_cons_of_mem _ (h2 t v h).1, (h2 t v h).2⟩
/-- The frame, as far as an operation reads it. -/
theorem CI.frame (hf : RegF n L) (h : CI P n L a0 ρ0 σ0 w0 D A w ρ s) {i : Nat} {o : Oper} (ho : L[i]? = some o) (hi : ¬ D i) (hr : ∀ d ∈ depsOf o, D d) {ai : Env} (ha : Agree L a0 s.a ai i o) :
    ∃ a' : Env, ActR ρ n a' A ∧ (∀ σ, opA P σ ai o.op = opA P σ a' o.op) ∧ wantA L ai o.guard = wantA L a' o.guard ∧ ∀ x ∈ o.op.operands.toList, evO ai x = evO a' x := by
  have hT : ∃ T : List Nat, (∀ t, t ∈ T → Reads L o t) ∧ (∀ t ∈ tmpsOf o, t ∈ T) ∧ ∀ g b og t, o.guard = some (g, b) → L[g]? = some og → og.dst = some t → t ∈ T := by
    cases hg : o.guard with
    | none => exact ⟨tmpsOf o, fun t ht => .inl ht, fun t ht => ht, fun g b og t h => by cases h⟩
    | some gb =>
      obtain ⟨g, b⟩ := gb
      cases hog : L[g]? with
      | none => exact ⟨tmpsOf o, fun t ht => .inl ht, fun t ht => ht, fun g' b' og t h h2 => by cases h; rw [hog] at h2; cases h2⟩
      | some og =>
        cases hd : og.dst with
        | none => exact ⟨tmpsOf o, fun t ht => .inl ht, fun t ht => ht, fun g' b' og' t h h2 h3 => by cases h; rw [hog] at h2; cases h2; rw [hd] at h3; cases h3⟩
        | some d =>
          refine ⟨d :: tmpsOf o, fun t ht => ?_, fun t ht => List.mem_cons_of_mem _ ht, fun g' b' og' t h h2 h3 => ?_⟩
          · rcases List.mem_cons.1 ht with rfl | ht
            · exact .inr ⟨g, b, og, hg, hog, hd⟩
            · exact .inl ht
          · cases h; rw [hog] at h2; cases h2; rw [hd] at h3; cases h3; exact List.mem_cons_self ..
  obtain ⟨T, t1, t2, t3⟩ := hT
  obtain ⟨a', h1, h2⟩ := pick_tmps ai T
  have hop : ∀ x ∈ o.op.operands.toList, ∀ t, x = .tmp t → ai.get t = a'.get t := by
    rintro x hx t rfl
    exact (h1 t (t2 t (List.mem_filterMap.2 ⟨_, hx, rfl⟩))).symm
  refine ⟨a', ⟨fun t v hv => ?_, h.dfr, h.sz⟩, fun σ => opA_congr σ hop, ?_, fun x hx => evO_congr (hop x hx)⟩
  · obtain ⟨k1, k2⟩ := h2 t v hv
    exact h.rel hf ho hi hr ha (t1 t k1) k2
  · unfold wantA
    cases hg : o.guard with
    | none => rfl
    | some gb =>
      obtain ⟨g, b⟩ := gb
      simp only
      cases hog : L[g]? with
      | none => rfl
      | some og =>
        simp only
        cases hd : og.dst with
        | none => rfl
        | some d =>
          simp only
          rw [h1 d (t3 g b og d hg hog hd)]
theorem Agree.next {sa sa' ai : Env} {i : Nat} {o : Oper} (h : Agree L a0 sa ai i o) (hk : ∀ t k, Reads L o t → writerOf t L 0 = some k → k ≠ i → Anc L k i → sa'.get t = sa.get t) : Agree L a0 sa' ai i o :=
  ⟨h.free, h.self, fun t k h1 h2 h3 h4 => (h.fore t k h1 h2 h3 h4).trans (hk t k h1 h2 h3 h4).symm, h.aft⟩
theorem CI.now (hf : RegF n L) (h : CI P n L a0 ρ0 σ0 w0 D A w ρ s) {i : Nat} {o : Oper} (ho : L[i]? = some o) (hi : ¬ SD s i) : Agree L a0 s.a s.a i o :=
  ⟨(fun t _ hw => h.init t fun k hk => by rw [hw] at hk; cases hk), (fun t _ hw => h.init t fun k hk => by rw [hw] at hk; cases hk; exact hi), (fun t k _ _ _ _ => rfl),
    (fun t k _ hw _ ha => h.init t fun k' hk' hS => by rw [hw] at hk'; cases hk'; exact hi (anc_closed hf h.scl _ hS ha))⟩
theorem putA_other {a : Env} {d : Option Tmp} {v : Value} {t : Nat} (h : d ≠ some t) : (Ev.putA a d v).get t = a.get t := by
  cases d with
  | none => rfl
  | some d => exact Tr.get_other _ _ (fun e => h (by rw [e]))
theorem putA_same {a : Env} {d : Nat} {v : Value} : (Ev.putA a (some d) v).get d = some v := Tr.get_same _ _ _
theorem sd_or {s : DS} {i : Nat} {a : Env} {σ : St} {hl : List (Nat × Hd)} (k : Nat) : SD ⟨s.done ||| 2 ^ i, a, σ, hl⟩ k ↔ SD s k ∨ k = i := by
  unfold SD
  simp only [Nat.testBit_or, Nat.testBit_two_pow, Bool.or_eq_true, decide_eq_true_eq]
  constructor
  · rintro (h | h)
    · exact .inl h
    · exact .inr h.symm
  · rintro (h | h)
    · exact .inl h
    · exact .inr h.symm
/-- An operation that floats is reckoned ahead. -/
theorem CI.float (hf : RegF n L) (h : CI P n L a0 ρ0 σ0 w0 D A w ρ s) {i : Nat} {o : Oper} (ho : L[i]? = some o) (hi : ¬ SD s i) (hr : ∀ d ∈ depsOf o, SD s d) {v : Value} {σ' : St} {held' : List (Nat × Hd)}
    (hσ : Sim w0 ρ σ' w) (hst : Step ρ0 σ0 ρ σ') (hnx : s.σ.next ≤ σ'.next) (hsub : ∀ x ∈ s.held, x ∈ held') (hnew : ∀ j b e, (j, Hd.made b e) ∈ held' → (j, Hd.made b e) ∈ s.held ∨ (j = i ∧ b = s.σ.next ∧ s.σ.next < σ'.next))
    (hrec : (wantA L s.a o.guard = some false ∧ v = undefA) ∨ (wantA L s.a o.guard = some true ∧ FK P ⟨s.done ||| 2 ^ i, Ev.putA s.a o.dst v, σ', held'⟩ ρ i o s.a v)) :
    CI P n L a0 ρ0 σ0 w0 D A w ρ ⟨s.done ||| 2 ^ i, Ev.putA s.a o.dst v, σ', held'⟩ := by
  have hiD : ¬ D i := fun hd => hi (h.sub i hd)
  have hother : ∀ t k, writerOf t L 0 = some k → k ≠ i → (Ev.putA s.a o.dst v).get t = s.a.get t := by
    intro t k hk hne
    refine putA_other fun e => hne ?_
    have := hf.once i o t ho e
    rw [hk] at this
    injection this
  refine ⟨fun k hk => (sd_or k).2 (.inl (h.sub k hk)), h.dcl, fun k ok hk hok d hd => ?_, fun k ok hk hkD hok => ?_, fun t ht => ?_, fun t k u hw hk hu => ?_, h.tmp0, hσ, hst, h.dfr, h.sz, fun j b e hj => ?_, fun j j' b e e' h1 h2 => ?_⟩
  · rw [sd_or] at hk ⊢
    rcases hk with hk | rfl
    · exact .inl (h.scl k ok hk hok d hd)
    · rw [ho] at hok
      cases hok
      exact .inl (hr d hd)
  · rw [sd_or] at hk
    by_cases hki : k = i
    · subst hki
      rw [ho] at hok
      cases hok
      refine ⟨s.a, (h.now hf ho hi).next fun t k' _ hw hne _ => hother t k' hw hne, ?_⟩
      rcases hrec with ⟨h1, rfl⟩ | ⟨h1, h2⟩
      · exact .inl ⟨h1, fun d hd => by show (Ev.putA s.a o.dst undefA).get d = _; rw [hd]; exact putA_same⟩
      · exact .inr ⟨h1, v, fun d hd => by show (Ev.putA s.a o.dst v).get d = _; rw [hd]; exact putA_same, h2⟩
    · have hkS : SD s k := hk.resolve_right hki
      obtain ⟨ai, g1, g2⟩ := h.pend k ok hkS hkD hok
      have hdst : ∀ d, ok.dst = some d → (Ev.putA s.a o.dst v).get d = s.a.get d := fun d hd => hother d k (hf.once k ok d hok hd) hki
      refine ⟨ai, g1.next fun t k' ht hw hne ha => hother t k' hw fun e => ?_, ?_⟩
      · subst e
        exact hi (anc_closed hf h.scl k hkS ha)
      · rcases g2 with ⟨q1, q2⟩ | ⟨q1, u, q2, q3⟩
        · exact .inl ⟨q1, fun d hd => (hdst d hd).trans (q2 d hd)⟩
        · refine .inr ⟨q1, u, fun d hd => (hdst d hd).trans (q2 d hd), ?_⟩
          cases q3 with
          | calm h => exact .calm h
          | load t x p h1 h2 h3 => exact .load t x p h1 h2 (hsub _ h3)
          | made σi e h1 h2 h3 h4 => exact .made σi e h1 h2 (hsub _ h3) h4
  · have h1 : (Ev.putA s.a o.dst v).get t = s.a.get t := putA_other fun e => ht i (hf.once i o t ho e) ((sd_or i).2 (.inr rfl))
    exact h1.trans (h.init t fun k hk hS => ht k hk ((sd_or k).2 (.inl hS)))
  · have hne : k ≠ i := fun e => hiD (e ▸ hk)
    have hu : (Ev.putA s.a o.dst v).get t = some u := hu
    rw [hother t k hw hne] at hu
    exact h.tmpD t k u hw hk hu
  · rcases hnew j b e hj with h1 | ⟨h1, h2, h3⟩
    · obtain ⟨k1, k2⟩ := h.hd j b e h1
      exact ⟨k1, by show b < σ'.next; omega⟩
    · have := h.st.next
      exact ⟨by omega, by show b < σ'.next; omega⟩
  · rcases hnew _ _ _ h1 with k1 | ⟨k1, k2, k3⟩ <;> rcases hnew _ _ _ h2 with m1 | ⟨m1, m2, m3⟩
    · exact h.hinj _ _ _ _ _ k1 m1
    · have := (h.hd _ _ _ k1).2
      omega
    · have := (h.hd _ _ _ m1).2
      omega
    · rw [k1, m1]
/-- What has been reckoned ahead is done. -/
theorem CI.done (hf : RegF n L) (h : CI P n L a0 ρ0 σ0 w0 D A w ρ s) {i : Nat} {o : Oper} (ho : L[i]? = some o) (hi : ¬ D i) (hS : SD s i) (hr : ∀ d ∈ depsOf o, D d) {w' : World} {ρ' : Pl} {v' : Value} (hs : Sim w0 ρ' s.σ w') (hl : ρ.le ρ') (hst : Step ρ0 σ0 ρ' s.σ)
    (hv : ∀ d, o.dst = some d → ∃ v, s.a.get d = some v ∧ Rel ρ' v v') (hp : ∀ j b e, j ≠ i → (j, Hd.made b e) ∈ s.held → ρ b = none → ρ' b = none) :
    CI P n L a0 ρ0 σ0 w0 (fun k => D k ∨ k = i) (A.put o.dst v') w' ρ' s := by
  have hsz : (A.put o.dst v').tmps.size = A.tmps.size := by cases o.dst <;> simp [Act.put]
  have hget : ∀ t, o.dst ≠ some t → (A.put o.dst v').tmps[t]? = A.tmps[t]? := by
    intro t ht
    cases hd : o.dst with
    | none => rfl
    | some d =>
      rw [hd] at ht
      simp only [Act.put, Array.getElem?_setIfInBounds]
      rw [if_neg (fun e => ht (by rw [e]))]
  refine ⟨fun k hk => hk.elim (h.sub k) fun e => e ▸ hS, fun k ok hk hok d hd => ?_, h.scl, fun k ok hk hkD hok => ?_, h.init, fun t k u hw hk hu => ?_, fun t u ht hu => ?_, hs, hst, ?_, by rw [hsz]; exact h.sz, h.hd, h.hinj⟩
  · rcases hk with hk | rfl
    · exact .inl (h.dcl k ok hk hok d hd)
    · rw [ho] at hok
      cases hok
      exact .inl (hr d hd)
  · have hki : k ≠ i := fun e => hkD (.inr e)
    obtain ⟨ai, g1, g2⟩ := h.pend k ok hk (fun hd => hkD (.inl hd)) hok
    refine ⟨ai, g1, ?_⟩
    rcases g2 with g2 | ⟨q1, u, q2, q3⟩
    · exact .inl g2
    · refine .inr ⟨q1, u, q2, ?_⟩
      cases q3 with
      | calm h => exact .calm h
      | load t x p h1 h2 h3 => exact .load t x p h1 h2 h3
      | made σi e h1 h2 h3 h4 => exact .made σi e h1 h2 h3 (hp k _ e hki h3 h4)
  · by_cases hd : o.dst = some t
    · obtain ⟨v, h1, h2⟩ := hv t hd
      rw [hu] at h1
      injection h1 with h1
      subst h1
      refine ⟨v', ?_, h2⟩
      have hlt : t < A.tmps.size := by
        have := hf.fit i o ho
        rw [hd] at this
        have h4 : (t : Nat) < n := by simpa [fits] using this
        exact Nat.lt_of_lt_of_le h4 h.sz
      rw [hd]
      simp [Act.put, Array.getElem?_setIfInBounds, hlt]
    · have hk' : D k := by
        rcases hk with hk | rfl
        · exact hk
        · exfalso
          obtain ⟨-, o', h1, h2⟩ := writer_get hw
          rw [Nat.sub_zero, ho] at h1
          cases h1
          exact hd h2
      obtain ⟨x, h1, h2⟩ := h.tmpD t k u hw hk' hu
      exact ⟨x, by rw [hget t hd]; exact h1, h2.mono hl⟩
  · have hd : o.dst ≠ some t := fun e => ht i (hf.once i o t ho e) (.inr rfl)
    obtain ⟨x, h1, h2⟩ := h.tmp0 t u (fun k hk hD => ht k hk (.inl hD)) hu
    exact ⟨x, by rw [hget t hd]; exact h1, h2.mono hl⟩
  · cases o.dst <;> exact h.dfr
end
end Ev
end Go.Proofs.YtibhkabmihhjiaaGreatDoor
