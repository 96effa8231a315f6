/-
  The reckoner's operations are the machine's.
-/
import Derived.Test.YtibhkabmihhjiaaGreatDoorEC
import Derived.ChangeKeysEq
namespace Go.Proofs.YtibhkabmihhjiaaGreatDoor
open Go Go.RowKit
set_option linter.unusedVariables false
set_option linter.unusedSimpArgs false
namespace Ev
variable {P : Program}
/-- What an operation does, by the reckoner and by the machine. -/
def OpOk (P : Program) (w0 : Base) (ρ : Pl) (σ : St) (w : World) (A : Act) (o : Oper) : OR → Prop
  | .val v σ' => ∃ v' w' ρ', (execOp A.eval o).run P w = .ok (.value v') w' ∧ Sim w0 ρ' σ' w' ∧ Step ρ σ ρ' σ' ∧ Rel ρ' v v'
  | .skip σ' => ∃ w' ρ', (execOp A.eval o).run P w = .ok .skip w' ∧ Sim w0 ρ' σ' w' ∧ Step ρ σ ρ' σ'
  | .call f args => ∃ cargs : Array Value, (∀ fn, P.funcs[f]? = some fn → fn.body.isSome = true → (fn.name == "runtime.NumGoroutine") = false → (execOp A.eval o).run P w = .ok (.enter f cargs) w) ∧ Rels ρ args cargs.toList
  | .pan v => ∃ v', (execOp A.eval o).run P w = .halt (.panic v') w ∧ Rel ρ v v'
theorem run_v {s : Sem Value} {w w' : World} {v : Value} (h : s.run P w = .ok v w') : (Sem.bind s fun v => Sem.pure (Next.value v)).run P w = .ok (.value v) w' := by
  show (s >>= fun v => (Pure.pure (Next.value v) : Sem Next)).run P w = _
  simp [h]
theorem run_u {s : Sem Unit} {w w' : World} (h : s.run P w = .ok () w') : (Sem.bind s fun _ => Sem.pure Next.skip).run P w = .ok .skip w' := by
  show (s >>= fun _ => (Pure.pure Next.skip : Sem Next)).run P w = _
  simp [h]
theorem scal_run {s : Sem Value} {v : Value} (h : scal s = some v) : (∀ w, s.run P w = .ok v w) ∧ scalC v = true := by
  cases s <;> simp [scal] at h
  obtain ⟨h1, rfl⟩ := h
  exact ⟨fun w => rfl, h1⟩
theorem cellsL_eq (v : Value) : cellsL v = v.cells.toList := by cases v <;> rfl
theorem zeroA_spec {t : TypeId} {z : Value} (h : zeroA P t = some z) : ∃ i, P.info? t = some i ∧ i.zero = some z ∧ plainConst z = true := by
  unfold zeroA at h
  split at h
  · cases h
  · next i hi =>
    split at h
    · next z' hz =>
      split at h
      · next hc =>
        injection h with h
        subst h
        exact ⟨i, hi, hz, hc⟩
      · cases h
    · cases h
theorem Rels.self_take {ρ : Pl} {l l' : List Value} (h : Rels ρ l l') : Rels ρ l (l'.take l.length) := by
  rw [h.length, List.take_length]
  exact h
/-- A row of cells of its own. -/
theorem new_cells {w0 : Base} {w : World} {ρ : Pl} {σ : St} (hs : Sim w0 ρ σ w) {vs : List Value} {ca : Array Value} (hr : Rels ρ vs ca.toList) (e : TypeId) :
    ∃ ρ', Sim w0 ρ' (σ.new (.cells vs e 0)) (w.alloc (.cells ca e)) ∧ Step ρ σ ρ' (σ.new (.cells vs e 0)) ∧ ρ' σ.next = some (w.heap.size, 0) ∧ ρ.le ρ' := by
  have hl : ρ.le (fun b => if b = σ.next then some (w.heap.size, 0) else ρ b) := fun b x hx => by
    have := (hs.dom b x.1 x.2 hx).1
    exact (if_neg (by omega)).trans hx
  obtain ⟨h1, h2⟩ := hs.new (.cells vs e 0) 0 (.cells ca e) ⟨ca, (0, 0), rfl, by have := hr.length; simp at this; omega, (hr.mono hl).self_take, Or.inl (Nat.le_refl _), fun h => absurd rfl h⟩
  exact ⟨_, h1, h2, if_pos rfl, hl⟩
section
variable {w0 : Base} {w : World} {ρ : Pl} {σ : St} {n : Nat} {a : Env} {A : Act}
theorem map_some {α β : Type} {f : α → β} {o : Option α} {r : β} (h : o.map f = some r) : ∃ x, o = some x ∧ f x = r := Option.map_eq_some_iff.1 h
theorem s_move (hs : Sim w0 ρ σ w) (ha : ActR ρ n a A) (x : Operand) (o : Oper) (ho : o.op = .move x ∨ o.op = .assign x) {r : OR} (h : (evO a x).map (fun v => OR.val v σ) = some r) : OpOk P w0 ρ σ w A o r := by
  obtain ⟨v, hv, rfl⟩ := map_some h
  refine ⟨A.eval x, w, ρ, ?_, hs, Step.refl ρ σ, evO_rel ha hv⟩
  obtain ⟨dst, op, ty, pos, af, gd⟩ := o
  rcases ho with rfl | rfl <;> rfl
theorem s_pick (hs : Sim w0 ρ σ w) (ha : ActR ρ n a A) (c x y : Operand) (o : Oper) (ho : o.op = .pick c x y) {r : OR} (h : opA P σ a (.pick c x y) = some r) : OpOk P w0 ρ σ w A o r := by
  obtain ⟨dst, op, ty, pos, af, gd⟩ := o
  subst ho
  simp only [opA] at h
  split at h
  · next hc =>
    have hr := evO_rel ha hc
    obtain ⟨v, hv, rfl⟩ := map_some h
    refine ⟨A.eval x, w, ρ, ?_, hs, Step.refl ρ σ, evO_rel ha hv⟩
    generalize hu : A.eval c = u at hr
    cases hr
    simp [execOp, hu, asBool]
  · next hc =>
    have hr := evO_rel ha hc
    obtain ⟨v, hv, rfl⟩ := map_some h
    refine ⟨A.eval y, w, ρ, ?_, hs, Step.refl ρ σ, evO_rel ha hv⟩
    generalize hu : A.eval c = u at hr
    cases hr
    simp [execOp, hu, asBool]
  · cases h
theorem s_alloc (hs : Sim w0 ρ σ w) (ha : ActR ρ n a A) (e : TypeId) (o : Oper) (ho : o.op = .alloc e) {r : OR} (h : opA P σ a (.alloc e) = some r) : OpOk P w0 ρ σ w A o r := by
  obtain ⟨dst, op, ty, pos, af, gd⟩ := o
  subst ho
  simp only [opA] at h
  obtain ⟨z, hz, rfl⟩ := map_some h
  obtain ⟨i, h1, h2, h3⟩ := zeroA_spec hz
  obtain ⟨ρ', k1, k2, k3, k4⟩ := new_cells hs (vs := cellsL z) (ca := z.cells) (Rel.cells (Rel.const ρ h3)) e
  refine ⟨.pointer (some ⟨w.heap.size, 0, none⟩), _, ρ', run_v ?_, k1, k2, .ptr 0 k3⟩
  simp [Instr.alloc, zeroValue, typeInfo, h1, h2, newVar, newRow]
theorem s_box (hs : Sim w0 ρ σ w) (ha : ActR ρ n a A) (e : TypeId) (x : Operand) (o : Oper) (ho : o.op = .box e x) {r : OR} (h : opA P σ a (.box e x) = some r) : OpOk P w0 ρ σ w A o r := by
  obtain ⟨dst, op, ty, pos, af, gd⟩ := o
  subst ho
  simp only [opA] at h
  obtain ⟨v, hv, rfl⟩ := map_some h
  obtain ⟨ρ', k1, k2, k3, k4⟩ := new_cells hs (Rel.cells (evO_rel ha hv)) e
  refine ⟨.pointer (some ⟨w.heap.size, 0, none⟩), _, ρ', run_v ?_, k1, k2, .ptr 0 k3⟩
  simp [Instr.box, newVar, newRow]
theorem s_load (hs : Sim w0 ρ σ w) (ha : ActR ρ n a A) (t : TypeId) (x : Operand) (o : Oper) (ho : o.op = .load t x) {r : OR} (h : opA P σ a (.load t x) = some r) : OpOk P w0 ρ σ w A o r := by
  obtain ⟨dst, op, ty, pos, af, gd⟩ := o
  subst ho
  simp only [opA] at h
  split at h
  · next p hp =>
    obtain ⟨v, hv, rfl⟩ := map_some h
    have hr := evO_rel ha hp
    generalize hu : A.eval x = u at hr
    cases hr with
    | ptr off hb =>
      obtain ⟨v', h1, h2⟩ := loadA_sound hs hb hv
      refine ⟨v', w, ρ, run_v ?_, hs, Step.refl ρ σ, h2⟩
      simp [Instr.loadAt, Instr.sureAddr, hu, h1]
  · cases h
theorem s_store (hs : Sim w0 ρ σ w) (ha : ActR ρ n a A) (t : TypeId) (x y : Operand) (o : Oper) (ho : o.op = .store t x y) {r : OR} (h : opA P σ a (.store t x y) = some r) : OpOk P w0 ρ σ w A o r := by
  obtain ⟨dst, op, ty, pos, af, gd⟩ := o
  subst ho
  simp only [opA] at h
  split at h
  · next p v hp hv =>
    obtain ⟨σ', hst, rfl⟩ := map_some h
    have hr := evO_rel ha hp
    generalize hu : A.eval x = u at hr
    cases hr with
    | ptr off hb =>
      obtain ⟨w', h1, h2, h3⟩ := storeA_sound hs hb hst (evO_rel ha hv)
      refine ⟨w', ρ, run_u ?_, h2, h3⟩
      simp [Instr.storeAt, Instr.sureAddr, hu, h1]
  · cases h
theorem s_nilCheck (hs : Sim w0 ρ σ w) (ha : ActR ρ n a A) (x : Operand) (o : Oper) (ho : o.op = .nilCheck x) {r : OR} (h : opA P σ a (.nilCheck x) = some r) : OpOk P w0 ρ σ w A o r := by
  obtain ⟨dst, op, ty, pos, af, gd⟩ := o
  subst ho
  simp only [opA] at h
  split at h
  · next p hp =>
    injection h with h
    subst h
    have hr := evO_rel ha hp
    generalize hu : A.eval x = u at hr
    refine ⟨u, w, ρ, ?_, hs, Step.refl ρ σ, hr⟩
    cases hr with
    | ptr off hb => simp [execOp, hu]
  · next f fs cs hp =>
    injection h with h
    subst h
    have hr := evO_rel ha hp
    generalize hu : A.eval x = u at hr
    refine ⟨u, w, ρ, ?_, hs, Step.refl ρ σ, hr⟩
    cases hr with
    | func f h1 h2 => simp [execOp, hu]
  · next t v hp =>
    injection h with h
    subst h
    have hr := evO_rel ha hp
    generalize hu : A.eval x = u at hr
    refine ⟨u, w, ρ, ?_, hs, Step.refl ρ σ, hr⟩
    cases hr with
    | iface t h1 => simp [execOp, hu]
  · cases h
theorem s_extract (hs : Sim w0 ρ σ w) (ha : ActR ρ n a A) (x : Operand) (i : Nat) (o : Oper) (ho : o.op = .extract x i) {r : OR} (h : opA P σ a (.extract x i) = some r) : OpOk P w0 ρ σ w A o r := by
  obtain ⟨dst, op, ty, pos, af, gd⟩ := o
  subst ho
  simp only [opA] at h
  split at h
  · next vs hp =>
    obtain ⟨v, hv, rfl⟩ := map_some h
    have hr := evO_rel ha hp
    generalize hu : A.eval x = u at hr
    cases hr with
    | tuple h1 =>
      obtain ⟨v', h2, h3⟩ := h1.get i hv
      refine ⟨v', w, ρ, run_v ?_, hs, Step.refl ρ σ, h3⟩
      rw [Array.getElem?_toList] at h2
      simp [Instr.extract, hu, h2]
  · cases h
theorem s_makeFunc (hs : Sim w0 ρ σ w) (ha : ActR ρ n a A) (fn : Fn) (fs cs : Array Operand) (o : Oper) (ho : o.op = .makeFunc fn fs cs) {r : OR} (h : opA P σ a (.makeFunc fn fs cs) = some r) : OpOk P w0 ρ σ w A o r := by
  obtain ⟨dst, op, ty, pos, af, gd⟩ := o
  subst ho
  simp only [opA] at h
  split at h
  · next f l1 l2 h1 h2 =>
    injection h with h
    subst h
    refine ⟨.func (.func f) (fs.map A.eval) (cs.map A.eval), w, ρ, run_v ?_, hs, Step.refl ρ σ, .func f ?_ ?_⟩
    · simp [Instr.makeFunc]
    · simpa using evOs_rel ha h1
    · simpa using evOs_rel ha h2
  · cases h
theorem s_makeIface (hs : Sim w0 ρ σ w) (ha : ActR ρ n a A) (t : TypeId) (x : Operand) (o : Oper) (ho : o.op = .makeInterface t x) {r : OR} (h : opA P σ a (.makeInterface t x) = some r) : OpOk P w0 ρ σ w A o r := by
  obtain ⟨dst, op, ty, pos, af, gd⟩ := o
  subst ho
  simp only [opA] at h
  split at h
  · cases h
  · next d v hni hd hv =>
    injection h with h
    subst h
    refine ⟨.iface t (A.eval x), w, ρ, run_v ?_, hs, Step.refl ρ σ, .iface t (evO_rel ha hv)⟩
    unfold Instr.makeInterface
    rw [Sem.run_bind, run_underlying hd w]
    cases d <;> first | rfl | (exact absurd rfl (hni _))
  · cases h
theorem s_panic (hs : Sim w0 ρ σ w) (ha : ActR ρ n a A) (x : Operand) (o : Oper) (ho : o.op = .panic x) {r : OR} (h : opA P σ a (.panic x) = some r) : OpOk P w0 ρ σ w A o r := by
  obtain ⟨dst, op, ty, pos, af, gd⟩ := o
  subst ho
  simp only [opA] at h
  split at h
  · next t v hp =>
    injection h with h
    subst h
    have hr := evO_rel ha hp
    refine ⟨A.eval x, ?_, hr⟩
    generalize hu : A.eval x = u at hr
    cases hr with
    | iface t h1 => simp [execOp, hu, Instr.panic, goPanic, Sem.run]
  · cases h
end
end Ev
end Go.Proofs.YtibhkabmihhjiaaGreatDoor
