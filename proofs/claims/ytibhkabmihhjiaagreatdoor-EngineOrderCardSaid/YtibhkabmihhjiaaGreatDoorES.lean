/-
  bail.Catch, as the reckoner does it: the function that it is handed is called; what it left with is told.
-/
import Derived.Test.YtibhkabmihhjiaaGreatDoorEM
namespace Go.Proofs.YtibhkabmihhjiaaGreatDoor
open Go Go.RowKit
set_option linter.unusedVariables false
set_option linter.unusedSimpArgs false
namespace Ev
variable {P : Program}
theorem run_enter {P : Program} {f : FuncId} {fn : Func} {c : Code} (hf : P.funcs[f]? = some fn) (hname : (fn.name == "runtime.NumGoroutine") = false) (hb : fn.body = some c) (args : Array Value) (w : World) :
    (callFunc f args).run P w = .ok (.enter f args) w := by
  have h1 : fn.name ≠ "runtime.NumGoroutine" := by simpa using hname
  simp [callFunc, hf, h1, hb]
/-- A function that has a body: a call of it enters it. -/
def Ent (P : Program) (g : Nat) : Prop := ∀ (args : Array Value) (w : World), (callFunc g args).run P w = .ok (.enter g args) w
/-- A result of a call that hands nothing back. -/
def Void (R : Ending → World → Prop) : Ending → World → Prop
  | .returned _, w => R (.returned (.tuple #[])) w
  | .panicked c, w => R (.panicked c) w
  | .outgrown, w => R .outgrown w
/-- Catch, whatever it is handed: two boxes are made; behind the call they are written. -/
def CatchGen (P : Program) (fC tB tE tI : Nat) : Prop := ∀ (g : Nat) (cap : Array Value) (w : World) (R : Ending → World → Prop), Ent P g →
    Calls P g cap ((w.alloc (Obj.cells #[Value.int IntKind.i64 0] tE)).alloc (Obj.cells #[Value.int IntKind.i64 0] tI)) (Void fun e w2 => ∃ p0 q0 : Int,
      w2.cell? ⟨w.heap.size, 0, none⟩ = some (.int .i64 p0) ∧ w2.cell? ⟨w.heap.size + 1, 0, none⟩ = some (.int .i64 q0) ∧ w2.frozen? ⟨w.heap.size, 0, none⟩ = false ∧ w2.frozen? ⟨w.heap.size + 1, 0, none⟩ = false ∧
      ((e = .returned (.tuple #[]) ∧ R (.returned (.tuple #[.int .i64 0, .int .i64 0])) ((w2.setCell ⟨w.heap.size, 0, none⟩ (.int .i64 0)).setCell ⟨w.heap.size + 1, 0, none⟩ (.int .i64 0))) ∨
        ∃ (b : Nat) (c a : Int), e = .panicked [{ v := .iface tB (.pointer (some ⟨b, 0, none⟩)), recovered := false }] ∧ w2.cell? ⟨b, 0, none⟩ = some (.int .i64 c) ∧ w2.cell? ⟨b, 1, none⟩ = some (.int .i64 a) ∧
          R (.returned (.tuple #[.int .i64 c, .int .i64 a])) (((w2.setCell ⟨w.heap.size, 0, none⟩ (.int .i64 c)).setCell ⟨w.heap.size + 1, 0, none⟩ (.int .i64 a)).drew))) →
    Calls P fC #[.func (.func g) #[] cap] w R
/-! ### The hook -/
noncomputable def catchEnd (b0 b1 : Nat) (σ : St) (c a : Int) : Rs (FR × St) :=
  match σ.heap.get b0 with
  | some (.cells [.int .i64 _] e0 0) => match σ.heap.get b1 with
    | some (.cells [.int .i64 _] e1 0) => .ok (.ret (.tuple #[.int .i64 c, .int .i64 a]), (σ.put b0 (.cells [.int .i64 c] e0 0)).put b1 (.cells [.int .i64 a] e1 0))
    | _ => .no [7101]
  | _ => .no [7102]
noncomputable def catchRes (tB b0 b1 : Nat) : Rs (FR × St) → Rs (FR × St)
  | .no ws => .no (7100 :: ws)
  | .ok (.ret _, σ) => catchEnd b0 b1 σ 0 0
  | .ok (.pan v, σ) => match v with
    | .iface t (.pointer (some ⟨b, 0, none⟩)) => match Nat.beq t tB with
      | true => match σ.heap.get b with
        | some (.cells [.int .i64 c, .int .i64 a] _ _) => catchEnd b0 b1 σ c a
        | _ => .no [7103]
      | false => .no [7104]
    | _ => .no [7105]
noncomputable def catchH (fC tB tE tI : Nat) : Hook := fun call f args σ =>
  match Nat.beq f fC with
  | false => none
  | true => match args with
    | [.func (.func g) ⟨[]⟩ ⟨cap⟩] => some (catchRes tB σ.next (σ.next + 1) (call g cap ((σ.new (.cells [.int .i64 0] tE 0)).new (.cells [.int .i64 0] tI 0))))
    | _ => some (.no [7107])
theorem box_at {w0 : Base} {w : World} {ρ : Pl} {σ : St} (h : Sim w0 ρ σ w) {b c k : Nat} (hb : ρ b = some (c, k)) {vs : List Value} {e g : Nat} (hg : σ.heap.get b = some (.cells vs e g)) : ∃ ca fz, w.heap[c]? = some (.cells ca e fz) ∧ vs.length ≤ ca.size ∧ Rels ρ vs (ca.toList.take vs.length) ∧ Thawed fz ca.size ∧ (g ≠ 0 → ca.size = k * g) := by
  have := h.ob b c k hb
  rw [hg] at this
  exact this
theorem ints_at {w0 : Base} {w : World} {ρ : Pl} {σ : St} (h : Sim w0 ρ σ w) {b c k : Nat} (hb : ρ b = some (c, k)) {x y : Int} {e g : Nat} (hg : σ.heap.get b = some (.cells [.int .i64 x, .int .i64 y] e g)) : w.cell? ⟨c, 0, none⟩ = some (.int .i64 x) ∧ w.cell? ⟨c, 1, none⟩ = some (.int .i64 y) := by
  obtain ⟨ca, fz, h1, h2, h3, -, -⟩ := box_at h hb hg
  obtain ⟨l⟩ := ca
  match l, h2, h3 with
  | u :: v :: l, _, h3 =>
    simp at h3
    cases h3 with
    | cons hx h4 =>
      cases h4 with
      | cons hy _ =>
        cases hx
        cases hy
        simp [World.cell?, h1]
theorem int_at {w0 : Base} {w : World} {ρ : Pl} {σ : St} (h : Sim w0 ρ σ w) {b c k : Nat} (hb : ρ b = some (c, k)) {x : Int} {e g : Nat} (hg : σ.heap.get b = some (.cells [.int .i64 x] e g)) : w.cell? ⟨c, 0, none⟩ = some (.int .i64 x) ∧ w.frozen? ⟨c, 0, none⟩ = false := by
  obtain ⟨ca, fz, h1, h2, h3, h4, -⟩ := box_at h hb hg
  obtain ⟨l⟩ := ca
  match l, h2, h3, h4 with
  | u :: l, _, h3, h4 =>
    simp at h3
    cases h3 with
    | cons hx _ =>
      cases hx
      refine ⟨by simp [World.cell?, h1], ?_⟩
      simp only [World.frozen?, h1, Thawed] at h4 ⊢
      simp at h4 ⊢
      omega
theorem int_set {w0 : Base} {w : World} {ρ : Pl} {σ : St} (h : Sim w0 ρ σ w) {b c k : Nat} (hb : ρ b = some (c, k)) {x : Int} {e : Nat} (hg : σ.heap.get b = some (.cells [.int .i64 x] e 0)) (y : Int) :
    Sim w0 ρ (σ.put b (.cells [.int .i64 y] e 0)) (w.setCell ⟨c, 0, none⟩ (.int .i64 y)) ∧ Step ρ σ ρ (σ.put b (.cells [.int .i64 y] e 0)) := by
  obtain ⟨ca, fz, h1, h2, h3, h4, -⟩ := box_at h hb hg
  refine h.put hb _ ⟨_, hg, by simp⟩ ((Chg.refl w).setCell _ _ fun _ => rfl) ?_
  refine ⟨ca.setIfInBounds 0 (.int .i64 y), fz, ?_, by simpa using h2, ?_, by simpa using h4, fun hn => absurd rfl hn⟩
  · simp [World.setCell, Array.getElem?_modify, h1]
  · obtain ⟨l⟩ := ca
    match l, h2 with
    | u :: l, _ => simp; exact .cons (.int _ _) .nil
theorem catchEnd_ok {w0 : Base} {w : World} {ρ : Pl} {σ : St} (h : Sim w0 ρ σ w) {b0 b1 c0 c1 k0 k1 : Nat} (h0 : ρ b0 = some (c0, k0)) (h1 : ρ b1 = some (c1, k1)) (hne : b0 ≠ b1) {c a : Int} {fr : FR} {σ' : St} (he : catchEnd b0 b1 σ c a = .ok (fr, σ')) :
    ∃ p0 q0 : Int, w.cell? ⟨c0, 0, none⟩ = some (.int .i64 p0) ∧ w.cell? ⟨c1, 0, none⟩ = some (.int .i64 q0) ∧ w.frozen? ⟨c0, 0, none⟩ = false ∧ w.frozen? ⟨c1, 0, none⟩ = false ∧
      fr = .ret (.tuple #[.int .i64 c, .int .i64 a]) ∧ Sim w0 ρ σ' ((w.setCell ⟨c0, 0, none⟩ (.int .i64 c)).setCell ⟨c1, 0, none⟩ (.int .i64 a)) ∧ Step ρ σ ρ σ' := by
  unfold catchEnd at he
  split at he
  · next p0 e0 g0 =>
    split at he
    · next q0 e1 g1 =>
      simp only [Rs.ok.injEq, Prod.mk.injEq] at he
      obtain ⟨rfl, rfl⟩ := he
      obtain ⟨a1, a2⟩ := int_at h h0 g0
      obtain ⟨a3, a4⟩ := int_at h h1 g1
      obtain ⟨s1, t1⟩ := int_set h h0 g0 c
      have g1' : (σ.put b0 (.cells [.int .i64 c] e0 0)).heap.get b1 = some (.cells [.int .i64 q0] e1 0) := (Tr.get_other _ _ hne.symm).trans g1
      obtain ⟨s2, t2⟩ := int_set s1 h1 g1' a
      exact ⟨_, _, a1, a3, a2, a4, rfl, s2, t1.trans t2⟩
    · cases he
  · cases he
theorem catch_ok {fC tB tE tI : Nat} (hgen : CatchGen P fC tB tE tI) (hf : ∃ fn, P.funcs[fC]? = some fn ∧ fn.body.isSome = true) : HookOk P (catchH fC tB tE tI) := by
  intro call hg f args σ fr σ' h
  unfold catchH at h
  split at h
  · cases h
  · next hfe =>
    have hfe : f = fC := Nat.eq_of_beq_eq_true hfe
    subst hfe
    refine ⟨hf, ?_⟩
    split at h
    · next g cap =>
      simp only [Option.some.injEq] at h
      intro w0 ρ w cargs hs hr
      obtain ⟨cl⟩ := cargs
      cases hr with
      | cons h1 h2 =>
      cases h2
      cases h1 with
      | @func _ _ _ l1 l2 hr1 hr2 =>
      obtain ⟨l1⟩ := l1
      cases hr1
      obtain ⟨s1, t1⟩ := hs.new (.cells [.int .i64 0] tE 0) 0 (.cells #[.int .i64 0] tE) ⟨_, (0, 0), rfl, by simp, .cons (.int _ _) .nil, .inl (Nat.le_refl _), fun hn => absurd rfl hn⟩
      obtain ⟨s2, t2⟩ := s1.new (.cells [.int .i64 0] tI 0) 0 (.cells #[.int .i64 0] tI) ⟨_, (0, 0), rfl, by simp, .cons (.int _ _) .nil, .inl (Nat.le_refl _), fun hn => absurd rfl hn⟩
      generalize hc : call g cap ((σ.new (.cells [.int .i64 0] tE 0)).new (.cells [.int .i64 0] tI 0)) = r at h
      cases r with
      | no ws => cases h
      | ok p =>
        obtain ⟨fr2, σ3⟩ := p
        obtain ⟨⟨fn, f1, f2, f3⟩, hcalls⟩ := hg g cap _ fr2 σ3 hc
        have hent : Ent P g := by
          intro args w
          cases hb : fn.body with
          | none => rw [hb] at f2; cases f2
          | some c => exact run_enter f1 f3 hb args w
        refine hgen g l2 w _ hent ?_
        refine (hcalls w0 _ _ l2 s2 (hr2.mono (t1.le hs |>.trans (t2.le s1)))).mono ?_
        rintro e w3 ⟨ρ3, k1, k2, k3⟩
        have t3 := (t1.trans t2).trans k2
        have m0 : ρ3 σ.next = some (w.heap.size, 0) := by
          rw [k2.pl _ (by show σ.next < σ.next + 1 + 1; omega)]
          show (if σ.next = σ.next + 1 then _ else (if σ.next = σ.next then some (w.heap.size, 0) else ρ σ.next)) = _
          rw [if_neg (by omega), if_pos rfl]
        have m1 : ρ3 (σ.next + 1) = some (w.heap.size + 1, 0) := by
          rw [k2.pl _ (by show σ.next + 1 < σ.next + 1 + 1; omega)]
          show (if σ.next + 1 = σ.next + 1 then some ((w.alloc _).heap.size, 0) else _) = _
          rw [if_pos rfl, World.size_alloc]
        cases fr2 with
        | ret v =>
          obtain ⟨v', rfl, -⟩ := k3
          obtain ⟨p0, q0, a1, a2, a3, a4, rfl, s4, t4⟩ := catchEnd_ok k1 m0 m1 (by omega) h
          exact ⟨p0, q0, a1, a2, a3, a4, .inl ⟨rfl, ρ3, s4, t3.trans t4, _, rfl, .tuple (.cons (.int _ _) (.cons (.int _ _) .nil))⟩⟩
        | pan v =>
          obtain ⟨v', rfl, hv⟩ := k3
          simp only [catchRes] at h
          split at h
          · next t b =>
            split at h
            · next ht =>
              have ht := Nat.eq_of_beq_eq_true ht
              subst ht
              split at h
              · next c a e g hb =>
                cases hv with
                | iface _ hv =>
                cases hv with
                | ptr _ hbp =>
                obtain ⟨b1, b2⟩ := ints_at k1 hbp hb
                obtain ⟨p0, q0, a1, a2, a3, a4, rfl, s4, t4⟩ := catchEnd_ok k1 m0 m1 (by omega) h
                exact ⟨p0, q0, a1, a2, a3, a4, .inr ⟨_, c, a, rfl, b1, b2, ρ3, s4.drew, t3.trans t4, _, rfl, .tuple (.cons (.int _ _) (.cons (.int _ _) .nil))⟩⟩
              · cases h
            · cases h
          · cases h
    · simp only [Option.some.injEq] at h
      cases h
end Ev
end Go.Proofs.YtibhkabmihhjiaaGreatDoor
