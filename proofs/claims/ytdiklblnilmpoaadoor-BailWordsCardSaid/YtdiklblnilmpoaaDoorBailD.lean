/-
  Contracts of After and Safe (chapter 6), for whatever function values they are handed.
-/
import Derived.Test.YtdiklblnilmpoaaDoorBailC
namespace Go.Proofs.YtdiklblnilmpoaaDoor
open Go.RowKit

/-- A deferred 'call(then)', by what 'then' does. -/
theorem callD_any {fv : Value} {w : World} {u : FrameMode} {R : Ending → World → Prop} (h : Does fv w R) : CallsD Tryd.prog 17 #[fv] u w fun e u' w' => u' = u ∧ R e w' := by
  rcases h with ⟨rfl, h⟩ | ⟨g, cap, rfl, hg, h⟩
  · have hq := neq_nil
    go_enter_d Tryd.func17, Tryd.ntmps17
    go_wp2
    go_end0
    exact h
  · have hq := run_neq_func Tryd.underlying1 g #[] cap
    have hg' := fun a w => hg a w
    go_enter_d Tryd.func17, Tryd.ntmps17
    go_wp2_with fail
    refine h.mono ?_
    rintro e w' hR
    cases e with
    | returned v =>
      go_wp2_with fail
      go_end0
      exact hR
    | panicked c => exact ⟨rfl, hR⟩
    | outgrown => exact ⟨⟨#[], []⟩, w', hR⟩
theorem goexit_append {a b : List PanicEntry} {v : Value} (ha : ∀ x ∈ a, x.goexit = false) (hb : ∀ x ∈ b, x.goexit = false) : ∀ x ∈ a ++ { v, recovered := false, goexit := false } :: b, x.goexit = false := by
  intro x hx
  rcases List.mem_append.1 hx with hx | hx
  · exact ha x hx
  · rcases List.mem_cons.1 hx with rfl | hx
    · rfl
    · exact hb x hx
def AfterEnd (D : World → Nat → Prop) (w : World) (Ψ : Fin → Fin → World → Prop) (e : Ending) (w' : World) : Prop :=
  Keep D w w' ∧ ∃ o o', Ψ o o' w' ∧ match o' with
    | .ret => Ends D o e w'
    | .bail c a => Ends D (.bail c a) e w'
    | .other t x => Ends D (.other t x) e w'
theorem Ends.keep {D : World → Nat → Prop} {o : Fin} {e : Ending} {w w' : World} (h : Ends D o e w) (k : Keep D w w') : Ends D o e w' := by
  cases o with
  | ret => exact h
  | other t x => exact h
  | bail c a =>
    obtain ⟨ch, b, he, ht, h0, h1, hd⟩ := h
    have hb := k.block b (lt_of_cell (p := ⟨b, 0, none⟩) h0) hd
    exact ⟨ch, b, he, ht, by rw [← h0]; exact World.cell?_of_block hb, by rw [← h1]; exact World.cell?_of_block hb, fun h => hd (k.steal b (lt_of_cell (p := ⟨b, 0, none⟩) h0) h)⟩
theorem after_runs {D : World → Nat → Prop} {fv tv : Value} {w : World} {Φ : Fin → World → Prop} {Ψ : Fin → Fin → World → Prop}
    (h : Runs D fv w Φ) (h2 : ∀ o w2, Keep D w w2 → Φ o w2 → Runs D tv w2 (Ψ o)) :
    Calls Tryd.prog 7 #[fv, tv] w (AfterEnd D w Ψ) := by
  have H2 := Lib.hid h2
  clear h2
  have hent : ∀ args w, (callFunc 17 args).run Tryd.prog w = .ok (.enter 17 args) w := fun args w => run_enter Tryd.func17 rfl rfl args w
  go_enter_defers Tryd.func7, Tryd.ntmps7
  go_wp2_with fail
  refine (call_any h).mono ?_
  rintro e w2 ⟨hk, o, he, hΦ⟩
  have hr2 := Lib.hid (H2.out o w2 hk hΦ)
  clear H2
  cases o with
  | ret =>
    simp only [Ends] at he
    subst he
    go_wp2
    refine leaves_cons (f := 17) (args := #[tv]) (by simp) (by simp [go_sem]) ?_
    refine (callD_any hr2.out).mono ?_
    rintro e u' w3 ⟨rfl, hk3, o', he', hΨ⟩
    cases o' with
    | ret =>
      simp only [Ends] at he'
      subst he'
      simp [Leaves, settle, results, Tryd.results7, go_sem]
      exact ⟨hk.trans hk3, .ret, .ret, hΨ, rfl⟩
    | bail c a =>
      obtain ⟨ch, b, rfl, rest⟩ := he'
      exact ⟨hk.trans hk3, .ret, .bail c a, hΨ, ch, b, rfl, rest⟩
    | other t x =>
      obtain ⟨ch, rfl, rest⟩ := he'
      exact ⟨hk.trans hk3, .ret, .other t x, hΨ, ch, rfl, rest⟩
  | bail c a =>
    have he0 := he
    obtain ⟨ch, b, rfl, ⟨older, rfl, hgo⟩, hc, ha, hdb⟩ := he
    simp only [bodyPostD]
    refine leaves_cons (f := 17) (args := #[tv]) (by simp) (by simp [go_sem]) ?_
    refine (callD_any hr2.out).mono ?_
    rintro e u' w3 ⟨rfl, hk3, o', he', hΨ⟩
    cases o' with
    | ret =>
      simp only [Ends] at he'
      subst he'
      simp only [settle, Leaves]
      exact ⟨hk.trans hk3, .bail c a, .ret, hΨ, he0.keep hk3⟩
    | bail c' a' =>
      obtain ⟨ch, b', rfl, ⟨older', rfl, hgo'⟩, rest⟩ := he'
      exact ⟨hk.trans hk3, .bail c a, .bail c' a', hΨ, _, b', rfl, ⟨_, rfl, goexit_append hgo' hgo⟩, rest⟩
    | other t x =>
      obtain ⟨ch, rfl, ⟨older', rfl, hgo'⟩, rest⟩ := he'
      exact ⟨hk.trans hk3, .bail c a, .other t x, hΨ, _, rfl, ⟨_, rfl, goexit_append hgo' hgo⟩, rest⟩
  | other t x =>
    have he0 := he
    obtain ⟨ch, rfl, ⟨older, rfl, hgo⟩, ho⟩ := he
    simp only [bodyPostD]
    refine leaves_cons (f := 17) (args := #[tv]) (by simp) (by simp [go_sem]) ?_
    refine (callD_any hr2.out).mono ?_
    rintro e u' w3 ⟨rfl, hk3, o', he', hΨ⟩
    cases o' with
    | ret =>
      simp only [Ends] at he'
      subst he'
      simp only [settle, Leaves]
      exact ⟨hk.trans hk3, .other t x, .ret, hΨ, he0⟩
    | bail c' a' =>
      obtain ⟨ch, b', rfl, ⟨older', rfl, hgo'⟩, rest⟩ := he'
      exact ⟨hk.trans hk3, .other t x, .bail c' a', hΨ, _, b', rfl, ⟨_, rfl, goexit_append hgo' hgo⟩, rest⟩
    | other t' x' =>
      obtain ⟨ch, rfl, ⟨older', rfl, hgo'⟩, rest⟩ := he'
      exact ⟨hk.trans hk3, .other t x, .other t' x', hΨ, _, rfl, ⟨_, rfl, goexit_append hgo' hgo⟩, rest⟩

/-! ### Safe -/

theorem safed_idle (m : Nat) (q : Addr) (w : World) (hm : w.cell? ⟨m, 0, none⟩ = some (.bool true)) :
    CallsD Tryd.prog 18 #[.pointer (some ⟨m, 0, none⟩), .pointer (some q)] .returning w fun e u' w' => e = .returned (.tuple #[]) ∧ u' = .returning ∧ w' = w := by
  refine (callsD_of_wp (R := fun e w' => e = .returned (.tuple #[]) ∧ w' = w) Tryd.func18 rfl ?_).mono (fun e u' w' ⟨h1, h2, h3⟩ => ⟨h2, h1, h3⟩)
  simp only [Tryd.ntmps18, List.size_toArray, List.length_cons, List.length_nil, Nat.reduceAdd, Nat.reduceSub, Array.replicate_succ, Array.replicate_zero, List.push_toArray, List.append_toArray, List.nil_append, List.cons_append]
  go_wp2
  go_end0
  exact ⟨rfl, rfl⟩
theorem safed_hit (m n : Nat) (v x : Value) (older : List PanicEntry) (w : World) (hm : w.cell? ⟨m, 0, none⟩ = some (.bool false)) (hn : w.cell? ⟨n, 0, none⟩ = some x) (fn : w.frozen? ⟨n, 0, none⟩ = false) (t : Nat) (y : Value) (hv : v = .iface t y) :
    CallsD Tryd.prog 18 #[.pointer (some ⟨m, 0, none⟩), .pointer (some ⟨n, 0, none⟩)] (.panicking ({ v, recovered := false } :: older)) w fun e u' w' => e = .returned (.tuple #[]) ∧ u' = (.panicking ({ v, recovered := true } :: older)) ∧ w' = w.setCell ⟨n, 0, none⟩ v := by
  subst hv
  refine callsD_of_wpS Tryd.func18 rfl fun c₀ cs hu => ?_
  apply wpS_seq
  apply wpS_region
  simp [wpOpsS, go_sem, hm, Tryd.ntmps18, Exit.thenS, List.range_succ]
  refine wpS_cond (t := true) (by simp [Act.eval, Array.replicate]) ?_
  simp only [if_true]
  apply wpS_region
  simp [wpOpsS, go_sem, recoverD, hu, hn, fn, bodyPostS, results, Tryd.results18, List.range_succ]
def SafeEnd (D : World → Nat → Prop) (w : World) (Φ : Fin → World → Prop) (e : Ending) (w' : World) : Prop :=
  ∃ o w2, Keep D w w2 ∧ Φ o w2 ∧ Aft D w w2 w' ∧ match o with
    | .ret => e = .returned (.tuple #[.nilIface, .bool true])
    | .bail c a => ∃ b, e = .returned (.tuple #[.iface 23 (.pointer (some ⟨b, 0, none⟩)), .bool false]) ∧ w'.cell? ⟨b, 0, none⟩ = some (.int .i64 c) ∧ w'.cell? ⟨b, 1, none⟩ = some (.int .i64 a) ∧ ¬ D w' b
    | .other t x => e = .returned (.tuple #[.iface t x, .bool false]) ∧ Odd t x
theorem safe_runs {D : World → Nat → Prop} {fv : Value} {w : World} {Φ : Fin → World → Prop} (hL : Loc D) (hT : There D w)
    (h : ∀ w1, Ext w w1 → Runs D fv w1 Φ) :
    Calls Tryd.prog 6 #[fv] w (SafeEnd D w Φ) := by
  have hmf := run_mkFunc
  have HL := Lib.hid hL
  have HT := Lib.hid hT
  clear hL hT
  go_enter_defers Tryd.func6, Tryd.ntmps6
  go_wp2_with fail
  have hk0 : Ext w ((w.alloc (Obj.cells #[Value.nilIface] 20)).alloc (Obj.cells #[Value.bool false] 4)) := ((Chg.refl w).alloc _).alloc _
  refine (call_any (h _ hk0)).mono ?_
  rintro e w2 ⟨hk, o, he, hΦ⟩
  obtain ⟨hk2, b0, b1, n0, n1⟩ := two_boxes HL.out HT.out hk
  have c0 := b0.cell
  have c1 := b1.cell
  have f0 := b0.frozen
  have f1 := b1.frozen
  have hone : ∀ x, Chg (fun k => w.heap.size ≤ k ∧ k < w.heap.size + 2) w2 (w2.setCell ⟨w.heap.size, 0, none⟩ x) := fun x => (Chg.refl _).setCell _ _ (fun _ => by simp)
  have hs : ∀ k, (w.heap.size ≤ k ∧ k < w.heap.size + 2) → w.heap.size ≤ k ∧ ¬ D w2 k := (two_set HL.out HT.out hk2 n0 n1 undef undef).2.2
  have HO := Lib.hid hone
  have HS := Lib.hid hs
  clear hone hs
  cases o with
  | ret =>
    simp only [Ends] at he
    subst he
    have h2 := two_set HL.out HT.out hk2 n0 n1 .nilIface (.bool true)
    have hfin : SafeEnd D w Φ (.returned (.tuple #[.nilIface, .bool true])) ((w2.setCell ⟨w.heap.size, 0, none⟩ .nilIface).setCell ⟨w.heap.size + 1, 0, none⟩ (.bool true)) :=
      ⟨.ret, w2, hk2, hΦ, ⟨h2.2.1, h2.1.mono (fun k _ => h2.2.2 k)⟩, rfl⟩
    clear h2 n0 n1
    go_wp2
    refine leaves_cons (f := 18) (args := #[.pointer (some ⟨w.heap.size + 1, 0, none⟩), .pointer (some ⟨w.heap.size, 0, none⟩)]) (by simp) (by simp [go_sem]) ?_
    refine (safed_idle _ _ _ (by simp [go_sem, c1])).mono ?_
    rintro e u' w3 ⟨rfl, rfl, rfl⟩
    simp [Leaves, settle, results, Tryd.results6, go_sem, c0, c1]
    exact hfin
  | bail c a =>
    obtain ⟨ch, b, rfl, ⟨older, rfl, hgo⟩, hc, ha, hdb⟩ := he
    have hbn : ¬ b = w.heap.size := by rintro rfl; rw [b0.cell1] at ha; cases ha
    simp only [bodyPostD]
    refine leaves_cons (f := 18) (args := #[.pointer (some ⟨w.heap.size + 1, 0, none⟩), .pointer (some ⟨w.heap.size, 0, none⟩)]) (by simp) (by simp [go_sem]) ?_
    refine (safed_hit _ _ _ _ older w2 c1 c0 f0 _ _ rfl).mono ?_
    rintro e u' w3 ⟨rfl, rfl, rfl⟩
    have hd := drop_all hgo
    have hc2 := HO.out (.iface 23 (.pointer (some ⟨b, 0, none⟩)))
    have hfin : SafeEnd D w Φ (.returned (.tuple #[.iface 23 (.pointer (some ⟨b, 0, none⟩)), .bool false])) (w2.setCell ⟨w.heap.size, 0, none⟩ (.iface 23 (.pointer (some ⟨b, 0, none⟩)))) :=
      ⟨.bail c a, w2, hk2, hΦ, ⟨hk2.after HL.out HT.out hc2 HS.out, hc2.mono (fun k _ => HS.out k)⟩, b, rfl,
        (World.cell?_of_block (Below.heap_setCell _ _ _ _ hbn)).trans hc, (World.cell?_of_block (Below.heap_setCell _ _ _ _ hbn)).trans ha,
        fun h => hdb (HL.out w2 _ (fun k hk => Below.heap_setCell _ _ _ _ (by rintro rfl; exact n0 hk)) _ h)⟩
    simp [Leaves, settle, hd, results, Tryd.results6, go_sem, c0, c1]
    exact hfin
  | other t x =>
    obtain ⟨ch, rfl, ⟨older, rfl, hgo⟩, ho⟩ := he
    simp only [bodyPostD]
    refine leaves_cons (f := 18) (args := #[.pointer (some ⟨w.heap.size + 1, 0, none⟩), .pointer (some ⟨w.heap.size, 0, none⟩)]) (by simp) (by simp [go_sem]) ?_
    refine (safed_hit _ _ _ _ older w2 c1 c0 f0 _ _ rfl).mono ?_
    rintro e u' w3 ⟨rfl, rfl, rfl⟩
    have hd := drop_all hgo
    have hc2 := HO.out (.iface t x)
    have hfin : SafeEnd D w Φ (.returned (.tuple #[.iface t x, .bool false])) (w2.setCell ⟨w.heap.size, 0, none⟩ (.iface t x)) :=
      ⟨.other t x, w2, hk2, hΦ, ⟨hk2.after HL.out HT.out hc2 HS.out, hc2.mono (fun k _ => HS.out k)⟩, rfl, ho⟩
    simp [Leaves, settle, hd, results, Tryd.results6, go_sem, c0, c1]
    exact hfin
end Go.Proofs.YtdiklblnilmpoaaDoor
