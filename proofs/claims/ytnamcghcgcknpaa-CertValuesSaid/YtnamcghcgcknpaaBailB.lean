/-
  Contracts of Out, Catch, Only, After, Safe (chapter 6), for whatever function values they are handed.
-/
import Derived.Test.YtnamcghcgcknpaaBailA
namespace Go.Proofs.Ytnamcghcgcknpaa
open Go.RowKit

theorem out_any (c a : Int) (w : World) :
    Calls Try.prog 63 #[.int .i64 c, .int .i64 a] w fun e w' => e = .panicked [{ v := .iface 82 (.pointer (some ⟨w.heap.size, 0, none⟩)), recovered := false }] ∧ w' = w.alloc (.cells #[.int .i64 c, .int .i64 a] 84) := by
  go_enter Try.func63, Try.ntmps63
  go_wp2
  exact ⟨rfl, rfl, rfl⟩
/-- What Out leaves with, in the words of 'Ends'. -/
theorem out_ends {D : World → Nat → Prop} (c a : Int) (w : World) (hl : Loc D) (ht : There D w) :
    Keep D w (w.alloc (.cells #[.int .i64 c, .int .i64 a] 84)) ∧ Ends D (.bail c a) (.panicked [{ v := .iface 82 (.pointer (some ⟨w.heap.size, 0, none⟩)), recovered := false }]) (w.alloc (.cells #[.int .i64 c, .int .i64 a] 84)) := by
  have hk : Keep D w (w.alloc (.cells #[.int .i64 c, .int .i64 a] 84)) := Keep.of_ext hl ht ((Chg.refl w).alloc _)
  refine ⟨hk, _, w.heap.size, rfl, Thrown.one _, ?_, ?_, ?_⟩
  · simp [go_sem]
  · simp [go_sem]
  · intro h
    exact absurd (ht _ (hl w _ (fun k hk => Below.heap_alloc _ _ _ (ht k hk)) _ h)) (Nat.lt_irrefl _)
theorem out_fin {D : World → Nat → Prop} (c a : Int) (w : World) (hl : Loc D) (ht : There D w) :
    Calls Try.prog 63 #[.int .i64 c, .int .i64 a] w fun e w' => Keep D w w' ∧ Ends D (.bail c a) e w' ∧ Ext w w' :=
  (out_any c a w).mono (by rintro e w' ⟨rfl, rfl⟩; exact ⟨(out_ends c a w hl ht).1, (out_ends c a w hl ht).2, (Chg.refl w).alloc _⟩)

/-! ### Catch -/

theorem catchd_idle (p q : Addr) (w : World) :
    CallsD Try.prog 41 #[.pointer (some p), .pointer (some q)] .returning w fun e u' w' => e = .returned (.tuple #[]) ∧ u' = .returning ∧ w' = w := by
  have hn := eql_nil20
  refine callsD_recover Try.func41 rfl ?_
  simp only [recd, Try.ntmps41, List.size_toArray, List.length_cons, List.length_nil, Nat.reduceAdd, Nat.reduceSub, Array.replicate_succ, Array.replicate_zero, List.push_toArray, List.append_toArray, List.nil_append, List.cons_append, List.setIfInBounds_toArray, List.set_cons_zero, List.set_cons_succ]
  go_wp2
  go_end0
  exact ⟨rfl, trivial, rfl⟩
theorem catchd_nil (p q : Addr) (older : List PanicEntry) (w : World) :
    CallsD Try.prog 41 #[.pointer (some p), .pointer (some q)] (.panicking ({ v := .iface 82 (.pointer none), recovered := false } :: older)) w fun e u' w' => e = .panicked [{ v := .iface 82 (.pointer none), recovered := false }] ∧ u' = (.panicking ({ v := .iface 82 (.pointer none), recovered := true } :: older)) ∧ w' = w := by
  have hh := as_hit
  refine callsD_recover Try.func41 rfl ?_
  simp only [recd, Try.ntmps41, List.size_toArray, List.length_cons, List.length_nil, Nat.reduceAdd, Nat.reduceSub, Array.replicate_succ, Array.replicate_zero, List.push_toArray, List.append_toArray, List.nil_append, List.cons_append, List.setIfInBounds_toArray, List.set_cons_zero, List.set_cons_succ]
  go_wp2
  exact ⟨rfl, rfl, trivial, rfl⟩
theorem catchd_other (p q : Addr) (t : Nat) (x : Value) (ht : t ≠ 82) (older : List PanicEntry) (w : World) :
    CallsD Try.prog 41 #[.pointer (some p), .pointer (some q)] (.panicking ({ v := .iface t x, recovered := false } :: older)) w fun e u' w' => e = .panicked [{ v := .iface t x, recovered := false }] ∧ u' = (.panicking ({ v := .iface t x, recovered := true } :: older)) ∧ w' = w := by
  have hh := as_miss t ht
  clear ht
  refine callsD_recover Try.func41 rfl ?_
  simp only [recd, Try.ntmps41, List.size_toArray, List.length_cons, List.length_nil, Nat.reduceAdd, Nat.reduceSub, Array.replicate_succ, Array.replicate_zero, List.push_toArray, List.append_toArray, List.nil_append, List.cons_append, List.setIfInBounds_toArray, List.set_cons_zero, List.set_cons_succ]
  go_wp2
  exact ⟨rfl, rfl, trivial, rfl⟩
theorem catchd_bail (m n b : Nat) (c a p0 q0 : Int) (older : List PanicEntry) (w : World) (hb0 : w.cell? ⟨b, 0, none⟩ = some (.int .i64 c)) (hb1 : w.cell? ⟨b, 1, none⟩ = some (.int .i64 a))
   (hp : w.cell? ⟨m, 0, none⟩ = some (.int .i64 p0)) (hq : w.cell? ⟨n, 0, none⟩ = some (.int .i64 q0)) (fp : w.frozen? ⟨m, 0, none⟩ = false) (fq : w.frozen? ⟨n, 0, none⟩ = false) (hmn : ¬ m = n) :
    CallsD Try.prog 41 #[.pointer (some ⟨m, 0, none⟩), .pointer (some ⟨n, 0, none⟩)] (.panicking ({ v := .iface 82 (.pointer (some ⟨b, 0, none⟩)), recovered := false } :: older)) w fun e u' w' => e = .returned (.tuple #[]) ∧ u' = (.panicking ({ v := .iface 82 (.pointer (some ⟨b, 0, none⟩)), recovered := true } :: older)) ∧ w' = ((w.setCell ⟨m, 0, none⟩ (.int .i64 c)).setCell ⟨n, 0, none⟩ (.int .i64 a)).drew := by
  have hh := as_hit
  refine callsD_recover Try.func41 rfl ?_
  simp only [recd, Try.ntmps41, List.size_toArray, List.length_cons, List.length_nil, Nat.reduceAdd, Nat.reduceSub, Array.replicate_succ, Array.replicate_zero, List.push_toArray, List.append_toArray, List.nil_append, List.cons_append, List.setIfInBounds_toArray, List.set_cons_zero, List.set_cons_succ]
  go_wp2
  go_region
  go_end0
  exact ⟨rfl, trivial, rfl⟩

/-- Behind a callee's run (it ended in w2): the state stands as the callee left it; of the other blocks at most the call's own two have turned. -/
def Aft (D : World → Nat → Prop) (w w2 w' : World) : Prop := Keep D w w' ∧ Chg (fun k => w.heap.size ≤ k ∧ k < w.heap.size + 2) w2 w'
theorem Aft.same {D : World → Nat → Prop} {w w2 : World} (h : Keep D w w2) : Aft D w w2 w2 := ⟨h, Chg.refl _⟩
def CatchEnd (D : World → Nat → Prop) (w : World) (Φ : Fin → World → Prop) (e : Ending) (w' : World) : Prop :=
  ∃ o w2, Keep D w w2 ∧ Φ o w2 ∧ Aft D w w2 w' ∧ match o with
    | .ret => e = .returned (.tuple #[.int .i64 0, .int .i64 0])
    | .bail c a => e = .returned (.tuple #[.int .i64 c, .int .i64 a])
    | .other t x => Ends D (.other t x) e w'
theorem catch_runs {D : World → Nat → Prop} {fv : Value} {w : World} {Φ : Fin → World → Prop} (hL : Loc D) (hT : There D w)
    (h : ∀ w1, Ext w w1 → w1.heap.size = w.heap.size + 2 → Runs D fv w1 Φ) :
    Calls Try.prog 19 #[fv] w (CatchEnd D w Φ) := by
  have hmf := run_mkFunc
  have HL := Lib.hid hL
  have HT := Lib.hid hT
  clear hL hT
  go_enter_defers Try.func19, Try.ntmps19
  go_wp2_with fail
  have hk0 : Ext w ((w.alloc (Obj.cells #[Value.int IntKind.i64 0] 34)).alloc (Obj.cells #[Value.int IntKind.i64 0] 3)) := ((Chg.refl w).alloc _).alloc _
  refine (call_any (h _ hk0 (by simp))).mono ?_
  rintro e w2 ⟨hk, o, he, hΦ⟩
  obtain ⟨hk2, b0, b1, n0, n1⟩ := two_boxes HL.out HT.out hk
  have c0 := b0.cell
  have c1 := b1.cell
  have f0 := b0.frozen
  have f1 := b1.frozen
  cases o with
  | ret =>
    simp only [Ends] at he
    subst he
    have h2 := two_set HL.out HT.out hk2 n0 n1 (.int .i64 0) (.int .i64 0)
    have hfin : CatchEnd D w Φ (.returned (.tuple #[.int .i64 0, .int .i64 0])) ((w2.setCell ⟨w.heap.size, 0, none⟩ (.int .i64 0)).setCell ⟨w.heap.size + 1, 0, none⟩ (.int .i64 0)) :=
      ⟨.ret, w2, hk2, hΦ, ⟨h2.2.1, h2.1⟩, rfl⟩
    clear h2 n0 n1
    go_wp2
    refine leaves_cons (f := 41) (args := #[.pointer (some ⟨w.heap.size, 0, none⟩), .pointer (some ⟨w.heap.size + 1, 0, none⟩)]) (by simp) (by simp [go_sem]) ?_
    refine (catchd_idle _ _ _).mono ?_
    rintro e u' w3 ⟨rfl, rfl, rfl⟩
    simp [Leaves, settle, results, Try.results19, go_sem, c0, c1]
    exact hfin
  | bail c a =>
    obtain ⟨ch, b, rfl, ⟨older, rfl, hgo⟩, hc, ha, hdb⟩ := he
    simp only [bodyPostD]
    refine leaves_cons (f := 41) (args := #[.pointer (some ⟨w.heap.size, 0, none⟩), .pointer (some ⟨w.heap.size + 1, 0, none⟩)]) (by simp) (by simp [go_sem]) ?_
    refine (catchd_bail _ _ b c a _ _ older w2 hc ha c0 c1 f0 f1 (by omega)).mono ?_
    rintro e u' w3 ⟨rfl, rfl, rfl⟩
    have hd := drop_all hgo
    have h2 := two_set HL.out HT.out hk2 n0 n1 (.int .i64 c) (.int .i64 a)
    have hc2 := h2.1.drew
    simp [Leaves, settle, hd, results, Try.results19, go_sem, c0, c1]
    exact ⟨.bail c a, w2, hk2, hΦ, ⟨hk2.after HL.out HT.out hc2 h2.2.2, hc2⟩, rfl⟩
  | other t x =>
    obtain ⟨ch, rfl, ⟨older, rfl, hgo⟩, ho⟩ := he
    simp only [bodyPostD]
    refine leaves_cons (f := 41) (args := #[.pointer (some ⟨w.heap.size, 0, none⟩), .pointer (some ⟨w.heap.size + 1, 0, none⟩)]) (by simp) (by simp [go_sem]) ?_
    have hfin : CatchEnd D w Φ (.panicked ([{ v := .iface t x, recovered := false }] ++ { v := .iface t x, recovered := true } :: older)) w2 :=
      ⟨.other t x, w2, hk2, hΦ, Aft.same hk2, _, rfl, ⟨_, rfl, by simpa using hgo⟩, ho⟩
    rcases ho with ho | rfl
    · refine (catchd_other _ _ t x ho older w2).mono ?_
      rintro e u' w3 ⟨rfl, rfl, rfl⟩
      exact hfin
    · by_cases h35 : t = 82
      · subst h35
        refine (catchd_nil _ _ older w2).mono ?_
        rintro e u' w3 ⟨rfl, rfl, rfl⟩
        exact hfin
      · refine (catchd_other _ _ t _ h35 older w2).mono ?_
        rintro e u' w3 ⟨rfl, rfl, rfl⟩
        exact hfin
end Go.Proofs.Ytnamcghcgcknpaa
