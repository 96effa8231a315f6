/-
  Contracts of Only and After (chapter 6), for whatever function values they are handed.
-/
import Derived.Test.YtdiklblnilmpoaaDoorBailB
namespace Go.Proofs.YtdiklblnilmpoaaDoor
open Go.RowKit

theorem onlyd_idle (p q : Addr) (w : World) :
    CallsD Tryd.prog 20 #[.pointer (some p), .pointer (some q)] .returning w fun e u' w' => e = .returned (.tuple #[]) ∧ u' = .returning ∧ w' = w := by
  have hn := eql_nil20
  refine callsD_recover2 Tryd.func20 rfl (by simp [Tryd.ntmps20]) ?_
  simp only [recd, Tryd.ntmps20, List.size_toArray, List.length_cons, List.length_nil, Nat.reduceAdd, Nat.reduceSub, Array.replicate_succ, Array.replicate_zero, List.push_toArray, List.append_toArray, List.nil_append, List.cons_append, List.setIfInBounds_toArray, List.set_cons_zero, List.set_cons_succ]
  go_wp2
  exact bodyPost_ret (results_none rfl _ _ _) rfl ⟨rfl, trivial, rfl⟩
theorem onlyd_other (p q : Addr) (t : Nat) (x : Value) (ht : t ≠ 23) (older : List PanicEntry) (w : World) :
    CallsD Tryd.prog 20 #[.pointer (some p), .pointer (some q)] (.panicking ({ v := .iface t x, recovered := false } :: older)) w fun e u' w' => e = .panicked [{ v := .iface t x, recovered := false }] ∧ u' = (.panicking ({ v := .iface t x, recovered := true } :: older)) ∧ ∃ n, w' = w.drewN n := by
  have hh := as_miss t ht
  have hn := eql_iface20
  clear ht
  refine callsD_recover2 Tryd.func20 rfl (by simp [Tryd.ntmps20]) ?_
  simp only [recd, Tryd.ntmps20, List.size_toArray, List.length_cons, List.length_nil, Nat.reduceAdd, Nat.reduceSub, Array.replicate_succ, Array.replicate_zero, List.push_toArray, List.append_toArray, List.nil_append, List.cons_append, List.setIfInBounds_toArray, List.set_cons_zero, List.set_cons_succ]
  go_wp2
  go_quiet (fail)
  go_wp2
  exact ⟨rfl, rfl, trivial, _, rfl⟩
theorem onlyd_nil (p q : Addr) (older : List PanicEntry) (w : World) :
    CallsD Tryd.prog 20 #[.pointer (some p), .pointer (some q)] (.panicking ({ v := .iface 23 (.pointer none), recovered := false } :: older)) w fun e u' w' => e = .panicked [{ v := .iface 23 (.pointer none), recovered := false }] ∧ u' = (.panicking ({ v := .iface 23 (.pointer none), recovered := true } :: older)) ∧ ∃ n, w' = w.drewN n := by
  have hh := as_hit
  have hn := eql_iface20
  refine callsD_recover2 Tryd.func20 rfl (by simp [Tryd.ntmps20]) ?_
  simp only [recd, Tryd.ntmps20, List.size_toArray, List.length_cons, List.length_nil, Nat.reduceAdd, Nat.reduceSub, Array.replicate_succ, Array.replicate_zero, List.push_toArray, List.append_toArray, List.nil_append, List.cons_append, List.setIfInBounds_toArray, List.set_cons_zero, List.set_cons_succ]
  go_wp2
  go_quiet (fail)
  go_wp2
  exact ⟨rfl, rfl, trivial, _, rfl⟩
theorem onlyd_past (m b : Nat) (q : Addr) (code c : Int) (older : List PanicEntry) (w : World) (hc : w.cell? ⟨m, 0, none⟩ = some (.int .i64 code)) (hb0 : w.cell? ⟨b, 0, none⟩ = some (.int .i64 c)) (hne : (c != code) = true) :
    CallsD Tryd.prog 20 #[.pointer (some ⟨m, 0, none⟩), .pointer (some q)] (.panicking ({ v := .iface 23 (.pointer (some ⟨b, 0, none⟩)), recovered := false } :: older)) w fun e u' w' => e = .panicked [{ v := .iface 23 (.pointer (some ⟨b, 0, none⟩)), recovered := false }] ∧ u' = (.panicking ({ v := .iface 23 (.pointer (some ⟨b, 0, none⟩)), recovered := true } :: older)) ∧ ∃ n, w' = w.drewN n := by
  have hh := as_hit
  have hn := eql_iface20
  refine callsD_recover2 Tryd.func20 rfl (by simp [Tryd.ntmps20]) ?_
  simp only [recd, Tryd.ntmps20, List.size_toArray, List.length_cons, List.length_nil, Nat.reduceAdd, Nat.reduceSub, Array.replicate_succ, Array.replicate_zero, List.push_toArray, List.append_toArray, List.nil_append, List.cons_append, List.setIfInBounds_toArray, List.set_cons_zero, List.set_cons_succ]
  go_wp2
  go_quiet (fail)
  go_wp2
  exact ⟨rfl, rfl, trivial, _, rfl⟩
theorem onlyd_hit (m n b : Nat) (code : Int) (l : Bool) (older : List PanicEntry) (w : World) (hc : w.cell? ⟨m, 0, none⟩ = some (.int .i64 code)) (hb0 : w.cell? ⟨b, 0, none⟩ = some (.int .i64 code)) (hq : w.cell? ⟨n, 0, none⟩ = some (.bool l)) (fq : w.frozen? ⟨n, 0, none⟩ = false) :
    CallsD Tryd.prog 20 #[.pointer (some ⟨m, 0, none⟩), .pointer (some ⟨n, 0, none⟩)] (.panicking ({ v := .iface 23 (.pointer (some ⟨b, 0, none⟩)), recovered := false } :: older)) w fun e u' w' => e = .returned (.tuple #[]) ∧ u' = (.panicking ({ v := .iface 23 (.pointer (some ⟨b, 0, none⟩)), recovered := true } :: older)) ∧ ∃ k, w' = (w.drewN k).setCell ⟨n, 0, none⟩ (.bool true) := by
  have hh := as_hit
  have hn := eql_iface20
  refine callsD_recover2 Tryd.func20 rfl (by simp [Tryd.ntmps20]) ?_
  simp only [recd, Tryd.ntmps20, List.size_toArray, List.length_cons, List.length_nil, Nat.reduceAdd, Nat.reduceSub, Array.replicate_succ, Array.replicate_zero, List.push_toArray, List.append_toArray, List.nil_append, List.cons_append, List.setIfInBounds_toArray, List.set_cons_zero, List.set_cons_succ]
  go_wp2
  go_quiet (fail)
  go_wp2
  go_end0
  exact ⟨rfl, trivial, _, rfl⟩
def OnlyEnd (D : World → Nat → Prop) (code : Int) (w : World) (Φ : Fin → World → Prop) (e : Ending) (w' : World) : Prop :=
  ∃ o w2, Keep D w w2 ∧ Φ o w2 ∧ Aft D w w2 w' ∧ match o with
    | .ret => e = .returned (.bool false)
    | .bail c a => if c = code then e = .returned (.bool true) else Ends D (.bail c a) e w'
    | .other t x => Ends D (.other t x) e w'
theorem only_runs {D : World → Nat → Prop} {fv : Value} {code : Int} {w : World} {Φ : Fin → World → Prop} (hL : Loc D) (hT : There D w)
    (h : ∀ w1, Ext w w1 → Runs D fv w1 Φ) :
    Calls Tryd.prog 10 #[.int .i64 code, fv] w (OnlyEnd D code w Φ) := by
  have hmf := run_mkFunc
  have HL := Lib.hid hL
  have HT := Lib.hid hT
  clear hL hT
  go_enter_defers Tryd.func10, Tryd.ntmps10
  go_wp2_with fail
  have hk0 : Ext w ((w.alloc (Obj.cells #[Value.int IntKind.i64 code] 24)).alloc (Obj.cells #[Value.bool false] 4)) := ((Chg.refl w).alloc _).alloc _
  refine (call_any (h _ hk0)).mono ?_
  rintro e w2 ⟨hk, o, he, hΦ⟩
  obtain ⟨hk2, b0, b1, n0, n1⟩ := two_boxes HL.out HT.out hk
  have c0 := b0.cell
  have c1 := b1.cell
  have f0 := b0.frozen
  have f1 := b1.frozen
  have hone : ∀ n x, Chg (fun k => w.heap.size ≤ k ∧ k < w.heap.size + 2) w2 ((w2.drewN n).setCell ⟨w.heap.size + 1, 0, none⟩ x) := fun n x => ((Chg.refl _).drewN n).setCell _ _ (fun _ => by simp)
  have hs : ∀ k, (w.heap.size ≤ k ∧ k < w.heap.size + 2) → w.heap.size ≤ k ∧ ¬ D w2 k := (two_set HL.out HT.out hk2 n0 n1 undef undef).2.2
  have HO := Lib.hid hone
  have HS := Lib.hid hs
  clear hone hs n0 n1
  cases o with
  | ret =>
    simp only [Ends] at he
    subst he
    have hc0 : Chg (fun k => w.heap.size ≤ k ∧ k < w.heap.size + 2) w2 (w2.setCell ⟨w.heap.size + 1, 0, none⟩ (.bool false)) := (Chg.refl _).setCell _ _ (fun _ => by simp)
    have hfin : OnlyEnd D code w Φ (.returned (.bool false)) (w2.setCell ⟨w.heap.size + 1, 0, none⟩ (.bool false)) :=
      ⟨.ret, w2, hk2, hΦ, ⟨hk2.after HL.out HT.out hc0 HS.out, hc0.mono (fun k _ => HS.out k)⟩, rfl⟩
    clear hc0
    go_wp2
    refine leaves_cons (f := 20) (args := #[.pointer (some ⟨w.heap.size, 0, none⟩), .pointer (some ⟨w.heap.size + 1, 0, none⟩)]) (by simp) (by simp [go_sem]) ?_
    refine (onlyd_idle _ _ _).mono ?_
    rintro e u' w3 ⟨rfl, rfl, rfl⟩
    simp [Leaves, settle, results, Tryd.results10, go_sem, c1]
    exact hfin
  | bail c a =>
    obtain ⟨ch, b, rfl, ⟨older, rfl, hgo⟩, hc, ha, hdb⟩ := he
    simp only [bodyPostD]
    refine leaves_cons (f := 20) (args := #[.pointer (some ⟨w.heap.size, 0, none⟩), .pointer (some ⟨w.heap.size + 1, 0, none⟩)]) (by simp) (by simp [go_sem]) ?_
    by_cases hcc : c = code
    · subst hcc
      refine (onlyd_hit _ _ b c _ older w2 c0 hc c1 f1).mono ?_
      rintro e u' w3 ⟨rfl, rfl, n, rfl⟩
      have hd := drop_all hgo
      have hc2 := HO.out n (.bool true)
      have hfin : OnlyEnd D c w Φ (.returned (.bool true)) ((w2.drewN n).setCell ⟨w.heap.size + 1, 0, none⟩ (.bool true)) :=
        ⟨.bail c a, w2, hk2, hΦ, ⟨hk2.after HL.out HT.out hc2 HS.out, hc2.mono (fun k _ => HS.out k)⟩, by simp⟩
      simp [Leaves, settle, hd, results, Tryd.results10, go_sem, c1]
      exact hfin
    · refine (onlyd_past _ b _ code c older w2 c0 hc (by simpa using hcc)).mono ?_
      rintro e u' w3 ⟨rfl, rfl, n, rfl⟩
      refine ⟨.bail c a, w2, hk2, hΦ, ⟨hk2.after HL.out HT.out ((Chg.refl (S := fun _ => False) _).drewN n) (fun _ h => h.elim), (Chg.refl _).drewN n⟩, ?_⟩
      simp only [if_neg hcc]
      refine ⟨_, b, rfl, ⟨_, rfl, by simpa using hgo⟩, hc, ha, ?_⟩
      exact fun h => hdb (HL.out w2 (w2.drewN n) (fun _ _ => rfl) _ h)
  | other t x =>
    obtain ⟨ch, rfl, ⟨older, rfl, hgo⟩, ho⟩ := he
    simp only [bodyPostD]
    refine leaves_cons (f := 20) (args := #[.pointer (some ⟨w.heap.size, 0, none⟩), .pointer (some ⟨w.heap.size + 1, 0, none⟩)]) (by simp) (by simp [go_sem]) ?_
    have hfin : ∀ n, OnlyEnd D code w Φ (.panicked ([{ v := .iface t x, recovered := false }] ++ { v := .iface t x, recovered := true } :: older)) (w2.drewN n) := fun n =>
      ⟨.other t x, w2, hk2, hΦ, ⟨hk2.after HL.out HT.out ((Chg.refl (S := fun _ => False) _).drewN n) (fun _ h => h.elim), (Chg.refl _).drewN n⟩, _, rfl, ⟨_, rfl, by simpa using hgo⟩, ho⟩
    rcases ho with ho | rfl
    · refine (onlyd_other _ _ t x ho older w2).mono ?_
      rintro e u' w3 ⟨rfl, rfl, n, rfl⟩
      exact hfin n
    · by_cases h35 : t = 23
      · subst h35
        refine (onlyd_nil _ _ older w2).mono ?_
        rintro e u' w3 ⟨rfl, rfl, n, rfl⟩
        exact hfin n
      · refine (onlyd_other _ _ t _ h35 older w2).mono ?_
        rintro e u' w3 ⟨rfl, rfl, n, rfl⟩
        exact hfin n
end Go.Proofs.YtdiklblnilmpoaaDoor
