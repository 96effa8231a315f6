/-
  The walk of the law BailThrough: true, and nothing that was there has turned.
-/
import Derived.Test.YtdiklblnilmpoaaThruA
namespace Go.Proofs.Ytdiklblnilmpoaa
open Go.RowKit
set_option linter.unusedVariables false

def rng (i : Nat) : List Int := (List.range i).map (fun j : Nat => (j : Int))
theorem rng_len (i : Nat) : (rng i).length = i := by simp [rng]
theorem rng_succ (i : Nat) : rng (i + 1) = rng i ++ [(i : Int)] := by simp [rng, List.range_succ]
theorem rng_get (i j : Nat) (h : j < i) : (rng i)[j]? = some (j : Int) := by simp [rng, h]
/-- What the variable 'order' holds. -/
theorem Ord.val {B : Nat} {w : World} {bo : Nat} {l : List Int} (h : Ord B w bo l) : ∃ a c, w.cell? ⟨bo, 0, none⟩ = some (.slice a l.length c) ∧ ∀ j x, l[j]? = some x → ∃ p, a = some p ∧ w.cell? (p.add j) = some (.int .i64 x) := by
  obtain ⟨v, hb, hown, _⟩ := h
  rcases hown.2 with ⟨rfl, h0⟩ | ⟨g, cap, cur, rfl, hrest⟩
  · have : l = [] := List.length_eq_zero_iff.1 h0
    subst this
    exact ⟨none, 0, by simpa using hb.cell, fun j x hj => by simp at hj⟩
  · exact ⟨some ⟨g, 0, none⟩, cap, hb.cell, fun j x hj => ⟨_, rfl, hown.cells rfl j _ (by simp [hj])⟩⟩
structure TSt (W wr : World) (code at_ other : Int) (i b11 g : Nat) (cap : Array Value) : Prop where
  bel : Ext W wr
  h4 : Box wr W.heap.size (.int .i64 code)
  h5 : Box wr (W.heap.size + 1) (.int .i64 at_)
  h7 : Box wr (W.heap.size + 1 + 1) (.int .i64 other)
  h9 : Box wr (W.heap.size + 1 + 1 + 1) (.slice none 0 0)
  h10 : Box wr (W.heap.size + 1 + 1 + 1 + 1) (.func (.func g) #[] cap)
  h11 : Box wr b11 (.int .i64 i)
  le11 : W.heap.size + 1 + 1 + 1 + 1 + 1 ≤ b11
  run : ∀ B w' l, (∀ k, k < wr.heap.size → k ≠ W.heap.size + 1 + 1 + 1 → k ≠ W.heap.size + 1 + 1 + 1 + 1 → k ≠ b11 → w'.heap[k]? = wr.heap[k]?) → wr.heap.size ≤ B → B ≤ w'.heap.size → l.length + i ≤ 1000 →
    Ord B w' (W.heap.size + 1 + 1 + 1) l → Runs (OrdD (W.heap.size + 1 + 1 + 1)) (.func (.func g) #[] cap) w' (fun o w'' => o = .bail code at_ ∧ Ord B w'' (W.heap.size + 1 + 1 + 1) (l ++ rng i))
theorem TSt.start (W : World) (code at_ other : Int) : TSt W ((((((W.alloc (.cells #[.int .i64 code] 3)).alloc (.cells #[.int .i64 at_] 3)).alloc (.cells #[.int .i64 other] 3)).alloc (.cells #[.slice none 0 0] 22)).alloc (.cells #[.func (.func 26) #[] #[.pointer (some ⟨W.heap.size, 0, none⟩), .pointer (some ⟨W.heap.size + 1, 0, none⟩)]] 1)).alloc (.cells #[.int .i64 0] 3)) code at_ other 0 (W.heap.size + 1 + 1 + 1 + 1 + 1) 26 #[.pointer (some ⟨W.heap.size, 0, none⟩), .pointer (some ⟨W.heap.size + 1, 0, none⟩)] := by
  generalize hc1 : (Obj.cells #[.int .i64 code] 3 : Obj) = c1
  generalize hc2 : (Obj.cells #[.int .i64 at_] 3 : Obj) = c2
  generalize hc3 : (Obj.cells #[.int .i64 other] 3 : Obj) = c3
  generalize hc4 : (Obj.cells #[.slice none 0 0] 22 : Obj) = c4
  generalize hc5 : (Obj.cells #[.func (.func 26) #[] #[.pointer (some ⟨W.heap.size, 0, none⟩), .pointer (some ⟨W.heap.size + 1, 0, none⟩)]] 1 : Obj) = c5
  generalize hc6 : (Obj.cells #[.int .i64 0] 3 : Obj) = c6
  have z : ∀ (w : World) (o : Obj), (w.alloc o).heap.size = w.heap.size + 1 := World.size_alloc
  have k1 : Box ((((((W.alloc c1).alloc c2).alloc c3).alloc c4).alloc c5).alloc c6) W.heap.size (.int .i64 code) := by
    subst hc1
    exact (Box.new (w := W) _ _).chg (S := fun _ => False) ((((((Chg.refl _).alloc _).alloc _).alloc _).alloc _).alloc _) (fun h => h)
  have k2 : Box ((((((W.alloc c1).alloc c2).alloc c3).alloc c4).alloc c5).alloc c6) (W.heap.size + 1) (.int .i64 at_) := by
    subst hc2
    have := (Box.new (w := W.alloc c1) (.int .i64 at_) 3).chg (S := fun _ => False) (((((Chg.refl _).alloc c3).alloc c4).alloc c5).alloc c6) (fun h => h)
    simpa only [z] using this
  have k3 : Box ((((((W.alloc c1).alloc c2).alloc c3).alloc c4).alloc c5).alloc c6) (W.heap.size + 1 + 1) (.int .i64 other) := by
    subst hc3
    have := (Box.new (w := (W.alloc c1).alloc c2) (.int .i64 other) 3).chg (S := fun _ => False) ((((Chg.refl _).alloc c4).alloc c5).alloc c6) (fun h => h)
    simpa only [z] using this
  have k4 : Box ((((((W.alloc c1).alloc c2).alloc c3).alloc c4).alloc c5).alloc c6) (W.heap.size + 1 + 1 + 1) (.slice none 0 0) := by
    subst hc4
    have := (Box.new (w := ((W.alloc c1).alloc c2).alloc c3) (.slice none 0 0) 22).chg (S := fun _ => False) (((Chg.refl _).alloc c5).alloc c6) (fun h => h)
    simpa only [z] using this
  have k5 : Box ((((((W.alloc c1).alloc c2).alloc c3).alloc c4).alloc c5).alloc c6) (W.heap.size + 1 + 1 + 1 + 1) (.func (.func 26) #[] #[.pointer (some ⟨W.heap.size, 0, none⟩), .pointer (some ⟨W.heap.size + 1, 0, none⟩)]) := by
    subst hc5
    have := (Box.new (w := (((W.alloc c1).alloc c2).alloc c3).alloc c4) (.func (.func 26) #[] #[.pointer (some ⟨W.heap.size, 0, none⟩), .pointer (some ⟨W.heap.size + 1, 0, none⟩)]) 1).chg (S := fun _ => False) ((Chg.refl _).alloc c6) (fun h => h)
    simpa only [z] using this
  have k6 : Box ((((((W.alloc c1).alloc c2).alloc c3).alloc c4).alloc c5).alloc c6) (W.heap.size + 1 + 1 + 1 + 1 + 1) (.int .i64 0) := by
    subst hc6
    have := (Box.new (w := ((((W.alloc c1).alloc c2).alloc c3).alloc c4).alloc c5) (.int .i64 0) 3)
    simpa only [z] using this
  have e : Ext W ((((((W.alloc c1).alloc c2).alloc c3).alloc c4).alloc c5).alloc c6) := ((((((Chg.refl W).alloc _).alloc _).alloc _).alloc _).alloc _).alloc _
  refine ⟨e, k1, k2, k3, k4, k5, k6, Nat.le_refl _, fun B w' l hag hB1 hB2 _ ho => ?_⟩
  have hl1 := k1.lt
  have hl2 := k2.lt
  simpa [rng] using thru1_runs B _ _ _ code at_ l w' ho (k1.of (hag _ hl1 (by omega) (by omega) (by omega))) (k2.of (hag _ hl2 (by omega) (by omega) (by omega)))
theorem TSt.step {W wr w1 : World} {code at_ other : Int} {i b11 g b12 b11' : Nat} {cap : Array Value} (h : TSt W wr code at_ other i b11 g cap)
    (hc : Chg (fun k => k = W.heap.size + 1 + 1 + 1 + 1) wr w1) (hb12 : wr.heap.size ≤ b12) (hb11 : wr.heap.size ≤ b11') (hne : b12 ≠ b11')
    (k12 : Box w1 b12 (.func (.func g) #[] cap)) (k11 : Box w1 b11' (.int .i64 (↑i + 1)))
    (k10 : Box w1 (W.heap.size + 1 + 1 + 1 + 1) (.func (.func 27) #[] #[.pointer (some ⟨b12, 0, none⟩), .pointer (some ⟨W.heap.size + 1 + 1 + 1, 0, none⟩), .pointer (some ⟨b11, 0, none⟩)])) :
    TSt W w1 code at_ other (i + 1) b11' 27 #[.pointer (some ⟨b12, 0, none⟩), .pointer (some ⟨W.heap.size + 1 + 1 + 1, 0, none⟩), .pointer (some ⟨b11, 0, none⟩)] := by
  have l10 := h.h10.lt
  have l11 := h.h11.lt
  have l11' := h.le11
  have hs := hc.size
  have l12 := k12.lt
  refine ⟨⟨hc.os.trans h.bel.os, hc.tape.trans h.bel.tape, hc.output.trans h.bel.output, by have := h.bel.size; omega, fun k hk _ => (hc.block k (by omega) (by omega)).trans (h.bel.block k hk (fun h => h))⟩,
    h.h4.chg hc (by omega), h.h5.chg hc (by omega), h.h7.chg hc (by omega), h.h9.chg hc (by omega), k10, k11, by omega, fun B w' l hag hB1 hB2 hl ho => ?_⟩
  have hag0 : ∀ k, k < wr.heap.size → k ≠ W.heap.size + 1 + 1 + 1 → k ≠ W.heap.size + 1 + 1 + 1 + 1 → k ≠ b11 → w'.heap[k]? = wr.heap[k]? := fun k h1 h2 h3 h4 =>
    (hag k (by omega) h2 h3 (by omega)).trans (hc.block k h1 h3)
  have r0 := h.run B w' l hag0 (by omega) hB2 (by omega) ho
  have b12' := k12.of (hag b12 l12 (by omega) (by omega) hne)
  have kb11 := (h.h11.chg hc (by omega)).of (hag b11 (by omega) (by omega) (by omega) (by omega))
  have r1 := thru2_runs B _ b12 b11 code at_ i _ l (l ++ rng i) w' ho b12' kb11 hB2 (by omega) (by omega) (by simp [rng_len]; omega) r0
  rw [rng_succ, ← List.append_assoc]
  exact r1
theorem TSt.step2 {W wr : World} {code at_ other : Int} {i b11 g : Nat} {cap : Array Value} (h : TSt W wr code at_ other i b11 g cap) (t u : Nat) :
    TSt W (((wr.setCell ⟨W.heap.size + 1 + 1 + 1 + 1, 0, none⟩ (.func (.func 27) #[] #[.pointer (some ⟨wr.heap.size, 0, none⟩), .pointer (some ⟨W.heap.size + 1 + 1 + 1, 0, none⟩), .pointer (some ⟨b11, 0, none⟩)])).alloc (.cells #[.func (.func g) #[] cap] t)).alloc (.cells #[.int .i64 (↑i + 1)] u)) code at_ other (i + 1) (wr.heap.size + 1) 27 #[.pointer (some ⟨wr.heap.size, 0, none⟩), .pointer (some ⟨W.heap.size + 1 + 1 + 1, 0, none⟩), .pointer (some ⟨b11, 0, none⟩)] := by
  have z : ∀ (w : World) (o : Obj), (w.alloc o).heap.size = w.heap.size + 1 := World.size_alloc
  obtain ⟨w0, hw0⟩ : ∃ w0, wr.setCell ⟨W.heap.size + 1 + 1 + 1 + 1, 0, none⟩ (.func (.func 27) #[] #[.pointer (some ⟨wr.heap.size, 0, none⟩), .pointer (some ⟨W.heap.size + 1 + 1 + 1, 0, none⟩), .pointer (some ⟨b11, 0, none⟩)]) = w0 := ⟨_, rfl⟩
  have hs : w0.heap.size = wr.heap.size := by subst hw0; simp [World.setCell]
  have k10 := h.h10.set (.func (.func 27) #[] #[.pointer (some ⟨wr.heap.size, 0, none⟩), .pointer (some ⟨W.heap.size + 1 + 1 + 1, 0, none⟩), .pointer (some ⟨b11, 0, none⟩)])
  have hc : Chg (fun k => k = W.heap.size + 1 + 1 + 1 + 1) wr w0 := by subst hw0; exact (Chg.refl _).setCell _ _ (fun _ => rfl)
  rw [hw0] at k10 ⊢
  have k12 := (Box.new (w := w0) (.func (.func g) #[] cap) t).chg (S := fun _ => False) ((Chg.refl _).alloc (.cells #[.int .i64 (↑i + 1)] u)) (fun h => h)
  have k11 := Box.new (w := w0.alloc (.cells #[.func (.func g) #[] cap] t)) (.int .i64 (↑i + 1)) u
  rw [z, hs] at k11
  rw [hs] at k12
  exact h.step ((hc.alloc _).alloc _) (Nat.le_refl _) (Nat.le_succ _) (by omega) k12 k11 (k10.chg (S := fun _ => False) (((Chg.refl _).alloc _).alloc _) (fun h => h))
end Go.Proofs.Ytdiklblnilmpoaa
