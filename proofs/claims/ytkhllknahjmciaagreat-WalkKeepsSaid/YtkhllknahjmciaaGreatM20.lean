/-
  No weights (chapter 14): each token is worth 1. What a path is worth (chapter 18), where nothing is weighed: its semiring, its weights. What a path is worth (chapter 18), where nothing is weighed: it is opened. The empty path (chapter 9): it is its own plain one.
-/
import Derived.Test.YtkhllknahjmciaaGreatM19
import Derived.RangeFuncBox
import Derived.RangeFuncLeaves
import Derived.OwnWalkIn
import Derived.TacticsInMore
import Derived.LoopNIn
import Derived.LoopIn
import Derived.Shelf.Abstract
import Derived.Test.YtkhllknahjmciaaGreatM16
import Derived.Test.YtkhllknahjmciaaGreatM05
/-! No weights (chapter 14): each token is worth 1. -/
namespace Go.Proofs.YtkhllknahjmciaaGreat
open Go.RowKit
set_option linter.unusedVariables false
set_option linter.unusedSimpArgs false


attribute [local go_sem] Oper.semAt_some
set_option maxRecDepth 100000 in
set_option maxHeartbeats 1000000 in
theorem backward_any (a : Option Addr) (n c : Nat) (w : World) : Calls Tryz.prog 149 #[.slice a n c] w fun e w' => e = .returned (.func (.func 211) #[] #[.pointer (some ⟨w.heap.size, 0, none⟩)]) ∧ w' = w.alloc (.cells #[.slice a n c] 29) := by
  go_enter Tryz.func149, Tryz.ntmps149
  go_wp2_with fail
  go_ret
  exact ⟨rfl, rfl⟩
set_option maxRecDepth 100000 in
set_option maxHeartbeats 1000000 in
theorem back0 (l Bs : Nat) (W : World) (hBs : W.cell? ⟨Bs, 0, none⟩ = some (.slice none 0 0)) :
    Calls Tryz.prog 211 #[.func (.yield l) #[] #[], .pointer (some ⟨Bs, 0, none⟩)] W fun e W' => (∃ v, e = .returned v) ∧ W' = W := by
  go_enter Tryz.func211, Tryz.ntmps211
  go_wp2_with fail
  go_loopg [3] 0 (fun g t3 wr => g = 0 ∧ t3 = .int .i64 (-1) ∧ wr = W)
  case atStart => exact ⟨rfl, rfl, rfl⟩
  case round =>
    obtain ⟨rfl, rfl, rfl⟩ := hrel
    go_wp2_with fail
    go_end0
    exact ⟨⟨_, rfl⟩, rfl⟩
theorem ext_of_below {w W : World} (h : Below w.heap.size w W) : Ext w W := ⟨h.os, h.tape, h.output, h.size, fun k hk _ => h.block k hk⟩
/-- What nothing hands out is never asked for. -/
theorem back_stops (n Bs : Nat) (w : World) (hB : Bs < w.heap.size) (hc : w.cell? ⟨Bs, 0, none⟩ = some (.slice none 0 0)) (Kp : World → World → Prop) :
    SeqStopsK Fence.wide n Tryz.prog 211 #[.pointer (some ⟨Bs, 0, none⟩)] (fun x : Empty => x.elim) Kp (fun ys => ys = []) (fun _ => False) 0 w := fun l J Jx W hW _ _ _ h0 => by
  have hc' := (hW.cell (p := ⟨Bs, 0, none⟩) hB).trans hc
  refine (callsIn_wide.2 (back0 l Bs W hc')).mono ?_
  rintro e W' ⟨he, rfl⟩
  exact ⟨he, .inl ⟨[], rfl, h0⟩⟩
set_option maxRecDepth 100000 in
set_option maxHeartbeats 1000000 in
theorem weigh0 (s : Int) (hs : s = 2 ∨ s = 3) (tok : Int) (w : World) : Calls Tryz.prog 98 #[.slice none 0 0, .int .i64 s, .int .i64 tok] w (BvPost s true w) := by
  have HO := Lib.hid (fun W => one_any s hs W)
  have hsf := run_store_f
  clear hs
  have hF1 : Fence.wide.fn 143 := trivial
  have hF2 : Fence.wide.fn 149 := trivial
  refine (callsIn_wide (n := 3)).1 ?_
  refine callsIn_of_wp_marks Tryz.func98 rfl trivial ?_ rfl
  simp only [Tryz.ntmps98, List.size_toArray, List.length_cons, List.length_nil, Nat.reduceAdd, Nat.reduceSub, Array.replicate_succ, Array.replicate_zero, List.push_toArray, List.append_toArray, List.nil_append, List.cons_append]
  gi_wp2_with (gi_at_call 143; refine (callsIn_wide.2 (HO.out _)).mono ?_; rintro e w2 ⟨cs, rfl, ⟨i2, a2, c2, l2, rfl, hc2, hok2⟩, hx2⟩; unfold V5)
  gi_wp2_with (gi_at_call 149; refine (callsIn_wide.2 (backward_any _ _ _ _)).mono ?_; rintro e w3 ⟨rfl, h3⟩)
  subst h3
  have hxc : Ext w (((w2.alloc (.cells #[.int .i64 s, .bool i2, .slice a2 0 c2, .int .i64 l2, .float .f64 0] 38)).alloc (.cells #[.slice none 0 0] 29))) := ((((((Chg.refl w).alloc _).alloc _).alloc _).trans hx2).alloc _).alloc _
  have kA := (Blk.new w2 #[.int .i64 s, .bool i2, .slice a2 0 c2, .int .i64 l2, .float .f64 0] 38).chg ((Chg.refl (S := fun _ => False) _).alloc (.cells #[.slice none 0 0] 29)) (fun h => h)
  have kc : ((w2.alloc (.cells #[.int .i64 s, .bool i2, .slice a2 0 c2, .int .i64 l2, .float .f64 0] 38)).alloc (.cells #[.slice none 0 0] 29)).cell? ⟨w2.heap.size + 1, 0, none⟩ = some (.slice none 0 0) := by
    have := (Boxed.new (w2.alloc (.cells #[.int .i64 s, .bool i2, .slice a2 0 c2, .int .i64 l2, .float .f64 0] 38)) 29 (.slice none 0 0)).cell
    rwa [World.size_alloc] at this
  have kB := (Blk.new ((w.alloc (.cells #[.int .i64 s] 3)).alloc (.cells #[.int .i64 tok] 3)) #[.int .i64 0, .bool false, .slice none 0 0, .int .i64 0, .float .f64 0] 38).chg ((hx2.alloc (.cells #[.int .i64 s, .bool i2, .slice a2 0 c2, .int .i64 l2, .float .f64 0] 38)).alloc (.cells #[.slice none 0 0] 29)) (fun h => h)
  simp only [World.size_alloc] at kB
  have hszB : w2.heap.size + 1 < ((w2.alloc (.cells #[.int .i64 s, .bool i2, .slice a2 0 c2, .int .i64 l2, .float .f64 0] 38)).alloc (.cells #[.slice none 0 0] 29)).heap.size := by simp
  generalize (w2.alloc (.cells #[.int .i64 s, .bool i2, .slice a2 0 c2, .int .i64 l2, .float .f64 0] 38)).alloc (.cells #[.slice none 0 0] 29) = W3 at *
  refine wpIn_rangeFunc_ownG rfl (by omega) (gf := 211) (lb := #[.pointer (some ⟨w2.heap.size + 1, 0, none⟩)]) rfl trivial (Go.Proofs.enters_of Tryz.func211 (by kernel_rfl) rfl)
    (back_stops 2 (w2.heap.size + 1) W3 hszB kc (fun _ _ => True)) (fun _ _ => trivial) (fun _ _ _ _ _ _ _ _ => trivial) (Below.refl _ _) (fun x => x.elim)
    (fun _ W => Below W3.heap.size W3 W) (fun _ _ _ => False) (ownFrom_below (Nat.le_refl _) (Nat.le_refl _)) (fun _ _ _ _ _ hs _ _ => hs) (Below.refl _ _) (fun x => x.elim) (fun _ x => x.elim) (fun _ _ x => x.elim) ?done (fun _ _ _ _ _ h => h.elim)
  case done =>
    rintro D ys W hD rfl hB hK
    have hxd := ext_of_below hB
    have kA' := kA.chg hxd (fun h => h)
    have kB' := kB.chg hxd (fun h => h)
    obtain ⟨v0, -, v1, -, v2, -, v3, -, v4, -⟩ := blk5_base kA'
    obtain ⟨g0, f0, g1, f1, g2, f2, g3, f3, g4, f4⟩ := blk5_base kB'
    obtain ⟨y3, z3, y4, z4, q0, q1, q2, q3, q4⟩ := blk5_facts kB' (.int .i64 s) (.bool i2) (.slice a2 0 c2) (.int .i64 l2) (.float .f64 0)
    have HX := Lib.hid (hxc.trans hxd)
    have HOk := Lib.hid (And.intro hc2 hok2)
    gi_wp2
    have hp : w.heap.size + 1 + 1 < W3.heap.size := kB.lt
    have hset := set_chg (p := w.heap.size + 1 + 1) (j := 4) (c := .float .f64 0) (set_chg (p := w.heap.size + 1 + 1) (j := 3) (c := .int .i64 l2) (set_chg (p := w.heap.size + 1 + 1) (j := 2) (c := .slice a2 0 c2) (set_chg (p := w.heap.size + 1 + 1) (j := 1) (c := .bool i2) (set_chg (p := w.heap.size + 1 + 1) (j := 0) (c := .int .i64 s) (Chg.refl W)))))
    have hKs := (hset.block D (Array.getElem?_eq_some_iff.1 hK).1 (by omega)).trans hK
    have kS := (blk5_step kB' (.int .i64 s) (.bool i2) (.slice a2 0 c2) (.int .i64 l2) (.float .f64 0)).2.2.2.2.2
    have hxs := (((((HX.out.setCell ⟨w.heap.size + 1 + 1, 0, none⟩ (.int .i64 s) (by simp <;> omega)).setCell ⟨w.heap.size + 1 + 1, 1, none⟩ (.bool i2) (by simp <;> omega)).setCell ⟨w.heap.size + 1 + 1, 2, none⟩ (.slice a2 0 c2) (by simp <;> omega)).setCell ⟨w.heap.size + 1 + 1, 3, none⟩ (.int .i64 l2) (by simp <;> omega)).setCell ⟨w.heap.size + 1 + 1, 4, none⟩ (.float .f64 0) (by simp <;> omega))
    generalize ((((W.setCell ⟨w.heap.size + 1 + 1, 0, none⟩ (.int .i64 s)).setCell ⟨w.heap.size + 1 + 1, 1, none⟩ (.bool i2)).setCell ⟨w.heap.size + 1 + 1, 2, none⟩ (.slice a2 0 c2)).setCell ⟨w.heap.size + 1 + 1, 3, none⟩ (.int .i64 l2)).setCell ⟨w.heap.size + 1 + 1, 4, none⟩ (.float .f64 0) = Wn at *
    have hput : Chg (fun k => k = D) Wn (Wn.putObj D (.deferred none)) := (Chg.of_grown (grownBy_putObj' Wn D (.deferred none))).mono fun k _ h => by simpa using h
    have kF := kS.chg hput (by omega)
    obtain ⟨r0, -, r1, -, r2, -, r3, -, r4, -⟩ := blk5_base kF
    have HE := Lib.hid (Ext.put hxs hput (by have := HX.out.size; have := hxc.size; omega))
    refine ⟨by simp, .inl ⟨_, _, rfl, run_takeDeferred hKs, ?_⟩⟩
    refine ⟨_, by simp [results, Tryz.results98, go_sem, r0, r1, r2, r3, r4]; try rfl, ⟨V5 s i2 a2 c2 l2, rfl, ⟨_, _, _, _, rfl, HOk.out.1, HOk.out.2⟩, HE.out⟩⟩
set_option maxRecDepth 100000 in
set_option maxHeartbeats 1000000 in
theorem check0 (s : Int) (hs : s = 2 ∨ s = 3) (w : World) : Calls Tryz.prog 97 #[.slice none 0 0, .int .i64 s] w fun e w' => e = .returned (.int .i64 0) ∧ Ext w w' := by
  have HZ := Lib.hid (fun W => zero_any s hs W)
  have hsf := run_store_f
  clear hs
  go_enter Tryz.func97, Tryz.ntmps97
  go_wp2_with fail
  refine (HZ.out _).mono ?_
  rintro e w2 ⟨cs, rfl, ⟨i2, a2, c2, l2, rfl, hc2, hok2⟩, hx2⟩
  unfold V5
  obtain ⟨W3, hW3⟩ : ∃ W3, w2.alloc (.cells #[.int .i64 s, .bool i2, .slice a2 0 c2, .int .i64 l2, .float .f64 0] 38) = W3 := ⟨_, rfl⟩
  have HX : Hid (Ext w W3) := Lib.hid (by rw [← hW3]; exact hx2.alloc _)
  have HW := Lib.hid hW3
  clear hx2 hc2 hok2 hW3
  go_wp2_with fail
  rw [HW.out]
  go_loopg [20] 0 (fun g t wr => g = 0 ∧ t = .int .i64 0 ∧ wr = W3)
  case atStart => exact ⟨rfl, rfl, rfl⟩
  case round =>
    obtain ⟨rfl, rfl, rfl⟩ := hrel
    go_wp2_with fail
    try simp only [Exit.inBlock, Exit.then]
    go_ret
    exact ⟨rfl, HX.out⟩
set_option maxRecDepth 100000 in
set_option maxHeartbeats 1000000 in
theorem Weigh0 (s : Int) (hs : s = 2 ∨ s = 3) (tok : Int) (w : World) : Calls Tryz.prog 48 #[.slice none 0 0, .int .i64 s, .int .i64 tok] w (BvPost2 s true w) := by
  have HC := Lib.hid (fun W => check0 s hs W)
  have HG := Lib.hid (fun W => weigh0 s hs tok W)
  have hb := Blk.new w #[.int .i64 0, .bool false, .slice none 0 0, .int .i64 0, .float .f64 0] 38
  have hw1 : Ext w (w.alloc (.cells #[.int .i64 0, .bool false, .slice none 0 0, .int .i64 0, .float .f64 0] 38)) := (Chg.refl w).alloc _
  have HB := Lib.hid (And.intro hb hw1)
  have hsf := run_store_f
  clear hb hw1 hs
  go_enter Tryz.func48, Tryz.ntmps48
  go_wp2_with fail
  refine (HC.out _).mono ?_
  rintro e w2 ⟨rfl, hx2⟩
  have HX2 := Lib.hid hx2
  clear hx2
  go_wp2_with fail
  refine (HG.out _).mono ?_
  rintro e w3 ⟨cs, rfl, ⟨i2, a2, c2, l2, rfl, hc2, hok2⟩, hx3⟩
  unfold V5
  have hx := HX2.out.trans hx3
  have kB := HB.out.1.chg hx (fun h => h)
  obtain ⟨g0, f0, g1, f1, g2, f2, g3, f3, g4, f4⟩ := blk5_base kB
  obtain ⟨y3, z3, y4, z4, q0, q1, q2, q3, q4⟩ := blk5_facts kB (.int .i64 s) (.bool i2) (.slice a2 0 c2) (.int .i64 l2) (.float .f64 0)
  have HX := Lib.hid (HB.out.2.trans hx)
  have HO := Lib.hid (And.intro hc2 hok2)
  clear hx kB hx3 hc2 hok2
  go_wp2_with fail
  try simp only [Exit.inBlock, Exit.then]
  refine bodyPost_ret (by simp [results, Tryz.results48, go_sem, q0, q1, q2, q3, q4]; try rfl) rfl ?_
  exact ⟨V5 s i2 a2 c2 l2, rfl, ⟨_, _, _, _, rfl, HO.out.1, HO.out.2⟩, (((((HX.out.setCell _ _ (by simp <;> omega)).setCell _ _ (by simp <;> omega)).setCell _ _ (by simp <;> omega)).setCell _ _ (by simp <;> omega)).setCell _ _ (by simp <;> omega))⟩
end Go.Proofs.YtkhllknahjmciaaGreat

/-! What a path is worth (chapter 18), where nothing is weighed: its semiring, its weights. -/
namespace Go.Proofs.YtkhllknahjmciaaGreat
open Go.RowKit
set_option linter.unusedVariables false
set_option linter.unusedSimpArgs false

set_option maxRecDepth 100000 in
set_option maxHeartbeats 1000000 in
theorem dZero_any (s : Int) (hs : s = 2 ∨ s = 3) (w : World) : Calls Tryz.prog 195 #[.int .i64 s] w (BvPost s false w) := by
  have HT := Lib.hid (fun W => zero_any s hs W)
  have hb := Blk.new w #[.int .i64 0, .bool false, .slice none 0 0, .int .i64 0, .float .f64 0] 38
  have hw1 : Ext w (w.alloc (.cells #[.int .i64 0, .bool false, .slice none 0 0, .int .i64 0, .float .f64 0] 38)) := (Chg.refl w).alloc _
  have HB := Lib.hid (And.intro hb hw1)
  have hsf := run_store_f
  clear hb hw1 hs
  go_enter Tryz.func195, Tryz.ntmps195
  go_wp2_with fail
  refine (HT.out _).mono ?_
  rintro e w2 ⟨cs, rfl, ⟨i2', a2', c2', l2', rfl, hc, hok⟩, hx⟩
  unfold V5
  have hxa := hx.alloc (.cells #[.int .i64 s, .bool i2', .slice a2' 0 c2', .int .i64 l2', .float .f64 0] 38)
  obtain ⟨v0, -, v1, -, v2, -, v3, -, v4, -⟩ := blk5_base (Blk.new w2 #[.int .i64 s, .bool i2', .slice a2' 0 c2', .int .i64 l2', .float .f64 0] 38)
  have kB := Blk.chg (HB.out.1) hxa (fun h => h)
  obtain ⟨g0, f0, g1, f1, g2, f2, g3, f3, g4, f4⟩ := blk5_base kB
  obtain ⟨y3, z3, y4, z4, q0, q1, q2, q3, q4⟩ := blk5_facts kB (.int .i64 s) (.bool i2') (.slice a2' 0 c2') (.int .i64 l2') (.float .f64 0)
  have HX := Lib.hid (Chg.trans (HB.out.2) hxa)
  have HO := Lib.hid (And.intro hc hok)
  clear hx hxa kB hc hok
  go_wp2_with fail
  try simp only [Exit.inBlock, Exit.then]
  refine bodyPost_ret (by simp [results, Tryz.results195, go_sem, q0, q1, q2, q3, q4]; try rfl) rfl ?_
  exact ⟨V5 s i2' a2' c2' l2', rfl, ⟨_, _, _, _, rfl, HO.out.1, HO.out.2⟩, (((((HX.out.setCell _ _ (by simp <;> omega)).setCell _ _ (by simp <;> omega)).setCell _ _ (by simp <;> omega)).setCell _ _ (by simp <;> omega)).setCell _ _ (by simp <;> omega))⟩

set_option maxRecDepth 100000 in
set_option maxHeartbeats 1000000 in
theorem dOne_any (s : Int) (hs : s = 2 ∨ s = 3) (w : World) : Calls Tryz.prog 91 #[.int .i64 s] w (BvPost s true w) := by
  have HT := Lib.hid (fun W => one_any s hs W)
  have hb := Blk.new w #[.int .i64 0, .bool false, .slice none 0 0, .int .i64 0, .float .f64 0] 38
  have hw1 : Ext w (w.alloc (.cells #[.int .i64 0, .bool false, .slice none 0 0, .int .i64 0, .float .f64 0] 38)) := (Chg.refl w).alloc _
  have HB := Lib.hid (And.intro hb hw1)
  have hsf := run_store_f
  clear hb hw1 hs
  go_enter Tryz.func91, Tryz.ntmps91
  go_wp2_with fail
  refine (HT.out _).mono ?_
  rintro e w2 ⟨cs, rfl, ⟨i2', a2', c2', l2', rfl, hc, hok⟩, hx⟩
  unfold V5
  have hxa := hx.alloc (.cells #[.int .i64 s, .bool i2', .slice a2' 0 c2', .int .i64 l2', .float .f64 0] 38)
  obtain ⟨v0, -, v1, -, v2, -, v3, -, v4, -⟩ := blk5_base (Blk.new w2 #[.int .i64 s, .bool i2', .slice a2' 0 c2', .int .i64 l2', .float .f64 0] 38)
  have kB := Blk.chg (HB.out.1) hxa (fun h => h)
  obtain ⟨g0, f0, g1, f1, g2, f2, g3, f3, g4, f4⟩ := blk5_base kB
  obtain ⟨y3, z3, y4, z4, q0, q1, q2, q3, q4⟩ := blk5_facts kB (.int .i64 s) (.bool i2') (.slice a2' 0 c2') (.int .i64 l2') (.float .f64 0)
  have HX := Lib.hid (Chg.trans (HB.out.2) hxa)
  have HO := Lib.hid (And.intro hc hok)
  clear hx hxa kB hc hok
  go_wp2_with fail
  try simp only [Exit.inBlock, Exit.then]
  refine bodyPost_ret (by simp [results, Tryz.results91, go_sem, q0, q1, q2, q3, q4]; try rfl) rfl ?_
  exact ⟨V5 s i2' a2' c2' l2', rfl, ⟨_, _, _, _, rfl, HO.out.1, HO.out.2⟩, (((((HX.out.setCell _ _ (by simp <;> omega)).setCell _ _ (by simp <;> omega)).setCell _ _ (by simp <;> omega)).setCell _ _ (by simp <;> omega)).setCell _ _ (by simp <;> omega))⟩

set_option maxRecDepth 100000 in
set_option maxHeartbeats 1000000 in
theorem dTimes0 {s l1 l2 : Int} {i1 i2 b1 b2 : Bool} (a1 a2 : Option Addr) (c1 c2 : Nat) (hc1 : c1 ≤ maxLen) (hc2 : c2 ≤ maxLen) (h1 : Ok0 s i1 l1 b1) (h2 : Ok0 s i2 l2 b2) (w : World) :
    Calls Tryz.prog 90 #[.agg (V5 s i1 a1 c1 l1).toArray, .agg (V5 s i2 a2 c2 l2).toArray] w (BvPost s (b1 && b2) w) := by
  have HT := Lib.hid (fun W => times0 a1 a2 c1 c2 hc1 hc2 h1 h2 W)
  unfold V5 at HT ⊢
  have hw2 := ((Chg.refl (S := fun _ => False) w).alloc (.cells #[.int .i64 s, .bool i1, .slice a1 0 c1, .int .i64 l1, .float .f64 0] 38)).alloc (.cells #[.int .i64 s, .bool i2, .slice a2 0 c2, .int .i64 l2, .float .f64 0] 38)
  obtain ⟨W0, hW0⟩ : ∃ W0, ((w.alloc (.cells #[.int .i64 s, .bool i1, .slice a1 0 c1, .int .i64 l1, .float .f64 0] 38)).alloc (.cells #[.int .i64 s, .bool i2, .slice a2 0 c2, .int .i64 l2, .float .f64 0] 38)).alloc (.cells #[.int .i64 0, .bool false, .slice none 0 0, .int .i64 0, .float .f64 0] 38) = W0 := ⟨_, rfl⟩
  have hb3 := Blk.new ((w.alloc (.cells #[.int .i64 s, .bool i1, .slice a1 0 c1, .int .i64 l1, .float .f64 0] 38)).alloc (.cells #[.int .i64 s, .bool i2, .slice a2 0 c2, .int .i64 l2, .float .f64 0] 38)) #[.int .i64 0, .bool false, .slice none 0 0, .int .i64 0, .float .f64 0] 38
  have hw3 := hw2.alloc (.cells #[.int .i64 0, .bool false, .slice none 0 0, .int .i64 0, .float .f64 0] 38)
  rw [hW0] at hb3 hw3
  simp only [World.size_alloc] at hb3
  have HW := Lib.hid hW0
  have HB := Lib.hid (And.intro hb3 hw3)
  have hsf := run_store_f
  clear hw2 hb3 hw3 hW0 hc1 hc2 h1 h2
  go_enter Tryz.func90, Tryz.ntmps90
  go_wp2_with fail
  rw [HW.out]
  refine (HT.out _).mono ?_
  rintro e w2 ⟨cs, rfl, ⟨i2', a2', c2', l2', rfl, hc, hok⟩, hx⟩
  unfold V5
  have hxa := hx.alloc (.cells #[.int .i64 s, .bool i2', .slice a2' 0 c2', .int .i64 l2', .float .f64 0] 38)
  obtain ⟨v0, -, v1, -, v2, -, v3, -, v4, -⟩ := blk5_base (Blk.new w2 #[.int .i64 s, .bool i2', .slice a2' 0 c2', .int .i64 l2', .float .f64 0] 38)
  have kB := Blk.chg (HB.out.1) hxa (fun h => h)
  obtain ⟨g0, f0, g1, f1, g2, f2, g3, f3, g4, f4⟩ := blk5_base kB
  obtain ⟨y3, z3, y4, z4, q0, q1, q2, q3, q4⟩ := blk5_facts kB (.int .i64 s) (.bool i2') (.slice a2' 0 c2') (.int .i64 l2') (.float .f64 0)
  have HX := Lib.hid (Chg.trans (HB.out.2) hxa)
  have HO := Lib.hid (And.intro hc hok)
  clear hx hxa kB hc hok
  go_wp2_with fail
  try simp only [Exit.inBlock, Exit.then]
  refine bodyPost_ret (by simp [results, Tryz.results90, go_sem, q0, q1, q2, q3, q4]; try rfl) rfl ?_
  exact ⟨V5 s i2' a2' c2' l2', rfl, ⟨_, _, _, _, rfl, HO.out.1, HO.out.2⟩, (((((HX.out.setCell _ _ (by simp <;> omega)).setCell _ _ (by simp <;> omega)).setCell _ _ (by simp <;> omega)).setCell _ _ (by simp <;> omega)).setCell _ _ (by simp <;> omega))⟩
set_option maxRecDepth 100000 in
set_option maxHeartbeats 1000000 in
theorem pathClosure (t : Tr) (cs : List Value) (pb : Nat) (k : Int) (l : ByteArray) (a : Option Addr) (n c : Nat) (mn mx : Int) (w : World) (hcs : cs = [.int .i64 k, .string l, .slice a n c, .int .i64 mn, .int .i64 mx]) (h : TrC w t cs) (hv : rcheck t = 0) (hb : Blk w pb cs.toArray 28) :
    Calls Tryz.prog 88 #[.pointer (some ⟨pb, 0, none⟩)] w fun e w' => e = .returned (.int .i64 0) ∧ Ext w w' := by
  subst hcs
  have HC := Lib.hid (pCheck_any t w _ h hv)
  obtain ⟨y0, -, y1, -, y2, -, y3, -, y4, -⟩ := blk5_base hb
  clear h hv hb
  go_enter Tryz.func88, Tryz.ntmps88
  go_wp2_with fail
  refine HC.out.mono ?_
  rintro e w2 ⟨rfl, hx⟩
  have HX := Lib.hid hx
  clear hx
  go_wp2_with fail
  go_ret
  exact ⟨rfl, HX.out⟩
set_option maxRecDepth 100000 in
set_option maxHeartbeats 1000000 in
theorem weightIdx0 (f : Value) (w : World) : Calls Tryz.prog 230 #[.slice none 0 0, f] w fun e w' => e = .returned (.int .i64 (-1)) ∧ w' = w := by
  go_enter Tryz.func230, Tryz.ntmps230
  go_wp2_with fail
  go_loopg [8] 0 (fun g t wr => g = 0 ∧ t = .int .i64 0 ∧ wr = w)
  case atStart => exact ⟨rfl, rfl, rfl⟩
  case round =>
    obtain ⟨rfl, rfl, rfl⟩ := hrel
    go_wp2_with fail
    try simp only [Exit.inBlock, Exit.then]
    go_ret
    exact ⟨rfl, rfl⟩
set_option maxRecDepth 100000 in
set_option maxHeartbeats 1000000 in
theorem weightHas0 (f : Value) (w : World) : Calls Tryz.prog 186 #[.slice none 0 0, f] w fun e w' => e = .returned (.bool false) ∧ w' = w := by
  have HI := Lib.hid (fun W => weightIdx0 f W)
  go_enter Tryz.func186, Tryz.ntmps186
  go_wp2_with fail
  refine (HI.out _).mono ?_
  rintro e w9 ⟨rfl, h9⟩
  subst w9
  go_wp2_with fail
  go_ret
  exact ⟨rfl, rfl⟩
set_option maxRecDepth 100000 in
set_option maxHeartbeats 1000000 in
theorem dWeights0 (s : Int) (hs : s = 2 ∨ s = 3) (w : World) : Calls Tryz.prog 139 #[.int .i64 s, .slice none 0 0] w fun e w' => e = .returned (.int .i64 0) ∧ Ext w w' := by
  have HW := Lib.hid (fun W => Weigh0 s hs 0 W)
  have HI := Lib.hid (fun f W => weightHas0 f W)
  have hsf := run_store_f
  clear hs
  go_enter Tryz.func139, Tryz.ntmps139
  go_wp2_with fail
  refine (HW.out _).mono ?_
  rintro e w2 ⟨cs, rfl, ⟨i2, a2, c2, l2, rfl, hc2, hok2⟩, hx2⟩
  unfold V5
  obtain ⟨W3, hW3⟩ : ∃ W3, w2.alloc (.cells #[.int .i64 s, .bool i2, .slice a2 0 c2, .int .i64 l2, .float .f64 0] 38) = W3 := ⟨_, rfl⟩
  have HX : Hid (Ext w W3) := Lib.hid (by rw [← hW3]; exact (((Chg.refl (S := fun _ => False) w).alloc _).trans hx2).alloc _)
  have HE := Lib.hid hW3
  clear hx2 hc2 hok2 hW3
  go_wp2_with fail
  rw [HE.out]
  refine (HI.out _ _).mono ?_
  rintro e w9 ⟨rfl, h9⟩
  subst w9
  go_wp2_with fail
  go_ret
  exact ⟨rfl, HX.out⟩
end Go.Proofs.YtkhllknahjmciaaGreat

/-! What a path is worth (chapter 18), where nothing is weighed: it is opened. -/
namespace Go.Proofs.YtkhllknahjmciaaGreat
open Go.RowKit
set_option linter.unusedVariables false
set_option linter.unusedSimpArgs false

set_option maxRecDepth 100000 in
set_option maxHeartbeats 1000000 in
theorem dOpen0 (s : Int) (hs : s = 2 ∨ s = 3) (g : Gr) (hm : MayG g) (na : Option Addr) (m nc : Nat) (ea : Option Addr) (n ec : Nat) (d : Int) (t : Tr) (pb : Nat) (k : Int) (l : ByteArray) (a : Option Addr) (kn c : Nat) (mn mx : Int) (w : World)
    (hg : GrC w g [.slice na m nc, .slice ea n ec, .int .i64 d]) (ht : TrC w t [.int .i64 k, .string l, .slice a kn c, .int .i64 mn, .int .i64 mx]) (hv : rcheck t = 0) (hb : Blk w pb #[.int .i64 k, .string l, .slice a kn c, .int .i64 mn, .int .i64 mx] 28) :
    Calls Tryz.prog 87 #[.agg #[.slice na m nc, .slice ea n ec, .int .i64 d], .int .i64 s, .slice none 0 0, .func (.func 88) #[] #[.pointer (some ⟨pb, 0, none⟩)]] w fun e w' =>
      e = .returned (.tuple #[.agg #[.slice na m nc, .slice ea n ec, .int .i64 d, .int .i64 s, .slice none 0 0], .int .i64 0]) ∧ Ext w w' := by
  have HG := Lib.hid (fun W (hW : Ext w W) => Of_any g W _ (hg.ext hW) hm)
  have HZ := Lib.hid (fun W => zero_any s hs W)
  have HP := Lib.hid (fun W (hW : Ext w W) => pathClosure t _ pb k l a kn c mn mx W rfl (TrC.ext hW _ _ ht) hv (hb.chg hW (fun h => h)))
  have HWt := Lib.hid (fun W => dWeights0 s hs W)
  have hw1 : Ext w (w.alloc (.cells #[.slice na m nc, .slice ea n ec, .int .i64 d] 25)) := (Chg.refl w).alloc _
  have hw2 := hw1.alloc (.cells #[.slice none 0 0, .slice none 0 0, .int .i64 0, .int .i64 0, .slice none 0 0] 150)
  have hb1 := (Blk.new w #[.slice na m nc, .slice ea n ec, .int .i64 d] 25).chg ((Chg.refl (S := fun _ => False) _).alloc (.cells #[.slice none 0 0, .slice none 0 0, .int .i64 0, .int .i64 0, .slice none 0 0] 150)) (fun h => h)
  have hb2 := Blk.new (w.alloc (.cells #[.slice na m nc, .slice ea n ec, .int .i64 d] 25)) #[.slice none 0 0, .slice none 0 0, .int .i64 0, .int .i64 0, .slice none 0 0] 150
  obtain ⟨W0, hW0⟩ : ∃ W0, (w.alloc (.cells #[.slice na m nc, .slice ea n ec, .int .i64 d] 25)).alloc (.cells #[.slice none 0 0, .slice none 0 0, .int .i64 0, .int .i64 0, .slice none 0 0] 150) = W0 := ⟨_, rfl⟩
  rw [hW0] at hb1 hb2 hw2
  simp only [World.size_alloc] at hb1 hb2
  have HW := Lib.hid hW0
  have HB := Lib.hid (And.intro hb1 (And.intro hb2 hw2))
  have hsf := run_store_f
  clear hs hg ht hb hw1 hw2 hb1 hb2 hW0 hv
  go_enter Tryz.func87, Tryz.ntmps87
  go_wp2_with fail
  rw [HW.out]
  refine (HG.out _ HB.out.2.2).mono ?_
  rintro e w2 ⟨ga, rfl, hx2⟩
  have HX2 := Lib.hid hx2
  clear hx2
  go_wp2_with fail
  refine (HZ.out _).mono ?_
  rintro e w3 ⟨cs, rfl, ⟨i2, a2, c2, l2, rfl, hc2, hok2⟩, hx3⟩
  unfold V5
  obtain ⟨W3, hW3⟩ : ∃ W3, w3.alloc (.cells #[.int .i64 s, .bool i2, .slice a2 0 c2, .int .i64 l2, .float .f64 0] 38) = W3 := ⟨_, rfl⟩
  have HX3 : Hid (Ext W0 W3) := Lib.hid (by rw [← hW3]; exact (HX2.out.trans hx3).alloc _)
  have HE := Lib.hid hW3
  clear hx3 hc2 hok2 hW3
  go_wp2_with fail
  rw [HE.out]
  refine (HP.out _ (HB.out.2.2.trans HX3.out)).mono ?_
  rintro e w4 ⟨rfl, hx4⟩
  have HX4 := Lib.hid (HX3.out.trans hx4)
  clear hx4
  go_wp2_with fail
  refine (HWt.out _).mono ?_
  rintro e w5 ⟨rfl, hx5⟩
  have HX5 := Lib.hid (HX4.out.trans hx5)
  clear hx5
  obtain ⟨y0, -, y1, -, y2, -⟩ := blk3_base (HB.out.1.chg HX5.out (fun h => h))
  have kB := HB.out.2.1.chg HX5.out (fun h => h)
  obtain ⟨g0, f0, g1, f1, g2, f2, g3, f3, g4, f4⟩ := blk5_base kB
  obtain ⟨y3, z3, y4, z4, q0, q1, q2, q3, q4⟩ := blk5_facts kB (.slice na m nc) (.slice ea n ec) (.int .i64 d) (.int .i64 s) (.slice none 0 0)
  have HX := Lib.hid (HB.out.2.2.trans HX5.out)
  go_wp2_with fail
  try simp only [Exit.inBlock, Exit.then]
  refine bodyPost_ret (by simp [results, Tryz.results87, go_sem, q0, q1, q2, q3, q4]; try rfl) rfl ?_
  exact ⟨rfl, (((((HX.out.setCell _ _ (by simp <;> omega)).setCell _ _ (by simp <;> omega)).setCell _ _ (by simp <;> omega)).setCell _ _ (by simp <;> omega)).setCell _ _ (by simp <;> omega))⟩
end Go.Proofs.YtkhllknahjmciaaGreat

/-! The empty path (chapter 9): it is its own plain one. -/
namespace Go.Proofs.YtkhllknahjmciaaGreat
open Go.RowKit
set_option linter.unusedVariables false
set_option linter.unusedSimpArgs false

abbrev epsT : Tr := .node 1 ⟨#[]⟩ [] 0 0
abbrev epsCs : List Value := [.int .i64 1, .string ⟨#[]⟩, .slice none 0 0, .int .i64 0, .int .i64 0]
theorem eps_cells (w : World) : TrC w epsT epsCs := TrC_node.2 ⟨none, 0, [], rfl, ⟨Nat.le_refl _, by unfold maxLen; omega, fun j u hu => by simp at hu⟩, TrCs_nil.2 rfl⟩
theorem eps_check : rcheck epsT = 0 := by simp [rcheck, rchecks, rchecksL, rdeep, rdeeps, rsize, rsizes, rsizeK, rkidsB, epsT]
set_option maxRecDepth 100000 in
set_option maxHeartbeats 1000000 in
theorem clonePath0 (w : World) : Calls Tryz.prog 234 #[.slice none 0 0] w fun e w' => e = .returned (.slice none 0 0) ∧ w' = w := by
  have q22 := fun (w : World) (a : Option Addr) (n c n' c' : Nat) => Lib.run_eql_slice_nil (P := Tryz.prog) w 26 _ a n c n' c' Tryz.underlying26
  go_enter Tryz.func234, Tryz.ntmps234
  go_wp2_with fail
  go_ret
  exact ⟨rfl, rfl⟩
set_option maxRecDepth 100000 in
set_option maxHeartbeats 1000000 in
theorem dsOwn0 (w : World) : Calls Tryz.prog 189 #[.agg epsCs.toArray] w fun e w' => e = .returned (.agg epsCs.toArray) ∧ Ext w w' := by
  have HC := Lib.hid (fun W => clonePath0 W)
  unfold epsCs
  have hw1 := (Chg.refl (S := fun _ => False) w).alloc (.cells #[.int .i64 1, .string ⟨#[]⟩, .slice none 0 0, .int .i64 0, .int .i64 0] 28)
  have hw2 := hw1.alloc (.cells #[.int .i64 0, .string ⟨#[]⟩, .slice none 0 0, .int .i64 0, .int .i64 0] 28)
  have hb1 := (Blk.new w #[.int .i64 1, .string ⟨#[]⟩, .slice none 0 0, .int .i64 0, .int .i64 0] 28).chg ((Chg.refl (S := fun _ => False) _).alloc (.cells #[.int .i64 0, .string ⟨#[]⟩, .slice none 0 0, .int .i64 0, .int .i64 0] 28)) (fun h => h)
  have hb2 := Blk.new (w.alloc (.cells #[.int .i64 1, .string ⟨#[]⟩, .slice none 0 0, .int .i64 0, .int .i64 0] 28)) #[.int .i64 0, .string ⟨#[]⟩, .slice none 0 0, .int .i64 0, .int .i64 0] 28
  obtain ⟨W0, hW0⟩ : ∃ W0, (w.alloc (.cells #[.int .i64 1, .string ⟨#[]⟩, .slice none 0 0, .int .i64 0, .int .i64 0] 28)).alloc (.cells #[.int .i64 0, .string ⟨#[]⟩, .slice none 0 0, .int .i64 0, .int .i64 0] 28) = W0 := ⟨_, rfl⟩
  rw [hW0] at hb1 hb2 hw2
  simp only [World.size_alloc] at hb1 hb2
  have HW := Lib.hid hW0
  have HB := Lib.hid (And.intro hb1 (And.intro hb2 hw2))
  obtain ⟨x0, xf0, x1, xf1, x2, xf2, x3, xf3, x4, xf4⟩ := blk5_base hb1
  have ks := hb1.set 2 (.slice none 0 0)
  simp only [Array.setIfInBounds, List.size_toArray, List.length_cons, List.length_nil] at ks
  obtain ⟨v0, -, v1, -, v2, -, v3, -, v4, -⟩ := blk5_base ks
  have kb := hb2.chg (set_chg (p := w.heap.size) (j := 2) (c := .slice none 0 0) (Chg.refl W0)) (by omega)
  obtain ⟨g0, f0, g1, f1, g2, f2, g3, f3, g4, f4⟩ := blk5_base kb
  obtain ⟨y3, z3, y4, z4, q0, q1, q2, q3, q4⟩ := blk5_facts kb (.int .i64 1) (.string ⟨#[]⟩) (.slice none 0 0) (.int .i64 0) (.int .i64 0)
  clear hw1 hw2 hb1 hb2 ks kb hW0
  go_enter Tryz.func189, Tryz.ntmps189
  go_wp2_with fail
  rw [HW.out]
  refine (HC.out _).mono ?_
  rintro e w9 ⟨rfl, h9⟩
  subst w9
  go_wp2_with fail
  go_loopg [11] 0 (fun g t wr => g = 0 ∧ t = .int .i64 0 ∧ wr = W0)
  case atStart => exact ⟨rfl, rfl, rfl⟩
  case round =>
    obtain ⟨rfl, rfl, rfl⟩ := hrel
    go_wp2_with fail
    try simp only [Exit.inBlock, Exit.then]
    refine bodyPost_ret (by simp [results, Tryz.results189, go_sem, q0, q1, q2, q3, q4]; try rfl) rfl ?_
    exact ⟨rfl, ((((((HB.out.2.2.setCell _ _ (by simp <;> omega)).setCell _ _ (by simp <;> omega)).setCell _ _ (by simp <;> omega)).setCell _ _ (by simp <;> omega)).setCell _ _ (by simp <;> omega)).setCell _ _ (by simp <;> omega))⟩
set_option maxRecDepth 100000 in
set_option maxHeartbeats 1000000 in
theorem dsPlain0 (w : World) : Calls Tryz.prog 190 #[.agg epsCs.toArray] w fun e w' => e = .returned (.agg epsCs.toArray) ∧ Ext w w' := by
  unfold epsCs
  have hw1 := (Chg.refl (S := fun _ => False) w).alloc (.cells #[.int .i64 1, .string ⟨#[]⟩, .slice none 0 0, .int .i64 0, .int .i64 0] 28)
  have hw2 := hw1.alloc (.cells #[.int .i64 0, .string ⟨#[]⟩, .slice none 0 0, .int .i64 0, .int .i64 0] 28)
  have hb1 := (Blk.new w #[.int .i64 1, .string ⟨#[]⟩, .slice none 0 0, .int .i64 0, .int .i64 0] 28).chg ((Chg.refl (S := fun _ => False) _).alloc (.cells #[.int .i64 0, .string ⟨#[]⟩, .slice none 0 0, .int .i64 0, .int .i64 0] 28)) (fun h => h)
  have hb2 := Blk.new (w.alloc (.cells #[.int .i64 1, .string ⟨#[]⟩, .slice none 0 0, .int .i64 0, .int .i64 0] 28)) #[.int .i64 0, .string ⟨#[]⟩, .slice none 0 0, .int .i64 0, .int .i64 0] 28
  obtain ⟨W0, hW0⟩ : ∃ W0, (w.alloc (.cells #[.int .i64 1, .string ⟨#[]⟩, .slice none 0 0, .int .i64 0, .int .i64 0] 28)).alloc (.cells #[.int .i64 0, .string ⟨#[]⟩, .slice none 0 0, .int .i64 0, .int .i64 0] 28) = W0 := ⟨_, rfl⟩
  rw [hW0] at hb1 hb2 hw2
  simp only [World.size_alloc] at hb1 hb2
  have HW := Lib.hid hW0
  have HB := Lib.hid (And.intro hb1 (And.intro hb2 hw2))
  obtain ⟨x0, xf0, x1, xf1, x2, xf2, x3, xf3, x4, xf4⟩ := blk5_base hb1
  obtain ⟨g0, f0, g1, f1, g2, f2, g3, f3, g4, f4⟩ := blk5_base hb2
  obtain ⟨y3, z3, y4, z4, q0, q1, q2, q3, q4⟩ := blk5_facts hb2 (.int .i64 1) (.string ⟨#[]⟩) (.slice none 0 0) (.int .i64 0) (.int .i64 0)
  clear hw1 hw2 hb1 hb2 hW0
  go_enter Tryz.func190, Tryz.ntmps190
  go_wp2_with fail
  rw [HW.out]
  go_loopg [9] 0 (fun g t wr => g = 0 ∧ t = .int .i64 0 ∧ wr = W0)
  case atStart => exact ⟨rfl, rfl, rfl⟩
  case round =>
    obtain ⟨rfl, rfl, rfl⟩ := hrel
    go_wp2_with fail
    try simp only [Exit.inBlock, Exit.then]
    refine bodyPost_ret (by simp [results, Tryz.results190, go_sem, q0, q1, q2, q3, q4]; try rfl) rfl ?_
    exact ⟨rfl, (((((HB.out.2.2.setCell _ _ (by simp <;> omega)).setCell _ _ (by simp <;> omega)).setCell _ _ (by simp <;> omega)).setCell _ _ (by simp <;> omega)).setCell _ _ (by simp <;> omega))⟩
set_option maxRecDepth 100000 in
set_option maxHeartbeats 1000000 in
theorem DsPlain0 (w : World) : Calls Tryz.prog 140 #[.agg epsCs.toArray] w fun e w' => e = .returned (.tuple #[.agg epsCs.toArray, .int .i64 0]) ∧ Ext w w' := by
  have HC := Lib.hid (fun W => pCheck_any epsT W _ (eps_cells W) eps_check)
  have HP := Lib.hid (fun W => dsPlain0 W)
  have HOw := Lib.hid (fun W => dsOwn0 W)
  unfold epsCs at *
  have hw1 := (Chg.refl (S := fun _ => False) w).alloc (.cells #[.int .i64 1, .string ⟨#[]⟩, .slice none 0 0, .int .i64 0, .int .i64 0] 28)
  have hw2 := hw1.alloc (.cells #[.int .i64 0, .string ⟨#[]⟩, .slice none 0 0, .int .i64 0, .int .i64 0] 28)
  have hb1 := (Blk.new w #[.int .i64 1, .string ⟨#[]⟩, .slice none 0 0, .int .i64 0, .int .i64 0] 28).chg ((Chg.refl (S := fun _ => False) _).alloc (.cells #[.int .i64 0, .string ⟨#[]⟩, .slice none 0 0, .int .i64 0, .int .i64 0] 28)) (fun h => h)
  have hb2 := Blk.new (w.alloc (.cells #[.int .i64 1, .string ⟨#[]⟩, .slice none 0 0, .int .i64 0, .int .i64 0] 28)) #[.int .i64 0, .string ⟨#[]⟩, .slice none 0 0, .int .i64 0, .int .i64 0] 28
  obtain ⟨W0, hW0⟩ : ∃ W0, (w.alloc (.cells #[.int .i64 1, .string ⟨#[]⟩, .slice none 0 0, .int .i64 0, .int .i64 0] 28)).alloc (.cells #[.int .i64 0, .string ⟨#[]⟩, .slice none 0 0, .int .i64 0, .int .i64 0] 28) = W0 := ⟨_, rfl⟩
  rw [hW0] at hb1 hb2 hw2
  simp only [World.size_alloc] at hb1 hb2
  have HW := Lib.hid hW0
  have HB := Lib.hid (And.intro hb1 (And.intro hb2 hw2))
  obtain ⟨x0, xf0, x1, xf1, x2, xf2, x3, xf3, x4, xf4⟩ := blk5_base hb1
  clear hw1 hw2 hb1 hb2 hW0
  go_enter Tryz.func140, Tryz.ntmps140
  go_wp2_with fail
  rw [HW.out]
  refine (HC.out _).mono ?_
  rintro e w2 ⟨rfl, hx2⟩
  have HX2 := Lib.hid hx2
  obtain ⟨y0, -, y1, -, y2, -, y3, -, y4, -⟩ := blk5_base (HB.out.1.chg hx2 (fun h => h))
  clear hx2
  go_wp2_with fail
  refine (HP.out _).mono ?_
  rintro e w3 ⟨rfl, hx3⟩
  have HX3 := Lib.hid (HX2.out.trans hx3)
  clear hx3
  go_wp2_with fail
  refine (HOw.out _).mono ?_
  rintro e w4 ⟨rfl, hx4⟩
  have hx := HX3.out.trans hx4
  have kb := HB.out.2.1.chg hx (fun h => h)
  obtain ⟨g0, f0, g1, f1, g2, f2, g3, f3, g4, f4⟩ := blk5_base kb
  obtain ⟨y3, z3, y4, z4, q0, q1, q2, q3, q4⟩ := blk5_facts kb (.int .i64 1) (.string ⟨#[]⟩) (.slice none 0 0) (.int .i64 0) (.int .i64 0)
  have HX := Lib.hid (HB.out.2.2.trans hx)
  clear hx4 hx kb
  go_wp2_with fail
  try simp only [Exit.inBlock, Exit.then]
  refine bodyPost_ret (by simp [results, Tryz.results140, go_sem, q0, q1, q2, q3, q4]; try rfl) rfl ?_
  exact ⟨rfl, (((((HX.out.setCell _ _ (by simp <;> omega)).setCell _ _ (by simp <;> omega)).setCell _ _ (by simp <;> omega)).setCell _ _ (by simp <;> omega)).setCell _ _ (by simp <;> omega))⟩
end Go.Proofs.YtkhllknahjmciaaGreat
