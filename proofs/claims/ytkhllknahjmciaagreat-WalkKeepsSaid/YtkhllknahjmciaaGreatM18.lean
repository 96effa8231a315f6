/-
  Values (chapter 4) that are 0 or 1, of Bool and of Trop. Values (chapter 4) that are 0 or 1: products, sums, sameness. Values (chapter 4) that are 0 or 1: sums, sameness, which is better. Values (chapter 4) that are 0 or 1: their sum.
-/
import Derived.Test.YtkhllknahjmciaaGreatM17
/-! Values (chapter 4) that are 0 or 1, of Bool and of Trop. -/
namespace Go.Proofs.YtkhllknahjmciaaGreat
open Go.RowKit
set_option linter.unusedVariables false
set_option linter.unusedSimpArgs false

def V5 (s : Int) (i : Bool) (a : Option Addr) (c : Nat) (l : Int) : List Value := [.int .i64 s, .bool i, .slice a 0 c, .int .i64 l, .float .f64 0]
def Ok0 (s : Int) (i : Bool) (l : Int) (b : Bool) : Prop := (s = 2 ∧ i = false ∧ l = (if b then 1 else 0)) ∨ (s = 3 ∧ i = !b ∧ l = 0)
/-- A value that is its semiring's 1 (b) or 0. -/
def Bv (s : Int) (b : Bool) (cs : List Value) : Prop := ∃ i a c l, cs = V5 s i a c l ∧ c ≤ maxLen ∧ Ok0 s i l b
def BvPost (s : Int) (b : Bool) (w : World) (e : Ending) (w' : World) : Prop := ∃ cs, e = .returned (.agg cs.toArray) ∧ Bv s b cs ∧ Ext w w'
def BvPost2 (s : Int) (b : Bool) (w : World) (e : Ending) (w' : World) : Prop := ∃ cs, e = .returned (.tuple #[.agg cs.toArray, .int .i64 0]) ∧ Bv s b cs ∧ Ext w w'
theorem may0 {s l : Int} {i b : Bool} (a : Option Addr) (c : Nat) (hc : c ≤ maxLen) (h : Ok0 s i l b) (w : World) :
    Calls Tryz.prog 148 #[.agg (V5 s i a c l).toArray] w fun e w' => e = .returned (.int .i64 0) ∧ Ext w w' := by
  have h1 := may_any (w := w) (v := ⟨s, i, [], l, 0⟩) (a := a) (cap := c) ⟨Nat.zero_le _, hc, fun j u hu => by simp [wordCells] at hu⟩ (by show (0 : Nat) < _; omega)
  have h2 : mayV ⟨s, i, [], l, 0⟩ = 0 := by
    rcases h with ⟨rfl, rfl, rfl⟩ | ⟨rfl, rfl, rfl⟩
    · cases b <;> rfl
    · cases b <;> rfl
  rw [h2] at h1
  exact h1
set_option maxRecDepth 100000 in
set_option maxHeartbeats 1000000 in
theorem both0 {s l1 l2 : Int} {i1 i2 b1 b2 : Bool} (a1 a2 : Option Addr) (c1 c2 : Nat) (hc1 : c1 ≤ maxLen) (hc2 : c2 ≤ maxLen) (h1 : Ok0 s i1 l1 b1) (h2 : Ok0 s i2 l2 b2) (w : World) :
    Calls Tryz.prog 197 #[.agg (V5 s i1 a1 c1 l1).toArray, .agg (V5 s i2 a2 c2 l2).toArray] w fun e w' => e = .returned (.int .i64 0) ∧ Ext w w' := by
  have M1 := Lib.hid (fun W => may0 a1 c1 hc1 h1 W)
  have M2 := Lib.hid (fun W => may0 a2 c2 hc2 h2 W)
  unfold V5 at *
  have hb := Blk.new w #[.int .i64 s, .bool i1, .slice a1 0 c1, .int .i64 l1, .float .f64 0] 38
  have hw1 : Ext w (w.alloc (.cells #[.int .i64 s, .bool i1, .slice a1 0 c1, .int .i64 l1, .float .f64 0] 38)) := (Chg.refl w).alloc _
  have hb2 := Blk.new (w.alloc (.cells #[.int .i64 s, .bool i1, .slice a1 0 c1, .int .i64 l1, .float .f64 0] 38)) #[.int .i64 s, .bool i2, .slice a2 0 c2, .int .i64 l2, .float .f64 0] 38
  have hb1 := hb.chg ((Chg.refl (S := fun _ => False) _).alloc (.cells #[.int .i64 s, .bool i2, .slice a2 0 c2, .int .i64 l2, .float .f64 0] 38)) (fun h => h)
  have hw2 := hw1.alloc (.cells #[.int .i64 s, .bool i2, .slice a2 0 c2, .int .i64 l2, .float .f64 0] 38)
  rw [World.size_alloc] at hb2
  have HB := Lib.hid (And.intro hb1 (And.intro hb2 hw2))
  clear hb hw1 hb1 hb2 hw2 hc1 hc2 h1 h2
  go_enter Tryz.func197, Tryz.ntmps197
  go_wp2_with fail
  refine (M1.out _).mono ?_
  rintro e w2 ⟨rfl, hx⟩
  have HX := Lib.hid hx
  obtain ⟨b0, -, b1, -, b2, -, b3, -, b4, -⟩ := blk5_base (HB.out.1.chg hx (fun h => h))
  obtain ⟨d0, -, d1, -, d2, -, d3, -, d4, -⟩ := blk5_base (HB.out.2.1.chg hx (fun h => h))
  clear hx
  go_wp2_with fail
  refine (M2.out _).mono ?_
  rintro e w3 ⟨rfl, hx⟩
  clear b0 b1 b2 b3 b4 d0 d1 d2 d3 d4
  have HX3 := Lib.hid (HX.out.trans hx)
  obtain ⟨b0, -, b1, -, b2, -, b3, -, b4, -⟩ := blk5_base (HB.out.1.chg HX3.out (fun h => h))
  obtain ⟨d0, -, d1, -, d2, -, d3, -, d4, -⟩ := blk5_base (HB.out.2.1.chg HX3.out (fun h => h))
  clear hx
  go_wp2_with fail
  go_ret
  exact ⟨rfl, HB.out.2.2.trans HX3.out⟩
set_option maxRecDepth 100000 in
set_option maxHeartbeats 1000000 in
theorem least_any (s : Int) (hs : s = 2 ∨ s = 3) (w : World) : Calls Tryz.prog 83 #[.int .i64 s] w (BvPost s false w) := by
  have hb := Blk.new w #[.int .i64 0, .bool false, .slice none 0 0, .int .i64 0, .float .f64 0] 38
  have hw1 : Ext w (w.alloc (.cells #[.int .i64 0, .bool false, .slice none 0 0, .int .i64 0, .float .f64 0] 38)) := (Chg.refl w).alloc _
  have HI := Lib.hid natInf_any
  rcases hs with rfl | rfl
  · obtain ⟨q0, -, q1, -, q2, -, q3, -, q4, -⟩ := blk5_base (Blk.new w #[.int .i64 2, .bool false, .slice none 0 0, .int .i64 0, .float .f64 0] 38)
    clear hb hw1
    have hsf := run_store_f
    go_enter Tryz.func83, Tryz.ntmps83
    go_wp2_with fail
    try simp only [Exit.inBlock, Exit.then]
    refine bodyPost_ret (by simp [results, Tryz.results83, go_sem, q0, q1, q2, q3, q4]; try rfl) rfl ?_
    exact ⟨V5 2 false none 0 0, rfl, ⟨_, _, _, _, rfl, by unfold maxLen; omega, .inl ⟨rfl, rfl, rfl⟩⟩, (Chg.refl w).alloc _⟩
  · have HB := Lib.hid (And.intro hb hw1)
    clear hb hw1
    have hsf := run_store_f
    go_enter Tryz.func83, Tryz.ntmps83
    go_wp2_with fail
    refine (HI.out _).mono ?_
    rintro e w2 ⟨rfl, hx⟩
    have kb := HB.out.1.chg hx (fun h => h)
    obtain ⟨g0, f0, g1, f1, g2, f2, g3, f3, g4, f4⟩ := blk5_base kb
    obtain ⟨y3, z3, y4, z4, q0, q1, q2, q3, q4⟩ := blk5_facts kb (.int .i64 3) (.bool true) (.slice none 0 0) (.int .i64 0) (.float .f64 0)
    have HX := Lib.hid (HB.out.2.trans hx)
    clear hx kb
    go_wp2_with fail
    try simp only [Exit.inBlock, Exit.then]
    refine bodyPost_ret (by simp [results, Tryz.results83, go_sem, q0, q1, q2, q3, q4]; try rfl) rfl ?_
    exact ⟨V5 3 true none 0 0, rfl, ⟨_, _, _, _, rfl, by unfold maxLen; omega, .inr ⟨rfl, rfl, rfl⟩⟩, (((((HX.out.setCell _ _ (by simp)).setCell _ _ (by simp)).setCell _ _ (by simp)).setCell _ _ (by simp)).setCell _ _ (by simp))⟩
set_option maxRecDepth 100000 in
set_option maxHeartbeats 1000000 in
theorem semiWhole_any (s : Int) (hs : s = 2 ∨ s = 3) (w : World) : Calls Tryz.prog 202 #[.int .i64 s] w (BvPost s true w) := by
  have HT := Lib.hid (fun W => top_any 2 W)
  rw [if_pos rfl] at HT
  rcases hs with rfl | rfl
  · obtain ⟨q0, -, q1, -, q2, -, q3, -, q4, -⟩ := blk5_base (Blk.new w #[.int .i64 2, .bool false, .slice none 0 0, .int .i64 1, .float .f64 0] 38)
    have hsf := run_store_f
    go_enter Tryz.func202, Tryz.ntmps202
    go_wp2_with fail
    refine (HT.out _).mono ?_
    rintro e w9 ⟨rfl, h9⟩
    subst w9
    go_wp2_with fail
    try simp only [Exit.inBlock, Exit.then]
    refine bodyPost_ret (by simp [results, Tryz.results202, go_sem, q0, q1, q2, q3, q4]; try rfl) rfl ?_
    exact ⟨V5 2 false none 0 1, rfl, ⟨_, _, _, _, rfl, by unfold maxLen; omega, .inl ⟨rfl, rfl, rfl⟩⟩, (Chg.refl w).alloc _⟩
  · obtain ⟨q0, -, q1, -, q2, -, q3, -, q4, -⟩ := blk5_base (Blk.new w #[.int .i64 3, .bool false, .slice none 0 0, .int .i64 0, .float .f64 0] 38)
    have hsf := run_store_f
    go_enter Tryz.func202, Tryz.ntmps202
    go_wp2_with fail
    try simp only [Exit.inBlock, Exit.then]
    refine bodyPost_ret (by simp [results, Tryz.results202, go_sem, q0, q1, q2, q3, q4]; try rfl) rfl ?_
    exact ⟨V5 3 false none 0 0, rfl, ⟨_, _, _, _, rfl, by unfold maxLen; omega, .inr ⟨rfl, rfl, rfl⟩⟩, (Chg.refl w).alloc _⟩
end Go.Proofs.YtkhllknahjmciaaGreat

/-! Values (chapter 4) that are 0 or 1: products, sums, sameness. -/
namespace Go.Proofs.YtkhllknahjmciaaGreat
open Go.RowKit
set_option linter.unusedVariables false
set_option linter.unusedSimpArgs false

set_option maxRecDepth 100000 in
set_option maxHeartbeats 1000000 in
theorem zero_any (s : Int) (hs : s = 2 ∨ s = 3) (w : World) : Calls Tryz.prog 43 #[.int .i64 s] w (BvPost2 s false w) := by
  have hb := Blk.new w #[.int .i64 0, .bool false, .slice none 0 0, .int .i64 0, .float .f64 0] 38
  have hw1 : Ext w (w.alloc (.cells #[.int .i64 0, .bool false, .slice none 0 0, .int .i64 0, .float .f64 0] 38)) := (Chg.refl w).alloc _
  have HK := Lib.hid (fun W => known_any s W true (by simp; omega))
  have HL := Lib.hid (fun W => least_any s hs W)
  have HB := Lib.hid (And.intro hb hw1)
  have hsf := run_store_f
  clear hb hw1 hs
  go_enter Tryz.func43, Tryz.ntmps43
  go_wp2_with fail
  refine (HK.out _).mono ?_
  rintro e w9 ⟨rfl, h9⟩
  subst w9
  go_wp2_with fail
  refine (HL.out _).mono ?_
  rintro e w2 ⟨cs, rfl, ⟨i, a, c, l, rfl, hc, hok⟩, hx⟩
  unfold V5
  have kb := HB.out.1.chg hx (fun h => h)
  obtain ⟨g0, f0, g1, f1, g2, f2, g3, f3, g4, f4⟩ := blk5_base kb
  obtain ⟨y3, z3, y4, z4, q0, q1, q2, q3, q4⟩ := blk5_facts kb (.int .i64 s) (.bool i) (.slice a 0 c) (.int .i64 l) (.float .f64 0)
  have HX := Lib.hid (HB.out.2.trans hx)
  have HO := Lib.hid (And.intro hc hok)
  clear hx kb hc hok
  go_wp2_with fail
  try simp only [Exit.inBlock, Exit.then]
  refine bodyPost_ret (by simp [results, Tryz.results43, go_sem, q0, q1, q2, q3, q4]; try rfl) rfl ?_
  exact ⟨V5 s i a c l, rfl, ⟨_, _, _, _, rfl, HO.out.1, HO.out.2⟩, (((((HX.out.setCell _ _ (by simp <;> omega)).setCell _ _ (by simp <;> omega)).setCell _ _ (by simp <;> omega)).setCell _ _ (by simp <;> omega)).setCell _ _ (by simp <;> omega))⟩

set_option maxRecDepth 100000 in
set_option maxHeartbeats 1000000 in
theorem one_any (s : Int) (hs : s = 2 ∨ s = 3) (w : World) : Calls Tryz.prog 143 #[.int .i64 s] w (BvPost2 s true w) := by
  have hb := Blk.new w #[.int .i64 0, .bool false, .slice none 0 0, .int .i64 0, .float .f64 0] 38
  have hw1 : Ext w (w.alloc (.cells #[.int .i64 0, .bool false, .slice none 0 0, .int .i64 0, .float .f64 0] 38)) := (Chg.refl w).alloc _
  have HK := Lib.hid (fun W => known_any s W true (by simp; omega))
  have HL := Lib.hid (fun W => semiWhole_any s hs W)
  have HB := Lib.hid (And.intro hb hw1)
  have hsf := run_store_f
  clear hb hw1 hs
  go_enter Tryz.func143, Tryz.ntmps143
  go_wp2_with fail
  refine (HK.out _).mono ?_
  rintro e w9 ⟨rfl, h9⟩
  subst w9
  go_wp2_with fail
  refine (HL.out _).mono ?_
  rintro e w2 ⟨cs, rfl, ⟨i, a, c, l, rfl, hc, hok⟩, hx⟩
  unfold V5
  have kb := HB.out.1.chg hx (fun h => h)
  obtain ⟨g0, f0, g1, f1, g2, f2, g3, f3, g4, f4⟩ := blk5_base kb
  obtain ⟨y3, z3, y4, z4, q0, q1, q2, q3, q4⟩ := blk5_facts kb (.int .i64 s) (.bool i) (.slice a 0 c) (.int .i64 l) (.float .f64 0)
  have HX := Lib.hid (HB.out.2.trans hx)
  have HO := Lib.hid (And.intro hc hok)
  clear hx kb hc hok
  go_wp2_with fail
  try simp only [Exit.inBlock, Exit.then]
  refine bodyPost_ret (by simp [results, Tryz.results143, go_sem, q0, q1, q2, q3, q4]; try rfl) rfl ?_
  exact ⟨V5 s i a c l, rfl, ⟨_, _, _, _, rfl, HO.out.1, HO.out.2⟩, (((((HX.out.setCell _ _ (by simp <;> omega)).setCell _ _ (by simp <;> omega)).setCell _ _ (by simp <;> omega)).setCell _ _ (by simp <;> omega)).setCell _ _ (by simp <;> omega))⟩

set_option maxRecDepth 100000 in
set_option maxHeartbeats 1000000 in
theorem times0 {s l1 l2 : Int} {i1 i2 b1 b2 : Bool} (a1 a2 : Option Addr) (c1 c2 : Nat) (hc1 : c1 ≤ maxLen) (hc2 : c2 ≤ maxLen) (h1 : Ok0 s i1 l1 b1) (h2 : Ok0 s i2 l2 b2) (w : World) :
    Calls Tryz.prog 142 #[.agg (V5 s i1 a1 c1 l1).toArray, .agg (V5 s i2 a2 c2 l2).toArray] w (BvPost2 s (b1 && b2) w) := by
  have HBo := Lib.hid (fun W => both0 a1 a2 c1 c2 hc1 hc2 h1 h2 W)
  have HA := Lib.hid (fun W => natAdd0 i1 i2 a1 a2 c1 c2 hc1 hc2 W)
  unfold V5 at *
  have hb := Blk.new w #[.int .i64 s, .bool i1, .slice a1 0 c1, .int .i64 l1, .float .f64 0] 38
  have hw1 : Ext w (w.alloc (.cells #[.int .i64 s, .bool i1, .slice a1 0 c1, .int .i64 l1, .float .f64 0] 38)) := (Chg.refl w).alloc _
  have hb2 := Blk.new (w.alloc (.cells #[.int .i64 s, .bool i1, .slice a1 0 c1, .int .i64 l1, .float .f64 0] 38)) #[.int .i64 s, .bool i2, .slice a2 0 c2, .int .i64 l2, .float .f64 0] 38
  have hw2 := hw1.alloc (.cells #[.int .i64 s, .bool i2, .slice a2 0 c2, .int .i64 l2, .float .f64 0] 38)
  obtain ⟨W0, hW0⟩ : ∃ W0, ((w.alloc (.cells #[.int .i64 s, .bool i1, .slice a1 0 c1, .int .i64 l1, .float .f64 0] 38)).alloc (.cells #[.int .i64 s, .bool i2, .slice a2 0 c2, .int .i64 l2, .float .f64 0] 38)).alloc (.cells #[.int .i64 0, .bool false, .slice none 0 0, .int .i64 0, .float .f64 0] 38) = W0 := ⟨_, rfl⟩
  have hb3 := Blk.new ((w.alloc (.cells #[.int .i64 s, .bool i1, .slice a1 0 c1, .int .i64 l1, .float .f64 0] 38)).alloc (.cells #[.int .i64 s, .bool i2, .slice a2 0 c2, .int .i64 l2, .float .f64 0] 38)) #[.int .i64 0, .bool false, .slice none 0 0, .int .i64 0, .float .f64 0] 38
  have kb1 := (hb.chg ((Chg.refl (S := fun _ => False) _).alloc (.cells #[.int .i64 s, .bool i2, .slice a2 0 c2, .int .i64 l2, .float .f64 0] 38)) (fun h => h)).chg ((Chg.refl (S := fun _ => False) _).alloc (.cells #[.int .i64 0, .bool false, .slice none 0 0, .int .i64 0, .float .f64 0] 38)) (fun h => h)
  have kb2 := hb2.chg ((Chg.refl (S := fun _ => False) _).alloc (.cells #[.int .i64 0, .bool false, .slice none 0 0, .int .i64 0, .float .f64 0] 38)) (fun h => h)
  have hw3 := hw2.alloc (.cells #[.int .i64 0, .bool false, .slice none 0 0, .int .i64 0, .float .f64 0] 38)
  rw [hW0] at kb1 kb2 hb3 hw3
  simp only [World.size_alloc] at kb1 kb2 hb3
  have HW := Lib.hid hW0
  have HB := Lib.hid (And.intro kb1 (And.intro kb2 (And.intro hb3 hw3)))
  have hsf := run_store_f
  clear hb hb2 hw1 hw2 hb3 kb1 kb2 hw3 hW0 hc1 hc2
  go_enter Tryz.func142, Tryz.ntmps142
  go_wp2_with fail
  rw [HW.out]
  refine (HBo.out _).mono ?_
  rintro e w2 ⟨rfl, hx⟩
  rcases h1 with ⟨rfl, rfl, e1⟩ | ⟨rfl, rfl, rfl⟩
  · rcases h2 with ⟨-, rfl, e2⟩ | ⟨h2, -⟩
    · obtain ⟨m, hm⟩ : ∃ m, (if (b1 && b2) then (1 : Int) else 0) = m := ⟨_, rfl⟩
      have hmin : (if l2 < l1 then l2 else l1) = m := by rw [← hm, e1, e2]; cases b1 <;> cases b2 <;> rfl
      have HM := Lib.hid hm
      clear hm e1 e2
      have hlt : W0.heap.size ≤ w2.heap.size := hx.size
      have kA := Blk.new w2 #[.int .i64 2, .bool false, .slice none 0 0, .int .i64 0, .float .f64 0] 38
      have hxa := hx.alloc (.cells #[.int .i64 2, .bool false, .slice none 0 0, .int .i64 0, .float .f64 0] 38)
      obtain ⟨u0, -⟩ := blk5_base (HB.out.1.chg hx (fun h => h))
      have ka1 := HB.out.1.chg hxa (fun h => h)
      have ka2 := HB.out.2.1.chg hxa (fun h => h)
      obtain ⟨y0, -, y1, -, y2, -, y3, -, y4, -⟩ := blk5_base ka1
      obtain ⟨z0, -, z1, -, z2, -, z3, -, z4, -⟩ := blk5_base ka2
      obtain ⟨x0, xf0, x1, xf1, x2, xf2, x3, xf3, x4, xf4⟩ := blk5_base kA
      clear ka1 ka2
      have kA2 := Blk.new w2 #[.int .i64 2, .bool false, .slice none 0 0, .int .i64 m, .float .f64 0] 38
      try simp only [Array.setIfInBounds, List.size_toArray, List.length_cons, List.length_nil] at kA2
      obtain ⟨v0, -, v1, -, v2, -, v3, -, v4, -⟩ := blk5_base kA2
      have hxb := hx.alloc (.cells #[.int .i64 2, .bool false, .slice none 0 0, .int .i64 m, .float .f64 0] 38)
      have kB := HB.out.2.2.1.chg hxb (fun h => h)
      clear kA2
      obtain ⟨g0, f0, g1, f1, g2, f2, g3, f3, g4, f4⟩ := blk5_base kB
      obtain ⟨y3, z3, y4, z4, q0, q1, q2, q3, q4⟩ := blk5_facts kB (.int .i64 2) (.bool false) (.slice none 0 0) (.int .i64 m) (.float .f64 0)
      have HX := Lib.hid (HB.out.2.2.2.trans hxb)
      clear hxb kB hlt

      clear hx kA hxa HBo HA HW HB
      go_wp2_with fail
      try simp only [Exit.inBlock, Exit.then]
      refine bodyPost_ret (by simp [results, Tryz.results142, go_sem, q0, q1, q2, q3, q4]; try rfl) rfl ?_
      exact ⟨V5 2 false none 0 m, rfl, ⟨_, _, _, _, rfl, by unfold maxLen; omega, .inl ⟨rfl, rfl, HM.out.symm⟩⟩, (((((HX.out.setCell _ _ (by simp <;> omega)).setCell _ _ (by simp <;> omega)).setCell _ _ (by simp <;> omega)).setCell _ _ (by simp <;> omega)).setCell _ _ (by simp <;> omega))⟩
    · omega
  · rcases h2 with ⟨h2, -⟩ | ⟨-, rfl, rfl⟩
    · omega
    · have hlt : W0.heap.size ≤ w2.heap.size := hx.size
      have kA := Blk.new w2 #[.int .i64 3, .bool false, .slice none 0 0, .int .i64 0, .float .f64 0] 38
      have hxa := hx.alloc (.cells #[.int .i64 3, .bool false, .slice none 0 0, .int .i64 0, .float .f64 0] 38)
      obtain ⟨u0, -⟩ := blk5_base (HB.out.1.chg hx (fun h => h))
      have ka1 := HB.out.1.chg hxa (fun h => h)
      have ka2 := HB.out.2.1.chg hxa (fun h => h)
      obtain ⟨y0, -, y1, -, y2, -, y3, -, y4, -⟩ := blk5_base ka1
      obtain ⟨z0, -, z1, -, z2, -, z3, -, z4, -⟩ := blk5_base ka2
      obtain ⟨x0, xf0, x1, xf1, x2, xf2, x3, xf3, x4, xf4⟩ := blk5_base kA
      clear ka1 ka2
      have HL := Lib.hid (And.intro kA (And.intro hxa hlt))
      clear hx kA hxa hlt
      go_wp2_with fail
      refine (HA.out _).mono ?_
      rintro e w3 ⟨a, c, rfl, hc, h3⟩
      have h4 := HL.out.2.1.trans h3
      have hlt : W0.heap.size ≤ w2.heap.size := HL.out.2.2
      have kA3 := HL.out.1.chg h3 (fun h => h)
      clear y0 y1 y2 y3 y4 z0 z1 z2 z3 z4 x0 xf0 x1 xf1 x2 xf2 x3 xf3 x4 xf4 u0
      obtain ⟨x0, xf0, x1, xf1, x2, xf2, x3, xf3, x4, xf4⟩ := blk5_base kA3
      have kA2 := (kA3.set 1 (.bool (!b1 || !b2))).set 2 (.slice a 0 c)
      try simp only [Array.setIfInBounds, List.size_toArray, List.length_cons, List.length_nil] at kA2
      obtain ⟨v0, -, v1, -, v2, -, v3, -, v4, -⟩ := blk5_base kA2
      have hxb := (h4.setCell ⟨w2.heap.size, 1, none⟩ (.bool (!b1 || !b2)) (by simp <;> omega)).setCell ⟨w2.heap.size, 2, none⟩ (.slice a 0 c) (by simp <;> omega)
      have kB := HB.out.2.2.1.chg hxb (fun h => h)
      clear kA2
      obtain ⟨g0, f0, g1, f1, g2, f2, g3, f3, g4, f4⟩ := blk5_base kB
      obtain ⟨y3, z3, y4, z4, q0, q1, q2, q3, q4⟩ := blk5_facts kB (.int .i64 3) (.bool (!b1 || !b2)) (.slice a 0 c) (.int .i64 0) (.float .f64 0)
      have HX := Lib.hid (HB.out.2.2.2.trans hxb)
      clear hxb kB hlt

      have HO := Lib.hid hc
      clear hc h3 h4 kA3 HBo HA HW HB
      go_wp2_with fail
      try simp only [Exit.inBlock, Exit.then]
      refine bodyPost_ret (by simp [results, Tryz.results142, go_sem, q0, q1, q2, q3, q4]; try rfl) rfl ?_
      exact ⟨V5 3 (!b1 || !b2) a c 0, rfl, ⟨_, _, _, _, rfl, HO.out, .inr ⟨rfl, by cases b1 <;> cases b2 <;> rfl, rfl⟩⟩, (((((HX.out.setCell _ _ (by simp <;> omega)).setCell _ _ (by simp <;> omega)).setCell _ _ (by simp <;> omega)).setCell _ _ (by simp <;> omega)).setCell _ _ (by simp <;> omega))⟩
end Go.Proofs.YtkhllknahjmciaaGreat

/-! Values (chapter 4) that are 0 or 1: sums, sameness, which is better. -/
namespace Go.Proofs.YtkhllknahjmciaaGreat
open Go.RowKit
set_option linter.unusedVariables false
set_option linter.unusedSimpArgs false

set_option maxRecDepth 100000 in
set_option maxHeartbeats 1000000 in
theorem own0 {s l : Int} {i b : Bool} (a : Option Addr) (c : Nat) (hc : c ≤ maxLen) (h : Ok0 s i l b) (w : World) :
    Calls Tryz.prog 274 #[.agg (V5 s i a c l).toArray] w (BvPost s b w) := by
  have HN := Lib.hid (fun W => isNat_any s W _ rfl)
  have HL := Lib.hid (fun W => isLevel_any s W _ rfl)
  have HC := Lib.hid (fun W => cloneU_any [] W a 0 c rfl ⟨Nat.zero_le _, hc, fun j u hu => by simp at hu⟩ (by simp) (by omega))
  unfold V5 at *
  have hb := Blk.new w #[.int .i64 s, .bool i, .slice a 0 c, .int .i64 l, .float .f64 0] 38
  have hw1 : Ext w (w.alloc (.cells #[.int .i64 s, .bool i, .slice a 0 c, .int .i64 l, .float .f64 0] 38)) := (Chg.refl w).alloc _
  obtain ⟨W0, hW0⟩ : ∃ W0, (w.alloc (.cells #[.int .i64 s, .bool i, .slice a 0 c, .int .i64 l, .float .f64 0] 38)).alloc (.cells #[.int .i64 0, .bool false, .slice none 0 0, .int .i64 0, .float .f64 0] 38) = W0 := ⟨_, rfl⟩
  have hb3 := Blk.new (w.alloc (.cells #[.int .i64 s, .bool i, .slice a 0 c, .int .i64 l, .float .f64 0] 38)) #[.int .i64 0, .bool false, .slice none 0 0, .int .i64 0, .float .f64 0] 38
  have kb1 := hb.chg ((Chg.refl (S := fun _ => False) _).alloc (.cells #[.int .i64 0, .bool false, .slice none 0 0, .int .i64 0, .float .f64 0] 38)) (fun h => h)
  have hw3 := hw1.alloc (.cells #[.int .i64 0, .bool false, .slice none 0 0, .int .i64 0, .float .f64 0] 38)
  rw [hW0] at kb1 hb3 hw3
  simp only [World.size_alloc] at kb1 hb3
  have HW := Lib.hid hW0
  have HB := Lib.hid (And.intro kb1 (And.intro hb3 hw3))
  have HG := Lib.hid (blk5_base kb1)
  have hsf := run_store_f
  clear hb hw1 hb3 kb1 hw3 hW0
  rcases h with ⟨rfl, rfl, e1⟩ | ⟨rfl, rfl, rfl⟩
  · have HE := Lib.hid e1
    clear e1
    rw [show decide ((2 : Int) = 1 ∨ (2 : Int) = 3) = false from rfl] at HN
    rw [show decide ((2 : Int) = 2 ∨ (2 : Int) = 4) = true from rfl] at HL
    go_enter Tryz.func274, Tryz.ntmps274
    go_wp2_with fail
    rw [HW.out]
    obtain ⟨x0, -, x1, -, x2, -, x3, -, x4, -⟩ := HG.out
    go_wp2_with fail
    refine (HN.out _).mono ?_
    rintro e w9 ⟨rfl, h9⟩
    subst w9
    go_wp2_with fail
    refine (HL.out _).mono ?_
    rintro e w9 ⟨rfl, h9⟩
    subst w9
    obtain ⟨g0, f0, g1, f1, g2, f2, g3, f3, g4, f4⟩ := blk5_base HB.out.2.1
    obtain ⟨y3, z3, y4, z4, q0, q1, q2, q3, q4⟩ := blk5_facts HB.out.2.1 (.int .i64 2) (.bool false) (.slice none 0 0) (.int .i64 l) (.float .f64 0)
    go_wp2_with fail
    try simp only [Exit.inBlock, Exit.then]
    refine bodyPost_ret (by simp [results, Tryz.results274, go_sem, q0, q1, q2, q3, q4]; try rfl) rfl ?_
    exact ⟨V5 2 false none 0 l, rfl, ⟨_, _, _, _, rfl, by unfold maxLen; omega, .inl ⟨rfl, rfl, HE.out⟩⟩, (((((HB.out.2.2.setCell _ _ (by simp <;> omega)).setCell _ _ (by simp <;> omega)).setCell _ _ (by simp <;> omega)).setCell _ _ (by simp <;> omega)).setCell _ _ (by simp <;> omega))⟩
  · rw [show decide ((3 : Int) = 1 ∨ (3 : Int) = 3) = true from rfl] at HN
    go_enter Tryz.func274, Tryz.ntmps274
    go_wp2_with fail
    rw [HW.out]
    obtain ⟨x0, -, x1, -, x2, -, x3, -, x4, -⟩ := HG.out
    go_wp2_with fail
    refine (HN.out _).mono ?_
    rintro e w9 ⟨rfl, h9⟩
    subst w9
    go_wp2_with fail
    have HCs := Lib.hid (fun W (hW : Chg (fun b => b = w.heap.size + 1) W0 W) => let k := blk5_base (HB.out.1.chg hW (by omega)); And.intro k.1 (And.intro k.2.2.1 k.2.2.2.2.1))
    go_region_held3 (fun v => v.cell? ⟨w.heap.size, 0, none⟩ = some (.int .i64 3) ∧ v.cell? ⟨w.heap.size, 1, none⟩ = some (.bool (!b)) ∧ v.cell? ⟨w.heap.size, 2, none⟩ = some (.slice a 0 c)) (first | with_reducible exact HCs.out _ (Chg.refl (S := fun b => b = w.heap.size + 1) W0).drew | with_reducible exact HCs.out _ HU.out.2.2 | with_reducible exact HCs.out _ HS5.out) ((go_at_call 244; refine (HC.out _).mono ?_; rintro e w2 ⟨v2, rfl, u1, u2⟩; obtain ⟨a2, cap2, rfl⟩ := own_slice u1; have hx2 := (Chg.refl (S := fun _ => False) W0).drew.trans u2; have HU := Lib.hid (And.intro u1 (And.intro hx2 (show Chg (fun b => b = w.heap.size + 1) W0 w2 from hx2.mono fun _ _ h => h.elim))); have kB := HB.out.2.1.chg hx2 (fun h => h); obtain ⟨g0, f0, g1, f1, g2, f2, g3, f3, g4, f4⟩ := blk5_base kB; obtain ⟨y3, z3, y4, z4, q0, q1, q2, q3, q4⟩ := blk5_facts kB (.int .i64 3) (.bool (!b)) (.slice a2 0 cap2) (.int .i64 0) (.float .f64 0); have HS5 := Lib.hid (set_chg (p := w.heap.size + 1) (j := 4) (c := .float .f64 0) (set_chg (p := w.heap.size + 1) (j := 3) (c := .int .i64 0) (set_chg (p := w.heap.size + 1) (j := 2) (c := .slice a2 0 cap2) (set_chg (p := w.heap.size + 1) (j := 1) (c := .bool (!b)) (set_chg (p := w.heap.size + 1) (j := 0) (c := .int .i64 3) HU.out.2.2))))); clear u1 u2 hx2 kB))
    go_wp2_with fail
    all_goals
      try simp only [Exit.inBlock, Exit.then]
      refine bodyPost_ret (by simp [results, Tryz.results274, go_sem, q0, q1, q2, q3, q4]; try rfl) rfl ?_
      exact ⟨V5 3 (!b) a2 cap2 0, rfl, ⟨_, _, _, _, rfl, (Cells.of_own HU.out.1).2.1, .inr ⟨rfl, rfl, rfl⟩⟩, (((((Chg.trans HB.out.2.2 HU.out.2.1).setCell _ _ (by simp <;> omega)).setCell _ _ (by simp <;> omega)).setCell _ _ (by simp <;> omega)).setCell _ _ (by simp <;> omega)).setCell _ _ (by simp <;> omega)⟩
set_option maxRecDepth 100000 in
set_option maxHeartbeats 1000000 in
theorem cheaper0 (i j : Bool) (a b : Option Addr) (c d : Nat) (hc : c ≤ maxLen) (hd : d ≤ maxLen) (w : World) :
    Calls Tryz.prog 273 #[.agg #[.bool i, .slice a 0 c], .agg #[.bool j, .slice b 0 d]] w (NatPost (i && j) w) := by
  have HC := Lib.hid (fun W => natCmp0 j i b a d c hd hc W)
  have hw2 : Ext w ((w.alloc (.cells #[.bool i, .slice a 0 c] 35)).alloc (.cells #[.bool j, .slice b 0 d] 35)) := ((Chg.refl w).alloc _).alloc _
  have hb := Blk.new w #[.bool i, .slice a 0 c] 35
  have hb2 := Blk.new (w.alloc (.cells #[.bool i, .slice a 0 c] 35)) #[.bool j, .slice b 0 d] 35
  have hb3 := Blk.new ((w.alloc (.cells #[.bool i, .slice a 0 c] 35)).alloc (.cells #[.bool j, .slice b 0 d] 35)) #[.bool false, .slice none 0 0] 35
  have kb1 := (hb.chg ((Chg.refl (S := fun _ => False) _).alloc (.cells #[.bool j, .slice b 0 d] 35)) (fun h => h)).chg ((Chg.refl (S := fun _ => False) _).alloc (.cells #[.bool false, .slice none 0 0] 35)) (fun h => h)
  have kb2 := hb2.chg ((Chg.refl (S := fun _ => False) _).alloc (.cells #[.bool false, .slice none 0 0] 35)) (fun h => h)
  have hw3 := hw2.alloc (.cells #[.bool false, .slice none 0 0] 35)
  obtain ⟨W0, hW0⟩ : ∃ W0, ((w.alloc (.cells #[.bool i, .slice a 0 c] 35)).alloc (.cells #[.bool j, .slice b 0 d] 35)).alloc (.cells #[.bool false, .slice none 0 0] 35) = W0 := ⟨_, rfl⟩
  rw [hW0] at kb1 kb2 hb3 hw3
  simp only [World.size_alloc] at kb1 kb2 hb3
  have HW := Lib.hid hW0
  have HB := Lib.hid (And.intro kb1 (And.intro kb2 (And.intro hb3 hw3)))
  have HO := Lib.hid (And.intro hc hd)
  clear hw2 hb hb2 hb3 kb1 kb2 hw3 hW0 hc hd
  go_enter Tryz.func273, Tryz.ntmps273
  go_wp2_with fail
  rw [HW.out]
  refine (HC.out _).mono ?_
  rintro e w2 ⟨rfl, hx⟩
  obtain ⟨y0, -, y1, -⟩ := blk2_base (HB.out.1.chg hx (fun h => h))
  obtain ⟨z0, -, z1, -⟩ := blk2_base (HB.out.2.1.chg hx (fun h => h))
  have kc := HB.out.2.2.1.chg hx (fun h => h)
  obtain ⟨x0, xf0, x1, xf1⟩ := blk2_base kc
  have HX := Lib.hid (HB.out.2.2.2.trans hx)
  have hcmp : decide (cmpInf j i < 0) = (i && !j) := by cases i <;> cases j <;> rfl
  cases hij : (i && !j)
  · rw [hij] at hcmp
    have h1 : ¬ (cmpInf j i < 0) := of_decide_eq_false hcmp
    have HE : Hid (i = (i && j)) := Lib.hid (by revert hij; cases i <;> cases j <;> simp)
    generalize cmpInf j i = z at *
    obtain ⟨q0, q1⟩ := blk2_facts kc (.bool i) (.slice a 0 c)
    clear hx kc hij hcmp
    go_wp2_with fail
    try simp only [Exit.inBlock, Exit.then]
    refine bodyPost_ret (by simp [results, Tryz.results273, go_sem, q0, q1]; try rfl) rfl ?_
    exact ⟨_, _, by rw [← HE.out], HO.out.1, (HX.out.setCell _ _ (by simp <;> omega)).setCell _ _ (by simp <;> omega)⟩
  · rw [hij] at hcmp
    have h1 : cmpInf j i < 0 := of_decide_eq_true hcmp
    have HE : Hid (j = (i && j)) := Lib.hid (by revert hij; cases i <;> cases j <;> simp)
    generalize cmpInf j i = z at *
    obtain ⟨q0, q1⟩ := blk2_facts kc (.bool j) (.slice b 0 d)
    clear hx kc hij hcmp
    go_wp2_with fail
    try simp only [Exit.inBlock, Exit.then]
    refine bodyPost_ret (by simp [results, Tryz.results273, go_sem, q0, q1]; try rfl) rfl ?_
    exact ⟨_, _, by rw [← HE.out], HO.out.2, (HX.out.setCell _ _ (by simp <;> omega)).setCell _ _ (by simp <;> omega)⟩
end Go.Proofs.YtkhllknahjmciaaGreat

/-! Values (chapter 4) that are 0 or 1: their sum. -/
namespace Go.Proofs.YtkhllknahjmciaaGreat
open Go.RowKit
set_option linter.unusedVariables false
set_option linter.unusedSimpArgs false

set_option maxRecDepth 100000 in
set_option maxHeartbeats 1000000 in
theorem plus0 {s l1 l2 : Int} {i1 i2 b1 b2 : Bool} (a1 a2 : Option Addr) (c1 c2 : Nat) (hc1 : c1 ≤ maxLen) (hc2 : c2 ≤ maxLen) (h1 : Ok0 s i1 l1 b1) (h2 : Ok0 s i2 l2 b2) (w : World) :
    Calls Tryz.prog 261 #[.agg (V5 s i1 a1 c1 l1).toArray, .agg (V5 s i2 a2 c2 l2).toArray] w (BvPost2 s (b1 || b2) w) := by
  have HBo := Lib.hid (fun W => both0 a1 a2 c1 c2 hc1 hc2 h1 h2 W)
  have HA := Lib.hid (fun W => cheaper0 i1 i2 a1 a2 c1 c2 hc1 hc2 W)
  have HO := Lib.hid (fun (i : Bool) (l : Int) (b : Bool) (a : Option Addr) (c : Nat) (hc : c ≤ maxLen) (h : Ok0 s i l b) W => own0 a c hc h W)
  unfold V5 at HBo ⊢
  have hb := Blk.new w #[.int .i64 s, .bool i1, .slice a1 0 c1, .int .i64 l1, .float .f64 0] 38
  have hw1 : Ext w (w.alloc (.cells #[.int .i64 s, .bool i1, .slice a1 0 c1, .int .i64 l1, .float .f64 0] 38)) := (Chg.refl w).alloc _
  have hb2 := Blk.new (w.alloc (.cells #[.int .i64 s, .bool i1, .slice a1 0 c1, .int .i64 l1, .float .f64 0] 38)) #[.int .i64 s, .bool i2, .slice a2 0 c2, .int .i64 l2, .float .f64 0] 38
  have hw2 := hw1.alloc (.cells #[.int .i64 s, .bool i2, .slice a2 0 c2, .int .i64 l2, .float .f64 0] 38)
  obtain ⟨W0, hW0⟩ : ∃ W0, ((w.alloc (.cells #[.int .i64 s, .bool i1, .slice a1 0 c1, .int .i64 l1, .float .f64 0] 38)).alloc (.cells #[.int .i64 s, .bool i2, .slice a2 0 c2, .int .i64 l2, .float .f64 0] 38)).alloc (.cells #[.int .i64 0, .bool false, .slice none 0 0, .int .i64 0, .float .f64 0] 38) = W0 := ⟨_, rfl⟩
  have hb3 := Blk.new ((w.alloc (.cells #[.int .i64 s, .bool i1, .slice a1 0 c1, .int .i64 l1, .float .f64 0] 38)).alloc (.cells #[.int .i64 s, .bool i2, .slice a2 0 c2, .int .i64 l2, .float .f64 0] 38)) #[.int .i64 0, .bool false, .slice none 0 0, .int .i64 0, .float .f64 0] 38
  have kb1 := (hb.chg ((Chg.refl (S := fun _ => False) _).alloc (.cells #[.int .i64 s, .bool i2, .slice a2 0 c2, .int .i64 l2, .float .f64 0] 38)) (fun h => h)).chg ((Chg.refl (S := fun _ => False) _).alloc (.cells #[.int .i64 0, .bool false, .slice none 0 0, .int .i64 0, .float .f64 0] 38)) (fun h => h)
  have kb2 := hb2.chg ((Chg.refl (S := fun _ => False) _).alloc (.cells #[.int .i64 0, .bool false, .slice none 0 0, .int .i64 0, .float .f64 0] 38)) (fun h => h)
  have hw3 := hw2.alloc (.cells #[.int .i64 0, .bool false, .slice none 0 0, .int .i64 0, .float .f64 0] 38)
  rw [hW0] at kb1 kb2 hb3 hw3
  simp only [World.size_alloc] at kb1 kb2 hb3
  have HW := Lib.hid hW0
  have HB := Lib.hid (And.intro kb1 (And.intro kb2 (And.intro hb3 hw3)))
  have hsf := run_store_f
  clear hb hb2 hw1 hw2 hb3 kb1 kb2 hw3 hW0 hc1 hc2
  go_enter Tryz.func261, Tryz.ntmps261
  go_wp2_with fail
  rw [HW.out]
  refine (HBo.out _).mono ?_
  rintro e w2 ⟨rfl, hx⟩
  rcases h1 with ⟨rfl, rfl, e1⟩ | ⟨rfl, rfl, rfl⟩
  · rcases h2 with ⟨-, rfl, e2⟩ | ⟨h2, -⟩
    · obtain ⟨m, hm⟩ : ∃ m, (if (b1 || b2) then (1 : Int) else 0) = m := ⟨_, rfl⟩
      have hmax : (if l2 > l1 then l2 else l1) = m := by rw [← hm, e1, e2]; cases b1 <;> cases b2 <;> rfl
      have HM := Lib.hid hm
      clear hm e1 e2
      have hlt : W0.heap.size ≤ w2.heap.size := hx.size
      have kA := Blk.new w2 #[.int .i64 2, .bool false, .slice none 0 0, .int .i64 0, .float .f64 0] 38
      have hxa := hx.alloc (.cells #[.int .i64 2, .bool false, .slice none 0 0, .int .i64 0, .float .f64 0] 38)
      obtain ⟨u0, -⟩ := blk5_base (HB.out.1.chg hx (fun h => h))
      have ka1 := HB.out.1.chg hxa (fun h => h)
      have ka2 := HB.out.2.1.chg hxa (fun h => h)
      obtain ⟨y0, -, y1, -, y2, -, y3, -, y4, -⟩ := blk5_base ka1
      obtain ⟨z0, -, z1, -, z2, -, z3, -, z4, -⟩ := blk5_base ka2
      obtain ⟨x0, xf0, x1, xf1, x2, xf2, x3, xf3, x4, xf4⟩ := blk5_base kA
      clear ka1 ka2
      have hxb := hx.alloc (.cells #[.int .i64 2, .bool false, .slice none 0 0, .int .i64 m, .float .f64 0] 38)
      have kA2 := Blk.new w2 #[.int .i64 2, .bool false, .slice none 0 0, .int .i64 m, .float .f64 0] 38
      obtain ⟨v0, -, v1, -, v2, -, v3, -, v4, -⟩ := blk5_base kA2
      have HL := Lib.hid (And.intro hxb hlt)
      have HOw := Lib.hid (fun W => HO.out false m (b1 || b2) none 0 (by unfold maxLen; omega) (.inl ⟨rfl, rfl, HM.out.symm⟩) W)
      unfold V5 at HOw
      clear hx kA hxa HBo HA HW hxb kA2 hlt HO
      go_wp2_with fail
      refine (HOw.out _).mono ?_
      rintro e w5 ⟨cs, rfl, ⟨i5, a5, c5, l5, rfl, hc5, hok5⟩, hx5⟩
      unfold V5
      have hxc := HL.out.1.trans hx5
      have kB := HB.out.2.2.1.chg hxc (fun h => h)
      obtain ⟨g0, f0, g1, f1, g2, f2, g3, f3, g4, f4⟩ := blk5_base kB
      obtain ⟨y3, z3, y4, z4, q0, q1, q2, q3, q4⟩ := blk5_facts kB (.int .i64 2) (.bool i5) (.slice a5 0 c5) (.int .i64 l5) (.float .f64 0)
      have HX := Lib.hid (HB.out.2.2.2.trans hxc)
      have HO5 := Lib.hid (And.intro hc5 hok5)
      clear hxc kB hx5 hc5 hok5
      go_wp2_with fail
      try simp only [Exit.inBlock, Exit.then]
      refine bodyPost_ret (by simp [results, Tryz.results261, go_sem, q0, q1, q2, q3, q4]; try rfl) rfl ?_
      exact ⟨V5 2 i5 a5 c5 l5, rfl, ⟨_, _, _, _, rfl, HO5.out.1, HO5.out.2⟩, (((((HX.out.setCell _ _ (by simp <;> omega)).setCell _ _ (by simp <;> omega)).setCell _ _ (by simp <;> omega)).setCell _ _ (by simp <;> omega)).setCell _ _ (by simp <;> omega))⟩

    · omega
  · rcases h2 with ⟨h2, -⟩ | ⟨-, rfl, rfl⟩
    · omega
    · have hlt : W0.heap.size ≤ w2.heap.size := hx.size
      have kA := Blk.new w2 #[.int .i64 3, .bool false, .slice none 0 0, .int .i64 0, .float .f64 0] 38
      have hxa := hx.alloc (.cells #[.int .i64 3, .bool false, .slice none 0 0, .int .i64 0, .float .f64 0] 38)
      obtain ⟨u0, -⟩ := blk5_base (HB.out.1.chg hx (fun h => h))
      have ka1 := HB.out.1.chg hxa (fun h => h)
      have ka2 := HB.out.2.1.chg hxa (fun h => h)
      obtain ⟨y0, -, y1, -, y2, -, y3, -, y4, -⟩ := blk5_base ka1
      obtain ⟨z0, -, z1, -, z2, -, z3, -, z4, -⟩ := blk5_base ka2
      obtain ⟨x0, xf0, x1, xf1, x2, xf2, x3, xf3, x4, xf4⟩ := blk5_base kA
      clear ka1 ka2
      have HL := Lib.hid (And.intro kA (And.intro hxa hlt))
      clear hx kA hxa hlt
      go_wp2_with fail
      refine (HA.out _).mono ?_
      rintro e w3 ⟨a, c, rfl, hc, h3⟩
      have h4 := HL.out.2.1.trans h3
      have hlt : W0.heap.size ≤ w2.heap.size := HL.out.2.2
      have kA3 := HL.out.1.chg h3 (fun h => h)
      clear y0 y1 y2 y3 y4 z0 z1 z2 z3 z4 x0 xf0 x1 xf1 x2 xf2 x3 xf3 x4 xf4 u0
      obtain ⟨x0, xf0, x1, xf1, x2, xf2, x3, xf3, x4, xf4⟩ := blk5_base kA3
      have kA2 := (kA3.set 1 (.bool (!b1 && !b2))).set 2 (.slice a 0 c)
      simp only [Array.setIfInBounds, List.size_toArray, List.length_cons, List.length_nil] at kA2
      obtain ⟨v0, -, v1, -, v2, -, v3, -, v4, -⟩ := blk5_base kA2
      have hxb := (h4.setCell ⟨w2.heap.size, 1, none⟩ (.bool (!b1 && !b2)) (by simp <;> omega)).setCell ⟨w2.heap.size, 2, none⟩ (.slice a 0 c) (by simp <;> omega)
      have HOw := Lib.hid (fun W => HO.out (!b1 && !b2) 0 (b1 || b2) a c hc (.inr ⟨rfl, by cases b1 <;> cases b2 <;> rfl, rfl⟩) W)
      unfold V5 at HOw
      have HL := Lib.hid (And.intro hxb hlt)
      clear hc h3 h4 kA3 HBo HA HW hxb kA2 hlt HO
      go_wp2_with fail
      refine (HOw.out _).mono ?_
      rintro e w5 ⟨cs, rfl, ⟨i5, a5, c5, l5, rfl, hc5, hok5⟩, hx5⟩
      unfold V5
      have hxc := HL.out.1.trans hx5
      have kB := HB.out.2.2.1.chg hxc (fun h => h)
      obtain ⟨g0, f0, g1, f1, g2, f2, g3, f3, g4, f4⟩ := blk5_base kB
      obtain ⟨y3, z3, y4, z4, q0, q1, q2, q3, q4⟩ := blk5_facts kB (.int .i64 3) (.bool i5) (.slice a5 0 c5) (.int .i64 l5) (.float .f64 0)
      have HX := Lib.hid (HB.out.2.2.2.trans hxc)
      have HO5 := Lib.hid (And.intro hc5 hok5)
      clear hxc kB hx5 hc5 hok5
      go_wp2_with fail
      try simp only [Exit.inBlock, Exit.then]
      refine bodyPost_ret (by simp [results, Tryz.results261, go_sem, q0, q1, q2, q3, q4]; try rfl) rfl ?_
      exact ⟨V5 3 i5 a5 c5 l5, rfl, ⟨_, _, _, _, rfl, HO5.out.1, HO5.out.2⟩, (((((HX.out.setCell _ _ (by simp <;> omega)).setCell _ _ (by simp <;> omega)).setCell _ _ (by simp <;> omega)).setCell _ _ (by simp <;> omega)).setCell _ _ (by simp <;> omega))⟩

end Go.Proofs.YtkhllknahjmciaaGreat
