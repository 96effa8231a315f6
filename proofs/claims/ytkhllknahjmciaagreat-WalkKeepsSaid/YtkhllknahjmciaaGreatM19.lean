/-
  Values (chapter 4) that are 0 or 1: sameness, 0, and which is better.
-/
import Derived.Test.YtkhllknahjmciaaGreatM18
/-! Values (chapter 4) that are 0 or 1: sameness, 0, and which is better. -/
namespace Go.Proofs.YtkhllknahjmciaaGreat
open Go.RowKit
set_option linter.unusedVariables false
set_option linter.unusedSimpArgs false

set_option maxRecDepth 100000 in
set_option maxHeartbeats 1000000 in
theorem same0 {s l1 l2 : Int} {i1 i2 b1 b2 : Bool} (a1 a2 : Option Addr) (c1 c2 : Nat) (hc1 : c1 ≤ maxLen) (hc2 : c2 ≤ maxLen) (h1 : Ok0 s i1 l1 b1) (h2 : Ok0 s i2 l2 b2) (w : World) :
    Calls Tryz.prog 264 #[.agg (V5 s i1 a1 c1 l1).toArray, .agg (V5 s i2 a2 c2 l2).toArray] w fun e w' => e = .returned (.bool (b1 == b2)) ∧ Ext w w' := by
  have HBo := Lib.hid (fun W => both0 a1 a2 c1 c2 hc1 hc2 h1 h2 W)
  have HA := Lib.hid (fun W => natSame0 i1 i2 a1 a2 c1 c2 hc1 hc2 W)
  have HN := Lib.hid (fun W => isNat_any s W _ rfl)
  have HL := Lib.hid (fun W => isLevel_any s W _ rfl)
  unfold V5 at HBo ⊢
  have hb := Blk.new w #[.int .i64 s, .bool i1, .slice a1 0 c1, .int .i64 l1, .float .f64 0] 38
  have hw1 : Ext w (w.alloc (.cells #[.int .i64 s, .bool i1, .slice a1 0 c1, .int .i64 l1, .float .f64 0] 38)) := (Chg.refl w).alloc _
  have hb2 := Blk.new (w.alloc (.cells #[.int .i64 s, .bool i1, .slice a1 0 c1, .int .i64 l1, .float .f64 0] 38)) #[.int .i64 s, .bool i2, .slice a2 0 c2, .int .i64 l2, .float .f64 0] 38
  have hw2 := hw1.alloc (.cells #[.int .i64 s, .bool i2, .slice a2 0 c2, .int .i64 l2, .float .f64 0] 38)
  obtain ⟨W0, hW0⟩ : ∃ W0, (w.alloc (.cells #[.int .i64 s, .bool i1, .slice a1 0 c1, .int .i64 l1, .float .f64 0] 38)).alloc (.cells #[.int .i64 s, .bool i2, .slice a2 0 c2, .int .i64 l2, .float .f64 0] 38) = W0 := ⟨_, rfl⟩
  have kb1 := hb.chg ((Chg.refl (S := fun _ => False) _).alloc (.cells #[.int .i64 s, .bool i2, .slice a2 0 c2, .int .i64 l2, .float .f64 0] 38)) (fun h => h)
  rw [hW0] at kb1 hb2 hw2
  simp only [World.size_alloc] at kb1 hb2
  have HW := Lib.hid hW0
  have HB := Lib.hid (And.intro kb1 (And.intro hb2 hw2))
  have hE : Hid (if s = 3 then (i1 == i2) = (b1 == b2) else decide (l1 = l2) = (b1 == b2)) := Lib.hid (by
    rcases h1 with ⟨rfl, rfl, rfl⟩ | ⟨rfl, rfl, rfl⟩ <;> rcases h2 with ⟨h2, rfl, rfl⟩ | ⟨h2, rfl, rfl⟩ <;> first | omega | (cases b1 <;> cases b2 <;> rfl))
  have hs : s = 2 ∨ s = 3 := by rcases h1 with ⟨h, -⟩ | ⟨h, -⟩ <;> omega
  clear hb hb2 hw1 hw2 kb1 hW0 hc1 hc2 h1 h2
  rcases hs with rfl | rfl
  · rw [show decide ((2 : Int) = 1 ∨ (2 : Int) = 3) = false from rfl] at HN
    rw [show decide ((2 : Int) = 2 ∨ (2 : Int) = 4) = true from rfl] at HL
    rw [if_neg (by omega)] at hE
    go_enter Tryz.func264, Tryz.ntmps264
    go_wp2_with fail
    rw [HW.out]
    refine (HBo.out _).mono ?_
    rintro e w2 ⟨rfl, hx⟩
    obtain ⟨y0, -, y1, -, y2, -, y3, -, y4, -⟩ := blk5_base (HB.out.1.chg hx (fun h => h))
    obtain ⟨z0, -, z1, -, z2, -, z3, -, z4, -⟩ := blk5_base (HB.out.2.1.chg hx (fun h => h))
    have HX := Lib.hid (HB.out.2.2.trans hx)
    clear hx
    go_wp2_with fail
    refine (HN.out _).mono ?_
    rintro e w9 ⟨rfl, h9⟩
    subst w9
    go_wp2_with fail
    refine (HL.out _).mono ?_
    rintro e w9 ⟨rfl, h9⟩
    subst w9
    go_wp2_with fail
    try simp only [Exit.inBlock, Exit.then]
    go_ret
    exact ⟨congrArg (fun z => Ending.returned (.bool z)) (show (l1 == l2) = (b1 == b2) from by rw [← hE.out]; by_cases h : l1 = l2 <;> simp [h]), HX.out⟩
  · rw [show decide ((3 : Int) = 1 ∨ (3 : Int) = 3) = true from rfl] at HN
    rw [if_pos rfl] at hE
    go_enter Tryz.func264, Tryz.ntmps264
    go_wp2_with fail
    rw [HW.out]
    refine (HBo.out _).mono ?_
    rintro e w2 ⟨rfl, hx⟩
    obtain ⟨y0, -, y1, -, y2, -, y3, -, y4, -⟩ := blk5_base (HB.out.1.chg hx (fun h => h))
    obtain ⟨z0, -, z1, -, z2, -, z3, -, z4, -⟩ := blk5_base (HB.out.2.1.chg hx (fun h => h))
    have HX := Lib.hid (HB.out.2.2.trans hx)
    clear hx
    go_wp2_with fail
    refine (HN.out _).mono ?_
    rintro e w9 ⟨rfl, h9⟩
    subst w9
    go_wp2_with fail
    refine (HA.out _).mono ?_
    rintro e w3 ⟨rfl, hx3⟩
    have HX3 := Lib.hid (HX.out.trans hx3)
    clear hx3
    go_wp2_with fail
    try simp only [Exit.inBlock, Exit.then]
    go_ret
    exact ⟨congrArg (fun z => Ending.returned (.bool z)) hE.out, HX3.out⟩
set_option maxRecDepth 100000 in
set_option maxHeartbeats 1000000 in
theorem isZero0 {s l : Int} {i b : Bool} (a : Option Addr) (c : Nat) (hc : c ≤ maxLen) (h : Ok0 s i l b) (w : World) :
    Calls Tryz.prog 248 #[.agg (V5 s i a c l).toArray] w fun e w' => e = .returned (.bool (!b)) ∧ Ext w w' := by
  have hs : s = 2 ∨ s = 3 := by rcases h with ⟨h, -⟩ | ⟨h, -⟩ <;> omega
  have HL := Lib.hid (fun W => least_any s hs W)
  have HS := Lib.hid (fun (i2 : Bool) (l2 : Int) (a2 : Option Addr) (c2 : Nat) (hc2 : c2 ≤ maxLen) (h2 : Ok0 s i2 l2 false) W => same0 a a2 c c2 hc hc2 h h2 W)
  unfold V5 at HS ⊢
  have hb := Blk.new w #[.int .i64 s, .bool i, .slice a 0 c, .int .i64 l, .float .f64 0] 38
  have hw1 : Ext w (w.alloc (.cells #[.int .i64 s, .bool i, .slice a 0 c, .int .i64 l, .float .f64 0] 38)) := (Chg.refl w).alloc _
  obtain ⟨W0, hW0⟩ : ∃ W0, w.alloc (.cells #[.int .i64 s, .bool i, .slice a 0 c, .int .i64 l, .float .f64 0] 38) = W0 := ⟨_, rfl⟩
  rw [hW0] at hb hw1
  have HW := Lib.hid hW0
  have HB := Lib.hid (And.intro hb hw1)
  have HCs := Lib.hid (fun W (hW : Ext W0 W) => let k := blk5_base (hb.chg hW (fun h => h)); And.intro k.1 (And.intro k.2.2.1 (And.intro k.2.2.2.2.1 (And.intro k.2.2.2.2.2.2.1 k.2.2.2.2.2.2.2.2.1))))
  clear hb hw1 hW0 hc h hs
  go_enter Tryz.func248, Tryz.ntmps248
  go_wp2_with fail
  rw [HW.out]
  go_region_held3 (fun v => v.cell? ⟨w.heap.size, 0, none⟩ = some (.int .i64 s) ∧ v.cell? ⟨w.heap.size, 1, none⟩ = some (.bool i) ∧ v.cell? ⟨w.heap.size, 2, none⟩ = some (.slice a 0 c) ∧ v.cell? ⟨w.heap.size, 3, none⟩ = some (.int .i64 l) ∧ v.cell? ⟨w.heap.size, 4, none⟩ = some (.float .f64 0)) (first | with_reducible exact HCs.out _ (Chg.refl (S := fun _ => False) W0).drew | with_reducible exact HCs.out _ HU.out.1 | with_reducible exact HCs.out _ HV.out) (first | (go_at_call 83; refine (HL.out _).mono ?_; rintro e w2 ⟨cs, rfl, ⟨i2, a2, c2, l2, rfl, hc2, hok2⟩, hx2⟩; unfold V5; have HU := Lib.hid (And.intro ((Chg.refl (S := fun _ => False) W0).drew.trans hx2) (And.intro hc2 hok2)); clear hc2 hok2 hx2) | (go_at_call 264; refine (HS.out _ _ _ _ HU.out.2.1 HU.out.2.2 _).mono ?_; rintro e w3 ⟨rfl, hx3⟩; have HV := Lib.hid (HU.out.1.trans hx3); clear hx3))
  go_wp2_with fail
  go_ret
  exact ⟨by cases b <;> rfl, HB.out.2.trans HV.out⟩
set_option maxRecDepth 100000 in
set_option maxHeartbeats 1000000 in
theorem better0 {s l1 l2 : Int} {i1 i2 b1 b2 : Bool} (a1 a2 : Option Addr) (c1 c2 : Nat) (hc1 : c1 ≤ maxLen) (hc2 : c2 ≤ maxLen) (h1 : Ok0 s i1 l1 b1) (h2 : Ok0 s i2 l2 b2) (w : World) :
    Calls Tryz.prog 249 #[.agg (V5 s i1 a1 c1 l1).toArray, .agg (V5 s i2 a2 c2 l2).toArray] w fun e w' => e = .returned (.tuple #[.bool (b1 || !b2), .int .i64 0]) ∧ Ext w w' := by
  have HP := Lib.hid (fun W => plus0 a1 a2 c1 c2 hc1 hc2 h1 h2 W)
  have HS := Lib.hid (fun (i3 : Bool) (l3 : Int) (a3 : Option Addr) (c3 : Nat) (hc3 : c3 ≤ maxLen) (h3 : Ok0 s i3 l3 (b1 || b2)) W => same0 a3 a1 c3 c1 hc3 hc1 h3 h1 W)
  unfold V5 at HP HS ⊢
  have hb := Blk.new w #[.int .i64 s, .bool i1, .slice a1 0 c1, .int .i64 l1, .float .f64 0] 38
  have hw1 : Ext w (w.alloc (.cells #[.int .i64 s, .bool i1, .slice a1 0 c1, .int .i64 l1, .float .f64 0] 38)) := (Chg.refl w).alloc _
  have hb2 := Blk.new (w.alloc (.cells #[.int .i64 s, .bool i1, .slice a1 0 c1, .int .i64 l1, .float .f64 0] 38)) #[.int .i64 s, .bool i2, .slice a2 0 c2, .int .i64 l2, .float .f64 0] 38
  have hw2 := hw1.alloc (.cells #[.int .i64 s, .bool i2, .slice a2 0 c2, .int .i64 l2, .float .f64 0] 38)
  obtain ⟨W0, hW0⟩ : ∃ W0, (w.alloc (.cells #[.int .i64 s, .bool i1, .slice a1 0 c1, .int .i64 l1, .float .f64 0] 38)).alloc (.cells #[.int .i64 s, .bool i2, .slice a2 0 c2, .int .i64 l2, .float .f64 0] 38) = W0 := ⟨_, rfl⟩
  have kb1 := hb.chg ((Chg.refl (S := fun _ => False) _).alloc (.cells #[.int .i64 s, .bool i2, .slice a2 0 c2, .int .i64 l2, .float .f64 0] 38)) (fun h => h)
  rw [hW0] at kb1 hb2 hw2
  simp only [World.size_alloc] at kb1 hb2
  have HW := Lib.hid hW0
  have HB := Lib.hid (And.intro kb1 (And.intro hb2 hw2))
  have hsf := run_store_f
  have hs : s = 2 ∨ s = 3 := by rcases h1 with ⟨h, -⟩ | ⟨h, -⟩ <;> omega
  have hne : ¬ s = 1 := by omega
  have hne2 : (s == 1) = false := by simp [hne]
  clear hb hb2 hw1 hw2 kb1 hW0 hc1 hc2 h1 h2 hs
  go_enter Tryz.func249, Tryz.ntmps249
  go_wp2_with fail
  rw [HW.out]
  refine (HP.out _).mono ?_
  rintro e w2 ⟨cs, rfl, ⟨i3, a3, c3, l3, rfl, hc3, hok3⟩, hx⟩
  unfold V5
  have hxa := hx.alloc (.cells #[.int .i64 s, .bool i3, .slice a3 0 c3, .int .i64 l3, .float .f64 0] 38)
  obtain ⟨y0, -, y1, -, y2, -, y3, -, y4, -⟩ := blk5_base (HB.out.1.chg hxa (fun h => h))
  obtain ⟨z0, -, z1, -, z2, -, z3, -, z4, -⟩ := blk5_base (HB.out.2.1.chg hxa (fun h => h))
  obtain ⟨x0, -, x1, -, x2, -, x3, -, x4, -⟩ := blk5_base (Blk.new w2 #[.int .i64 s, .bool i3, .slice a3 0 c3, .int .i64 l3, .float .f64 0] 38)
  have HX := Lib.hid (And.intro (HB.out.2.2.trans hxa) (And.intro hc3 hok3))
  clear hx hxa hc3 hok3
  go_wp2_with fail
  refine (HS.out _ _ _ _ HX.out.2.1 HX.out.2.2 _).mono ?_
  rintro e w3 ⟨rfl, hx3⟩
  have HX3 := Lib.hid (HX.out.1.trans hx3)
  clear hx3
  go_wp2_with fail
  try simp only [Exit.inBlock, Exit.then]
  go_ret2
  exact ⟨by cases b1 <;> cases b2 <;> rfl, HX3.out⟩
end Go.Proofs.YtkhllknahjmciaaGreat
