/-
  The search: the way to a place.
-/
import Derived.Test.YtkhllknahjmciaaGreatM29
import Derived.Test.YtkhllknahjmciaaGreatM28
import Derived.Deep.DeepCutAuto
/-! The search: the way to a place. -/
namespace Go.Proofs.YtkhllknahjmciaaGreat
open Go.RowKit
set_option linter.unusedVariables false
set_option linter.unusedSimpArgs false

def zeroV : List Value := [.int .i64 0, .bool false, .slice none 0 0, .int .i64 0, .float .f64 0]
def StepsPost (L : List Et) (b1 nS nA s tn : Int) (w : World) (e : Ending) (w' : World) : Prop :=
  Ext w w' ∧ ((seek tn nA L = none ∧ e = .returned (.tuple #[.slice none 0 0, .agg zeroV.toArray, .bool false])) ∨
    (seek tn nA L ≠ none ∧ ∃ v cs, e = .returned (.tuple #[v, .agg cs.toArray, .bool true]) ∧ w'.ownsRow w.heap.size 67 2 v (stepsE L b1 nS L.length tn nA).length (stepC (stepsE L b1 nS L.length tn nA).reverse) ∧ Bv s true cs))
theorem info_step : (Tryz.prog.info? 67).map (fun i => (i.zero, i.size, i.bytes)) = some (some (.agg #[.int .i64 0, .bool false]), 2, 16) := by kernel_rfl
set_option maxRecDepth 100000 in
set_option maxHeartbeats 1000000 in
theorem steps_any (sb r : Nat) (s : Int) (fv : Value) (es : List Eg) (ms : List Mv) (ea : Option Addr) (ec : Nat) (x0 x2 : Value) (nN nS nA : Int) (mv : Value) (w0 w : World) (wt : Int → Bool) (b1 tn : Int) (L : List Et)
    (hs : SC w0 sb r s fv es ea ec x0 x2 nN nS nA mv w) (hw : Ways w r s L) (hb : Built wt es ms b1 nS L) (hlen : L.length ≤ 100000) :
    Calls Tryz.prog 96 #[.pointer (some ⟨sb, 0, none⟩), .int .i64 b1, .int .i64 tn] w (StepsPost L b1 nS nA s tn w) := by
  have hbl := hs.blk.lt
  have hrl := hw.lt
  obtain ⟨W1, hW1⟩ : ∃ W1, w.alloc (.cells #[.int .i64 0, .bool false, .slice none 0 0, .int .i64 0, .float .f64 0] 38) = W1 := ⟨_, rfl⟩
  have hx1 : Ext w W1 := by rw [← hW1]; exact (Chg.refl w).alloc _
  have hb7 : Blk W1 w.heap.size #[.int .i64 0, .bool false, .slice none 0 0, .int .i64 0, .float .f64 0] 38 := by rw [← hW1]; exact Blk.new _ _ _
  have hS1 := hs.toExt hx1
  have q4 := hS1.blk.cell 4 _ rfl
  have q5 := hS1.blk.cell 5 _ rfl
  have HCs := Lib.hid (fun W (hW : Ext W1 W) => And.intro ((hW.cell (lt_of_cell q4) (fun h => h)).trans q4) ((hW.cell (lt_of_cell q5) (fun h => h)).trans q5))
  have HS := Lib.hid (And.intro hS1 (And.intro (hw.ext hx1) (And.intro hb (And.intro hb7 hx1))))
  have HW1 := Lib.hid hW1
  have hsz1 := hb7.lt
  have hsf := run_store_f
  clear hs hw hb hS1 hx1 hb7 hW1 q4 q5
  go_enter Tryz.func96, Tryz.ntmps96
  go_upto_region 1 with fail
  rw [HW1.out]
  go_cut [9, 10] (fun l9 l10 wx => ∃ (p9 p10 : Nat), l9 = .pointer (some ⟨p9, 0, none⟩) ∧ l10 = .pointer (some ⟨p10, 0, none⟩) ∧ p9 ≠ p10 ∧ W1.heap.size ≤ p9 ∧ W1.heap.size ≤ p10 ∧ Blk wx p9 #[.int .i64 b1, .int .i64 nS] 207 ∧ Blk wx p10 #[.int .i64 tn, .int .i64 nA] 207 ∧ Ext W1 wx)
  case first =>
    refine wp_region_held_drew (S := fun v => v.cell? ⟨sb, 4, none⟩ = some (.int .i64 nS) ∧ v.cell? ⟨sb, 5, none⟩ = some (.int .i64 nA)) (by kernel_rfl) (HCs.out _ (Chg.refl (S := fun _ => False) W1).drew) (fun hHeld => ?_)
    refine wpAnyH_take (i := 0) (v := .int .i64 b1) rfl (by kernel_rfl) (by kernel_rfl) (by kernel_rfl) (fun _ _ _ h => h) (Or.inl ⟨by rfl, ?_⟩) hHeld ?_
    · intro wS hSw
      obtain ⟨hs0, hs1⟩ := hSw
      go_simp
    simp only [Act.put, List.setIfInBounds_toArray, List.set_cons_zero, List.set_cons_succ]
    refine wpAnyH_take (i := 1) (v := .pointer (some ⟨sb, 0, none⟩)) rfl (by kernel_rfl) (by kernel_rfl) (by kernel_rfl) (fun _ _ _ h => h) (Or.inl ⟨by rfl, ?_⟩) hHeld ?_
    · intro wS hSw
      obtain ⟨hs0, hs1⟩ := hSw
      go_simp
    simp only [Act.put, List.setIfInBounds_toArray, List.set_cons_zero, List.set_cons_succ]
    refine wpAnyH_take (i := 2) (v := .pointer (some ⟨sb, 0, none⟩)) rfl (by kernel_rfl) (by kernel_rfl) (by kernel_rfl) (fun _ _ _ h => h) (Or.inl ⟨by rfl, ?_⟩) hHeld ?_
    · intro wS hSw
      obtain ⟨hs0, hs1⟩ := hSw
      go_simp
    simp only [Act.put, List.setIfInBounds_toArray, List.set_cons_zero, List.set_cons_succ]
    refine wpAnyH_take (i := 3) (v := .pointer (some ⟨sb, 3, none⟩)) rfl (by kernel_rfl) (by kernel_rfl) (by kernel_rfl) (fun _ _ _ h => h) (Or.inl ⟨by rfl, ?_⟩) hHeld ?_
    · intro wS hSw
      obtain ⟨hs0, hs1⟩ := hSw
      go_simp
    simp only [Act.put, List.setIfInBounds_toArray, List.set_cons_zero, List.set_cons_succ]
    refine wpAnyH_take (i := 4) (v := .pointer (some ⟨sb, 4, none⟩)) rfl (by kernel_rfl) (by kernel_rfl) (by kernel_rfl) (fun _ _ _ h => h) (Or.inl ⟨by rfl, ?_⟩) hHeld ?_
    · intro wS hSw
      obtain ⟨hs0, hs1⟩ := hSw
      go_simp
    simp only [Act.put, List.setIfInBounds_toArray, List.set_cons_zero, List.set_cons_succ]
    refine wpAnyH_take (i := 5) (v := .int .i64 nS) rfl (by kernel_rfl) (by kernel_rfl) (by kernel_rfl) (fun _ _ _ h => h) (Or.inl ⟨by rfl, ?_⟩) hHeld ?_
    · intro wS hSw
      obtain ⟨hs0, hs1⟩ := hSw
      go_simp
    simp only [Act.put, List.setIfInBounds_toArray, List.set_cons_zero, List.set_cons_succ]
    refine wpAnyH_take (i := 6) (v := .agg #[.int .i64 b1, .int .i64 nS]) rfl (by kernel_rfl) (by kernel_rfl) (by kernel_rfl) (fun _ _ _ h => h) (Or.inl ⟨by rfl, ?_⟩) hHeld ?_
    · intro wS hSw
      obtain ⟨hs0, hs1⟩ := hSw
      go_simp
    simp only [Act.put, List.setIfInBounds_toArray, List.set_cons_zero, List.set_cons_succ]
    refine wpAnyH_take (i := 7) (v := .int .i64 tn) rfl (by kernel_rfl) (by kernel_rfl) (by kernel_rfl) (fun _ _ _ h => h) (Or.inl ⟨by rfl, ?_⟩) hHeld ?_
    · intro wS hSw
      obtain ⟨hs0, hs1⟩ := hSw
      go_simp
    simp only [Act.put, List.setIfInBounds_toArray, List.set_cons_zero, List.set_cons_succ]
    refine wpAnyH_take (i := 8) (v := .pointer (some ⟨sb, 0, none⟩)) rfl (by kernel_rfl) (by kernel_rfl) (by kernel_rfl) (fun _ _ _ h => h) (Or.inl ⟨by rfl, ?_⟩) hHeld ?_
    · intro wS hSw
      obtain ⟨hs0, hs1⟩ := hSw
      go_simp
    simp only [Act.put, List.setIfInBounds_toArray, List.set_cons_zero, List.set_cons_succ]
    refine wpAnyH_take (i := 9) (v := .pointer (some ⟨sb, 0, none⟩)) rfl (by kernel_rfl) (by kernel_rfl) (by kernel_rfl) (fun _ _ _ h => h) (Or.inl ⟨by rfl, ?_⟩) hHeld ?_
    · intro wS hSw
      obtain ⟨hs0, hs1⟩ := hSw
      go_simp
    simp only [Act.put, List.setIfInBounds_toArray, List.set_cons_zero, List.set_cons_succ]
    refine wpAnyH_take (i := 10) (v := .pointer (some ⟨sb, 3, none⟩)) rfl (by kernel_rfl) (by kernel_rfl) (by kernel_rfl) (fun _ _ _ h => h) (Or.inl ⟨by rfl, ?_⟩) hHeld ?_
    · intro wS hSw
      obtain ⟨hs0, hs1⟩ := hSw
      go_simp
    simp only [Act.put, List.setIfInBounds_toArray, List.set_cons_zero, List.set_cons_succ]
    refine wpAnyH_take (i := 11) (v := .pointer (some ⟨sb, 5, none⟩)) rfl (by kernel_rfl) (by kernel_rfl) (by kernel_rfl) (fun _ _ _ h => h) (Or.inl ⟨by rfl, ?_⟩) hHeld ?_
    · intro wS hSw
      obtain ⟨hs0, hs1⟩ := hSw
      go_simp
    simp only [Act.put, List.setIfInBounds_toArray, List.set_cons_zero, List.set_cons_succ]
    refine wpAnyH_take (i := 12) (v := .int .i64 nA) rfl (by kernel_rfl) (by kernel_rfl) (by kernel_rfl) (fun _ _ _ h => h) (Or.inl ⟨by rfl, ?_⟩) hHeld ?_
    · intro wS hSw
      obtain ⟨hs0, hs1⟩ := hSw
      go_simp
    simp only [Act.put, List.setIfInBounds_toArray, List.set_cons_zero, List.set_cons_succ]
    refine wpAnyH_take (i := 13) (v := .agg #[.int .i64 tn, .int .i64 nA]) rfl (by kernel_rfl) (by kernel_rfl) (by kernel_rfl) (fun _ _ _ h => h) (Or.inl ⟨by rfl, ?_⟩) hHeld ?_
    · intro wS hSw
      obtain ⟨hs0, hs1⟩ := hSw
      go_simp
    simp only [Act.put, List.setIfInBounds_toArray, List.set_cons_zero, List.set_cons_succ]
    refine wpAnyH_ready (rs := [14, 15]) (by kernel_rfl) (by simp) ?_
    refine AllReadyH.cons (i := 14) (rs := [15]) (by rfl) ?_ (AllReadyH.cons (i := 15) (rs := []) (by rfl) ?_ AllReadyH.nil)
    · intro K hK
      go_simp
      refine hK.out _ _ (HCs.out _ ((Chg.refl (S := fun _ => False) W1).alloc _).drew) (fun hHeld => ?_)
      clear hK K
      refine wpAnyH_ready (rs := [15]) (by kernel_rfl) (by simp) ?_
      refine AllReadyH.cons (i := 15) (rs := []) (by rfl) ?_ AllReadyH.nil
      intro K hK
      go_simp
      refine hK.out _ _ (HCs.out _ (((Chg.refl (S := fun _ => False) W1).alloc _).alloc _).drew) (fun hHeld => ?_)
      clear hK K
      refine wpAnyH_ready (rs := [16]) (by kernel_rfl) (by simp) ?_
      refine AllReadyH.cons (i := 16) (rs := []) (by rfl) ?_ AllReadyH.nil
      intro K hK
      go_simp
      refine hK.out _ _ (HCs.out _ (((Chg.refl (S := fun _ => False) W1).alloc _).alloc _).drew) (fun hHeld => ?_)
      clear hK K
      refine wpAnyH_ready (rs := [17]) (by kernel_rfl) (by simp) ?_
      refine AllReadyH.cons (i := 17) (rs := []) (by rfl) ?_ AllReadyH.nil
      intro K hK
      go_simp
      refine hK.out _ _ (HCs.out _ (((Chg.refl (S := fun _ => False) W1).alloc _).alloc _).drew) (fun hHeld => ?_)
      clear hK K
      refine wpAnyH_done (by kernel_rfl) ?_ _
      go_wp2_with fail
      go_meet
      exact ⟨W1.heap.size, W1.heap.size + 1, rfl, rfl, by omega, Nat.le_refl _, by omega, ((Blk.new W1 #[.int .i64 b1, .int .i64 nS] 207).chg ((Chg.refl (S := fun _ => False) _).alloc _) (fun h => h)).chg (Chg.refl (S := fun _ => False) _).drew (fun h => h), by simpa using (Blk.new (W1.alloc (.cells #[.int .i64 b1, .int .i64 nS] 207)) #[.int .i64 tn, .int .i64 nA] 207).chg (Chg.refl (S := fun _ => False) _).drew (fun h => h), (((Chg.refl (S := fun _ => False) W1).alloc _).alloc _).drew⟩
    · intro K hK
      go_simp
      refine hK.out _ _ (HCs.out _ ((Chg.refl (S := fun _ => False) W1).alloc _).drew) (fun hHeld => ?_)
      clear hK K
      refine wpAnyH_ready (rs := [14]) (by kernel_rfl) (by simp) ?_
      refine AllReadyH.cons (i := 14) (rs := []) (by rfl) ?_ AllReadyH.nil
      intro K hK
      go_simp
      refine hK.out _ _ (HCs.out _ (((Chg.refl (S := fun _ => False) W1).alloc _).alloc _).drew) (fun hHeld => ?_)
      clear hK K
      refine wpAnyH_ready (rs := [16]) (by kernel_rfl) (by simp) ?_
      refine AllReadyH.cons (i := 16) (rs := []) (by rfl) ?_ AllReadyH.nil
      intro K hK
      go_simp
      refine hK.out _ _ (HCs.out _ (((Chg.refl (S := fun _ => False) W1).alloc _).alloc _).drew) (fun hHeld => ?_)
      clear hK K
      refine wpAnyH_ready (rs := [17]) (by kernel_rfl) (by simp) ?_
      refine AllReadyH.cons (i := 17) (rs := []) (by rfl) ?_ AllReadyH.nil
      intro K hK
      go_simp
      refine hK.out _ _ (HCs.out _ (((Chg.refl (S := fun _ => False) W1).alloc _).alloc _).drew) (fun hHeld => ?_)
      clear hK K
      refine wpAnyH_done (by kernel_rfl) ?_ _
      go_wp2_with fail
      go_meet
      exact ⟨W1.heap.size + 1, W1.heap.size, rfl, rfl, by omega, by omega, Nat.le_refl _, by simpa using (Blk.new (W1.alloc (.cells #[.int .i64 tn, .int .i64 nA] 207)) #[.int .i64 b1, .int .i64 nS] 207).chg (Chg.refl (S := fun _ => False) _).drew (fun h => h), ((Blk.new W1 #[.int .i64 tn, .int .i64 nA] 207).chg ((Chg.refl (S := fun _ => False) _).alloc _) (fun h => h)).chg (Chg.refl (S := fun _ => False) _).drew (fun h => h), (((Chg.refl (S := fun _ => False) W1).alloc _).alloc _).drew⟩
  case rest =>
    obtain ⟨wx, rfl⟩ : ∃ x, x = wc := ⟨_, rfl⟩
    obtain ⟨p9, p10, rfl, rfl, hne, hl9, hl10, hb9, hb10, hx⟩ := hcut
    have hS2 := HS.out.1.toExt hx
    have hWy := HS.out.2.1.ext hx
    have q9 := hS2.blk.cell 9 _ rfl
    obtain ⟨c0, -, c1, -⟩ := blk2_base hb10
    have HCw := Lib.hid (fun W (hW : Ext wx W) => And.intro (hW.block r hWy.lt (fun h => h)) (And.intro ((hW.cell (lt_of_cell q9) (fun h => h)).trans q9) (And.intro ((hW.cell (lt_of_cell c0) (fun h => h)).trans c0) ((hW.cell (lt_of_cell c1) (fun h => h)).trans c1))))
    have HX := Lib.hid (And.intro hS2 (And.intro hWy (And.intro hb9 (And.intro hb10 (And.intro hx (HS.out.2.2.2.1.chg hx (fun h => h)))))))
    have hlx := hx.size
    cases hq : seek tn nA L with
    | none =>
      have HLk := Lib.hid (fun W k => hWy.miss hq W k)
      clear q9 hS2 hWy c0 c1 hb9 hb10 hx
      go_wp2_with fail
      refine wp_region_held_drew (S := fun v => v.heap[r]? = wx.heap[r]? ∧ v.cell? ⟨sb, 9, none⟩ = some (.map (some r)) ∧ v.cell? ⟨p10, 0, none⟩ = some (.int .i64 tn) ∧ v.cell? ⟨p10, 1, none⟩ = some (.int .i64 nA)) (by kernel_rfl) (HCw.out _ (Chg.refl (S := fun _ => False) wx).drew) (fun hHeld => ?_)
      refine wpAnyH_take (i := 0) (v := .pointer (some ⟨sb, 0, none⟩)) rfl (by kernel_rfl) (by kernel_rfl) (by kernel_rfl) (fun _ _ _ h => h) (Or.inl ⟨by rfl, ?_⟩) hHeld ?_
      · intro wS hSw
        obtain ⟨hs0, hs1, hs2, hs3⟩ := hSw
        have hlk := HLk.out wS hs0
        go_simp
      simp only [Act.put, List.setIfInBounds_toArray, List.set_cons_zero, List.set_cons_succ]
      refine wpAnyH_take (i := 1) (v := .pointer (some ⟨sb, 0, none⟩)) rfl (by kernel_rfl) (by kernel_rfl) (by kernel_rfl) (fun _ _ _ h => h) (Or.inl ⟨by rfl, ?_⟩) hHeld ?_
      · intro wS hSw
        obtain ⟨hs0, hs1, hs2, hs3⟩ := hSw
        have hlk := HLk.out wS hs0
        go_simp
      simp only [Act.put, List.setIfInBounds_toArray, List.set_cons_zero, List.set_cons_succ]
      refine wpAnyH_take (i := 2) (v := .pointer (some ⟨sb, 9, none⟩)) rfl (by kernel_rfl) (by kernel_rfl) (by kernel_rfl) (fun _ _ _ h => h) (Or.inl ⟨by rfl, ?_⟩) hHeld ?_
      · intro wS hSw
        obtain ⟨hs0, hs1, hs2, hs3⟩ := hSw
        have hlk := HLk.out wS hs0
        go_simp
      simp only [Act.put, List.setIfInBounds_toArray, List.set_cons_zero, List.set_cons_succ]
      refine wpAnyH_take (i := 3) (v := .map (some r)) rfl (by kernel_rfl) (by kernel_rfl) (by kernel_rfl) (fun _ _ _ h => h) (Or.inl ⟨by rfl, ?_⟩) hHeld ?_
      · intro wS hSw
        obtain ⟨hs0, hs1, hs2, hs3⟩ := hSw
        have hlk := HLk.out wS hs0
        go_simp
      simp only [Act.put, List.setIfInBounds_toArray, List.set_cons_zero, List.set_cons_succ]
      refine wpAnyH_take (i := 4) (v := .agg #[.int .i64 tn, .int .i64 nA]) rfl (by kernel_rfl) (by kernel_rfl) (by kernel_rfl) (fun _ _ _ h => h) (Or.inl ⟨by rfl, ?_⟩) hHeld ?_
      · intro wS hSw
        obtain ⟨hs0, hs1, hs2, hs3⟩ := hSw
        have hlk := HLk.out wS hs0
        go_simp
      simp only [Act.put, List.setIfInBounds_toArray, List.set_cons_zero, List.set_cons_succ]
      refine wpAnyH_take (i := 5) (v := .tuple #[zeroWay, .bool false]) rfl (by kernel_rfl) (by kernel_rfl) (by kernel_rfl) (fun _ _ _ h => h) (Or.inl ⟨by rfl, ?_⟩) hHeld ?_
      · intro wS hSw
        obtain ⟨hs0, hs1, hs2, hs3⟩ := hSw
        have hlk := HLk.out wS hs0
        go_simp
      simp only [Act.put, List.setIfInBounds_toArray, List.set_cons_zero, List.set_cons_succ]
      refine wpAnyH_take (i := 6) (v := .tuple #[zeroWay, .bool false]) rfl (by kernel_rfl) (by kernel_rfl) (by kernel_rfl) (fun _ _ _ h => h) (Or.inl ⟨by rfl, ?_⟩) hHeld ?_
      · intro wS hSw
        obtain ⟨hs0, hs1, hs2, hs3⟩ := hSw
        have hlk := HLk.out wS hs0
        go_simp
      simp only [Act.put, List.setIfInBounds_toArray, List.set_cons_zero, List.set_cons_succ]
      refine wpAnyH_take (i := 7) (v := zeroWay) rfl (by kernel_rfl) (by kernel_rfl) (by kernel_rfl) (fun _ _ _ h => h) (Or.inl ⟨by rfl, ?_⟩) hHeld ?_
      · intro wS hSw
        obtain ⟨hs0, hs1, hs2, hs3⟩ := hSw
        have hlk := HLk.out wS hs0
        go_simp
      simp only [Act.put, List.setIfInBounds_toArray, List.set_cons_zero, List.set_cons_succ]
      refine wpAnyH_take (i := 8) (v := .bool false) rfl (by kernel_rfl) (by kernel_rfl) (by kernel_rfl) (fun _ _ _ h => h) (Or.inl ⟨by rfl, ?_⟩) hHeld ?_
      · intro wS hSw
        obtain ⟨hs0, hs1, hs2, hs3⟩ := hSw
        have hlk := HLk.out wS hs0
        go_simp
      simp only [Act.put, List.setIfInBounds_toArray, List.set_cons_zero, List.set_cons_succ]
      refine wpAnyH_ready (rs := [9]) (by kernel_rfl) (by simp) ?_
      refine AllReadyH.cons (i := 9) (rs := []) (by rfl) ?_ AllReadyH.nil
      intro K hK
      go_simp
      refine hK.out _ _ (HCw.out _ ((Chg.refl (S := fun _ => False) wx).alloc _).drew) (fun hHeld => ?_)
      clear hK K
      have HKZ := Lib.hid ((Chg.refl (S := fun _ => False) wx).alloc (.cells #[.int .i64 0, .bool false, .slice none 0 0, .int .i64 0, .float .f64 0, .int .i64 0, .int .i64 0, .int .i64 0, .bool false] 209)).drew
      refine wpAnyH_ready (rs := [10]) (by kernel_rfl) (by simp) ?_
      refine AllReadyH.cons (i := 10) (rs := []) (by rfl) ?_ AllReadyH.nil
      intro K hK
      go_simp
      refine hK.out _ _ (HCw.out _ HKZ.out) (fun hHeld => ?_)
      clear hK K
      refine wpAnyH_ready (rs := [11]) (by kernel_rfl) (by simp) ?_
      refine AllReadyH.cons (i := 11) (rs := []) (by rfl) ?_ AllReadyH.nil
      intro K hK
      go_simp
      refine hK.out _ _ hHeld (fun hHeld => ?_)
      clear hK K hHeld
      refine wpAnyH_done (by kernel_rfl) ?_ _
      generalize hW3 : (wx.alloc (.cells #[.int .i64 0, .bool false, .slice none 0 0, .int .i64 0, .float .f64 0, .int .i64 0, .int .i64 0, .int .i64 0, .bool false] 209)).drew = W3 at HKZ ⊢
      have k7 := HX.out.2.2.2.2.2.chg HKZ.out (fun h => h)
      have HE := Lib.hid (Ext.put ((HS.out.2.2.2.2.trans HX.out.2.2.2.2.1).trans HKZ.out) (put5 (p := w.heap.size) (c0 := .int .i64 0) (c1 := .bool false) (c2 := .slice none 0 0) (c3 := .int .i64 0) (c4 := .float .f64 0)) (Nat.le_refl _))
      obtain ⟨g0, f0, g1, f1, g2, f2, g3, f3, g4, f4⟩ := blk5_base k7
      obtain ⟨y3, z3, y4, z4, q0, q1, q2, q3, q4⟩ := blk5_facts k7 (.int .i64 0) (.bool false) (.slice none 0 0) (.int .i64 0) (.float .f64 0)
      clear hW3 k7
      go_wp2_with fail
      try simp only [Exit.inBlock, Exit.then]
      refine bodyPost_ret (by simp [results, Tryz.results96, go_sem, q0, q1, q2, q3, q4]; try rfl) rfl ?_
      exact ⟨HE.out, .inl ⟨hq, rfl⟩⟩
    | some e0 =>
      obtain ⟨i1, a1, c1', l1, hc1, ho1, hlk⟩ := hWy.hit hq
      have HLk := Lib.hid (fun W k => hlk W k true)
      have HO1 := Lib.hid (And.intro hc1 ho1)
      unfold wayA at HLk
      simp only [if_true] at HLk
      clear q9 hS2 hWy c0 c1 hb9 hb10 hx hlk hc1 ho1
      go_wp2_with fail
      refine wp_region_held_drew (S := fun v => v.heap[r]? = wx.heap[r]? ∧ v.cell? ⟨sb, 9, none⟩ = some (.map (some r)) ∧ v.cell? ⟨p10, 0, none⟩ = some (.int .i64 tn) ∧ v.cell? ⟨p10, 1, none⟩ = some (.int .i64 nA)) (by kernel_rfl) (HCw.out _ (Chg.refl (S := fun _ => False) wx).drew) (fun hHeld => ?_)
      refine wpAnyH_take (i := 0) (v := .pointer (some ⟨sb, 0, none⟩)) rfl (by kernel_rfl) (by kernel_rfl) (by kernel_rfl) (fun _ _ _ h => h) (Or.inl ⟨by rfl, ?_⟩) hHeld ?_
      · intro wS hSw
        obtain ⟨hs0, hs1, hs2, hs3⟩ := hSw
        have hlk := HLk.out wS hs0
        go_simp
      simp only [Act.put, List.setIfInBounds_toArray, List.set_cons_zero, List.set_cons_succ]
      refine wpAnyH_take (i := 1) (v := .pointer (some ⟨sb, 0, none⟩)) rfl (by kernel_rfl) (by kernel_rfl) (by kernel_rfl) (fun _ _ _ h => h) (Or.inl ⟨by rfl, ?_⟩) hHeld ?_
      · intro wS hSw
        obtain ⟨hs0, hs1, hs2, hs3⟩ := hSw
        have hlk := HLk.out wS hs0
        go_simp
      simp only [Act.put, List.setIfInBounds_toArray, List.set_cons_zero, List.set_cons_succ]
      refine wpAnyH_take (i := 2) (v := .pointer (some ⟨sb, 9, none⟩)) rfl (by kernel_rfl) (by kernel_rfl) (by kernel_rfl) (fun _ _ _ h => h) (Or.inl ⟨by rfl, ?_⟩) hHeld ?_
      · intro wS hSw
        obtain ⟨hs0, hs1, hs2, hs3⟩ := hSw
        have hlk := HLk.out wS hs0
        go_simp
      simp only [Act.put, List.setIfInBounds_toArray, List.set_cons_zero, List.set_cons_succ]
      refine wpAnyH_take (i := 3) (v := .map (some r)) rfl (by kernel_rfl) (by kernel_rfl) (by kernel_rfl) (fun _ _ _ h => h) (Or.inl ⟨by rfl, ?_⟩) hHeld ?_
      · intro wS hSw
        obtain ⟨hs0, hs1, hs2, hs3⟩ := hSw
        have hlk := HLk.out wS hs0
        go_simp
      simp only [Act.put, List.setIfInBounds_toArray, List.set_cons_zero, List.set_cons_succ]
      refine wpAnyH_take (i := 4) (v := .agg #[.int .i64 tn, .int .i64 nA]) rfl (by kernel_rfl) (by kernel_rfl) (by kernel_rfl) (fun _ _ _ h => h) (Or.inl ⟨by rfl, ?_⟩) hHeld ?_
      · intro wS hSw
        obtain ⟨hs0, hs1, hs2, hs3⟩ := hSw
        have hlk := HLk.out wS hs0
        go_simp
      simp only [Act.put, List.setIfInBounds_toArray, List.set_cons_zero, List.set_cons_succ]
      refine wpAnyH_take (i := 5) (v := .tuple #[.agg #[.int .i64 s, .bool i1, .slice a1 0 c1', .int .i64 l1, .float .f64 0, .int .i64 e0.fid, .int .i64 e0.fst, .int .i64 e0.tok, .bool e0.back], .bool true]) rfl (by kernel_rfl) (by kernel_rfl) (by kernel_rfl) (fun _ _ _ h => h) (Or.inl ⟨by rfl, ?_⟩) hHeld ?_
      · intro wS hSw
        obtain ⟨hs0, hs1, hs2, hs3⟩ := hSw
        have hlk := HLk.out wS hs0
        go_simp
      simp only [Act.put, List.setIfInBounds_toArray, List.set_cons_zero, List.set_cons_succ]
      refine wpAnyH_take (i := 6) (v := .tuple #[.agg #[.int .i64 s, .bool i1, .slice a1 0 c1', .int .i64 l1, .float .f64 0, .int .i64 e0.fid, .int .i64 e0.fst, .int .i64 e0.tok, .bool e0.back], .bool true]) rfl (by kernel_rfl) (by kernel_rfl) (by kernel_rfl) (fun _ _ _ h => h) (Or.inl ⟨by rfl, ?_⟩) hHeld ?_
      · intro wS hSw
        obtain ⟨hs0, hs1, hs2, hs3⟩ := hSw
        have hlk := HLk.out wS hs0
        go_simp
      simp only [Act.put, List.setIfInBounds_toArray, List.set_cons_zero, List.set_cons_succ]
      refine wpAnyH_take (i := 7) (v := .agg #[.int .i64 s, .bool i1, .slice a1 0 c1', .int .i64 l1, .float .f64 0, .int .i64 e0.fid, .int .i64 e0.fst, .int .i64 e0.tok, .bool e0.back]) rfl (by kernel_rfl) (by kernel_rfl) (by kernel_rfl) (fun _ _ _ h => h) (Or.inl ⟨by rfl, ?_⟩) hHeld ?_
      · intro wS hSw
        obtain ⟨hs0, hs1, hs2, hs3⟩ := hSw
        have hlk := HLk.out wS hs0
        go_simp
      simp only [Act.put, List.setIfInBounds_toArray, List.set_cons_zero, List.set_cons_succ]
      refine wpAnyH_take (i := 8) (v := .bool true) rfl (by kernel_rfl) (by kernel_rfl) (by kernel_rfl) (fun _ _ _ h => h) (Or.inl ⟨by rfl, ?_⟩) hHeld ?_
      · intro wS hSw
        obtain ⟨hs0, hs1, hs2, hs3⟩ := hSw
        have hlk := HLk.out wS hs0
        go_simp
      simp only [Act.put, List.setIfInBounds_toArray, List.set_cons_zero, List.set_cons_succ]
      refine wpAnyH_ready (rs := [9]) (by kernel_rfl) (by simp) ?_
      refine AllReadyH.cons (i := 9) (rs := []) (by rfl) ?_ AllReadyH.nil
      intro K hK
      go_simp
      refine hK.out _ _ (HCw.out _ ((Chg.refl (S := fun _ => False) wx).alloc _).drew) (fun hHeld => ?_)
      clear hK K
      have HKZ := Lib.hid (And.intro ((Blk.new wx #[.int .i64 s, .bool i1, .slice a1 0 c1', .int .i64 l1, .float .f64 0, .int .i64 e0.fid, .int .i64 e0.fst, .int .i64 e0.tok, .bool e0.back] 209).chg (Chg.refl (S := fun _ => False) _).drew (fun h => h)) ((Chg.refl (S := fun _ => False) wx).alloc (.cells #[.int .i64 s, .bool i1, .slice a1 0 c1', .int .i64 l1, .float .f64 0, .int .i64 e0.fid, .int .i64 e0.fst, .int .i64 e0.tok, .bool e0.back] 209)).drew)
      refine wpAnyH_ready (rs := [10]) (by kernel_rfl) (by simp) ?_
      refine AllReadyH.cons (i := 10) (rs := []) (by rfl) ?_ AllReadyH.nil
      intro K hK
      go_simp
      refine hK.out _ _ (HCw.out _ HKZ.out.2) (fun hHeld => ?_)
      clear hK K
      refine wpAnyH_ready (rs := [11]) (by kernel_rfl) (by simp) ?_
      refine AllReadyH.cons (i := 11) (rs := []) (by rfl) ?_ AllReadyH.nil
      intro K hK
      go_simp
      refine hK.out _ _ hHeld (fun hHeld => ?_)
      clear hK K hHeld
      refine wpAnyH_done (by kernel_rfl) ?_ _
      generalize hW3 : (wx.alloc (.cells #[.int .i64 s, .bool i1, .slice a1 0 c1', .int .i64 l1, .float .f64 0, .int .i64 e0.fid, .int .i64 e0.fst, .int .i64 e0.tok, .bool e0.back] 209)).drew = W3 at HKZ ⊢
      have hlw : wx.heap.size < W3.heap.size := HKZ.out.1.lt
      have hp9 := HX.out.2.2.1.lt
      have hp10 := HX.out.2.2.2.1.lt
      have HBx := Lib.hid (fun W (hW : Chg (fun b => b = p10 ∨ W3.heap.size ≤ b) W3 W) => And.intro ((HX.out.2.2.1.chg HKZ.out.2 (fun h => h)).chg hW (by omega)) (And.intro (HKZ.out.1.chg hW (by omega)) (And.intro ((HX.out.2.2.2.2.2.chg HKZ.out.2 (fun h => h)).chg hW (by omega)) (And.intro (((HX.out.1.toExt HKZ.out.2).blk.chg hW (by omega)).cell 9 _ rfl) ((HX.out.2.1.ext HKZ.out.2).chg hW (by omega))))))
      have HP := Lib.hid (HX.out.2.2.2.1.chg HKZ.out.2 (fun h => h))
      have HE3 := Lib.hid ((HS.out.2.2.2.2.trans HX.out.2.2.2.2.1).trans HKZ.out.2)
      obtain ⟨i0, hi0, hii⟩ := Option.map_eq_some_iff.1 info_step
      obtain ⟨hz0, hz1, hz2⟩ : i0.zero = some (.agg #[.int .i64 0, .bool false]) ∧ i0.size = 2 ∧ i0.bytes = 16 := by
        have := hii; simp at this; exact this
      have HI := Lib.hid (And.intro hi0 (And.intro hz0 (And.intro hz1 hz2)))
      obtain ⟨RR, hRR⟩ : ∃ RR, stepsE L b1 nS L.length tn nA = RR := ⟨_, rfl⟩
      have HRR := Lib.hid hRR
      have HQ := Lib.hid hq
      have q22 := fun (w : World) (a b c d : Int) => run_eqPlace w a b c d
      unfold pK at q22
      clear hW3 hi0 hii hz0 hz1 hz2 hRR hq
      go_wp2_with fail
      go_loopg [6] L.length (fun g l6 wr => ∃ (F : Nat) (a s' : Int) (out : List (Int × Bool)), seek a s' (L.take F) ≠ none ∧ out ++ stepsE L b1 nS F a s' = RR ∧ out.length + F ≤ L.length ∧ Blk wr p10 #[.int .i64 a, .int .i64 s'] 207 ∧ wr.ownsRow W3.heap.size 67 2 l6 out.length (stepC out) ∧ Chg (fun b => b = p10 ∨ W3.heap.size ≤ b) W3 wr ∧ g = F)
      case atStart => exact ⟨L.length, tn, nA, [], by rw [List.take_length, HQ.out]; simp, by rw [List.nil_append]; exact HRR.out, by simp, HP.out, World.ownsRow_nil _ _ _ _, Chg.refl _, rfl⟩
      case round =>
        obtain ⟨w4, rfl⟩ : ∃ x, x = wr := ⟨_, rfl⟩
        obtain ⟨F, a, s', out, hsk, hst, hfl, hbp, ho, hx, rfl⟩ := hrel
        obtain ⟨k9, k11, k7, m9, hway⟩ := HBx.out _ hx
        obtain ⟨F, rfl⟩ : ∃ f, gk = f + 1 := by
          cases gk with
          | zero => exact absurd rfl hsk
          | succ f => exact ⟨f, rfl⟩
        obtain ⟨c0, g0, c1, g1⟩ := blk2_base hbp
        obtain ⟨d0, -, d1, -⟩ := blk2_base k9
        obtain ⟨u6a, ucap, rfl⟩ := own_slice ho
        by_cases hend : a = b1 ∧ s' = nS
        · obtain ⟨rfl, rfl⟩ : b1 = a ∧ nS = s' := ⟨hend.1.symm, hend.2.symm⟩
          rw [stepsE, if_pos ⟨rfl, rfl⟩, List.append_nil] at hst
          subst hst
          have HRv := Lib.hid (rev_any out W3.heap.size _ out.length w4 ho rfl (by omega))
          have HZ := Lib.hid (And.intro hx (And.intro k11 k7))
          clear hend hsk hfl hbp ho hx k9 k11 k7 m9 hway
          go_wp2_with fail
          refine HRv.out.mono ?_
          rintro e w8 ⟨rfl, ho8, hc8⟩
          have hb8 := fun (g : Nat) (h : (Value.slice u6a out.length ucap).ownBlock = some g) => own_block_lt ho8 g h
          have hne11 : ¬ (Value.slice u6a out.length ucap).ownBlock = some wx.heap.size := fun h => by have := (hb8 _ h).1; omega
          have hne7 : ¬ (Value.slice u6a out.length ucap).ownBlock = some w.heap.size := fun h => by have := (hb8 _ h).1; omega
          obtain ⟨z0, z1, z2, z3, z4, -⟩ := blk9_base (HZ.out.2.1.chg hc8 hne11)
          have k7 := HZ.out.2.2.chg hc8 hne7
          have hE8 : Chg (fun b => w.heap.size ≤ b) w w8 := ((HE3.out.mono fun _ _ h => h.elim).trans (HZ.out.1.mono fun b _ h => by rcases h with h | h <;> omega)).trans (hc8.mono fun b hb h => by have := (hb8 _ h).1; omega)
          have hEz := hE8.trans ((put5 (w := w8) (p := w.heap.size) (c0 := .int .i64 s) (c1 := .bool i1) (c2 := .slice a1 0 c1') (c3 := .int .i64 l1) (c4 := .float .f64 0)).mono fun b _ (h : b = w.heap.size) => (by omega : w.heap.size ≤ b))
          have hoz := own_low ho8 (put5 (w := w8) (p := w.heap.size) (c0 := .int .i64 s) (c1 := .bool i1) (c2 := .slice a1 0 c1') (c3 := .int .i64 l1) (c4 := .float .f64 0)) (by intro g hg e; omega)
          have HE8 := Lib.hid (And.intro hoz hEz)
          obtain ⟨g0, f0, g1, f1, g2, f2, g3, f3, g4, f4⟩ := blk5_base k7
          obtain ⟨y3, z3, y4, z4, q0, q1, q2, q3, q4⟩ := blk5_facts k7 (.int .i64 s) (.bool i1) (.slice a1 0 c1') (.int .i64 l1) (.float .f64 0)
          clear hb8 hne11 hne7 ho8 hc8 hE8 hEz hoz k7
          go_wp2_with fail
          refine wp_region_still_tail 4 (by kernel_rfl) (by kernel_rfl) ?_
          simp only [List.take_succ_cons, List.take_zero, List.drop_succ_cons, List.drop_zero]
          change wpStill _ _ w8.drew _ _ _
          repeat still_step
          refine wpStill_nil ?_
          change wpList _ _ _ _ _ w8.drew
          go_wp2_with fail
          try simp only [Exit.inBlock, Exit.then]
          refine bodyPost_ret (by simp [results, Tryz.results96, go_sem, q0, q1, q2, q3, q4]; try rfl) rfl ?_
          refine ⟨HE8.out.2.drew.mono fun b hb (h : w.heap.size ≤ b) => by omega, .inr ⟨by rw [HQ.out]; simp, .slice u6a out.length ucap, V5 s i1 a1 c1' l1, rfl, ?_, ⟨_, _, _, _, rfl, HO1.out.1, HO1.out.2⟩⟩⟩
          rw [HRR.out]
          exact own_low (S := fun _ => False) (own_weak HE8.out.1 (by omega)) (Chg.refl _).drew (fun _ _ h => h)
        · by_cases ha : a = b1
          · have hn : ¬ s' = nS := fun h => hend ⟨ha, h⟩
            obtain rfl : b1 = a := ha.symm
            obtain ⟨et, hs1, hs2, hvia⟩ := HS.out.2.2.1.back F (b1) s' hsk hend
            obtain ⟨i2, a2, c2', l2, hc2, ho2, hlk2⟩ := hway.hit hs1
            clear HLk
            have HLk := Lib.hid (fun W k => hlk2 W k false)
            unfold wayA at HLk
            simp only [Bool.false_eq_true, if_false] at HLk
            have HCv := Lib.hid (fun W (hW : Ext w4 W) => And.intro (hW.block r hway.lt (fun h => h)) (And.intro ((hW.cell (lt_of_cell m9) (fun h => h)).trans m9) (And.intro ((hW.cell (lt_of_cell c0) (fun h => h)).trans c0) ((hW.cell (lt_of_cell c1) (fun h => h)).trans c1))))
            rw [stepsE, if_neg hend, hs1] at hst
            simp only at hst
            have HT := Lib.hid (And.intro hs2 (And.intro hst hfl))
            have HZ := Lib.hid (And.intro hbp (And.intro ho hx))
            have HD := Lib.hid (And.intro c0 (And.intro c1 (And.intro d0 d1)))
            clear hend hsk hst hfl hbp ho hx k9 k11 k7 m9 hway hs1 hs2 hvia hlk2 g0 g1
            go_wp2_with fail
            refine wp_region_held_drew (S := fun v => v.heap[r]? = w4.heap[r]? ∧ v.cell? ⟨sb, 9, none⟩ = some (.map (some r)) ∧ v.cell? ⟨p10, 0, none⟩ = some (.int .i64 b1) ∧ v.cell? ⟨p10, 1, none⟩ = some (.int .i64 s')) (by kernel_rfl) (HCv.out _ (Chg.refl (S := fun _ => False) w4).drew) (fun hHeld => ?_)
            refine wpAnyH_take (i := 0) (v := .pointer (some ⟨sb, 0, none⟩)) rfl (by kernel_rfl) (by kernel_rfl) (by kernel_rfl) (fun _ _ _ h => h) (Or.inl ⟨by rfl, ?_⟩) hHeld ?_
            · intro wS hSw
              obtain ⟨hs0, hs1, hs2, hs3⟩ := hSw
              have hlk := HLk.out wS hs0
              go_simp
            simp only [Act.put, List.setIfInBounds_toArray, List.set_cons_zero, List.set_cons_succ]
            refine wpAnyH_take (i := 1) (v := .pointer (some ⟨sb, 0, none⟩)) rfl (by kernel_rfl) (by kernel_rfl) (by kernel_rfl) (fun _ _ _ h => h) (Or.inl ⟨by rfl, ?_⟩) hHeld ?_
            · intro wS hSw
              obtain ⟨hs0, hs1, hs2, hs3⟩ := hSw
              have hlk := HLk.out wS hs0
              go_simp
            simp only [Act.put, List.setIfInBounds_toArray, List.set_cons_zero, List.set_cons_succ]
            refine wpAnyH_take (i := 2) (v := .pointer (some ⟨sb, 9, none⟩)) rfl (by kernel_rfl) (by kernel_rfl) (by kernel_rfl) (fun _ _ _ h => h) (Or.inl ⟨by rfl, ?_⟩) hHeld ?_
            · intro wS hSw
              obtain ⟨hs0, hs1, hs2, hs3⟩ := hSw
              have hlk := HLk.out wS hs0
              go_simp
            simp only [Act.put, List.setIfInBounds_toArray, List.set_cons_zero, List.set_cons_succ]
            refine wpAnyH_take (i := 3) (v := .map (some r)) rfl (by kernel_rfl) (by kernel_rfl) (by kernel_rfl) (fun _ _ _ h => h) (Or.inl ⟨by rfl, ?_⟩) hHeld ?_
            · intro wS hSw
              obtain ⟨hs0, hs1, hs2, hs3⟩ := hSw
              have hlk := HLk.out wS hs0
              go_simp
            simp only [Act.put, List.setIfInBounds_toArray, List.set_cons_zero, List.set_cons_succ]
            refine wpAnyH_take (i := 4) (v := .agg #[.int .i64 b1, .int .i64 s']) rfl (by kernel_rfl) (by kernel_rfl) (by kernel_rfl) (fun _ _ _ h => h) (Or.inl ⟨by rfl, ?_⟩) hHeld ?_
            · intro wS hSw
              obtain ⟨hs0, hs1, hs2, hs3⟩ := hSw
              have hlk := HLk.out wS hs0
              go_simp
            simp only [Act.put, List.setIfInBounds_toArray, List.set_cons_zero, List.set_cons_succ]
            refine wpAnyH_take (i := 5) (v := .agg #[.int .i64 s, .bool i2, .slice a2 0 c2', .int .i64 l2, .float .f64 0, .int .i64 et.fid, .int .i64 et.fst, .int .i64 et.tok, .bool et.back]) rfl (by kernel_rfl) (by kernel_rfl) (by kernel_rfl) (fun _ _ _ h => h) (Or.inl ⟨by rfl, ?_⟩) hHeld ?_
            · intro wS hSw
              obtain ⟨hs0, hs1, hs2, hs3⟩ := hSw
              have hlk := HLk.out wS hs0
              go_simp
            simp only [Act.put, List.setIfInBounds_toArray, List.set_cons_zero, List.set_cons_succ]
            refine wpAnyH_ready (rs := [6]) (by kernel_rfl) (by simp) ?_
            refine AllReadyH.cons (i := 6) (rs := []) (by rfl) ?_ AllReadyH.nil
            intro K hK
            go_simp
            refine hK.out _ _ (HCv.out _ ((Chg.refl (S := fun _ => False) w4).alloc _).drew) (fun hHeld => ?_)
            clear hK K
            have HKZ2 := Lib.hid (And.intro ((Blk.new w4 #[.int .i64 s, .bool i2, .slice a2 0 c2', .int .i64 l2, .float .f64 0, .int .i64 et.fid, .int .i64 et.fst, .int .i64 et.tok, .bool et.back] 209).chg (Chg.refl (S := fun _ => False) _).drew (fun h => h)) ((Chg.refl (S := fun _ => False) w4).alloc (.cells #[.int .i64 s, .bool i2, .slice a2 0 c2', .int .i64 l2, .float .f64 0, .int .i64 et.fid, .int .i64 et.fst, .int .i64 et.tok, .bool et.back] 209)).drew)
            refine wpAnyH_ready (rs := [7]) (by kernel_rfl) (by simp) ?_
            refine AllReadyH.cons (i := 7) (rs := []) (by rfl) ?_ AllReadyH.nil
            intro K hK
            go_simp
            refine hK.out _ _ (HCv.out _ HKZ2.out.2) (fun hHeld => ?_)
            clear hK K hHeld
            refine wpAnyH_done (by kernel_rfl) ?_ _
            generalize hW6 : (w4.alloc (.cells #[.int .i64 s, .bool i2, .slice a2 0 c2', .int .i64 l2, .float .f64 0, .int .i64 et.fid, .int .i64 et.fst, .int .i64 et.tok, .bool et.back] 209)).drew = W6 at HKZ2 ⊢
            clear hW6 c0 c1 d0 d1
            have kW := HKZ2.out.1
            have hoW := own_low HZ.out.2.1 HKZ2.out.2 (fun _ _ h => h)
            have hpW := HZ.out.1.chg HKZ2.out.2 (fun h => h)
            have hl4 := HZ.out.2.2.size
            have hl6 := HKZ2.out.2.size
            have z5 := kW.cell 5 _ rfl
            have z6 := kW.cell 6 _ rfl
            have z7 := kW.cell 7 _ rfl
            have z8 := kW.cell 8 _ rfl
            by_cases htok : 0 < et.tok
            · have e2 : decide (0 < et.tok) = true := decide_eq_true htok
              have hbk := fun (g : Nat) (h : (Value.slice u6a out.length ucap).ownBlock = some g) => own_block_lt HZ.out.2.1 g h
              have HBk := Lib.hid (And.intro hbk (And.intro kW (And.intro hoW hpW)))
              have hst := HT.out.2.1
              rw [if_pos htok, ← List.append_assoc] at hst
              have HST := Lib.hid (And.intro hst HT.out.2.2)
              have hfl := HT.out.2.2
              clear kW hoW hpW hst hbk z5 z6
              go_wp2_with (at_builtin; refine wpList_append_st _ rfl (.tmp 52) (.tmp 55) 32 rfl W3.heap.size 67 i0 (.agg #[.int .i64 0, .bool false]) 2 16 Tryz.underlying32 HI.out.1 HI.out.2.1 HI.out.2.2.1 HI.out.2.2.2 rfl (by decide) (.slice u6a out.length ucap) out.length _ rfl (own_low HBk.out.2.2.1 ((Chg.refl _).alloc _) (fun _ _ h => h)) ⟨W6.heap.size, 0, none⟩ 1 1 [.int .i64 et.tok, .bool et.back] rfl rfl (by exact fun j u hj => news W6 _ _ j u hj) (by simp [Value.oneCell']) (by unfold maxLen; omega) (by omega) (by simp; omega) ?_; intro v' w' u1 u2 u3; have hg := grow_chg (wr := W6) u2; have kp := HBk.out.2.2.2.chg hg (fun h => by have := (HBk.out.1 _ h).1; omega); have kw := HBk.out.2.1.chg hg (fun h => by have := (HBk.out.1 _ h).2; omega); have z5 := kw.cell 5 _ rfl; have z6 := kw.cell 6 _ rfl; have g0 := kp.cell 0 _ rfl; have f0 := kp.frozen 0; have g1 := (kp.set 0 (.int .i64 et.fid)).cell 1 _ rfl; have f1 := (kp.set 0 (.int .i64 et.fid)).frozen 1; have HF := Lib.hid (And.intro u1 (And.intro hg kp)); clear u1 u2 u3 hg kp kw)
              go_roundg F
              case measure => omega
              case rel =>
                refine ⟨F, et.fid, et.fst, out ++ [(et.tok, et.back)], HT.out.1, HST.out.1, by have := HST.out.2; simp; omega, (HF.out.2.2.set 0 (.int .i64 et.fid)).set 1 (.int .i64 et.fst), ?_, ?_, rfl⟩
                · rw [stepC_app, List.length_append]
                  exact own_low HF.out.1 (set_chg (j := 1) (c := .int .i64 et.fst) (set_chg (p := p10) (j := 0) (c := .int .i64 et.fid) (Chg.refl _))) (by intro g hg e; omega)
                · exact (((HZ.out.2.2.trans (HKZ2.out.2.mono fun _ _ h => h.elim)).trans (HF.out.2.1.mono fun b hb h => .inr (HBk.out.1 _ h).1))).trans ((set_chg (j := 1) (c := .int .i64 et.fst) (set_chg (p := p10) (j := 0) (c := .int .i64 et.fid) (Chg.refl _))).mono fun b _ (h : b = p10) => (.inl h : b = p10 ∨ W3.heap.size ≤ b))
            · have e2 : decide (0 < et.tok) = false := decide_eq_false htok
              obtain ⟨g0, f0, -, -⟩ := blk2_base hpW
              have g1 := (hpW.set 0 (.int .i64 et.fid)).cell 1 _ rfl
              have f1 := (hpW.set 0 (.int .i64 et.fid)).frozen 1
              have HFin := Lib.hid (And.intro ((hpW.set 0 (.int .i64 et.fid)).set 1 (.int .i64 et.fst)) (And.intro (own_low hoW (set_chg (j := 1) (c := .int .i64 et.fst) (set_chg (p := p10) (j := 0) (c := .int .i64 et.fid) (Chg.refl _))) (by intro g hg e; omega)) ((HZ.out.2.2.trans (HKZ2.out.2.mono fun _ _ h => h.elim)).trans ((set_chg (j := 1) (c := .int .i64 et.fst) (set_chg (p := p10) (j := 0) (c := .int .i64 et.fid) (Chg.refl _))).mono fun b _ (h : b = p10) => (.inl h : b = p10 ∨ W3.heap.size ≤ b)))))
              have hst := HT.out.2.1
              rw [if_neg htok, List.nil_append] at hst
              have HST := Lib.hid hst
              clear kW hoW hpW hst
              go_wp2_with fail
              go_roundg F
              case measure => omega
              case rel => exact ⟨F, et.fid, et.fst, out, HT.out.1, HST.out, by have := HT.out.2.2; omega, HFin.out.1, HFin.out.2.1, HFin.out.2.2, rfl⟩
          · obtain ⟨et, hs1, hs2, hvia⟩ := HS.out.2.2.1.back F (a) s' hsk hend
            obtain ⟨i2, a2, c2', l2, hc2, ho2, hlk2⟩ := hway.hit hs1
            clear HLk
            have HLk := Lib.hid (fun W k => hlk2 W k false)
            unfold wayA at HLk
            simp only [Bool.false_eq_true, if_false] at HLk
            have HCv := Lib.hid (fun W (hW : Ext w4 W) => And.intro (hW.block r hway.lt (fun h => h)) (And.intro ((hW.cell (lt_of_cell m9) (fun h => h)).trans m9) (And.intro ((hW.cell (lt_of_cell c0) (fun h => h)).trans c0) ((hW.cell (lt_of_cell c1) (fun h => h)).trans c1))))
            rw [stepsE, if_neg hend, hs1] at hst
            simp only at hst
            have HT := Lib.hid (And.intro hs2 (And.intro hst hfl))
            have HZ := Lib.hid (And.intro hbp (And.intro ho hx))
            have HD := Lib.hid (And.intro c0 (And.intro c1 (And.intro d0 d1)))
            clear hend hsk hst hfl hbp ho hx k9 k11 k7 m9 hway hs1 hs2 hvia hlk2 g0 g1
            go_wp2_with fail
            refine wp_region_held_drew (S := fun v => v.heap[r]? = w4.heap[r]? ∧ v.cell? ⟨sb, 9, none⟩ = some (.map (some r)) ∧ v.cell? ⟨p10, 0, none⟩ = some (.int .i64 a) ∧ v.cell? ⟨p10, 1, none⟩ = some (.int .i64 s')) (by kernel_rfl) (HCv.out _ (Chg.refl (S := fun _ => False) w4).drew) (fun hHeld => ?_)
            refine wpAnyH_take (i := 0) (v := .pointer (some ⟨sb, 0, none⟩)) rfl (by kernel_rfl) (by kernel_rfl) (by kernel_rfl) (fun _ _ _ h => h) (Or.inl ⟨by rfl, ?_⟩) hHeld ?_
            · intro wS hSw
              obtain ⟨hs0, hs1, hs2, hs3⟩ := hSw
              have hlk := HLk.out wS hs0
              go_simp
            simp only [Act.put, List.setIfInBounds_toArray, List.set_cons_zero, List.set_cons_succ]
            refine wpAnyH_take (i := 1) (v := .pointer (some ⟨sb, 0, none⟩)) rfl (by kernel_rfl) (by kernel_rfl) (by kernel_rfl) (fun _ _ _ h => h) (Or.inl ⟨by rfl, ?_⟩) hHeld ?_
            · intro wS hSw
              obtain ⟨hs0, hs1, hs2, hs3⟩ := hSw
              have hlk := HLk.out wS hs0
              go_simp
            simp only [Act.put, List.setIfInBounds_toArray, List.set_cons_zero, List.set_cons_succ]
            refine wpAnyH_take (i := 2) (v := .pointer (some ⟨sb, 9, none⟩)) rfl (by kernel_rfl) (by kernel_rfl) (by kernel_rfl) (fun _ _ _ h => h) (Or.inl ⟨by rfl, ?_⟩) hHeld ?_
            · intro wS hSw
              obtain ⟨hs0, hs1, hs2, hs3⟩ := hSw
              have hlk := HLk.out wS hs0
              go_simp
            simp only [Act.put, List.setIfInBounds_toArray, List.set_cons_zero, List.set_cons_succ]
            refine wpAnyH_take (i := 3) (v := .map (some r)) rfl (by kernel_rfl) (by kernel_rfl) (by kernel_rfl) (fun _ _ _ h => h) (Or.inl ⟨by rfl, ?_⟩) hHeld ?_
            · intro wS hSw
              obtain ⟨hs0, hs1, hs2, hs3⟩ := hSw
              have hlk := HLk.out wS hs0
              go_simp
            simp only [Act.put, List.setIfInBounds_toArray, List.set_cons_zero, List.set_cons_succ]
            refine wpAnyH_take (i := 4) (v := .agg #[.int .i64 a, .int .i64 s']) rfl (by kernel_rfl) (by kernel_rfl) (by kernel_rfl) (fun _ _ _ h => h) (Or.inl ⟨by rfl, ?_⟩) hHeld ?_
            · intro wS hSw
              obtain ⟨hs0, hs1, hs2, hs3⟩ := hSw
              have hlk := HLk.out wS hs0
              go_simp
            simp only [Act.put, List.setIfInBounds_toArray, List.set_cons_zero, List.set_cons_succ]
            refine wpAnyH_take (i := 5) (v := .agg #[.int .i64 s, .bool i2, .slice a2 0 c2', .int .i64 l2, .float .f64 0, .int .i64 et.fid, .int .i64 et.fst, .int .i64 et.tok, .bool et.back]) rfl (by kernel_rfl) (by kernel_rfl) (by kernel_rfl) (fun _ _ _ h => h) (Or.inl ⟨by rfl, ?_⟩) hHeld ?_
            · intro wS hSw
              obtain ⟨hs0, hs1, hs2, hs3⟩ := hSw
              have hlk := HLk.out wS hs0
              go_simp
            simp only [Act.put, List.setIfInBounds_toArray, List.set_cons_zero, List.set_cons_succ]
            refine wpAnyH_ready (rs := [6]) (by kernel_rfl) (by simp) ?_
            refine AllReadyH.cons (i := 6) (rs := []) (by rfl) ?_ AllReadyH.nil
            intro K hK
            go_simp
            refine hK.out _ _ (HCv.out _ ((Chg.refl (S := fun _ => False) w4).alloc _).drew) (fun hHeld => ?_)
            clear hK K
            have HKZ2 := Lib.hid (And.intro ((Blk.new w4 #[.int .i64 s, .bool i2, .slice a2 0 c2', .int .i64 l2, .float .f64 0, .int .i64 et.fid, .int .i64 et.fst, .int .i64 et.tok, .bool et.back] 209).chg (Chg.refl (S := fun _ => False) _).drew (fun h => h)) ((Chg.refl (S := fun _ => False) w4).alloc (.cells #[.int .i64 s, .bool i2, .slice a2 0 c2', .int .i64 l2, .float .f64 0, .int .i64 et.fid, .int .i64 et.fst, .int .i64 et.tok, .bool et.back] 209)).drew)
            refine wpAnyH_ready (rs := [7]) (by kernel_rfl) (by simp) ?_
            refine AllReadyH.cons (i := 7) (rs := []) (by rfl) ?_ AllReadyH.nil
            intro K hK
            go_simp
            refine hK.out _ _ (HCv.out _ HKZ2.out.2) (fun hHeld => ?_)
            clear hK K hHeld
            refine wpAnyH_done (by kernel_rfl) ?_ _
            generalize hW6 : (w4.alloc (.cells #[.int .i64 s, .bool i2, .slice a2 0 c2', .int .i64 l2, .float .f64 0, .int .i64 et.fid, .int .i64 et.fst, .int .i64 et.tok, .bool et.back] 209)).drew = W6 at HKZ2 ⊢
            clear hW6 c0 c1 d0 d1
            have kW := HKZ2.out.1
            have hoW := own_low HZ.out.2.1 HKZ2.out.2 (fun _ _ h => h)
            have hpW := HZ.out.1.chg HKZ2.out.2 (fun h => h)
            have hl4 := HZ.out.2.2.size
            have hl6 := HKZ2.out.2.size
            have z5 := kW.cell 5 _ rfl
            have z6 := kW.cell 6 _ rfl
            have z7 := kW.cell 7 _ rfl
            have z8 := kW.cell 8 _ rfl
            by_cases htok : 0 < et.tok
            · have e2 : decide (0 < et.tok) = true := decide_eq_true htok
              have hbk := fun (g : Nat) (h : (Value.slice u6a out.length ucap).ownBlock = some g) => own_block_lt HZ.out.2.1 g h
              have HBk := Lib.hid (And.intro hbk (And.intro kW (And.intro hoW hpW)))
              have hst := HT.out.2.1
              rw [if_pos htok, ← List.append_assoc] at hst
              have HST := Lib.hid (And.intro hst HT.out.2.2)
              have hfl := HT.out.2.2
              clear kW hoW hpW hst hbk z5 z6
              go_wp2_with (at_builtin; refine wpList_append_st _ rfl (.tmp 52) (.tmp 55) 32 rfl W3.heap.size 67 i0 (.agg #[.int .i64 0, .bool false]) 2 16 Tryz.underlying32 HI.out.1 HI.out.2.1 HI.out.2.2.1 HI.out.2.2.2 rfl (by decide) (.slice u6a out.length ucap) out.length _ rfl (own_low HBk.out.2.2.1 ((Chg.refl _).alloc _) (fun _ _ h => h)) ⟨W6.heap.size, 0, none⟩ 1 1 [.int .i64 et.tok, .bool et.back] rfl rfl (by exact fun j u hj => news W6 _ _ j u hj) (by simp [Value.oneCell']) (by unfold maxLen; omega) (by omega) (by simp; omega) ?_; intro v' w' u1 u2 u3; have hg := grow_chg (wr := W6) u2; have kp := HBk.out.2.2.2.chg hg (fun h => by have := (HBk.out.1 _ h).1; omega); have kw := HBk.out.2.1.chg hg (fun h => by have := (HBk.out.1 _ h).2; omega); have z5 := kw.cell 5 _ rfl; have z6 := kw.cell 6 _ rfl; have g0 := kp.cell 0 _ rfl; have f0 := kp.frozen 0; have g1 := (kp.set 0 (.int .i64 et.fid)).cell 1 _ rfl; have f1 := (kp.set 0 (.int .i64 et.fid)).frozen 1; have HF := Lib.hid (And.intro u1 (And.intro hg kp)); clear u1 u2 u3 hg kp kw)
              go_roundg F
              case measure => omega
              case rel =>
                refine ⟨F, et.fid, et.fst, out ++ [(et.tok, et.back)], HT.out.1, HST.out.1, by have := HST.out.2; simp; omega, (HF.out.2.2.set 0 (.int .i64 et.fid)).set 1 (.int .i64 et.fst), ?_, ?_, rfl⟩
                · rw [stepC_app, List.length_append]
                  exact own_low HF.out.1 (set_chg (j := 1) (c := .int .i64 et.fst) (set_chg (p := p10) (j := 0) (c := .int .i64 et.fid) (Chg.refl _))) (by intro g hg e; omega)
                · exact (((HZ.out.2.2.trans (HKZ2.out.2.mono fun _ _ h => h.elim)).trans (HF.out.2.1.mono fun b hb h => .inr (HBk.out.1 _ h).1))).trans ((set_chg (j := 1) (c := .int .i64 et.fst) (set_chg (p := p10) (j := 0) (c := .int .i64 et.fid) (Chg.refl _))).mono fun b _ (h : b = p10) => (.inl h : b = p10 ∨ W3.heap.size ≤ b))
            · have e2 : decide (0 < et.tok) = false := decide_eq_false htok
              obtain ⟨g0, f0, -, -⟩ := blk2_base hpW
              have g1 := (hpW.set 0 (.int .i64 et.fid)).cell 1 _ rfl
              have f1 := (hpW.set 0 (.int .i64 et.fid)).frozen 1
              have HFin := Lib.hid (And.intro ((hpW.set 0 (.int .i64 et.fid)).set 1 (.int .i64 et.fst)) (And.intro (own_low hoW (set_chg (j := 1) (c := .int .i64 et.fst) (set_chg (p := p10) (j := 0) (c := .int .i64 et.fid) (Chg.refl _))) (by intro g hg e; omega)) ((HZ.out.2.2.trans (HKZ2.out.2.mono fun _ _ h => h.elim)).trans ((set_chg (j := 1) (c := .int .i64 et.fst) (set_chg (p := p10) (j := 0) (c := .int .i64 et.fid) (Chg.refl _))).mono fun b _ (h : b = p10) => (.inl h : b = p10 ∨ W3.heap.size ≤ b)))))
              have hst := HT.out.2.1
              rw [if_neg htok, List.nil_append] at hst
              have HST := Lib.hid hst
              clear kW hoW hpW hst
              go_wp2_with fail
              go_roundg F
              case measure => omega
              case rel => exact ⟨F, et.fid, et.fst, out, HT.out.1, HST.out, by have := HT.out.2.2; omega, HFin.out.1, HFin.out.2.1, HFin.out.2.2, rfl⟩
end Go.Proofs.YtkhllknahjmciaaGreat
