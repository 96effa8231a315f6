/-
  A way is offered.
-/
import Derived.Test.YtkhllknahjmciaaGreatM24
/-! A way is offered. -/
namespace Go.Proofs.YtkhllknahjmciaaGreat
open Go.RowKit
set_option linter.unusedVariables false
set_option linter.unusedSimpArgs false

set_option maxRecDepth 100000 in
set_option maxHeartbeats 1000000 in
theorem try_any (sb r : Nat) (s : Int) (L L' : List Et) (id st fid fst tok : Int) (back : Bool) (i : Bool) (a : Option Addr) (c : Nat) (l : Int) (b g : Bool) (hc : c ≤ maxLen) (ho : Ok0 s i l b) (w : World) (hp : w.cell? ⟨sb, 9, none⟩ = some (.map (some r))) (hw : Ways w r s L) (hne : sb ≠ r) (hL : tryE b L ⟨id, st, fid, fst, tok, back⟩ = L') (hg : decide (L.length < L'.length) = g) :
    Calls Tryz.prog 205 #[.pointer (some ⟨sb, 0, none⟩), .agg #[.int .i64 id, .int .i64 st], .agg #[.int .i64 s, .bool i, .slice a 0 c, .int .i64 l, .float .f64 0, .int .i64 fid, .int .i64 fst, .int .i64 tok, .bool back]] w fun e w' => e = .returned (.bool g) ∧ Ways w' r s L' ∧ Chg (fun k => k = r) w w' := by
  have hsf := run_store_f
  have HZ := Lib.hid (fun W => isZero0 a c hc ho W)
  have h1 : Ext w (w.alloc (.cells #[.int .i64 id, .int .i64 st] 207)) := (Chg.refl w).alloc _
  have h2 := h1.alloc (.cells #[.int .i64 s, .bool i, .slice a 0 c, .int .i64 l, .float .f64 0, .int .i64 fid, .int .i64 fst, .int .i64 tok, .bool back] 209)
  have b1 := (Blk.new w #[.int .i64 id, .int .i64 st] 207).chg ((Chg.refl (S := fun _ => False) _).alloc (.cells #[.int .i64 s, .bool i, .slice a 0 c, .int .i64 l, .float .f64 0, .int .i64 fid, .int .i64 fst, .int .i64 tok, .bool back] 209)) (fun h => h)
  have b2 := Blk.new (w.alloc (.cells #[.int .i64 id, .int .i64 st] 207)) #[.int .i64 s, .bool i, .slice a 0 c, .int .i64 l, .float .f64 0, .int .i64 fid, .int .i64 fst, .int .i64 tok, .bool back] 209
  simp only [World.size_alloc] at b2
  have hbl : sb < w.heap.size := lt_of_cell hp
  have hrl := hw.lt
  have HB := Lib.hid (And.intro h2 (And.intro b1 b2))
  have HW := Lib.hid (And.intro hp (And.intro hw hne))
  clear hp hw h1 h2 b1 b2 hne
  go_enter Tryz.func205, Tryz.ntmps205
  go_wp2_with fail
  refine (HZ.out _).mono ?_
  rintro e w2 ⟨rfl, hx⟩
  have HX := Lib.hid (HB.out.1.trans hx)
  have k1 := HB.out.2.1.chg hx (fun h => h)
  have k2 := HB.out.2.2.chg hx (fun h => h)
  clear hx
  cases b with
  | false =>
    go_wp2_with fail
    go_ret
    rw [tryE, if_neg (by simp)] at hL
    subst hL
    rw [decide_eq_false (by omega)] at hg
    subst hg
    exact ⟨rfl, HW.out.2.1.ext HX.out, HX.out.mono fun _ _ h => h.elim⟩
  | true =>
    have q9 : w2.cell? ⟨sb, 9, none⟩ = some (.map (some r)) := by rw [HX.out.cell (p := ⟨sb, 9, none⟩) hbl (fun h => h)]; exact HW.out.1
    have hW2 := HW.out.2.1.ext HX.out
    obtain ⟨c0, -, c1, -⟩ := blk2_base k1
    have HCs := Lib.hid (fun W (hW : Ext w2 W) => And.intro (hW.block r hW2.lt (fun h => h)) (And.intro ((hW.cell (lt_of_cell q9) (fun h => h)).trans q9) (And.intro ((hW.cell (lt_of_cell c0) (fun h => h)).trans c0) ((hW.cell (lt_of_cell c1) (fun h => h)).trans c1))))
    have HK := Lib.hid (And.intro k2 hW2)
    cases hs : seek id st L with
    | none =>
      have HLk := Lib.hid (fun W k => hW2.miss hs W k)
      have HK0 := Lib.hid k1
      clear q9 hW2 c0 c1 k1 k2
      go_wp2_with fail
      refine wp_region_held_drew (S := fun v => v.heap[r]? = w2.heap[r]? ∧ v.cell? ⟨sb, 9, none⟩ = some (.map (some r)) ∧ v.cell? ⟨w.heap.size, 0, none⟩ = some (.int .i64 id) ∧ v.cell? ⟨w.heap.size, 1, none⟩ = some (.int .i64 st)) (by kernel_rfl) (HCs.out _ (Chg.refl (S := fun _ => False) w2).drew) (fun hHeld => ?_)
      refine wpAnyH_take (i := 0) (v := .pointer (some ⟨sb, 0, none⟩)) rfl (by kernel_rfl) (by kernel_rfl) (by kernel_rfl) (fun _ _ _ h => h) (Or.inl ⟨by rfl, ?_⟩) hHeld ?_
      · intro wS hSw
        obtain ⟨hs0, hs1, hs2, hs3⟩ := hSw
        have hlk := HLk.out wS hs0
        go_simp
      simp only [Act.put, List.setIfInBounds_toArray, List.set_cons_zero, List.set_cons_succ]
      refine wpAnyH_take (i := 1) (v := .pointer (some ⟨sb, 0, none⟩)) rfl (by kernel_rfl) (by kernel_rfl) (by kernel_rfl) (fun _ _ _ h => h) (Or.inl ⟨by rfl, ?_⟩) hHeld ?_
      · intro wS hSw
        obtain ⟨hs0, hs1, hs2, hs3⟩ := hSw
        have hlk := HLk.out wS hs0
        go_simp
      simp only [Act.put, List.setIfInBounds_toArray, List.set_cons_zero, List.set_cons_succ]
      refine wpAnyH_take (i := 2) (v := .pointer (some ⟨sb, 9, none⟩)) rfl (by kernel_rfl) (by kernel_rfl) (by kernel_rfl) (fun _ _ _ h => h) (Or.inl ⟨by rfl, ?_⟩) hHeld ?_
      · intro wS hSw
        obtain ⟨hs0, hs1, hs2, hs3⟩ := hSw
        have hlk := HLk.out wS hs0
        go_simp
      simp only [Act.put, List.setIfInBounds_toArray, List.set_cons_zero, List.set_cons_succ]
      refine wpAnyH_take (i := 3) (v := .map (some r)) rfl (by kernel_rfl) (by kernel_rfl) (by kernel_rfl) (fun _ _ _ h => h) (Or.inl ⟨by rfl, ?_⟩) hHeld ?_
      · intro wS hSw
        obtain ⟨hs0, hs1, hs2, hs3⟩ := hSw
        have hlk := HLk.out wS hs0
        go_simp
      simp only [Act.put, List.setIfInBounds_toArray, List.set_cons_zero, List.set_cons_succ]
      refine wpAnyH_take (i := 4) (v := .agg #[.int .i64 id, .int .i64 st]) rfl (by kernel_rfl) (by kernel_rfl) (by kernel_rfl) (fun _ _ _ h => h) (Or.inl ⟨by rfl, ?_⟩) hHeld ?_
      · intro wS hSw
        obtain ⟨hs0, hs1, hs2, hs3⟩ := hSw
        have hlk := HLk.out wS hs0
        go_simp
      simp only [Act.put, List.setIfInBounds_toArray, List.set_cons_zero, List.set_cons_succ]
      refine wpAnyH_take (i := 5) (v := .tuple #[zeroWay, .bool false]) rfl (by kernel_rfl) (by kernel_rfl) (by kernel_rfl) (fun _ _ _ h => h) (Or.inl ⟨by rfl, ?_⟩) hHeld ?_
      · intro wS hSw
        obtain ⟨hs0, hs1, hs2, hs3⟩ := hSw
        have hlk := HLk.out wS hs0
        go_simp
      simp only [Act.put, List.setIfInBounds_toArray, List.set_cons_zero, List.set_cons_succ]
      refine wpAnyH_take (i := 6) (v := .tuple #[zeroWay, .bool false]) rfl (by kernel_rfl) (by kernel_rfl) (by kernel_rfl) (fun _ _ _ h => h) (Or.inl ⟨by rfl, ?_⟩) hHeld ?_
      · intro wS hSw
        obtain ⟨hs0, hs1, hs2, hs3⟩ := hSw
        have hlk := HLk.out wS hs0
        go_simp
      simp only [Act.put, List.setIfInBounds_toArray, List.set_cons_zero, List.set_cons_succ]
      refine wpAnyH_take (i := 7) (v := zeroWay) rfl (by kernel_rfl) (by kernel_rfl) (by kernel_rfl) (fun _ _ _ h => h) (Or.inl ⟨by rfl, ?_⟩) hHeld ?_
      · intro wS hSw
        obtain ⟨hs0, hs1, hs2, hs3⟩ := hSw
        have hlk := HLk.out wS hs0
        go_simp
      simp only [Act.put, List.setIfInBounds_toArray, List.set_cons_zero, List.set_cons_succ]
      refine wpAnyH_take (i := 8) (v := .bool false) rfl (by kernel_rfl) (by kernel_rfl) (by kernel_rfl) (fun _ _ _ h => h) (Or.inl ⟨by rfl, ?_⟩) hHeld ?_
      · intro wS hSw
        obtain ⟨hs0, hs1, hs2, hs3⟩ := hSw
        have hlk := HLk.out wS hs0
        go_simp
      simp only [Act.put, List.setIfInBounds_toArray, List.set_cons_zero, List.set_cons_succ]
      refine wpAnyH_ready (rs := [9]) (by kernel_rfl) (by simp) ?_
      refine AllReadyH.cons rfl (fun K hK => ?_) ?_
      · go_simp
        refine hK.out _ _ (HCs.out _ ((Chg.refl (S := fun _ => False) w2).alloc _).drew) (fun hHeld => ?_)
        clear hK K
        have HKZ := Lib.hid (And.intro ((Blk.new w2 #[.int .i64 0, .bool false, .slice none 0 0, .int .i64 0, .float .f64 0, .int .i64 0, .int .i64 0, .int .i64 0, .bool false] 209).chg (Chg.refl (S := fun _ => False) _).drew (fun h => h)) ((Chg.refl (S := fun _ => False) w2).alloc (.cells #[.int .i64 0, .bool false, .slice none 0 0, .int .i64 0, .float .f64 0, .int .i64 0, .int .i64 0, .int .i64 0, .bool false] 209)).drew)
        refine wpAnyH_ready (rs := [10]) (by kernel_rfl) (by simp) ?_
        refine AllReadyH.cons rfl (fun K hK => ?_) ?_
        · go_simp
          refine hK.out _ _ (HCs.out _ HKZ.out.2) (fun hHeld => ?_)
          clear hK K
          refine wpAnyH_ready (rs := [11]) (by kernel_rfl) (by simp) ?_
          refine AllReadyH.cons rfl (fun K hK => ?_) ?_
          · go_simp
            refine hK.out _ _ hHeld (fun hHeld => ?_)
            clear hK K
            refine wpAnyH_done (by kernel_rfl) ?_ _
            generalize hW3 : (w2.alloc (.cells #[.int .i64 0, .bool false, .slice none 0 0, .int .i64 0, .float .f64 0, .int .i64 0, .int .i64 0, .int .i64 0, .bool false] 209)).drew = W3 at HKZ ⊢
            have HP := Lib.hid (And.intro (HCs.out _ HKZ.out.2) (And.intro (HK.out.1.chg HKZ.out.2 (fun h => h)) (HK0.out.chg HKZ.out.2 (fun h => h))))
            have HPut := Lib.hid (HK.out.2.put (e := ⟨id, st, fid, fst, tok, back⟩) (ad := a) hs hc ho W3.drew (HKZ.out.2.drew.block r HK.out.2.lt (fun h => h)))
            have hE3 := HX.out.trans HKZ.out.2
            have HE3 := Lib.hid hE3
            rw [tryE, if_pos ⟨rfl, hs⟩] at hL
            subst hL
            rw [List.length_append, List.length_singleton, decide_eq_true (by omega)] at hg
            subst hg
            clear hW3 hHeld hE3 hs
            go_wp2_with fail
            refine wp_region_held_drew (S := fun v => v.cell? ⟨sb, 9, none⟩ = some (.map (some r)) ∧ Blk v w.heap.size #[.int .i64 id, .int .i64 st] 207 ∧ Blk v (w.heap.size + 1) #[.int .i64 s, .bool i, .slice a 0 c, .int .i64 l, .float .f64 0, .int .i64 fid, .int .i64 fst, .int .i64 tok, .bool back] 209) (by kernel_rfl) (by exact ⟨HP.out.1.2.1, HP.out.2.2.chg (Chg.refl (S := fun _ => False) W3).drew (fun h => h), HP.out.2.1.chg (Chg.refl (S := fun _ => False) W3).drew (fun h => h)⟩) (fun hHeld => ?_)
            refine wpAnyH_take (i := 0) (v := .pointer (some ⟨sb, 0, none⟩)) rfl (by kernel_rfl) (by kernel_rfl) (by kernel_rfl) (fun _ _ _ h => h) (Or.inl ⟨by rfl, ?_⟩) hHeld ?_
            · intro wS hSw
              obtain ⟨hs1, hs2, hs3⟩ := hSw
              obtain ⟨y0, -, y1, -⟩ := blk2_base hs2
              obtain ⟨z0, z1, z2, z3, z4, z5, z6, z7, z8⟩ := blk9_base hs3
              clear hs2 hs3 hHeld
              go_simp
            simp only [Act.put, List.setIfInBounds_toArray, List.set_cons_zero, List.set_cons_succ]
            refine wpAnyH_take (i := 1) (v := .pointer (some ⟨sb, 0, none⟩)) rfl (by kernel_rfl) (by kernel_rfl) (by kernel_rfl) (fun _ _ _ h => h) (Or.inl ⟨by rfl, ?_⟩) hHeld ?_
            · intro wS hSw
              obtain ⟨hs1, hs2, hs3⟩ := hSw
              obtain ⟨y0, -, y1, -⟩ := blk2_base hs2
              obtain ⟨z0, z1, z2, z3, z4, z5, z6, z7, z8⟩ := blk9_base hs3
              clear hs2 hs3 hHeld
              go_simp
            simp only [Act.put, List.setIfInBounds_toArray, List.set_cons_zero, List.set_cons_succ]
            refine wpAnyH_take (i := 2) (v := .pointer (some ⟨sb, 9, none⟩)) rfl (by kernel_rfl) (by kernel_rfl) (by kernel_rfl) (fun _ _ _ h => h) (Or.inl ⟨by rfl, ?_⟩) hHeld ?_
            · intro wS hSw
              obtain ⟨hs1, hs2, hs3⟩ := hSw
              obtain ⟨y0, -, y1, -⟩ := blk2_base hs2
              obtain ⟨z0, z1, z2, z3, z4, z5, z6, z7, z8⟩ := blk9_base hs3
              clear hs2 hs3 hHeld
              go_simp
            simp only [Act.put, List.setIfInBounds_toArray, List.set_cons_zero, List.set_cons_succ]
            refine wpAnyH_take (i := 3) (v := .map (some r)) rfl (by kernel_rfl) (by kernel_rfl) (by kernel_rfl) (fun _ _ _ h => h) (Or.inl ⟨by rfl, ?_⟩) hHeld ?_
            · intro wS hSw
              obtain ⟨hs1, hs2, hs3⟩ := hSw
              obtain ⟨y0, -, y1, -⟩ := blk2_base hs2
              obtain ⟨z0, z1, z2, z3, z4, z5, z6, z7, z8⟩ := blk9_base hs3
              clear hs2 hs3 hHeld
              go_simp
            simp only [Act.put, List.setIfInBounds_toArray, List.set_cons_zero, List.set_cons_succ]
            refine wpAnyH_take (i := 4) (v := .agg #[.int .i64 id, .int .i64 st]) rfl (by kernel_rfl) (by kernel_rfl) (by kernel_rfl) (fun _ _ _ h => h) (Or.inl ⟨by rfl, ?_⟩) hHeld ?_
            · intro wS hSw
              obtain ⟨hs1, hs2, hs3⟩ := hSw
              obtain ⟨y0, -, y1, -⟩ := blk2_base hs2
              obtain ⟨z0, z1, z2, z3, z4, z5, z6, z7, z8⟩ := blk9_base hs3
              clear hs2 hs3 hHeld
              go_simp
            simp only [Act.put, List.setIfInBounds_toArray, List.set_cons_zero, List.set_cons_succ]
            refine wpAnyH_take (i := 5) (v := .agg #[.int .i64 s, .bool i, .slice a 0 c, .int .i64 l, .float .f64 0, .int .i64 fid, .int .i64 fst, .int .i64 tok, .bool back]) rfl (by kernel_rfl) (by kernel_rfl) (by kernel_rfl) (fun _ _ _ h => h) (yieldsIf_load_mid (by rfl) 209 (.tmp 5) rfl (w.heap.size + 1) 0 rfl [.int .i64 s, .bool i, .slice a 0 c, .int .i64 l, .float .f64 0, .int .i64 fid, .int .i64 fst, .int .i64 tok, .bool back] _ (fun v hv => Blk.range (hv.2.2)) Tryz.underlying209 rfl (by kernel_rfl)) hHeld ?_
            simp only [Act.put, List.setIfInBounds_toArray, List.set_cons_zero, List.set_cons_succ]
            refine wpAnyH_ready (rs := [6]) (by kernel_rfl) (by simp) ?_
            refine AllReadyH.cons (i := 6) (rs := []) (by rfl) ?_ AllReadyH.nil
            intro K hK
            have hrun := (Classical.choose_spec HPut.out).1
            have hw4 := (Classical.choose_spec HPut.out).2.1
            have hc4 := (Classical.choose_spec HPut.out).2.2
            generalize Classical.choose HPut.out = W4 at hrun hw4 hc4
            have HF := Lib.hid (And.intro hw4 hc4)
            have hS4 : W4.cell? ⟨sb, 9, none⟩ = some (.map (some r)) ∧ Blk W4 w.heap.size #[.int .i64 id, .int .i64 st] 207 ∧ Blk W4 (w.heap.size + 1) #[.int .i64 s, .bool i, .slice a 0 c, .int .i64 l, .float .f64 0, .int .i64 fid, .int .i64 fst, .int .i64 tok, .bool back] 209 := ⟨(hc4.cell (p := ⟨sb, 9, none⟩) (lt_of_cell hHeld.1) HW.out.2.2).trans hHeld.1, hHeld.2.1.chg hc4 (by omega), hHeld.2.2.chg hc4 (by omega)⟩
            have HS4 := Lib.hid hS4
            clear hw4 hc4 hS4
            go_simp
            refine hK.out _ _ HS4.out (fun hHeld => ?_)
            clear hK K hHeld hrun
            refine wpAnyH_done (by kernel_rfl) ?_ _
            go_wp2_with fail
            go_ret
            exact ⟨rfl, HF.out.1, (HE3.out.drew.mono fun _ _ h => h.elim).trans HF.out.2⟩
          exact AllReadyH.nil
        exact AllReadyH.nil
      exact AllReadyH.nil
    | some e0 =>
      obtain ⟨i1, a1, c1, l1, hc1, ho1, hlk⟩ := hW2.hit hs
      have HLk := Lib.hid (fun W k => hlk W k true)
      have HBt := Lib.hid (fun W => better0 a1 a c1 c hc1 hc ho1 ho W)
      have HK0 := Lib.hid k1
      rw [tryE, if_neg (by simp [hs])] at hL
      subst hL
      rw [decide_eq_false (by omega)] at hg
      subst hg
      clear q9 hW2 c0 k1 k2 hlk hs ho1 hc1 ho
      unfold wayA at HLk
      simp only [if_true] at HLk
      go_wp2_with fail
      refine wp_region_held_drew (S := fun v => v.heap[r]? = w2.heap[r]? ∧ v.cell? ⟨sb, 9, none⟩ = some (.map (some r)) ∧ v.cell? ⟨w.heap.size, 0, none⟩ = some (.int .i64 id) ∧ v.cell? ⟨w.heap.size, 1, none⟩ = some (.int .i64 st)) (by kernel_rfl) (HCs.out _ (Chg.refl (S := fun _ => False) w2).drew) (fun hHeld => ?_)
      refine wpAnyH_take (i := 0) (v := .pointer (some ⟨sb, 0, none⟩)) rfl (by kernel_rfl) (by kernel_rfl) (by kernel_rfl) (fun _ _ _ h => h) (Or.inl ⟨by rfl, ?_⟩) hHeld ?_
      · intro wS hSw
        obtain ⟨hs0, hs1, hs2, hs3⟩ := hSw
        have hlk := HLk.out wS hs0
        go_simp
      simp only [Act.put, List.setIfInBounds_toArray, List.set_cons_zero, List.set_cons_succ]
      refine wpAnyH_take (i := 1) (v := .pointer (some ⟨sb, 0, none⟩)) rfl (by kernel_rfl) (by kernel_rfl) (by kernel_rfl) (fun _ _ _ h => h) (Or.inl ⟨by rfl, ?_⟩) hHeld ?_
      · intro wS hSw
        obtain ⟨hs0, hs1, hs2, hs3⟩ := hSw
        have hlk := HLk.out wS hs0
        go_simp
      simp only [Act.put, List.setIfInBounds_toArray, List.set_cons_zero, List.set_cons_succ]
      refine wpAnyH_take (i := 2) (v := .pointer (some ⟨sb, 9, none⟩)) rfl (by kernel_rfl) (by kernel_rfl) (by kernel_rfl) (fun _ _ _ h => h) (Or.inl ⟨by rfl, ?_⟩) hHeld ?_
      · intro wS hSw
        obtain ⟨hs0, hs1, hs2, hs3⟩ := hSw
        have hlk := HLk.out wS hs0
        go_simp
      simp only [Act.put, List.setIfInBounds_toArray, List.set_cons_zero, List.set_cons_succ]
      refine wpAnyH_take (i := 3) (v := .map (some r)) rfl (by kernel_rfl) (by kernel_rfl) (by kernel_rfl) (fun _ _ _ h => h) (Or.inl ⟨by rfl, ?_⟩) hHeld ?_
      · intro wS hSw
        obtain ⟨hs0, hs1, hs2, hs3⟩ := hSw
        have hlk := HLk.out wS hs0
        go_simp
      simp only [Act.put, List.setIfInBounds_toArray, List.set_cons_zero, List.set_cons_succ]
      refine wpAnyH_take (i := 4) (v := .agg #[.int .i64 id, .int .i64 st]) rfl (by kernel_rfl) (by kernel_rfl) (by kernel_rfl) (fun _ _ _ h => h) (Or.inl ⟨by rfl, ?_⟩) hHeld ?_
      · intro wS hSw
        obtain ⟨hs0, hs1, hs2, hs3⟩ := hSw
        have hlk := HLk.out wS hs0
        go_simp
      simp only [Act.put, List.setIfInBounds_toArray, List.set_cons_zero, List.set_cons_succ]
      refine wpAnyH_take (i := 5) (v := .tuple #[.agg #[.int .i64 s, .bool i1, .slice a1 0 c1, .int .i64 l1, .float .f64 0, .int .i64 e0.fid, .int .i64 e0.fst, .int .i64 e0.tok, .bool e0.back], .bool true]) rfl (by kernel_rfl) (by kernel_rfl) (by kernel_rfl) (fun _ _ _ h => h) (Or.inl ⟨by rfl, ?_⟩) hHeld ?_
      · intro wS hSw
        obtain ⟨hs0, hs1, hs2, hs3⟩ := hSw
        have hlk := HLk.out wS hs0
        go_simp
      simp only [Act.put, List.setIfInBounds_toArray, List.set_cons_zero, List.set_cons_succ]
      refine wpAnyH_take (i := 6) (v := .tuple #[.agg #[.int .i64 s, .bool i1, .slice a1 0 c1, .int .i64 l1, .float .f64 0, .int .i64 e0.fid, .int .i64 e0.fst, .int .i64 e0.tok, .bool e0.back], .bool true]) rfl (by kernel_rfl) (by kernel_rfl) (by kernel_rfl) (fun _ _ _ h => h) (Or.inl ⟨by rfl, ?_⟩) hHeld ?_
      · intro wS hSw
        obtain ⟨hs0, hs1, hs2, hs3⟩ := hSw
        have hlk := HLk.out wS hs0
        go_simp
      simp only [Act.put, List.setIfInBounds_toArray, List.set_cons_zero, List.set_cons_succ]
      refine wpAnyH_take (i := 7) (v := .agg #[.int .i64 s, .bool i1, .slice a1 0 c1, .int .i64 l1, .float .f64 0, .int .i64 e0.fid, .int .i64 e0.fst, .int .i64 e0.tok, .bool e0.back]) rfl (by kernel_rfl) (by kernel_rfl) (by kernel_rfl) (fun _ _ _ h => h) (Or.inl ⟨by rfl, ?_⟩) hHeld ?_
      · intro wS hSw
        obtain ⟨hs0, hs1, hs2, hs3⟩ := hSw
        have hlk := HLk.out wS hs0
        go_simp
      simp only [Act.put, List.setIfInBounds_toArray, List.set_cons_zero, List.set_cons_succ]
      refine wpAnyH_take (i := 8) (v := .bool true) rfl (by kernel_rfl) (by kernel_rfl) (by kernel_rfl) (fun _ _ _ h => h) (Or.inl ⟨by rfl, ?_⟩) hHeld ?_
      · intro wS hSw
        obtain ⟨hs0, hs1, hs2, hs3⟩ := hSw
        have hlk := HLk.out wS hs0
        go_simp
      simp only [Act.put, List.setIfInBounds_toArray, List.set_cons_zero, List.set_cons_succ]
      refine wpAnyH_ready (rs := [9]) (by kernel_rfl) (by simp) ?_
      refine AllReadyH.cons rfl (fun K hK => ?_) ?_
      · go_simp
        refine hK.out _ _ (HCs.out _ ((Chg.refl (S := fun _ => False) w2).alloc _).drew) (fun hHeld => ?_)
        clear hK K
        have HKZ := Lib.hid (And.intro ((Blk.new w2 #[.int .i64 s, .bool i1, .slice a1 0 c1, .int .i64 l1, .float .f64 0, .int .i64 e0.fid, .int .i64 e0.fst, .int .i64 e0.tok, .bool e0.back] 209).chg (Chg.refl (S := fun _ => False) _).drew (fun h => h)) ((Chg.refl (S := fun _ => False) w2).alloc (.cells #[.int .i64 s, .bool i1, .slice a1 0 c1, .int .i64 l1, .float .f64 0, .int .i64 e0.fid, .int .i64 e0.fst, .int .i64 e0.tok, .bool e0.back] 209)).drew)
        refine wpAnyH_ready (rs := [10]) (by kernel_rfl) (by simp) ?_
        refine AllReadyH.cons rfl (fun K hK => ?_) ?_
        · go_simp
          refine hK.out _ _ (HCs.out _ HKZ.out.2) (fun hHeld => ?_)
          clear hK K
          refine wpAnyH_ready (rs := [11]) (by kernel_rfl) (by simp) ?_
          refine AllReadyH.cons rfl (fun K hK => ?_) ?_
          · go_simp
            refine hK.out _ _ hHeld (fun hHeld => ?_)
            clear hK K
            refine wpAnyH_done (by kernel_rfl) ?_ _
            generalize hW3 : (w2.alloc (.cells #[.int .i64 s, .bool i1, .slice a1 0 c1, .int .i64 l1, .float .f64 0, .int .i64 e0.fid, .int .i64 e0.fst, .int .i64 e0.tok, .bool e0.back] 209)).drew = W3 at HKZ ⊢
            have hE3 := HX.out.trans HKZ.out.2
            have HE3 := Lib.hid hE3
            have z0 := HKZ.out.1.cell 0 _ rfl
            have z1 := HKZ.out.1.cell 1 _ rfl
            have z2 := HKZ.out.1.cell 2 _ rfl
            have z3 := HKZ.out.1.cell 3 _ rfl
            have z4 := HKZ.out.1.cell 4 _ rfl
            have y0 := (HK.out.1.chg HKZ.out.2 (fun h => h)).cell 0 _ rfl
            have y1 := (HK.out.1.chg HKZ.out.2 (fun h => h)).cell 1 _ rfl
            have y2 := (HK.out.1.chg HKZ.out.2 (fun h => h)).cell 2 _ rfl
            have y3 := (HK.out.1.chg HKZ.out.2 (fun h => h)).cell 3 _ rfl
            have y4 := (HK.out.1.chg HKZ.out.2 (fun h => h)).cell 4 _ rfl
            clear hW3 hHeld hE3
            go_wp2_with fail
            refine (HBt.out _).mono ?_
            rintro e w5 ⟨rfl, hx5⟩
            simp only [Bool.true_or]
            go_wp2_with fail
            go_ret
            exact ⟨rfl, HW.out.2.1.ext (HE3.out.trans hx5), (HE3.out.trans hx5).mono fun _ _ h => h.elim⟩
          exact AllReadyH.nil
        exact AllReadyH.nil
      exact AllReadyH.nil
end Go.Proofs.YtkhllknahjmciaaGreat
