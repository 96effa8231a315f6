/-
  The search by some edges alone: along a move, from a node.
-/
import Derived.Test.YtkhllknahjmciaaGreatM26
/-! The search by some edges alone: along a move, from a node. -/
namespace Go.Proofs.YtkhllknahjmciaaGreat
open Go.RowKit
set_option linter.unusedVariables false
set_option linter.unusedSimpArgs false

set_option maxRecDepth 100000 in
set_option maxHeartbeats 4000000 in
theorem move_any2 (f1 sb r : Nat) (s : Int) (fv : Value) (es : List Eg) (ea : Option Addr) (ec : Nat) (x0 x2 : Value) (nN nS nA : Int) (mv : Value) (w0 w : World) (wt : Int → Bool) (m : Mv) (id : Int) (L L' : List Et) (g : Bool)
    (hs : SC w0 sb r s fv es ea ec x0 x2 nN nS nA mv w) (hw : Ways w r s L) (hL : moveE wt es m id L = L') (hg : decide (L.length < L'.length) = g)
    (hfv : fv = .func (.func 71) #[] #[.pointer (some ⟨f1, 0, none⟩)]) (hfn : ∀ W, Ext w0 W → ∀ tok : Int, Calls Tryz.prog 71 #[.int .i64 tok, .pointer (some ⟨f1, 0, none⟩)] W (BvPost s (wt tok) W)) :
    Calls Tryz.prog 146 #[.pointer (some ⟨sb, 0, none⟩), .agg #[.int .i64 m.f, .int .i64 m.t, .bool m.eps, .string m.l, .bool m.back], .int .i64 id] w fun e w' => e = .returned (.bool g) ∧ Ways w' r s L' ∧ Chg (fun k => k = r) w w' := by
  obtain ⟨mf, mt, meps, ml, mback⟩ := m
  simp only
  have HFn := Lib.hid hfn
  have hl1 := hs.edges.1
  have hl2 := hs.edges.2.1
  unfold maxLen at hl2
  obtain ⟨n, hn⟩ : ∃ n, es.length = n := ⟨_, rfl⟩
  have HN := Lib.hid hn
  rw [hn] at hl1
  clear hfn hn
  have h1 : Ext w (w.alloc (.cells #[.int .i64 mf, .int .i64 mt, .bool meps, .string ml, .bool mback] 211)) := (Chg.refl w).alloc _
  have h2 := h1.alloc (.cells #[.int .i64 id, .int .i64 mf] 207)
  have b1 := (Blk.new w #[.int .i64 mf, .int .i64 mt, .bool meps, .string ml, .bool mback] 211).chg ((Chg.refl (S := fun _ => False) _).alloc (.cells #[.int .i64 id, .int .i64 mf] 207)) (fun h => h)
  have b2 := Blk.new (w.alloc (.cells #[.int .i64 mf, .int .i64 mt, .bool meps, .string ml, .bool mback] 211)) #[.int .i64 id, .int .i64 mf] 207
  simp only [World.size_alloc] at b2
  have hbl : sb < w.heap.size := hs.blk.lt
  have hrl := hw.lt
  obtain ⟨w2, hw2⟩ : ∃ w2, (w.alloc (.cells #[.int .i64 mf, .int .i64 mt, .bool meps, .string ml, .bool mback] 211)).alloc (.cells #[.int .i64 id, .int .i64 mf] 207) = w2 := ⟨_, rfl⟩
  rw [hw2] at h2 b1 b2
  have HB := Lib.hid (And.intro h2 (And.intro b1 b2))
  have HS := Lib.hid (And.intro hs hw)
  have HW2 := Lib.hid hw2
  have hS2 := hs.toExt h2
  have hWy := hw.ext h2
  have hsf := run_store_f
  clear hs hw h1 h2 b1 b2 hw2
  have q9 := hS2.blk.cell 9 _ rfl
  have c0 := HB.out.2.2.cell 0 _ rfl
  have c1 := HB.out.2.2.cell 1 _ rfl
  have HCs := Lib.hid (fun W (hW : Ext w2 W) => And.intro (hW.block r hWy.lt (fun h => h)) (And.intro ((hW.cell (lt_of_cell q9) (fun h => h)).trans q9) (And.intro ((hW.cell (lt_of_cell c0) (fun h => h)).trans c0) ((hW.cell (lt_of_cell c1) (fun h => h)).trans c1))))
  have HK := Lib.hid (And.intro hS2 hWy)
  cases hq : seek id mf L with
  | none =>
    have HLk := Lib.hid (fun W k => hWy.miss hq W k)
    rw [moveE, if_pos hq] at hL
    subst hL
    rw [decide_eq_false (by omega)] at hg
    subst hg
    clear q9 hS2 hWy c0 c1 hq
    go_enter Tryz.func146, Tryz.ntmps146
    go_wp2_with fail
    rw [HW2.out]
    refine wp_region_held_drew (S := fun v => v.heap[r]? = w2.heap[r]? ∧ v.cell? ⟨sb, 9, none⟩ = some (.map (some r)) ∧ v.cell? ⟨w.heap.size + 1, 0, none⟩ = some (.int .i64 id) ∧ v.cell? ⟨w.heap.size + 1, 1, none⟩ = some (.int .i64 mf)) (by kernel_rfl) (HCs.out _ (Chg.refl (S := fun _ => False) w2).drew) (fun hHeld => ?_)
    refine wpAnyH_take (i := 0) (v := .pointer (some ⟨sb, 0, none⟩)) rfl (by kernel_rfl) (by kernel_rfl) (by kernel_rfl) (fun _ _ _ h => h) (Or.inl ⟨by rfl, ?_⟩) hHeld ?_
    · intro wS hSw
      obtain ⟨hs0, hs1, hs2, hs3⟩ := hSw
      have hlk := HLk.out wS hs0
      go_simp
    simp only [Act.put, List.setIfInBounds_toArray, List.set_cons_zero, List.set_cons_succ]
    refine wpAnyH_take (i := 1) (v := .pointer (some ⟨sb, 0, none⟩)) rfl (by kernel_rfl) (by kernel_rfl) (by kernel_rfl) (fun _ _ _ h => h) (Or.inl ⟨by rfl, ?_⟩) hHeld ?_
    · intro wS hSw
      obtain ⟨hs0, hs1, hs2, hs3⟩ := hSw
      have hlk := HLk.out wS hs0
      go_simp
    simp only [Act.put, List.setIfInBounds_toArray, List.set_cons_zero, List.set_cons_succ]
    refine wpAnyH_take (i := 2) (v := .pointer (some ⟨sb, 9, none⟩)) rfl (by kernel_rfl) (by kernel_rfl) (by kernel_rfl) (fun _ _ _ h => h) (Or.inl ⟨by rfl, ?_⟩) hHeld ?_
    · intro wS hSw
      obtain ⟨hs0, hs1, hs2, hs3⟩ := hSw
      have hlk := HLk.out wS hs0
      go_simp
    simp only [Act.put, List.setIfInBounds_toArray, List.set_cons_zero, List.set_cons_succ]
    refine wpAnyH_take (i := 3) (v := .map (some r)) rfl (by kernel_rfl) (by kernel_rfl) (by kernel_rfl) (fun _ _ _ h => h) (Or.inl ⟨by rfl, ?_⟩) hHeld ?_
    · intro wS hSw
      obtain ⟨hs0, hs1, hs2, hs3⟩ := hSw
      have hlk := HLk.out wS hs0
      go_simp
    simp only [Act.put, List.setIfInBounds_toArray, List.set_cons_zero, List.set_cons_succ]
    refine wpAnyH_take (i := 4) (v := .agg #[.int .i64 id, .int .i64 mf]) rfl (by kernel_rfl) (by kernel_rfl) (by kernel_rfl) (fun _ _ _ h => h) (Or.inl ⟨by rfl, ?_⟩) hHeld ?_
    · intro wS hSw
      obtain ⟨hs0, hs1, hs2, hs3⟩ := hSw
      have hlk := HLk.out wS hs0
      go_simp
    simp only [Act.put, List.setIfInBounds_toArray, List.set_cons_zero, List.set_cons_succ]
    refine wpAnyH_take (i := 5) (v := .tuple #[zeroWay, .bool false]) rfl (by kernel_rfl) (by kernel_rfl) (by kernel_rfl) (fun _ _ _ h => h) (Or.inl ⟨by rfl, ?_⟩) hHeld ?_
    · intro wS hSw
      obtain ⟨hs0, hs1, hs2, hs3⟩ := hSw
      have hlk := HLk.out wS hs0
      go_simp
    simp only [Act.put, List.setIfInBounds_toArray, List.set_cons_zero, List.set_cons_succ]
    refine wpAnyH_take (i := 6) (v := .tuple #[zeroWay, .bool false]) rfl (by kernel_rfl) (by kernel_rfl) (by kernel_rfl) (fun _ _ _ h => h) (Or.inl ⟨by rfl, ?_⟩) hHeld ?_
    · intro wS hSw
      obtain ⟨hs0, hs1, hs2, hs3⟩ := hSw
      have hlk := HLk.out wS hs0
      go_simp
    simp only [Act.put, List.setIfInBounds_toArray, List.set_cons_zero, List.set_cons_succ]
    refine wpAnyH_take (i := 7) (v := zeroWay) rfl (by kernel_rfl) (by kernel_rfl) (by kernel_rfl) (fun _ _ _ h => h) (Or.inl ⟨by rfl, ?_⟩) hHeld ?_
    · intro wS hSw
      obtain ⟨hs0, hs1, hs2, hs3⟩ := hSw
      have hlk := HLk.out wS hs0
      go_simp
    simp only [Act.put, List.setIfInBounds_toArray, List.set_cons_zero, List.set_cons_succ]
    refine wpAnyH_take (i := 8) (v := .bool false) rfl (by kernel_rfl) (by kernel_rfl) (by kernel_rfl) (fun _ _ _ h => h) (Or.inl ⟨by rfl, ?_⟩) hHeld ?_
    · intro wS hSw
      obtain ⟨hs0, hs1, hs2, hs3⟩ := hSw
      have hlk := HLk.out wS hs0
      go_simp
    simp only [Act.put, List.setIfInBounds_toArray, List.set_cons_zero, List.set_cons_succ]
    refine wpAnyH_ready (rs := [9]) (by kernel_rfl) (by simp) ?_
    refine AllReadyH.cons rfl (fun K hK => ?_) ?_
    · go_simp
      refine hK.out _ _ (HCs.out _ ((Chg.refl (S := fun _ => False) w2).alloc _).drew) (fun hHeld => ?_)
      clear hK K
      have HKZ := Lib.hid ((Chg.refl (S := fun _ => False) w2).alloc (.cells #[.int .i64 0, .bool false, .slice none 0 0, .int .i64 0, .float .f64 0, .int .i64 0, .int .i64 0, .int .i64 0, .bool false] 209)).drew
      refine wpAnyH_ready (rs := [10]) (by kernel_rfl) (by simp) ?_
      refine AllReadyH.cons rfl (fun K hK => ?_) ?_
      · go_simp
        refine hK.out _ _ (HCs.out _ HKZ.out) (fun hHeld => ?_)
        clear hK K
        refine wpAnyH_ready (rs := [11]) (by kernel_rfl) (by simp) ?_
        refine AllReadyH.cons rfl (fun K hK => ?_) ?_
        · go_simp
          refine hK.out _ _ hHeld (fun hHeld => ?_)
          clear hK K
          refine wpAnyH_done (by kernel_rfl) ?_ _
          go_wp2_with fail
          go_ret
          exact ⟨rfl, HK.out.2.ext HKZ.out, (HB.out.1.trans HKZ.out).mono fun _ _ h => h.elim⟩
        exact AllReadyH.nil
      exact AllReadyH.nil
    exact AllReadyH.nil
  | some e0 =>
    obtain ⟨i1, a1, c1', l1, hc1, ho1, hlk⟩ := hWy.hit hq
    have HLk := Lib.hid (fun W k => hlk W k true)
    unfold wayA at HLk
    simp only [if_true] at HLk
    have HO1 := Lib.hid (And.intro hc1 ho1)
    rw [moveE, if_neg (by simp [hq])] at hL
    simp only at hL
    clear q9 hS2 hWy c0 c1 hq hlk hc1 ho1
    go_enter Tryz.func146, Tryz.ntmps146
    go_wp2_with fail
    rw [HW2.out]
    refine wp_region_held_drew (S := fun v => v.heap[r]? = w2.heap[r]? ∧ v.cell? ⟨sb, 9, none⟩ = some (.map (some r)) ∧ v.cell? ⟨w.heap.size + 1, 0, none⟩ = some (.int .i64 id) ∧ v.cell? ⟨w.heap.size + 1, 1, none⟩ = some (.int .i64 mf)) (by kernel_rfl) (HCs.out _ (Chg.refl (S := fun _ => False) w2).drew) (fun hHeld => ?_)
    refine wpAnyH_take (i := 0) (v := .pointer (some ⟨sb, 0, none⟩)) rfl (by kernel_rfl) (by kernel_rfl) (by kernel_rfl) (fun _ _ _ h => h) (Or.inl ⟨by rfl, ?_⟩) hHeld ?_
    · intro wS hSw
      obtain ⟨hs0, hs1, hs2, hs3⟩ := hSw
      have hlk := HLk.out wS hs0
      go_simp
    simp only [Act.put, List.setIfInBounds_toArray, List.set_cons_zero, List.set_cons_succ]
    refine wpAnyH_take (i := 1) (v := .pointer (some ⟨sb, 0, none⟩)) rfl (by kernel_rfl) (by kernel_rfl) (by kernel_rfl) (fun _ _ _ h => h) (Or.inl ⟨by rfl, ?_⟩) hHeld ?_
    · intro wS hSw
      obtain ⟨hs0, hs1, hs2, hs3⟩ := hSw
      have hlk := HLk.out wS hs0
      go_simp
    simp only [Act.put, List.setIfInBounds_toArray, List.set_cons_zero, List.set_cons_succ]
    refine wpAnyH_take (i := 2) (v := .pointer (some ⟨sb, 9, none⟩)) rfl (by kernel_rfl) (by kernel_rfl) (by kernel_rfl) (fun _ _ _ h => h) (Or.inl ⟨by rfl, ?_⟩) hHeld ?_
    · intro wS hSw
      obtain ⟨hs0, hs1, hs2, hs3⟩ := hSw
      have hlk := HLk.out wS hs0
      go_simp
    simp only [Act.put, List.setIfInBounds_toArray, List.set_cons_zero, List.set_cons_succ]
    refine wpAnyH_take (i := 3) (v := .map (some r)) rfl (by kernel_rfl) (by kernel_rfl) (by kernel_rfl) (fun _ _ _ h => h) (Or.inl ⟨by rfl, ?_⟩) hHeld ?_
    · intro wS hSw
      obtain ⟨hs0, hs1, hs2, hs3⟩ := hSw
      have hlk := HLk.out wS hs0
      go_simp
    simp only [Act.put, List.setIfInBounds_toArray, List.set_cons_zero, List.set_cons_succ]
    refine wpAnyH_take (i := 4) (v := .agg #[.int .i64 id, .int .i64 mf]) rfl (by kernel_rfl) (by kernel_rfl) (by kernel_rfl) (fun _ _ _ h => h) (Or.inl ⟨by rfl, ?_⟩) hHeld ?_
    · intro wS hSw
      obtain ⟨hs0, hs1, hs2, hs3⟩ := hSw
      have hlk := HLk.out wS hs0
      go_simp
    simp only [Act.put, List.setIfInBounds_toArray, List.set_cons_zero, List.set_cons_succ]
    refine wpAnyH_take (i := 5) (v := .tuple #[.agg #[.int .i64 s, .bool i1, .slice a1 0 c1', .int .i64 l1, .float .f64 0, .int .i64 e0.fid, .int .i64 e0.fst, .int .i64 e0.tok, .bool e0.back], .bool true]) rfl (by kernel_rfl) (by kernel_rfl) (by kernel_rfl) (fun _ _ _ h => h) (Or.inl ⟨by rfl, ?_⟩) hHeld ?_
    · intro wS hSw
      obtain ⟨hs0, hs1, hs2, hs3⟩ := hSw
      have hlk := HLk.out wS hs0
      go_simp
    simp only [Act.put, List.setIfInBounds_toArray, List.set_cons_zero, List.set_cons_succ]
    refine wpAnyH_take (i := 6) (v := .tuple #[.agg #[.int .i64 s, .bool i1, .slice a1 0 c1', .int .i64 l1, .float .f64 0, .int .i64 e0.fid, .int .i64 e0.fst, .int .i64 e0.tok, .bool e0.back], .bool true]) rfl (by kernel_rfl) (by kernel_rfl) (by kernel_rfl) (fun _ _ _ h => h) (Or.inl ⟨by rfl, ?_⟩) hHeld ?_
    · intro wS hSw
      obtain ⟨hs0, hs1, hs2, hs3⟩ := hSw
      have hlk := HLk.out wS hs0
      go_simp
    simp only [Act.put, List.setIfInBounds_toArray, List.set_cons_zero, List.set_cons_succ]
    refine wpAnyH_take (i := 7) (v := .agg #[.int .i64 s, .bool i1, .slice a1 0 c1', .int .i64 l1, .float .f64 0, .int .i64 e0.fid, .int .i64 e0.fst, .int .i64 e0.tok, .bool e0.back]) rfl (by kernel_rfl) (by kernel_rfl) (by kernel_rfl) (fun _ _ _ h => h) (Or.inl ⟨by rfl, ?_⟩) hHeld ?_
    · intro wS hSw
      obtain ⟨hs0, hs1, hs2, hs3⟩ := hSw
      have hlk := HLk.out wS hs0
      go_simp
    simp only [Act.put, List.setIfInBounds_toArray, List.set_cons_zero, List.set_cons_succ]
    refine wpAnyH_take (i := 8) (v := .bool true) rfl (by kernel_rfl) (by kernel_rfl) (by kernel_rfl) (fun _ _ _ h => h) (Or.inl ⟨by rfl, ?_⟩) hHeld ?_
    · intro wS hSw
      obtain ⟨hs0, hs1, hs2, hs3⟩ := hSw
      have hlk := HLk.out wS hs0
      go_simp
    simp only [Act.put, List.setIfInBounds_toArray, List.set_cons_zero, List.set_cons_succ]
    refine wpAnyH_ready (rs := [9]) (by kernel_rfl) (by simp) ?_
    refine AllReadyH.cons rfl (fun K hK => ?_) ?_
    · go_simp
      refine hK.out _ _ (HCs.out _ ((Chg.refl (S := fun _ => False) w2).alloc _).drew) (fun hHeld => ?_)
      clear hK K
      have HKZ := Lib.hid (And.intro ((Blk.new w2 #[.int .i64 s, .bool i1, .slice a1 0 c1', .int .i64 l1, .float .f64 0, .int .i64 e0.fid, .int .i64 e0.fst, .int .i64 e0.tok, .bool e0.back] 209).chg (Chg.refl (S := fun _ => False) _).drew (fun h => h)) ((Chg.refl (S := fun _ => False) w2).alloc (.cells #[.int .i64 s, .bool i1, .slice a1 0 c1', .int .i64 l1, .float .f64 0, .int .i64 e0.fid, .int .i64 e0.fst, .int .i64 e0.tok, .bool e0.back] 209)).drew)
      refine wpAnyH_ready (rs := [10]) (by kernel_rfl) (by simp) ?_
      refine AllReadyH.cons rfl (fun K hK => ?_) ?_
      · go_simp
        refine hK.out _ _ (HCs.out _ HKZ.out.2) (fun hHeld => ?_)
        clear hK K
        refine wpAnyH_ready (rs := [11]) (by kernel_rfl) (by simp) ?_
        refine AllReadyH.cons rfl (fun K hK => ?_) ?_
        · go_simp
          refine hK.out _ _ hHeld (fun hHeld => ?_)
          clear hK K
          refine wpAnyH_done (by kernel_rfl) ?_ _
          generalize hW3 : (w2.alloc (.cells #[.int .i64 s, .bool i1, .slice a1 0 c1', .int .i64 l1, .float .f64 0, .int .i64 e0.fid, .int .i64 e0.fst, .int .i64 e0.tok, .bool e0.back] 209)).drew = W3 at HKZ ⊢
          have hE3 := HKZ.out.2
          have hsz3 := hE3.size
          have hsz2 := HB.out.1.size
          have hwl : w2.heap.size < W3.heap.size := HKZ.out.1.lt
          have hml := HB.out.2.1.lt
          have hpl := HB.out.2.2.lt
          have HBx := Lib.hid (fun W (hW : Chg (fun b => b = r) W3 W) => And.intro ((HB.out.2.1.chg HKZ.out.2 (fun h => h)).chg hW (by omega)) (And.intro ((HB.out.2.2.chg HKZ.out.2 (fun h => h)).chg hW (by omega)) (HKZ.out.1.chg hW (by omega))))
          have HS3 := Lib.hid (And.intro (HK.out.1.toExt HKZ.out.2) (HK.out.2.ext HKZ.out.2))
          have HE3 := Lib.hid (HB.out.1.trans HKZ.out.2)
          clear hW3 hHeld hE3
          obtain ⟨k1, k2, k3⟩ := HBx.out _ (Chg.refl W3)
          cases meps with
          | true =>
            rw [if_pos rfl] at hL
            have HTr := Lib.hid (try_any sb r s L L' id mt id mf 0 false i1 a1 c1' l1 true g HO1.out.1 HO1.out.2 W3 (HS3.out.1.blk.cell 9 _ rfl) HS3.out.2 HS3.out.1.ne hL hg)
            obtain ⟨y0, -, y1, -, y2, -, y3, -, y4, -⟩ := blk5_base k1
            obtain ⟨p0, -, p1, -⟩ := blk2_base k2
            obtain ⟨z0, z1, z2, z3, z4, z5, z6, z7, z8⟩ := blk9_base k3
            clear k1 k2 k3 hL hg
            go_wp2_with fail
            refine HTr.out.mono ?_
            rintro e w5 ⟨rfl, hw5, hc5⟩
            go_wp2_with fail
            go_ret
            exact ⟨rfl, hw5, (HE3.out.mono fun _ _ h => h.elim).trans hc5⟩
          | false =>
            rw [if_neg (by simp)] at hL
            obtain ⟨y0, -, y1, -, y2, -, y3, -, y4, -⟩ := blk5_base k1
            have q1 := HS3.out.1.blk.cell 1 _ rfl
            rw [HN.out] at q1
            clear k1 k2 k3
            go_wp2_with fail
            go_loopg [6, 48] n (fun g l6 l48 wr => ∃ (i : Nat) (Li : List Et), i ≤ n ∧ Chg (fun b => b = r) W3 wr ∧ Ways wr r s Li ∧ L <+: Li ∧ edgesE wt ⟨mf, mt, false, ml, mback⟩ id (es.drop i) Li = L' ∧ l6 = .bool (decide (L.length < Li.length)) ∧ l48 = .int .i64 i ∧ g = n - i)
            case atStart => exact ⟨0, L, Nat.zero_le _, Chg.refl _, HS3.out.2, List.prefix_refl _, hL, by rw [decide_eq_false (by omega)], rfl, rfl⟩
            case round =>
              clear y0 y1 y2 y3 y4 q1
              obtain ⟨i, Li, hi, hx, hwi, hpre, hLi, rfl, rfl, rfl⟩ := hrel
              have HX := Lib.hid (And.intro hx (And.intro hwi (And.intro hpre (HS3.out.1.chg hx))))
              by_cases hin : i < n
              · have hin' : (i : Int) < n := by omega
                obtain ⟨e, he⟩ : ∃ e, es[i]? = some e := ⟨_, List.getElem?_eq_getElem (by rw [HN.out]; exact hin)⟩
                obtain ⟨x, rfl, c0, c1, c2, c3⟩ := eg_at (Cells.ext HX.out.2.2.2.edges HX.out.2.2.2.ext) he
                rw [edgesE_drop he] at hLi
                have hal : Ext wr (wr.alloc (.cells #[.int .i64 e.tok, .int .i64 e.fr, .string e.lab, .int .i64 e.to] 72)) := (Chg.refl wr).alloc _
                obtain ⟨y0, -, y1, -, y2, -, y3, -, y4, -⟩ := blk5_base ((HBx.out _ hx).1.chg hal (fun h => h))
                have HAl := Lib.hid hal
                clear hx hwi hpre he hal
                by_cases hlab : e.lab = ml
                · subst hlab
                  cases mback with
                  | false =>
                    by_cases hid : e.fr = id
                    · subst hid
                      have hal4 : Ext wr (wr.alloc (.cells #[.int .i64 e.tok, .int .i64 e.fr, .string e.lab, .int .i64 e.to] 72)) := (Chg.refl wr).alloc _
                      have ke := Blk.new wr #[.int .i64 e.tok, .int .i64 e.fr, .string e.lab, .int .i64 e.to] 72
                      obtain ⟨W4, hW4⟩ : ∃ W4, wr.alloc (.cells #[.int .i64 e.tok, .int .i64 e.fr, .string e.lab, .int .i64 e.to] 72) = W4 := ⟨_, rfl⟩
                      rw [hW4] at hal4 ke
                      have HW4 := Lib.hid hW4
                      have HA4 := Lib.hid (And.intro hal4 ke)
                      have HG := Lib.hid (fun W (hW : Chg (fun b => b = r) W4 W) => HBx.out W (HX.out.1.trans ((hal4.mono fun _ _ h => h.elim).trans hW)))
                      have HSC := Lib.hid (HX.out.2.2.2.toExt hal4)
                      have hrr := HX.out.2.1.lt
                      have HKe := Lib.hid (fun W (hW : Chg (fun b => b = r) W4 W) => ke.chg hW (by omega))
                      have HFe := Lib.hid (fun W (hW : Ext W4 W) => HFn.out W (HSC.out.ext.trans hW) e.tok)
                      have HTi := Lib.hid (fun (i2 : Bool) (a2 : Option Addr) (c2 : Nat) (l2 : Int) (hc2 : c2 ≤ maxLen) (ho2 : Ok0 s i2 l2 (wt e.tok)) W => times0 a1 a2 c1' c2 HO1.out.1 hc2 HO1.out.2 ho2 W)
                      have HS7 := Lib.hid (fun W (hW : Ext W4 W) => let q := blk9_base (HG.out W (hW.mono fun _ _ h => h.elim)).2.2; And.intro q.1 (And.intro q.2.1 (And.intro q.2.2.1 (And.intro q.2.2.2.1 (And.intro q.2.2.2.2.1 (And.intro ((HSC.out.toExt hW).blk.cell 8 fv rfl) ((HKe.out W (hW.mono fun _ _ h => h.elim)).cell 0 (.int .i64 e.tok) rfl)))))))
                      have HAl4 := Lib.hid hal4
                      have HL2 : Hid (edgesE wt ⟨mf, mt, false, e.lab, false⟩ (e.fr) (es.drop (i + 1)) (tryE (wt e.tok) Li ⟨e.to, mt, e.fr, mf, e.tok, false⟩) = L') := Lib.hid (by rw [edgeE, if_pos ⟨rfl, rfl⟩] at hLi; exact hLi)
                      clear hal4 ke hW4 hLi
                      rw [hfv] at HS7
                      go_wp2_with fail
                      rw [HW4.out]
                      refine wp_region_held_drew (S := fun v => v.cell? ⟨w2.heap.size, 0, none⟩ = some (.int .i64 s) ∧ v.cell? ⟨w2.heap.size, 1, none⟩ = some (.bool i1) ∧ v.cell? ⟨w2.heap.size, 2, none⟩ = some (.slice a1 0 c1') ∧ v.cell? ⟨w2.heap.size, 3, none⟩ = some (.int .i64 l1) ∧ v.cell? ⟨w2.heap.size, 4, none⟩ = some (.float .f64 0) ∧ v.cell? ⟨sb, 8, none⟩ = some (.func (.func 71) #[] #[.pointer (some ⟨f1, 0, none⟩)]) ∧ v.cell? ⟨wr.heap.size, 0, none⟩ = some (.int .i64 e.tok)) (by kernel_rfl) (HS7.out _ (Chg.refl (S := fun _ => False) W4).drew) (fun hHeld => ?_)
                      refine wpAnyH_take (i := 0) (v := .pointer (some ⟨w2.heap.size, 0, none⟩)) rfl (by kernel_rfl) (by kernel_rfl) (by kernel_rfl) (fun _ _ _ h => h) (Or.inl ⟨by rfl, ?_⟩) hHeld ?_
                      · intro wS hSw
                        obtain ⟨hs0, hs1, hs2, hs3, hs4, hs5, hs6⟩ := hSw
                        go_simp
                      simp only [Act.put, List.setIfInBounds_toArray, List.set_cons_zero, List.set_cons_succ]
                      refine wpAnyH_take (i := 1) (v := .agg #[.int .i64 s, .bool i1, .slice a1 0 c1', .int .i64 l1, .float .f64 0]) rfl (by kernel_rfl) (by kernel_rfl) (by kernel_rfl) (fun _ _ _ h => h) (Or.inl ⟨by rfl, ?_⟩) hHeld ?_
                      · intro wS hSw
                        obtain ⟨hs0, hs1, hs2, hs3, hs4, hs5, hs6⟩ := hSw
                        go_simp
                      simp only [Act.put, List.setIfInBounds_toArray, List.set_cons_zero, List.set_cons_succ]
                      refine wpAnyH_take (i := 2) (v := .pointer (some ⟨sb, 0, none⟩)) rfl (by kernel_rfl) (by kernel_rfl) (by kernel_rfl) (fun _ _ _ h => h) (Or.inl ⟨by rfl, ?_⟩) hHeld ?_
                      · intro wS hSw
                        obtain ⟨hs0, hs1, hs2, hs3, hs4, hs5, hs6⟩ := hSw
                        go_simp
                      simp only [Act.put, List.setIfInBounds_toArray, List.set_cons_zero, List.set_cons_succ]
                      refine wpAnyH_take (i := 3) (v := .pointer (some ⟨sb, 0, none⟩)) rfl (by kernel_rfl) (by kernel_rfl) (by kernel_rfl) (fun _ _ _ h => h) (Or.inl ⟨by rfl, ?_⟩) hHeld ?_
                      · intro wS hSw
                        obtain ⟨hs0, hs1, hs2, hs3, hs4, hs5, hs6⟩ := hSw
                        go_simp
                      simp only [Act.put, List.setIfInBounds_toArray, List.set_cons_zero, List.set_cons_succ]
                      refine wpAnyH_take (i := 4) (v := .pointer (some ⟨sb, 8, none⟩)) rfl (by kernel_rfl) (by kernel_rfl) (by kernel_rfl) (fun _ _ _ h => h) (Or.inl ⟨by rfl, ?_⟩) hHeld ?_
                      · intro wS hSw
                        obtain ⟨hs0, hs1, hs2, hs3, hs4, hs5, hs6⟩ := hSw
                        go_simp
                      simp only [Act.put, List.setIfInBounds_toArray, List.set_cons_zero, List.set_cons_succ]
                      refine wpAnyH_take (i := 5) (v := .func (.func 71) #[] #[.pointer (some ⟨f1, 0, none⟩)]) rfl (by kernel_rfl) (by kernel_rfl) (by kernel_rfl) (fun _ _ _ h => h) (Or.inl ⟨by rfl, ?_⟩) hHeld ?_
                      · intro wS hSw
                        obtain ⟨hs0, hs1, hs2, hs3, hs4, hs5, hs6⟩ := hSw
                        go_simp
                      simp only [Act.put, List.setIfInBounds_toArray, List.set_cons_zero, List.set_cons_succ]
                      refine wpAnyH_take (i := 6) (v := .pointer (some ⟨wr.heap.size, 0, none⟩)) rfl (by kernel_rfl) (by kernel_rfl) (by kernel_rfl) (fun _ _ _ h => h) (Or.inl ⟨by rfl, ?_⟩) hHeld ?_
                      · intro wS hSw
                        obtain ⟨hs0, hs1, hs2, hs3, hs4, hs5, hs6⟩ := hSw
                        go_simp
                      simp only [Act.put, List.setIfInBounds_toArray, List.set_cons_zero, List.set_cons_succ]
                      refine wpAnyH_take (i := 7) (v := .int .i64 e.tok) rfl (by kernel_rfl) (by kernel_rfl) (by kernel_rfl) (fun _ _ _ h => h) (Or.inl ⟨by rfl, ?_⟩) hHeld ?_
                      · intro wS hSw
                        obtain ⟨hs0, hs1, hs2, hs3, hs4, hs5, hs6⟩ := hSw
                        go_simp
                      simp only [Act.put, List.setIfInBounds_toArray, List.set_cons_zero, List.set_cons_succ]
                      refine wpAnyH_ready (rs := [8, 13]) (by kernel_rfl) (by simp) ?_
                      refine AllReadyH.cons (i := 8) (rs := [13]) (by rfl) ?_ (AllReadyH.cons (i := 13) (rs := []) (by rfl) ?_ AllReadyH.nil)
                      · intro K hK
                        go_simp
                        refine (HFe.out _ ((Chg.refl (S := fun _ => False) W4).drew)).mono ?_
                        rintro en w5 ⟨cs5, rfl, ⟨i5, a5, c5, l5, rfl, hc5, ho5⟩, hx5⟩
                        unfold V5
                        have hE5 := Chg.trans ((Chg.refl (S := fun _ => False) W4).drew) hx5
                        have HO5 := Lib.hid (And.intro hc5 ho5)
                        refine hK.out _ _ (HS7.out _ hE5) (fun hHeld => ?_)
                        clear hK K hc5 ho5
                        refine wpAnyH_ready (rs := [9, 13]) (by kernel_rfl) (by simp) ?_
                        refine AllReadyH.cons (i := 9) (rs := [13]) (by rfl) ?_ (AllReadyH.cons (i := 13) (rs := []) (by rfl) ?_ AllReadyH.nil)
                        · intro K hK
                          go_simp
                          refine (HTi.out i5 a5 c5 l5 HO5.out.1 HO5.out.2 _).mono ?_
                          rintro en w6 ⟨cs6, rfl, ⟨i6, a6, c6, l6', rfl, hc6, ho6⟩, hx6⟩
                          unfold V5
                          simp only [Bool.true_and] at ho6
                          have hE6 := Chg.trans (hE5) hx6
                          have HO6 := Lib.hid (And.intro hc6 ho6)
                          refine hK.out _ _ (HS7.out _ hE6) (fun hHeld => ?_)
                          clear hK K hc6 ho6
                          refine wpAnyH_take (i := 10) (v := .tuple #[.agg #[.int .i64 s, .bool i6, .slice a6 0 c6, .int .i64 l6', .float .f64 0], .int .i64 0]) rfl (by kernel_rfl) (by kernel_rfl) (by kernel_rfl) (fun _ _ _ h => h) (Or.inl ⟨by rfl, ?_⟩) hHeld ?_
                          · intro wS hSw
                            obtain ⟨hs0, hs1, hs2, hs3, hs4, hs5, hs6⟩ := hSw
                            go_simp
                          simp only [Act.put, List.setIfInBounds_toArray, List.set_cons_zero, List.set_cons_succ]
                          refine wpAnyH_take (i := 11) (v := .agg #[.int .i64 s, .bool i6, .slice a6 0 c6, .int .i64 l6', .float .f64 0]) rfl (by kernel_rfl) (by kernel_rfl) (by kernel_rfl) (fun _ _ _ h => h) (Or.inl ⟨by rfl, ?_⟩) hHeld ?_
                          · intro wS hSw
                            obtain ⟨hs0, hs1, hs2, hs3, hs4, hs5, hs6⟩ := hSw
                            go_simp
                          simp only [Act.put, List.setIfInBounds_toArray, List.set_cons_zero, List.set_cons_succ]
                          refine wpAnyH_take (i := 12) (v := .int .i64 0) rfl (by kernel_rfl) (by kernel_rfl) (by kernel_rfl) (fun _ _ _ h => h) (Or.inl ⟨by rfl, ?_⟩) hHeld ?_
                          · intro wS hSw
                            obtain ⟨hs0, hs1, hs2, hs3, hs4, hs5, hs6⟩ := hSw
                            go_simp
                          simp only [Act.put, List.setIfInBounds_toArray, List.set_cons_zero, List.set_cons_succ]
                          refine wpAnyH_ready (rs := [13]) (by kernel_rfl) (by simp) ?_
                          refine AllReadyH.cons (i := 13) (rs := []) (by rfl) ?_ AllReadyH.nil
                          intro K hK
                          go_simp
                          refine hK.out _ _ (HS7.out _ (hE6.alloc _)) (fun hHeld => ?_)
                          clear hK K
                          refine wpAnyH_ready (rs := [14]) (by kernel_rfl) (by simp) ?_
                          refine AllReadyH.cons (i := 14) (rs := []) (by rfl) ?_ AllReadyH.nil
                          intro K hK
                          go_simp
                          refine hK.out _ _ (HS7.out _ (hE6.alloc _)) (fun hHeld => ?_)
                          clear hK K
                          refine wpAnyH_ready (rs := [15]) (by kernel_rfl) (by simp) ?_
                          refine AllReadyH.cons (i := 15) (rs := []) (by rfl) ?_ AllReadyH.nil
                          intro K hK
                          go_simp
                          refine hK.out _ _ hHeld (fun hHeld => ?_)
                          clear hK K
                          refine wpAnyH_done (by kernel_rfl) ?_ _
                          have kVz := Blk.new w6 #[.int .i64 s, .bool i6, .slice a6 0 c6, .int .i64 l6', .float .f64 0] 38
                          have hEz := hE6.alloc (.cells #[.int .i64 s, .bool i6, .slice a6 0 c6, .int .i64 l6', .float .f64 0] 38)
                          generalize hWz : w6.alloc (.cells #[.int .i64 s, .bool i6, .slice a6 0 c6, .int .i64 l6', .float .f64 0] 38) = Wz at kVz hEz ⊢
                          clear hWz hHeld hE5 hE6 hx5 hx6
                          obtain ⟨v0, -, v1, -, v2, -, v3, -, v4, -⟩ := blk5_base kVz
                          obtain ⟨k1, k2, -⟩ := HG.out _ (hEz.mono fun _ _ h => h.elim)
                          have y1 := k1.cell 1 _ rfl
                          have y4 := k1.cell 4 _ rfl
                          obtain ⟨p0, -, p1, -⟩ := blk2_base k2
                          have n0 := (HKe.out _ (hEz.mono fun _ _ h => h.elim)).cell 0 _ rfl
                          have n3 := (HKe.out _ (hEz.mono fun _ _ h => h.elim)).cell 3 _ rfl
                          obtain ⟨gi, hgi⟩ : ∃ gi, decide (Li.length < (tryE (wt e.tok) Li ⟨e.to, mt, e.fr, mf, e.tok, false⟩).length) = gi := ⟨_, rfl⟩
                          have HTr := Lib.hid (try_any sb r s Li _ (e.to) mt (e.fr) mf e.tok false i6 a6 c6 l6' (wt e.tok) gi HO6.out.1 HO6.out.2 Wz ((HSC.out.toExt hEz).blk.cell 9 _ rfl) ((HX.out.2.1.ext HAl4.out).ext hEz) HSC.out.ne rfl hgi)
                          have HEz := Lib.hid hEz
                          have HGi := Lib.hid hgi
                          clear kVz hEz k1 k2 hgi
                          go_wp2_with fail
                          refine HTr.out.mono ?_
                          rintro en w7 ⟨rfl, hw7, hc7⟩
                          have HZ7 := Lib.hid (And.intro hw7 (HX.out.1.trans (((HAl4.out.trans HEz.out).mono fun _ _ h => h.elim).trans hc7)))
                          clear hw7 hc7 v0 v1 v2 v3 v4 y1 y4 p0 p1 n0 n3
                          have hpl := pre_len HX.out.2.2.1
                          have hpt := pre_len (tryE_pre (wt e.tok) Li ⟨e.to, mt, e.fr, mf, e.tok, false⟩)
                          cases gi with
                          | true =>
                            have hlt := of_decide_eq_true HGi.out
                            go_wp2_with fail
                            go_roundg (n - (i + 1))
                            case measure => omega
                            case rel => exact ⟨i + 1, _, by omega, HZ7.out.2, HZ7.out.1, HX.out.2.2.1.trans (tryE_pre ..), HL2.out, by rw [decide_eq_true (by omega)], rfl, rfl⟩
                          | false =>
                            have hlt := of_decide_eq_false HGi.out
                            go_wp2_with fail
                            go_roundg (n - (i + 1))
                            case measure => omega
                            case rel => exact ⟨i + 1, _, by omega, HZ7.out.2, HZ7.out.1, HX.out.2.2.1.trans (tryE_pre ..), HL2.out, congrArg Value.bool (decide_eq_decide.2 (by omega)), rfl, rfl⟩
                        · intro K hK
                          go_simp
                          refine hK.out _ _ (HS7.out _ (hE5.alloc _)) (fun hHeld => ?_)
                          clear hK K
                          refine wpAnyH_ready (rs := [9]) (by kernel_rfl) (by simp) ?_
                          refine AllReadyH.cons (i := 9) (rs := []) (by rfl) ?_ AllReadyH.nil
                          intro K hK
                          go_simp
                          refine (HTi.out i5 a5 c5 l5 HO5.out.1 HO5.out.2 _).mono ?_
                          rintro en w6 ⟨cs6, rfl, ⟨i6, a6, c6, l6', rfl, hc6, ho6⟩, hx6⟩
                          unfold V5
                          simp only [Bool.true_and] at ho6
                          have hE6 := Chg.trans (hE5.alloc (.cells #[.int .i64 0, .bool false, .slice none 0 0, .int .i64 0, .float .f64 0] 38)) hx6
                          have HO6 := Lib.hid (And.intro hc6 ho6)
                          refine hK.out _ _ (HS7.out _ hE6) (fun hHeld => ?_)
                          clear hK K hc6 ho6
                          refine wpAnyH_take (i := 10) (v := .tuple #[.agg #[.int .i64 s, .bool i6, .slice a6 0 c6, .int .i64 l6', .float .f64 0], .int .i64 0]) rfl (by kernel_rfl) (by kernel_rfl) (by kernel_rfl) (fun _ _ _ h => h) (Or.inl ⟨by rfl, ?_⟩) hHeld ?_
                          · intro wS hSw
                            obtain ⟨hs0, hs1, hs2, hs3, hs4, hs5, hs6⟩ := hSw
                            go_simp
                          simp only [Act.put, List.setIfInBounds_toArray, List.set_cons_zero, List.set_cons_succ]
                          refine wpAnyH_take (i := 11) (v := .agg #[.int .i64 s, .bool i6, .slice a6 0 c6, .int .i64 l6', .float .f64 0]) rfl (by kernel_rfl) (by kernel_rfl) (by kernel_rfl) (fun _ _ _ h => h) (Or.inl ⟨by rfl, ?_⟩) hHeld ?_
                          · intro wS hSw
                            obtain ⟨hs0, hs1, hs2, hs3, hs4, hs5, hs6⟩ := hSw
                            go_simp
                          simp only [Act.put, List.setIfInBounds_toArray, List.set_cons_zero, List.set_cons_succ]
                          refine wpAnyH_take (i := 12) (v := .int .i64 0) rfl (by kernel_rfl) (by kernel_rfl) (by kernel_rfl) (fun _ _ _ h => h) (Or.inl ⟨by rfl, ?_⟩) hHeld ?_
                          · intro wS hSw
                            obtain ⟨hs0, hs1, hs2, hs3, hs4, hs5, hs6⟩ := hSw
                            go_simp
                          simp only [Act.put, List.setIfInBounds_toArray, List.set_cons_zero, List.set_cons_succ]
                          have kB := (Blk.new w5 #[.int .i64 0, .bool false, .slice none 0 0, .int .i64 0, .float .f64 0] 38).chg hx6 (fun h => h)
                          have hsz5 := hE5.size
                          have kVz := (blk5_step kB (.int .i64 s) (.bool i6) (.slice a6 0 c6) (.int .i64 l6') (.float .f64 0)).2.2.2.2.2
                          have hEz := Ext.put hE6 (put5 (c0 := .int .i64 s) (c1 := .bool i6) (c2 := .slice a6 0 c6) (c3 := .int .i64 l6') (c4 := .float .f64 0)) hsz5
                          obtain ⟨g0, f0, g1, f1, g2, f2, g3, f3, g4, f4⟩ := blk5_base kB
                          obtain ⟨y3, z3, y4, z4, q0, q1, q2, q3, q4⟩ := blk5_facts kB (.int .i64 s) (.bool i6) (.slice a6 0 c6) (.int .i64 l6') (.float .f64 0)
                          clear hx5 hx6 hE5 kB
                          have HVE := Lib.hid (And.intro kVz hEz)
                          clear kVz hEz
                          refine wpAnyH_ready (rs := [14]) (by kernel_rfl) (by simp) ?_
                          refine AllReadyH.cons (i := 14) (rs := []) (by rfl) ?_ AllReadyH.nil
                          intro K hK
                          go_simp
                          refine hK.out _ _ (HS7.out _ HVE.out.2) (fun hHeld => ?_)
                          clear hK K g0 f0 g1 f1 g2 f2 g3 f3 g4 f4 y3 z3 y4 z4 q0 q1 q2 q3 q4
                          refine wpAnyH_ready (rs := [15]) (by kernel_rfl) (by simp) ?_
                          refine AllReadyH.cons (i := 15) (rs := []) (by rfl) ?_ AllReadyH.nil
                          intro K hK
                          go_simp
                          refine hK.out _ _ hHeld (fun hHeld => ?_)
                          clear hK K
                          refine wpAnyH_done (by kernel_rfl) ?_ _
                          have kVz := HVE.out.1
                          have hEz := HVE.out.2
                          clear HVE
                          generalize hWz : (((((w6.setCell ⟨w5.heap.size, 0, none⟩ (.int .i64 s)).setCell ⟨w5.heap.size, 1, none⟩ (.bool i6)).setCell ⟨w5.heap.size, 2, none⟩ (.slice a6 0 c6)).setCell ⟨w5.heap.size, 3, none⟩ (.int .i64 l6')).setCell ⟨w5.heap.size, 4, none⟩ (.float .f64 0)) = Wz at kVz hEz ⊢
                          clear hWz hHeld hE6
                          obtain ⟨v0, -, v1, -, v2, -, v3, -, v4, -⟩ := blk5_base kVz
                          obtain ⟨k1, k2, -⟩ := HG.out _ (hEz.mono fun _ _ h => h.elim)
                          have y1 := k1.cell 1 _ rfl
                          have y4 := k1.cell 4 _ rfl
                          obtain ⟨p0, -, p1, -⟩ := blk2_base k2
                          have n0 := (HKe.out _ (hEz.mono fun _ _ h => h.elim)).cell 0 _ rfl
                          have n3 := (HKe.out _ (hEz.mono fun _ _ h => h.elim)).cell 3 _ rfl
                          obtain ⟨gi, hgi⟩ : ∃ gi, decide (Li.length < (tryE (wt e.tok) Li ⟨e.to, mt, e.fr, mf, e.tok, false⟩).length) = gi := ⟨_, rfl⟩
                          have HTr := Lib.hid (try_any sb r s Li _ (e.to) mt (e.fr) mf e.tok false i6 a6 c6 l6' (wt e.tok) gi HO6.out.1 HO6.out.2 Wz ((HSC.out.toExt hEz).blk.cell 9 _ rfl) ((HX.out.2.1.ext HAl4.out).ext hEz) HSC.out.ne rfl hgi)
                          have HEz := Lib.hid hEz
                          have HGi := Lib.hid hgi
                          clear kVz hEz k1 k2 hgi
                          go_wp2_with fail
                          refine HTr.out.mono ?_
                          rintro en w7 ⟨rfl, hw7, hc7⟩
                          have HZ7 := Lib.hid (And.intro hw7 (HX.out.1.trans (((HAl4.out.trans HEz.out).mono fun _ _ h => h.elim).trans hc7)))
                          clear hw7 hc7 v0 v1 v2 v3 v4 y1 y4 p0 p1 n0 n3
                          have hpl := pre_len HX.out.2.2.1
                          have hpt := pre_len (tryE_pre (wt e.tok) Li ⟨e.to, mt, e.fr, mf, e.tok, false⟩)
                          cases gi with
                          | true =>
                            have hlt := of_decide_eq_true HGi.out
                            go_wp2_with fail
                            go_roundg (n - (i + 1))
                            case measure => omega
                            case rel => exact ⟨i + 1, _, by omega, HZ7.out.2, HZ7.out.1, HX.out.2.2.1.trans (tryE_pre ..), HL2.out, by rw [decide_eq_true (by omega)], rfl, rfl⟩
                          | false =>
                            have hlt := of_decide_eq_false HGi.out
                            go_wp2_with fail
                            go_roundg (n - (i + 1))
                            case measure => omega
                            case rel => exact ⟨i + 1, _, by omega, HZ7.out.2, HZ7.out.1, HX.out.2.2.1.trans (tryE_pre ..), HL2.out, congrArg Value.bool (decide_eq_decide.2 (by omega)), rfl, rfl⟩
                      · intro K hK
                        go_simp
                        refine hK.out _ _ (HS7.out _ ((Chg.refl (S := fun _ => False) W4).alloc _).drew) (fun hHeld => ?_)
                        clear hK K
                        refine wpAnyH_ready (rs := [8]) (by kernel_rfl) (by simp) ?_
                        refine AllReadyH.cons (i := 8) (rs := []) (by rfl) ?_ AllReadyH.nil
                        intro K hK
                        go_simp
                        refine (HFe.out _ (((Chg.refl (S := fun _ => False) W4).alloc (.cells #[.int .i64 0, .bool false, .slice none 0 0, .int .i64 0, .float .f64 0] 38)).drew)).mono ?_
                        rintro en w5 ⟨cs5, rfl, ⟨i5, a5, c5, l5, rfl, hc5, ho5⟩, hx5⟩
                        unfold V5
                        have hE5 := Chg.trans (((Chg.refl (S := fun _ => False) W4).alloc (.cells #[.int .i64 0, .bool false, .slice none 0 0, .int .i64 0, .float .f64 0] 38)).drew) hx5
                        have HO5 := Lib.hid (And.intro hc5 ho5)
                        refine hK.out _ _ (HS7.out _ hE5) (fun hHeld => ?_)
                        clear hK K hc5 ho5
                        refine wpAnyH_ready (rs := [9]) (by kernel_rfl) (by simp) ?_
                        refine AllReadyH.cons (i := 9) (rs := []) (by rfl) ?_ AllReadyH.nil
                        intro K hK
                        go_simp
                        refine (HTi.out i5 a5 c5 l5 HO5.out.1 HO5.out.2 _).mono ?_
                        rintro en w6 ⟨cs6, rfl, ⟨i6, a6, c6, l6', rfl, hc6, ho6⟩, hx6⟩
                        unfold V5
                        simp only [Bool.true_and] at ho6
                        have hE6 := Chg.trans (hE5) hx6
                        have HO6 := Lib.hid (And.intro hc6 ho6)
                        refine hK.out _ _ (HS7.out _ hE6) (fun hHeld => ?_)
                        clear hK K hc6 ho6
                        refine wpAnyH_take (i := 10) (v := .tuple #[.agg #[.int .i64 s, .bool i6, .slice a6 0 c6, .int .i64 l6', .float .f64 0], .int .i64 0]) rfl (by kernel_rfl) (by kernel_rfl) (by kernel_rfl) (fun _ _ _ h => h) (Or.inl ⟨by rfl, ?_⟩) hHeld ?_
                        · intro wS hSw
                          obtain ⟨hs0, hs1, hs2, hs3, hs4, hs5, hs6⟩ := hSw
                          go_simp
                        simp only [Act.put, List.setIfInBounds_toArray, List.set_cons_zero, List.set_cons_succ]
                        refine wpAnyH_take (i := 11) (v := .agg #[.int .i64 s, .bool i6, .slice a6 0 c6, .int .i64 l6', .float .f64 0]) rfl (by kernel_rfl) (by kernel_rfl) (by kernel_rfl) (fun _ _ _ h => h) (Or.inl ⟨by rfl, ?_⟩) hHeld ?_
                        · intro wS hSw
                          obtain ⟨hs0, hs1, hs2, hs3, hs4, hs5, hs6⟩ := hSw
                          go_simp
                        simp only [Act.put, List.setIfInBounds_toArray, List.set_cons_zero, List.set_cons_succ]
                        refine wpAnyH_take (i := 12) (v := .int .i64 0) rfl (by kernel_rfl) (by kernel_rfl) (by kernel_rfl) (fun _ _ _ h => h) (Or.inl ⟨by rfl, ?_⟩) hHeld ?_
                        · intro wS hSw
                          obtain ⟨hs0, hs1, hs2, hs3, hs4, hs5, hs6⟩ := hSw
                          go_simp
                        simp only [Act.put, List.setIfInBounds_toArray, List.set_cons_zero, List.set_cons_succ]
                        have kB := (((Blk.new W4 #[.int .i64 0, .bool false, .slice none 0 0, .int .i64 0, .float .f64 0] 38).chg (Chg.refl (S := fun _ => False) _).drew (fun h => h)).chg hx5 (fun h => h)).chg hx6 (fun h => h)
                        have hsz5 : W4.heap.size ≤ W4.heap.size := Nat.le_refl _
                        have kVz := (blk5_step kB (.int .i64 s) (.bool i6) (.slice a6 0 c6) (.int .i64 l6') (.float .f64 0)).2.2.2.2.2
                        have hEz := Ext.put hE6 (put5 (c0 := .int .i64 s) (c1 := .bool i6) (c2 := .slice a6 0 c6) (c3 := .int .i64 l6') (c4 := .float .f64 0)) hsz5
                        obtain ⟨g0, f0, g1, f1, g2, f2, g3, f3, g4, f4⟩ := blk5_base kB
                        obtain ⟨y3, z3, y4, z4, q0, q1, q2, q3, q4⟩ := blk5_facts kB (.int .i64 s) (.bool i6) (.slice a6 0 c6) (.int .i64 l6') (.float .f64 0)
                        clear hx5 hx6 hE5 kB
                        have HVE := Lib.hid (And.intro kVz hEz)
                        clear kVz hEz
                        refine wpAnyH_ready (rs := [14]) (by kernel_rfl) (by simp) ?_
                        refine AllReadyH.cons (i := 14) (rs := []) (by rfl) ?_ AllReadyH.nil
                        intro K hK
                        go_simp
                        refine hK.out _ _ (HS7.out _ HVE.out.2) (fun hHeld => ?_)
                        clear hK K g0 f0 g1 f1 g2 f2 g3 f3 g4 f4 y3 z3 y4 z4 q0 q1 q2 q3 q4
                        refine wpAnyH_ready (rs := [15]) (by kernel_rfl) (by simp) ?_
                        refine AllReadyH.cons (i := 15) (rs := []) (by rfl) ?_ AllReadyH.nil
                        intro K hK
                        go_simp
                        refine hK.out _ _ hHeld (fun hHeld => ?_)
                        clear hK K
                        refine wpAnyH_done (by kernel_rfl) ?_ _
                        have kVz := HVE.out.1
                        have hEz := HVE.out.2
                        clear HVE
                        generalize hWz : (((((w6.setCell ⟨W4.heap.size, 0, none⟩ (.int .i64 s)).setCell ⟨W4.heap.size, 1, none⟩ (.bool i6)).setCell ⟨W4.heap.size, 2, none⟩ (.slice a6 0 c6)).setCell ⟨W4.heap.size, 3, none⟩ (.int .i64 l6')).setCell ⟨W4.heap.size, 4, none⟩ (.float .f64 0)) = Wz at kVz hEz ⊢
                        clear hWz hHeld hE6
                        obtain ⟨v0, -, v1, -, v2, -, v3, -, v4, -⟩ := blk5_base kVz
                        obtain ⟨k1, k2, -⟩ := HG.out _ (hEz.mono fun _ _ h => h.elim)
                        have y1 := k1.cell 1 _ rfl
                        have y4 := k1.cell 4 _ rfl
                        obtain ⟨p0, -, p1, -⟩ := blk2_base k2
                        have n0 := (HKe.out _ (hEz.mono fun _ _ h => h.elim)).cell 0 _ rfl
                        have n3 := (HKe.out _ (hEz.mono fun _ _ h => h.elim)).cell 3 _ rfl
                        obtain ⟨gi, hgi⟩ : ∃ gi, decide (Li.length < (tryE (wt e.tok) Li ⟨e.to, mt, e.fr, mf, e.tok, false⟩).length) = gi := ⟨_, rfl⟩
                        have HTr := Lib.hid (try_any sb r s Li _ (e.to) mt (e.fr) mf e.tok false i6 a6 c6 l6' (wt e.tok) gi HO6.out.1 HO6.out.2 Wz ((HSC.out.toExt hEz).blk.cell 9 _ rfl) ((HX.out.2.1.ext HAl4.out).ext hEz) HSC.out.ne rfl hgi)
                        have HEz := Lib.hid hEz
                        have HGi := Lib.hid hgi
                        clear kVz hEz k1 k2 hgi
                        go_wp2_with fail
                        refine HTr.out.mono ?_
                        rintro en w7 ⟨rfl, hw7, hc7⟩
                        have HZ7 := Lib.hid (And.intro hw7 (HX.out.1.trans (((HAl4.out.trans HEz.out).mono fun _ _ h => h.elim).trans hc7)))
                        clear hw7 hc7 v0 v1 v2 v3 v4 y1 y4 p0 p1 n0 n3
                        have hpl := pre_len HX.out.2.2.1
                        have hpt := pre_len (tryE_pre (wt e.tok) Li ⟨e.to, mt, e.fr, mf, e.tok, false⟩)
                        cases gi with
                        | true =>
                          have hlt := of_decide_eq_true HGi.out
                          go_wp2_with fail
                          go_roundg (n - (i + 1))
                          case measure => omega
                          case rel => exact ⟨i + 1, _, by omega, HZ7.out.2, HZ7.out.1, HX.out.2.2.1.trans (tryE_pre ..), HL2.out, by rw [decide_eq_true (by omega)], rfl, rfl⟩
                        | false =>
                          have hlt := of_decide_eq_false HGi.out
                          go_wp2_with fail
                          go_roundg (n - (i + 1))
                          case measure => omega
                          case rel => exact ⟨i + 1, _, by omega, HZ7.out.2, HZ7.out.1, HX.out.2.2.1.trans (tryE_pre ..), HL2.out, congrArg Value.bool (decide_eq_decide.2 (by omega)), rfl, rfl⟩
                    · rw [edgeE, if_neg (fun h => hid h.2)] at hLi
                      have e1 : (e.fr == id) = false := by simpa using hid
                      clear hid
                      go_wp2_with fail
                      go_roundg (n - (i + 1))
                      case measure => omega
                      case rel => exact ⟨i + 1, Li, by omega, HX.out.1.alloc _, HX.out.2.1.ext ((Chg.refl wr).alloc _), HX.out.2.2.1, hLi, rfl, rfl, rfl⟩
                  | true =>
                    by_cases hid : e.to = id
                    · subst hid
                      have hal4 : Ext wr (wr.alloc (.cells #[.int .i64 e.tok, .int .i64 e.to, .string e.lab, .int .i64 e.fr] 72)) := (Chg.refl wr).alloc _
                      have ke := Blk.new wr #[.int .i64 e.tok, .int .i64 e.to, .string e.lab, .int .i64 e.fr] 72
                      obtain ⟨W4, hW4⟩ : ∃ W4, wr.alloc (.cells #[.int .i64 e.tok, .int .i64 e.to, .string e.lab, .int .i64 e.fr] 72) = W4 := ⟨_, rfl⟩
                      rw [hW4] at hal4 ke
                      have HW4 := Lib.hid hW4
                      have HA4 := Lib.hid (And.intro hal4 ke)
                      have HG := Lib.hid (fun W (hW : Chg (fun b => b = r) W4 W) => HBx.out W (HX.out.1.trans ((hal4.mono fun _ _ h => h.elim).trans hW)))
                      have HSC := Lib.hid (HX.out.2.2.2.toExt hal4)
                      have hrr := HX.out.2.1.lt
                      have HKe := Lib.hid (fun W (hW : Chg (fun b => b = r) W4 W) => ke.chg hW (by omega))
                      have HFe := Lib.hid (fun W (hW : Ext W4 W) => HFn.out W (HSC.out.ext.trans hW) e.tok)
                      have HTi := Lib.hid (fun (i2 : Bool) (a2 : Option Addr) (c2 : Nat) (l2 : Int) (hc2 : c2 ≤ maxLen) (ho2 : Ok0 s i2 l2 (wt e.tok)) W => times0 a1 a2 c1' c2 HO1.out.1 hc2 HO1.out.2 ho2 W)
                      have HS7 := Lib.hid (fun W (hW : Ext W4 W) => let q := blk9_base (HG.out W (hW.mono fun _ _ h => h.elim)).2.2; And.intro q.1 (And.intro q.2.1 (And.intro q.2.2.1 (And.intro q.2.2.2.1 (And.intro q.2.2.2.2.1 (And.intro ((HSC.out.toExt hW).blk.cell 8 fv rfl) ((HKe.out W (hW.mono fun _ _ h => h.elim)).cell 0 (.int .i64 e.tok) rfl)))))))
                      have HAl4 := Lib.hid hal4
                      have HL2 : Hid (edgesE wt ⟨mf, mt, false, e.lab, true⟩ (e.to) (es.drop (i + 1)) (tryE (wt e.tok) Li ⟨e.fr, mt, e.to, mf, e.tok, true⟩) = L') := Lib.hid (by rw [edgeE, if_pos ⟨rfl, rfl⟩] at hLi; exact hLi)
                      clear hal4 ke hW4 hLi
                      rw [hfv] at HS7
                      go_wp2_with fail
                      rw [HW4.out]
                      refine wp_region_held_drew (S := fun v => v.cell? ⟨w2.heap.size, 0, none⟩ = some (.int .i64 s) ∧ v.cell? ⟨w2.heap.size, 1, none⟩ = some (.bool i1) ∧ v.cell? ⟨w2.heap.size, 2, none⟩ = some (.slice a1 0 c1') ∧ v.cell? ⟨w2.heap.size, 3, none⟩ = some (.int .i64 l1) ∧ v.cell? ⟨w2.heap.size, 4, none⟩ = some (.float .f64 0) ∧ v.cell? ⟨sb, 8, none⟩ = some (.func (.func 71) #[] #[.pointer (some ⟨f1, 0, none⟩)]) ∧ v.cell? ⟨wr.heap.size, 0, none⟩ = some (.int .i64 e.tok)) (by kernel_rfl) (HS7.out _ (Chg.refl (S := fun _ => False) W4).drew) (fun hHeld => ?_)
                      refine wpAnyH_take (i := 0) (v := .pointer (some ⟨w2.heap.size, 0, none⟩)) rfl (by kernel_rfl) (by kernel_rfl) (by kernel_rfl) (fun _ _ _ h => h) (Or.inl ⟨by rfl, ?_⟩) hHeld ?_
                      · intro wS hSw
                        obtain ⟨hs0, hs1, hs2, hs3, hs4, hs5, hs6⟩ := hSw
                        go_simp
                      simp only [Act.put, List.setIfInBounds_toArray, List.set_cons_zero, List.set_cons_succ]
                      refine wpAnyH_take (i := 1) (v := .agg #[.int .i64 s, .bool i1, .slice a1 0 c1', .int .i64 l1, .float .f64 0]) rfl (by kernel_rfl) (by kernel_rfl) (by kernel_rfl) (fun _ _ _ h => h) (Or.inl ⟨by rfl, ?_⟩) hHeld ?_
                      · intro wS hSw
                        obtain ⟨hs0, hs1, hs2, hs3, hs4, hs5, hs6⟩ := hSw
                        go_simp
                      simp only [Act.put, List.setIfInBounds_toArray, List.set_cons_zero, List.set_cons_succ]
                      refine wpAnyH_take (i := 2) (v := .pointer (some ⟨sb, 0, none⟩)) rfl (by kernel_rfl) (by kernel_rfl) (by kernel_rfl) (fun _ _ _ h => h) (Or.inl ⟨by rfl, ?_⟩) hHeld ?_
                      · intro wS hSw
                        obtain ⟨hs0, hs1, hs2, hs3, hs4, hs5, hs6⟩ := hSw
                        go_simp
                      simp only [Act.put, List.setIfInBounds_toArray, List.set_cons_zero, List.set_cons_succ]
                      refine wpAnyH_take (i := 3) (v := .pointer (some ⟨sb, 0, none⟩)) rfl (by kernel_rfl) (by kernel_rfl) (by kernel_rfl) (fun _ _ _ h => h) (Or.inl ⟨by rfl, ?_⟩) hHeld ?_
                      · intro wS hSw
                        obtain ⟨hs0, hs1, hs2, hs3, hs4, hs5, hs6⟩ := hSw
                        go_simp
                      simp only [Act.put, List.setIfInBounds_toArray, List.set_cons_zero, List.set_cons_succ]
                      refine wpAnyH_take (i := 4) (v := .pointer (some ⟨sb, 8, none⟩)) rfl (by kernel_rfl) (by kernel_rfl) (by kernel_rfl) (fun _ _ _ h => h) (Or.inl ⟨by rfl, ?_⟩) hHeld ?_
                      · intro wS hSw
                        obtain ⟨hs0, hs1, hs2, hs3, hs4, hs5, hs6⟩ := hSw
                        go_simp
                      simp only [Act.put, List.setIfInBounds_toArray, List.set_cons_zero, List.set_cons_succ]
                      refine wpAnyH_take (i := 5) (v := .func (.func 71) #[] #[.pointer (some ⟨f1, 0, none⟩)]) rfl (by kernel_rfl) (by kernel_rfl) (by kernel_rfl) (fun _ _ _ h => h) (Or.inl ⟨by rfl, ?_⟩) hHeld ?_
                      · intro wS hSw
                        obtain ⟨hs0, hs1, hs2, hs3, hs4, hs5, hs6⟩ := hSw
                        go_simp
                      simp only [Act.put, List.setIfInBounds_toArray, List.set_cons_zero, List.set_cons_succ]
                      refine wpAnyH_take (i := 6) (v := .pointer (some ⟨wr.heap.size, 0, none⟩)) rfl (by kernel_rfl) (by kernel_rfl) (by kernel_rfl) (fun _ _ _ h => h) (Or.inl ⟨by rfl, ?_⟩) hHeld ?_
                      · intro wS hSw
                        obtain ⟨hs0, hs1, hs2, hs3, hs4, hs5, hs6⟩ := hSw
                        go_simp
                      simp only [Act.put, List.setIfInBounds_toArray, List.set_cons_zero, List.set_cons_succ]
                      refine wpAnyH_take (i := 7) (v := .int .i64 e.tok) rfl (by kernel_rfl) (by kernel_rfl) (by kernel_rfl) (fun _ _ _ h => h) (Or.inl ⟨by rfl, ?_⟩) hHeld ?_
                      · intro wS hSw
                        obtain ⟨hs0, hs1, hs2, hs3, hs4, hs5, hs6⟩ := hSw
                        go_simp
                      simp only [Act.put, List.setIfInBounds_toArray, List.set_cons_zero, List.set_cons_succ]
                      refine wpAnyH_ready (rs := [8, 13]) (by kernel_rfl) (by simp) ?_
                      refine AllReadyH.cons (i := 8) (rs := [13]) (by rfl) ?_ (AllReadyH.cons (i := 13) (rs := []) (by rfl) ?_ AllReadyH.nil)
                      · intro K hK
                        go_simp
                        refine (HFe.out _ ((Chg.refl (S := fun _ => False) W4).drew)).mono ?_
                        rintro en w5 ⟨cs5, rfl, ⟨i5, a5, c5, l5, rfl, hc5, ho5⟩, hx5⟩
                        unfold V5
                        have hE5 := Chg.trans ((Chg.refl (S := fun _ => False) W4).drew) hx5
                        have HO5 := Lib.hid (And.intro hc5 ho5)
                        refine hK.out _ _ (HS7.out _ hE5) (fun hHeld => ?_)
                        clear hK K hc5 ho5
                        refine wpAnyH_ready (rs := [9, 13]) (by kernel_rfl) (by simp) ?_
                        refine AllReadyH.cons (i := 9) (rs := [13]) (by rfl) ?_ (AllReadyH.cons (i := 13) (rs := []) (by rfl) ?_ AllReadyH.nil)
                        · intro K hK
                          go_simp
                          refine (HTi.out i5 a5 c5 l5 HO5.out.1 HO5.out.2 _).mono ?_
                          rintro en w6 ⟨cs6, rfl, ⟨i6, a6, c6, l6', rfl, hc6, ho6⟩, hx6⟩
                          unfold V5
                          simp only [Bool.true_and] at ho6
                          have hE6 := Chg.trans (hE5) hx6
                          have HO6 := Lib.hid (And.intro hc6 ho6)
                          refine hK.out _ _ (HS7.out _ hE6) (fun hHeld => ?_)
                          clear hK K hc6 ho6
                          refine wpAnyH_take (i := 10) (v := .tuple #[.agg #[.int .i64 s, .bool i6, .slice a6 0 c6, .int .i64 l6', .float .f64 0], .int .i64 0]) rfl (by kernel_rfl) (by kernel_rfl) (by kernel_rfl) (fun _ _ _ h => h) (Or.inl ⟨by rfl, ?_⟩) hHeld ?_
                          · intro wS hSw
                            obtain ⟨hs0, hs1, hs2, hs3, hs4, hs5, hs6⟩ := hSw
                            go_simp
                          simp only [Act.put, List.setIfInBounds_toArray, List.set_cons_zero, List.set_cons_succ]
                          refine wpAnyH_take (i := 11) (v := .agg #[.int .i64 s, .bool i6, .slice a6 0 c6, .int .i64 l6', .float .f64 0]) rfl (by kernel_rfl) (by kernel_rfl) (by kernel_rfl) (fun _ _ _ h => h) (Or.inl ⟨by rfl, ?_⟩) hHeld ?_
                          · intro wS hSw
                            obtain ⟨hs0, hs1, hs2, hs3, hs4, hs5, hs6⟩ := hSw
                            go_simp
                          simp only [Act.put, List.setIfInBounds_toArray, List.set_cons_zero, List.set_cons_succ]
                          refine wpAnyH_take (i := 12) (v := .int .i64 0) rfl (by kernel_rfl) (by kernel_rfl) (by kernel_rfl) (fun _ _ _ h => h) (Or.inl ⟨by rfl, ?_⟩) hHeld ?_
                          · intro wS hSw
                            obtain ⟨hs0, hs1, hs2, hs3, hs4, hs5, hs6⟩ := hSw
                            go_simp
                          simp only [Act.put, List.setIfInBounds_toArray, List.set_cons_zero, List.set_cons_succ]
                          refine wpAnyH_ready (rs := [13]) (by kernel_rfl) (by simp) ?_
                          refine AllReadyH.cons (i := 13) (rs := []) (by rfl) ?_ AllReadyH.nil
                          intro K hK
                          go_simp
                          refine hK.out _ _ (HS7.out _ (hE6.alloc _)) (fun hHeld => ?_)
                          clear hK K
                          refine wpAnyH_ready (rs := [14]) (by kernel_rfl) (by simp) ?_
                          refine AllReadyH.cons (i := 14) (rs := []) (by rfl) ?_ AllReadyH.nil
                          intro K hK
                          go_simp
                          refine hK.out _ _ (HS7.out _ (hE6.alloc _)) (fun hHeld => ?_)
                          clear hK K
                          refine wpAnyH_ready (rs := [15]) (by kernel_rfl) (by simp) ?_
                          refine AllReadyH.cons (i := 15) (rs := []) (by rfl) ?_ AllReadyH.nil
                          intro K hK
                          go_simp
                          refine hK.out _ _ hHeld (fun hHeld => ?_)
                          clear hK K
                          refine wpAnyH_done (by kernel_rfl) ?_ _
                          have kVz := Blk.new w6 #[.int .i64 s, .bool i6, .slice a6 0 c6, .int .i64 l6', .float .f64 0] 38
                          have hEz := hE6.alloc (.cells #[.int .i64 s, .bool i6, .slice a6 0 c6, .int .i64 l6', .float .f64 0] 38)
                          generalize hWz : w6.alloc (.cells #[.int .i64 s, .bool i6, .slice a6 0 c6, .int .i64 l6', .float .f64 0] 38) = Wz at kVz hEz ⊢
                          clear hWz hHeld hE5 hE6 hx5 hx6
                          obtain ⟨v0, -, v1, -, v2, -, v3, -, v4, -⟩ := blk5_base kVz
                          obtain ⟨k1, k2, -⟩ := HG.out _ (hEz.mono fun _ _ h => h.elim)
                          have y1 := k1.cell 1 _ rfl
                          have y4 := k1.cell 4 _ rfl
                          obtain ⟨p0, -, p1, -⟩ := blk2_base k2
                          have n0 := (HKe.out _ (hEz.mono fun _ _ h => h.elim)).cell 0 _ rfl
                          have n3 := (HKe.out _ (hEz.mono fun _ _ h => h.elim)).cell 3 _ rfl
                          obtain ⟨gi, hgi⟩ : ∃ gi, decide (Li.length < (tryE (wt e.tok) Li ⟨e.fr, mt, e.to, mf, e.tok, true⟩).length) = gi := ⟨_, rfl⟩
                          have HTr := Lib.hid (try_any sb r s Li _ (e.fr) mt (e.to) mf e.tok true i6 a6 c6 l6' (wt e.tok) gi HO6.out.1 HO6.out.2 Wz ((HSC.out.toExt hEz).blk.cell 9 _ rfl) ((HX.out.2.1.ext HAl4.out).ext hEz) HSC.out.ne rfl hgi)
                          have HEz := Lib.hid hEz
                          have HGi := Lib.hid hgi
                          clear kVz hEz k1 k2 hgi
                          go_wp2_with fail
                          refine HTr.out.mono ?_
                          rintro en w7 ⟨rfl, hw7, hc7⟩
                          have HZ7 := Lib.hid (And.intro hw7 (HX.out.1.trans (((HAl4.out.trans HEz.out).mono fun _ _ h => h.elim).trans hc7)))
                          clear hw7 hc7 v0 v1 v2 v3 v4 y1 y4 p0 p1 n0 n3
                          have hpl := pre_len HX.out.2.2.1
                          have hpt := pre_len (tryE_pre (wt e.tok) Li ⟨e.fr, mt, e.to, mf, e.tok, true⟩)
                          cases gi with
                          | true =>
                            have hlt := of_decide_eq_true HGi.out
                            go_wp2_with fail
                            go_roundg (n - (i + 1))
                            case measure => omega
                            case rel => exact ⟨i + 1, _, by omega, HZ7.out.2, HZ7.out.1, HX.out.2.2.1.trans (tryE_pre ..), HL2.out, by rw [decide_eq_true (by omega)], rfl, rfl⟩
                          | false =>
                            have hlt := of_decide_eq_false HGi.out
                            go_wp2_with fail
                            go_roundg (n - (i + 1))
                            case measure => omega
                            case rel => exact ⟨i + 1, _, by omega, HZ7.out.2, HZ7.out.1, HX.out.2.2.1.trans (tryE_pre ..), HL2.out, congrArg Value.bool (decide_eq_decide.2 (by omega)), rfl, rfl⟩
                        · intro K hK
                          go_simp
                          refine hK.out _ _ (HS7.out _ (hE5.alloc _)) (fun hHeld => ?_)
                          clear hK K
                          refine wpAnyH_ready (rs := [9]) (by kernel_rfl) (by simp) ?_
                          refine AllReadyH.cons (i := 9) (rs := []) (by rfl) ?_ AllReadyH.nil
                          intro K hK
                          go_simp
                          refine (HTi.out i5 a5 c5 l5 HO5.out.1 HO5.out.2 _).mono ?_
                          rintro en w6 ⟨cs6, rfl, ⟨i6, a6, c6, l6', rfl, hc6, ho6⟩, hx6⟩
                          unfold V5
                          simp only [Bool.true_and] at ho6
                          have hE6 := Chg.trans (hE5.alloc (.cells #[.int .i64 0, .bool false, .slice none 0 0, .int .i64 0, .float .f64 0] 38)) hx6
                          have HO6 := Lib.hid (And.intro hc6 ho6)
                          refine hK.out _ _ (HS7.out _ hE6) (fun hHeld => ?_)
                          clear hK K hc6 ho6
                          refine wpAnyH_take (i := 10) (v := .tuple #[.agg #[.int .i64 s, .bool i6, .slice a6 0 c6, .int .i64 l6', .float .f64 0], .int .i64 0]) rfl (by kernel_rfl) (by kernel_rfl) (by kernel_rfl) (fun _ _ _ h => h) (Or.inl ⟨by rfl, ?_⟩) hHeld ?_
                          · intro wS hSw
                            obtain ⟨hs0, hs1, hs2, hs3, hs4, hs5, hs6⟩ := hSw
                            go_simp
                          simp only [Act.put, List.setIfInBounds_toArray, List.set_cons_zero, List.set_cons_succ]
                          refine wpAnyH_take (i := 11) (v := .agg #[.int .i64 s, .bool i6, .slice a6 0 c6, .int .i64 l6', .float .f64 0]) rfl (by kernel_rfl) (by kernel_rfl) (by kernel_rfl) (fun _ _ _ h => h) (Or.inl ⟨by rfl, ?_⟩) hHeld ?_
                          · intro wS hSw
                            obtain ⟨hs0, hs1, hs2, hs3, hs4, hs5, hs6⟩ := hSw
                            go_simp
                          simp only [Act.put, List.setIfInBounds_toArray, List.set_cons_zero, List.set_cons_succ]
                          refine wpAnyH_take (i := 12) (v := .int .i64 0) rfl (by kernel_rfl) (by kernel_rfl) (by kernel_rfl) (fun _ _ _ h => h) (Or.inl ⟨by rfl, ?_⟩) hHeld ?_
                          · intro wS hSw
                            obtain ⟨hs0, hs1, hs2, hs3, hs4, hs5, hs6⟩ := hSw
                            go_simp
                          simp only [Act.put, List.setIfInBounds_toArray, List.set_cons_zero, List.set_cons_succ]
                          have kB := (Blk.new w5 #[.int .i64 0, .bool false, .slice none 0 0, .int .i64 0, .float .f64 0] 38).chg hx6 (fun h => h)
                          have hsz5 := hE5.size
                          have kVz := (blk5_step kB (.int .i64 s) (.bool i6) (.slice a6 0 c6) (.int .i64 l6') (.float .f64 0)).2.2.2.2.2
                          have hEz := Ext.put hE6 (put5 (c0 := .int .i64 s) (c1 := .bool i6) (c2 := .slice a6 0 c6) (c3 := .int .i64 l6') (c4 := .float .f64 0)) hsz5
                          obtain ⟨g0, f0, g1, f1, g2, f2, g3, f3, g4, f4⟩ := blk5_base kB
                          obtain ⟨y3, z3, y4, z4, q0, q1, q2, q3, q4⟩ := blk5_facts kB (.int .i64 s) (.bool i6) (.slice a6 0 c6) (.int .i64 l6') (.float .f64 0)
                          clear hx5 hx6 hE5 kB
                          have HVE := Lib.hid (And.intro kVz hEz)
                          clear kVz hEz
                          refine wpAnyH_ready (rs := [14]) (by kernel_rfl) (by simp) ?_
                          refine AllReadyH.cons (i := 14) (rs := []) (by rfl) ?_ AllReadyH.nil
                          intro K hK
                          go_simp
                          refine hK.out _ _ (HS7.out _ HVE.out.2) (fun hHeld => ?_)
                          clear hK K g0 f0 g1 f1 g2 f2 g3 f3 g4 f4 y3 z3 y4 z4 q0 q1 q2 q3 q4
                          refine wpAnyH_ready (rs := [15]) (by kernel_rfl) (by simp) ?_
                          refine AllReadyH.cons (i := 15) (rs := []) (by rfl) ?_ AllReadyH.nil
                          intro K hK
                          go_simp
                          refine hK.out _ _ hHeld (fun hHeld => ?_)
                          clear hK K
                          refine wpAnyH_done (by kernel_rfl) ?_ _
                          have kVz := HVE.out.1
                          have hEz := HVE.out.2
                          clear HVE
                          generalize hWz : (((((w6.setCell ⟨w5.heap.size, 0, none⟩ (.int .i64 s)).setCell ⟨w5.heap.size, 1, none⟩ (.bool i6)).setCell ⟨w5.heap.size, 2, none⟩ (.slice a6 0 c6)).setCell ⟨w5.heap.size, 3, none⟩ (.int .i64 l6')).setCell ⟨w5.heap.size, 4, none⟩ (.float .f64 0)) = Wz at kVz hEz ⊢
                          clear hWz hHeld hE6
                          obtain ⟨v0, -, v1, -, v2, -, v3, -, v4, -⟩ := blk5_base kVz
                          obtain ⟨k1, k2, -⟩ := HG.out _ (hEz.mono fun _ _ h => h.elim)
                          have y1 := k1.cell 1 _ rfl
                          have y4 := k1.cell 4 _ rfl
                          obtain ⟨p0, -, p1, -⟩ := blk2_base k2
                          have n0 := (HKe.out _ (hEz.mono fun _ _ h => h.elim)).cell 0 _ rfl
                          have n3 := (HKe.out _ (hEz.mono fun _ _ h => h.elim)).cell 3 _ rfl
                          obtain ⟨gi, hgi⟩ : ∃ gi, decide (Li.length < (tryE (wt e.tok) Li ⟨e.fr, mt, e.to, mf, e.tok, true⟩).length) = gi := ⟨_, rfl⟩
                          have HTr := Lib.hid (try_any sb r s Li _ (e.fr) mt (e.to) mf e.tok true i6 a6 c6 l6' (wt e.tok) gi HO6.out.1 HO6.out.2 Wz ((HSC.out.toExt hEz).blk.cell 9 _ rfl) ((HX.out.2.1.ext HAl4.out).ext hEz) HSC.out.ne rfl hgi)
                          have HEz := Lib.hid hEz
                          have HGi := Lib.hid hgi
                          clear kVz hEz k1 k2 hgi
                          go_wp2_with fail
                          refine HTr.out.mono ?_
                          rintro en w7 ⟨rfl, hw7, hc7⟩
                          have HZ7 := Lib.hid (And.intro hw7 (HX.out.1.trans (((HAl4.out.trans HEz.out).mono fun _ _ h => h.elim).trans hc7)))
                          clear hw7 hc7 v0 v1 v2 v3 v4 y1 y4 p0 p1 n0 n3
                          have hpl := pre_len HX.out.2.2.1
                          have hpt := pre_len (tryE_pre (wt e.tok) Li ⟨e.fr, mt, e.to, mf, e.tok, true⟩)
                          cases gi with
                          | true =>
                            have hlt := of_decide_eq_true HGi.out
                            go_wp2_with fail
                            go_roundg (n - (i + 1))
                            case measure => omega
                            case rel => exact ⟨i + 1, _, by omega, HZ7.out.2, HZ7.out.1, HX.out.2.2.1.trans (tryE_pre ..), HL2.out, by rw [decide_eq_true (by omega)], rfl, rfl⟩
                          | false =>
                            have hlt := of_decide_eq_false HGi.out
                            go_wp2_with fail
                            go_roundg (n - (i + 1))
                            case measure => omega
                            case rel => exact ⟨i + 1, _, by omega, HZ7.out.2, HZ7.out.1, HX.out.2.2.1.trans (tryE_pre ..), HL2.out, congrArg Value.bool (decide_eq_decide.2 (by omega)), rfl, rfl⟩
                      · intro K hK
                        go_simp
                        refine hK.out _ _ (HS7.out _ ((Chg.refl (S := fun _ => False) W4).alloc _).drew) (fun hHeld => ?_)
                        clear hK K
                        refine wpAnyH_ready (rs := [8]) (by kernel_rfl) (by simp) ?_
                        refine AllReadyH.cons (i := 8) (rs := []) (by rfl) ?_ AllReadyH.nil
                        intro K hK
                        go_simp
                        refine (HFe.out _ (((Chg.refl (S := fun _ => False) W4).alloc (.cells #[.int .i64 0, .bool false, .slice none 0 0, .int .i64 0, .float .f64 0] 38)).drew)).mono ?_
                        rintro en w5 ⟨cs5, rfl, ⟨i5, a5, c5, l5, rfl, hc5, ho5⟩, hx5⟩
                        unfold V5
                        have hE5 := Chg.trans (((Chg.refl (S := fun _ => False) W4).alloc (.cells #[.int .i64 0, .bool false, .slice none 0 0, .int .i64 0, .float .f64 0] 38)).drew) hx5
                        have HO5 := Lib.hid (And.intro hc5 ho5)
                        refine hK.out _ _ (HS7.out _ hE5) (fun hHeld => ?_)
                        clear hK K hc5 ho5
                        refine wpAnyH_ready (rs := [9]) (by kernel_rfl) (by simp) ?_
                        refine AllReadyH.cons (i := 9) (rs := []) (by rfl) ?_ AllReadyH.nil
                        intro K hK
                        go_simp
                        refine (HTi.out i5 a5 c5 l5 HO5.out.1 HO5.out.2 _).mono ?_
                        rintro en w6 ⟨cs6, rfl, ⟨i6, a6, c6, l6', rfl, hc6, ho6⟩, hx6⟩
                        unfold V5
                        simp only [Bool.true_and] at ho6
                        have hE6 := Chg.trans (hE5) hx6
                        have HO6 := Lib.hid (And.intro hc6 ho6)
                        refine hK.out _ _ (HS7.out _ hE6) (fun hHeld => ?_)
                        clear hK K hc6 ho6
                        refine wpAnyH_take (i := 10) (v := .tuple #[.agg #[.int .i64 s, .bool i6, .slice a6 0 c6, .int .i64 l6', .float .f64 0], .int .i64 0]) rfl (by kernel_rfl) (by kernel_rfl) (by kernel_rfl) (fun _ _ _ h => h) (Or.inl ⟨by rfl, ?_⟩) hHeld ?_
                        · intro wS hSw
                          obtain ⟨hs0, hs1, hs2, hs3, hs4, hs5, hs6⟩ := hSw
                          go_simp
                        simp only [Act.put, List.setIfInBounds_toArray, List.set_cons_zero, List.set_cons_succ]
                        refine wpAnyH_take (i := 11) (v := .agg #[.int .i64 s, .bool i6, .slice a6 0 c6, .int .i64 l6', .float .f64 0]) rfl (by kernel_rfl) (by kernel_rfl) (by kernel_rfl) (fun _ _ _ h => h) (Or.inl ⟨by rfl, ?_⟩) hHeld ?_
                        · intro wS hSw
                          obtain ⟨hs0, hs1, hs2, hs3, hs4, hs5, hs6⟩ := hSw
                          go_simp
                        simp only [Act.put, List.setIfInBounds_toArray, List.set_cons_zero, List.set_cons_succ]
                        refine wpAnyH_take (i := 12) (v := .int .i64 0) rfl (by kernel_rfl) (by kernel_rfl) (by kernel_rfl) (fun _ _ _ h => h) (Or.inl ⟨by rfl, ?_⟩) hHeld ?_
                        · intro wS hSw
                          obtain ⟨hs0, hs1, hs2, hs3, hs4, hs5, hs6⟩ := hSw
                          go_simp
                        simp only [Act.put, List.setIfInBounds_toArray, List.set_cons_zero, List.set_cons_succ]
                        have kB := (((Blk.new W4 #[.int .i64 0, .bool false, .slice none 0 0, .int .i64 0, .float .f64 0] 38).chg (Chg.refl (S := fun _ => False) _).drew (fun h => h)).chg hx5 (fun h => h)).chg hx6 (fun h => h)
                        have hsz5 : W4.heap.size ≤ W4.heap.size := Nat.le_refl _
                        have kVz := (blk5_step kB (.int .i64 s) (.bool i6) (.slice a6 0 c6) (.int .i64 l6') (.float .f64 0)).2.2.2.2.2
                        have hEz := Ext.put hE6 (put5 (c0 := .int .i64 s) (c1 := .bool i6) (c2 := .slice a6 0 c6) (c3 := .int .i64 l6') (c4 := .float .f64 0)) hsz5
                        obtain ⟨g0, f0, g1, f1, g2, f2, g3, f3, g4, f4⟩ := blk5_base kB
                        obtain ⟨y3, z3, y4, z4, q0, q1, q2, q3, q4⟩ := blk5_facts kB (.int .i64 s) (.bool i6) (.slice a6 0 c6) (.int .i64 l6') (.float .f64 0)
                        clear hx5 hx6 hE5 kB
                        have HVE := Lib.hid (And.intro kVz hEz)
                        clear kVz hEz
                        refine wpAnyH_ready (rs := [14]) (by kernel_rfl) (by simp) ?_
                        refine AllReadyH.cons (i := 14) (rs := []) (by rfl) ?_ AllReadyH.nil
                        intro K hK
                        go_simp
                        refine hK.out _ _ (HS7.out _ HVE.out.2) (fun hHeld => ?_)
                        clear hK K g0 f0 g1 f1 g2 f2 g3 f3 g4 f4 y3 z3 y4 z4 q0 q1 q2 q3 q4
                        refine wpAnyH_ready (rs := [15]) (by kernel_rfl) (by simp) ?_
                        refine AllReadyH.cons (i := 15) (rs := []) (by rfl) ?_ AllReadyH.nil
                        intro K hK
                        go_simp
                        refine hK.out _ _ hHeld (fun hHeld => ?_)
                        clear hK K
                        refine wpAnyH_done (by kernel_rfl) ?_ _
                        have kVz := HVE.out.1
                        have hEz := HVE.out.2
                        clear HVE
                        generalize hWz : (((((w6.setCell ⟨W4.heap.size, 0, none⟩ (.int .i64 s)).setCell ⟨W4.heap.size, 1, none⟩ (.bool i6)).setCell ⟨W4.heap.size, 2, none⟩ (.slice a6 0 c6)).setCell ⟨W4.heap.size, 3, none⟩ (.int .i64 l6')).setCell ⟨W4.heap.size, 4, none⟩ (.float .f64 0)) = Wz at kVz hEz ⊢
                        clear hWz hHeld hE6
                        obtain ⟨v0, -, v1, -, v2, -, v3, -, v4, -⟩ := blk5_base kVz
                        obtain ⟨k1, k2, -⟩ := HG.out _ (hEz.mono fun _ _ h => h.elim)
                        have y1 := k1.cell 1 _ rfl
                        have y4 := k1.cell 4 _ rfl
                        obtain ⟨p0, -, p1, -⟩ := blk2_base k2
                        have n0 := (HKe.out _ (hEz.mono fun _ _ h => h.elim)).cell 0 _ rfl
                        have n3 := (HKe.out _ (hEz.mono fun _ _ h => h.elim)).cell 3 _ rfl
                        obtain ⟨gi, hgi⟩ : ∃ gi, decide (Li.length < (tryE (wt e.tok) Li ⟨e.fr, mt, e.to, mf, e.tok, true⟩).length) = gi := ⟨_, rfl⟩
                        have HTr := Lib.hid (try_any sb r s Li _ (e.fr) mt (e.to) mf e.tok true i6 a6 c6 l6' (wt e.tok) gi HO6.out.1 HO6.out.2 Wz ((HSC.out.toExt hEz).blk.cell 9 _ rfl) ((HX.out.2.1.ext HAl4.out).ext hEz) HSC.out.ne rfl hgi)
                        have HEz := Lib.hid hEz
                        have HGi := Lib.hid hgi
                        clear kVz hEz k1 k2 hgi
                        go_wp2_with fail
                        refine HTr.out.mono ?_
                        rintro en w7 ⟨rfl, hw7, hc7⟩
                        have HZ7 := Lib.hid (And.intro hw7 (HX.out.1.trans (((HAl4.out.trans HEz.out).mono fun _ _ h => h.elim).trans hc7)))
                        clear hw7 hc7 v0 v1 v2 v3 v4 y1 y4 p0 p1 n0 n3
                        have hpl := pre_len HX.out.2.2.1
                        have hpt := pre_len (tryE_pre (wt e.tok) Li ⟨e.fr, mt, e.to, mf, e.tok, true⟩)
                        cases gi with
                        | true =>
                          have hlt := of_decide_eq_true HGi.out
                          go_wp2_with fail
                          go_roundg (n - (i + 1))
                          case measure => omega
                          case rel => exact ⟨i + 1, _, by omega, HZ7.out.2, HZ7.out.1, HX.out.2.2.1.trans (tryE_pre ..), HL2.out, by rw [decide_eq_true (by omega)], rfl, rfl⟩
                        | false =>
                          have hlt := of_decide_eq_false HGi.out
                          go_wp2_with fail
                          go_roundg (n - (i + 1))
                          case measure => omega
                          case rel => exact ⟨i + 1, _, by omega, HZ7.out.2, HZ7.out.1, HX.out.2.2.1.trans (tryE_pre ..), HL2.out, congrArg Value.bool (decide_eq_decide.2 (by omega)), rfl, rfl⟩
                    · rw [edgeE, if_neg (fun h => hid h.2)] at hLi
                      have e1 : (e.to == id) = false := by simpa using hid
                      clear hid
                      go_wp2_with fail
                      go_roundg (n - (i + 1))
                      case measure => omega
                      case rel => exact ⟨i + 1, Li, by omega, HX.out.1.alloc _, HX.out.2.1.ext ((Chg.refl wr).alloc _), HX.out.2.2.1, hLi, rfl, rfl, rfl⟩
                · have e1 := sneq hlab
                  rw [edgeE, if_neg (fun h => hlab h.1)] at hLi
                  clear hlab
                  go_wp2_with fail
                  go_roundg (n - (i + 1))
                  case measure => omega
                  case rel => exact ⟨i + 1, Li, by omega, HX.out.1.trans (HAl.out.mono fun _ _ h => h.elim), HX.out.2.1.ext HAl.out, HX.out.2.2.1, hLi, rfl, rfl, rfl⟩
              · obtain rfl : i = n := by omega
                rw [List.drop_of_length_le (by rw [HN.out]; exact Nat.le_refl _), edgesE] at hLi
                subst hLi
                clear hx hwi
                rw [hg]
                go_wp2_with fail
                go_ret
                exact ⟨rfl, HX.out.2.1, (HE3.out.mono fun _ _ h => h.elim).trans HX.out.1⟩
        exact AllReadyH.nil
      exact AllReadyH.nil
    exact AllReadyH.nil
end Go.Proofs.YtkhllknahjmciaaGreat
