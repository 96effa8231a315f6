/-
  WalkNone, walked.
-/
import Derived.Test.YtkhllknahjmciaaGreatM33
/-! WalkNone, walked. -/
namespace Go.Proofs.YtkhllknahjmciaaGreat
open Go.RowKit
set_option linter.unusedVariables false
set_option linter.unusedSimpArgs false

def NonePost (w : World) (e : Ending) (w' : World) : Prop := e = .returned (.bool true) ∧ Ext w w'
theorem someSelf (g : Gr) (t : Tr) (hm : MayG g) (hv : rcheck t = 0) (gcs tcs : List Value) (id : Int) (w : World) (hg : GrC w g gcs) (ht : TrC w t tcs) (has : Bool) (hh : (decide (0 ≤ placeN g.nodes id 0) && rnull t) = has) :
    Calls Tryz.prog 32 #[.agg gcs.toArray, .agg tcs.toArray, .int .i64 id, .int .i64 id, .slice none 0 0] w fun e w' => (∃ sa sc, e = .returned (.tuple #[.slice sa 0 sc, .int .i64 (if has = true then 0 else 15)])) ∧ Ext w w' := by
  refine (Some_any g t hm hv gcs tcs id id [] none 0 w hg ht (Cells.nil w)).mono ?_
  rintro e w' ⟨hx, h⟩
  refine ⟨?_, hx⟩
  rw [find_self hm (by simp) hv] at h
  cases has with
  | true =>
    simp only [Bool.and_eq_true, decide_eq_true_eq] at hh
    rw [if_pos hh] at h
    rcases h with ⟨h, -⟩ | ⟨l, v, h, rfl, ho⟩
    · cases h
    · cases h
      obtain ⟨sa, sc, rfl⟩ := own_slice ho
      exact ⟨sa, sc, rfl⟩
  | false =>
    rw [if_neg (fun hc => by simp [hc] at hh)] at h
    rcases h with ⟨-, rfl⟩ | ⟨l, v, h, -⟩
    · exact ⟨none, 0, rfl⟩
    · cases h
theorem someFar (g : Gr) (t : Tr) (hm : MayG g) (hv : rcheck t = 0) (gcs tcs : List Value) (id : Int) (w : World) (hg : GrC w g gcs) (ht : TrC w t tcs) (ta : Option Addr) (n tc : Nat) (hn : g.edges.length = n) (hts : Cells w ta n tc (tokC g.edges)) :
    Calls Tryz.prog 32 #[.agg gcs.toArray, .agg tcs.toArray, .int .i64 id, .int .i64 5000, .slice ta n tc] w fun e w' => e = .returned (.tuple #[.slice none 0 0, .int .i64 15]) ∧ Ext w w' := by
  subst hn
  have h1 : (g.edges.map fun e => e.tok).length = g.edges.length := List.length_map _
  have h2 := Some_any g t hm hv gcs tcs id 5000 (g.edges.map fun e => e.tok) ta tc w hg ht (by rw [h1, List.map_map]; exact hts)
  rw [h1] at h2
  refine h2.mono ?_
  rintro e w' ⟨hx, h⟩
  refine ⟨?_, hx⟩
  rw [find_far hm _ t id 5000 (by omega)] at h
  rcases h with ⟨-, rfl⟩ | ⟨l, v, h, -⟩
  · rfl
  · cases h
theorem bestZero (g : Gr) (t : Tr) (hm : MayG g) (hv : rcheck t = 0) (gcs tcs : List Value) (id : Int) (w : World) (hg : GrC w g gcs) (ht : TrC w t tcs) :
    Calls Tryz.prog 11 #[.agg gcs.toArray, .agg tcs.toArray, .int .i64 0, .int .i64 id, .int .i64 3, .slice none 0 0] w fun e w' => e = .returned (.tuple #[.slice none 0 0, .agg zeroV.toArray, .int .i64 15]) ∧ Ext w w' := by
  refine (Best_any 3 (.inr rfl) g t hm hv gcs tcs 0 id w hg ht).mono ?_
  rintro e w' ⟨hx, h⟩
  refine ⟨?_, hx⟩
  rw [find_zero hm] at h
  rcases h with ⟨-, rfl⟩ | ⟨l, v, cs, h, -⟩
  · rfl
  · cases h
set_option maxRecDepth 100000 in
set_option maxHeartbeats 1000000 in
theorem walkNone_any (g : Gr) (t : Tr) (id : Int) (w : World) (gcs tcs : List Value) (hg : GrC w g gcs) (ht : TrC w t tcs) :
    Calls Tryz.prog 6 #[.agg gcs.toArray, .agg tcs.toArray, .int .i64 id] w (NonePost w) := by
  have HAw := Lib.hid awake_any
  have HSm := Lib.hid (fun W (hW : Ext w W) => small_any g t W _ _ (hg.ext hW) (ht.ext hW))
  have HMy := Lib.hid (fun W (hW : Ext w W) => rMay_any g W _ (hg.ext hW))
  have HCk := Lib.hid (fun W (hW : Ext w W) => rcheck_any t W _ (ht.ext hW))
  have HGT := Lib.hid (And.intro hg ht)
  obtain ⟨na, nc, ea, ec, rfl, hns, hes⟩ := hg
  obtain ⟨k, l, a, n, cap, mn, mx, rfl⟩ := ht.form
  obtain ⟨W1, hW1⟩ : ∃ W1, (w.alloc (.cells #[.slice na g.nodes.length nc, .slice ea g.edges.length ec, .int .i64 g.next] 25)).alloc (.cells #[.int .i64 k, .string l, .slice a n cap, .int .i64 mn, .int .i64 mx] 28) = W1 := ⟨_, rfl⟩
  have hx1 : Ext w W1 := by rw [← hW1]; exact ((Chg.refl w).alloc _).alloc _
  have kG : Blk W1 w.heap.size #[.slice na g.nodes.length nc, .slice ea g.edges.length ec, .int .i64 g.next] 25 := by
    rw [← hW1]
    exact (Blk.new w _ _).chg ((Chg.refl (S := fun _ => False) _).alloc _) (fun h => h)
  have kP : Blk W1 (w.heap.size + 1) #[.int .i64 k, .string l, .slice a n cap, .int .i64 mn, .int .i64 mx] 28 := by
    rw [← hW1]
    have := Blk.new (w.alloc (.cells #[.slice na g.nodes.length nc, .slice ea g.edges.length ec, .int .i64 g.next] 25)) #[.int .i64 k, .string l, .slice a n cap, .int .i64 mn, .int .i64 mx] 28
    simpa using this
  have HF := Lib.hid (fun W (hW : Ext W1 W) => And.intro (kG.chg hW (fun h => h)) (kP.chg hW (fun h => h)))
  have HX1 := Lib.hid hx1
  have HW1 := Lib.hid hW1
  obtain ⟨m1, hm1⟩ : ∃ m1, g.nodes.length = m1 := ⟨_, rfl⟩
  obtain ⟨m2, hm2⟩ : ∃ m1, g.edges.length = m1 := ⟨_, rfl⟩
  have HM := Lib.hid (And.intro hm1 hm2)
  rw [hm1, hm2] at HF HSm HMy HGT HW1
  rw [hm1, hm2]
  clear hns hes ht kG kP hx1 hW1 hm1 hm2
  go_enter Tryz.func6, Tryz.ntmps6
  go_wp2_with fail
  rw [HW1.out]
  refine (HSm.out _ HX1.out).mono ?_
  rintro e w2 ⟨bs, hbs, rfl, hx2⟩
  obtain ⟨g0, -, g1, -, g2, -⟩ := blk3_base (HF.out _ hx2).1
  have HX2 := Lib.hid hx2
  cases bs with
  | false =>
    clear hx2 g0 g1 g2
    go_wp2_with fail
    refine (HAw.out _).mono ?_
    rintro e w3 ⟨rfl, hx3⟩
    go_wp2_with fail
    go_ret
    exact ⟨rfl, (HX1.out.trans HX2.out).trans hx3⟩
  | true =>
    have HSml := Lib.hid (hbs rfl)
    have HM2 := Lib.hid (HMy.out _ (HX1.out.trans hx2))
    obtain ⟨bm, hbm⟩ : ∃ b, mayG g = b := ⟨_, rfl⟩
    rw [hbm] at HM2
    have HBm := Lib.hid hbm
    clear hx2 hbs hbm
    go_wp2_with fail
    refine HM2.out.mono ?_
    rintro e w3 ⟨rfl, hx3⟩
    have hx13 := HX2.out.trans hx3
    clear g0 g1 g2
    obtain ⟨p0, -, p1, -, p2, -, p3, -, p4, -⟩ := blk5_base (HF.out _ hx13).2
    have HX3 := Lib.hid hx13
    cases bm with
    | false =>
      clear hx3 hx13 p0 p1 p2 p3 p4
      go_wp2_with fail
      refine (HAw.out _).mono ?_
      rintro e w4 ⟨rfl, hx4⟩
      go_wp2_with fail
      go_ret
      exact ⟨rfl, (HX1.out.trans HX3.out).trans hx4⟩
    | true =>
      have HC3 := Lib.hid (HCk.out _ (HX1.out.trans hx13))
      obtain ⟨rc, hrc⟩ : ∃ b, rcheck t = b := ⟨_, rfl⟩
      rw [hrc] at HC3
      have HRc := Lib.hid hrc
      clear hx3 hx13 hrc
      go_wp2_with fail
      refine HC3.out.mono ?_
      rintro e w4 ⟨rfl, hx4⟩
      have hx14 := HX3.out.trans hx4
      by_cases hz : rc = 0
      · subst hz
        have hm := mayG_spec HBm.out
        have hv := HRc.out
        obtain ⟨has, hhas⟩ : ∃ b, (decide (0 ≤ placeN g.nodes id 0) && rnull t) = b := ⟨_, rfl⟩
        have HS1 := Lib.hid (fun W (hW : Ext w W) => someSelf g t hm hv _ _ id W (HGT.out.1.ext hW) (HGT.out.2.ext hW) has hhas)
        have HS2 := Lib.hid (fun W ta tc (hW : Ext w W) (hc : Cells W ta m2 tc (tokC g.edges)) => someFar g t hm hv _ _ id W (HGT.out.1.ext hW) (HGT.out.2.ext hW) ta m2 tc HM.out.2 hc)
        have HB3 := Lib.hid (fun W (hW : Ext w W) => bestZero g t hm hv _ _ id W (HGT.out.1.ext hW) (HGT.out.2.ext hW))
        have HTk := Lib.hid (fun W (hW : Ext w W) => Tokens_any g W _ (HGT.out.1.ext hW) (by have := hm.elen; omega))
        rw [HM.out.2] at HTk
        have HNu := Lib.hid (fun W (hW : Ext w W) => Nullable_any t W _ (HGT.out.2.ext hW) hv)
        have HPl := Lib.hid (fun W (hW : Ext w W) => show Calls Tryz.prog 14 #[.agg #[.slice na m1 nc, .slice ea m2 ec, .int .i64 g.next], .int .i64 id] W (fun e w' => e = .returned (.int .i64 (placeN g.nodes id 0)) ∧ Ext W w') by
          obtain ⟨na', nc', ea', ec', he, hns', -⟩ := HGT.out.1.ext hW
          have h1 := (List.cons.inj he).1
          have h2 := lplace_any g.nodes id W na nc (.slice ea m2 ec) (.int .i64 g.next) (by cases h1; exact hns')
          rw [HM.out.1] at h2
          exact h2)
        obtain ⟨P, hP⟩ : ∃ P, placeN g.nodes id 0 = P := ⟨_, rfl⟩
        obtain ⟨R, hR⟩ : ∃ R, rnull t = R := ⟨_, rfl⟩
        rw [hP] at HPl hhas
        rw [hR] at HNu hhas
        have HH := Lib.hid hhas
        obtain ⟨er, her⟩ : ∃ er : Int, (if has = true then 0 else 15) = er := ⟨_, rfl⟩
        rw [her] at HS1
        have HEr := Lib.hid her
        obtain ⟨b0, -, b1, -, b2, -⟩ := blk3_base (HF.out _ hx14).1
        clear p0 p1 p2 p3 p4
        obtain ⟨p0, -, p1, -, p2, -, p3, -, p4, -⟩ := blk5_base (HF.out _ hx14).2
        have HX4 := Lib.hid hx14
        have HC4 := Lib.hid (HS1.out _ (HX1.out.trans hx14))
        clear hx4 hx14 hm hv hhas hP hR her
        go_wp2_with fail
        refine HC4.out.mono ?_
        rintro e w5 ⟨⟨sa, sc, rfl⟩, hx5⟩
        have hx15 := HX4.out.trans hx5
        have HX5 := Lib.hid hx15
        have HS8 := Lib.hid (fun W (hW : Ext w5 W) => let q := HF.out W (hx15.trans hW); let q3 := blk3_base q.1; let q5 := blk5_base q.2; And.intro q3.1 (And.intro q3.2.2.1 (And.intro q3.2.2.2.2.1 (And.intro q5.1 (And.intro q5.2.2.1 (And.intro q5.2.2.2.2.1 (And.intro q5.2.2.2.2.2.2.1 q5.2.2.2.2.2.2.2.2.1)))))))
        clear b0 b1 b2 p0 p1 p2 p3 p4 hx5 hx15
        go_wp2_with fail
        refine wp_region_held_drew (S := fun v => v.cell? ⟨w.heap.size, 0, none⟩ = some (.slice na m1 nc) ∧ v.cell? ⟨w.heap.size, 1, none⟩ = some (.slice ea m2 ec) ∧ v.cell? ⟨w.heap.size, 2, none⟩ = some (.int .i64 g.next) ∧ v.cell? ⟨w.heap.size + 1, 0, none⟩ = some (.int .i64 k) ∧ v.cell? ⟨w.heap.size + 1, 1, none⟩ = some (.string l) ∧ v.cell? ⟨w.heap.size + 1, 2, none⟩ = some (.slice a n cap) ∧ v.cell? ⟨w.heap.size + 1, 3, none⟩ = some (.int .i64 mn) ∧ v.cell? ⟨w.heap.size + 1, 4, none⟩ = some (.int .i64 mx)) (by kernel_rfl) (HS8.out _ (Chg.refl (S := fun _ => False) w5).drew) (fun hHeld => ?_)
        refine wpAnyH_take (i := 0) (v := .agg #[.slice na m1 nc, .slice ea m2 ec, .int .i64 g.next]) rfl (by kernel_rfl) (by kernel_rfl) (by kernel_rfl) (fun _ _ _ h => h) (Or.inl ⟨by rfl, ?_⟩) hHeld ?_
        · intro wS hSw
          obtain ⟨hs0, hs1, hs2, hs3, hs4, hs5, hs6, hs7⟩ := hSw
          go_simp
        simp only [Act.put, List.setIfInBounds_toArray, List.set_cons_zero, List.set_cons_succ]
        refine wpAnyH_take (i := 1) (v := .agg #[.int .i64 k, .string l, .slice a n cap, .int .i64 mn, .int .i64 mx]) rfl (by kernel_rfl) (by kernel_rfl) (by kernel_rfl) (fun _ _ _ h => h) (Or.inl ⟨by rfl, ?_⟩) hHeld ?_
        · intro wS hSw
          obtain ⟨hs0, hs1, hs2, hs3, hs4, hs5, hs6, hs7⟩ := hSw
          go_simp
        simp only [Act.put, List.setIfInBounds_toArray, List.set_cons_zero, List.set_cons_succ]
        refine wpAnyH_take (i := 2) (v := .int .i64 id) rfl (by kernel_rfl) (by kernel_rfl) (by kernel_rfl) (fun _ _ _ h => h) (Or.inl ⟨by rfl, ?_⟩) hHeld ?_
        · intro wS hSw
          obtain ⟨hs0, hs1, hs2, hs3, hs4, hs5, hs6, hs7⟩ := hSw
          go_simp
        simp only [Act.put, List.setIfInBounds_toArray, List.set_cons_zero, List.set_cons_succ]
        refine wpAnyH_take (i := 3) (v := .agg #[.slice na m1 nc, .slice ea m2 ec, .int .i64 g.next]) rfl (by kernel_rfl) (by kernel_rfl) (by kernel_rfl) (fun _ _ _ h => h) (Or.inl ⟨by rfl, ?_⟩) hHeld ?_
        · intro wS hSw
          obtain ⟨hs0, hs1, hs2, hs3, hs4, hs5, hs6, hs7⟩ := hSw
          go_simp
        simp only [Act.put, List.setIfInBounds_toArray, List.set_cons_zero, List.set_cons_succ]
        refine wpAnyH_ready (rs := [4]) (by kernel_rfl) (by simp) ?_
        refine AllReadyH.cons (i := 4) (rs := []) (by rfl) ?_ AllReadyH.nil
        intro K hK
        go_simp
        refine (HTk.out _ ((HX1.out.trans HX5.out).drew)).mono ?_
        rintro en w6 ⟨ta, tc, rfl, hc6, hx6⟩
        have hE6 := (Chg.refl (S := fun _ => False) w5).drew.trans hx6
        refine hK.out _ _ (HS8.out _ hE6) (fun hHeld => ?_)
        clear hK K
        refine wpAnyH_ready (rs := [5]) (by kernel_rfl) (by simp) ?_
        refine AllReadyH.cons (i := 5) (rs := []) (by rfl) ?_ AllReadyH.nil
        intro K hK
        go_simp
        refine (HS2.out _ ta tc ((HX1.out.trans HX5.out).trans hE6) hc6).mono ?_
        rintro en w7 ⟨rfl, hx7⟩
        have hE7 := hE6.trans hx7
        refine hK.out _ _ (HS8.out _ hE7) (fun hHeld => ?_)
        clear hK K
        refine wpAnyH_take (i := 6) (v := .tuple #[.slice none 0 0, .int .i64 15]) rfl (by kernel_rfl) (by kernel_rfl) (by kernel_rfl) (fun _ _ _ h => h) (Or.inl ⟨by rfl, ?_⟩) hHeld ?_
        · intro wS hSw
          obtain ⟨hs0, hs1, hs2, hs3, hs4, hs5, hs6, hs7⟩ := hSw
          go_simp
        simp only [Act.put, List.setIfInBounds_toArray, List.set_cons_zero, List.set_cons_succ]
        refine wpAnyH_take (i := 7) (v := .slice none 0 0) rfl (by kernel_rfl) (by kernel_rfl) (by kernel_rfl) (fun _ _ _ h => h) (Or.inl ⟨by rfl, ?_⟩) hHeld ?_
        · intro wS hSw
          obtain ⟨hs0, hs1, hs2, hs3, hs4, hs5, hs6, hs7⟩ := hSw
          go_simp
        simp only [Act.put, List.setIfInBounds_toArray, List.set_cons_zero, List.set_cons_succ]
        refine wpAnyH_take (i := 8) (v := .int .i64 15) rfl (by kernel_rfl) (by kernel_rfl) (by kernel_rfl) (fun _ _ _ h => h) (Or.inl ⟨by rfl, ?_⟩) hHeld ?_
        · intro wS hSw
          obtain ⟨hs0, hs1, hs2, hs3, hs4, hs5, hs6, hs7⟩ := hSw
          go_simp
        simp only [Act.put, List.setIfInBounds_toArray, List.set_cons_zero, List.set_cons_succ]
        refine wpAnyH_ready (rs := [9]) (by kernel_rfl) (by simp) ?_
        refine AllReadyH.cons (i := 9) (rs := []) (by rfl) ?_ AllReadyH.nil
        intro K hK
        go_simp
        refine hK.out _ _ hHeld (fun hHeld => ?_)
        clear hK K
        refine wpAnyH_ready (rs := [10]) (by kernel_rfl) (by simp) ?_
        refine AllReadyH.cons (i := 10) (rs := []) (by rfl) ?_ AllReadyH.nil
        intro K hK
        go_simp
        refine hK.out _ _ hHeld (fun hHeld => ?_)
        clear hK K hHeld
        refine wpAnyH_done (by kernel_rfl) ?_ _
        obtain ⟨b0, b1, b2, p0, p1, p2, p3, p4⟩ := HS8.out _ hE7
        have HX7 := Lib.hid (HX5.out.trans hE7)
        have HB7 := Lib.hid (HB3.out _ (HX1.out.trans (HX5.out.trans hE7)))
        clear hE7 hx7 hE6 hx6 hc6 HS8
        go_wp2_with fail
        refine HB7.out.mono ?_
        rintro e w8 ⟨rfl, hx8⟩
        unfold zeroV
        have hx9 := (HX7.out.trans hx8).alloc (.cells #[.int .i64 0, .bool false, .slice none 0 0, .int .i64 0, .float .f64 0] 38)
        clear b0 b1 b2 p0 p1 p2 p3 p4
        obtain ⟨b0, -, b1, -, b2, -⟩ := blk3_base (HF.out _ hx9).1
        have HX9 := Lib.hid hx9
        have HP9 := Lib.hid (HPl.out _ (HX1.out.trans hx9))
        have hsf := run_store_f
        clear hx8 hx9
        go_wp2_with fail
        refine HP9.out.mono ?_
        rintro e w10 ⟨rfl, hx10⟩
        have hx110 := HX9.out.trans hx10
        clear b0 b1 b2
        obtain ⟨p0, -, p1, -, p2, -, p3, -, p4, -⟩ := blk5_base (HF.out _ hx110).2
        have HX10 := Lib.hid hx110
        have hh := HH.out
        have her := HEr.out
        by_cases hp : 0 ≤ P
        · have e1 : decide (0 ≤ P) = true := decide_eq_true hp
          rw [e1, Bool.true_and] at hh
          subst hh
          have HN10 := Lib.hid (HNu.out _ (HX1.out.trans hx110))
          clear hx10 hx110 hp
          go_wp2_with fail
          refine HN10.out.mono ?_
          rintro e w11 ⟨rfl, hx11⟩
          have HX11 := Lib.hid (HX10.out.trans hx11)
          clear hx11 p0 p1 p2 p3 p4
          cases R with
          | true =>
            obtain rfl : er = 0 := by rw [← her]; rfl
            clear her
            go_wp2_with fail
            refine (HAw.out _).mono ?_
            rintro e wz ⟨rfl, hz⟩
            go_wp2_with fail
            go_ret
            exact ⟨rfl, (HX1.out.trans (HX11.out)).trans hz⟩
          | false =>
            obtain rfl : er = 15 := by rw [← her]; rfl
            clear her
            go_wp2_with fail
            refine (HAw.out _).mono ?_
            rintro e wz ⟨rfl, hz⟩
            go_wp2_with fail
            go_ret
            exact ⟨rfl, (HX1.out.trans (HX11.out)).trans hz⟩
        · have e1 : decide (0 ≤ P) = false := decide_eq_false hp
          rw [e1, Bool.false_and] at hh
          subst hh
          obtain rfl : er = 15 := by rw [← her]; rfl
          clear hx10 hx110 hp p0 p1 p2 p3 p4
          clear her
          go_wp2_with fail
          refine (HAw.out _).mono ?_
          rintro e wz ⟨rfl, hz⟩
          go_wp2_with fail
          go_ret
          exact ⟨rfl, (HX1.out.trans (HX10.out)).trans hz⟩
      · have ez : (rc != 0) = true := by simpa using hz
        have HX4 := Lib.hid hx14
        clear hx4 hx14 hz p0 p1 p2 p3 p4
        go_wp2_with fail
        refine (HAw.out _).mono ?_
        rintro e w5 ⟨rfl, hx5⟩
        go_wp2_with fail
        go_ret
        exact ⟨rfl, (HX1.out.trans HX4.out).trans hx5⟩
end Go.Proofs.YtkhllknahjmciaaGreat
