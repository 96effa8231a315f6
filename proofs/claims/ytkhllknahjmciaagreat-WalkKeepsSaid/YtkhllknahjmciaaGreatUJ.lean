/-
  WalkKeeps, walked.
-/
import Derived.Test.YtkhllknahjmciaaGreatUI
namespace Go.Proofs.YtkhllknahjmciaaGreat
open Go.RowKit
set_option linter.unusedVariables false
set_option linter.unusedSimpArgs false

set_option maxRecDepth 100000 in
set_option maxHeartbeats 1000000 in
theorem walkKeeps_any (g : Gr) (t : Tr) (fr tn : Int) (w : World) (gcs tcs : List Value) (hg : GrC w g gcs) (ht : TrC w t tcs) :
    Calls Tryz.prog 7 #[.agg gcs.toArray, .agg tcs.toArray, .int .i64 fr, .int .i64 tn] w (NonePost w) := by
  have HAw := Lib.hid awake_any
  have HSm := Lib.hid (fun W (hW : Ext w W) => small_any g t W _ _ (hg.ext hW) (ht.ext hW))
  have HMy := Lib.hid (fun W (hW : Ext w W) => rMay_any g W _ (hg.ext hW))
  have HCk := Lib.hid (fun W (hW : Ext w W) => rcheck_any t W _ (ht.ext hW))
  have HGT := Lib.hid (And.intro hg ht)
  obtain ⟨na, nc, ea, ec, rfl, hns, hes⟩ := hg
  obtain ⟨k, l, a, n, cap, mn, mx, rfl⟩ := ht.form
  obtain ⟨W1, hW1⟩ : ∃ W1, (w.alloc (.cells #[.slice na g.nodes.length nc, .slice ea g.edges.length ec, .int .i64 g.next] 25)).alloc (.cells #[.int .i64 k, .string l, .slice a n cap, .int .i64 mn, .int .i64 mx] 28) = W1 := ⟨_, rfl⟩
  have hx1 : Ext w W1 := by rw [← hW1]; exact ((Chg.refl w).alloc _).alloc _
  have kG : Blk W1 w.heap.size #[.slice na g.nodes.length nc, .slice ea g.edges.length ec, .int .i64 g.next] 25 := by
    rw [← hW1]
    exact (Blk.new w _ _).chg ((Chg.refl (S := fun _ => False) _).alloc _) (fun h => h)
  have kP : Blk W1 (w.heap.size + 1) #[.int .i64 k, .string l, .slice a n cap, .int .i64 mn, .int .i64 mx] 28 := by
    rw [← hW1]
    have := Blk.new (w.alloc (.cells #[.slice na g.nodes.length nc, .slice ea g.edges.length ec, .int .i64 g.next] 25)) #[.int .i64 k, .string l, .slice a n cap, .int .i64 mn, .int .i64 mx] 28
    simpa using this
  have HF := Lib.hid (fun W (hW : Ext W1 W) => And.intro (kG.chg hW (fun h => h)) (kP.chg hW (fun h => h)))
  have HX1 := Lib.hid hx1
  have HW1 := Lib.hid hW1
  obtain ⟨m1, hm1⟩ : ∃ m1, g.nodes.length = m1 := ⟨_, rfl⟩
  obtain ⟨m2, hm2⟩ : ∃ m1, g.edges.length = m1 := ⟨_, rfl⟩
  have HM := Lib.hid (And.intro hm1 hm2)
  rw [hm1, hm2] at HF HSm HMy HGT HW1
  rw [hm1, hm2]
  clear hns hes ht kG kP hx1 hW1 hm1 hm2
  go_enter Tryz.func7, Tryz.ntmps7
  go_wp2_with fail
  rw [HW1.out]
  refine (HSm.out _ HX1.out).mono ?_
  rintro e w2 ⟨bs, hbs, rfl, hx2⟩
  obtain ⟨g0, -, g1, -, g2, -⟩ := blk3_base (HF.out _ hx2).1
  have HX2 := Lib.hid hx2
  cases bs with
  | false =>
    clear hx2 g0 g1 g2
    go_wp2_with fail
    refine (HAw.out _).mono ?_
    rintro e w3 ⟨rfl, hx3⟩
    go_wp2_with fail
    go_ret
    exact ⟨rfl, (HX1.out.trans HX2.out).trans hx3⟩
  | true =>
    have HSml := Lib.hid (hbs rfl)
    have HM2 := Lib.hid (HMy.out _ (HX1.out.trans hx2))
    obtain ⟨bm, hbm⟩ : ∃ b, mayG g = b := ⟨_, rfl⟩
    rw [hbm] at HM2
    have HBm := Lib.hid hbm
    clear hx2 hbs hbm
    go_wp2_with fail
    refine HM2.out.mono ?_
    rintro e w3 ⟨rfl, hx3⟩
    have hx13 := HX2.out.trans hx3
    clear g0 g1 g2
    obtain ⟨p0, -, p1, -, p2, -, p3, -, p4, -⟩ := blk5_base (HF.out _ hx13).2
    have HX3 := Lib.hid hx13
    cases bm with
    | false =>
      clear hx3 hx13 p0 p1 p2 p3 p4
      go_wp2_with fail
      refine (HAw.out _).mono ?_
      rintro e w4 ⟨rfl, hx4⟩
      go_wp2_with fail
      go_ret
      exact ⟨rfl, (HX1.out.trans HX3.out).trans hx4⟩
    | true =>
      have HC3 := Lib.hid (HCk.out _ (HX1.out.trans hx13))
      obtain ⟨rc, hrc⟩ : ∃ b, rcheck t = b := ⟨_, rfl⟩
      rw [hrc] at HC3
      have HRc := Lib.hid hrc
      clear hx3 hx13 hrc
      go_wp2_with fail
      refine HC3.out.mono ?_
      rintro e w4 ⟨rfl, hx4⟩
      have hx14 := HX3.out.trans hx4
      by_cases hz : rc = 0
      · subst hz
        have hm := mayG_spec HBm.out
        have hv := HRc.out
        obtain ⟨L, hL⟩ : ∃ L, (findE (fun _ => true) g t fr tn).getD [] = L := ⟨_, rfl⟩
        obtain ⟨S, hS⟩ : ∃ S : Int, (if (findE (fun _ => true) g t fr tn).isSome = true then 3 else 0) = S := ⟨_, rfl⟩
        obtain ⟨E, hE⟩ : ∃ E : Int, (if (findE (fun _ => true) g t fr tn).isSome = true then 0 else 15) = E := ⟨_, rfl⟩
        have HWi := Lib.hid (fun W (hW : Ext w W) => without0 g W _ (HGT.out.1.ext hW) (by have := hm.elen; omega))
        have HBe := Lib.hid (fun W (hW : Ext w W) => best3 g t hm hv _ _ fr tn W (HGT.out.1.ext hW) (HGT.out.2.ext hW) L S E hL hS hE)
        have HSa := Lib.hid (fun W c1 (hW : Ext w W) (h1 : GrC W g c1) => rSame_any g W _ c1 (HGT.out.1.ext hW) h1)
        have HEd := Lib.hid (fun W tok (hW : Ext w W) (h1 : (g.edges.any fun e => decide (e.tok = tok)) = true) => rEdge_any g tok W _ (HGT.out.1.ext hW) h1)
        have HTo := Lib.hid (best3_toks hm t fr tn L hL)
        have HFi := Lib.hid (fun a b c d W => fields0 S 0 false a b c d W)
        obtain ⟨n3, hn3⟩ : ∃ n3, L.length = n3 := ⟨_, rfl⟩
        rw [hn3] at HBe
        have HL := Lib.hid hn3
        obtain ⟨b0, -, b1, -, b2, -⟩ := blk3_base (HF.out _ hx14).1
        have HX4 := Lib.hid hx14
        have HC4 := Lib.hid (HWi.out _ (HX1.out.trans hx14))
        clear hx4 hx14 hm hv p0 p1 p2 p3 p4 hL hS hE hn3
        go_wp2_with fail
        refine HC4.out.mono ?_
        rintro e w5 ⟨ycs, rfl, hy, hx5⟩
        have hy' := hy
        obtain ⟨nb, nbc, eb, ebc, rfl, -, -⟩ := hy'
        rw [HM.out.1, HM.out.2] at hy
        rw [HM.out.1, HM.out.2]
        have hx15 := HX4.out.trans hx5
        have hx16 := hx15.alloc (.cells #[.slice nb m1 nbc, .slice eb m2 ebc, .int .i64 g.next] 25)
        have hx56 := (Chg.refl (S := fun _ => False) w5).alloc (.cells #[.slice nb m1 nbc, .slice eb m2 ebc, .int .i64 g.next] 25)
        have k9 := Blk.new w5 #[.slice nb m1 nbc, .slice eb m2 ebc, .int .i64 g.next] 25
        clear b0 b1 b2
        obtain ⟨b0, -, b1, -, b2, -⟩ := blk3_base (HF.out _ hx16).1
        obtain ⟨p0, -, p1, -, p2, -, p3, -, p4, -⟩ := blk5_base (HF.out _ hx16).2
        have HB6 := Lib.hid (HBe.out _ (HX1.out.trans hx16))
        have HY := Lib.hid (And.intro hy (And.intro k9 (And.intro hx16 hx56)))
        have hszs := k9.lt
        have hsz1 := hx15.size
        have hsz2 := hx56.size
        clear hx5 hx15 hx16 hx56 k9 hy
        go_wp2_with fail
        refine HB6.out.mono ?_
        rintro e w7 ⟨⟨v1, ca1, cc1, rfl, ho1⟩, hx7⟩
        obtain ⟨ra, rc1, rfl⟩ := own_slice ho1
        unfold V5
        have hsf := run_store_f
        obtain ⟨W6, hW6⟩ : ∃ W6, w5.alloc (.cells #[.slice nb m1 nbc, .slice eb m2 ebc, .int .i64 g.next] 25) = W6 := ⟨_, rfl⟩
        rw [hW6] at HY ho1 hx7 hsz2 hszs
        obtain ⟨W8, hW8⟩ : ∃ W8, w7.alloc (.cells #[.int .i64 S, .bool false, .slice ca1 0 cc1, .int .i64 0, .float .f64 0] 38) = W8 := ⟨_, rfl⟩
        have hx78 : Ext w7 W8 := by rw [← hW8]; exact (Chg.refl w7).alloc _
        have k11 : Blk W8 w7.heap.size #[.int .i64 S, .bool false, .slice ca1 0 cc1, .int .i64 0, .float .f64 0] 38 := by rw [← hW8]; exact Blk.new w7 _ _
        have hbl := fun b => own_block_lt ho1 b
        have HR := Lib.hid (And.intro (own_low ho1 hx78 (fun _ _ h => h)) (And.intro hbl (And.intro k11 (hx7.trans hx78))))
        have HW8 := Lib.hid hW8
        have hszw := hx7.size
        have hsz8 := hx78.size
        clear ho1 hx7 hx78 k11 hbl hW6 hW8 b0 b1 b2 p0 p1 p2 p3 p4
        go_wp2_with fail
        rw [HW8.out]
        go_loopg [14] n3 (fun g' l14 wr => ∃ (i : Nat) (xs : List Value), i ≤ n3 ∧ wr.ownsRow W6.heap.size 67 2 (.slice ra n3 rc1) n3 xs ∧ Chg (fun b => (Value.slice ra n3 rc1).ownBlock = some b) W8 wr ∧ l14 = .int .i64 i ∧ g' = n3 - i)
        case atStart => exact ⟨0, _, Nat.zero_le _, HR.out.1, Chg.refl _, rfl, rfl⟩
        case round =>
          obtain ⟨w9, rfl⟩ : ∃ x, x = wr := ⟨_, rfl⟩
          obtain ⟨i, xs, hi, ho, hc, rfl, rfl⟩ := hrel
          by_cases hin : i < n3
          · have hin' : (i : Int) < n3 := by omega
            obtain ⟨gb, cap1, e1, -⟩ := own_form ho (by omega)
            cases e1
            obtain ⟨⟨u0, q0⟩, f0⟩ := own_there ho (i * 2) (by omega)
            have hcap := ho
            have HO := Lib.hid (And.intro (own_set ho (i * 2) (.int .i64 (-1))) (set_row (q := i * 2) (u := .int .i64 (-1)) hc))
            have hcc := (Cells.of_own ho).1
            have hcm := (Cells.of_own ho).2.1
            unfold maxLen at hcm
            clear ho hc hcap
            go_wp2_with fail
            go_roundg (n3 - (i + 1))
            case measure => omega
            case rel => exact ⟨i + 1, _, by omega, HO.out.1, HO.out.2, rfl, rfl⟩
          · obtain rfl : n3 = i := by omega
            have hxr := Ext.own (HY.out.2.2.1.trans HR.out.2.2.2) HR.out.1 (by have := HY.out.2.2.1.size; omega) hc
            have hx5r := Ext.own (HY.out.2.2.2.trans HR.out.2.2.2) HR.out.1 (by omega) hc
            have k9r := Blk.own (HY.out.2.1.chg HR.out.2.2.2 (fun h => h)) HR.out.1 (by omega) hc
            have k11r := HR.out.2.2.1.chg hc (fun h => by have := (HR.out.2.1 _ h).2; omega)
            obtain ⟨b0, -, b1, -, b2, -⟩ := blk3_base (HF.out _ hxr).1
            obtain ⟨p0, -, p1, -, p2, -, p3, -, p4, -⟩ := blk5_base (HF.out _ hxr).2
            have HB9 := Lib.hid (HBe.out _ (HX1.out.trans hxr))
            have H9 := Lib.hid (And.intro hxr (And.intro hx5r (And.intro k9r k11r)))
            clear hxr hx5r k9r k11r ho hc
            go_wp2_with fail
            refine HB9.out.mono ?_
            rintro e w10 ⟨⟨v2, ca2, cc2, rfl, ho2⟩, hx10⟩
            obtain ⟨rb, rc2, rfl⟩ := own_slice ho2
            unfold V5
            have hx1011 : Ext w10 (w10.alloc (.cells #[.int .i64 S, .bool false, .slice ca2 0 cc2, .int .i64 0, .float .f64 0] 38)) := (Chg.refl w10).alloc _
            have hxx := hx10.trans hx1011
            obtain ⟨v0, -, v1, -, v2, -, v3, -, v4, -⟩ := blk5_base (H9.out.2.2.2.chg hxx (fun h => h))
            have HC11 := Lib.hid (HFi.out ca1 ca2 cc1 cc2 (w10.alloc (.cells #[.int .i64 S, .bool false, .slice ca2 0 cc2, .int .i64 0, .float .f64 0] 38)))
            unfold V5 at HC11
            have H11 := Lib.hid (And.intro hxx (own_low ho2 hx1011 (fun _ _ h => h)))
            clear hx10 hx1011 hxx ho2 b0 b1 b2 p0 p1 p2 p3 p4
            go_wp2_with fail
            refine HC11.out.mono ?_
            rintro e w12 ⟨rfl, hx12⟩
            have hxr := H11.out.1.trans hx12
            obtain ⟨b0, -, b1, -, b2, -⟩ := blk3_base (HF.out _ (H9.out.1.trans hxr)).1
            obtain ⟨y0, -, y1, -, y2, -⟩ := blk3_base (H9.out.2.2.1.chg hxr (fun h => h))
            have HC12 := Lib.hid (HSa.out _ _ (HX1.out.trans (H9.out.1.trans hxr)) (HY.out.1.ext (H9.out.2.1.trans hxr)))
            have H12 := Lib.hid (And.intro hxr (own_low H11.out.2 hx12 (fun _ _ h => h)))
            clear hx12 hxr v0 v1 v2 v3 v4
            go_wp2_with fail
            refine HC12.out.mono ?_
            rintro e w13 ⟨rfl, hx13⟩
            have H13 := Lib.hid (And.intro (H9.out.1.trans (H12.out.1.trans hx13)) (own_low H12.out.2 hx13 (fun _ _ h => h)))
            clear hx13 b0 b1 b2 y0 y1 y2
            go_wp2_with fail
            go_loopg [18] n3 (fun g' l18 wr => ∃ (i : Nat), i ≤ n3 ∧ Ext w13 wr ∧ l18 = .int .i64 i ∧ g' = n3 - i)
            case atStart => exact ⟨0, Nat.zero_le _, Chg.refl _, rfl, rfl⟩
            case round =>
              obtain ⟨w14, rfl⟩ : ∃ x, x = wr := ⟨_, rfl⟩
              obtain ⟨i, hi, hx, rfl, rfl⟩ := hrel
              by_cases hin : i < n3
              · have hin' : (i : Int) < n3 := by omega
                have ho := own_low H13.out.2 hx (fun _ _ h => h)
                obtain ⟨gb, cap1, e1, hcl⟩ := own_form ho (by omega)
                cases e1
                obtain ⟨x, hxi⟩ : ∃ x, L.reverse[i]? = some x := ⟨_, List.getElem?_eq_getElem (by rw [List.length_reverse, HL.out]; exact hin)⟩
                have hq0 := hcl _ _ (stepC_at hxi).1
                have hcc := (Cells.of_own ho).1
                have hcm := (Cells.of_own ho).2.1
                unfold maxLen at hcm
                have hap : ((⟨gb, 0, none⟩ : Addr).add (i * 2)) = ⟨gb, i * 2, none⟩ := by
                  by_cases h0 : i * 2 = 0 <;> simp [Addr.add, h0]
                rw [hap] at hq0
                have hgl := lt_of_cell hq0
                have HTx := Lib.hid (HTo.out x (List.mem_reverse.1 (List.mem_of_getElem? hxi)))
                obtain ⟨tok, htok⟩ : ∃ tok, x.1 = tok := ⟨_, rfl⟩
                rw [htok] at hq0 HTx
                have HS4 := Lib.hid (fun W (hW : Ext w14 W) => let q3 := blk3_base (HF.out W (H13.out.1.trans (hx.trans hW))).1; And.intro q3.1 (And.intro q3.2.2.1 (And.intro q3.2.2.2.2.1 ((hW.cell hgl (fun h => h)).trans hq0))))
                have HX14 := Lib.hid hx
                clear ho hcl hq0 hxi hap hgl htok hx
                go_wp2_with fail
                refine wp_region_held_drew (S := fun v => v.cell? ⟨w.heap.size, 0, none⟩ = some (.slice na m1 nc) ∧ v.cell? ⟨w.heap.size, 1, none⟩ = some (.slice ea m2 ec) ∧ v.cell? ⟨w.heap.size, 2, none⟩ = some (.int .i64 g.next) ∧ v.cell? ⟨gb, i * 2, none⟩ = some (.int .i64 tok)) (by kernel_rfl) (HS4.out _ (Chg.refl (S := fun _ => False) w14).drew) (fun hHeld => ?_)
                refine wpAnyH_take (i := 0) (v := .agg #[.slice na m1 nc, .slice ea m2 ec, .int .i64 g.next]) rfl (by kernel_rfl) (by kernel_rfl) (by kernel_rfl) (fun _ _ _ h => h) (Or.inl ⟨by rfl, ?_⟩) hHeld ?_
                · intro wS hSw
                  obtain ⟨hs0, hs1, hs2, hs3⟩ := hSw
                  go_simp
                simp only [Act.put, List.setIfInBounds_toArray, List.set_cons_zero, List.set_cons_succ]
                refine wpAnyH_take (i := 1) (v := .slice (some ⟨gb, 0, none⟩) n3 rc2) rfl (by kernel_rfl) (by kernel_rfl) (by kernel_rfl) (fun _ _ _ h => h) (Or.inl ⟨by rfl, ?_⟩) hHeld ?_
                · intro wS hSw
                  obtain ⟨hs0, hs1, hs2, hs3⟩ := hSw
                  go_simp
                simp only [Act.put, List.setIfInBounds_toArray, List.set_cons_zero, List.set_cons_succ]
                refine wpAnyH_take (i := 2) (v := .int .i64 i) rfl (by kernel_rfl) (by kernel_rfl) (by kernel_rfl) (fun _ _ _ h => h) (Or.inl ⟨by rfl, ?_⟩) hHeld ?_
                · intro wS hSw
                  obtain ⟨hs0, hs1, hs2, hs3⟩ := hSw
                  go_simp
                simp only [Act.put, List.setIfInBounds_toArray, List.set_cons_zero, List.set_cons_succ]
                refine wpAnyH_take (i := 3) (v := .pointer (some ⟨gb, i * 2, none⟩)) rfl (by kernel_rfl) (by kernel_rfl) (by kernel_rfl) (fun _ _ _ h => h) (Or.inl ⟨by rfl, ?_⟩) hHeld ?_
                · intro wS hSw
                  obtain ⟨hs0, hs1, hs2, hs3⟩ := hSw
                  go_simp
                simp only [Act.put, List.setIfInBounds_toArray, List.set_cons_zero, List.set_cons_succ]
                refine wpAnyH_take (i := 4) (v := .pointer (some ⟨gb, i * 2, none⟩)) rfl (by kernel_rfl) (by kernel_rfl) (by kernel_rfl) (fun _ _ _ h => h) (Or.inl ⟨by rfl, ?_⟩) hHeld ?_
                · intro wS hSw
                  obtain ⟨hs0, hs1, hs2, hs3⟩ := hSw
                  go_simp
                simp only [Act.put, List.setIfInBounds_toArray, List.set_cons_zero, List.set_cons_succ]
                refine wpAnyH_take (i := 5) (v := .int .i64 tok) rfl (by kernel_rfl) (by kernel_rfl) (by kernel_rfl) (fun _ _ _ h => h) (Or.inl ⟨by rfl, ?_⟩) hHeld ?_
                · intro wS hSw
                  obtain ⟨hs0, hs1, hs2, hs3⟩ := hSw
                  go_simp
                simp only [Act.put, List.setIfInBounds_toArray, List.set_cons_zero, List.set_cons_succ]
                refine wpAnyH_ready (rs := [6, 10]) (by kernel_rfl) (by simp) ?_
                refine AllReadyH.cons (i := 6) (rs := [10]) (by rfl) ?_ (AllReadyH.cons (i := 10) (rs := []) (by rfl) ?_ AllReadyH.nil)
                · intro K hK
                  go_simp
                  refine (HEd.out _ tok (HX1.out.trans (H13.out.1.trans (HX14.out.trans (Chg.refl (S := fun _ => False) w14).drew))) HTx.out).mono ?_
                  rintro en w20 ⟨⟨q, rfl⟩, hx20⟩
                  have hE20 := (Chg.refl (S := fun _ => False) w14).drew.trans hx20
                  refine hK.out _ _ (HS4.out _ hE20) (fun hHeld => ?_)
                  clear hK K
                  refine wpAnyH_take (i := 7) (v := .tuple #[.agg #[.int .i64 q.tok, .int .i64 q.fr, .string q.lab, .int .i64 q.to], .bool true]) rfl (by kernel_rfl) (by kernel_rfl) (by kernel_rfl) (fun _ _ _ h => h) (Or.inl ⟨by rfl, ?_⟩) hHeld ?_
                  · intro wS hSw
                    obtain ⟨hs0, hs1, hs2, hs3⟩ := hSw
                    go_simp
                  simp only [Act.put, List.setIfInBounds_toArray, List.set_cons_zero, List.set_cons_succ]
                  refine wpAnyH_take (i := 8) (v := .agg #[.int .i64 q.tok, .int .i64 q.fr, .string q.lab, .int .i64 q.to]) rfl (by kernel_rfl) (by kernel_rfl) (by kernel_rfl) (fun _ _ _ h => h) (Or.inl ⟨by rfl, ?_⟩) hHeld ?_
                  · intro wS hSw
                    obtain ⟨hs0, hs1, hs2, hs3⟩ := hSw
                    go_simp
                  simp only [Act.put, List.setIfInBounds_toArray, List.set_cons_zero, List.set_cons_succ]
                  refine wpAnyH_take (i := 9) (v := .bool true) rfl (by kernel_rfl) (by kernel_rfl) (by kernel_rfl) (fun _ _ _ h => h) (Or.inl ⟨by rfl, ?_⟩) hHeld ?_
                  · intro wS hSw
                    obtain ⟨hs0, hs1, hs2, hs3⟩ := hSw
                    go_simp
                  simp only [Act.put, List.setIfInBounds_toArray, List.set_cons_zero, List.set_cons_succ]
                  refine wpAnyH_ready (rs := [10]) (by kernel_rfl) (by simp) ?_
                  refine AllReadyH.cons (i := 10) (rs := []) (by rfl) ?_ AllReadyH.nil
                  intro K hK
                  go_simp
                  refine hK.out _ _ (HS4.out _ (hE20.alloc _)) (fun hHeld => ?_)
                  clear hK K
                  have HE21 := Lib.hid (hE20.alloc (.cells #[.int .i64 q.tok, .int .i64 q.fr, .string q.lab, .int .i64 q.to] 72))
                  clear hE20 hx20
                  refine wpAnyH_ready (rs := [11]) (by kernel_rfl) (by simp) ?_
                  refine AllReadyH.cons (i := 11) (rs := []) (by rfl) ?_ AllReadyH.nil
                  intro K hK
                  go_simp
                  refine hK.out _ _ (HS4.out _ HE21.out) (fun hHeld => ?_)
                  clear hK K
                  try simp only [Act.put, List.setIfInBounds_toArray, List.set_cons_zero, List.set_cons_succ]
                  refine wpAnyH_ready (rs := [12]) (by kernel_rfl) (by simp) ?_
                  refine AllReadyH.cons (i := 12) (rs := []) (by rfl) ?_ AllReadyH.nil
                  intro K hK
                  go_simp
                  refine hK.out _ _ hHeld (fun hHeld => ?_)
                  clear hK K hHeld
                  refine wpAnyH_done (by kernel_rfl) ?_ _
                  go_wp2_with fail
                  go_roundg (n3 - (i + 1))
                  case measure => omega
                  case rel => exact ⟨i + 1, by omega, HX14.out.trans HE21.out, rfl, rfl⟩
                · intro K hK
                  go_simp
                  have hEa := ((Chg.refl (S := fun _ => False) w14).drew).alloc (.cells #[.int .i64 0, .int .i64 0, .string ⟨#[]⟩, .int .i64 0] 72)
                  have kE : Blk (w14.drew.alloc (.cells #[.int .i64 0, .int .i64 0, .string ⟨#[]⟩, .int .i64 0] 72)) w14.heap.size #[.int .i64 0, .int .i64 0, .string ⟨#[]⟩, .int .i64 0] 72 := Blk.new w14.drew #[.int .i64 0, .int .i64 0, .string ⟨#[]⟩, .int .i64 0] 72
                  have HEa := Lib.hid (And.intro hEa kE)
                  refine hK.out _ _ (HS4.out _ hEa) (fun hHeld => ?_)
                  clear hK K hEa kE
                  refine wpAnyH_ready (rs := [6]) (by kernel_rfl) (by simp) ?_
                  refine AllReadyH.cons (i := 6) (rs := []) (by rfl) ?_ AllReadyH.nil
                  intro K hK
                  go_simp
                  refine (HEd.out _ tok (HX1.out.trans (H13.out.1.trans (HX14.out.trans HEa.out.1))) HTx.out).mono ?_
                  rintro en w20 ⟨⟨q, rfl⟩, hx20⟩
                  have hE20 := HEa.out.1.trans hx20
                  have kE := HEa.out.2.chg hx20 (fun h => h)
                  refine hK.out _ _ (HS4.out _ hE20) (fun hHeld => ?_)
                  clear hK K
                  refine wpAnyH_take (i := 7) (v := .tuple #[.agg #[.int .i64 q.tok, .int .i64 q.fr, .string q.lab, .int .i64 q.to], .bool true]) rfl (by kernel_rfl) (by kernel_rfl) (by kernel_rfl) (fun _ _ _ h => h) (Or.inl ⟨by rfl, ?_⟩) hHeld ?_
                  · intro wS hSw
                    obtain ⟨hs0, hs1, hs2, hs3⟩ := hSw
                    go_simp
                  simp only [Act.put, List.setIfInBounds_toArray, List.set_cons_zero, List.set_cons_succ]
                  refine wpAnyH_take (i := 8) (v := .agg #[.int .i64 q.tok, .int .i64 q.fr, .string q.lab, .int .i64 q.to]) rfl (by kernel_rfl) (by kernel_rfl) (by kernel_rfl) (fun _ _ _ h => h) (Or.inl ⟨by rfl, ?_⟩) hHeld ?_
                  · intro wS hSw
                    obtain ⟨hs0, hs1, hs2, hs3⟩ := hSw
                    go_simp
                  simp only [Act.put, List.setIfInBounds_toArray, List.set_cons_zero, List.set_cons_succ]
                  refine wpAnyH_take (i := 9) (v := .bool true) rfl (by kernel_rfl) (by kernel_rfl) (by kernel_rfl) (fun _ _ _ h => h) (Or.inl ⟨by rfl, ?_⟩) hHeld ?_
                  · intro wS hSw
                    obtain ⟨hs0, hs1, hs2, hs3⟩ := hSw
                    go_simp
                  simp only [Act.put, List.setIfInBounds_toArray, List.set_cons_zero, List.set_cons_succ]
                  obtain ⟨g0, f0, g1, f1, g2, f2, g3, f3⟩ := blk4_base kE
                  obtain ⟨r4, s4, q0, q1, q2, q3⟩ := blk4_facts kE (.int .i64 q.tok) (.int .i64 q.fr) (.string q.lab) (.int .i64 q.to)
                  have HE21 := Lib.hid (Ext.put hE20 (set_chg (p := w14.heap.size) (j := 3) (c := .int .i64 q.to) (set_chg (p := w14.heap.size) (j := 2) (c := .string q.lab) (set_chg (p := w14.heap.size) (j := 1) (c := .int .i64 q.fr) (set_chg (p := w14.heap.size) (j := 0) (c := .int .i64 q.tok) (Chg.refl _))))) (Nat.le_refl _))
                  clear hE20 hx20 kE
                  refine wpAnyH_ready (rs := [11]) (by kernel_rfl) (by simp) ?_
                  refine AllReadyH.cons (i := 11) (rs := []) (by rfl) ?_ AllReadyH.nil
                  intro K hK
                  go_simp
                  refine hK.out _ _ (HS4.out _ HE21.out) (fun hHeld => ?_)
                  clear hK K g0 f0 g1 f1 g2 f2 g3 f3 r4 s4 q0 q1 q2 q3
                  try simp only [Act.put, List.setIfInBounds_toArray, List.set_cons_zero, List.set_cons_succ]
                  refine wpAnyH_ready (rs := [12]) (by kernel_rfl) (by simp) ?_
                  refine AllReadyH.cons (i := 12) (rs := []) (by rfl) ?_ AllReadyH.nil
                  intro K hK
                  go_simp
                  refine hK.out _ _ hHeld (fun hHeld => ?_)
                  clear hK K hHeld
                  refine wpAnyH_done (by kernel_rfl) ?_ _
                  go_wp2_with fail
                  go_roundg (n3 - (i + 1))
                  case measure => omega
                  case rel => exact ⟨i + 1, by omega, HX14.out.trans HE21.out, rfl, rfl⟩
              · obtain rfl : n3 = i := by omega
                have HX14 := Lib.hid hx
                clear hx
                go_wp2_with fail
                refine (HAw.out _).mono ?_
                rintro e wz ⟨rfl, hz⟩
                go_wp2_with fail
                go_ret
                exact ⟨rfl, (HX1.out.trans (H13.out.1.trans HX14.out)).trans hz⟩
      · have ez : (rc != 0) = true := by simpa using hz
        have HX4 := Lib.hid hx14
        clear hx4 hx14 hz p0 p1 p2 p3 p4
        go_wp2_with fail
        refine (HAw.out _).mono ?_
        rintro e w5 ⟨rfl, hx5⟩
        go_wp2_with fail
        go_ret
        exact ⟨rfl, (HX1.out.trans HX4.out).trans hx5⟩
end Go.Proofs.YtkhllknahjmciaaGreat
