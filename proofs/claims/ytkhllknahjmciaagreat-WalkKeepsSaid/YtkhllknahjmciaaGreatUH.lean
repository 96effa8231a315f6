/-
  Graphs (the document's own): a graph is the same as itself.
-/
import Derived.Test.YtkhllknahjmciaaGreatM36
namespace Go.Proofs.YtkhllknahjmciaaGreat
open Go.RowKit
set_option linter.unusedVariables false
set_option linter.unusedSimpArgs false

set_option maxRecDepth 100000 in
set_option maxHeartbeats 1000000 in
theorem rSame_any (g : Gr) (w : World) (cs1 cs2 : List Value) (h1 : GrC w g cs1) (h2 : GrC w g cs2) :
    Calls Tryz.prog 36 #[.agg cs1.toArray, .agg cs2.toArray] w fun e w' => e = .returned (.bool true) ∧ Ext w w' := by
  obtain ⟨na, nc, ea, ec, rfl, hn, he⟩ := h1
  obtain ⟨na2, nc2, ea2, ec2, rfl, hn2, he2⟩ := h2
  have kn : g.nodes.length ≤ nc ∧ nc ≤ maxLen := by obtain ⟨css, h, -⟩ := hn; exact ⟨h.1, h.2.1⟩
  have kn2 : g.nodes.length ≤ nc2 := by obtain ⟨css, h, -⟩ := hn2; exact h.1
  have ke : g.edges.length ≤ ec ∧ ec ≤ maxLen := ⟨he.1, he.2.1⟩
  have ke2 : g.edges.length ≤ ec2 := he2.1
  unfold maxLen at kn ke
  obtain ⟨kn0, kn1⟩ := kn
  obtain ⟨ke0, ke1⟩ := ke
  obtain ⟨m, hm⟩ : ∃ m, g.nodes.length = m := ⟨_, rfl⟩
  obtain ⟨n, hnn⟩ : ∃ n, g.edges.length = n := ⟨_, rfl⟩
  obtain ⟨d, hd⟩ : ∃ d, g.next = d := ⟨_, rfl⟩
  have HN := Lib.hid (And.intro (And.intro hn hn2) hm)
  have HE := Lib.hid (And.intro (And.intro he he2) hnn)
  rw [hm] at kn0 kn2
  rw [hnn] at ke0 ke2
  rw [hm, hnn, hd]
  obtain ⟨W1, hW1⟩ : ∃ W1, (w.alloc (.cells #[.slice na m nc, .slice ea n ec, .int .i64 d] 25)).alloc (.cells #[.slice na2 m nc2, .slice ea2 n ec2, .int .i64 d] 25) = W1 := ⟨_, rfl⟩
  have hx1 : Ext w W1 := by rw [← hW1]; exact ((Chg.refl (S := fun _ => False) w).alloc _).alloc _
  have kA : Blk W1 w.heap.size #[.slice na m nc, .slice ea n ec, .int .i64 d] 25 := by rw [← hW1]; exact (Blk.new w _ _).chg ((Chg.refl (S := fun _ => False) _).alloc _) (fun h => h)
  have kB : Blk W1 (w.heap.size + 1) #[.slice na2 m nc2, .slice ea2 n ec2, .int .i64 d] 25 := by
    rw [← hW1]
    simpa using Blk.new (w.alloc (.cells #[.slice na m nc, .slice ea n ec, .int .i64 d] 25)) #[.slice na2 m nc2, .slice ea2 n ec2, .int .i64 d] 25
  have HB := Lib.hid (And.intro hx1 (And.intro kA kB))
  have HW1 := Lib.hid hW1
  clear hx1 kA kB hW1 hn he hn2 he2 hm hnn hd
  go_enter Tryz.func36, Tryz.ntmps36
  go_wp2_with fail
  rw [HW1.out]
  go_loopg [5] n (fun g' l5 wr => ∃ i : Nat, i ≤ n ∧ Ext W1 wr ∧ l5 = .int .i64 i ∧ g' = n - i)
  case atStart => exact ⟨0, Nat.zero_le _, Chg.refl _, rfl, rfl⟩
  case round =>
    obtain ⟨w3, rfl⟩ : ∃ x, x = wr := ⟨_, rfl⟩
    obtain ⟨i, hi, hx, rfl, rfl⟩ := hrel
    obtain ⟨b0, -, b1, -, b2, -⟩ := blk3_base (HB.out.2.1.chg hx (fun h => h))
    obtain ⟨d0, -, d1, -, d2, -⟩ := blk3_base (HB.out.2.2.chg hx (fun h => h))
    have HX := Lib.hid hx
    by_cases hin : i < n
    · have hin' : (i : Int) < n := by omega
      obtain ⟨⟨tk, fr, lb, tn⟩, hs⟩ : ∃ s, g.edges[i]? = some s := ⟨_, List.getElem?_eq_getElem (by rw [HE.out.2]; exact hin)⟩
      obtain ⟨x, rfl, c0, c1, c2, c3⟩ := eg_at (Cells.ext HE.out.1.1 (HB.out.1.trans hx)) hs
      obtain ⟨y, rfl, c4, c5, c6, c7⟩ := eg_at (Cells.ext HE.out.1.2 (HB.out.1.trans hx)) hs
      dsimp only at c0 c1 c2 c3 c4 c5 c6 c7
      clear hx hs
      go_wp2_with fail
      go_quiet (fail)
      go_wp2_with fail
      go_roundg (n - (i + 1))
      case measure => omega
      case rel => exact ⟨i + 1, by omega, HX.out.drewN _, rfl, rfl⟩
    · obtain rfl : i = n := by omega
      clear hx
      go_wp2_with fail
      clear b0 b1 b2 d0 d1 d2
      go_loopg [6] m (fun g' l6 wr => ∃ i : Nat, i ≤ m ∧ Ext W1 wr ∧ l6 = .int .i64 i ∧ g' = m - i)
      case atStart => exact ⟨0, Nat.zero_le _, HX.out, rfl, rfl⟩
      case round =>
        obtain ⟨w4, rfl⟩ : ∃ x, x = wr := ⟨_, rfl⟩
        obtain ⟨i, hi, hx, rfl, rfl⟩ := hrel
        obtain ⟨b0, -, b1, -, b2, -⟩ := blk3_base (HB.out.2.1.chg hx (fun h => h))
        obtain ⟨d0, -, d1, -, d2, -⟩ := blk3_base (HB.out.2.2.chg hx (fun h => h))
        have HX4 := Lib.hid hx
        by_cases hin : i < m
        · have hin' : (i : Int) < m := by omega
          obtain ⟨t, ht⟩ : ∃ s, g.nodes[i]? = some s := ⟨_, List.getElem?_eq_getElem (by rw [HN.out.2]; exact hin)⟩
          obtain ⟨x, la, lc, pa, pc, rfl, c0, c1, c2, hl, hp⟩ := nd_at (HN.out.1.1.ext (HB.out.1.trans hx)) ht
          obtain ⟨y, la2, lc2, pa2, pc2, rfl, e0, e1, e2, hl2, hp2⟩ := nd_at (HN.out.1.2.ext (HB.out.1.trans hx)) ht
          have hT := fun W (hW : Ext w4 W) => rTexts_any t.labels W la la2 lc lc2 (hl.ext hW) (hl2.ext hW)
          obtain ⟨sl, hsl⟩ : ∃ s, t.labels.length = s := ⟨_, rfl⟩
          obtain ⟨sp, hsp⟩ : ∃ s, t.props.length = s := ⟨_, rfl⟩
          have kp1 := hp.1
          have kp2 := hp.2.1
          have kp3 := hp2.1
          unfold maxLen at kp2
          rw [hsp] at c2 e2 hp hp2 kp1 kp3
          rw [hsl] at c1 e1 hT
          generalize t.id = td at *
          have HP := Lib.hid (And.intro (And.intro hp hp2) hsp)
          have hA := (Chg.refl (S := fun _ => False) w4).alloc (.cells #[.int .i64 td, .slice la sl lc, .slice pa sp pc] 109)
          have y0 := one_ext hA e0
          have y1 := one_ext hA e1
          have y2 := one_ext hA e2
          obtain ⟨z0, z1, z2⟩ := three_ext (hx.trans hA) HB.out.2.2
          obtain ⟨W5, hW5⟩ : ∃ W5, (w4.alloc (.cells #[.int .i64 td, .slice la sl lc, .slice pa sp pc] 109)).alloc (.cells #[.int .i64 td, .slice la2 sl lc2, .slice pa2 sp pc2] 109) = W5 := ⟨_, rfl⟩
          have hx5 : Ext w4 W5 := by rw [← hW5]; exact hA.alloc _
          have k7 : Blk W5 w4.heap.size #[.int .i64 td, .slice la sl lc, .slice pa sp pc] 109 := by rw [← hW5]; exact (Blk.new w4 _ _).chg ((Chg.refl (S := fun _ => False) _).alloc _) (fun h => h)
          have k8 : Blk W5 (w4.heap.size + 1) #[.int .i64 td, .slice la2 sl lc2, .slice pa2 sp pc2] 109 := by
            rw [← hW5]
            simpa using Blk.new (w4.alloc (.cells #[.int .i64 td, .slice la sl lc, .slice pa sp pc] 109)) #[.int .i64 td, .slice la2 sl lc2, .slice pa2 sp pc2] 109
          have HC5 := Lib.hid (hT _ hx5)
          have H5 := Lib.hid (And.intro hx5 (And.intro k7 k8))
          have HW5 := Lib.hid hW5
          clear hx ht hl hp hl2 hp2 hA hT hW5 hx5 k7 k8 hsl hsp
          go_wp2_with fail
          rw [HW5.out]
          refine HC5.out.mono ?_
          rintro e w6 ⟨rfl, hx⟩
          obtain ⟨g0, -, g1, -, g2, -⟩ := blk3_base (H5.out.2.1.chg hx (fun h => h))
          obtain ⟨q0, -, q1, -, q2, -⟩ := blk3_base (H5.out.2.2.chg hx (fun h => h))
          have HX6 := Lib.hid hx
          clear hx b0 b1 b2 d0 d1 d2 c0 c1 c2 e0 e1 e2 y0 y1 y2 z0 z1 z2
          go_wp2_with fail
          clear g0 g1 g2 q0 q1 q2
          go_loopg [9] sp (fun g' l9 wr => ∃ j : Nat, j ≤ sp ∧ Ext w6 wr ∧ l9 = .int .i64 j ∧ g' = sp - j)
          case atStart => exact ⟨0, Nat.zero_le _, Chg.refl _, rfl, rfl⟩
          case round =>
            obtain ⟨w7, rfl⟩ : ∃ x, x = wr := ⟨_, rfl⟩
            obtain ⟨j, hj, hx, rfl, rfl⟩ := hrel
            obtain ⟨g0, -, g1, -, g2, -⟩ := blk3_base (H5.out.2.1.chg (HX6.out.trans hx) (fun h => h))
            obtain ⟨q0, -, q1, -, q2, -⟩ := blk3_base (H5.out.2.2.chg (HX6.out.trans hx) (fun h => h))
            have HX7 := Lib.hid hx
            by_cases hjn : j < sp
            · have hjn' : (j : Int) < sp := by omega
              obtain ⟨⟨pn, pv⟩, hs⟩ : ∃ s, t.props[j]? = some s := ⟨_, List.getElem?_eq_getElem (by rw [HP.out.2]; exact hjn)⟩
              obtain ⟨x, rfl, c0, c1⟩ := prop_at (HP.out.1.1.ext ((H5.out.1.trans HX6.out).trans hx)) hs
              obtain ⟨y, rfl, e0, e1⟩ := prop_at (HP.out.1.2.ext ((H5.out.1.trans HX6.out).trans hx)) hs
              dsimp only at c0 c1 e0 e1
              clear hx hs
              go_wp2_with fail
              go_quiet (fail)
              go_wp2_with fail
              go_roundg (sp - (j + 1))
              case measure => omega
              case rel => exact ⟨j + 1, by omega, HX7.out.drewN _, rfl, rfl⟩
            · obtain rfl : j = sp := by omega
              clear hx
              go_wp2_with fail
              go_roundg (m - (i + 1))
              case measure => omega
              case rel => exact ⟨i + 1, by omega, ((HX4.out.trans H5.out.1).trans HX6.out).trans HX7.out, rfl, rfl⟩
        · obtain rfl : i = m := by omega
          clear hx
          go_wp2_with fail
          go_ret
          exact ⟨rfl, HB.out.1.trans HX4.out⟩
end Go.Proofs.YtkhllknahjmciaaGreat
