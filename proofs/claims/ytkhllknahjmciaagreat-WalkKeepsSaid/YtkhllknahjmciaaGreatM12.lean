/-
  How much a graph has within (held): it is told, whatever it is. The inputs that are looked at. Comparing numbers and texts; where a node stands among those in order. Where a node stands among those in order. Where a name stands that is behind all.
-/
import Derived.Test.YtkhllknahjmciaaGreatM11
/-! How much a graph has within (held): it is told, whatever it is. -/
namespace Go.Proofs.YtkhllknahjmciaaGreat
open Go.RowKit
set_option linter.unusedVariables false
set_option linter.unusedSimpArgs false

def SumPost (W : World) (e : Ending) (w' : World) : Prop := ∃ v : Int, 0 ≤ v ∧ v ≤ 1099511627776 ∧ e = .returned (.int .i64 v) ∧ w' = W
theorem sumx1_any (n a : Int) (W : World) (p t : Nat) (hb : Blk W p #[.int .i64 a] t) (h0 : 0 ≤ n) (h1 : n ≤ 1099511627776) (ha : 0 ≤ a) :
    Calls Tryz.prog 78 #[.int .i64 n, .slice (some ⟨p, 0, none⟩) 1 1] W (SumPost W) := by
  have hm : ∀ m ∈ [a], 0 ≤ m := by intro m hm; rw [List.mem_singleton.1 hm]; exact ha
  obtain ⟨s0, s1⟩ := sumH_le [a] n h0 h1 hm
  refine (sum_any n [a] W (some ⟨p, 0, none⟩) 1 ⟨Nat.le_refl _, by unfold maxLen; simp, fun j u hu => ⟨_, rfl, ?_⟩⟩ h0 h1 hm).mono fun e w' ⟨he, hw⟩ => ⟨_, s0, s1, he, hw⟩
  match j, hu with
  | 0, hu => rw [add_zero]; exact hb.cell 0 _ (by simpa using hu)
theorem sumx2_any (n a b : Int) (W : World) (p t : Nat) (hb : Blk W p #[.int .i64 a, .int .i64 b] t) (h0 : 0 ≤ n) (h1 : n ≤ 1099511627776) (ha : 0 ≤ a) (hb0 : 0 ≤ b) :
    Calls Tryz.prog 78 #[.int .i64 n, .slice (some ⟨p, 0, none⟩) 2 2] W (SumPost W) := by
  have hm : ∀ m ∈ [a, b], 0 ≤ m := by
    intro m hm
    rcases List.mem_cons.1 hm with rfl | hm
    · exact ha
    · rw [List.mem_singleton.1 hm]; exact hb0
  obtain ⟨s0, s1⟩ := sumH_le [a, b] n h0 h1 hm
  refine (sum_any n [a, b] W (some ⟨p, 0, none⟩) 2 ⟨Nat.le_refl _, by unfold maxLen; simp, fun j u hu => ⟨_, rfl, ?_⟩⟩ h0 h1 hm).mono fun e w' ⟨he, hw⟩ => ⟨_, s0, s1, he, hw⟩
  match j, hu with
  | 0, hu => rw [add_zero]; exact hb.cell 0 _ (by simpa using hu)
  | 1, hu => exact hb.cell 1 _ (by simpa using hu)
def SomeInt (w : World) (e : Ending) (w' : World) : Prop := ∃ v : Int, e = .returned (.int .i64 v) ∧ Ext w w'
set_option maxRecDepth 100000 in
set_option maxHeartbeats 1000000 in
theorem wGraph_any (g : Gr) (w : World) (cs : List Value) (h : GrC w g cs) :
    Calls Tryz.prog 39 #[.agg cs.toArray] w (SomeInt w) := by
  obtain ⟨na, nc, ea, ec, rfl, hn, he⟩ := h
  have hb := Blk.new w #[.slice na g.nodes.length nc, .slice ea g.edges.length ec, .int .i64 g.next] 25
  have hw1 : Ext w (w.alloc (.cells #[.slice na g.nodes.length nc, .slice ea g.edges.length ec, .int .i64 g.next] 25)) := (Chg.refl w).alloc _
  have hec := he.1
  have hem := he.2.1
  have hnc : g.nodes.length ≤ nc ∧ nc ≤ maxLen := by obtain ⟨css, h1, -⟩ := hn; exact ⟨h1.1, h1.2.1⟩
  unfold maxLen at hem hnc
  obtain ⟨hnc, hnm⟩ := hnc
  obtain ⟨N, E, nx⟩ := g
  dsimp only at *
  obtain ⟨m, hm⟩ : ∃ m, N.length = m := ⟨_, rfl⟩
  obtain ⟨n, hn'⟩ : ∃ n, E.length = n := ⟨_, rfl⟩
  unfold EsC at he
  rw [hm] at hb hw1 hnc ⊢
  rw [hn'] at hb hw1 he hec ⊢
  have HB := Lib.hid (And.intro hb hw1)
  have HL := Lib.hid (And.intro hn hm)
  have HP := Lib.hid (And.intro he hn')
  obtain ⟨b0, -, b1, -, b2, -⟩ := blk3_base hb
  clear hb hw1 hn he hm hn'
  go_enter Tryz.func39, Tryz.ntmps39
  go_wp2_with fail
  refine (sumx2_any 1 m n _ (w.heap.size + 1) 3 (by simpa using Blk.new (w.alloc (.cells #[.slice na m nc, .slice ea n ec, .int .i64 nx] 25)) #[.int .i64 m, .int .i64 n] 3) (by omega) (by omega) (by omega) (by omega)).mono ?_
  rintro e w2 ⟨v, hv0, hv1, rfl, rfl⟩
  clear b0 b1 b2
  have HX0 := Lib.hid ((Chg.refl (w.alloc (.cells #[.slice na m nc, .slice ea n ec, .int .i64 nx] 25)) (S := fun _ => False)).alloc (.cells #[.int .i64 m, .int .i64 n] 3))
  obtain ⟨b0, -, b1, -, b2, -⟩ := blk3_base (HB.out.1.chg HX0.out (fun h => h))
  go_wp2_with fail
  go_loopg [3, 4] m (fun g l3 l4 wr => ∃ (i : Nat) (v : Int), i ≤ m ∧ 0 ≤ v ∧ v ≤ 1099511627776 ∧ Ext (w.alloc (.cells #[.slice na m nc, .slice ea n ec, .int .i64 nx] 25)) wr ∧ l3 = .int .i64 v ∧ l4 = .int .i64 i ∧ g = m - i)
  case atStart => exact ⟨0, v, Nat.zero_le _, hv0, hv1, HX0.out, rfl, rfl, rfl⟩
  case round =>
    clear b0 b1 b2 hv0 hv1
    obtain ⟨i, v, hi, hv0, hv1, hx, rfl, rfl, rfl⟩ := hrel
    obtain ⟨b0, -, b1, -, b2, -⟩ := blk3_base (HB.out.1.chg hx (fun h => h))
    by_cases hgo : i < m ∧ v < 10000
    · obtain ⟨hin, hvl⟩ := hgo
      have e1 : decide ((i : Int) < m) = true := by simpa using hin
      have e2 : decide (v < 10000) = true := by simpa using hvl
      have hin' : (i : Int) < m := by omega
      obtain ⟨s, hs⟩ : ∃ s, N[i]? = some s := ⟨_, List.getElem?_eq_getElem (by rw [HL.out.2]; exact hin)⟩
      obtain ⟨x, la, lc, pa, pc, rfl, c0, c1, c2, hsl, hsp⟩ := nd_at (HL.out.1.ext (HB.out.2.trans hx)) hs
      have hlc := hsl.1
      have hlm := hsl.2.1
      have hpc := hsp.1
      have hpm := hsp.2.1
      unfold maxLen at hlm hpm
      obtain ⟨sd, L, P⟩ := s
      dsimp only at *
      obtain ⟨sl, hsl'⟩ : ∃ d, L.length = d := ⟨_, rfl⟩
      obtain ⟨sp, hsp'⟩ : ∃ d, P.length = d := ⟨_, rfl⟩
      rw [hsl'] at hsl hlc c1
      rw [hsp'] at hsp hpc c2
      have HS := Lib.hid (And.intro hsl (And.intro hsp (And.intro hsl' hsp')))
      have HX := Lib.hid (And.intro hx hvl)
      have HC := Lib.hid (And.intro c0 (And.intro c1 c2))
      obtain ⟨wo, hwo⟩ : ∃ wo : World, wo = wr := ⟨_, rfl⟩
      subst hwo
      have HCs := Lib.hid (fun W (hW : Ext wo W) => And.intro (three_ext hW (HB.out.1.chg HX.out.1 (fun h => h))) (nd_ext hW HC.out.1 HC.out.2.1 HC.out.2.2))
      clear hs hsl hsp hsl' hsp' hx
      go_wp2_with fail
      go_region_held3 (fun v => (v.cell? ⟨w.heap.size, 0, none⟩ = some (.slice (some x) m nc) ∧ v.cell? ⟨w.heap.size, 1, none⟩ = some (.slice ea n ec) ∧ v.cell? ⟨w.heap.size, 2, none⟩ = some (.int .i64 nx)) ∧ v.cell? (x.add (i * 3)) = some (.int .i64 sd) ∧ v.cell? { block := (x.add (i * 3)).block, off := (x.add (i * 3)).off + 1 } = some (.slice la sl lc) ∧ v.cell? { block := (x.add (i * 3)).block, off := (x.add (i * 3)).off + 2 } = some (.slice pa sp pc)) (first | with_reducible exact HCs.out _ (Chg.refl (S := fun _ => False) wo).drew | with_reducible exact HCs.out _ ((Chg.refl (S := fun _ => False) wo).alloc _).drew) ((go_at_call 78; refine (sumx2_any v sl sp _ _ _ (Blk.new wo.drew #[.int .i64 sl, .int .i64 sp] 3) (by omega) (by omega) (by omega) (by omega)).mono ?_; rintro e w2 ⟨v2, hv0', hv1', rfl, rfl⟩))
      go_wp2_with fail
      go_loopg [3, 5] sl (fun g l3 l5 wx => ∃ (j : Nat) (v : Int), j ≤ sl ∧ 0 ≤ v ∧ v ≤ 1099511627776 ∧ Ext wo wx ∧ l3 = .int .i64 v ∧ l5 = .int .i64 j ∧ g = sl - j)
      case atStart => exact ⟨0, v2, Nat.zero_le _, hv0', hv1', ((Chg.refl wo).alloc _).drew, rfl, rfl, rfl⟩
      case round =>
        clear b0 b1 b2 c0 c1 c2 hv0' hv1' HCs
        obtain ⟨j, v3, hj, hv3, hv4, hy, rfl, rfl, rfl⟩ := hrel
        obtain ⟨b0, -, b1, -, b2, -⟩ := blk3_base ((HB.out.1.chg HX.out.1 (fun h => h)).chg hy (fun h => h))
        obtain ⟨c0, c1, c2⟩ := nd_ext hy HC.out.1 HC.out.2.1 HC.out.2.2
        have HY := Lib.hid hy
        by_cases hgo : j < sl ∧ v3 < 10000
        · obtain ⟨hj1, hj2⟩ := hgo
          have e3 : decide ((j : Int) < sl) = true := by simpa using hj1
          have e4 : decide (v3 < 10000) = true := by simpa using hj2
          have e5 : decide (j < sl) = true := by simpa using hj1
          have hj3 : (j : Int) < sl := by omega
          obtain ⟨s, hs⟩ : ∃ s, L[j]? = some s := ⟨_, List.getElem?_eq_getElem (by rw [HS.out.2.2.1]; exact hj1)⟩
          obtain ⟨y, rfl, d0⟩ := str_at (HS.out.1.ext hy) hs
          have kb := Blk.new wr #[.int .i64 s.size] 3
          have hsz : (0 : Int) ≤ s.size := by omega
          clear hs hy
          go_wp2_with fail
          refine (sumx1_any _ _ _ _ _ kb (by omega) (by omega) (by omega)).mono ?_
          rintro e w2 ⟨v', hv0', hv1', rfl, rfl⟩
          go_wp2_with fail
          go_roundg (sl - (j + 1))
          case measure => omega
          case rel => exact ⟨j + 1, v', by omega, by omega, by omega, HY.out.alloc _, rfl, rfl, rfl⟩
        · clear hy
          have hexit : (decide (((j : Nat) : Int) < sl) = false ∧ decide (j < sl) = false) ∨ (decide (((j : Nat) : Int) < sl) = true ∧ decide (v3 < 10000) = false ∧ decide (j < sl) = true) := by
            by_cases hq : j < sl
            · exact .inr ⟨by simpa using hq, by simp; omega, by simpa using hq⟩
            · exact .inl ⟨by simp; omega, by simpa using hq⟩
          clear hgo
          rcases hexit with ⟨e3, e4⟩ | ⟨e3, e4, e0⟩
          all_goals
            go_wp2_with fail
            go_loopg [3, 6] sp (fun g l3 l6 wx => ∃ (k : Nat) (v : Int), k ≤ sp ∧ 0 ≤ v ∧ v ≤ 1099511627776 ∧ Ext wo wx ∧ l3 = .int .i64 v ∧ l6 = .int .i64 k ∧ g = sp - k)
            case atStart => exact ⟨0, v3, Nat.zero_le _, by omega, by omega, HY.out, rfl, rfl, rfl⟩
            case round =>
              clear b0 b1 b2 c0 c1 c2 hv3 hv4 HY
              obtain ⟨k, v4, hk, hv5, hv6, hy, rfl, rfl, rfl⟩ := hrel
              obtain ⟨b0, -, b1, -, b2, -⟩ := blk3_base ((HB.out.1.chg HX.out.1 (fun h => h)).chg hy (fun h => h))
              obtain ⟨c0, c1, c2⟩ := nd_ext hy HC.out.1 HC.out.2.1 HC.out.2.2
              have HY := Lib.hid hy
              by_cases hgo : k < sp ∧ v4 < 10000
              · obtain ⟨hj1, hj2⟩ := hgo
                have e5 : decide ((k : Int) < sp) = true := by simpa using hj1
                have e6 : decide (v4 < 10000) = true := by simpa using hj2
                have e7 : decide (k < sp) = true := by simpa using hj1
                have hj3 : (k : Int) < sp := by omega
                obtain ⟨⟨s1, s2⟩, hs⟩ : ∃ s, P[k]? = some s := ⟨_, List.getElem?_eq_getElem (by rw [HS.out.2.2.2]; exact hj1)⟩
                obtain ⟨y, rfl, d0, d1⟩ := prop_at (HS.out.2.1.ext hy) hs
                dsimp only at d0 d1
                have HCs := Lib.hid (fun W (hW : Ext wr W) => And.intro (three_ext hW ((HB.out.1.chg HX.out.1 (fun h => h)).chg HY.out (fun h => h))) (And.intro (nd_ext (HY.out.trans hW) HC.out.1 HC.out.2.1 HC.out.2.2) (And.intro (one_ext hW d0) (one_ext hW d1))))
                have hsz : (0 : Int) ≤ s1.size ∧ (0 : Int) ≤ s2.size := by omega
                clear hs hy
                go_wp2_with fail
                go_region_held3 (fun v => (v.cell? ⟨w.heap.size, 0, none⟩ = some (.slice (some x) m nc) ∧ v.cell? ⟨w.heap.size, 1, none⟩ = some (.slice ea n ec) ∧ v.cell? ⟨w.heap.size, 2, none⟩ = some (.int .i64 nx)) ∧ (v.cell? (x.add (i * 3)) = some (.int .i64 sd) ∧ v.cell? { block := (x.add (i * 3)).block, off := (x.add (i * 3)).off + 1 } = some (.slice la sl lc) ∧ v.cell? { block := (x.add (i * 3)).block, off := (x.add (i * 3)).off + 2 } = some (.slice (some y) sp pc)) ∧ v.cell? (y.add (k * 2)) = some (.string s1) ∧ v.cell? { block := (y.add (k * 2)).block, off := (y.add (k * 2)).off + 1 } = some (.string s2)) (first | with_reducible exact HCs.out _ (Chg.refl (S := fun _ => False) wr).drew | with_reducible exact HCs.out _ ((Chg.refl (S := fun _ => False) wr).alloc _).drew) ((go_at_call 78; refine (sumx2_any v4 s1.size s2.size _ _ _ (Blk.new wr.drew #[.int .i64 s1.size, .int .i64 s2.size] 3) (by omega) (by omega) (by omega) (by omega)).mono ?_; rintro e w2 ⟨v', hv0', hv1', rfl, rfl⟩))
                go_wp2_with fail
                go_roundg (sp - (k + 1))
                case measure => omega
                case rel => exact ⟨k + 1, v', by omega, by omega, by omega, (HY.out.alloc _).drew, rfl, rfl, rfl⟩
              · clear hy
                have hexit : (decide (((k : Nat) : Int) < sp) = false ∧ decide (k < sp) = false) ∨ (decide (((k : Nat) : Int) < sp) = true ∧ decide (v4 < 10000) = false ∧ decide (k < sp) = true) := by
                  by_cases hq : k < sp
                  · exact .inr ⟨by simpa using hq, by simp; omega, by simpa using hq⟩
                  · exact .inl ⟨by simp; omega, by simpa using hq⟩
                clear hgo
                rcases hexit with ⟨e5, e6⟩ | ⟨e5, e6, e7⟩
                all_goals
                  go_wp2_with fail
                  go_roundg (m - (i + 1))
                  case measure => omega
                  case rel => exact ⟨i + 1, v4, by omega, by omega, by omega, HX.out.1.trans HY.out, rfl, rfl, rfl⟩
    · have HX := Lib.hid hx
      clear hx
      have hexit : (decide (((i : Nat) : Int) < m) = false ∧ decide (i < m) = false) ∨ (decide (((i : Nat) : Int) < m) = true ∧ decide (v < 10000) = false ∧ decide (i < m) = true) := by
        by_cases hq : i < m
        · exact .inr ⟨by simpa using hq, by simp; omega, by simpa using hq⟩
        · exact .inl ⟨by simp; omega, by simpa using hq⟩
      clear hgo
      rcases hexit with ⟨e1, e2⟩ | ⟨e1, e2, e0⟩
      all_goals
        go_wp2_with fail
        go_loopg [3, 7] n (fun g l3 l7 wr => ∃ (j : Nat) (v : Int), j ≤ n ∧ 0 ≤ v ∧ v ≤ 1099511627776 ∧ Ext (w.alloc (.cells #[.slice na m nc, .slice ea n ec, .int .i64 nx] 25)) wr ∧ l3 = .int .i64 v ∧ l7 = .int .i64 j ∧ g = n - j)
        case atStart => exact ⟨0, v, Nat.zero_le _, hv0, hv1, HX.out, rfl, rfl, rfl⟩
        case round =>
          clear b0 b1 b2 hv0 hv1 HX
          obtain ⟨j, v, hj, hv0, hv1, hx, rfl, rfl, rfl⟩ := hrel
          obtain ⟨b0, -, b1, -, b2, -⟩ := blk3_base (HB.out.1.chg hx (fun h => h))
          have HX := Lib.hid hx
          by_cases hgo : j < n ∧ v < 10000
          · obtain ⟨hj1, hj2⟩ := hgo
            have e3 : decide ((j : Int) < n) = true := by simpa using hj1
            have e4 : decide (v < 10000) = true := by simpa using hj2
            have e5 : decide (j < n) = true := by simpa using hj1
            have hj3 : (j : Int) < n := by omega
            obtain ⟨s, hs⟩ : ∃ s, E[j]? = some s := ⟨_, List.getElem?_eq_getElem (by rw [HP.out.2]; exact hj1)⟩
            obtain ⟨y, rfl, -, -, d0, -⟩ := eg_at' (HP.out.1.ext (HB.out.2.trans hx)) HP.out.2 hs
            obtain ⟨lb, hlb⟩ : ∃ d, s.lab = d := ⟨_, rfl⟩
            rw [hlb] at d0
            have kb := Blk.new wr #[.int .i64 lb.size] 3
            have hsz : (0 : Int) ≤ lb.size := by omega
            clear hs hx hlb
            go_wp2_with fail
            refine (sumx1_any _ _ _ _ _ kb (by omega) (by omega) (by omega)).mono ?_
            rintro e w2 ⟨v', hv0', hv1', rfl, rfl⟩
            go_wp2_with fail
            go_roundg (n - (j + 1))
            case measure => omega
            case rel => exact ⟨j + 1, v', by omega, by omega, by omega, HX.out.alloc _, rfl, rfl, rfl⟩
          · clear hx
            have hexit : (decide (((j : Nat) : Int) < n) = false ∧ decide (j < n) = false) ∨ (decide (((j : Nat) : Int) < n) = true ∧ decide (v < 10000) = false ∧ decide (j < n) = true) := by
              by_cases hq : j < n
              · exact .inr ⟨by simpa using hq, by simp; omega, by simpa using hq⟩
              · exact .inl ⟨by simp; omega, by simpa using hq⟩
            clear hgo
            rcases hexit with ⟨e3, e4⟩ | ⟨e3, e4, e5⟩
            all_goals
              go_wp2_with fail
              go_ret
              exact ⟨_, rfl, HB.out.2.trans HX.out⟩
end Go.Proofs.YtkhllknahjmciaaGreat

/-! The inputs that are looked at. -/
namespace Go.Proofs.YtkhllknahjmciaaGreat
open Go.RowKit
set_option linter.unusedVariables false
set_option linter.unusedSimpArgs false

set_option maxRecDepth 100000 in
set_option maxHeartbeats 1000000 in
theorem weights_nil (w : World) :
    Calls Tryz.prog 41 #[.slice none 0 0] w fun e w' => e = .returned (.int .i64 0) ∧ Ext w w' := by
  have hc : Calls Tryz.prog 78 #[.int .i64 0, .slice (some ⟨w.heap.size, 0, none⟩) 1 1] (w.alloc (.cells #[.int .i64 0] 3)) fun e w' => e = .returned (.int .i64 0) ∧ w' = w.alloc (.cells #[.int .i64 0] 3) := by
    have := sum1_any 0 0 w (by omega) (by omega) (by omega)
    exact this
  have HC := Lib.hid hc
  clear hc
  go_enter Tryz.func41, Tryz.ntmps41
  go_wp2_with fail
  refine HC.out.mono ?_
  rintro e w2 ⟨rfl, rfl⟩
  go_wp2_with fail
  go_loopg [3, 4] 1 (fun g l3 l4 wr => wr = w.alloc (.cells #[.int .i64 0] 3) ∧ l3 = .int .i64 0 ∧ l4 = .int .i64 0 ∧ g = 1)
  case atStart => exact ⟨rfl, rfl, rfl, rfl⟩
  case round =>
    obtain ⟨rfl, rfl, rfl, rfl⟩ := hrel
    go_wp2_with fail
    go_ret
    exact ⟨rfl, (Chg.refl w).alloc _⟩
def SmallPost (N E : List Nd × List Eg) (P : Bool → Prop) (w : World) (e : Ending) (w' : World) : Prop := ∃ b, P b ∧ e = .returned (.bool b) ∧ Ext w w'
/-- Some bool, which where it is true says P. -/
def SomeBool (P : Prop) (w : World) (e : Ending) (w' : World) : Prop := ∃ b : Bool, (b = true → P) ∧ e = .returned (.bool b) ∧ Ext w w'
set_option maxRecDepth 100000 in
set_option maxHeartbeats 1000000 in
theorem small_any (g : Gr) (t : Tr) (w : World) (gs cs : List Value) (hg : GrC w g gs) (ht : TrC w t cs) :
    Calls Tryz.prog 9 #[.agg gs.toArray, .agg cs.toArray, .slice none 0 0] w (SomeBool (g.nodes.length ≤ 6 ∧ g.edges.length ≤ 14 ∧ rSizeT t ≤ 25) w) := by
  have HG := Lib.hid (fun W (hW : Ext w W) => wGraph_any g W gs (hg.ext hW))
  have HT := Lib.hid (fun W (hW : Ext w W) => And.intro (wgt_any t W cs 0 (ht.ext hW) (by omega) (by omega)) (rSize_any t W cs (ht.ext hW)))
  obtain ⟨na, nc, ea, ec, rfl, hn, he⟩ := hg
  obtain ⟨k, l, a, n', cap, mn, mx, rfl⟩ := ht.form
  have hec := he.1
  have hem := he.2.1
  have hnc : g.nodes.length ≤ nc ∧ nc ≤ maxLen := by obtain ⟨css, h1, -⟩ := hn; exact ⟨h1.1, h1.2.1⟩
  unfold maxLen at hem hnc
  obtain ⟨hnc, hnm⟩ := hnc
  obtain ⟨m, hm⟩ : ∃ m, g.nodes.length = m := ⟨_, rfl⟩
  obtain ⟨n, hn'⟩ : ∃ n, g.edges.length = n := ⟨_, rfl⟩
  rw [hm] at HG hnc ⊢
  rw [hn'] at HG hec ⊢
  obtain ⟨nx, hnx⟩ : ∃ n, g.next = n := ⟨_, rfl⟩
  rw [hnx] at HG ⊢
  obtain ⟨wt, hwt⟩ : ∃ n, wgt t 0 = n := ⟨_, rfl⟩
  rw [hwt] at HT
  obtain ⟨sz, hsz⟩ : ∃ n, rSizeT t = n := ⟨_, rfl⟩
  rw [hsz] at HT ⊢
  have hb := Blk.new w #[.slice na m nc, .slice ea n ec, .int .i64 nx] 25
  have hw1 : Ext w (w.alloc (.cells #[.slice na m nc, .slice ea n ec, .int .i64 nx] 25)) := (Chg.refl w).alloc _
  have hb2 := Blk.new (w.alloc (.cells #[.slice na m nc, .slice ea n ec, .int .i64 nx] 25)) #[.int .i64 k, .string l, .slice a n' cap, .int .i64 mn, .int .i64 mx] 28
  have hw2 := hw1.alloc (.cells #[.int .i64 k, .string l, .slice a n' cap, .int .i64 mn, .int .i64 mx] 28)
  have hb1 := hb.chg ((Chg.refl (S := fun _ => False) _).alloc (.cells #[.int .i64 k, .string l, .slice a n' cap, .int .i64 mn, .int .i64 mx] 28)) (fun h => h)
  rw [World.size_alloc] at hb2
  have HB := Lib.hid (And.intro hb1 (And.intro hb2 hw2))
  clear hb hw1 hb1 hb2 hw2 hn he ht hm hn' hnx hwt hsz
  go_enter Tryz.func9, Tryz.ntmps9
  go_wp2_with fail
  refine (HG.out _ HB.out.2.2).mono ?_
  rintro e w2 ⟨v, rfl, hx⟩
  obtain ⟨b0, -, b1, -, b2, -⟩ := blk3_base (HB.out.1.chg hx (fun h => h))
  obtain ⟨g0, -, g1, -, g2, -, g3, -, g4, -⟩ := blk5_base (HB.out.2.1.chg hx (fun h => h))
  have HX := Lib.hid (HB.out.2.2.trans hx)
  have HX2 := Lib.hid hx
  clear hx
  by_cases h1 : v ≤ 300
  · have e1 : decide (v ≤ 300) = true := by simpa using h1
    by_cases h2 : m ≤ 6
    · have e2 : decide ((m : Int) ≤ 6) = true := by simp; omega
      by_cases h3 : n ≤ 14
      · have e3 : decide ((n : Int) ≤ 14) = true := by simp; omega
        go_wp2_with fail
        refine (HT.out _ HX.out).1.mono ?_
        rintro e w3 ⟨rfl, hx⟩
        clear b0 b1 b2 g0 g1 g2 g3 g4
        obtain ⟨g0, -, g1, -, g2, -, g3, -, g4, -⟩ := blk5_base ((HB.out.2.1.chg HX2.out (fun h => h)).chg hx (fun h => h))
        have HY := Lib.hid (HX.out.trans hx)
        clear hx
        by_cases h4 : wt ≤ 100
        · have e4 : decide (wt ≤ 100) = true := by simpa using h4
          go_wp2_with fail
          refine (HT.out _ HY.out).2.mono ?_
          rintro e w4 ⟨rfl, hx⟩
          have HZ := Lib.hid (HY.out.trans hx)
          clear hx
          by_cases h5 : sz ≤ 25
          · have e5 : decide (sz ≤ 25) = true := by simpa using h5
            go_wp2_with fail
            refine (weights_nil _).mono ?_
            rintro e w5 ⟨rfl, hx⟩
            go_wp2_with fail
            go_ret
            exact ⟨_, fun _ => ⟨h2, h3, h5⟩, rfl, HZ.out.trans hx⟩
          · have e5 : decide (sz ≤ 25) = false := by simpa using h5
            go_wp2_with fail
            go_ret
            exact ⟨false, (fun h => by cases h), rfl, HZ.out⟩
        · have e4 : decide (wt ≤ 100) = false := by simpa using h4
          go_wp2_with fail
          go_ret
          exact ⟨false, (fun h => by cases h), rfl, HY.out⟩
      · have e3 : decide ((n : Int) ≤ 14) = false := by simp; omega
        go_wp2_with fail
        go_ret
        exact ⟨false, (fun h => by cases h), rfl, HX.out⟩
    · have e2 : decide ((m : Int) ≤ 6) = false := by simp; omega
      go_wp2_with fail
      go_ret
      exact ⟨false, (fun h => by cases h), rfl, HX.out⟩
  · have e1 : decide (v ≤ 300) = false := by simpa using h1
    go_wp2_with fail
    go_ret
    exact ⟨false, (fun h => by cases h), rfl, HX.out⟩
end Go.Proofs.YtkhllknahjmciaaGreat

/-! Comparing numbers and texts; where a node stands among those in order. -/
namespace Go.Proofs.YtkhllknahjmciaaGreat
open Go.RowKit
set_option linter.unusedVariables false
set_option linter.unusedSimpArgs false

def cmpI (a b : Int) : Int := if a < b then -1 else if b < a then 1 else 0
def ltS (a b : ByteArray) : Bool := Op.bytesLess a.toList b.toList
def cmpS (a b : ByteArray) : Int := if ltS a b = true then -1 else if leS a b = true then 0 else 1
theorem bl_cons (a b : UInt8) (x y : List UInt8) : Op.bytesLess (a :: x) (b :: y) = (a < b || (a == b && Op.bytesLess x y)) := rfl
theorem bl_total : ∀ x y : List UInt8, Op.bytesLess x y = true ∨ x = y ∨ Op.bytesLess y x = true
  | [], [] => .inr (.inl rfl)
  | [], _ :: _ => .inl rfl
  | _ :: _, [] => .inr (.inr rfl)
  | a :: x, b :: y => by
    rw [bl_cons, bl_cons]
    rcases bl_total x y with h | h | h
    all_goals
      rcases Nat.lt_trichotomy a.toNat b.toNat with h1 | h1 | h1
      · exact .inl (by simp [UInt8.lt_iff_toNat_lt, h1])
      · have : a = b := UInt8.toNat_inj.1 h1
        subst this
        simp [h]
      · exact .inr (.inr (by simp [UInt8.lt_iff_toNat_lt, h1]))
theorem bl_irrefl : ∀ x : List UInt8, Op.bytesLess x x = false
  | [] => rfl
  | a :: x => by rw [bl_cons, bl_irrefl x]; simp
theorem bl_trans : ∀ x y z : List UInt8, Op.bytesLess x y = true → Op.bytesLess y z = true → Op.bytesLess x z = true
  | x, [], _, h, _ => by cases x <;> simp [Op.bytesLess] at h
  | _, _ :: _, [], _, h => by cases h
  | [], _ :: _, _ :: _, _, _ => rfl
  | a :: x, b :: y, c :: z, h, k => by
    rw [bl_cons] at h k ⊢
    simp only [Bool.or_eq_true, Bool.and_eq_true, decide_eq_true_eq, beq_iff_eq, UInt8.lt_iff_toNat_lt] at h k ⊢
    rcases h with h | ⟨rfl, h⟩
    · rcases k with k | ⟨rfl, k⟩
      · exact .inl (by omega)
      · exact .inl h
    · rcases k with k | ⟨rfl, k⟩
      · exact .inl k
      · exact .inr ⟨rfl, bl_trans x y z h k⟩
theorem toList_inj' {a b : ByteArray} (h : a.toList = b.toList) : a = b := by
  rw [ByteArray.toList_eq, ByteArray.toList_eq] at h
  cases a; cases b
  simp at h
  rw [h]
/-- What stands not at or ahead stands behind. -/
theorem lt_of_not_le {s q : ByteArray} (h : leS s q = false) : ltS q s = true := by
  unfold leS at h
  unfold ltS
  rcases bl_total s.toList q.toList with h1 | h1 | h1
  · rw [h1] at h; simp at h
  · rw [h1] at h; simp at h
  · exact h1
theorem ltS_trans {a b c : ByteArray} (h : ltS a b = true) (k : ltS b c = true) : ltS a c = true := bl_trans _ _ _ h k
theorem cmpI_any (a b : Int) (w : World) :
    Calls Tryz.prog 220 #[.int .i64 a, .int .i64 b] w fun e w' => e = .returned (.int .i64 (cmpI a b)) ∧ w' = w := by
  have HN := Lib.hid (fun (a : Int) (W : World) => show Calls Tryz.prog 217 #[.int .i64 a] W fun e w' => e = .returned (.bool false) ∧ w' = W by
    go_enter Tryz.func217, Tryz.ntmps217
    go_wp2_with fail
    go_ret
    exact ⟨rfl, rfl⟩)
  unfold cmpI
  by_cases h1 : a < b
  · rw [if_pos h1]
    have e1 : decide (a < b) = true := by simpa using h1
    go_enter Tryz.func220, Tryz.ntmps220
    go_wp2_with fail
    refine (HN.out _ _).mono ?_
    rintro e w2 ⟨rfl, rfl⟩
    go_wp2_with fail
    refine (HN.out _ _).mono ?_
    rintro e w2 ⟨rfl, rfl⟩
    go_wp2_with fail
    go_ret
    exact ⟨rfl, rfl⟩
  · rw [if_neg h1]
    have e1 : decide (a < b) = false := by simpa using h1
    by_cases h2 : b < a
    · rw [if_pos h2]
      have e2 : decide (b < a) = true := by simpa using h2
      go_enter Tryz.func220, Tryz.ntmps220
      go_wp2_with fail
      refine (HN.out _ _).mono ?_
      rintro e w2 ⟨rfl, rfl⟩
      go_wp2_with fail
      refine (HN.out _ _).mono ?_
      rintro e w2 ⟨rfl, rfl⟩
      go_wp2_with fail
      go_ret
      exact ⟨rfl, rfl⟩
    · rw [if_neg h2]
      have e2 : decide (b < a) = false := by simpa using h2
      go_enter Tryz.func220, Tryz.ntmps220
      go_wp2_with fail
      refine (HN.out _ _).mono ?_
      rintro e w2 ⟨rfl, rfl⟩
      go_wp2_with fail
      refine (HN.out _ _).mono ?_
      rintro e w2 ⟨rfl, rfl⟩
      go_wp2_with fail
      go_ret
      exact ⟨rfl, rfl⟩
theorem nanS_any (a : ByteArray) (w : World) : Calls Tryz.prog 253 #[.string a] w fun e w' => e = .returned (.bool false) ∧ w' = w := by
  go_enter Tryz.func253, Tryz.ntmps253
  go_wp2_with fail
  go_ret
  exact ⟨rfl, rfl⟩
theorem nanS2_any (a : ByteArray) (w : World) : Calls Tryz.prog 224 #[.string a] w fun e w' => e = .returned (.bool false) ∧ w' = w := by
  go_enter Tryz.func224, Tryz.ntmps224
  go_wp2_with fail
  go_ret
  exact ⟨rfl, rfl⟩
theorem lessS_any (a b : ByteArray) (w : World) :
    Calls Tryz.prog 223 #[.string a, .string b] w fun e w' => e = .returned (.bool (ltS a b)) ∧ w' = w := by
  have HN := Lib.hid nanS_any
  go_enter Tryz.func223, Tryz.ntmps223
  go_wp2_with fail
  refine (HN.out _ _).mono ?_
  rintro e w2 ⟨rfl, rfl⟩
  go_wp2_with fail
  go_ret
  exact ⟨rfl, rfl⟩
theorem cmpS_any (a b : ByteArray) (w : World) :
    Calls Tryz.prog 227 #[.string a, .string b] w fun e w' => e = .returned (.int .i64 (cmpS a b)) ∧ w' = w := by
  have HN := Lib.hid nanS_any
  unfold cmpS
  cases h1 : ltS a b with
  | true =>
    have e1 : Op.bytesLess a.toList b.toList = true := h1
    rw [if_pos rfl]
    clear h1
    go_enter Tryz.func227, Tryz.ntmps227
    go_wp2_with fail
    refine (HN.out _ _).mono ?_
    rintro e w2 ⟨rfl, rfl⟩
    go_wp2_with fail
    refine (HN.out _ _).mono ?_
    rintro e w2 ⟨rfl, rfl⟩
    go_wp2_with fail
    go_ret
    exact ⟨rfl, rfl⟩
  | false =>
    have e1 : Op.bytesLess a.toList b.toList = false := h1
    rw [if_neg (by simp)]
    cases h2 : leS a b with
    | true =>
      have e2 : (Op.bytesLess a.toList b.toList || a.toList == b.toList) = true := h2
      rw [e1, Bool.false_or] at e2
      rw [if_pos rfl]
      clear h1 h2
      go_enter Tryz.func227, Tryz.ntmps227
      go_wp2_with fail
      refine (HN.out _ _).mono ?_
      rintro e w2 ⟨rfl, rfl⟩
      go_wp2_with fail
      refine (HN.out _ _).mono ?_
      rintro e w2 ⟨rfl, rfl⟩
      go_wp2_with fail
      go_ret
      exact ⟨rfl, rfl⟩
    | false =>
      have e2 : (Op.bytesLess a.toList b.toList || a.toList == b.toList) = false := h2
      rw [e1, Bool.false_or] at e2
      rw [if_neg (by simp)]
      clear h1 h2
      go_enter Tryz.func227, Tryz.ntmps227
      go_wp2_with fail
      refine (HN.out _ _).mono ?_
      rintro e w2 ⟨rfl, rfl⟩
      go_wp2_with fail
      refine (HN.out _ _).mono ?_
      rintro e w2 ⟨rfl, rfl⟩
      go_wp2_with fail
      go_ret
      exact ⟨rfl, rfl⟩
end Go.Proofs.YtkhllknahjmciaaGreat

/-! Where a node stands among those in order. -/
namespace Go.Proofs.YtkhllknahjmciaaGreat
open Go.RowKit
set_option linter.unusedVariables false
set_option linter.unusedSimpArgs false

theorem find1_any (t : Nd) (id : Int) (w : World) (cs : List Value) (h : NdC w t cs) :
    Calls Tryz.prog 219 #[.agg cs.toArray, .int .i64 id] w fun e w' => e = .returned (.int .i64 (cmpI t.id id)) ∧ Ext w w' := by
  obtain ⟨la, lc, pa, pc, rfl, -, -⟩ := h
  have hb := Blk.new w #[.int .i64 t.id, .slice la t.labels.length lc, .slice pa t.props.length pc] 109
  have hw1 : Ext w (w.alloc (.cells #[.int .i64 t.id, .slice la t.labels.length lc, .slice pa t.props.length pc] 109)) := (Chg.refl w).alloc _
  obtain ⟨b0, -⟩ := blk3_base hb
  have HB := Lib.hid hw1
  clear hb hw1
  go_enter Tryz.func219, Tryz.ntmps219
  go_wp2_with fail
  refine (cmpI_any _ _ _).mono ?_
  rintro e w2 ⟨rfl, rfl⟩
  go_wp2_with fail
  go_ret
  exact ⟨rfl, HB.out⟩
def hitN : Option Nd → Int → Bool
  | some t, id => t.id == id
  | none, _ => false
set_option maxRecDepth 100000 in
set_option maxHeartbeats 1000000 in
theorem bsNode_any (ns : List Nd) (id : Int) (p : Nat) (w : World) (na : Option Addr) (nc : Nat) (h : NsC w ns na nc) (hp : p ≤ ns.length) (hn0 : ns.length ≤ 1000) (h1 : ∀ j t, ns[j]? = some t → j < p → t.id < id) (h2 : ∀ j t, ns[j]? = some t → p ≤ j → id ≤ t.id) :
    Calls Tryz.prog 218 #[.slice na ns.length nc, .int .i64 id, .func (.func 219) #[] #[]] w fun e w' => e = .returned (.tuple #[.int .i64 p, .bool (hitN ns[p]? id)]) ∧ Ext w w' := by
  have hnc : ns.length ≤ nc ∧ nc ≤ maxLen := by obtain ⟨css, h1, -⟩ := h; exact ⟨h1.1, h1.2.1⟩
  unfold maxLen at hnc
  obtain ⟨hnc, hnm⟩ := hnc
  obtain ⟨B, hB⟩ : ∃ B, (hitN ns[p]? id) = B := ⟨_, rfl⟩
  rw [hB]
  obtain ⟨n, hn⟩ : ∃ n, ns.length = n := ⟨_, rfl⟩
  rw [hn] at hnc hp hn0 ⊢
  have HH := Lib.hid (And.intro h (And.intro h1 (And.intro h2 (And.intro hB hn))))
  clear h h1 h2 hB hn
  go_enter Tryz.func218, Tryz.ntmps218
  go_wp2_with fail
  go_loopg [9, 10] n (fun g l9 l10 wr => ∃ (i j : Nat), i ≤ p ∧ p ≤ j ∧ j ≤ n ∧ Ext w wr ∧ l9 = .int .i64 i ∧ l10 = .int .i64 j ∧ g = j - i)
  case atStart => exact ⟨0, n, Nat.zero_le _, hp, Nat.le_refl _, Chg.refl _, rfl, rfl, rfl⟩
  case round =>
    obtain ⟨i, j, hi, hj, hjn, hx, rfl, rfl, rfl⟩ := hrel
    by_cases hij : i < j
    · have hij' : (i : Int) < j := by omega
      obtain ⟨m, hm⟩ : ∃ m, (i + j) / 2 = m := ⟨_, rfl⟩
      have hmi : i ≤ m ∧ m < j := by omega
      have hme : ((i : Int) + j) / 2 = m := by omega
      have hj9 : (j : Int) ≤ 1000 := by omega
      have hm1 : (0 : Int) ≤ m := by omega
      have hm2 : (m : Int) < n := by omega
      obtain ⟨t, ht⟩ : ∃ t, ns[m]? = some t := ⟨_, List.getElem?_eq_getElem (by rw [HH.out.2.2.2.2]; omega)⟩
      obtain ⟨x, la, lc, pa, pc, rfl, c0, c1, c2, hsl, hsp⟩ := nd_at (HH.out.1.ext hx) ht
      have HF := Lib.hid (find1_any t id wr [.int .i64 t.id, .slice la t.labels.length lc, .slice pa t.props.length pc] ⟨la, lc, pa, pc, rfl, hsl, hsp⟩)
      generalize t.labels.length = sl at HF c1
      generalize t.props.length = sp at HF c2
      obtain ⟨td, htd⟩ : ∃ d, t.id = d := ⟨_, rfl⟩
      rw [htd] at HF c0
      have HX := Lib.hid hx
      have HM := Lib.hid hmi
      clear hx hsl hsp hm hmi
      by_cases hmp : m < p
      · have hlt : td < id := by rw [← htd]; exact HH.out.2.1 m t ht hmp
        have e1 : cmpI td id = -1 := by unfold cmpI; rw [if_pos hlt]
        rw [e1] at HF
        clear e1 hlt ht htd
        go_wp2_with fail
        refine HF.out.mono ?_
        rintro e w2 ⟨rfl, hx2⟩
        have HX2 := Lib.hid (HX.out.trans hx2)
        clear hx2
        go_wp2_with fail
        go_roundg (j - (m + 1))
        case measure => have := HM.out; omega
        case rel => exact ⟨m + 1, j, by omega, hj, hjn, HX2.out, rfl, rfl, rfl⟩
      · have hge : id ≤ td := by rw [← htd]; exact HH.out.2.2.1 m t ht (by omega)
        obtain ⟨c, hc⟩ : ∃ c, cmpI td id = c := ⟨_, rfl⟩
        have hc0 : ¬ c < 0 := by rw [← hc]; unfold cmpI; rw [if_neg (by omega)]; split <;> omega
        have e1 : decide (c < 0) = false := by simpa using hc0
        rw [hc] at HF
        clear hge ht htd hc hc0
        go_wp2_with fail
        refine HF.out.mono ?_
        rintro e w2 ⟨rfl, hx2⟩
        have HX2 := Lib.hid (HX.out.trans hx2)
        clear hx2
        go_wp2_with fail
        go_roundg (m - i)
        case measure => have := HM.out; omega
        case rel => exact ⟨i, m, hi, by omega, by have := HM.out; omega, HX2.out, rfl, rfl, rfl⟩
    · obtain rfl : i = p := by omega
      obtain rfl : j = i := by omega
      have HX := Lib.hid hx
      by_cases hjn2 : j < n
      · have hjn' : (j : Int) < n := by omega
        obtain ⟨t, ht⟩ : ∃ t, ns[j]? = some t := ⟨_, List.getElem?_eq_getElem (by rw [HH.out.2.2.2.2]; omega)⟩
        obtain ⟨x, la, lc, pa, pc, rfl, c0, c1, c2, hsl, hsp⟩ := nd_at (HH.out.1.ext hx) ht
        have HF := Lib.hid (find1_any t id wr [.int .i64 t.id, .slice la t.labels.length lc, .slice pa t.props.length pc] ⟨la, lc, pa, pc, rfl, hsl, hsp⟩)
        generalize t.labels.length = sl at HF c1
        generalize t.props.length = sp at HF c2
        have hB := HH.out.2.2.2.1
        rw [ht] at hB
        change (t.id == id) = B at hB
        obtain ⟨td, htd⟩ : ∃ d, t.id = d := ⟨_, rfl⟩
        rw [htd] at HF c0 hB
        have e1 : (cmpI td id == 0) = B := by
          rw [← hB]
          unfold cmpI
          by_cases h1 : td < id
          · rw [if_pos h1]
            have : (td == id) = false := by simp; omega
            rw [this]; rfl
          · rw [if_neg h1]
            by_cases h2 : id < td
            · rw [if_pos h2]
              have : (td == id) = false := by simp; omega
              rw [this]; rfl
            · rw [if_neg h2]
              have : (td == id) = true := by simp; omega
              rw [this]; rfl
        generalize cmpI td id = c at e1 HF
        clear hx hsl hsp ht htd hB hij
        go_wp2_with fail
        refine HF.out.mono ?_
        rintro e w2 ⟨rfl, hx2⟩
        go_wp2_with fail
        go_ret2
        exact ⟨rfl, HX.out.trans hx2⟩
      · obtain rfl : j = n := by omega
        have hB := HH.out.2.2.2.1
        rw [List.getElem?_eq_none (by rw [HH.out.2.2.2.2]; exact Nat.le_refl _)] at hB
        change false = B at hB
        subst hB
        clear hx
        go_wp2_with fail
        go_ret2
        exact ⟨rfl, HX.out⟩
end Go.Proofs.YtkhllknahjmciaaGreat

/-! Where a name stands that is behind all. -/
namespace Go.Proofs.YtkhllknahjmciaaGreat
open Go.RowKit
set_option linter.unusedVariables false
set_option linter.unusedSimpArgs false

theorem byName_any (a b name : ByteArray) (w : World) :
    Calls Tryz.prog 177 #[.agg #[.string a, .string b], .string name] w fun e w' => e = .returned (.int .i64 (cmpS a name)) ∧ Ext w w' := by
  have hb := Blk.new w #[.string a, .string b] 142
  have hw1 : Ext w (w.alloc (.cells #[.string a, .string b] 142)) := (Chg.refl w).alloc _
  have b0 : (w.alloc (.cells #[.string a, .string b] 142)).cell? ⟨w.heap.size, 0, none⟩ = some (.string a) := hb.cell 0 _ rfl
  have HB := Lib.hid hw1
  clear hb hw1
  go_enter Tryz.func177, Tryz.ntmps177
  go_wp2_with fail
  refine (cmpS_any _ _ _).mono ?_
  rintro e w2 ⟨rfl, rfl⟩
  go_wp2_with fail
  go_ret
  exact ⟨rfl, HB.out⟩
set_option maxRecDepth 100000 in
set_option maxHeartbeats 1000000 in
theorem bsProp_any (ps : List (ByteArray × ByteArray)) (name : ByteArray) (n : Nat) (w : World) (na : Option Addr) (nc : Nat) (h : Cells w na n nc (propCells ps)) (hn : ps.length = n) (hn0 : n ≤ 1000) (h1 : ∀ p ∈ ps, ltS p.1 name = true) :
    Calls Tryz.prog 176 #[.slice na n nc, .string name, .func (.func 177) #[] #[]] w fun e w' => e = .returned (.tuple #[.int .i64 n, .bool false]) ∧ Ext w w' := by
  have hnc := h.1
  have hnm := h.2.1
  unfold maxLen at hnm
  have HH := Lib.hid (And.intro h (And.intro h1 hn))
  clear h h1 hn
  go_enter Tryz.func176, Tryz.ntmps176
  go_wp2_with fail
  go_loopg [9, 10] n (fun g l9 l10 wr => ∃ (i : Nat), i ≤ n ∧ Ext w wr ∧ l9 = .int .i64 i ∧ l10 = .int .i64 n ∧ g = n - i)
  case atStart => exact ⟨0, Nat.zero_le _, Chg.refl _, rfl, rfl, rfl⟩
  case round =>
    obtain ⟨i, hi, hx, rfl, rfl, rfl⟩ := hrel
    by_cases hij : i < n
    · have hij' : (i : Int) < n := by omega
      obtain ⟨m, hm⟩ : ∃ m, (i + n) / 2 = m := ⟨_, rfl⟩
      have hmi : i ≤ m ∧ m < n := by omega
      have hme : ((i : Int) + n) / 2 = m := by omega
      have hj9 : (n : Int) ≤ 1000 := by omega
      have hm1 : (0 : Int) ≤ m := by omega
      have hm2 : (m : Int) < n := by omega
      obtain ⟨⟨s, v⟩, ht⟩ : ∃ t, ps[m]? = some t := ⟨_, List.getElem?_eq_getElem (by rw [HH.out.2.2]; omega)⟩
      obtain ⟨x, rfl, c0, c1⟩ := prop_at (HH.out.1.ext hx) ht
      dsimp only at c0 c1
      have HF := Lib.hid (byName_any s v name wr)
      have e1 : cmpS s name = -1 := by unfold cmpS; rw [if_pos (HH.out.2.1 _ (List.mem_of_getElem? ht))]
      rw [e1] at HF
      have HX := Lib.hid hx
      have HM := Lib.hid hmi
      clear hx hm hmi e1 ht
      go_wp2_with fail
      refine HF.out.mono ?_
      rintro e w2 ⟨rfl, hx2⟩
      have HX2 := Lib.hid (HX.out.trans hx2)
      clear hx2
      go_wp2_with fail
      go_roundg (n - (m + 1))
      case measure => have := HM.out; omega
      case rel => exact ⟨m + 1, by have := HM.out; omega, HX2.out, rfl, rfl, rfl⟩
    · obtain rfl : i = n := by omega
      have HX := Lib.hid hx
      clear hx
      go_wp2_with fail
      go_ret2
      exact ⟨rfl, HX.out⟩
set_option maxRecDepth 100000 in
set_option maxHeartbeats 1000000 in
theorem bsStr_any (ps : List ByteArray) (name : ByteArray) (n : Nat) (w : World) (na : Option Addr) (nc : Nat) (h : Cells w na n nc (strCells ps)) (hn : ps.length = n) (hn0 : n ≤ 1000) (h1 : ∀ p ∈ ps, ltS p name = true) :
    Calls Tryz.prog 174 #[.slice na n nc, .string name] w fun e w' => e = .returned (.tuple #[.int .i64 n, .bool false]) ∧ w' = w := by
  have hnc := h.1
  have hnm := h.2.1
  unfold maxLen at hnm
  have HH := Lib.hid (And.intro h (And.intro h1 hn))
  clear h h1 hn
  go_enter Tryz.func174, Tryz.ntmps174
  go_wp2_with fail
  go_loopg [7, 8] n (fun g l7 l8 wr => ∃ (i : Nat), i ≤ n ∧ wr = w ∧ l7 = .int .i64 i ∧ l8 = .int .i64 n ∧ g = n - i)
  case atStart => exact ⟨0, Nat.zero_le _, rfl, rfl, rfl, rfl⟩
  case round =>
    obtain ⟨i, hi, rfl, rfl, rfl, rfl⟩ := hrel
    by_cases hij : i < n
    · have hij' : (i : Int) < n := by omega
      obtain ⟨m, hm⟩ : ∃ m, (i + n) / 2 = m := ⟨_, rfl⟩
      have hmi : i ≤ m ∧ m < n := by omega
      have hme : ((i : Int) + n) / 2 = m := by omega
      have hj9 : (n : Int) ≤ 1000 := by omega
      have hm1 : (0 : Int) ≤ m := by omega
      have hm2 : (m : Int) < n := by omega
      obtain ⟨s, ht⟩ : ∃ t, ps[m]? = some t := ⟨_, List.getElem?_eq_getElem (by rw [HH.out.2.2]; omega)⟩
      obtain ⟨x, rfl, c0⟩ := str_at HH.out.1 ht
      have HF := Lib.hid (lessS_any s name wr)
      rw [HH.out.2.1 _ (List.mem_of_getElem? ht)] at HF
      have HM := Lib.hid hmi
      clear hm hmi ht
      go_wp2_with fail
      refine HF.out.mono ?_
      rintro e w2 ⟨rfl, rfl⟩
      go_wp2_with fail
      go_roundg (n - (m + 1))
      case measure => have := HM.out; omega
      case rel => exact ⟨m + 1, by have := HM.out; omega, rfl, rfl, rfl, rfl⟩
    · obtain rfl : i = n := by omega
      go_wp2_with fail
      go_ret2
      exact ⟨rfl, rfl⟩
end Go.Proofs.YtkhllknahjmciaaGreat
