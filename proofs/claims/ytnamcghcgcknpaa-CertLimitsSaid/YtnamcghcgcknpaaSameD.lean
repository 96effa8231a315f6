/-
  Two certs that are the same (chapter 24).
-/
import Derived.Test.YtnamcghcgcknpaaSameC
namespace Go.Proofs.Ytnamcghcgcknpaa
open Go.RowKit
set_option linter.unusedVariables false

theorem same1_any {w : World} {a1 a2 : Option Addr} {cap1 cap2 : Nat} {l : List (Int × Bool)} (h1 : Cells w a1 l.length cap1 (stepsI l)) (h2 : Cells w a2 l.length cap2 (stepsI l)) :
    Calls Try.prog 39 #[.slice a1 l.length cap1, .slice a2 l.length cap2] w fun e w' => e = .returned (.bool true) ∧ Ext w w' := by
  have H := Lib.hid (eqSteps_any h1 h2)
  clear h1 h2
  generalize l.length = n at H ⊢
  go_enter Try.func39, Try.ntmps39
  go_wp2_with (go_at_call 40; refine H.out.mono ?_; rintro e w' ⟨rfl, hx⟩)
  go_ret
  exact ⟨rfl, hx⟩
set_option maxHeartbeats 800000 in
theorem eqWalks_any {w : World} {a1 a2 : Option Addr} {cap1 cap2 : Nat} {us1 us2 : List Value} {ls : List (List (Int × Bool))} (h1 : Cells w a1 ls.length cap1 us1) (h2 : Cells w a2 ls.length cap2 us2) (r1 : WalkRows w us1 ls) (r2 : WalkRows w us2 ls) :
    Calls Try.prog 38 #[.slice a1 ls.length cap1, .slice a2 ls.length cap2, .func (.func 39) #[] #[]] w fun e w' => e = .returned (.bool true) ∧ Ext w w' := by
  have hc1 := h1.1
  have hc2 := h2.1
  have hm1 := h1.2.1
  have hm2 := h2.2.1
  unfold maxLen at hm1 hm2
  have H1 := Lib.hid h1
  have H2 := Lib.hid h2
  have HR := Lib.hid (And.intro r1 r2)
  clear h1 h2 r1 r2
  obtain ⟨n, hn⟩ : ∃ n, ls.length = n := ⟨_, rfl⟩
  rw [hn] at hc1 hc2 ⊢
  have HN := Lib.hid hn
  clear hn
  go_enter Try.func38, Try.ntmps38
  go_wp2_with fail
  go_loopg [17] n (fun g l17 wr => ∃ i : Nat, Ext w wr ∧ i ≤ n ∧ l17 = .int .i64 i ∧ g = n - i)
  case atStart => exact ⟨0, Chg.refl w, Nat.zero_le _, rfl, rfl⟩
  case round =>
    obtain ⟨i, hex, hi, rfl, rfl⟩ := hrel
    have HE := Lib.hid hex
    clear hex
    by_cases hin : i < n
    · have hin' : (i : Int) < n := by omega
      obtain ⟨z, hz⟩ : ∃ z, ls[i]? = some z := ⟨_, List.getElem?_eq_getElem (by rw [HN.out]; exact hin)⟩
      obtain ⟨b1, p1, hu1, hcu1⟩ := HR.out.1.get.2 i z hz
      obtain ⟨b2, p2, hu2, hcu2⟩ := HR.out.2.get.2 i z hz
      obtain ⟨x, rfl, c0⟩ := H1.out.2.2 i _ hu1
      obtain ⟨y, rfl, c1⟩ := H2.out.2.2 i _ hu2
      have d0 := (HE.out.cell (lt_of_cell c0) (fun h => h)).trans c0
      have d1 := (HE.out.cell (lt_of_cell c1) (fun h => h)).trans c1
      have HS := Lib.hid (fun w2 (k : Ext w w2) => same1_any (w := w2) (hcu1.chg (S := fun _ => False) k (fun _ _ h => h)) (hcu2.chg (S := fun _ => False) k (fun _ _ h => h)))
      clear c0 c1 hz hu1 hu2 hcu1 hcu2
      generalize z.length = q at d0 d1 HS
      go_wp2_with (go_at_call 39; refine (HS.out _ HE.out).mono ?_; rintro e w' ⟨rfl, hx⟩)
      go_roundg (n - (i + 1))
      case measure => omega
      case rel => exact ⟨i + 1, HE.out.trans hx, by omega, rfl, rfl⟩
    · have e0 : n = i := by omega
      subst e0
      have hin' : ¬ (n : Int) < n := by omega
      go_wp2_with fail
      go_ret
      exact ⟨rfl, HE.out⟩
set_option maxRecDepth 100000 in
set_option maxHeartbeats 1600000 in
theorem sameC_eq {w : World} {c1 c2 : Crt} {a1 a2 a3 b1 b2 b3 : Option Addr} {p1 p2 p3 q1 q2 q3 : Nat} {us vs : List Value} (h1 : CrtV w c1 a1 p1 a2 p2 a3 p3 us) (h2 : CrtV w c2 b1 q1 b2 q2 b3 q3 vs) (hx1 : c1.claim.x < 18446744073709551616) (hx2 : c2.claim.x < 18446744073709551616) (m1 : mayV c1.claim = 0) (m2 : mayV c2.claim = 0) (hl : LikeV c1.claim c2.claim) (hc : c1.conj = c2.conj) (hn : c1.nodes = c2.nodes) (hw : c1.walks = c2.walks) :
    Calls Try.prog 17 #[crtV c1 a1 p1 a2 p2 a3 p3, crtV c2 b1 q1 b2 q2 b3 q3] w fun e w' => e = .returned (.bool true) ∧ Ext w w' := by
  obtain ⟨cj, ns, ws, v1⟩ := c1
  obtain ⟨cj2, ns2, ws2, v2⟩ := c2
  simp only at hx1 hx2 m1 m2 hl hc hn hw
  subst hc hn hw
  have hI := fun w2 (k : Ext w w2) => eqInts_any (w := w2) (h1.ext k).nodes (h2.ext k).nodes
  have hV := fun w2 (k : Ext w w2) => sameV_eq (w := w2) (h1.ext k).words (h2.ext k).words hx1 hx2 m1 m2 hl
  have hW := fun w2 (k : Ext w w2) => eqWalks_any (w := w2) (h1.ext k).walks (h2.ext k).walks (h1.ext k).rows (h2.ext k).rows
  unfold crtV
  unfold valV at hV
  simp only at hI hV hW ⊢
  obtain ⟨s1, inf1, l1, lev1, y1⟩ := v1
  obtain ⟨s2, inf2, l2, lev2, y2⟩ := v2
  simp only at hI hV hW ⊢
  have HI := Lib.hid hI
  have HV := Lib.hid hV
  have HW := Lib.hid hW
  clear hI hV hW h1 h2 hx1 hx2 m1 m2 hl
  generalize ns.length = n at HI ⊢
  generalize ws.length = m at HW ⊢
  generalize l1.length = n1 at HV ⊢
  generalize l2.length = n2 at HV ⊢
  have hb : Ext w ((w.alloc (Obj.cells #[.int .i64 cj, .slice a1 n p1, .slice a2 m p2, .int .i64 s1, .bool inf1, .slice a3 n1 p3, .int .i64 lev1, .float .f64 y1] 33)).alloc (Obj.cells #[.int .i64 cj, .slice b1 n q1, .slice b2 m q2, .int .i64 s2, .bool inf2, .slice b3 n2 q3, .int .i64 lev2, .float .f64 y2] 33)) := ((Chg.refl w).alloc _).alloc _
  have hk1 := ((Blk.new w #[.int .i64 cj, .slice a1 n p1, .slice a2 m p2, .int .i64 s1, .bool inf1, .slice a3 n1 p3, .int .i64 lev1, .float .f64 y1] 33).chg (S := fun _ => False) ((Chg.refl _).alloc (Obj.cells #[.int .i64 cj, .slice b1 n q1, .slice b2 m q2, .int .i64 s2, .bool inf2, .slice b3 n2 q3, .int .i64 lev2, .float .f64 y2] 33)) (fun h => h))
  have hk2 := Blk.new (w.alloc (Obj.cells #[.int .i64 cj, .slice a1 n p1, .slice a2 m p2, .int .i64 s1, .bool inf1, .slice a3 n1 p3, .int .i64 lev1, .float .f64 y1] 33)) #[.int .i64 cj, .slice b1 n q1, .slice b2 m q2, .int .i64 s2, .bool inf2, .slice b3 n2 q3, .int .i64 lev2, .float .f64 y2] 33
  rw [World.size_alloc] at hk2
  have HX := Lib.hid hb
  have HK := Lib.hid (And.intro hk1 hk2)
  clear hb hk1 hk2
  go_enter Try.func17, Try.ntmps17
  go_wp2_with fail
  refine (HI.out _ HX.out).mono ?_
  rintro e w2 ⟨rfl, hx2⟩
  have k1 := HK.out.1.chg hx2 (fun h => h)
  have k2 := HK.out.2.chg hx2 (fun h => h)
  obtain ⟨g0, f0, g1, f1, g2, f2, g3, f3, g4, f4, g5, f5, g6, f6, g7, f7⟩ := blk8_base k1
  obtain ⟨j0, i0, j1, i1, j2, i2, j3, i3, j4, i4, j5, i5, j6, i6, j7, i7⟩ := blk8_base k2
  have HKK := Lib.hid (And.intro k1 k2)
  have HX2 := Lib.hid (HX.out.trans hx2)
  clear k1 k2 hx2
  go_wp2_with fail
  refine (HV.out _ HX2.out).mono ?_
  rintro e w3 ⟨rfl, hx3⟩
  clear g0 f0 g1 f1 g2 f2 g3 f3 g4 f4 g5 f5 g6 f6 g7 f7 j0 i0 j1 i1 j2 i2 j3 i3 j4 i4 j5 i5 j6 i6 j7 i7
  have k1 := HKK.out.1.chg hx3 (fun h => h)
  have k2 := HKK.out.2.chg hx3 (fun h => h)
  have g2 := k1.cell 2 _ rfl
  have j2 := k2.cell 2 _ rfl
  have HX3 := Lib.hid (HX2.out.trans hx3)
  clear k1 k2 hx3
  go_wp2_with fail
  refine (HW.out _ HX3.out).mono ?_
  rintro e w4 ⟨rfl, hx4⟩
  go_wp2_with fail
  go_ret
  exact ⟨rfl, HX3.out.trans hx4⟩
/-- A sum of numbers that are not negative, held at a limit. -/
theorem sum_any {w : World} {z : Int} {a : Option Addr} {cap : Nat} {l : List Int} (h : Cells w a l.length cap (l.map (Value.int .i64))) (hz : 0 ≤ z ∧ z ≤ 1099511627776) (hl : ∀ y ∈ l, 0 ≤ y) :
    Calls Try.prog 35 #[.int .i64 z, .slice a l.length cap] w fun e w' => (∃ y, e = .returned (.int .i64 y) ∧ 0 ≤ y ∧ y ≤ 1099511627776) ∧ w' = w := by
  have hc := h.1
  have hm := h.2.1
  unfold maxLen at hm
  have H := Lib.hid h
  have HZ := Lib.hid hz
  have HL := Lib.hid hl
  clear h hz hl
  obtain ⟨n, hn⟩ : ∃ n, l.length = n := ⟨_, rfl⟩
  rw [hn] at hc ⊢
  have HN := Lib.hid hn
  clear hn
  go_enter Try.func35, Try.ntmps35
  go_wp2_with fail
  go_loopg [0, 5] n (fun g l0 l5 wr => ∃ (i : Nat) (y : Int), wr = w ∧ i ≤ n ∧ 0 ≤ y ∧ y ≤ 1099511627776 ∧ l0 = .int .i64 y ∧ l5 = .int .i64 i ∧ g = n - i)
  case atStart => exact ⟨0, z, rfl, Nat.zero_le _, HZ.out.1, HZ.out.2, rfl, rfl, rfl⟩
  case round =>
    obtain ⟨i, y, rfl, hi, hy0, hy1, rfl, rfl, rfl⟩ := hrel
    by_cases hin : i < n
    · have hin' : (i : Int) < n := by omega
      obtain ⟨u, hu⟩ : ∃ u, l[i]? = some u := ⟨_, List.getElem?_eq_getElem (by rw [HN.out]; exact hin)⟩
      obtain ⟨x, rfl, c0⟩ := int_cell H.out hu
      have hu0 := HL.out u (List.mem_of_getElem? hu)
      have hy2 : ¬ (1099511627776 : Int) < y := by omega
      clear hu
      by_cases hbig : 1099511627776 - y < u
      · go_wp2_with fail
        go_ret
        exact ⟨⟨_, rfl, by omega, by omega⟩, rfl⟩
      · have hs1 : y + u ≤ 1099511627776 := by omega
        have hs0 : 0 ≤ y + u := by omega
        go_wp2_with fail
        go_roundg (n - (i + 1))
        case measure => omega
        case rel => exact ⟨i + 1, y + u, rfl, by omega, hs0, hs1, rfl, rfl, rfl⟩
    · have e0 : n = i := by omega
      subst e0
      have hin' : ¬ (n : Int) < n := by omega
      go_wp2_with fail
      go_ret
      exact ⟨⟨_, rfl, hy0, hy1⟩, rfl⟩
end Go.Proofs.Ytnamcghcgcknpaa
