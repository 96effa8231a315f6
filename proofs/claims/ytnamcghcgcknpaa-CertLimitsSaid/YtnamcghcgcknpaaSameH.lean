/-
  Two certs, whatever they are: told to be the same only if they are written alike (chapter 24).
-/
import Derived.Test.YtnamcghcgcknpaaSameG
namespace Go.Proofs.Ytnamcghcgcknpaa
open Go.RowKit
set_option linter.unusedVariables false

set_option maxRecDepth 100000 in
set_option maxHeartbeats 1600000 in
theorem sameC_gen {w : World} {c1 c2 : Crt} {a1 a2 a3 b1 b2 b3 : Option Addr} {p1 p2 p3 q1 q2 q3 : Nat} {us vs : List Value} (h1 : CrtV w c1 a1 p1 a2 p2 a3 p3 us) (h2 : CrtV w c2 b1 q1 b2 q2 b3 q3 vs) (hx1 : c1.claim.x < 18446744073709551616) (hx2 : c2.claim.x < 18446744073709551616) (m1 : mayV c1.claim = 0) (m2 : mayV c2.claim = 0) :
    Calls Try.prog 17 #[crtV c1 a1 p1 a2 p2 a3 p3, crtV c2 b1 q1 b2 q2 b3 q3] w (Says (eCrt c1 = eCrt c2) w) := by
  obtain ⟨P, hP⟩ : ∃ P : Prop, (eCrt c1 = eCrt c2) = P := ⟨_, rfl⟩
  rw [hP]
  have HP : Hid (c1.conj = c2.conj → c1.nodes = c2.nodes → eVal c1.claim = eVal c2.claim → c1.walks = c2.walks → P) := Lib.hid (fun e1 e2 e3 e4 => hP ▸ (by unfold eCrt; rw [e1, e2, e3, e4]))
  clear hP
  obtain ⟨cj, ns, ws, v1⟩ := c1
  obtain ⟨cj2, ns2, ws2, v2⟩ := c2
  simp only at hx1 hx2 m1 m2 HP
  have hI := fun w2 (k : Ext w w2) => eqInts_gen (w := w2) (h1.ext k).nodes (h2.ext k).nodes
  have hV := fun w2 (k : Ext w w2) => sameV_gen (w := w2) (h1.ext k).words (h2.ext k).words hx1 hx2 m1 m2
  have hW := fun w2 (k : Ext w w2) => eqWalks_gen (w := w2) (h1.ext k).walks (h2.ext k).walks (h1.ext k).rows (h2.ext k).rows
  unfold crtV
  unfold valV at hV
  simp only at hI hV hW ⊢
  obtain ⟨P1, hP1⟩ : ∃ P : Prop, (ns = ns2) = P := ⟨_, rfl⟩
  obtain ⟨P2, hP2⟩ : ∃ P : Prop, (eVal v1 = eVal v2) = P := ⟨_, rfl⟩
  obtain ⟨P3, hP3⟩ : ∃ P : Prop, (ws = ws2) = P := ⟨_, rfl⟩
  rw [hP1] at hI HP
  rw [hP2] at hV HP
  rw [hP3] at hW HP
  clear hP1 hP2 hP3
  obtain ⟨s1, inf1, l1, lev1, y1⟩ := v1
  obtain ⟨s2, inf2, l2, lev2, y2⟩ := v2
  simp only at hI hV hW ⊢
  have HI := Lib.hid hI
  have HV := Lib.hid hV
  have HW := Lib.hid hW
  clear hI hV hW h1 h2 hx1 hx2 m1 m2
  generalize ns.length = n at HI ⊢
  generalize ns2.length = nn at HI ⊢
  generalize ws.length = m at HW ⊢
  generalize ws2.length = mm at HW ⊢
  generalize l1.length = n1 at HV ⊢
  generalize l2.length = n2 at HV ⊢
  have hb : Ext w ((w.alloc (Obj.cells #[.int .i64 cj, .slice a1 n p1, .slice a2 m p2, .int .i64 s1, .bool inf1, .slice a3 n1 p3, .int .i64 lev1, .float .f64 y1] 33)).alloc (Obj.cells #[.int .i64 cj2, .slice b1 nn q1, .slice b2 mm q2, .int .i64 s2, .bool inf2, .slice b3 n2 q3, .int .i64 lev2, .float .f64 y2] 33)) := ((Chg.refl w).alloc _).alloc _
  have hk1 := ((Blk.new w #[.int .i64 cj, .slice a1 n p1, .slice a2 m p2, .int .i64 s1, .bool inf1, .slice a3 n1 p3, .int .i64 lev1, .float .f64 y1] 33).chg (S := fun _ => False) ((Chg.refl _).alloc (Obj.cells #[.int .i64 cj2, .slice b1 nn q1, .slice b2 mm q2, .int .i64 s2, .bool inf2, .slice b3 n2 q3, .int .i64 lev2, .float .f64 y2] 33)) (fun h => h))
  have hk2 := Blk.new (w.alloc (Obj.cells #[.int .i64 cj, .slice a1 n p1, .slice a2 m p2, .int .i64 s1, .bool inf1, .slice a3 n1 p3, .int .i64 lev1, .float .f64 y1] 33)) #[.int .i64 cj2, .slice b1 nn q1, .slice b2 mm q2, .int .i64 s2, .bool inf2, .slice b3 n2 q3, .int .i64 lev2, .float .f64 y2] 33
  rw [World.size_alloc] at hk2
  have HX := Lib.hid hb
  have HK := Lib.hid (And.intro hk1 hk2)
  clear hb hk1 hk2
  by_cases hcj : cj = cj2
  · subst hcj
    go_enter Try.func17, Try.ntmps17
    go_wp2_with fail
    refine (HI.out _ HX.out).mono ?_
    rintro e w2 ⟨⟨bI, rfl, hbI⟩, hx2⟩
    have HbI := Lib.hid hbI
    clear hbI
    cases bI with
    | false =>
      go_wp2_with fail
      go_ret
      exact Says.no (HX.out.trans hx2)
    | true =>
      have k1 := HK.out.1.chg hx2 (fun h => h)
      have k2 := HK.out.2.chg hx2 (fun h => h)
      obtain ⟨g0, f0, g1, f1, g2, f2, g3, f3, g4, f4, g5, f5, g6, f6, g7, f7⟩ := blk8_base k1
      obtain ⟨j0, i0, j1, i1, j2, i2, j3, i3, j4, i4, j5, i5, j6, i6, j7, i7⟩ := blk8_base k2
      have HKK := Lib.hid (And.intro k1 k2)
      have HX2 := Lib.hid (HX.out.trans hx2)
      clear k1 k2 hx2
      go_wp2_with fail
      refine (HV.out _ HX2.out).mono ?_
      rintro e w3 ⟨⟨bV, rfl, hbV⟩, hx3⟩
      have HbV := Lib.hid hbV
      clear hbV
      clear g0 f0 g1 f1 g2 f2 g3 f3 g4 f4 g5 f5 g6 f6 g7 f7 j0 i0 j1 i1 j2 i2 j3 i3 j4 i4 j5 i5 j6 i6 j7 i7
      have k1 := HKK.out.1.chg hx3 (fun h => h)
      have k2 := HKK.out.2.chg hx3 (fun h => h)
      have g2 := k1.cell 2 _ rfl
      have j2 := k2.cell 2 _ rfl
      have HX3 := Lib.hid (HX2.out.trans hx3)
      clear k1 k2 hx3
      cases bV with
      | false =>
        go_wp2_with fail
        go_ret
        exact Says.no HX3.out
      | true =>
        go_wp2_with fail
        refine (HW.out _ HX3.out).mono ?_
        rintro e w4 ⟨⟨bW, rfl, hbW⟩, hx4⟩
        have HbW := Lib.hid hbW
        clear hbW
        cases bW with
        | false =>
          go_wp2_with fail
          go_ret
          exact Says.no (HX3.out.trans hx4)
        | true =>
          go_wp2_with fail
          go_ret
          exact Says.yes (HP.out (by trivial) (HbI.out (by trivial)) (HbV.out (by trivial)) (HbW.out (by trivial))) (HX3.out.trans hx4)
  · have hne : (cj == cj2) = false := by simpa using hcj
    clear hcj
    go_enter Try.func17, Try.ntmps17
    go_wp2_with fail
    go_ret
    exact Says.no HX.out
end Go.Proofs.Ytnamcghcgcknpaa
