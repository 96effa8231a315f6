/-
  Two certs, whatever they are: told to be the same only if they are written alike (chapter 24).
-/
import Derived.Test.YtnamcghcgcknpaaSameF
import Derived.Test.YtnamcghcgcknpaaSameD
namespace Go.Proofs.Ytnamcghcgcknpaa
open Go.RowKit
set_option linter.unusedVariables false

set_option maxRecDepth 100000 in
set_option maxHeartbeats 800000 in
theorem both_no {w : World} {v1 v2 : Val} {a1 a2 : Option Addr} {cap1 cap2 : Nat} (h1 : Cells w a1 v1.w.length cap1 (wordCells v1.w)) (h2 : Cells w a2 v2.w.length cap2 (wordCells v2.w)) (x1 : v1.x < 18446744073709551616) (x2 : v2.x < 18446744073709551616) (m1 : mayV v1 = 0) (m2 : mayV v2 = 0) (hs : v1.sem ≠ v2.sem) :
    Calls Try.prog 60 #[valV v1 a1 cap1, valV v2 a2 cap2] w fun e w' => e = .returned (.int .i64 9) ∧ Ext w w' := by
  obtain ⟨s1, inf1, l1, lev1, y1⟩ := v1
  obtain ⟨s2, inf2, l2, lev2, y2⟩ := v2
  simp only at h1 h2 x1 x2 hs
  have hb : Ext w ((w.alloc (Obj.cells #[.int .i64 s1, .bool inf1, .slice a1 l1.length cap1, .int .i64 lev1, .float .f64 y1] 31)).alloc (Obj.cells #[.int .i64 s2, .bool inf2, .slice a2 l2.length cap2, .int .i64 lev2, .float .f64 y2] 31)) := ((Chg.refl w).alloc _).alloc _
  have hk1 := ((Blk.new w #[.int .i64 s1, .bool inf1, .slice a1 l1.length cap1, .int .i64 lev1, .float .f64 y1] 31).chg (S := fun _ => False) ((Chg.refl _).alloc (Obj.cells #[.int .i64 s2, .bool inf2, .slice a2 l2.length cap2, .int .i64 lev2, .float .f64 y2] 31)) (fun h => h))
  have hk2 := Blk.new (w.alloc (Obj.cells #[.int .i64 s1, .bool inf1, .slice a1 l1.length cap1, .int .i64 lev1, .float .f64 y1] 31)) #[.int .i64 s2, .bool inf2, .slice a2 l2.length cap2, .int .i64 lev2, .float .f64 y2] 31
  rw [World.size_alloc] at hk2
  have hM1 := may_any (v := ⟨s1, inf1, l1, lev1, y1⟩) (h1.chg (S := fun _ => False) hb (fun _ _ h => h)) x1
  have hM2 := fun w2 (k : Ext w w2) => may_any (w := w2) (v := ⟨s2, inf2, l2, lev2, y2⟩) (h2.chg (S := fun _ => False) k (fun _ _ h => h)) x2
  rw [m1] at hM1
  rw [m2] at hM2
  unfold valV at hM1 hM2 ⊢
  simp only at hM1 hM2 ⊢
  have HX := Lib.hid hb
  have HM1 := Lib.hid hM1
  have HM2 := Lib.hid hM2
  have HK := Lib.hid (And.intro hk1 hk2)
  have hne : (s1 != s2) = true := by simpa using hs
  clear h1 h2 m1 m2 x1 x2 hb hM1 hM2 hk1 hk2 hs
  generalize l1.length = n1 at HX HM1 HM2 HK ⊢
  generalize l2.length = n2 at HX HM1 HM2 HK ⊢
  go_enter Try.func60, Try.ntmps60
  go_wp2_with fail
  refine HM1.out.mono ?_
  rintro e w2 ⟨rfl, hx2⟩
  have k1 := HK.out.1.chg hx2 (fun h => h)
  have k2 := HK.out.2.chg hx2 (fun h => h)
  obtain ⟨g0, f0, g1, f1, g2, f2, g3, f3, g4, f4⟩ := blk5_base k1
  obtain ⟨j0, i0, j1, i1, j2, i2, j3, i3, j4, i4⟩ := blk5_base k2
  have HKK := Lib.hid (And.intro k1 k2)
  have HX2 := Lib.hid (HX.out.trans hx2)
  clear k1 k2 hx2
  go_wp2_with fail
  refine (HM2.out _ HX2.out).mono ?_
  rintro e w3 ⟨rfl, hx3⟩
  have k1 := HKK.out.1.chg hx3 (fun h => h)
  have k2 := HKK.out.2.chg hx3 (fun h => h)
  have e0 := k1.cell 0 _ rfl
  have e1 := k2.cell 0 _ rfl
  have HX3 := Lib.hid (HX2.out.trans hx3)
  clear k1 k2 hx3
  go_wp2_with fail
  go_ret
  exact ⟨rfl, HX3.out⟩
set_option maxRecDepth 100000 in
set_option maxHeartbeats 1600000 in
theorem sameV_gen {w : World} {v1 v2 : Val} {a1 a2 : Option Addr} {cap1 cap2 : Nat} (h1 : Cells w a1 v1.w.length cap1 (wordCells v1.w)) (h2 : Cells w a2 v2.w.length cap2 (wordCells v2.w)) (x1 : v1.x < 18446744073709551616) (x2 : v2.x < 18446744073709551616) (m1 : mayV v1 = 0) (m2 : mayV v2 = 0) :
    Calls Try.prog 37 #[valV v1 a1 cap1, valV v2 a2 cap2] w (Says (eVal v1 = eVal v2) w) := by
  obtain ⟨P, hP⟩ : ∃ P : Prop, (eVal v1 = eVal v2) = P := ⟨_, rfl⟩
  rw [hP]
  have HP : Hid (eVal v1 = eVal v2 → P) := Lib.hid (fun h => hP ▸ h)
  clear hP
  by_cases hs : v1.sem = v2.sem
  · have hBO := fun w2 (k : Ext w w2) => both_ok (w := w2) (h1.chg (S := fun _ => False) k (fun _ _ h => h)) (h2.chg (S := fun _ => False) k (fun _ _ h => h)) x1 x2 m1 m2 hs
    obtain ⟨k1, k6, hmn1, -, -⟩ := may_parts m1
    obtain ⟨-, -, hmn2, -, -⟩ := may_parts m2
    obtain ⟨s1, inf1, l1, lev1, y1⟩ := v1
    obtain ⟨s2, inf2, l2, lev2, y2⟩ := v2
    simp only at h1 h2 x1 x2 hs k1 k6 hmn1 hmn2
    subst hs
    unfold eVal at HP
    simp only at HP
    have hb : Ext w ((w.alloc (Obj.cells #[.int .i64 s1, .bool inf1, .slice a1 l1.length cap1, .int .i64 lev1, .float .f64 y1] 31)).alloc (Obj.cells #[.int .i64 s1, .bool inf2, .slice a2 l2.length cap2, .int .i64 lev2, .float .f64 y2] 31)) := ((Chg.refl w).alloc _).alloc _
    have hk1 := ((Blk.new w #[.int .i64 s1, .bool inf1, .slice a1 l1.length cap1, .int .i64 lev1, .float .f64 y1] 31).chg (S := fun _ => False) ((Chg.refl _).alloc (Obj.cells #[.int .i64 s1, .bool inf2, .slice a2 l2.length cap2, .int .i64 lev2, .float .f64 y2] 31)) (fun h => h))
    have hk2 := Blk.new (w.alloc (Obj.cells #[.int .i64 s1, .bool inf1, .slice a1 l1.length cap1, .int .i64 lev1, .float .f64 y1] 31)) #[.int .i64 s1, .bool inf2, .slice a2 l2.length cap2, .int .i64 lev2, .float .f64 y2] 31
    rw [World.size_alloc] at hk2
    unfold valV at hBO ⊢
    simp only at hBO ⊢
    have HX := Lib.hid hb
    have HB := Lib.hid (hBO _ hb)
    have HK := Lib.hid (And.intro hk1 hk2)
    have HIN := Lib.hid (fun w b h => isNat_any s1 w b h)
    have HIL := Lib.hid (fun w b h => isLevel_any s1 w b h)
    clear hb hBO hk1 hk2 m1 m2
    by_cases h13 : s1 = 1 ∨ s1 = 3
    · rw [if_pos h13, if_pos h13] at HP
      have HIN' := Lib.hid (fun w => HIN.out w true (by simpa using h13))
      have HSN := Lib.hid (fun w2 (k : Ext w w2) => sameN_gen (w := w2) (h1.chg (S := fun _ => False) k (fun _ _ h => h)) (h2.chg (S := fun _ => False) k (fun _ _ h => h)) (hmn1 h13) (hmn2 h13))
      have HQ : Hid ((inf1 = inf2 ∧ (inf1 = true ∨ l1 = l2)) → P) := Lib.hid (fun h => HP.out (by
        obtain ⟨rfl, h⟩ := h
        rcases h with rfl | rfl
        · rfl
        · rfl))
      clear h1 h2 hmn1 hmn2 HIN HIL h13 k1 k6 HP
      obtain ⟨Q, hQ⟩ : ∃ Q : Prop, (inf1 = inf2 ∧ (inf1 = true ∨ l1 = l2)) = Q := ⟨_, rfl⟩
      rw [hQ] at HQ HSN
      clear hQ
      generalize l1.length = n1 at HX HB HK HSN ⊢
      generalize l2.length = n2 at HX HB HK HSN ⊢
      go_enter Try.func37, Try.ntmps37
      go_wp2_with fail
      refine HB.out.mono ?_
      rintro e w2 ⟨rfl, hx2⟩
      have k1 := HK.out.1.chg hx2 (fun h => h)
      have k2 := HK.out.2.chg hx2 (fun h => h)
      obtain ⟨g0, f0, g1, f1, g2, f2, g3, f3, g4, f4⟩ := blk5_base k1
      obtain ⟨j0, i0, j1, i1, j2, i2, j3, i3, j4, i4⟩ := blk5_base k2
      have HX2 := Lib.hid (HX.out.trans hx2)
      clear k1 k2 hx2
      go_wp2_with (first | (go_at_call 50; refine (HIN'.out _).mono ?_; rintro e w' ⟨rfl, rfl⟩) | (go_at_call 61; refine (HSN.out _ HX2.out).mono ?_; rintro e w3 ⟨⟨b, rfl, hb⟩, hx3⟩))
      go_ret
      exact ⟨⟨_, rfl, fun h => HQ.out (hb h)⟩, HX2.out.trans hx3⟩
    · rw [if_neg h13, if_neg h13] at HP
      have HIN' := Lib.hid (fun w => HIN.out w false (by simpa using h13))
      by_cases h24 : s1 = 2 ∨ s1 = 4
      · rw [if_pos h24, if_pos h24] at HP
        have HIL' := Lib.hid (fun w => HIL.out w true (by simpa using h24))
        have HQ : Hid (lev1 = lev2 → P) := Lib.hid (fun h => HP.out (by rw [h]))
        clear h1 h2 hmn1 hmn2 HIN HIL h13 h24 k1 k6 HP
        generalize l1.length = n1 at HX HB HK ⊢
        generalize l2.length = n2 at HX HB HK ⊢
        go_enter Try.func37, Try.ntmps37
        go_wp2_with fail
        refine HB.out.mono ?_
        rintro e w2 ⟨rfl, hx2⟩
        have k1 := HK.out.1.chg hx2 (fun h => h)
        have k2 := HK.out.2.chg hx2 (fun h => h)
        obtain ⟨g0, f0, g1, f1, g2, f2, g3, f3, g4, f4⟩ := blk5_base k1
        obtain ⟨j0, i0, j1, i1, j2, i2, j3, i3, j4, i4⟩ := blk5_base k2
        have HX2 := Lib.hid (HX.out.trans hx2)
        clear k1 k2 hx2
        go_wp2_with (first | (go_at_call 50; refine (HIN'.out _).mono ?_; rintro e w' ⟨rfl, rfl⟩) | (go_at_call 52; refine (HIL'.out _).mono ?_; rintro e w' ⟨rfl, rfl⟩))
        go_ret
        exact ⟨⟨_, rfl, fun h => HQ.out (by simpa using h)⟩, HX2.out⟩
      · rw [if_neg h24, if_neg h24] at HP
        have HIL' := Lib.hid (fun w => HIL.out w false (by simpa using h24))
        have HFS := Lib.hid (fun w => fsame_any y1 y2 w)
        have HQ : Hid (fb y1 = fb y2 → P) := Lib.hid (fun h => HP.out (by rw [h]))
        clear h1 h2 hmn1 hmn2 HIN HIL h13 h24 k1 k6 HP
        obtain ⟨B, hB⟩ : ∃ B, (fb y1 == fb y2) = B := ⟨_, rfl⟩
        rw [hB] at HFS
        have HBB : Hid (B = true → fb y1 = fb y2) := Lib.hid (fun h => by rw [h] at hB; simpa using hB)
        clear hB
        generalize l1.length = n1 at HX HB HK ⊢
        generalize l2.length = n2 at HX HB HK ⊢
        go_enter Try.func37, Try.ntmps37
        go_wp2_with fail
        refine HB.out.mono ?_
        rintro e w2 ⟨rfl, hx2⟩
        have k1 := HK.out.1.chg hx2 (fun h => h)
        have k2 := HK.out.2.chg hx2 (fun h => h)
        obtain ⟨g0, f0, g1, f1, g2, f2, g3, f3, g4, f4⟩ := blk5_base k1
        obtain ⟨j0, i0, j1, i1, j2, i2, j3, i3, j4, i4⟩ := blk5_base k2
        have HX2 := Lib.hid (HX.out.trans hx2)
        clear k1 k2 hx2
        go_wp2_with (first | (go_at_call 50; refine (HIN'.out _).mono ?_; rintro e w' ⟨rfl, rfl⟩) | (go_at_call 52; refine (HIL'.out _).mono ?_; rintro e w' ⟨rfl, rfl⟩) | (go_at_call 62; refine (HFS.out _).mono ?_; rintro e w' ⟨rfl, rfl⟩))
        go_ret
        exact ⟨⟨_, rfl, fun h => HQ.out (HBB.out h)⟩, HX2.out⟩
  · have hBO := fun w2 (k : Ext w w2) => both_no (w := w2) (h1.chg (S := fun _ => False) k (fun _ _ h => h)) (h2.chg (S := fun _ => False) k (fun _ _ h => h)) x1 x2 m1 m2 hs
    obtain ⟨s1, inf1, l1, lev1, y1⟩ := v1
    obtain ⟨s2, inf2, l2, lev2, y2⟩ := v2
    simp only at h1 h2 x1 x2 hs
    have hb : Ext w ((w.alloc (Obj.cells #[.int .i64 s1, .bool inf1, .slice a1 l1.length cap1, .int .i64 lev1, .float .f64 y1] 31)).alloc (Obj.cells #[.int .i64 s2, .bool inf2, .slice a2 l2.length cap2, .int .i64 lev2, .float .f64 y2] 31)) := ((Chg.refl w).alloc _).alloc _
    unfold valV at hBO ⊢
    simp only at hBO ⊢
    have HX := Lib.hid hb
    have HB := Lib.hid (hBO _ hb)
    clear hb hBO m1 m2 h1 h2 HP hs
    generalize l1.length = n1 at HX HB ⊢
    generalize l2.length = n2 at HX HB ⊢
    go_enter Try.func37, Try.ntmps37
    go_wp2_with fail
    refine HB.out.mono ?_
    rintro e w2 ⟨rfl, hx2⟩
    go_wp2_with fail
    go_ret
    exact Says.no (HX.out.trans hx2)
end Go.Proofs.Ytnamcghcgcknpaa
