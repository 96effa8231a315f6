/-
  The contract of 'plays': kind 6 (After).
-/
import Derived.Test.YtdiklblnilmpoaaPlayD
namespace Go.Proofs.Ytdiklblnilmpoaa
open Go.RowKit Pl
set_option linter.unusedVariables false
set_option linter.unusedSimpArgs false
set_option maxRecDepth 100000 in
set_option maxHeartbeats 2000000 in
theorem plays6 (c n : Int) (kids : List Tr) (IH : PlaysOK (kid kids 0)) (IH1 : PlaysOK (kid kids 1)) : PlaysOK (.node 6 c n kids) := by
  intro W d w B bp s hnode hst hlen
  have hnode0 := Lib.hid hnode
  cases hnode with
  | mk _ _ _ a cap _ f hmax cells sub =>
  simp only [Nd.val, nk]
  clear cells sub
  go_enter Try.func32, Try.ntmps32
  go_upto_region 1 with (fail)
  refine wp_world (fun w2 => Ext w w2 ∧ Fr W B bp w.heap.size (w.heap.size + 1) #[.int .i64 6, .int .i64 c, .int .i64 n, .slice a kids.length cap] w2 s) ⟨((Chg.refl w).alloc _).alloc _, Fr.start hst⟩ ?_
  rintro w2 ⟨e2, fr⟩
  obtain ⟨n3, hn3⟩ : ∃ n3, w.heap.size = n3 := ⟨_, rfl⟩
  obtain ⟨n4, hn4⟩ : ∃ n4, w.heap.size + 1 = n4 := ⟨_, rfl⟩
  rw [hn4] at fr
  rw [hn3] at fr
  have q0 := fr.b3.cell 0 _ rfl
  have q1 := fr.b3.cell 1 _ rfl
  have q2 := fr.b3.cell 2 _ rfl
  have q3 := fr.b3.cell 3 _ rfl
  have r0 := fr.b4.cell 0 _ rfl
  have r1 := fr.b4.cell 1 _ rfl
  have r2 := fr.b4.cell 2 _ rfl
  have f0 := fr.b4.frozen 0
  have f1 := fr.b4.frozen 1
  have f2 := fr.b4.frozen 2
  have l3 := fr.b3.lt
  have l4 := fr.b4.lt
  have h4 : w.heap.size ≤ n4 := by omega
  have HL := Lib.hid hlen
  rw [hn4, hn3]
  have K0 := Lib.hid (hst.keepExt e2)
  have HS := Lib.hid hst
  have HF := Lib.hid fr
  have H4 := Lib.hid h4
  clear fr hst e2 hn3 hn4 hlen h4
  obtain ⟨i0, hi0, hz0, hz1, hz2⟩ := info_parts info_int
  go_wp2_with fail
  refine (kid_any hnode0.out 0 w2 HF.out.st.ext).mono ?_
  rintro e w3 ⟨d', rfl, hn', e3⟩
  have HN' := Lib.hid hn'
  have E3 := Lib.hid e3
  clear hn' e3
  go_wp2_with fail
  refine (IH W d' w3 B bp s HN'.out (HF.out.st.toExt E3.out) (kid_room kids 0 s _ c n HL.out)).mono ?_
  rintro e w4 ⟨rfl, hs4, hk4⟩
  have F4 := Lib.hid ((HF.out.toExt E3.out).toKeep hk4 hs4)
  have K4 := Lib.hid ((K0.out.trans (HF.out.st.keepExt E3.out)).trans hk4)
  have hfair := play_fair (kid kids 0) s
  have hroom := kid_cnt kids 0
  have hpk := playKid_eq kids 0 s
  clear hs4 hk4 q0 q1 q2 q3 r0 r1 r2 f0 f1 f2 l3 l4
  generalize hr : play (kid kids 0) s = r at *
  obtain ⟨en, s'⟩ := r
  have HR := Lib.hid hpk
  have hroom2 := kid_room2 kids s _ c n HL.out
  rw [hr] at hroom2
  simp only at hroom2
  clear hr hpk hfair hroom
  cases en with
  | ret =>
    simp only [encE]
    go_upto_region 27 with (fail)
    refine wp_world (fun w5 => Ext w4 w5 ∧ Blk w5 w4.heap.size #[.int .i64 0, .int .i64 0, .int .i64 0] 54) ⟨(Chg.refl _).alloc _, Blk.new _ _ _⟩ ?_
    rintro w5 ⟨e5, b7⟩
    obtain ⟨n7, hn7⟩ : ∃ n7, w4.heap.size = n7 := ⟨_, rfl⟩
    rw [hn7] at b7
    rw [hn7]
    have F5 := Lib.hid (F4.out.toExt e5)
    have K5 := Lib.hid (K4.out.trans (F4.out.st.keepExt e5))
    have p0 := b7.cell 0 _ rfl
    have p1 := b7.cell 1 _ rfl
    have p2 := b7.cell 2 _ rfl
    have l7 := b7.lt
    have n71 : ¬ n7 = w5.heap.size := by omega
    have ne7 : ¬ n7 = n4 := by have := F4.out.b4.lt; omega
    have B7 := Lib.hid b7
    have NE7 : Hid (n7 ≠ bp) := show n7 ≠ bp by have := F4.out.st.there bp (.inl rfl); omega
    clear e5 hn7 b7
    have q0 := F5.out.b3.cell 0 _ rfl
    have q1 := F5.out.b3.cell 1 _ rfl
    have q2 := F5.out.b3.cell 2 _ rfl
    have q3 := F5.out.b3.cell 3 _ rfl
    have r0 := F5.out.b4.cell 0 _ rfl
    have r1 := F5.out.b4.cell 1 _ rfl
    have r2 := F5.out.b4.cell 2 _ rfl
    have f0 := F5.out.b4.frozen 0
    have f1 := F5.out.b4.frozen 1
    have f2 := F5.out.b4.frozen 2
    go_wp2_with fail
    refine (kid_any hnode0.out 1 w5 F5.out.st.ext).mono ?_
    rintro e w6 ⟨d2, rfl, hn2, e6⟩
    have HN2 := Lib.hid hn2
    have E6 := Lib.hid e6
    clear hn2 e6
    go_wp2_with fail
    refine (IH1 W d2 w6 B bp s' HN2.out (F5.out.st.toExt E6.out) hroom2).mono ?_
    rintro e w7 ⟨rfl, hs7, hk7⟩
    have F7 := Lib.hid ((F5.out.toExt E6.out).toKeep hk7 hs7)
    have K7 := Lib.hid ((K5.out.trans (F5.out.st.keepExt E6.out)).trans hk7)
    have hpk2 := playKid_eq kids 1 s'
    have b7' := Lib.hid ((B7.out.chg E6.out (fun h => h)).keep hk7 ((F5.out.st.toExt E6.out).nts.notD_type (B7.out.chg E6.out (fun h => h)) (by decide) NE7.out (fun h => h)))
    clear hs7 hk7 q0 q1 q2 q3 r0 r1 r2 f0 f1 f2 p0 p1 p2
    generalize hr2 : play (kid kids 1) s' = r' at *
    obtain ⟨en2, s''⟩ := r'
    have HR2 := Lib.hid hpk2
    clear hr2 hpk2
    cases en2 with
    | ret =>
      simp only [encE]
      go_upto_region 28 with (fail)
      refine wp_world (fun w8 => Ext w7 w8 ∧ Blk w8 w7.heap.size #[.int .i64 0, .int .i64 0, .int .i64 0] 54) ⟨(Chg.refl _).alloc _, Blk.new _ _ _⟩ ?_
      rintro w8 ⟨e8, b8⟩
      have F8 := Lib.hid (F7.out.toExt e8)
      have K8 := Lib.hid (K7.out.trans (F7.out.st.keepExt e8))
      have p0 := (b7'.out.chg e8 (fun h => h)).cell 0 _ rfl
      have p1 := (b7'.out.chg e8 (fun h => h)).cell 1 _ rfl
      have p2 := (b7'.out.chg e8 (fun h => h)).cell 2 _ rfl
      have o0 := b8.cell 0 _ rfl
      have o1 := b8.cell 1 _ rfl
      have o2 := b8.cell 2 _ rfl
      clear e8 b8
      have q0 := F8.out.b3.cell 0 _ rfl
      have q1 := F8.out.b3.cell 1 _ rfl
      have q2 := F8.out.b3.cell 2 _ rfl
      have q3 := F8.out.b3.cell 3 _ rfl
      have r0 := F8.out.b4.cell 0 _ rfl
      have r1 := F8.out.b4.cell 1 _ rfl
      have r2 := F8.out.b4.cell 2 _ rfl
      have f0 := F8.out.b4.frozen 0
      have f1 := F8.out.b4.frozen 1
      have f2 := F8.out.b4.frozen 2
      go_wp2_with fail
      refine bodyPost_ret (v := encE (.ret)) (by simp [results, Try.results32, go_sem, r0, r1, r2, encE]) rfl ?_
      exact F8.out.finish HS.out K8.out H4.out (by simp only [play]; rw [if_neg (by omega), if_neg (by omega), if_neg (by omega), if_neg (by omega), if_neg (by omega), if_pos trivial, HR.out]; simp only; rw [HR2.out]; rfl) (by repeat (first | exact Chg.refl _ | refine Chg.drew ?_ | refine Chg.drewN ?_ _ | refine Chg.setCell ?_ _ _ (fun _ => rfl)))
    | bail c2 a2 =>
      simp only [encE]
      go_upto_region 28 with (fail)
      refine wp_world (fun w8 => Ext w7 w8 ∧ Blk w8 w7.heap.size #[.int .i64 1, .int .i64 c2, .int .i64 a2] 54) ⟨(Chg.refl _).alloc _, Blk.new _ _ _⟩ ?_
      rintro w8 ⟨e8, b8⟩
      have F8 := Lib.hid (F7.out.toExt e8)
      have K8 := Lib.hid (K7.out.trans (F7.out.st.keepExt e8))
      have p0 := (b7'.out.chg e8 (fun h => h)).cell 0 _ rfl
      have p1 := (b7'.out.chg e8 (fun h => h)).cell 1 _ rfl
      have p2 := (b7'.out.chg e8 (fun h => h)).cell 2 _ rfl
      have o0 := b8.cell 0 _ rfl
      have o1 := b8.cell 1 _ rfl
      have o2 := b8.cell 2 _ rfl
      clear e8 b8
      have q0 := F8.out.b3.cell 0 _ rfl
      have q1 := F8.out.b3.cell 1 _ rfl
      have q2 := F8.out.b3.cell 2 _ rfl
      have q3 := F8.out.b3.cell 3 _ rfl
      have r0 := F8.out.b4.cell 0 _ rfl
      have r1 := F8.out.b4.cell 1 _ rfl
      have r2 := F8.out.b4.cell 2 _ rfl
      have f0 := F8.out.b4.frozen 0
      have f1 := F8.out.b4.frozen 1
      have f2 := F8.out.b4.frozen 2
      go_wp2_with fail
      refine bodyPost_ret (v := encE (.bail c2 a2)) (by simp [results, Try.results32, go_sem, r0, r1, r2, encE]) rfl ?_
      exact F8.out.finish HS.out K8.out H4.out (by simp only [play]; rw [if_neg (by omega), if_neg (by omega), if_neg (by omega), if_neg (by omega), if_neg (by omega), if_pos trivial, HR.out]; simp only; rw [HR2.out]; rfl) (by repeat (first | exact Chg.refl _ | refine Chg.drew ?_ | refine Chg.drewN ?_ _ | refine Chg.setCell ?_ _ _ (fun _ => rfl)))
    | num x2 =>
      simp only [encE]
      go_upto_region 28 with (fail)
      refine wp_world (fun w8 => Ext w7 w8 ∧ Blk w8 w7.heap.size #[.int .i64 2, .int .i64 0, .int .i64 x2] 54) ⟨(Chg.refl _).alloc _, Blk.new _ _ _⟩ ?_
      rintro w8 ⟨e8, b8⟩
      have F8 := Lib.hid (F7.out.toExt e8)
      have K8 := Lib.hid (K7.out.trans (F7.out.st.keepExt e8))
      have p0 := (b7'.out.chg e8 (fun h => h)).cell 0 _ rfl
      have p1 := (b7'.out.chg e8 (fun h => h)).cell 1 _ rfl
      have p2 := (b7'.out.chg e8 (fun h => h)).cell 2 _ rfl
      have o0 := b8.cell 0 _ rfl
      have o1 := b8.cell 1 _ rfl
      have o2 := b8.cell 2 _ rfl
      clear e8 b8
      have q0 := F8.out.b3.cell 0 _ rfl
      have q1 := F8.out.b3.cell 1 _ rfl
      have q2 := F8.out.b3.cell 2 _ rfl
      have q3 := F8.out.b3.cell 3 _ rfl
      have r0 := F8.out.b4.cell 0 _ rfl
      have r1 := F8.out.b4.cell 1 _ rfl
      have r2 := F8.out.b4.cell 2 _ rfl
      have f0 := F8.out.b4.frozen 0
      have f1 := F8.out.b4.frozen 1
      have f2 := F8.out.b4.frozen 2
      go_wp2_with fail
      refine bodyPost_ret (v := encE (.num x2)) (by simp [results, Try.results32, go_sem, r0, r1, r2, encE]) rfl ?_
      exact F8.out.finish HS.out K8.out H4.out (by simp only [play]; rw [if_neg (by omega), if_neg (by omega), if_neg (by omega), if_neg (by omega), if_neg (by omega), if_pos trivial, HR.out]; simp only; rw [HR2.out]; rfl) (by repeat (first | exact Chg.refl _ | refine Chg.drew ?_ | refine Chg.drewN ?_ _ | refine Chg.setCell ?_ _ _ (fun _ => rfl)))
  | bail c' a' =>
    simp only [encE]
    go_upto_region 27 with (fail)
    refine wp_world (fun w5 => Ext w4 w5 ∧ Blk w5 w4.heap.size #[.int .i64 1, .int .i64 c', .int .i64 a'] 54) ⟨(Chg.refl _).alloc _, Blk.new _ _ _⟩ ?_
    rintro w5 ⟨e5, b7⟩
    obtain ⟨n7, hn7⟩ : ∃ n7, w4.heap.size = n7 := ⟨_, rfl⟩
    rw [hn7] at b7
    rw [hn7]
    have F5 := Lib.hid (F4.out.toExt e5)
    have K5 := Lib.hid (K4.out.trans (F4.out.st.keepExt e5))
    have p0 := b7.cell 0 _ rfl
    have p1 := b7.cell 1 _ rfl
    have p2 := b7.cell 2 _ rfl
    have l7 := b7.lt
    have n71 : ¬ n7 = w5.heap.size := by omega
    have ne7 : ¬ n7 = n4 := by have := F4.out.b4.lt; omega
    have B7 := Lib.hid b7
    have NE7 : Hid (n7 ≠ bp) := show n7 ≠ bp by have := F4.out.st.there bp (.inl rfl); omega
    clear e5 hn7 b7
    have q0 := F5.out.b3.cell 0 _ rfl
    have q1 := F5.out.b3.cell 1 _ rfl
    have q2 := F5.out.b3.cell 2 _ rfl
    have q3 := F5.out.b3.cell 3 _ rfl
    have r0 := F5.out.b4.cell 0 _ rfl
    have r1 := F5.out.b4.cell 1 _ rfl
    have r2 := F5.out.b4.cell 2 _ rfl
    have f0 := F5.out.b4.frozen 0
    have f1 := F5.out.b4.frozen 1
    have f2 := F5.out.b4.frozen 2
    go_wp2_with fail
    refine (kid_any hnode0.out 1 w5 F5.out.st.ext).mono ?_
    rintro e w6 ⟨d2, rfl, hn2, e6⟩
    have HN2 := Lib.hid hn2
    have E6 := Lib.hid e6
    clear hn2 e6
    go_wp2_with fail
    refine (IH1 W d2 w6 B bp s' HN2.out (F5.out.st.toExt E6.out) hroom2).mono ?_
    rintro e w7 ⟨rfl, hs7, hk7⟩
    have F7 := Lib.hid ((F5.out.toExt E6.out).toKeep hk7 hs7)
    have K7 := Lib.hid ((K5.out.trans (F5.out.st.keepExt E6.out)).trans hk7)
    have hpk2 := playKid_eq kids 1 s'
    have b7' := Lib.hid ((B7.out.chg E6.out (fun h => h)).keep hk7 ((F5.out.st.toExt E6.out).nts.notD_type (B7.out.chg E6.out (fun h => h)) (by decide) NE7.out (fun h => h)))
    clear hs7 hk7 q0 q1 q2 q3 r0 r1 r2 f0 f1 f2 p0 p1 p2
    generalize hr2 : play (kid kids 1) s' = r' at *
    obtain ⟨en2, s''⟩ := r'
    have HR2 := Lib.hid hpk2
    clear hr2 hpk2
    cases en2 with
    | ret =>
      simp only [encE]
      go_upto_region 28 with (fail)
      refine wp_world (fun w8 => Ext w7 w8 ∧ Blk w8 w7.heap.size #[.int .i64 0, .int .i64 0, .int .i64 0] 54) ⟨(Chg.refl _).alloc _, Blk.new _ _ _⟩ ?_
      rintro w8 ⟨e8, b8⟩
      have F8 := Lib.hid (F7.out.toExt e8)
      have K8 := Lib.hid (K7.out.trans (F7.out.st.keepExt e8))
      have p0 := (b7'.out.chg e8 (fun h => h)).cell 0 _ rfl
      have p1 := (b7'.out.chg e8 (fun h => h)).cell 1 _ rfl
      have p2 := (b7'.out.chg e8 (fun h => h)).cell 2 _ rfl
      have o0 := b8.cell 0 _ rfl
      have o1 := b8.cell 1 _ rfl
      have o2 := b8.cell 2 _ rfl
      clear e8 b8
      have q0 := F8.out.b3.cell 0 _ rfl
      have q1 := F8.out.b3.cell 1 _ rfl
      have q2 := F8.out.b3.cell 2 _ rfl
      have q3 := F8.out.b3.cell 3 _ rfl
      have r0 := F8.out.b4.cell 0 _ rfl
      have r1 := F8.out.b4.cell 1 _ rfl
      have r2 := F8.out.b4.cell 2 _ rfl
      have f0 := F8.out.b4.frozen 0
      have f1 := F8.out.b4.frozen 1
      have f2 := F8.out.b4.frozen 2
      go_wp2_with fail
      refine bodyPost_ret (v := encE (.bail c' a')) (by simp [results, Try.results32, go_sem, r0, r1, r2, encE]) rfl ?_
      exact F8.out.finish HS.out K8.out H4.out (by simp only [play]; rw [if_neg (by omega), if_neg (by omega), if_neg (by omega), if_neg (by omega), if_neg (by omega), if_pos trivial, HR.out]; simp only; rw [HR2.out]; rfl) (by repeat (first | exact Chg.refl _ | refine Chg.drew ?_ | refine Chg.drewN ?_ _ | refine Chg.setCell ?_ _ _ (fun _ => rfl)))
    | bail c2 a2 =>
      simp only [encE]
      go_upto_region 28 with (fail)
      refine wp_world (fun w8 => Ext w7 w8 ∧ Blk w8 w7.heap.size #[.int .i64 1, .int .i64 c2, .int .i64 a2] 54) ⟨(Chg.refl _).alloc _, Blk.new _ _ _⟩ ?_
      rintro w8 ⟨e8, b8⟩
      have F8 := Lib.hid (F7.out.toExt e8)
      have K8 := Lib.hid (K7.out.trans (F7.out.st.keepExt e8))
      have p0 := (b7'.out.chg e8 (fun h => h)).cell 0 _ rfl
      have p1 := (b7'.out.chg e8 (fun h => h)).cell 1 _ rfl
      have p2 := (b7'.out.chg e8 (fun h => h)).cell 2 _ rfl
      have o0 := b8.cell 0 _ rfl
      have o1 := b8.cell 1 _ rfl
      have o2 := b8.cell 2 _ rfl
      clear e8 b8
      have q0 := F8.out.b3.cell 0 _ rfl
      have q1 := F8.out.b3.cell 1 _ rfl
      have q2 := F8.out.b3.cell 2 _ rfl
      have q3 := F8.out.b3.cell 3 _ rfl
      have r0 := F8.out.b4.cell 0 _ rfl
      have r1 := F8.out.b4.cell 1 _ rfl
      have r2 := F8.out.b4.cell 2 _ rfl
      have f0 := F8.out.b4.frozen 0
      have f1 := F8.out.b4.frozen 1
      have f2 := F8.out.b4.frozen 2
      go_wp2_with fail
      refine bodyPost_ret (v := encE (.bail c2 a2)) (by simp [results, Try.results32, go_sem, r0, r1, r2, encE]) rfl ?_
      exact F8.out.finish HS.out K8.out H4.out (by simp only [play]; rw [if_neg (by omega), if_neg (by omega), if_neg (by omega), if_neg (by omega), if_neg (by omega), if_pos trivial, HR.out]; simp only; rw [HR2.out]; rfl) (by repeat (first | exact Chg.refl _ | refine Chg.drew ?_ | refine Chg.drewN ?_ _ | refine Chg.setCell ?_ _ _ (fun _ => rfl)))
    | num x2 =>
      simp only [encE]
      go_upto_region 28 with (fail)
      refine wp_world (fun w8 => Ext w7 w8 ∧ Blk w8 w7.heap.size #[.int .i64 2, .int .i64 0, .int .i64 x2] 54) ⟨(Chg.refl _).alloc _, Blk.new _ _ _⟩ ?_
      rintro w8 ⟨e8, b8⟩
      have F8 := Lib.hid (F7.out.toExt e8)
      have K8 := Lib.hid (K7.out.trans (F7.out.st.keepExt e8))
      have p0 := (b7'.out.chg e8 (fun h => h)).cell 0 _ rfl
      have p1 := (b7'.out.chg e8 (fun h => h)).cell 1 _ rfl
      have p2 := (b7'.out.chg e8 (fun h => h)).cell 2 _ rfl
      have o0 := b8.cell 0 _ rfl
      have o1 := b8.cell 1 _ rfl
      have o2 := b8.cell 2 _ rfl
      clear e8 b8
      have q0 := F8.out.b3.cell 0 _ rfl
      have q1 := F8.out.b3.cell 1 _ rfl
      have q2 := F8.out.b3.cell 2 _ rfl
      have q3 := F8.out.b3.cell 3 _ rfl
      have r0 := F8.out.b4.cell 0 _ rfl
      have r1 := F8.out.b4.cell 1 _ rfl
      have r2 := F8.out.b4.cell 2 _ rfl
      have f0 := F8.out.b4.frozen 0
      have f1 := F8.out.b4.frozen 1
      have f2 := F8.out.b4.frozen 2
      go_wp2_with fail
      refine bodyPost_ret (v := encE (.num x2)) (by simp [results, Try.results32, go_sem, r0, r1, r2, encE]) rfl ?_
      exact F8.out.finish HS.out K8.out H4.out (by simp only [play]; rw [if_neg (by omega), if_neg (by omega), if_neg (by omega), if_neg (by omega), if_neg (by omega), if_pos trivial, HR.out]; simp only; rw [HR2.out]; rfl) (by repeat (first | exact Chg.refl _ | refine Chg.drew ?_ | refine Chg.drewN ?_ _ | refine Chg.setCell ?_ _ _ (fun _ => rfl)))
  | num x' =>
    simp only [encE]
    go_upto_region 27 with (fail)
    refine wp_world (fun w5 => Ext w4 w5 ∧ Blk w5 w4.heap.size #[.int .i64 2, .int .i64 0, .int .i64 x'] 54) ⟨(Chg.refl _).alloc _, Blk.new _ _ _⟩ ?_
    rintro w5 ⟨e5, b7⟩
    obtain ⟨n7, hn7⟩ : ∃ n7, w4.heap.size = n7 := ⟨_, rfl⟩
    rw [hn7] at b7
    rw [hn7]
    have F5 := Lib.hid (F4.out.toExt e5)
    have K5 := Lib.hid (K4.out.trans (F4.out.st.keepExt e5))
    have p0 := b7.cell 0 _ rfl
    have p1 := b7.cell 1 _ rfl
    have p2 := b7.cell 2 _ rfl
    have l7 := b7.lt
    have n71 : ¬ n7 = w5.heap.size := by omega
    have ne7 : ¬ n7 = n4 := by have := F4.out.b4.lt; omega
    have B7 := Lib.hid b7
    have NE7 : Hid (n7 ≠ bp) := show n7 ≠ bp by have := F4.out.st.there bp (.inl rfl); omega
    clear e5 hn7 b7
    have q0 := F5.out.b3.cell 0 _ rfl
    have q1 := F5.out.b3.cell 1 _ rfl
    have q2 := F5.out.b3.cell 2 _ rfl
    have q3 := F5.out.b3.cell 3 _ rfl
    have r0 := F5.out.b4.cell 0 _ rfl
    have r1 := F5.out.b4.cell 1 _ rfl
    have r2 := F5.out.b4.cell 2 _ rfl
    have f0 := F5.out.b4.frozen 0
    have f1 := F5.out.b4.frozen 1
    have f2 := F5.out.b4.frozen 2
    go_wp2_with fail
    refine (kid_any hnode0.out 1 w5 F5.out.st.ext).mono ?_
    rintro e w6 ⟨d2, rfl, hn2, e6⟩
    have HN2 := Lib.hid hn2
    have E6 := Lib.hid e6
    clear hn2 e6
    go_wp2_with fail
    refine (IH1 W d2 w6 B bp s' HN2.out (F5.out.st.toExt E6.out) hroom2).mono ?_
    rintro e w7 ⟨rfl, hs7, hk7⟩
    have F7 := Lib.hid ((F5.out.toExt E6.out).toKeep hk7 hs7)
    have K7 := Lib.hid ((K5.out.trans (F5.out.st.keepExt E6.out)).trans hk7)
    have hpk2 := playKid_eq kids 1 s'
    have b7' := Lib.hid ((B7.out.chg E6.out (fun h => h)).keep hk7 ((F5.out.st.toExt E6.out).nts.notD_type (B7.out.chg E6.out (fun h => h)) (by decide) NE7.out (fun h => h)))
    clear hs7 hk7 q0 q1 q2 q3 r0 r1 r2 f0 f1 f2 p0 p1 p2
    generalize hr2 : play (kid kids 1) s' = r' at *
    obtain ⟨en2, s''⟩ := r'
    have HR2 := Lib.hid hpk2
    clear hr2 hpk2
    cases en2 with
    | ret =>
      simp only [encE]
      go_upto_region 28 with (fail)
      refine wp_world (fun w8 => Ext w7 w8 ∧ Blk w8 w7.heap.size #[.int .i64 0, .int .i64 0, .int .i64 0] 54) ⟨(Chg.refl _).alloc _, Blk.new _ _ _⟩ ?_
      rintro w8 ⟨e8, b8⟩
      have F8 := Lib.hid (F7.out.toExt e8)
      have K8 := Lib.hid (K7.out.trans (F7.out.st.keepExt e8))
      have p0 := (b7'.out.chg e8 (fun h => h)).cell 0 _ rfl
      have p1 := (b7'.out.chg e8 (fun h => h)).cell 1 _ rfl
      have p2 := (b7'.out.chg e8 (fun h => h)).cell 2 _ rfl
      have o0 := b8.cell 0 _ rfl
      have o1 := b8.cell 1 _ rfl
      have o2 := b8.cell 2 _ rfl
      clear e8 b8
      have q0 := F8.out.b3.cell 0 _ rfl
      have q1 := F8.out.b3.cell 1 _ rfl
      have q2 := F8.out.b3.cell 2 _ rfl
      have q3 := F8.out.b3.cell 3 _ rfl
      have r0 := F8.out.b4.cell 0 _ rfl
      have r1 := F8.out.b4.cell 1 _ rfl
      have r2 := F8.out.b4.cell 2 _ rfl
      have f0 := F8.out.b4.frozen 0
      have f1 := F8.out.b4.frozen 1
      have f2 := F8.out.b4.frozen 2
      go_wp2_with fail
      refine bodyPost_ret (v := encE (.num x')) (by simp [results, Try.results32, go_sem, r0, r1, r2, encE]) rfl ?_
      exact F8.out.finish HS.out K8.out H4.out (by simp only [play]; rw [if_neg (by omega), if_neg (by omega), if_neg (by omega), if_neg (by omega), if_neg (by omega), if_pos trivial, HR.out]; simp only; rw [HR2.out]; rfl) (by repeat (first | exact Chg.refl _ | refine Chg.drew ?_ | refine Chg.drewN ?_ _ | refine Chg.setCell ?_ _ _ (fun _ => rfl)))
    | bail c2 a2 =>
      simp only [encE]
      go_upto_region 28 with (fail)
      refine wp_world (fun w8 => Ext w7 w8 ∧ Blk w8 w7.heap.size #[.int .i64 1, .int .i64 c2, .int .i64 a2] 54) ⟨(Chg.refl _).alloc _, Blk.new _ _ _⟩ ?_
      rintro w8 ⟨e8, b8⟩
      have F8 := Lib.hid (F7.out.toExt e8)
      have K8 := Lib.hid (K7.out.trans (F7.out.st.keepExt e8))
      have p0 := (b7'.out.chg e8 (fun h => h)).cell 0 _ rfl
      have p1 := (b7'.out.chg e8 (fun h => h)).cell 1 _ rfl
      have p2 := (b7'.out.chg e8 (fun h => h)).cell 2 _ rfl
      have o0 := b8.cell 0 _ rfl
      have o1 := b8.cell 1 _ rfl
      have o2 := b8.cell 2 _ rfl
      clear e8 b8
      have q0 := F8.out.b3.cell 0 _ rfl
      have q1 := F8.out.b3.cell 1 _ rfl
      have q2 := F8.out.b3.cell 2 _ rfl
      have q3 := F8.out.b3.cell 3 _ rfl
      have r0 := F8.out.b4.cell 0 _ rfl
      have r1 := F8.out.b4.cell 1 _ rfl
      have r2 := F8.out.b4.cell 2 _ rfl
      have f0 := F8.out.b4.frozen 0
      have f1 := F8.out.b4.frozen 1
      have f2 := F8.out.b4.frozen 2
      go_wp2_with fail
      refine bodyPost_ret (v := encE (.bail c2 a2)) (by simp [results, Try.results32, go_sem, r0, r1, r2, encE]) rfl ?_
      exact F8.out.finish HS.out K8.out H4.out (by simp only [play]; rw [if_neg (by omega), if_neg (by omega), if_neg (by omega), if_neg (by omega), if_neg (by omega), if_pos trivial, HR.out]; simp only; rw [HR2.out]; rfl) (by repeat (first | exact Chg.refl _ | refine Chg.drew ?_ | refine Chg.drewN ?_ _ | refine Chg.setCell ?_ _ _ (fun _ => rfl)))
    | num x2 =>
      simp only [encE]
      go_upto_region 28 with (fail)
      refine wp_world (fun w8 => Ext w7 w8 ∧ Blk w8 w7.heap.size #[.int .i64 2, .int .i64 0, .int .i64 x2] 54) ⟨(Chg.refl _).alloc _, Blk.new _ _ _⟩ ?_
      rintro w8 ⟨e8, b8⟩
      have F8 := Lib.hid (F7.out.toExt e8)
      have K8 := Lib.hid (K7.out.trans (F7.out.st.keepExt e8))
      have p0 := (b7'.out.chg e8 (fun h => h)).cell 0 _ rfl
      have p1 := (b7'.out.chg e8 (fun h => h)).cell 1 _ rfl
      have p2 := (b7'.out.chg e8 (fun h => h)).cell 2 _ rfl
      have o0 := b8.cell 0 _ rfl
      have o1 := b8.cell 1 _ rfl
      have o2 := b8.cell 2 _ rfl
      clear e8 b8
      have q0 := F8.out.b3.cell 0 _ rfl
      have q1 := F8.out.b3.cell 1 _ rfl
      have q2 := F8.out.b3.cell 2 _ rfl
      have q3 := F8.out.b3.cell 3 _ rfl
      have r0 := F8.out.b4.cell 0 _ rfl
      have r1 := F8.out.b4.cell 1 _ rfl
      have r2 := F8.out.b4.cell 2 _ rfl
      have f0 := F8.out.b4.frozen 0
      have f1 := F8.out.b4.frozen 1
      have f2 := F8.out.b4.frozen 2
      go_wp2_with fail
      refine bodyPost_ret (v := encE (.num x2)) (by simp [results, Try.results32, go_sem, r0, r1, r2, encE]) rfl ?_
      exact F8.out.finish HS.out K8.out H4.out (by simp only [play]; rw [if_neg (by omega), if_neg (by omega), if_neg (by omega), if_neg (by omega), if_neg (by omega), if_pos trivial, HR.out]; simp only; rw [HR2.out]; rfl) (by repeat (first | exact Chg.refl _ | refine Chg.drew ?_ | refine Chg.drewN ?_ _ | refine Chg.setCell ?_ _ _ (fun _ => rfl)))
end Go.Proofs.Ytdiklblnilmpoaa
