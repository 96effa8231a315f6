/-
  The contract of 'plays': kind 4 (Catch).
-/
import Derived.Test.YtdiklblnilmpoaaPlayD
namespace Go.Proofs.Ytdiklblnilmpoaa
open Go.RowKit Pl
set_option linter.unusedVariables false
set_option linter.unusedSimpArgs false
set_option maxRecDepth 100000 in
set_option maxHeartbeats 2000000 in
theorem plays4 (c n : Int) (kids : List Tr) (IH : PlaysOK (kid kids 0)) : PlaysOK (.node 4 c n kids) := by
  intro W d w B bp s hnode hst hlen
  have hnode0 := Lib.hid hnode
  cases hnode with
  | mk _ _ _ a cap _ f hmax cells sub =>
  simp only [Nd.val, nk]
  clear cells sub
  go_enter Try.func32, Try.ntmps32
  go_upto_region 1 with (fail)
  refine wp_world (fun w2 => Ext w w2 ∧ Fr W B bp w.heap.size (w.heap.size + 1) #[.int .i64 4, .int .i64 c, .int .i64 n, .slice a kids.length cap] w2 s) ⟨((Chg.refl w).alloc _).alloc _, Fr.start hst⟩ ?_
  rintro w2 ⟨e2, fr⟩
  obtain ⟨n3, hn3⟩ : ∃ n3, w.heap.size = n3 := ⟨_, rfl⟩
  obtain ⟨n4, hn4⟩ : ∃ n4, w.heap.size + 1 = n4 := ⟨_, rfl⟩
  rw [hn4] at fr
  rw [hn3] at fr
  have q0 := fr.b3.cell 0 _ rfl
  have q1 := fr.b3.cell 1 _ rfl
  have q2 := fr.b3.cell 2 _ rfl
  have q3 := fr.b3.cell 3 _ rfl
  have r0 := fr.b4.cell 0 _ rfl
  have r1 := fr.b4.cell 1 _ rfl
  have r2 := fr.b4.cell 2 _ rfl
  have f0 := fr.b4.frozen 0
  have f1 := fr.b4.frozen 1
  have f2 := fr.b4.frozen 2
  have l3 := fr.b3.lt
  have l4 := fr.b4.lt
  have h4 : w.heap.size ≤ n4 := by omega
  have HL := Lib.hid hlen
  rw [hn4, hn3]
  have K0 := Lib.hid (hst.keepExt e2)
  have HS := Lib.hid hst
  have HF := Lib.hid fr
  have H4 := Lib.hid h4
  clear fr hst e2 hn3 hn4 hlen h4
  obtain ⟨i0, hi0, hz0, hz1, hz2⟩ := info_parts info_int
  go_wp2_with fail
  refine (kid_any hnode0.out 0 w2 HF.out.st.ext).mono ?_
  rintro e w3 ⟨d', rfl, hn', e3⟩
  have HN' := Lib.hid hn'
  have E3 := Lib.hid e3
  clear hn' e3
  go_wp2_with fail
  refine (IH W d' w3 B bp s HN'.out (HF.out.st.toExt E3.out) (kid_room kids 0 s _ c n HL.out)).mono ?_
  rintro e w4 ⟨rfl, hs4, hk4⟩
  have F4 := Lib.hid ((HF.out.toExt E3.out).toKeep hk4 hs4)
  have K4 := Lib.hid ((K0.out.trans (HF.out.st.keepExt E3.out)).trans hk4)
  have hfair := play_fair (kid kids 0) s
  have hroom := kid_cnt kids 0
  have hpk := playKid_eq kids 0 s
  clear hs4 hk4 q0 q1 q2 q3 r0 r1 r2 f0 f1 f2 l3 l4
  generalize hr : play (kid kids 0) s = r at *
  obtain ⟨en, s'⟩ := r
  have HR := Lib.hid hpk
  have hlen' : s'.notes.length + 3 ≤ 1000 := by
    have h1 := HL.out
    have h2 := hfair.1
    simp only [cnt] at h1
    simp only at h2
    have h3 := kid_len kids 0 s
    rw [hr] at h3
    simp only at h3
    omega
  clear hr hpk hfair hroom
  cases en with
  | ret =>
    simp only [encE]
    go_upto_region 17 with (fail)
    refine wp_world (fun w5 => Ext w4 w5 ∧ Blk w5 w4.heap.size #[.int .i64 0, .int .i64 0, .int .i64 0] 54) ⟨(Chg.refl _).alloc _, Blk.new _ _ _⟩ ?_
    rintro w5 ⟨e5, b7⟩
    obtain ⟨n7, hn7⟩ : ∃ n7, w4.heap.size = n7 := ⟨_, rfl⟩
    rw [hn7] at b7
    rw [hn7]
    have F5 := Lib.hid (F4.out.toExt e5)
    have K5 := Lib.hid (K4.out.trans (F4.out.st.keepExt e5))
    have p0 := b7.cell 0 _ rfl
    have p1 := b7.cell 1 _ rfl
    have p2 := b7.cell 2 _ rfl
    have l7 := b7.lt
    have n71 : ¬ n7 = w5.heap.size := by omega
    have ne7 : ¬ n7 = n4 := by have := F4.out.b4.lt; omega
    clear e5 hn7 b7
    obtain ⟨v, hh, hown, hb⟩ := F5.out.st.nts
    have c0 : w5.cell? ⟨bp, 0, none⟩ = some v := by simp [World.cell?, hh]
    have cf0 : w5.frozen? ⟨bp, 0, none⟩ = false := by simp [World.frozen?, hh]
    have hbp : bp < w5.heap.size := lt_of_cell (p := ⟨bp, 0, none⟩) c0
    have hbp1 : ¬ bp = w5.heap.size := by omega
    have l3 := F5.out.b3.lt
    have l4 := F5.out.b4.lt
    have n31 : ¬ n3 = w5.heap.size := by omega
    have n41 : ¬ n4 = w5.heap.size := by omega
    have hB2 := F5.out.st.leB
    have HO := Lib.hid hown
    have HH := Lib.hid hh
    have hne4 := F5.out.ne4
    have hne3 := F5.out.ne3
    clear hown hh
    go_region_law ((refine step_append_st rfl (.tmp 60) (.tmp 65) 22 rfl B 3 i0 (.int .i64 0) 1 8 Try.underlying22 hi0 hz0 hz1 hz2 rfl (by decide) v s'.notes.length _ (by simp [Act.eval]) (by exact (HO.out.alloc _)) ⟨w5.heap.size, 0, none⟩ 2 2 [.int .i64 0, .int .i64 0] (by simp [Act.eval]) rfl (by exact news2 _ _ _ _) (by simp [Value.oneCell']) (by unfold maxLen; omega) (by omega) (by simp; omega) ?_; intro v' w' u1 u2 u3; obtain ⟨sa, sc, rfl, k0, kf, kb, ks, HK, HN⟩ := nts_grow (l' := s'.notes ++ [0, 0]) (S := Non) HH.out HO.out hb (by repeat (first | exact Chg.refl _ | refine Chg.drew ?_ | refine Chg.alloc ?_ _)) u1 (by simp) (by simp) u2 u3 (fun _ h => h.elim); clear u1 u2 u3; have hB4 := F5.out.b4.of (HK.out n4 F5.out.b4.lt F5.out.nd4); have t0 := hB4.cell 0 _ rfl; have t1 := hB4.cell 1 _ rfl; have t2 := hB4.cell 2 _ rfl; have g0 := hB4.frozen 0; have g1 := hB4.frozen 1; have g2 := hB4.frozen 2; clear hB4))
    all_goals
      go_wp2_with fail
      refine bodyPost_ret (v := encE (.ret)) (by simp [results, Try.results32, go_sem, t0, t1, t2, encE]) rfl ?_
      exact (F5.out.noted HN).finish HS.out (K5.out.trans HN.out.2) H4.out (by simp only [play]; rw [if_neg (by omega), if_neg (by omega), if_neg (by omega), if_pos trivial, HR.out]; rfl) (by repeat (first | exact Chg.refl _ | refine Chg.drew ?_ | refine Chg.drewN ?_ _ | refine Chg.setCell ?_ _ _ (fun _ => rfl)))
  | bail c' a' =>
    simp only [encE]
    go_upto_region 17 with (fail)
    refine wp_world (fun w5 => Ext w4 w5 ∧ Blk w5 w4.heap.size #[.int .i64 1, .int .i64 c', .int .i64 a'] 54) ⟨(Chg.refl _).alloc _, Blk.new _ _ _⟩ ?_
    rintro w5 ⟨e5, b7⟩
    obtain ⟨n7, hn7⟩ : ∃ n7, w4.heap.size = n7 := ⟨_, rfl⟩
    rw [hn7] at b7
    rw [hn7]
    have F5 := Lib.hid (F4.out.toExt e5)
    have K5 := Lib.hid (K4.out.trans (F4.out.st.keepExt e5))
    have p0 := b7.cell 0 _ rfl
    have p1 := b7.cell 1 _ rfl
    have p2 := b7.cell 2 _ rfl
    have l7 := b7.lt
    have n71 : ¬ n7 = w5.heap.size := by omega
    have ne7 : ¬ n7 = n4 := by have := F4.out.b4.lt; omega
    clear e5 hn7 b7
    obtain ⟨v, hh, hown, hb⟩ := F5.out.st.nts
    have c0 : w5.cell? ⟨bp, 0, none⟩ = some v := by simp [World.cell?, hh]
    have cf0 : w5.frozen? ⟨bp, 0, none⟩ = false := by simp [World.frozen?, hh]
    have hbp : bp < w5.heap.size := lt_of_cell (p := ⟨bp, 0, none⟩) c0
    have hbp1 : ¬ bp = w5.heap.size := by omega
    have l3 := F5.out.b3.lt
    have l4 := F5.out.b4.lt
    have n31 : ¬ n3 = w5.heap.size := by omega
    have n41 : ¬ n4 = w5.heap.size := by omega
    have hB2 := F5.out.st.leB
    have HO := Lib.hid hown
    have HH := Lib.hid hh
    have hne4 := F5.out.ne4
    have hne3 := F5.out.ne3
    clear hown hh
    go_region_law ((refine step_append_st rfl (.tmp 60) (.tmp 65) 22 rfl B 3 i0 (.int .i64 0) 1 8 Try.underlying22 hi0 hz0 hz1 hz2 rfl (by decide) v s'.notes.length _ (by simp [Act.eval]) (by exact (HO.out.alloc _)) ⟨w5.heap.size, 0, none⟩ 2 2 [.int .i64 c', .int .i64 a'] (by simp [Act.eval]) rfl (by exact news2 _ _ _ _) (by simp [Value.oneCell']) (by unfold maxLen; omega) (by omega) (by simp; omega) ?_; intro v' w' u1 u2 u3; obtain ⟨sa, sc, rfl, k0, kf, kb, ks, HK, HN⟩ := nts_grow (l' := s'.notes ++ [c', a']) (S := Non) HH.out HO.out hb (by repeat (first | exact Chg.refl _ | refine Chg.drew ?_ | refine Chg.alloc ?_ _)) u1 (by simp) (by simp) u2 u3 (fun _ h => h.elim); clear u1 u2 u3; have hB4 := F5.out.b4.of (HK.out n4 F5.out.b4.lt F5.out.nd4); have t0 := hB4.cell 0 _ rfl; have t1 := hB4.cell 1 _ rfl; have t2 := hB4.cell 2 _ rfl; have g0 := hB4.frozen 0; have g1 := hB4.frozen 1; have g2 := hB4.frozen 2; clear hB4))
    all_goals
      go_wp2_with fail
      refine bodyPost_ret (v := encE (.ret)) (by simp [results, Try.results32, go_sem, t0, t1, t2, encE]) rfl ?_
      exact (F5.out.noted HN).finish HS.out (K5.out.trans HN.out.2) H4.out (by simp only [play]; rw [if_neg (by omega), if_neg (by omega), if_neg (by omega), if_pos trivial, HR.out]; rfl) (by repeat (first | exact Chg.refl _ | refine Chg.drew ?_ | refine Chg.drewN ?_ _ | refine Chg.setCell ?_ _ _ (fun _ => rfl)))
  | num x' =>
    simp only [encE]
    go_upto_region 16 with (fail)
    refine wp_world (fun w5 => Ext w4 w5 ∧ Blk w5 w4.heap.size #[.int .i64 2, .int .i64 0, .int .i64 x'] 54) ⟨(Chg.refl _).alloc _, Blk.new _ _ _⟩ ?_
    rintro w5 ⟨e5, b7⟩
    obtain ⟨n7, hn7⟩ : ∃ n7, w4.heap.size = n7 := ⟨_, rfl⟩
    rw [hn7] at b7
    rw [hn7]
    have F5 := Lib.hid (F4.out.toExt e5)
    have K5 := Lib.hid (K4.out.trans (F4.out.st.keepExt e5))
    have p0 := b7.cell 0 _ rfl
    have p1 := b7.cell 1 _ rfl
    have p2 := b7.cell 2 _ rfl
    have l7 := b7.lt
    have n71 : ¬ n7 = w5.heap.size := by omega
    have ne7 : ¬ n7 = n4 := by have := F4.out.b4.lt; omega
    clear e5 hn7 b7
    have q0 := F5.out.b3.cell 0 _ rfl
    have q1 := F5.out.b3.cell 1 _ rfl
    have q2 := F5.out.b3.cell 2 _ rfl
    have q3 := F5.out.b3.cell 3 _ rfl
    have r0 := F5.out.b4.cell 0 _ rfl
    have r1 := F5.out.b4.cell 1 _ rfl
    have r2 := F5.out.b4.cell 2 _ rfl
    have f0 := F5.out.b4.frozen 0
    have f1 := F5.out.b4.frozen 1
    have f2 := F5.out.b4.frozen 2
    go_wp2_with fail
    refine bodyPost_ret (v := encE (.num x')) (by simp [results, Try.results32, go_sem, r0, r1, r2, encE]) rfl ?_
    exact F5.out.finish HS.out K5.out H4.out (by simp only [play]; rw [if_neg (by omega), if_neg (by omega), if_neg (by omega), if_pos trivial, HR.out]; rfl) (by repeat (first | exact Chg.refl _ | refine Chg.drew ?_ | refine Chg.drewN ?_ _ | refine Chg.setCell ?_ _ _ (fun _ => rfl)))
end Go.Proofs.Ytdiklblnilmpoaa
