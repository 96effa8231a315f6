/-
  The contract of 'plays': kind 3 (all kids).
-/
import Derived.Test.YtdiklblnilmpoaaPlayD
namespace Go.Proofs.Ytdiklblnilmpoaa
open Go.RowKit Pl
set_option linter.unusedVariables false
set_option linter.unusedSimpArgs false
set_option maxRecDepth 100000 in
set_option maxHeartbeats 2000000 in
theorem plays3 (c n : Int) (kids : List Tr) (IH : ∀ (j : Nat) (t : Tr), kids[j]? = some t → PlaysOK t) : PlaysOK (.node 3 c n kids) := by
  intro W d w B bp s hnode hst hlen
  have hnode0 := Lib.hid hnode
  cases hnode with
  | mk _ _ _ a cap _ f hmax cells sub =>
  simp only [Nd.val, nk]
  have HC := Lib.hid cells
  have HS0 := Lib.hid sub
  clear cells sub
  go_enter Try.func32, Try.ntmps32
  go_upto_region 1 with (fail)
  refine wp_world (fun w2 => Ext w w2 ∧ Fr W B bp w.heap.size (w.heap.size + 1) #[.int .i64 3, .int .i64 c, .int .i64 n, .slice a kids.length cap] w2 s) ⟨((Chg.refl w).alloc _).alloc _, Fr.start hst⟩ ?_
  rintro w2 ⟨e2, fr⟩
  obtain ⟨n3, hn3⟩ : ∃ n3, w.heap.size = n3 := ⟨_, rfl⟩
  obtain ⟨n4, hn4⟩ : ∃ n4, w.heap.size + 1 = n4 := ⟨_, rfl⟩
  rw [hn4] at fr
  rw [hn3] at fr
  have q0 := fr.b3.cell 0 _ rfl
  have q1 := fr.b3.cell 1 _ rfl
  have q2 := fr.b3.cell 2 _ rfl
  have q3 := fr.b3.cell 3 _ rfl
  have r0 := fr.b4.cell 0 _ rfl
  have r1 := fr.b4.cell 1 _ rfl
  have r2 := fr.b4.cell 2 _ rfl
  have f0 := fr.b4.frozen 0
  have f1 := fr.b4.frozen 1
  have f2 := fr.b4.frozen 2
  have l3 := fr.b3.lt
  have l4 := fr.b4.lt
  have h4 : w.heap.size ≤ n4 := by omega
  have HL := Lib.hid hlen
  rw [hn4, hn3]
  have K0 := Lib.hid (hst.keepExt e2)
  have HS := Lib.hid hst
  have HF := Lib.hid fr
  have H4 := Lib.hid h4
  clear fr hst e2 hn3 hn4 hlen h4
  obtain ⟨L, hL⟩ : ∃ L, kids.length = L := ⟨_, rfl⟩
  have hroom : s.notes.length + 3 * cntAll kids + 3 ≤ 1000 := by have := HL.out; simp only [cnt] at this; omega
  have hplay : play (.node 3 c n kids) s = playAll kids s := by simp [play]
  have HPL := Lib.hid hplay
  have HLL := Lib.hid hL
  have HH := Lib.hid IH
  have IH := HH
  have hF := HF.out
  rw [hL] at hF hmax
  have HF := Lib.hid hF
  rw [hL] at q3 ⊢
  have HRM := Lib.hid hroom
  have HHC := HC
  clear hF hL hplay hroom
  go_wp2_with fail
  go_loopg [5] L (fun gg l5 wr => ∃ (i : Nat) (si : St), i ≤ L ∧ Fr W B bp n3 n4 #[.int .i64 3, .int .i64 c, .int .i64 n, .slice a L cap] wr si ∧ Keep (NtsD bp Non) w wr ∧ playAll (kids.drop i) si = playAll kids s ∧ si.notes.length + 3 * cntAll (kids.drop i) + 3 ≤ 1000 ∧ l5 = .int .i64 i ∧ gg = L - i)
  case atStart => exact ⟨0, s, Nat.zero_le _, HF.out, K0.out, by simp, by simpa using HRM.out, rfl, rfl⟩
  case round =>
    obtain ⟨i, si, hi, fri, hki, hpi, hri, rfl, rfl⟩ := hrel
    clear q0 q1 q2 q3 r0 r1 r2 f0 f1 f2 l3 l4
    have q0 := fri.b3.cell 0 _ rfl
    have q1 := fri.b3.cell 1 _ rfl
    have q2 := fri.b3.cell 2 _ rfl
    have q3 := fri.b3.cell 3 _ rfl
    have r0 := fri.b4.cell 0 _ rfl
    have r1 := fri.b4.cell 1 _ rfl
    have r2 := fri.b4.cell 2 _ rfl
    have f0 := fri.b4.frozen 0
    have f1 := fri.b4.frozen 1
    have f2 := fri.b4.frozen 2
    have FI := Lib.hid fri
    have KI := Lib.hid hki
    have RI := Lib.hid hri
    by_cases hlt : i < L
    · have h1 : 0 ≤ (i : Int) := by omega
      have h2 : (i : Int) < (L : Int) := by omega
      obtain ⟨t, htk⟩ : ∃ t, kids[i]? = some t := ⟨_, List.getElem?_eq_getElem (by rw [HLL.out]; exact hlt)⟩
      have hdrop : kids.drop i = t :: kids.drop (i + 1) := by
        rw [List.drop_eq_getElem_cons (by rw [HLL.out]; exact hlt)]
        congr 1
        rw [List.getElem?_eq_getElem (by rw [HLL.out]; exact hlt)] at htk
        exact Option.some.inj htk
      rw [hdrop] at hpi hri
      simp only [cntAll] at hri
      obtain ⟨x, rfl, h4⟩ := HC.out i t htk
      obtain ⟨u0, u1, u2, u3⟩ := h4.ext fri.st.ext
      have hcall := IH.out i t htk W (f i) wr B bp si (HS0.out i t htk) fri.st (by omega)
      simp only [Nd.val] at hcall
      have HK := Lib.hid hcall
      have hfair := play_fair t si
      have HPI := Lib.hid hpi
      have HRI := Lib.hid hri
      clear hcall hpi hri hdrop htk h4 fri hki RI
      go_wp2_with fail
      refine HK.out.mono ?_
      rintro e w4 ⟨rfl, hs4, hk4⟩
      have F4 := Lib.hid (FI.out.toKeep hk4 hs4)
      have K4 := Lib.hid (KI.out.trans hk4)
      clear hs4 hk4 q0 q1 q2 q3 r0 r1 r2 f0 f1 f2 HK u0 u1 u2 u3
      generalize hr : play t si = r at *
      obtain ⟨en, s'⟩ := r
      have HR := Lib.hid hr
      have hnl : s'.notes.length + 3 * cntAll (kids.drop (i + 1)) + 3 ≤ 1000 := by
        have h1 := HRI.out
        have h2 := hfair.1
        simp only at h2
        omega
      have HNL := Lib.hid hnl
      clear hr hnl hfair
      cases en with
      | ret =>
        simp only [encE]
        go_upto_region 11 with (fail)
        refine wp_world (fun w5 => Ext w4 w5 ∧ Blk w5 w4.heap.size #[.int .i64 0, .int .i64 0, .int .i64 0] 54) ⟨(Chg.refl _).alloc _, Blk.new _ _ _⟩ ?_
        rintro w5 ⟨e5, b7⟩
        have F5 := Lib.hid (F4.out.toExt e5)
        have K5 := Lib.hid (K4.out.trans (F4.out.st.keepExt e5))
        have p0 := b7.cell 0 _ rfl
        clear e5 b7
        go_wp2_with fail
        go_roundg (L - (i + 1))
        case measure => omega
        case rel => exact ⟨i + 1, s', by omega, F5.out, K5.out, ((playAll_ret HR.out).symm.trans HPI.out), HNL.out, by go_num, rfl⟩
      | bail c' a' =>
        simp only [encE]
        go_upto_region 11 with (fail)
        refine wp_world (fun w5 => Ext w4 w5 ∧ Blk w5 w4.heap.size #[.int .i64 1, .int .i64 c', .int .i64 a'] 54) ⟨(Chg.refl _).alloc _, Blk.new _ _ _⟩ ?_
        rintro w5 ⟨e5, b7⟩
        have F5 := Lib.hid (F4.out.toExt e5)
        have K5 := Lib.hid (K4.out.trans (F4.out.st.keepExt e5))
        have p0 := b7.cell 0 _ rfl
        have p1 := b7.cell 1 _ rfl
        have p2 := b7.cell 2 _ rfl
        clear e5 b7
        have q0 := F5.out.b3.cell 0 _ rfl
        have q1 := F5.out.b3.cell 1 _ rfl
        have q2 := F5.out.b3.cell 2 _ rfl
        have q3 := F5.out.b3.cell 3 _ rfl
        have r0 := F5.out.b4.cell 0 _ rfl
        have r1 := F5.out.b4.cell 1 _ rfl
        have r2 := F5.out.b4.cell 2 _ rfl
        have f0 := F5.out.b4.frozen 0
        have f1 := F5.out.b4.frozen 1
        have f2 := F5.out.b4.frozen 2
        go_wp2_with fail
        refine bodyPost_ret (v := encE (.bail c' a')) (by simp [results, Try.results32, go_sem, r0, r1, r2, encE]) rfl ?_
        exact F5.out.finish HS.out K5.out H4.out (by rw [HPL.out]; exact HPI.out.symm.trans (playAll_bail HR.out)) (by repeat (first | exact Chg.refl _ | refine Chg.drew ?_ | refine Chg.drewN ?_ _ | refine Chg.setCell ?_ _ _ (fun _ => rfl)))
      | num x' =>
        simp only [encE]
        go_upto_region 11 with (fail)
        refine wp_world (fun w5 => Ext w4 w5 ∧ Blk w5 w4.heap.size #[.int .i64 2, .int .i64 0, .int .i64 x'] 54) ⟨(Chg.refl _).alloc _, Blk.new _ _ _⟩ ?_
        rintro w5 ⟨e5, b7⟩
        have F5 := Lib.hid (F4.out.toExt e5)
        have K5 := Lib.hid (K4.out.trans (F4.out.st.keepExt e5))
        have p0 := b7.cell 0 _ rfl
        have p1 := b7.cell 1 _ rfl
        have p2 := b7.cell 2 _ rfl
        clear e5 b7
        have q0 := F5.out.b3.cell 0 _ rfl
        have q1 := F5.out.b3.cell 1 _ rfl
        have q2 := F5.out.b3.cell 2 _ rfl
        have q3 := F5.out.b3.cell 3 _ rfl
        have r0 := F5.out.b4.cell 0 _ rfl
        have r1 := F5.out.b4.cell 1 _ rfl
        have r2 := F5.out.b4.cell 2 _ rfl
        have f0 := F5.out.b4.frozen 0
        have f1 := F5.out.b4.frozen 1
        have f2 := F5.out.b4.frozen 2
        go_wp2_with fail
        refine bodyPost_ret (v := encE (.num x')) (by simp [results, Try.results32, go_sem, r0, r1, r2, encE]) rfl ?_
        exact F5.out.finish HS.out K5.out H4.out (by rw [HPL.out]; exact HPI.out.symm.trans (playAll_num HR.out)) (by repeat (first | exact Chg.refl _ | refine Chg.drew ?_ | refine Chg.drewN ?_ _ | refine Chg.setCell ?_ _ _ (fun _ => rfl)))
    · have h2 : ¬ (i : Int) < (L : Int) := by omega
      have hfin : playAll kids s = (.ret, si) := by
        rw [← hpi, List.drop_eq_nil_of_le (by rw [HLL.out]; omega)]; simp [playAll]
      have HFN := Lib.hid hfin
      clear hpi hri hfin fri hki hlt
      go_wp2_with fail
      refine bodyPost_ret (v := encE (.ret)) (by simp [results, Try.results32, go_sem, r0, r1, r2, encE]) rfl ?_
      exact FI.out.finish HS.out KI.out H4.out (by rw [HPL.out]; exact HFN.out) (by repeat (first | exact Chg.refl _ | refine Chg.drew ?_ | refine Chg.drewN ?_ _ | refine Chg.setCell ?_ _ _ (fun _ => rfl)))
end Go.Proofs.Ytdiklblnilmpoaa
