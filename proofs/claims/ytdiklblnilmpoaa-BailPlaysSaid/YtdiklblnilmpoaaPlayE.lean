/-
  The contract of 'plays': kind 9 (a use of the meter).
-/
import Derived.Test.YtdiklblnilmpoaaPlayD
namespace Go.Proofs.Ytdiklblnilmpoaa
open Go.RowKit Pl
set_option linter.unusedVariables false
set_option maxRecDepth 100000 in
set_option maxHeartbeats 1000000 in
theorem plays9 (c n : Int) (kids : List Tr) : PlaysOK (.node 9 c n kids) := by
  intro W d w B bp s hnode hst hlen
  have hnode0 := Lib.hid hnode
  cases hnode with
  | mk _ _ _ a cap _ f hmax cells sub =>
  simp only [Nd.val, nk]
  clear cells sub
  go_enter Try.func32, Try.ntmps32
  go_upto_region 1 with (fail)
  refine wp_world (fun w2 => Ext w w2 ∧ Fr W B bp w.heap.size (w.heap.size + 1) #[.int .i64 9, .int .i64 c, .int .i64 n, .slice a kids.length cap] w2 s) ⟨((Chg.refl w).alloc _).alloc _, Fr.start hst⟩ ?_
  rintro w2 ⟨e2, fr⟩
  obtain ⟨n3, hn3⟩ : ∃ n3, w.heap.size = n3 := ⟨_, rfl⟩
  obtain ⟨n4, hn4⟩ : ∃ n4, w.heap.size + 1 = n4 := ⟨_, rfl⟩
  rw [hn4] at fr
  rw [hn3] at fr
  have q0 := fr.b3.cell 0 _ rfl
  have q1 := fr.b3.cell 1 _ rfl
  have q2 := fr.b3.cell 2 _ rfl
  have q3 := fr.b3.cell 3 _ rfl
  have r0 := fr.b4.cell 0 _ rfl
  have r1 := fr.b4.cell 1 _ rfl
  have r2 := fr.b4.cell 2 _ rfl
  have f0 := fr.b4.frozen 0
  have f1 := fr.b4.frozen 1
  have f2 := fr.b4.frozen 2
  have l3 := fr.b3.lt
  have l4 := fr.b4.lt
  have h4 : w.heap.size ≤ n4 := by omega
  have HL := Lib.hid hlen
  rw [hn4, hn3]
  have K0 := Lib.hid (hst.keepExt e2)
  have HS := Lib.hid hst
  have HF := Lib.hid fr
  have H4 := Lib.hid h4
  clear fr hst e2 hn3 hn4 hlen h4
  obtain ⟨v, hh, hown, hb⟩ := HF.out.st.nts
  have c1 : w2.cell? ⟨bp, 1, none⟩ = some (.int .i64 s.left) := by simp [World.cell?, hh]
  have cf1 : w2.frozen? ⟨bp, 1, none⟩ = false := by simp [World.frozen?, hh]
  have hne4 := HF.out.ne4
  have hl0 := HF.out.st.l0
  have hl1 := HF.out.st.l1
  clear hown hh
  obtain ⟨L, hLL⟩ : ∃ L, s.left = L := ⟨_, rfl⟩
  rw [hLL] at c1 hl0 hl1
  have HLL := Lib.hid hLL
  clear hLL
  by_cases hn : n < 0
  · go_wp2_with fail
    refine bodyPost_ret (v := encE (.bail 1 n)) (by simp [results, Try.results32, go_sem, r0, r1, r2, encE]) rfl ?_
    exact HF.out.finish HS.out K0.out H4.out (by simp [play, use, hn]) (by repeat (first | exact Chg.refl _ | refine Chg.drew ?_ | refine Chg.drewN ?_ _ | refine Chg.setCell ?_ _ _ (fun _ => rfl)))
  · by_cases hn2 : L < n
    · go_wp2_with fail
      go_quiet (fail)
      go_wp2_with fail
      refine bodyPost_ret (v := encE (.bail 10 n)) (by simp [results, Try.results32, go_sem, r0, r1, r2, encE]) rfl ?_
      exact HF.out.finish HS.out K0.out H4.out (by have := HLL.out; simp [play, use, hn, this, hn2]) (by repeat (first | exact Chg.refl _ | refine Chg.drew ?_ | refine Chg.drewN ?_ _ | refine Chg.setCell ?_ _ _ (fun _ => rfl)))
    · go_wp2_with fail
      go_quiet (fail)
      go_wp2_with fail
      go_region
      all_goals
        go_wp2_with fail
        refine bodyPost_ret (v := encE .ret) (by simp [results, Try.results32, go_sem, r0, r1, r2, encE]) rfl ?_
        obtain rfl := HLL.out
        have fr1 := HF.out.toExt (Chg.drewN (Chg.refl w2) (nq + 1))
        have hx := fr1.st.nts.setx (x' := .int .i64 (s.left - n))
        have fr2 : Fr W B bp n3 n4 _ _ ⟨s.notes, s.left - n⟩ := fr1.toKeep hx.2 (fr1.st.toKeep (s' := ⟨s.notes, s.left - n⟩) hx.2 hx.1 (by simp only; omega) (by simp only; omega))
        exact fr2.finish HS.out ((K0.out.trans (HF.out.st.keepExt (Chg.drewN (Chg.refl w2) (nq + 1)))).trans hx.2) H4.out (by simp only [play]; rw [if_neg (by omega), if_neg (by omega), if_neg (by omega), if_neg (by omega), if_neg (by omega), if_neg (by omega), if_neg (by omega), if_neg (by omega), if_pos trivial, use, if_neg (by omega), if_neg (by omega)]) (by repeat (first | exact Chg.refl _ | refine Chg.drew ?_ | refine Chg.drewN ?_ _ | refine Chg.setCell ?_ _ _ (fun _ => rfl)))
end Go.Proofs.Ytdiklblnilmpoaa
