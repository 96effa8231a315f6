/-
  The contract of 'does': kind 8 (a note).
-/
import Derived.Test.YtdiklblnilmpoaaDoesA
import Derived.Deep.RegionHeld3
namespace Go.Proofs.Ytdiklblnilmpoaa
open Go.RowKit Pl
set_option linter.unusedVariables false
set_option linter.unusedSimpArgs false
set_option maxRecDepth 100000 in
set_option maxHeartbeats 4000000 in
theorem does8 (c n : Int) (kids : List Tr) : DoesOK (.node 8 c n kids) := by
  intro W d w B bw bm s hnode hst hlen
  have hnode0 := Lib.hid hnode
  cases hnode with
  | mk _ _ _ a cap _ f hmax cells sub =>
  simp only [Nd.val, nk]
  have HC := Lib.hid cells
  have HSub := Lib.hid sub
  clear cells sub
  go_enter Try.func34, Try.ntmps34
  go_upto_region 1 with (fail)
  refine wp_world (fun w2 => Ext w w2 ∧ FrD W B bw bm w.heap.size (w.heap.size + 1) #[.int .i64 8, .int .i64 c, .int .i64 n, .slice a kids.length cap] w2 s) ⟨((Chg.refl w).alloc _).alloc _, FrD.start hst⟩ ?_
  rintro w2 ⟨e2, fr⟩
  obtain ⟨n2, hn2⟩ : ∃ n2, w.heap.size = n2 := ⟨_, rfl⟩
  obtain ⟨n3, hn3⟩ : ∃ n3, w.heap.size + 1 = n3 := ⟨_, rfl⟩
  rw [hn3] at fr
  rw [hn2] at fr
  have p0 := fr.b2.cell 0 _ rfl
  have q0 := fr.b3.cell 0 _ rfl
  have q1 := fr.b3.cell 1 _ rfl
  have q2 := fr.b3.cell 2 _ rfl
  have q3 := fr.b3.cell 3 _ rfl
  have HL := Lib.hid hlen
  rw [hn3, hn2]
  have K0 := Lib.hid (hst.keepExt e2)
  have HS := Lib.hid hst
  have HF := Lib.hid fr
  clear fr hst e2 hn2 hn3 hlen
  obtain ⟨i0, hi0, hz0, hz1, hz2⟩ := info_parts info_int
  have hl : s.notes.length ≤ 1000 := by have := HL.out; omega
  have hp : play (.node 8 c n kids) s = (.ret, s.add [n]) := by simp [play]
  have HP := Lib.hid hp
  clear hp
  obtain ⟨v, hh, hown, hb⟩ := HF.out.st.nts
  have c0 : w2.cell? ⟨bw, 0, none⟩ = some v := by simp [World.cell?, hh]
  have cf0 : w2.frozen? ⟨bw, 0, none⟩ = false := by simp [World.frozen?, hh]
  have hbp : bw < w2.heap.size := lt_of_cell (p := ⟨bw, 0, none⟩) c0
  have hbp1 : ¬ bw = w2.heap.size := by omega
  have l2 := HF.out.b2.lt
  have l3 := HF.out.b3.lt
  have n21 : ¬ n2 = w2.heap.size := by omega
  have n31 : ¬ n3 = w2.heap.size := by omega
  have n2b : ¬ n2 = bw := HF.out.ne2.1
  have n3b : ¬ n3 = bw := HF.out.ne3.1
  have hB2 := HF.out.st.leB
  have HO := Lib.hid hown
  have HH := Lib.hid hh
  clear hown hh
  go_wp2_with fail
  refine wp_region_held_drew (S := fun w' => w'.cell? ⟨n2, 0, none⟩ = some (.pointer (some ⟨bw, 0, none⟩)) ∧ w'.cell? ⟨n3, 2, none⟩ = some (.int .i64 n)) (by kernel_rfl) (⟨(HF.out.b2.chg (S := fun _ => False) (by repeat (first | exact Chg.refl _ | refine Chg.drew ?_ | refine Chg.alloc ?_ _)) (fun h => h)).cell 0 _ rfl, (HF.out.b3.chg (S := fun _ => False) (by repeat (first | exact Chg.refl _ | refine Chg.drew ?_ | refine Chg.alloc ?_ _)) (fun h => h)).cell 2 _ rfl⟩) (fun hHeld => ?_)
  refine wpAnyH_take (i := 0) (v := .pointer (some ⟨bw, 0, none⟩)) rfl (by kernel_rfl) (by kernel_rfl) (by kernel_rfl) (fun _ _ _ h => h) (Or.inl ⟨by rfl, ?_⟩) hHeld ?_
  · intro wS hSw
    obtain ⟨hs0, hs1⟩ := hSw
    go_simp
  simp only [Act.put, List.setIfInBounds_toArray, List.set_cons_zero, List.set_cons_succ]
  refine wpAnyH_take (i := 1) (v := .pointer (some ⟨bw, 0, none⟩)) rfl (by kernel_rfl) (by kernel_rfl) (by kernel_rfl) (fun _ _ _ h => h) (Or.inl ⟨by rfl, ?_⟩) hHeld ?_
  · intro wS hSw
    obtain ⟨hs0, hs1⟩ := hSw
    go_simp
  simp only [Act.put, List.setIfInBounds_toArray, List.set_cons_zero, List.set_cons_succ]
  refine wpAnyH_take (i := 2) (v := .pointer (some ⟨bw, 0, none⟩)) rfl (by kernel_rfl) (by kernel_rfl) (by kernel_rfl) (fun _ _ _ h => h) (Or.inl ⟨by rfl, ?_⟩) hHeld ?_
  · intro wS hSw
    obtain ⟨hs0, hs1⟩ := hSw
    go_simp
  simp only [Act.put, List.setIfInBounds_toArray, List.set_cons_zero, List.set_cons_succ]
  refine wpAnyH_take (i := 3) (v := .pointer (some ⟨bw, 0, none⟩)) rfl (by kernel_rfl) (by kernel_rfl) (by kernel_rfl) (fun _ _ _ h => h) (Or.inl ⟨by rfl, ?_⟩) hHeld ?_
  · intro wS hSw
    obtain ⟨hs0, hs1⟩ := hSw
    go_simp
  simp only [Act.put, List.setIfInBounds_toArray, List.set_cons_zero, List.set_cons_succ]
  refine wpAnyH_take (i := 5) (v := .pointer (some ⟨n3, 2, none⟩)) rfl (by kernel_rfl) (by kernel_rfl) (by kernel_rfl) (fun _ _ _ h => h) (Or.inl ⟨by rfl, ?_⟩) hHeld ?_
  · intro wS hSw
    obtain ⟨hs0, hs1⟩ := hSw
    go_simp
  simp only [Act.put, List.setIfInBounds_toArray, List.set_cons_zero, List.set_cons_succ]
  refine wpAnyH_take (i := 6) (v := .int .i64 n) rfl (by kernel_rfl) (by kernel_rfl) (by kernel_rfl) (fun _ _ _ h => h) (Or.inl ⟨by rfl, ?_⟩) hHeld ?_
  · intro wS hSw
    obtain ⟨hs0, hs1⟩ := hSw
    go_simp
  simp only [Act.put, List.setIfInBounds_toArray, List.set_cons_zero, List.set_cons_succ]
  refine wpAnyH_ready (rs := [4, 7]) (by kernel_rfl) (by simp) ?_
  refine AllReadyH.cons rfl (fun K hK => ?_) ?_
  · go_simp
    refine hK.out _ _ (by exact hHeld) (fun hHeld => ?_)
    clear hK K
    refine wpAnyH_ready (rs := [7]) (by kernel_rfl) (by simp) ?_
    refine AllReadyH.cons rfl (fun K hK => ?_) ?_
    · go_simp
      refine hK.out _ _ (⟨(HF.out.b2.chg (S := fun _ => False) (by repeat (first | exact Chg.refl _ | refine Chg.drew ?_ | refine Chg.alloc ?_ _)) (fun h => h)).cell 0 _ rfl, (HF.out.b3.chg (S := fun _ => False) (by repeat (first | exact Chg.refl _ | refine Chg.drew ?_ | refine Chg.alloc ?_ _)) (fun h => h)).cell 2 _ rfl⟩) (fun hHeld => ?_)
      clear hK K
      refine wpAnyH_ready (rs := [8]) (by kernel_rfl) (by simp) ?_
      refine AllReadyH.cons rfl (fun K hK => ?_) ?_
      · refine step_append_st rfl (.tmp 160) (.tmp 163) 22 rfl B 3 i0 (.int .i64 0) 1 8 Try.underlying22 hi0 hz0 hz1 hz2 rfl (by decide) v s.notes.length _ (by simp [Act.eval]) (by exact (HO.out.alloc _)) ⟨w2.heap.size, 0, none⟩ 1 1 [.int .i64 n] (by simp [Act.eval]) rfl (by exact news1 _ _ _) (by simp [Value.oneCell']) (by unfold maxLen; omega) (by omega) (by simp; omega) ?_
        intro v' w' u1 u2 u3
        obtain ⟨sa, sc, rfl, k0, kf, kb, ks, HK, HN⟩ := nts_grow (l' := s.notes ++ [n]) (S := fun k => k = bm) HH.out HO.out hb (by repeat (first | exact Chg.refl _ | refine Chg.drew ?_ | refine Chg.alloc ?_ _)) u1 (by simp) (by simp) u2 u3 (fun k hk => by rw [hk]; exact HF.out.st.bx.lt)
        clear u1 u2 u3
        have g2 := HF.out.b2.of (HK.out n2 HF.out.b2.lt (HF.out.st.nts.notD_type HF.out.b2 (by decide) HF.out.ne2.1 (fun h => h)))
        have g3 := HF.out.b3.of (HK.out n3 HF.out.b3.lt (HF.out.st.nts.notD_type HF.out.b3 (by decide) HF.out.ne3.1 (fun h => h)))
        have hSA : w'.cell? ⟨n2, 0, none⟩ = some (.pointer (some ⟨bw, 0, none⟩)) ∧ w'.cell? ⟨n3, 2, none⟩ = some (.int .i64 n) := ⟨g2.cell 0 _ rfl, g3.cell 2 _ rfl⟩
        refine hK.out _ _ hSA (fun hHeld => ?_)
        have HSA := Lib.hid hSA
        clear hK K g2 g3 hSA
        simp only [Act.put, List.setIfInBounds_toArray, List.set_cons_zero, List.set_cons_succ]
        refine wpAnyH_take (i := 9) (v := .pointer (some ⟨bw, 0, none⟩)) rfl (by kernel_rfl) (by kernel_rfl) (by kernel_rfl) (fun _ _ _ h => h) (Or.inl ⟨by rfl, ?_⟩) hHeld ?_
        · intro wS hSw
          obtain ⟨hs0, hs1⟩ := hSw
          go_simp
        simp only [Act.put, List.setIfInBounds_toArray, List.set_cons_zero, List.set_cons_succ]
        refine wpAnyH_take (i := 10) (v := .pointer (some ⟨bw, 0, none⟩)) rfl (by kernel_rfl) (by kernel_rfl) (by kernel_rfl) (fun _ _ _ h => h) (Or.inl ⟨by rfl, ?_⟩) hHeld ?_
        · intro wS hSw
          obtain ⟨hs0, hs1⟩ := hSw
          go_simp
        simp only [Act.put, List.setIfInBounds_toArray, List.set_cons_zero, List.set_cons_succ]
        refine wpAnyH_ready (rs := [11]) (by kernel_rfl) (by simp) ?_
        refine AllReadyH.cons rfl (fun K hK => ?_) ?_
        · go_simp
          have hSB := HSA.out
          obtain ⟨hs0, hs1⟩ := hSB
          refine hK.out _ _ ⟨(Eq.trans (World.cell?_of_block (Below.heap_setCell _ _ _ _ n2b)) hs0), (Eq.trans (World.cell?_of_block (Below.heap_setCell _ _ _ _ n3b)) hs1)⟩ (fun hHeld => ?_)
          clear hK K hHeld
          refine wpAnyH_done (by kernel_rfl) ?_ _
          go_end0
          rw [HP.out]
          exact ⟨rfl, (HF.out.noted HN ((Below.heap_setCell _ _ _ _ HF.out.st.ne).trans (HK.out bm HF.out.st.bx.lt (HF.out.st.nts.notD HF.out.st.ne (fun h => h) HF.out.st.ltm)))).st, K0.out.trans HN.out.2⟩
        exact AllReadyH.nil
      exact AllReadyH.nil
    exact AllReadyH.nil
  refine AllReadyH.cons rfl (fun K hK => ?_) ?_
  · go_simp
    refine hK.out _ _ (⟨(HF.out.b2.chg (S := fun _ => False) (by repeat (first | exact Chg.refl _ | refine Chg.drew ?_ | refine Chg.alloc ?_ _)) (fun h => h)).cell 0 _ rfl, (HF.out.b3.chg (S := fun _ => False) (by repeat (first | exact Chg.refl _ | refine Chg.drew ?_ | refine Chg.alloc ?_ _)) (fun h => h)).cell 2 _ rfl⟩) (fun hHeld => ?_)
    clear hK K
    refine wpAnyH_ready (rs := [4]) (by kernel_rfl) (by simp) ?_
    refine AllReadyH.cons rfl (fun K hK => ?_) ?_
    · go_simp
      refine hK.out _ _ (by exact hHeld) (fun hHeld => ?_)
      clear hK K
      refine wpAnyH_ready (rs := [8]) (by kernel_rfl) (by simp) ?_
      refine AllReadyH.cons rfl (fun K hK => ?_) ?_
      · refine step_append_st rfl (.tmp 160) (.tmp 163) 22 rfl B 3 i0 (.int .i64 0) 1 8 Try.underlying22 hi0 hz0 hz1 hz2 rfl (by decide) v s.notes.length _ (by simp [Act.eval]) (by exact (HO.out.alloc _)) ⟨w2.heap.size, 0, none⟩ 1 1 [.int .i64 n] (by simp [Act.eval]) rfl (by exact news1 _ _ _) (by simp [Value.oneCell']) (by unfold maxLen; omega) (by omega) (by simp; omega) ?_
        intro v' w' u1 u2 u3
        obtain ⟨sa, sc, rfl, k0, kf, kb, ks, HK, HN⟩ := nts_grow (l' := s.notes ++ [n]) (S := fun k => k = bm) HH.out HO.out hb (by repeat (first | exact Chg.refl _ | refine Chg.drew ?_ | refine Chg.alloc ?_ _)) u1 (by simp) (by simp) u2 u3 (fun k hk => by rw [hk]; exact HF.out.st.bx.lt)
        clear u1 u2 u3
        have g2 := HF.out.b2.of (HK.out n2 HF.out.b2.lt (HF.out.st.nts.notD_type HF.out.b2 (by decide) HF.out.ne2.1 (fun h => h)))
        have g3 := HF.out.b3.of (HK.out n3 HF.out.b3.lt (HF.out.st.nts.notD_type HF.out.b3 (by decide) HF.out.ne3.1 (fun h => h)))
        have hSA : w'.cell? ⟨n2, 0, none⟩ = some (.pointer (some ⟨bw, 0, none⟩)) ∧ w'.cell? ⟨n3, 2, none⟩ = some (.int .i64 n) := ⟨g2.cell 0 _ rfl, g3.cell 2 _ rfl⟩
        refine hK.out _ _ hSA (fun hHeld => ?_)
        have HSA := Lib.hid hSA
        clear hK K g2 g3 hSA
        simp only [Act.put, List.setIfInBounds_toArray, List.set_cons_zero, List.set_cons_succ]
        refine wpAnyH_take (i := 9) (v := .pointer (some ⟨bw, 0, none⟩)) rfl (by kernel_rfl) (by kernel_rfl) (by kernel_rfl) (fun _ _ _ h => h) (Or.inl ⟨by rfl, ?_⟩) hHeld ?_
        · intro wS hSw
          obtain ⟨hs0, hs1⟩ := hSw
          go_simp
        simp only [Act.put, List.setIfInBounds_toArray, List.set_cons_zero, List.set_cons_succ]
        refine wpAnyH_take (i := 10) (v := .pointer (some ⟨bw, 0, none⟩)) rfl (by kernel_rfl) (by kernel_rfl) (by kernel_rfl) (fun _ _ _ h => h) (Or.inl ⟨by rfl, ?_⟩) hHeld ?_
        · intro wS hSw
          obtain ⟨hs0, hs1⟩ := hSw
          go_simp
        simp only [Act.put, List.setIfInBounds_toArray, List.set_cons_zero, List.set_cons_succ]
        refine wpAnyH_ready (rs := [11]) (by kernel_rfl) (by simp) ?_
        refine AllReadyH.cons rfl (fun K hK => ?_) ?_
        · go_simp
          have hSB := HSA.out
          obtain ⟨hs0, hs1⟩ := hSB
          refine hK.out _ _ ⟨(Eq.trans (World.cell?_of_block (Below.heap_setCell _ _ _ _ n2b)) hs0), (Eq.trans (World.cell?_of_block (Below.heap_setCell _ _ _ _ n3b)) hs1)⟩ (fun hHeld => ?_)
          clear hK K hHeld
          refine wpAnyH_done (by kernel_rfl) ?_ _
          go_end0
          rw [HP.out]
          exact ⟨rfl, (HF.out.noted HN ((Below.heap_setCell _ _ _ _ HF.out.st.ne).trans (HK.out bm HF.out.st.bx.lt (HF.out.st.nts.notD HF.out.st.ne (fun h => h) HF.out.st.ltm)))).st, K0.out.trans HN.out.2⟩
        exact AllReadyH.nil
      exact AllReadyH.nil
    exact AllReadyH.nil
  exact AllReadyH.nil
end Go.Proofs.Ytdiklblnilmpoaa
