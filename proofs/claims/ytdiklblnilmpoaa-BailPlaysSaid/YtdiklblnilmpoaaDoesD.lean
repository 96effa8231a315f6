/-
  The contract of 'does': kind 4 (Catch).
-/
import Derived.Test.YtdiklblnilmpoaaDoesA
import Derived.Deep.RegionHeld3
namespace Go.Proofs.Ytdiklblnilmpoaa
open Go.RowKit Pl
set_option linter.unusedVariables false
set_option linter.unusedSimpArgs false
set_option maxRecDepth 100000 in
set_option maxHeartbeats 4000000 in
theorem does4 (c n : Int) (kids : List Tr) (IH : DoesOK (kid kids 0)) : DoesOK (.node 4 c n kids) := by
  intro W d w B bw bm s hnode hst hlen
  have hnode0 := Lib.hid hnode
  cases hnode with
  | mk _ _ _ a cap _ f hmax cells sub =>
  simp only [Nd.val, nk]
  have HC := Lib.hid cells
  have HSub := Lib.hid sub
  clear cells sub
  go_enter Try.func34, Try.ntmps34
  go_upto_region 1 with (fail)
  refine wp_world (fun w2 => Ext w w2 ∧ FrD W B bw bm w.heap.size (w.heap.size + 1) #[.int .i64 4, .int .i64 c, .int .i64 n, .slice a kids.length cap] w2 s) ⟨((Chg.refl w).alloc _).alloc _, FrD.start hst⟩ ?_
  rintro w2 ⟨e2, fr⟩
  obtain ⟨n2, hn2⟩ : ∃ n2, w.heap.size = n2 := ⟨_, rfl⟩
  obtain ⟨n3, hn3⟩ : ∃ n3, w.heap.size + 1 = n3 := ⟨_, rfl⟩
  rw [hn3] at fr
  rw [hn2] at fr
  have p0 := fr.b2.cell 0 _ rfl
  have q0 := fr.b3.cell 0 _ rfl
  have q1 := fr.b3.cell 1 _ rfl
  have q2 := fr.b3.cell 2 _ rfl
  have q3 := fr.b3.cell 3 _ rfl
  have HL := Lib.hid hlen
  rw [hn3, hn2]
  have K0 := Lib.hid (hst.keepExt e2)
  have HS := Lib.hid hst
  have HF := Lib.hid fr
  clear fr hst e2 hn2 hn3 hlen
  obtain ⟨i0, hi0, hz0, hz1, hz2⟩ := info_parts info_int
  have hmf := run_mkFunc
  have hroom := kid_room kids 0 s _ c n HL.out
  have HCat := Lib.hid (catch_runs (fv := .func (.func 45) #[] #[.pointer (some ⟨n2, 0, none⟩), .pointer (some ⟨n3, 0, none⟩)]) (ntsD_loc bw (fun k => k = bm)) HF.out.st.there fun w1 e1 => doesLit2_runs W w1 B bw bm n2 n3 4 c n a cap kids s hnode0.out (HF.out.toExt e1) IH hroom)
  clear hroom
  go_wp2_with fail
  refine HCat.out.mono ?_
  rintro e w4 ⟨o, w3, hk2, ⟨rfl, hws⟩, ha, he⟩
  clear HCat
  generalize hr : playKid kids 0 s = r at *
  obtain ⟨en, s'⟩ := r
  simp only at hws he
  have F4 := Lib.hid (HF.out.toKeep ha.1 (HF.out.st.aft hws hk2 ha))
  have K4 := Lib.hid (K0.out.trans ha.1)
  have hlen' : s'.notes.length + 3 ≤ 1000 := by
    have h1 := HL.out
    have h3 := (playKid_fair kids 0 s).1
    rw [hr] at h3
    simp only [cnt] at h1
    simp only at h3
    omega
  have HR := Lib.hid hr
  clear hk2 hws ha hr q0 q1 q2 q3 p0
  cases en with
  | ret =>
    simp only [toFin] at he
    subst he
    have hp : play (.node 4 c n kids) s = (.ret, s'.add [0, 0]) := by simp only [play]; rw [if_neg (by omega), if_neg (by omega), if_neg (by omega), if_pos trivial, HR.out]; rfl
    have HP := Lib.hid hp
    clear hp
    have p0 := F4.out.b2.cell 0 _ rfl
    obtain ⟨v, hh, hown, hb⟩ := F4.out.st.nts
    have c0 : w4.cell? ⟨bw, 0, none⟩ = some v := by simp [World.cell?, hh]
    have cf0 : w4.frozen? ⟨bw, 0, none⟩ = false := by simp [World.frozen?, hh]
    have hbp : bw < w4.heap.size := lt_of_cell (p := ⟨bw, 0, none⟩) c0
    have hbp1 : ¬ bw = w4.heap.size := by omega
    have l2 := F4.out.b2.lt
    have l3 := F4.out.b3.lt
    have n21 : ¬ n2 = w4.heap.size := by omega
    have n31 : ¬ n3 = w4.heap.size := by omega
    have n2b : ¬ n2 = bw := F4.out.ne2.1
    have n3b : ¬ n3 = bw := F4.out.ne3.1
    have hB2 := F4.out.st.leB
    have HO := Lib.hid hown
    have HH := Lib.hid hh
    clear hown hh
    go_wp2_with fail
    refine wp_region_held_drew (S := fun w' => w'.cell? ⟨n2, 0, none⟩ = some (.pointer (some ⟨bw, 0, none⟩))) (by kernel_rfl) ((F4.out.b2.chg (S := fun _ => False) (by repeat (first | exact Chg.refl _ | refine Chg.drew ?_ | refine Chg.alloc ?_ _)) (fun h => h)).cell 0 _ rfl) (fun hHeld => ?_)
    refine wpAnyH_take (i := 0) (v := .pointer (some ⟨bw, 0, none⟩)) rfl (by kernel_rfl) (by kernel_rfl) (by kernel_rfl) (fun _ _ _ h => h) (Or.inl ⟨by rfl, ?_⟩) hHeld ?_
    · intro wS hSw
      have hs0 := hSw
      go_simp
    simp only [Act.put, List.setIfInBounds_toArray, List.set_cons_zero, List.set_cons_succ]
    refine wpAnyH_take (i := 1) (v := .pointer (some ⟨bw, 0, none⟩)) rfl (by kernel_rfl) (by kernel_rfl) (by kernel_rfl) (fun _ _ _ h => h) (Or.inl ⟨by rfl, ?_⟩) hHeld ?_
    · intro wS hSw
      have hs0 := hSw
      go_simp
    simp only [Act.put, List.setIfInBounds_toArray, List.set_cons_zero, List.set_cons_succ]
    refine wpAnyH_take (i := 2) (v := .pointer (some ⟨bw, 0, none⟩)) rfl (by kernel_rfl) (by kernel_rfl) (by kernel_rfl) (fun _ _ _ h => h) (Or.inl ⟨by rfl, ?_⟩) hHeld ?_
    · intro wS hSw
      have hs0 := hSw
      go_simp
    simp only [Act.put, List.setIfInBounds_toArray, List.set_cons_zero, List.set_cons_succ]
    refine wpAnyH_take (i := 3) (v := .pointer (some ⟨bw, 0, none⟩)) rfl (by kernel_rfl) (by kernel_rfl) (by kernel_rfl) (fun _ _ _ h => h) (Or.inl ⟨by rfl, ?_⟩) hHeld ?_
    · intro wS hSw
      have hs0 := hSw
      go_simp
    simp only [Act.put, List.setIfInBounds_toArray, List.set_cons_zero, List.set_cons_succ]
    refine wpAnyH_take (i := 5) (v := .int .i64 0) rfl (by kernel_rfl) (by kernel_rfl) (by kernel_rfl) (fun _ _ _ h => h) (Or.inl ⟨by rfl, ?_⟩) hHeld ?_
    · intro wS hSw
      have hs0 := hSw
      go_simp
    simp only [Act.put, List.setIfInBounds_toArray, List.set_cons_zero, List.set_cons_succ]
    refine wpAnyH_take (i := 6) (v := .int .i64 0) rfl (by kernel_rfl) (by kernel_rfl) (by kernel_rfl) (fun _ _ _ h => h) (Or.inl ⟨by rfl, ?_⟩) hHeld ?_
    · intro wS hSw
      have hs0 := hSw
      go_simp
    simp only [Act.put, List.setIfInBounds_toArray, List.set_cons_zero, List.set_cons_succ]
    refine wpAnyH_ready (rs := [4, 7]) (by kernel_rfl) (by simp) ?_
    refine AllReadyH.cons rfl (fun K hK => ?_) ?_
    · go_simp
      refine hK.out _ _ (by exact hHeld) (fun hHeld => ?_)
      clear hK K
      refine wpAnyH_ready (rs := [7]) (by kernel_rfl) (by simp) ?_
      refine AllReadyH.cons rfl (fun K hK => ?_) ?_
      · go_simp
        refine hK.out _ _ ((F4.out.b2.chg (S := fun _ => False) (by repeat (first | exact Chg.refl _ | refine Chg.drew ?_ | refine Chg.alloc ?_ _)) (fun h => h)).cell 0 _ rfl) (fun hHeld => ?_)
        clear hK K
        refine wpAnyH_ready (rs := [8]) (by kernel_rfl) (by simp) ?_
        refine AllReadyH.cons rfl (fun K hK => ?_) ?_
        · refine step_append_st rfl (.tmp 54) (.tmp 57) 22 rfl B 3 i0 (.int .i64 0) 1 8 Try.underlying22 hi0 hz0 hz1 hz2 rfl (by decide) v s'.notes.length _ (by simp [Act.eval]) (by exact (HO.out.alloc _)) ⟨w4.heap.size, 0, none⟩ 2 2 [.int .i64 0, .int .i64 0] (by simp [Act.eval]) rfl (by exact news2 _ _ _ _) (by simp [Value.oneCell']) (by unfold maxLen; omega) (by omega) (by simp; omega) ?_
          intro v' w' u1 u2 u3
          obtain ⟨sa, sc, rfl, k0, kf, kb, ks, HK, HN⟩ := nts_grow (l' := s'.notes ++ [0, 0]) (S := fun k => k = bm) HH.out HO.out hb (by repeat (first | exact Chg.refl _ | refine Chg.drew ?_ | refine Chg.alloc ?_ _)) u1 (by simp) (by simp) u2 u3 (fun k hk => by rw [hk]; exact F4.out.st.bx.lt)
          clear u1 u2 u3
          have g2 := F4.out.b2.of (HK.out n2 F4.out.b2.lt (F4.out.st.nts.notD_type F4.out.b2 (by decide) F4.out.ne2.1 (fun h => h)))
          have g3 := F4.out.b3.of (HK.out n3 F4.out.b3.lt (F4.out.st.nts.notD_type F4.out.b3 (by decide) F4.out.ne3.1 (fun h => h)))
          have hSA : w'.cell? ⟨n2, 0, none⟩ = some (.pointer (some ⟨bw, 0, none⟩)) := g2.cell 0 _ rfl
          refine hK.out _ _ hSA (fun hHeld => ?_)
          have HSA := Lib.hid hSA
          clear hK K g2 g3 hSA
          simp only [Act.put, List.setIfInBounds_toArray, List.set_cons_zero, List.set_cons_succ]
          refine wpAnyH_take (i := 9) (v := .pointer (some ⟨bw, 0, none⟩)) rfl (by kernel_rfl) (by kernel_rfl) (by kernel_rfl) (fun _ _ _ h => h) (Or.inl ⟨by rfl, ?_⟩) hHeld ?_
          · intro wS hSw
            have hs0 := hSw
            go_simp
          simp only [Act.put, List.setIfInBounds_toArray, List.set_cons_zero, List.set_cons_succ]
          refine wpAnyH_take (i := 10) (v := .pointer (some ⟨bw, 0, none⟩)) rfl (by kernel_rfl) (by kernel_rfl) (by kernel_rfl) (fun _ _ _ h => h) (Or.inl ⟨by rfl, ?_⟩) hHeld ?_
          · intro wS hSw
            have hs0 := hSw
            go_simp
          simp only [Act.put, List.setIfInBounds_toArray, List.set_cons_zero, List.set_cons_succ]
          refine wpAnyH_ready (rs := [11]) (by kernel_rfl) (by simp) ?_
          refine AllReadyH.cons rfl (fun K hK => ?_) ?_
          · go_simp
            have hSB := HSA.out
            have hs0 := hSB
            refine hK.out _ _ (Eq.trans (World.cell?_of_block (Below.heap_setCell _ _ _ _ n2b)) hs0) (fun hHeld => ?_)
            clear hK K hHeld
            refine wpAnyH_done (by kernel_rfl) ?_ _
            go_end0
            rw [HP.out]
            exact ⟨rfl, (F4.out.noted HN ((Below.heap_setCell _ _ _ _ F4.out.st.ne).trans (HK.out bm F4.out.st.bx.lt (F4.out.st.nts.notD F4.out.st.ne (fun h => h) F4.out.st.ltm)))).st, K4.out.trans HN.out.2⟩
          exact AllReadyH.nil
        exact AllReadyH.nil
      exact AllReadyH.nil
    refine AllReadyH.cons rfl (fun K hK => ?_) ?_
    · go_simp
      refine hK.out _ _ ((F4.out.b2.chg (S := fun _ => False) (by repeat (first | exact Chg.refl _ | refine Chg.drew ?_ | refine Chg.alloc ?_ _)) (fun h => h)).cell 0 _ rfl) (fun hHeld => ?_)
      clear hK K
      refine wpAnyH_ready (rs := [4]) (by kernel_rfl) (by simp) ?_
      refine AllReadyH.cons rfl (fun K hK => ?_) ?_
      · go_simp
        refine hK.out _ _ (by exact hHeld) (fun hHeld => ?_)
        clear hK K
        refine wpAnyH_ready (rs := [8]) (by kernel_rfl) (by simp) ?_
        refine AllReadyH.cons rfl (fun K hK => ?_) ?_
        · refine step_append_st rfl (.tmp 54) (.tmp 57) 22 rfl B 3 i0 (.int .i64 0) 1 8 Try.underlying22 hi0 hz0 hz1 hz2 rfl (by decide) v s'.notes.length _ (by simp [Act.eval]) (by exact (HO.out.alloc _)) ⟨w4.heap.size, 0, none⟩ 2 2 [.int .i64 0, .int .i64 0] (by simp [Act.eval]) rfl (by exact news2 _ _ _ _) (by simp [Value.oneCell']) (by unfold maxLen; omega) (by omega) (by simp; omega) ?_
          intro v' w' u1 u2 u3
          obtain ⟨sa, sc, rfl, k0, kf, kb, ks, HK, HN⟩ := nts_grow (l' := s'.notes ++ [0, 0]) (S := fun k => k = bm) HH.out HO.out hb (by repeat (first | exact Chg.refl _ | refine Chg.drew ?_ | refine Chg.alloc ?_ _)) u1 (by simp) (by simp) u2 u3 (fun k hk => by rw [hk]; exact F4.out.st.bx.lt)
          clear u1 u2 u3
          have g2 := F4.out.b2.of (HK.out n2 F4.out.b2.lt (F4.out.st.nts.notD_type F4.out.b2 (by decide) F4.out.ne2.1 (fun h => h)))
          have g3 := F4.out.b3.of (HK.out n3 F4.out.b3.lt (F4.out.st.nts.notD_type F4.out.b3 (by decide) F4.out.ne3.1 (fun h => h)))
          have hSA : w'.cell? ⟨n2, 0, none⟩ = some (.pointer (some ⟨bw, 0, none⟩)) := g2.cell 0 _ rfl
          refine hK.out _ _ hSA (fun hHeld => ?_)
          have HSA := Lib.hid hSA
          clear hK K g2 g3 hSA
          simp only [Act.put, List.setIfInBounds_toArray, List.set_cons_zero, List.set_cons_succ]
          refine wpAnyH_take (i := 9) (v := .pointer (some ⟨bw, 0, none⟩)) rfl (by kernel_rfl) (by kernel_rfl) (by kernel_rfl) (fun _ _ _ h => h) (Or.inl ⟨by rfl, ?_⟩) hHeld ?_
          · intro wS hSw
            have hs0 := hSw
            go_simp
          simp only [Act.put, List.setIfInBounds_toArray, List.set_cons_zero, List.set_cons_succ]
          refine wpAnyH_take (i := 10) (v := .pointer (some ⟨bw, 0, none⟩)) rfl (by kernel_rfl) (by kernel_rfl) (by kernel_rfl) (fun _ _ _ h => h) (Or.inl ⟨by rfl, ?_⟩) hHeld ?_
          · intro wS hSw
            have hs0 := hSw
            go_simp
          simp only [Act.put, List.setIfInBounds_toArray, List.set_cons_zero, List.set_cons_succ]
          refine wpAnyH_ready (rs := [11]) (by kernel_rfl) (by simp) ?_
          refine AllReadyH.cons rfl (fun K hK => ?_) ?_
          · go_simp
            have hSB := HSA.out
            have hs0 := hSB
            refine hK.out _ _ (Eq.trans (World.cell?_of_block (Below.heap_setCell _ _ _ _ n2b)) hs0) (fun hHeld => ?_)
            clear hK K hHeld
            refine wpAnyH_done (by kernel_rfl) ?_ _
            go_end0
            rw [HP.out]
            exact ⟨rfl, (F4.out.noted HN ((Below.heap_setCell _ _ _ _ F4.out.st.ne).trans (HK.out bm F4.out.st.bx.lt (F4.out.st.nts.notD F4.out.st.ne (fun h => h) F4.out.st.ltm)))).st, K4.out.trans HN.out.2⟩
          exact AllReadyH.nil
        exact AllReadyH.nil
      exact AllReadyH.nil
    exact AllReadyH.nil
  | bail c' a' =>
    simp only [toFin] at he
    subst he
    have hp : play (.node 4 c n kids) s = (.ret, s'.add [c', a']) := by simp only [play]; rw [if_neg (by omega), if_neg (by omega), if_neg (by omega), if_pos trivial, HR.out]; rfl
    have HP := Lib.hid hp
    clear hp
    have p0 := F4.out.b2.cell 0 _ rfl
    obtain ⟨v, hh, hown, hb⟩ := F4.out.st.nts
    have c0 : w4.cell? ⟨bw, 0, none⟩ = some v := by simp [World.cell?, hh]
    have cf0 : w4.frozen? ⟨bw, 0, none⟩ = false := by simp [World.frozen?, hh]
    have hbp : bw < w4.heap.size := lt_of_cell (p := ⟨bw, 0, none⟩) c0
    have hbp1 : ¬ bw = w4.heap.size := by omega
    have l2 := F4.out.b2.lt
    have l3 := F4.out.b3.lt
    have n21 : ¬ n2 = w4.heap.size := by omega
    have n31 : ¬ n3 = w4.heap.size := by omega
    have n2b : ¬ n2 = bw := F4.out.ne2.1
    have n3b : ¬ n3 = bw := F4.out.ne3.1
    have hB2 := F4.out.st.leB
    have HO := Lib.hid hown
    have HH := Lib.hid hh
    clear hown hh
    go_wp2_with fail
    refine wp_region_held_drew (S := fun w' => w'.cell? ⟨n2, 0, none⟩ = some (.pointer (some ⟨bw, 0, none⟩))) (by kernel_rfl) ((F4.out.b2.chg (S := fun _ => False) (by repeat (first | exact Chg.refl _ | refine Chg.drew ?_ | refine Chg.alloc ?_ _)) (fun h => h)).cell 0 _ rfl) (fun hHeld => ?_)
    refine wpAnyH_take (i := 0) (v := .pointer (some ⟨bw, 0, none⟩)) rfl (by kernel_rfl) (by kernel_rfl) (by kernel_rfl) (fun _ _ _ h => h) (Or.inl ⟨by rfl, ?_⟩) hHeld ?_
    · intro wS hSw
      have hs0 := hSw
      go_simp
    simp only [Act.put, List.setIfInBounds_toArray, List.set_cons_zero, List.set_cons_succ]
    refine wpAnyH_take (i := 1) (v := .pointer (some ⟨bw, 0, none⟩)) rfl (by kernel_rfl) (by kernel_rfl) (by kernel_rfl) (fun _ _ _ h => h) (Or.inl ⟨by rfl, ?_⟩) hHeld ?_
    · intro wS hSw
      have hs0 := hSw
      go_simp
    simp only [Act.put, List.setIfInBounds_toArray, List.set_cons_zero, List.set_cons_succ]
    refine wpAnyH_take (i := 2) (v := .pointer (some ⟨bw, 0, none⟩)) rfl (by kernel_rfl) (by kernel_rfl) (by kernel_rfl) (fun _ _ _ h => h) (Or.inl ⟨by rfl, ?_⟩) hHeld ?_
    · intro wS hSw
      have hs0 := hSw
      go_simp
    simp only [Act.put, List.setIfInBounds_toArray, List.set_cons_zero, List.set_cons_succ]
    refine wpAnyH_take (i := 3) (v := .pointer (some ⟨bw, 0, none⟩)) rfl (by kernel_rfl) (by kernel_rfl) (by kernel_rfl) (fun _ _ _ h => h) (Or.inl ⟨by rfl, ?_⟩) hHeld ?_
    · intro wS hSw
      have hs0 := hSw
      go_simp
    simp only [Act.put, List.setIfInBounds_toArray, List.set_cons_zero, List.set_cons_succ]
    refine wpAnyH_take (i := 5) (v := .int .i64 c') rfl (by kernel_rfl) (by kernel_rfl) (by kernel_rfl) (fun _ _ _ h => h) (Or.inl ⟨by rfl, ?_⟩) hHeld ?_
    · intro wS hSw
      have hs0 := hSw
      go_simp
    simp only [Act.put, List.setIfInBounds_toArray, List.set_cons_zero, List.set_cons_succ]
    refine wpAnyH_take (i := 6) (v := .int .i64 a') rfl (by kernel_rfl) (by kernel_rfl) (by kernel_rfl) (fun _ _ _ h => h) (Or.inl ⟨by rfl, ?_⟩) hHeld ?_
    · intro wS hSw
      have hs0 := hSw
      go_simp
    simp only [Act.put, List.setIfInBounds_toArray, List.set_cons_zero, List.set_cons_succ]
    refine wpAnyH_ready (rs := [4, 7]) (by kernel_rfl) (by simp) ?_
    refine AllReadyH.cons rfl (fun K hK => ?_) ?_
    · go_simp
      refine hK.out _ _ (by exact hHeld) (fun hHeld => ?_)
      clear hK K
      refine wpAnyH_ready (rs := [7]) (by kernel_rfl) (by simp) ?_
      refine AllReadyH.cons rfl (fun K hK => ?_) ?_
      · go_simp
        refine hK.out _ _ ((F4.out.b2.chg (S := fun _ => False) (by repeat (first | exact Chg.refl _ | refine Chg.drew ?_ | refine Chg.alloc ?_ _)) (fun h => h)).cell 0 _ rfl) (fun hHeld => ?_)
        clear hK K
        refine wpAnyH_ready (rs := [8]) (by kernel_rfl) (by simp) ?_
        refine AllReadyH.cons rfl (fun K hK => ?_) ?_
        · refine step_append_st rfl (.tmp 54) (.tmp 57) 22 rfl B 3 i0 (.int .i64 0) 1 8 Try.underlying22 hi0 hz0 hz1 hz2 rfl (by decide) v s'.notes.length _ (by simp [Act.eval]) (by exact (HO.out.alloc _)) ⟨w4.heap.size, 0, none⟩ 2 2 [.int .i64 c', .int .i64 a'] (by simp [Act.eval]) rfl (by exact news2 _ _ _ _) (by simp [Value.oneCell']) (by unfold maxLen; omega) (by omega) (by simp; omega) ?_
          intro v' w' u1 u2 u3
          obtain ⟨sa, sc, rfl, k0, kf, kb, ks, HK, HN⟩ := nts_grow (l' := s'.notes ++ [c', a']) (S := fun k => k = bm) HH.out HO.out hb (by repeat (first | exact Chg.refl _ | refine Chg.drew ?_ | refine Chg.alloc ?_ _)) u1 (by simp) (by simp) u2 u3 (fun k hk => by rw [hk]; exact F4.out.st.bx.lt)
          clear u1 u2 u3
          have g2 := F4.out.b2.of (HK.out n2 F4.out.b2.lt (F4.out.st.nts.notD_type F4.out.b2 (by decide) F4.out.ne2.1 (fun h => h)))
          have g3 := F4.out.b3.of (HK.out n3 F4.out.b3.lt (F4.out.st.nts.notD_type F4.out.b3 (by decide) F4.out.ne3.1 (fun h => h)))
          have hSA : w'.cell? ⟨n2, 0, none⟩ = some (.pointer (some ⟨bw, 0, none⟩)) := g2.cell 0 _ rfl
          refine hK.out _ _ hSA (fun hHeld => ?_)
          have HSA := Lib.hid hSA
          clear hK K g2 g3 hSA
          simp only [Act.put, List.setIfInBounds_toArray, List.set_cons_zero, List.set_cons_succ]
          refine wpAnyH_take (i := 9) (v := .pointer (some ⟨bw, 0, none⟩)) rfl (by kernel_rfl) (by kernel_rfl) (by kernel_rfl) (fun _ _ _ h => h) (Or.inl ⟨by rfl, ?_⟩) hHeld ?_
          · intro wS hSw
            have hs0 := hSw
            go_simp
          simp only [Act.put, List.setIfInBounds_toArray, List.set_cons_zero, List.set_cons_succ]
          refine wpAnyH_take (i := 10) (v := .pointer (some ⟨bw, 0, none⟩)) rfl (by kernel_rfl) (by kernel_rfl) (by kernel_rfl) (fun _ _ _ h => h) (Or.inl ⟨by rfl, ?_⟩) hHeld ?_
          · intro wS hSw
            have hs0 := hSw
            go_simp
          simp only [Act.put, List.setIfInBounds_toArray, List.set_cons_zero, List.set_cons_succ]
          refine wpAnyH_ready (rs := [11]) (by kernel_rfl) (by simp) ?_
          refine AllReadyH.cons rfl (fun K hK => ?_) ?_
          · go_simp
            have hSB := HSA.out
            have hs0 := hSB
            refine hK.out _ _ (Eq.trans (World.cell?_of_block (Below.heap_setCell _ _ _ _ n2b)) hs0) (fun hHeld => ?_)
            clear hK K hHeld
            refine wpAnyH_done (by kernel_rfl) ?_ _
            go_end0
            rw [HP.out]
            exact ⟨rfl, (F4.out.noted HN ((Below.heap_setCell _ _ _ _ F4.out.st.ne).trans (HK.out bm F4.out.st.bx.lt (F4.out.st.nts.notD F4.out.st.ne (fun h => h) F4.out.st.ltm)))).st, K4.out.trans HN.out.2⟩
          exact AllReadyH.nil
        exact AllReadyH.nil
      exact AllReadyH.nil
    refine AllReadyH.cons rfl (fun K hK => ?_) ?_
    · go_simp
      refine hK.out _ _ ((F4.out.b2.chg (S := fun _ => False) (by repeat (first | exact Chg.refl _ | refine Chg.drew ?_ | refine Chg.alloc ?_ _)) (fun h => h)).cell 0 _ rfl) (fun hHeld => ?_)
      clear hK K
      refine wpAnyH_ready (rs := [4]) (by kernel_rfl) (by simp) ?_
      refine AllReadyH.cons rfl (fun K hK => ?_) ?_
      · go_simp
        refine hK.out _ _ (by exact hHeld) (fun hHeld => ?_)
        clear hK K
        refine wpAnyH_ready (rs := [8]) (by kernel_rfl) (by simp) ?_
        refine AllReadyH.cons rfl (fun K hK => ?_) ?_
        · refine step_append_st rfl (.tmp 54) (.tmp 57) 22 rfl B 3 i0 (.int .i64 0) 1 8 Try.underlying22 hi0 hz0 hz1 hz2 rfl (by decide) v s'.notes.length _ (by simp [Act.eval]) (by exact (HO.out.alloc _)) ⟨w4.heap.size, 0, none⟩ 2 2 [.int .i64 c', .int .i64 a'] (by simp [Act.eval]) rfl (by exact news2 _ _ _ _) (by simp [Value.oneCell']) (by unfold maxLen; omega) (by omega) (by simp; omega) ?_
          intro v' w' u1 u2 u3
          obtain ⟨sa, sc, rfl, k0, kf, kb, ks, HK, HN⟩ := nts_grow (l' := s'.notes ++ [c', a']) (S := fun k => k = bm) HH.out HO.out hb (by repeat (first | exact Chg.refl _ | refine Chg.drew ?_ | refine Chg.alloc ?_ _)) u1 (by simp) (by simp) u2 u3 (fun k hk => by rw [hk]; exact F4.out.st.bx.lt)
          clear u1 u2 u3
          have g2 := F4.out.b2.of (HK.out n2 F4.out.b2.lt (F4.out.st.nts.notD_type F4.out.b2 (by decide) F4.out.ne2.1 (fun h => h)))
          have g3 := F4.out.b3.of (HK.out n3 F4.out.b3.lt (F4.out.st.nts.notD_type F4.out.b3 (by decide) F4.out.ne3.1 (fun h => h)))
          have hSA : w'.cell? ⟨n2, 0, none⟩ = some (.pointer (some ⟨bw, 0, none⟩)) := g2.cell 0 _ rfl
          refine hK.out _ _ hSA (fun hHeld => ?_)
          have HSA := Lib.hid hSA
          clear hK K g2 g3 hSA
          simp only [Act.put, List.setIfInBounds_toArray, List.set_cons_zero, List.set_cons_succ]
          refine wpAnyH_take (i := 9) (v := .pointer (some ⟨bw, 0, none⟩)) rfl (by kernel_rfl) (by kernel_rfl) (by kernel_rfl) (fun _ _ _ h => h) (Or.inl ⟨by rfl, ?_⟩) hHeld ?_
          · intro wS hSw
            have hs0 := hSw
            go_simp
          simp only [Act.put, List.setIfInBounds_toArray, List.set_cons_zero, List.set_cons_succ]
          refine wpAnyH_take (i := 10) (v := .pointer (some ⟨bw, 0, none⟩)) rfl (by kernel_rfl) (by kernel_rfl) (by kernel_rfl) (fun _ _ _ h => h) (Or.inl ⟨by rfl, ?_⟩) hHeld ?_
          · intro wS hSw
            have hs0 := hSw
            go_simp
          simp only [Act.put, List.setIfInBounds_toArray, List.set_cons_zero, List.set_cons_succ]
          refine wpAnyH_ready (rs := [11]) (by kernel_rfl) (by simp) ?_
          refine AllReadyH.cons rfl (fun K hK => ?_) ?_
          · go_simp
            have hSB := HSA.out
            have hs0 := hSB
            refine hK.out _ _ (Eq.trans (World.cell?_of_block (Below.heap_setCell _ _ _ _ n2b)) hs0) (fun hHeld => ?_)
            clear hK K hHeld
            refine wpAnyH_done (by kernel_rfl) ?_ _
            go_end0
            rw [HP.out]
            exact ⟨rfl, (F4.out.noted HN ((Below.heap_setCell _ _ _ _ F4.out.st.ne).trans (HK.out bm F4.out.st.bx.lt (F4.out.st.nts.notD F4.out.st.ne (fun h => h) F4.out.st.ltm)))).st, K4.out.trans HN.out.2⟩
          exact AllReadyH.nil
        exact AllReadyH.nil
      exact AllReadyH.nil
    exact AllReadyH.nil
  | num x' =>
    simp only [toFin] at he
    have hfin : DoesEnd W B bw bm w (play (.node 4 c n kids) s) e w4 := by
      have hp : play (.node 4 c n kids) s = (.num x', s') := by simp only [play]; rw [if_neg (by omega), if_neg (by omega), if_neg (by omega), if_pos trivial, HR.out]; rfl
      rw [hp]
      exact ⟨he, F4.out.st, K4.out⟩
    obtain ⟨ch, rfl, rest⟩ := he
    exact ⟨rfl, hfin⟩
end Go.Proofs.Ytdiklblnilmpoaa
