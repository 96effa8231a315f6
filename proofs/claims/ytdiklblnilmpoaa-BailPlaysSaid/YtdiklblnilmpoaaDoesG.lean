/-
  The contract of 'does': kinds 6 (After) and 3 (all kids).
-/
import Derived.Test.YtdiklblnilmpoaaDoesA
import Derived.StillTailTactics
namespace Go.Proofs.Ytdiklblnilmpoaa
open Go.RowKit Pl
set_option linter.unusedVariables false
set_option linter.unusedSimpArgs false
set_option maxRecDepth 100000 in
set_option maxHeartbeats 4000000 in
theorem does6 (c n : Int) (kids : List Tr) (IH : DoesOK (kid kids 0)) (IH1 : DoesOK (kid kids 1)) : DoesOK (.node 6 c n kids) := by
  intro W d w B bw bm s hnode hst hlen
  have hnode0 := Lib.hid hnode
  cases hnode with
  | mk _ _ _ a cap _ f hmax cells sub =>
  simp only [Nd.val, nk]
  have HC := Lib.hid cells
  have HSub := Lib.hid sub
  clear cells sub
  go_enter Try.func34, Try.ntmps34
  go_upto_region 1 with (fail)
  refine wp_world (fun w2 => Ext w w2 ∧ FrD W B bw bm w.heap.size (w.heap.size + 1) #[.int .i64 6, .int .i64 c, .int .i64 n, .slice a kids.length cap] w2 s) ⟨((Chg.refl w).alloc _).alloc _, FrD.start hst⟩ ?_
  rintro w2 ⟨e2, fr⟩
  obtain ⟨n2, hn2⟩ : ∃ n2, w.heap.size = n2 := ⟨_, rfl⟩
  obtain ⟨n3, hn3⟩ : ∃ n3, w.heap.size + 1 = n3 := ⟨_, rfl⟩
  rw [hn3] at fr
  rw [hn2] at fr
  have p0 := fr.b2.cell 0 _ rfl
  have q0 := fr.b3.cell 0 _ rfl
  have q1 := fr.b3.cell 1 _ rfl
  have q2 := fr.b3.cell 2 _ rfl
  have q3 := fr.b3.cell 3 _ rfl
  have HL := Lib.hid hlen
  rw [hn3, hn2]
  have K0 := Lib.hid (hst.keepExt e2)
  have HS := Lib.hid hst
  have HF := Lib.hid fr
  clear fr hst e2 hn2 hn3 hlen
  have hmf := run_mkFunc
  have hroom := kid_room kids 0 s _ c n HL.out
  have hroom2 := kid_room2 kids s _ c n HL.out
  rw [← playKid_eq] at hroom2
  have HCat := Lib.hid (after_runs (tv := .func (.func 48) #[] #[.pointer (some ⟨n2, 0, none⟩), .pointer (some ⟨n3, 0, none⟩)])
    (Ψ := fun o o' w' => o = toFin (playKid kids 0 s).1 ∧ o' = toFin (playKid kids 1 (playKid kids 0 s).2).1 ∧ WSt W B bw bm w' (playKid kids 1 (playKid kids 0 s).2).2)
    (doesLit4_runs W w2 B bw bm n2 n3 6 c n a cap kids s hnode0.out HF.out IH hroom) fun o w3 hk hΦ =>
      (doesLit5_runs W w3 B bw bm n2 n3 6 c n a cap kids _ hnode0.out (HF.out.toKeep hk hΦ.2) IH1 hroom2).mono fun o' w4 _ h => ⟨hΦ.1, h.1, h.2⟩)
  have hp : play (.node 6 c n kids) s = behind (playKid kids 0 s).1 (playKid kids 1 (playKid kids 0 s).2) := by simp [play]
  have HP := Lib.hid hp
  clear hroom hroom2 hp IH IH1
  go_wp2_with fail
  refine HCat.out.mono ?_
  rintro e w4 ⟨hk, o, o', ⟨rfl, rfl, hws⟩, he⟩
  clear HCat
  have hfin : ∀ en, behind (playKid kids 0 s).1 (playKid kids 1 (playKid kids 0 s).2) = (en, (playKid kids 1 (playKid kids 0 s).2).2) → Ends (WD bw bm) (toFin en) e w4 → DoesEnd W B bw bm w (play (.node 6 c n kids) s) e w4 := fun en hen hEn => by
    rw [HP.out, hen]
    exact ⟨hEn, hws, K0.out.trans hk⟩
  have HFin := Lib.hid hfin
  clear hfin hws hk
  generalize playKid kids 1 (playKid kids 0 s).2 = r2 at *
  generalize playKid kids 0 s = r at *
  obtain ⟨en2, s''⟩ := r2
  obtain ⟨en, s'⟩ := r
  cases en2 with
  | ret =>
    cases en with
    | ret =>
      have h9 := HFin.out .ret rfl he
      simp only [toFin, Ends] at he
      subst he
      have H9 := Lib.hid h9
      clear h9 HFin
      go_wp2_with fail
      go_end0
      exact H9.out
    | bail c' a' =>
      have h9 := HFin.out (.bail c' a') rfl he
      simp only [toFin] at he
      obtain ⟨ch, b, rfl, rest⟩ := he
      exact ⟨rfl, h9⟩
    | num x' =>
      have h9 := HFin.out (.num x') rfl he
      simp only [toFin] at he
      obtain ⟨ch, rfl, rest⟩ := he
      exact ⟨rfl, h9⟩
  | bail c' a' =>
    have h9 := HFin.out (.bail c' a') rfl he
    simp only [toFin] at he
    obtain ⟨ch, b, rfl, rest⟩ := he
    exact ⟨rfl, h9⟩
  | num x' =>
    have h9 := HFin.out (.num x') rfl he
    simp only [toFin] at he
    obtain ⟨ch, rfl, rest⟩ := he
    exact ⟨rfl, h9⟩
set_option maxRecDepth 100000 in
set_option maxHeartbeats 4000000 in
theorem does3 (c n : Int) (kids : List Tr) (IH : ∀ (j : Nat) (t : Tr), kids[j]? = some t → DoesOK t) : DoesOK (.node 3 c n kids) := by
  intro W d w B bw bm s hnode hst hlen
  have hnode0 := Lib.hid hnode
  cases hnode with
  | mk _ _ _ a cap _ f hmax cells sub =>
  simp only [Nd.val, nk]
  have HC := Lib.hid cells
  have HSub := Lib.hid sub
  clear cells sub
  go_enter Try.func34, Try.ntmps34
  go_upto_region 1 with (fail)
  refine wp_world (fun w2 => Ext w w2 ∧ FrD W B bw bm w.heap.size (w.heap.size + 1) #[.int .i64 3, .int .i64 c, .int .i64 n, .slice a kids.length cap] w2 s) ⟨((Chg.refl w).alloc _).alloc _, FrD.start hst⟩ ?_
  rintro w2 ⟨e2, fr⟩
  obtain ⟨n2, hn2⟩ : ∃ n2, w.heap.size = n2 := ⟨_, rfl⟩
  obtain ⟨n3, hn3⟩ : ∃ n3, w.heap.size + 1 = n3 := ⟨_, rfl⟩
  rw [hn3] at fr
  rw [hn2] at fr
  have p0 := fr.b2.cell 0 _ rfl
  have q0 := fr.b3.cell 0 _ rfl
  have q1 := fr.b3.cell 1 _ rfl
  have q2 := fr.b3.cell 2 _ rfl
  have q3 := fr.b3.cell 3 _ rfl
  have HL := Lib.hid hlen
  rw [hn3, hn2]
  have K0 := Lib.hid (hst.keepExt e2)
  have HS := Lib.hid hst
  have HF := Lib.hid fr
  clear fr hst e2 hn2 hn3 hlen
  obtain ⟨L, hL⟩ : ∃ L, kids.length = L := ⟨_, rfl⟩
  have hroom : s.notes.length + 3 * cntAll kids + 3 ≤ 1000 := by have := HL.out; simp only [cnt] at this; omega
  have hplay : play (.node 3 c n kids) s = playAll kids s := by simp [play]
  have HPL := Lib.hid hplay
  have HLL := Lib.hid hL
  have HH := Lib.hid IH
  have IH := HH
  have hF := HF.out
  rw [hL] at hF hmax
  have HF := Lib.hid hF
  rw [hL] at q3 ⊢
  have HRM := Lib.hid hroom
  clear hF hL hplay hroom
  go_wp2_with fail
  go_loopg [4] L (fun gg l4 wr => ∃ (i : Nat) (si : St), i ≤ L ∧ FrD W B bw bm n2 n3 #[.int .i64 3, .int .i64 c, .int .i64 n, .slice a L cap] wr si ∧ Keep (WD bw bm) w wr ∧ playAll (kids.drop i) si = playAll kids s ∧ si.notes.length + 3 * cntAll (kids.drop i) + 3 ≤ 1000 ∧ l4 = .int .i64 i ∧ gg = L - i)
  case atStart => exact ⟨0, s, Nat.zero_le _, HF.out, K0.out, by simp, by simpa using HRM.out, rfl, rfl⟩
  case round =>
    obtain ⟨i, si, hi, fri, hki, hpi, hri, rfl, rfl⟩ := hrel
    clear p0 q0 q1 q2 q3
    have p0 := fri.b2.cell 0 _ rfl
    have q3 := fri.b3.cell 3 _ rfl
    have FI := Lib.hid fri
    have KI := Lib.hid hki
    by_cases hlt : i < L
    · have h1 : 0 ≤ (i : Int) := by omega
      have h2 : (i : Int) < (L : Int) := by omega
      obtain ⟨t, htk⟩ : ∃ t, kids[i]? = some t := ⟨_, List.getElem?_eq_getElem (by rw [HLL.out]; exact hlt)⟩
      have hdrop : kids.drop i = t :: kids.drop (i + 1) := by
        rw [List.drop_eq_getElem_cons (by rw [HLL.out]; exact hlt)]
        congr 1
        rw [List.getElem?_eq_getElem (by rw [HLL.out]; exact hlt)] at htk
        exact Option.some.inj htk
      rw [hdrop] at hpi hri
      simp only [cntAll] at hri
      obtain ⟨x, rfl, h4⟩ := HC.out i t htk
      obtain ⟨u0, u1, u2, u3⟩ := h4.ext fri.st.ext
      have hx : Ext wr wr.drew := (Chg.refl _).drew
      have hcall := IH.out i t htk W (f i) wr.drew B bw bm si (HSub.out i t htk) (fri.st.toExt hx) (by omega)
      simp only [Nd.val] at hcall
      have HK := Lib.hid hcall
      have hfair := play_fair t si
      have HPI := Lib.hid hpi
      have HRI := Lib.hid hri
      have HX := Lib.hid hx
      clear hcall hpi hri hdrop htk h4 fri hki hx
      go_wp2_with fail
      refine wp_region_still_tail 6 (by kernel_rfl) (by kernel_rfl) ?_
      simp only [List.take_succ_cons, List.take_zero, List.drop_succ_cons, List.drop_zero]
      change wpStill _ _ wr.drew _ _ _
      repeat still_step
      refine wpStill_nil ?_
      change wpList _ _ _ _ _ wr.drew
      go_wp2_with fail
      refine HK.out.mono ?_
      rintro e w4 ⟨he, hs4, hk4⟩
      have F4 := Lib.hid ((FI.out.toExt HX.out).toKeep hk4 hs4)
      have K4 := Lib.hid ((KI.out.trans (FI.out.st.keepExt HX.out)).trans hk4)
      clear hs4 hk4 p0 q3 HK u0 u1 u2 u3
      generalize hr : play t si = r at *
      obtain ⟨en, s'⟩ := r
      have HR := Lib.hid hr
      have hnl : s'.notes.length + 3 * cntAll (kids.drop (i + 1)) + 3 ≤ 1000 := by
        have h1 := HRI.out
        have h2 := hfair.1
        simp only at h2
        omega
      have HNL := Lib.hid hnl
      clear hr hnl hfair
      cases en with
      | ret =>
        simp only [toFin, Ends] at he
        subst he
        go_wp2_with fail
        go_roundg (L - (i + 1))
        case measure => omega
        case rel => exact ⟨i + 1, s', by omega, F4.out, K4.out, ((playAll_ret HR.out).symm.trans HPI.out), HNL.out, by go_num, rfl⟩
      | bail c' a' =>
        simp only [toFin] at he
        have hfin : DoesEnd W B bw bm w (play (.node 3 c n kids) s) e w4 := by
          rw [HPL.out, HPI.out.symm.trans (playAll_bail HR.out)]
          exact ⟨he, F4.out.st, K4.out⟩
        obtain ⟨ch, b, rfl, rest⟩ := he
        exact ⟨rfl, hfin⟩
      | num x' =>
        simp only [toFin] at he
        have hfin : DoesEnd W B bw bm w (play (.node 3 c n kids) s) e w4 := by
          rw [HPL.out, HPI.out.symm.trans (playAll_num HR.out)]
          exact ⟨he, F4.out.st, K4.out⟩
        obtain ⟨ch, rfl, rest⟩ := he
        exact ⟨rfl, hfin⟩
    · have h2 : ¬ (i : Int) < (L : Int) := by omega
      have hfin : playAll kids s = (.ret, si) := by
        rw [← hpi, List.drop_eq_nil_of_le (by rw [HLL.out]; omega)]; simp [playAll]
      have HFN := Lib.hid hfin
      clear hpi hri hfin fri hki hlt
      go_wp2_with fail
      go_end0
      rw [HPL.out, HFN.out]
      exact ⟨rfl, FI.out.st, KI.out⟩
end Go.Proofs.Ytdiklblnilmpoaa
