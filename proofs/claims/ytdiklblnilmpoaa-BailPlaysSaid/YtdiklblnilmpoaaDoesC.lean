/-
  The contract of 'does': kinds that do no deed behind another, and the meter.
-/
import Derived.Test.YtdiklblnilmpoaaDoesA
import Derived.StillTailTactics
namespace Go.Proofs.Ytdiklblnilmpoaa
open Go.RowKit Pl
set_option linter.unusedVariables false
set_option linter.unusedSimpArgs false
/-- What using n of a meter that holds k comes to, the very world. -/
theorem use_fin2 (m : Nat) (k n : Int) (w : World) (hb : Box w m (.int .i64 k)) (hk : k ≤ 9223372036854775807) :
    Calls Try.prog 12 #[.pointer (some ⟨m, 0, none⟩), .int .i64 n] w fun e w' =>
      (n < 0 ∧ e = .panicked [{ v := .iface 35 (.pointer (some ⟨w.heap.size, 0, none⟩)), recovered := false }] ∧ w' = w.alloc (.cells #[.int .i64 1, .int .i64 n] 59)) ∨
      (¬ n < 0 ∧ k < n ∧ e = .panicked [{ v := .iface 35 (.pointer (some ⟨w.heap.size, 0, none⟩)), recovered := false }] ∧ w' = w.alloc (.cells #[.int .i64 10, .int .i64 n] 59)) ∨
      (¬ n < 0 ∧ ¬ k < n ∧ e = .returned (.tuple #[]) ∧ w' = w.setCell ⟨m, 0, none⟩ (.int .i64 (k - n))) := by
  by_cases h0 : n < 0
  · exact (use_neg _ n w h0).mono fun e w' h => .inl ⟨h0, h⟩
  · by_cases h1 : k < n
    · exact (use_over m k n w hb.cell h0 h1).mono fun e w' h => .inr (.inl ⟨h0, h1, h⟩)
    · exact (use_some m k n w hb.cell hb.frozen h0 h1 hk).mono fun e w' h => .inr (.inr ⟨h0, h1, h⟩)
set_option maxRecDepth 100000 in
set_option maxHeartbeats 4000000 in
theorem does1 (c n : Int) (kids : List Tr) : DoesOK (.node 1 c n kids) := by
  intro W d w B bw bm s hnode hst hlen
  have hnode0 := Lib.hid hnode
  cases hnode with
  | mk _ _ _ a cap _ f hmax cells sub =>
  simp only [Nd.val, nk]
  have HC := Lib.hid cells
  have HSub := Lib.hid sub
  clear cells sub
  go_enter Try.func34, Try.ntmps34
  go_upto_region 1 with (fail)
  refine wp_world (fun w2 => Ext w w2 ∧ FrD W B bw bm w.heap.size (w.heap.size + 1) #[.int .i64 1, .int .i64 c, .int .i64 n, .slice a kids.length cap] w2 s) ⟨((Chg.refl w).alloc _).alloc _, FrD.start hst⟩ ?_
  rintro w2 ⟨e2, fr⟩
  obtain ⟨n2, hn2⟩ : ∃ n2, w.heap.size = n2 := ⟨_, rfl⟩
  obtain ⟨n3, hn3⟩ : ∃ n3, w.heap.size + 1 = n3 := ⟨_, rfl⟩
  rw [hn3] at fr
  rw [hn2] at fr
  have p0 := fr.b2.cell 0 _ rfl
  have q0 := fr.b3.cell 0 _ rfl
  have q1 := fr.b3.cell 1 _ rfl
  have q2 := fr.b3.cell 2 _ rfl
  have q3 := fr.b3.cell 3 _ rfl
  have HL := Lib.hid hlen
  rw [hn3, hn2]
  have K0 := Lib.hid (hst.keepExt e2)
  have HS := Lib.hid hst
  have HF := Lib.hid fr
  clear fr hst e2 hn2 hn3 hlen
  have hp : play (.node 1 c n kids) s = (.bail c n, s) := by simp [play]
  have HP := Lib.hid hp
  have HO := Lib.hid (out_fin (D := WD bw bm) c n w2 (ntsD_loc bw _) HF.out.st.there)
  clear hp
  go_wp2_with fail
  refine HO.out.mono ?_
  rintro e w' ⟨hk, he, hx⟩
  have he0 := he
  have hfin : DoesEnd W B bw bm w (.bail c n, s) e w' := ⟨he0, HF.out.st.toExt hx, K0.out.trans hk⟩
  rw [← HP.out] at hfin
  obtain ⟨ch, b, rfl, rest⟩ := he
  exact ⟨rfl, hfin⟩
set_option maxRecDepth 100000 in
set_option maxHeartbeats 4000000 in
theorem does2 (c n : Int) (kids : List Tr) : DoesOK (.node 2 c n kids) := by
  intro W d w B bw bm s hnode hst hlen
  have hnode0 := Lib.hid hnode
  cases hnode with
  | mk _ _ _ a cap _ f hmax cells sub =>
  simp only [Nd.val, nk]
  have HC := Lib.hid cells
  have HSub := Lib.hid sub
  clear cells sub
  go_enter Try.func34, Try.ntmps34
  go_upto_region 1 with (fail)
  refine wp_world (fun w2 => Ext w w2 ∧ FrD W B bw bm w.heap.size (w.heap.size + 1) #[.int .i64 2, .int .i64 c, .int .i64 n, .slice a kids.length cap] w2 s) ⟨((Chg.refl w).alloc _).alloc _, FrD.start hst⟩ ?_
  rintro w2 ⟨e2, fr⟩
  obtain ⟨n2, hn2⟩ : ∃ n2, w.heap.size = n2 := ⟨_, rfl⟩
  obtain ⟨n3, hn3⟩ : ∃ n3, w.heap.size + 1 = n3 := ⟨_, rfl⟩
  rw [hn3] at fr
  rw [hn2] at fr
  have p0 := fr.b2.cell 0 _ rfl
  have q0 := fr.b3.cell 0 _ rfl
  have q1 := fr.b3.cell 1 _ rfl
  have q2 := fr.b3.cell 2 _ rfl
  have q3 := fr.b3.cell 3 _ rfl
  have HL := Lib.hid hlen
  rw [hn3, hn2]
  have K0 := Lib.hid (hst.keepExt e2)
  have HS := Lib.hid hst
  have HF := Lib.hid fr
  clear fr hst e2 hn2 hn3 hlen
  have hp : play (.node 2 c n kids) s = (.num n, s) := by simp [play]
  have HP := Lib.hid hp
  clear hp
  have hmf := run_mkFunc
  go_wp2_with fail
  refine (doesLit1_runs (D := WD bw bm) n3 _ _ n _ w2 HF.out.b3).mono ?_
  rintro e w' ⟨rfl, rfl⟩
  have hfin : DoesEnd W B bw bm w (.num n, s) (.panicked [{ v := .iface 3 (.int .i64 n), recovered := false }]) w2 := ⟨⟨_, rfl, Thrown.one _, .inl (by decide)⟩, HF.out.st, K0.out⟩
  rw [← HP.out] at hfin
  exact ⟨rfl, hfin⟩
set_option maxRecDepth 100000 in
set_option maxHeartbeats 4000000 in
theorem does0 (k c n : Int) (kids : List Tr) (hk : k < 1 ∨ 9 < k) : DoesOK (.node k c n kids) := by
  intro W d w B bw bm s hnode hst hlen
  have hnode0 := Lib.hid hnode
  cases hnode with
  | mk _ _ _ a cap _ f hmax cells sub =>
  simp only [Nd.val, nk]
  have HC := Lib.hid cells
  have HSub := Lib.hid sub
  clear cells sub
  go_enter Try.func34, Try.ntmps34
  go_upto_region 1 with (fail)
  refine wp_world (fun w2 => Ext w w2 ∧ FrD W B bw bm w.heap.size (w.heap.size + 1) #[.int .i64 k, .int .i64 c, .int .i64 n, .slice a kids.length cap] w2 s) ⟨((Chg.refl w).alloc _).alloc _, FrD.start hst⟩ ?_
  rintro w2 ⟨e2, fr⟩
  obtain ⟨n2, hn2⟩ : ∃ n2, w.heap.size = n2 := ⟨_, rfl⟩
  obtain ⟨n3, hn3⟩ : ∃ n3, w.heap.size + 1 = n3 := ⟨_, rfl⟩
  rw [hn3] at fr
  rw [hn2] at fr
  have p0 := fr.b2.cell 0 _ rfl
  have q0 := fr.b3.cell 0 _ rfl
  have q1 := fr.b3.cell 1 _ rfl
  have q2 := fr.b3.cell 2 _ rfl
  have q3 := fr.b3.cell 3 _ rfl
  have HL := Lib.hid hlen
  rw [hn3, hn2]
  have K0 := Lib.hid (hst.keepExt e2)
  have HS := Lib.hid hst
  have HF := Lib.hid fr
  clear fr hst e2 hn2 hn3 hlen
  have g1 : (k == 1) = false := by simp; omega
  have g2 : (k == 2) = false := by simp; omega
  have g3 : (k == 3) = false := by simp; omega
  have g4 : (k == 4) = false := by simp; omega
  have g5 : (k == 5) = false := by simp; omega
  have g6 : (k == 6) = false := by simp; omega
  have g7 : (k == 7) = false := by simp; omega
  have g8 : (k == 8) = false := by simp; omega
  have g9 : (k == 9) = false := by simp; omega
  have hp : play (.node k c n kids) s = (.ret, s) := by
    simp only [play]
    rw [if_neg (by omega), if_neg (by omega), if_neg (by omega), if_neg (by omega), if_neg (by omega), if_neg (by omega), if_neg (by omega), if_neg (by omega), if_neg (by omega)]
  have HP := Lib.hid hp
  clear hp hk
  go_wp2_with fail
  go_end0
  rw [HP.out]
  exact ⟨rfl, HF.out.st, K0.out⟩
theorem use_play (W : World) (B bw bm : Nat) (w : World) (s : St) (n : Int) (h : WSt W B bw bm w s) :
    Calls Try.prog 12 #[.pointer (some ⟨bm, 0, none⟩), .int .i64 n] w (DoesEnd W B bw bm w (use n s)) := by
  refine (use_fin2 bm s.left n w h.bx h.l1).mono ?_
  rintro e w' hu
  rcases hu with ⟨h0, rfl, rfl⟩ | ⟨h0, h1, rfl, rfl⟩ | ⟨h0, h1, rfl, rfl⟩
  · obtain ⟨hk, he⟩ := out_ends (D := WD bw bm) 1 n w (ntsD_loc bw _) h.there
    have hx : Ext w (w.alloc (.cells #[.int .i64 1, .int .i64 n] 59)) := (Chg.refl _).alloc _
    have hu : use n s = (.bail 1 n, s) := by simp [use, h0]
    rw [hu]
    exact ⟨he, h.toExt hx, hk⟩
  · obtain ⟨hk, he⟩ := out_ends (D := WD bw bm) 10 n w (ntsD_loc bw _) h.there
    have hx : Ext w (w.alloc (.cells #[.int .i64 10, .int .i64 n] 59)) := (Chg.refl _).alloc _
    have hu : use n s = (.bail 10 n, s) := by simp [use, h0, h1]
    rw [hu]
    exact ⟨he, h.toExt hx, hk⟩
  · have hu : use n s = (.ret, ⟨s.notes, s.left - n⟩) := by simp [use, h0, h1]
    rw [hu]
    have hN : Nts B bw 49 (.pointer (some ⟨bm, 0, none⟩)) (w.setCell ⟨bm, 0, none⟩ (.int .i64 (s.left - n))) s.notes := by
      obtain ⟨v, hh, hown, hb⟩ := h.nts
      refine ⟨v, by rw [Below.heap_setCell _ _ _ _ (Ne.symm h.ne)]; exact hh, ownsRow_setCell_below (a := ⟨bm, 0, none⟩) hown h.ltm _, hb⟩
    have hk : Keep (WD bw bm) w (w.setCell ⟨bm, 0, none⟩ (.int .i64 (s.left - n))) := by
      refine ⟨rfl, rfl, rfl, by simp [World.setCell], fun k hk hd => Below.heap_setCell _ _ _ _ (fun h => hd (.inr (.inl h))), fun k hk hd => ?_, fun _ => hN.there (fun k hk => by rw [hk]; simpa [World.setCell] using h.bx.lt)⟩
      rcases hd with rfl | hs | ⟨a, n', c, hc, rfl⟩
      · exact .inl rfl
      · exact .inr (.inl hs)
      · refine .inr (.inr ⟨a, n', c, ?_, rfl⟩)
        rw [← hc]
        exact (World.cell?_of_block (w := w) (a := ⟨bw, 0, none⟩) (Below.heap_setCell _ _ _ _ (Ne.symm h.ne))).symm
    exact ⟨rfl, h.toKeep (s' := ⟨s.notes, s.left - n⟩) hk hN (h.bx.set _) (by simp only; omega) (by simp only; omega), hk⟩
set_option maxRecDepth 100000 in
set_option maxHeartbeats 4000000 in
theorem does9 (c n : Int) (kids : List Tr) : DoesOK (.node 9 c n kids) := by
  intro W d w B bw bm s hnode hst hlen
  have hnode0 := Lib.hid hnode
  cases hnode with
  | mk _ _ _ a cap _ f hmax cells sub =>
  simp only [Nd.val, nk]
  have HC := Lib.hid cells
  have HSub := Lib.hid sub
  clear cells sub
  go_enter Try.func34, Try.ntmps34
  go_upto_region 1 with (fail)
  refine wp_world (fun w2 => Ext w w2 ∧ FrD W B bw bm w.heap.size (w.heap.size + 1) #[.int .i64 9, .int .i64 c, .int .i64 n, .slice a kids.length cap] w2 s) ⟨((Chg.refl w).alloc _).alloc _, FrD.start hst⟩ ?_
  rintro w2 ⟨e2, fr⟩
  obtain ⟨n2, hn2⟩ : ∃ n2, w.heap.size = n2 := ⟨_, rfl⟩
  obtain ⟨n3, hn3⟩ : ∃ n3, w.heap.size + 1 = n3 := ⟨_, rfl⟩
  rw [hn3] at fr
  rw [hn2] at fr
  have p0 := fr.b2.cell 0 _ rfl
  have q0 := fr.b3.cell 0 _ rfl
  have q1 := fr.b3.cell 1 _ rfl
  have q2 := fr.b3.cell 2 _ rfl
  have q3 := fr.b3.cell 3 _ rfl
  have HL := Lib.hid hlen
  rw [hn3, hn2]
  have K0 := Lib.hid (hst.keepExt e2)
  have HS := Lib.hid hst
  have HF := Lib.hid fr
  clear fr hst e2 hn2 hn3 hlen
  have hp : play (.node 9 c n kids) s = use n s := by simp [play]
  have HP := Lib.hid hp
  obtain ⟨v, hh, hown, hb⟩ := HF.out.st.nts
  have c1 : w2.cell? ⟨bw, 1, none⟩ = some (.pointer (some ⟨bm, 0, none⟩)) := by simp [World.cell?, hh]
  clear hp hown hh
  go_wp2_with fail
  refine wp_region_still_tail 6 (by kernel_rfl) (by kernel_rfl) ?_
  simp only [List.take_succ_cons, List.take_zero, List.drop_succ_cons, List.drop_zero]
  change wpStill _ _ w2.drew _ _ _
  repeat still_step
  refine wpStill_nil ?_
  change wpList _ _ _ _ _ w2.drew
  go_wp2_with fail
  have hx : Ext w2 w2.drew := (Chg.refl _).drew
  refine (use_play W B bw bm w2.drew s n (HF.out.st.toExt hx)).mono ?_
  rintro e w' ⟨he, hs, hk⟩
  have hfin : DoesEnd W B bw bm w (play (.node 9 c n kids) s) e w' := by
    rw [HP.out]
    exact ⟨he, hs, (K0.out.trans (HF.out.st.keepExt hx)).trans hk⟩
  have HFin := Lib.hid hfin
  clear hfin
  generalize use n s = r at he
  obtain ⟨en, s'⟩ := r
  cases en with
  | ret =>
    simp only [toFin, Ends] at he
    subst he
    go_wp2_with fail
    go_end0
    exact HFin.out
  | bail c' a' =>
    obtain ⟨ch, b, rfl, rest⟩ := he
    exact ⟨rfl, HFin.out⟩
  | num x' =>
    obtain ⟨ch, rfl, rest⟩ := he
    exact ⟨rfl, HFin.out⟩
end Go.Proofs.Ytdiklblnilmpoaa
