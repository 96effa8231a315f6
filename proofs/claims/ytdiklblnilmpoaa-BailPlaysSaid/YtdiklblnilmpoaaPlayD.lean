/-
  The contract of 'plays', kind by kind: the first kinds.
-/
import Derived.Test.YtdiklblnilmpoaaPlayC
namespace Go.Proofs.Ytdiklblnilmpoaa
open Go.RowKit Pl
set_option linter.unusedVariables false

abbrev Non : Nat → Prop := fun _ => False
/-- The state of 'plays': what is noted and what is left, behind the pointer bp; the trees of W are as they were. -/
structure PSt (W : World) (B bp : Nat) (w : World) (s : St) : Prop where
  ext : Ext W w
  nts : Nts B bp 52 (.int .i64 s.left) w s.notes
  leB : B ≤ w.heap.size
  leb : W.heap.size ≤ bp
  l0 : 0 ≤ s.left
  l1 : s.left ≤ 9223372036854775807
theorem PSt.there {W w : World} {B bp : Nat} {s : St} (h : PSt W B bp w s) : There (NtsD bp Non) w := h.nts.there (fun _ h => h.elim)
theorem PSt.toExt {W w w' : World} {B bp : Nat} {s : St} (h : PSt W B bp w s) (e : Ext w w') : PSt W B bp w' s :=
  ⟨h.ext.trans (e.mono fun _ _ h => h), h.nts.ext e, Nat.le_trans h.leB e.size, h.leb, h.l0, h.l1⟩
theorem PSt.toKeep {W w w' : World} {B bp : Nat} {s s' : St} (h : PSt W B bp w s) (k : Keep (NtsD bp Non) w w') (n : Nts B bp 52 (.int .i64 s'.left) w' s'.notes) (l0 : 0 ≤ s'.left) (l1 : s'.left ≤ s.left) : PSt W B bp w' s' := by
  refine ⟨⟨k.os.trans h.ext.os, k.tape.trans h.ext.tape, k.output.trans h.ext.output, Nat.le_trans h.ext.size k.size, fun j hj _ => ?_⟩, n, Nat.le_trans h.leB k.size, h.leb, l0, Int.le_trans l1 h.l1⟩
  have hB : bp < B := by obtain ⟨_, _, _, h⟩ := h.nts; exact h
  have := h.leb
  exact (k.block j (Nat.lt_of_lt_of_le hj h.ext.size) (h.nts.notD (by omega) (fun h => h) (by omega))).trans (h.ext.block j hj (fun h => h))
theorem PSt.keepExt {W w w' : World} {B bp : Nat} {s : St} (h : PSt W B bp w s) (e : Ext w w') : Keep (NtsD bp Non) w w' := Keep.of_ext (ntsD_loc bp Non) h.there e
/-- An end, as a value. -/
def encE : En → Value
  | .ret => .agg #[.int .i64 0, .int .i64 0, .int .i64 0]
  | .bail c a => .agg #[.int .i64 1, .int .i64 c, .int .i64 a]
  | .num n => .agg #[.int .i64 2, .int .i64 0, .int .i64 n]
def PlaysEnd (W : World) (B bp : Nat) (w : World) (r : En × St) (e : Ending) (w' : World) : Prop :=
  e = .returned (encE r.1) ∧ PSt W B bp w' r.2 ∧ Keep (NtsD bp Non) w w'
def PlaysOK (t : Tr) : Prop := ∀ (W : World) (d : Nd) (w : World) (B bp : Nat) (s : St), NodeAt W d t → PSt W B bp w s → s.notes.length + 3 * cnt t + 3 ≤ 1000 →
  Calls Try.prog 32 #[.pointer (some ⟨bp, 0, none⟩), d.val t] w (PlaysEnd W B bp w (play t s))
/-- What a frame of 'plays' holds: the node's box, the result's. -/
structure Fr (W : World) (B bp n3 n4 : Nat) (nd : Array Value) (w : World) (s : St) : Prop where
  st : PSt W B bp w s
  b3 : Blk w n3 nd 45
  b4 : Blk w n4 #[.int .i64 0, .int .i64 0, .int .i64 0] 54
  ne3 : n3 ≠ bp
  ne4 : n4 ≠ bp
theorem Fr.nd3 {W w : World} {B bp n3 n4 : Nat} {nd : Array Value} {s : St} (h : Fr W B bp n3 n4 nd w s) : ¬ NtsD bp Non w n3 := h.st.nts.notD_type h.b3 (by decide) h.ne3 (fun h => h)
theorem Fr.nd4 {W w : World} {B bp n3 n4 : Nat} {nd : Array Value} {s : St} (h : Fr W B bp n3 n4 nd w s) : ¬ NtsD bp Non w n4 := h.st.nts.notD_type h.b4 (by decide) h.ne4 (fun h => h)
theorem Fr.toExt {W w w' : World} {B bp n3 n4 : Nat} {nd : Array Value} {s : St} (h : Fr W B bp n3 n4 nd w s) (e : Ext w w') : Fr W B bp n3 n4 nd w' s :=
  ⟨h.st.toExt e, h.b3.chg e (fun h => h), h.b4.chg e (fun h => h), h.ne3, h.ne4⟩
theorem Fr.toKeep {W w w' : World} {B bp n3 n4 : Nat} {nd : Array Value} {s s' : St} (h : Fr W B bp n3 n4 nd w s) (k : Keep (NtsD bp Non) w w') (st : PSt W B bp w' s') : Fr W B bp n3 n4 nd w' s' :=
  ⟨st, h.b3.keep k h.nd3, h.b4.keep k h.nd4, h.ne3, h.ne4⟩
theorem Fr.start {W w : World} {B bp : Nat} {nd : Array Value} {s : St} (h : PSt W B bp w s) :
    Fr W B bp w.heap.size (w.heap.size + 1) nd ((w.alloc (.cells nd 45)).alloc (.cells #[.int .i64 0, .int .i64 0, .int .i64 0] 54)) s := by
  have hbp : bp < w.heap.size := h.there bp (.inl rfl)
  refine ⟨h.toExt (((Chg.refl w).alloc _).alloc _), (Blk.new _ _ _).chg (S := fun _ => False) ((Chg.refl _).alloc _) (fun h => h), ?_, by omega, by omega⟩
  have := Blk.new (w.alloc (.cells nd 45)) #[.int .i64 0, .int .i64 0, .int .i64 0] 54
  rwa [World.size_alloc] at this
/-- The result stored, the call is at its end. -/
theorem Fr.finish {W w w2 w' : World} {B bp n3 n4 : Nat} {nd : Array Value} {s0 s s2 : St} {t : Tr} {en : En} (h : Fr W B bp n3 n4 nd w2 s2) (hst : PSt W B bp w s0) (K : Keep (NtsD bp Non) w w2) (h4 : w.heap.size ≤ n4) (hp : play t s = (en, s2))
    (hc : Chg (fun k => k = n4) w2 w') : PlaysEnd W B bp w (play t s) (.returned (encE en)) w' := by
  rw [hp]
  have hW := hst.ext.size
  refine ⟨rfl, ⟨⟨hc.os.trans h.st.ext.os, hc.tape.trans h.st.ext.tape, hc.output.trans h.st.ext.output, Nat.le_trans h.st.ext.size hc.size, fun j hj _ => (hc.block j (Nat.lt_of_lt_of_le hj h.st.ext.size) (by omega)).trans (h.st.ext.block j hj (fun h => h))⟩,
    h.st.nts.of (S := Non) fun k hk => hc.block k (h.st.there k hk) (by rintro rfl; exact h.nd4 hk), Nat.le_trans h.st.leB hc.size, h.st.leb, h.st.l0, h.st.l1⟩,
    K.after (ntsD_loc bp Non) hst.there hc (fun i hi => by subst hi; exact ⟨h4, h.nd4⟩)⟩
/-- A note made, in a frame of 'plays': what the frame holds behind the store. -/
theorem Fr.noted {W w2 w' : World} {B bp n3 n4 : Nat} {nd : Array Value} {s : St} {l : List Int} (h : Fr W B bp n3 n4 nd w2 s) (k : Hid (Nts B bp 52 (.int .i64 s.left) w' (s.notes ++ l) ∧ Keep (NtsD bp Non) w2 w')) : Fr W B bp n3 n4 nd w' (s.add l) :=
  h.toKeep k.out.2 (h.st.toKeep (s' := s.add l) k.out.2 k.out.1 h.st.l0 (Int.le_refl _))
set_option maxRecDepth 100000 in
set_option maxHeartbeats 1000000 in
theorem plays1 (c n : Int) (kids : List Tr) : PlaysOK (.node 1 c n kids) := by
  intro W d w B bp s hnode hst hlen
  have hnode0 := Lib.hid hnode
  cases hnode with
  | mk _ _ _ a cap _ f hmax cells sub =>
  simp only [Nd.val, nk]
  clear cells sub
  go_enter Try.func32, Try.ntmps32
  go_upto_region 1 with (fail)
  refine wp_world (fun w2 => Ext w w2 ∧ Fr W B bp w.heap.size (w.heap.size + 1) #[.int .i64 1, .int .i64 c, .int .i64 n, .slice a kids.length cap] w2 s) ⟨((Chg.refl w).alloc _).alloc _, Fr.start hst⟩ ?_
  rintro w2 ⟨e2, fr⟩
  obtain ⟨n3, hn3⟩ : ∃ n3, w.heap.size = n3 := ⟨_, rfl⟩
  obtain ⟨n4, hn4⟩ : ∃ n4, w.heap.size + 1 = n4 := ⟨_, rfl⟩
  rw [hn4] at fr
  rw [hn3] at fr
  have q0 := fr.b3.cell 0 _ rfl
  have q1 := fr.b3.cell 1 _ rfl
  have q2 := fr.b3.cell 2 _ rfl
  have q3 := fr.b3.cell 3 _ rfl
  have r0 := fr.b4.cell 0 _ rfl
  have r1 := fr.b4.cell 1 _ rfl
  have r2 := fr.b4.cell 2 _ rfl
  have f0 := fr.b4.frozen 0
  have f1 := fr.b4.frozen 1
  have f2 := fr.b4.frozen 2
  have l3 := fr.b3.lt
  have l4 := fr.b4.lt
  have h4 : w.heap.size ≤ n4 := by omega
  have HL := Lib.hid hlen
  rw [hn4, hn3]
  have K0 := Lib.hid (hst.keepExt e2)
  have HS := Lib.hid hst
  have HF := Lib.hid fr
  have H4 := Lib.hid h4
  clear fr hst e2 hn3 hn4 hlen h4
  go_wp2_with fail
  refine bodyPost_ret (v := encE (.bail c n)) (by simp [results, Try.results32, go_sem, r0, r1, r2, encE]) rfl ?_
  exact HF.out.finish HS.out K0.out H4.out (by simp [play]) (by repeat (first | exact Chg.refl _ | refine Chg.drew ?_ | refine Chg.drewN ?_ _ | refine Chg.setCell ?_ _ _ (fun _ => rfl)))
set_option maxRecDepth 100000 in
set_option maxHeartbeats 1000000 in
theorem plays2 (c n : Int) (kids : List Tr) : PlaysOK (.node 2 c n kids) := by
  intro W d w B bp s hnode hst hlen
  have hnode0 := Lib.hid hnode
  cases hnode with
  | mk _ _ _ a cap _ f hmax cells sub =>
  simp only [Nd.val, nk]
  clear cells sub
  go_enter Try.func32, Try.ntmps32
  go_upto_region 1 with (fail)
  refine wp_world (fun w2 => Ext w w2 ∧ Fr W B bp w.heap.size (w.heap.size + 1) #[.int .i64 2, .int .i64 c, .int .i64 n, .slice a kids.length cap] w2 s) ⟨((Chg.refl w).alloc _).alloc _, Fr.start hst⟩ ?_
  rintro w2 ⟨e2, fr⟩
  obtain ⟨n3, hn3⟩ : ∃ n3, w.heap.size = n3 := ⟨_, rfl⟩
  obtain ⟨n4, hn4⟩ : ∃ n4, w.heap.size + 1 = n4 := ⟨_, rfl⟩
  rw [hn4] at fr
  rw [hn3] at fr
  have q0 := fr.b3.cell 0 _ rfl
  have q1 := fr.b3.cell 1 _ rfl
  have q2 := fr.b3.cell 2 _ rfl
  have q3 := fr.b3.cell 3 _ rfl
  have r0 := fr.b4.cell 0 _ rfl
  have r1 := fr.b4.cell 1 _ rfl
  have r2 := fr.b4.cell 2 _ rfl
  have f0 := fr.b4.frozen 0
  have f1 := fr.b4.frozen 1
  have f2 := fr.b4.frozen 2
  have l3 := fr.b3.lt
  have l4 := fr.b4.lt
  have h4 : w.heap.size ≤ n4 := by omega
  have HL := Lib.hid hlen
  rw [hn4, hn3]
  have K0 := Lib.hid (hst.keepExt e2)
  have HS := Lib.hid hst
  have HF := Lib.hid fr
  have H4 := Lib.hid h4
  clear fr hst e2 hn3 hn4 hlen h4
  go_wp2_with fail
  refine bodyPost_ret (v := encE (.num n)) (by simp [results, Try.results32, go_sem, r0, r1, r2, encE]) rfl ?_
  exact HF.out.finish HS.out K0.out H4.out (by simp [play]) (by repeat (first | exact Chg.refl _ | refine Chg.drew ?_ | refine Chg.drewN ?_ _ | refine Chg.setCell ?_ _ _ (fun _ => rfl)))
set_option maxRecDepth 100000 in
set_option maxHeartbeats 1000000 in
theorem plays0 (k c n : Int) (kids : List Tr) (hk : k < 1 ∨ 9 < k) : PlaysOK (.node k c n kids) := by
  intro W d w B bp s hnode hst hlen
  have hnode0 := Lib.hid hnode
  cases hnode with
  | mk _ _ _ a cap _ f hmax cells sub =>
  simp only [Nd.val, nk]
  clear cells sub
  go_enter Try.func32, Try.ntmps32
  go_upto_region 1 with (fail)
  refine wp_world (fun w2 => Ext w w2 ∧ Fr W B bp w.heap.size (w.heap.size + 1) #[.int .i64 k, .int .i64 c, .int .i64 n, .slice a kids.length cap] w2 s) ⟨((Chg.refl w).alloc _).alloc _, Fr.start hst⟩ ?_
  rintro w2 ⟨e2, fr⟩
  obtain ⟨n3, hn3⟩ : ∃ n3, w.heap.size = n3 := ⟨_, rfl⟩
  obtain ⟨n4, hn4⟩ : ∃ n4, w.heap.size + 1 = n4 := ⟨_, rfl⟩
  rw [hn4] at fr
  rw [hn3] at fr
  have q0 := fr.b3.cell 0 _ rfl
  have q1 := fr.b3.cell 1 _ rfl
  have q2 := fr.b3.cell 2 _ rfl
  have q3 := fr.b3.cell 3 _ rfl
  have r0 := fr.b4.cell 0 _ rfl
  have r1 := fr.b4.cell 1 _ rfl
  have r2 := fr.b4.cell 2 _ rfl
  have f0 := fr.b4.frozen 0
  have f1 := fr.b4.frozen 1
  have f2 := fr.b4.frozen 2
  have l3 := fr.b3.lt
  have l4 := fr.b4.lt
  have h4 : w.heap.size ≤ n4 := by omega
  have HL := Lib.hid hlen
  rw [hn4, hn3]
  have K0 := Lib.hid (hst.keepExt e2)
  have HS := Lib.hid hst
  have HF := Lib.hid fr
  have H4 := Lib.hid h4
  clear fr hst e2 hn3 hn4 hlen h4
  have g1 : (k == 1) = false := by simp; omega
  have g2 : (k == 2) = false := by simp; omega
  have g3 : (k == 3) = false := by simp; omega
  have g4 : (k == 4) = false := by simp; omega
  have g5 : (k == 5) = false := by simp; omega
  have g6 : (k == 6) = false := by simp; omega
  have g7 : (k == 7) = false := by simp; omega
  have g8 : (k == 8) = false := by simp; omega
  have g9 : (k == 9) = false := by simp; omega
  have hp : play (.node k c n kids) s = (.ret, s) := by
    simp only [play]
    rw [if_neg (by omega), if_neg (by omega), if_neg (by omega), if_neg (by omega), if_neg (by omega), if_neg (by omega), if_neg (by omega), if_neg (by omega), if_neg (by omega)]
  have HP := Lib.hid hp
  clear hp hk
  go_wp2_with fail
  refine bodyPost_ret (v := encE .ret) (by simp [results, Try.results32, go_sem, r0, r1, r2, encE]) rfl ?_
  exact HF.out.finish HS.out K0.out H4.out HP.out (by repeat (first | exact Chg.refl _ | refine Chg.drew ?_ | refine Chg.drewN ?_ _ | refine Chg.setCell ?_ _ _ (fun _ => rfl)))
set_option maxRecDepth 100000 in
set_option maxHeartbeats 1000000 in
theorem plays8 (c n : Int) (kids : List Tr) : PlaysOK (.node 8 c n kids) := by
  intro W d w B bp s hnode hst hlen
  have hnode0 := Lib.hid hnode
  cases hnode with
  | mk _ _ _ a cap _ f hmax cells sub =>
  simp only [Nd.val, nk]
  clear cells sub
  go_enter Try.func32, Try.ntmps32
  go_upto_region 1 with (fail)
  refine wp_world (fun w2 => Ext w w2 ∧ Fr W B bp w.heap.size (w.heap.size + 1) #[.int .i64 8, .int .i64 c, .int .i64 n, .slice a kids.length cap] w2 s) ⟨((Chg.refl w).alloc _).alloc _, Fr.start hst⟩ ?_
  rintro w2 ⟨e2, fr⟩
  obtain ⟨n3, hn3⟩ : ∃ n3, w.heap.size = n3 := ⟨_, rfl⟩
  obtain ⟨n4, hn4⟩ : ∃ n4, w.heap.size + 1 = n4 := ⟨_, rfl⟩
  rw [hn4] at fr
  rw [hn3] at fr
  have q0 := fr.b3.cell 0 _ rfl
  have q1 := fr.b3.cell 1 _ rfl
  have q2 := fr.b3.cell 2 _ rfl
  have q3 := fr.b3.cell 3 _ rfl
  have r0 := fr.b4.cell 0 _ rfl
  have r1 := fr.b4.cell 1 _ rfl
  have r2 := fr.b4.cell 2 _ rfl
  have f0 := fr.b4.frozen 0
  have f1 := fr.b4.frozen 1
  have f2 := fr.b4.frozen 2
  have l3 := fr.b3.lt
  have l4 := fr.b4.lt
  have h4 : w.heap.size ≤ n4 := by omega
  have HL := Lib.hid hlen
  rw [hn4, hn3]
  have K0 := Lib.hid (hst.keepExt e2)
  have HS := Lib.hid hst
  have HF := Lib.hid fr
  have H4 := Lib.hid h4
  clear fr hst e2 hn3 hn4 hlen h4
  obtain ⟨i0, hi0, hz0, hz1, hz2⟩ := info_parts info_int
  obtain ⟨v, hh, hown, hb⟩ := HF.out.st.nts
  have c0 : w2.cell? ⟨bp, 0, none⟩ = some v := by simp [World.cell?, hh]
  have hbp : bp < w2.heap.size := lt_of_cell (p := ⟨bp, 0, none⟩) c0
  have hbp1 : ¬ bp = w2.heap.size := by omega
  have n31 : ¬ n3 = w2.heap.size := by omega
  have n41 : ¬ n4 = w2.heap.size := by omega
  have hB2 := HF.out.st.leB
  have HO := Lib.hid hown
  have HH := Lib.hid hh
  have hl : s.notes.length ≤ 1000 := by have := HL.out; omega
  have hne4 := HF.out.ne4
  have hne3 := HF.out.ne3
  clear hown hh
  go_wp2_with fail
  go_region_law ((refine step_append_st rfl (.tmp 177) (.tmp 180) 22 rfl B 3 i0 (.int .i64 0) 1 8 Try.underlying22 hi0 hz0 hz1 hz2 rfl (by decide) v s.notes.length _ (by simp [Act.eval]) (by exact (HO.out.alloc _)) ⟨w2.heap.size, 0, none⟩ 1 1 [.int .i64 n] (by simp [Act.eval]) rfl (by exact news1 _ _ _) (by simp [Value.oneCell']) (by unfold maxLen; omega) (by omega) (by simp; omega) ?_; intro v' w' u1 u2 u3; obtain ⟨sa, sc, rfl, k0, kf, kb, ks, HK, HN⟩ := nts_grow (l' := s.notes ++ [n]) (S := Non) HH.out HO.out hb (by repeat (first | exact Chg.refl _ | refine Chg.drew ?_ | refine Chg.alloc ?_ _)) u1 (by simp) (by simp) u2 u3 (fun _ h => h.elim); clear u1 u2 u3; have hB4 := HF.out.b4.of (HK.out n4 HF.out.b4.lt HF.out.nd4); have t0 := hB4.cell 0 _ rfl; have t1 := hB4.cell 1 _ rfl; have t2 := hB4.cell 2 _ rfl; have g0 := hB4.frozen 0; have g1 := hB4.frozen 1; have g2 := hB4.frozen 2; clear hB4))
  all_goals
    go_wp2_with fail
    refine bodyPost_ret (v := encE .ret) (by simp [results, Try.results32, go_sem, t0, t1, t2, encE]) rfl ?_
    exact (HF.out.noted HN).finish HS.out (K0.out.trans HN.out.2) H4.out (by simp [play]) (by repeat (first | exact Chg.refl _ | refine Chg.drew ?_ | refine Chg.drewN ?_ _ | refine Chg.setCell ?_ _ _ (fun _ => rfl)))
/-- What is left, written anew. -/
theorem Nts.setx {B b T : Nat} {x x' : Value} {w : World} {l : List Int} (h : Nts B b T x w l) : Nts B b T x' (w.setCell ⟨b, 1, none⟩ x') l ∧ Keep (NtsD b Non) w (w.setCell ⟨b, 1, none⟩ x') := by
  obtain ⟨v, hh, hown, hb⟩ := h
  have hset : (w.setCell ⟨b, 1, none⟩ x').heap[b]? = some (.cells #[v, x'] T (0, 0)) := by simp [World.setCell, Array.getElem?_modify, hh]
  have hN : Nts B b T x' (w.setCell ⟨b, 1, none⟩ x') l := ⟨v, hset, ownsRow_setCell_below (a := ⟨b, 1, none⟩) hown hb _, hb⟩
  refine ⟨hN, rfl, rfl, rfl, by simp [World.setCell], fun k hk hd => Below.heap_setCell _ _ _ _ (fun h => hd (.inl h)), fun k hk hd => ?_, fun _ => hN.there (fun _ h => h.elim)⟩
  have hcv : w.cell? ⟨b, 0, none⟩ = some v := by simp [World.cell?, hh]
  have hcv' : (w.setCell ⟨b, 1, none⟩ x').cell? ⟨b, 0, none⟩ = some v := by simp [World.cell?, hset]
  rcases hd with rfl | hs | ⟨a, n, c, hc, rfl⟩
  · exact .inl rfl
  · exact hs.elim
  · rw [hcv'] at hc
    exact .inr (.inr ⟨a, n, c, by rw [hcv]; exact hc, rfl⟩)
theorem news2 (w : World) (x y : Value) (t : Nat) : ∀ j u, [x, y][j]? = some u → (w.alloc (.cells #[x, y] t)).cell? ((⟨w.heap.size, 0, none⟩ : Addr).add j) = some u := by
  intro j u hj
  match j, hj with
  | 0, hj => simp at hj; subst hj; simp [Addr.add]
  | 1, hj => simp at hj; subst hj; simp [Addr.add]
  | j + 2, hj => simp at hj
theorem news3 (w : World) (x y z : Value) (t : Nat) : ∀ j u, [x, y, z][j]? = some u → (w.alloc (.cells #[x, y, z] t)).cell? ((⟨w.heap.size, 0, none⟩ : Addr).add j) = some u := by
  intro j u hj
  match j, hj with
  | 0, hj => simp at hj; subst hj; simp [Addr.add]
  | 1, hj => simp at hj; subst hj; simp [Addr.add]
  | 2, hj => simp at hj; subst hj; simp [Addr.add]
  | j + 3, hj => simp at hj
theorem kid_cnt (kids : List Tr) (k : Nat) : cnt (kid kids k) ≤ 1 + cntAll kids := by
  unfold kid
  rcases h : kids[k]? with _ | t
  · simp [List.getD_eq_getElem?_getD, h, Pl.zero, cnt, cntAll]
  · have := cntAll_get kids k t h
    simp [List.getD_eq_getElem?_getD, h]; omega
theorem kid_len (kids : List Tr) (k : Nat) (s : St) : (play (kid kids k) s).2.notes.length ≤ s.notes.length + 3 * cntAll kids := by
  rw [← playKid_eq]
  exact (playKid_fair kids k s).1
theorem kid_room (kids : List Tr) (k : Nat) (s : St) (kk c n : Int) (h : s.notes.length + 3 * cnt (.node kk c n kids) + 3 ≤ 1000) : s.notes.length + 3 * cnt (kid kids k) + 3 ≤ 1000 := by
  have := kid_cnt kids k
  simp only [cnt] at h
  omega
theorem kid_room2 (kids : List Tr) (s : St) (kk c n : Int) (h : s.notes.length + 3 * cnt (.node kk c n kids) + 3 ≤ 1000) : (play (kid kids 0) s).2.notes.length + 3 * cnt (kid kids 1) + 3 ≤ 1000 := by
  match kids, h with
  | [], h => simp [kid, Pl.zero, cnt, cntAll, play] at *; omega
  | [t], h =>
    have := (play_fair t s).1
    simp [kid, Pl.zero, cnt, cntAll] at *; omega
  | t :: u :: ts, h =>
    have := (play_fair t s).1
    simp [kid, cnt, cntAll] at *; omega
end Go.Proofs.Ytdiklblnilmpoaa
