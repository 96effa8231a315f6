/-
  Paths (chapter 7): the check lets them pass. Paths (chapter 7): the check, whole. Plain paths (chapter 9): how they are made. Plain paths (chapter 9): rows. Plain paths (chapter 9): in memory of their own.
-/
import Derived.Test.YtkhllknahjmciaaGreatM04
import Derived.StillTailTactics
/-! Paths (chapter 7): the check lets them pass. -/
namespace Go.Proofs.YtkhllknahjmciaaGreat
open Go.RowKit
set_option linter.unusedVariables false
set_option linter.unusedSimpArgs false

theorem rsizeK_small {k mn mx n : Int} {l : ByteArray} {kids : List Tr} (hv : rchecks (.node k l kids mn mx) = 0) (h0 : 0 ≤ n) (h1 : n ≤ 60) (h : rsizeK k mn mx n ≤ 60) :
    (k ≤ 3 → rsizeK k mn mx n = 1) ∧ (k = 4 ∨ k = 5 ∨ k = 6 → rsizeK k mn mx n = n + 1) ∧ (k = 7 → rsizeK k mn mx n = 2 * n + 2) ∧ (k = 8 → rsizeK k mn mx n = n + 2) ∧
    (k = 9 → ∃ c, 1 ≤ c ∧ c ≤ 9 ∧ ((mx = -1 ∧ 0 ≤ mn ∧ mn ≤ 8 ∧ c = mn + 1) ∨ (mx ≠ -1 ∧ c = mx)) ∧ rsizeK k mn mx n = c * n + 3) := by
  obtain ⟨v1, v2, v3, v4⟩ := valid_parts hv
  obtain ⟨u1, u2, u3, u4, u5⟩ := kind_of_kids v1
  refine ⟨fun hk => ?_, fun hk => ?_, fun hk => ?_, fun hk => ?_, fun hk => ?_⟩
  · unfold rsizeK; rw [if_neg (by omega), if_neg (by omega), if_neg (by omega), if_neg (by omega), if_pos (by omega)]
  · unfold rsizeK; rw [if_pos hk]; unfold rsum; omega
  · unfold rsizeK; rw [if_neg (by omega), if_pos hk]; unfold rsum; omega
  · unfold rsizeK; rw [if_neg (by omega), if_neg (by omega), if_pos hk]; unfold rsum; omega
  · unfold rsizeK at h ⊢
    rw [if_neg (by omega), if_neg (by omega), if_neg (by omega), if_pos hk] at h ⊢
    have hb := v3 hk
    unfold repBad at hb
    obtain ⟨c, hc⟩ : ∃ c, (if mx = -1 then min (max mn 0) 1099511627776 + 1 else max mx 0) = c := ⟨_, rfl⟩
    rw [hc] at h ⊢
    have hc1 : 1 ≤ c ∧ c ≤ 9 ∧ ((mx = -1 ∧ 0 ≤ mn ∧ mn ≤ 8 ∧ c = mn + 1) ∨ (mx ≠ -1 ∧ c = mx)) := by split at hc <;> omega
    refine ⟨c, hc1.1, hc1.2.1, hc1.2.2, ?_⟩
    by_cases hq : 0 < n ∧ 1099511627776 / n < c
    · rw [if_pos hq] at h; omega
    · rw [if_neg hq]
      have h6 : c * n ≤ 9 * 60 := Int.mul_le_mul hc1.2.1 h1 h0 (by omega)
      unfold rsum; omega
set_option maxRecDepth 100000 in
set_option maxHeartbeats 1000000 in
theorem psize_any (t : Tr) (w : World) (cs : List Value) (at' : Int) (h : TrC w t cs) (hv : rchecks t = 0) (hs : rsize t at' ≤ 60) :
    Calls Tryz.prog 86 #[.agg cs.toArray] w fun e w' => e = .returned (.int .i64 (rsize t at')) ∧ Ext w w' := by
  induction t using Tr.ind generalizing w cs at' with
  | node k l kids mn mx ih =>
    obtain ⟨s0, s1, s2, s3, s4, s5⟩ := small_parts hv hs
    have v4 := (valid_parts hv).2.2.2
    have vk := kind_of_kids (valid_parts hv).1
    have vp := (valid_pos hv at')
    have HI := Lib.hid (fun u hu w cs h => ih u hu w cs (at' + 1) h (v4 u hu) (s5 u hu))
    have HK1 := Lib.hid (vk.2.2.1)
    obtain ⟨vk1, vk2, -⟩ := vk
    obtain ⟨R, hR⟩ : ∃ R, rsize (.node k l kids mn mx) at' = R := ⟨_, rfl⟩
    rw [hR] at hs s1 vp ⊢
    clear ih s5 v4
    obtain ⟨a, cap, css, rfl, hc, ht⟩ := TrC_node.1 h
    have hb := Blk.new w #[.int .i64 k, .string l, .slice a kids.length cap, .int .i64 mn, .int .i64 mx] 28
    have hw1 : Ext w (w.alloc (.cells #[.int .i64 k, .string l, .slice a kids.length cap, .int .i64 mn, .int .i64 mx] 28)) := (Chg.refl w).alloc _
    have hcap := hc.1
    have hmax := hc.2.1
    unfold maxLen at hmax
    have HZ := Lib.hid (fun W (hW : Ext w W) => psizes_any kids W a _ cap css at' rfl (hc.ext hW) (ht.ext hW _ _) s3 HI.out)
    obtain ⟨n, hn⟩ : ∃ n, rsizes kids at' 0 = n := ⟨_, rfl⟩
    rw [hn] at s1 s2 s3 HZ
    rw [s1] at hs
    obtain ⟨q1, q2, q3, q4, q5⟩ := rsizeK_small hv s2 s3 hs
    rw [← s1] at q1 q2 q3 q4 q5 hs
    have HB := Lib.hid (And.intro hb hw1)
    clear hc ht hb hw1 h hn HI HK1 hv s4 hR s1
    obtain ⟨m, hm⟩ : ∃ m, kids.length = m := ⟨_, rfl⟩
    rw [hm] at HB HZ hcap ⊢
    clear hm
    have HQ := Lib.hid (And.intro q2 (And.intro q3 (And.intro q4 q5)))
    have e0 : min R 1099511627776 = R := by omega
    clear q2 q3 q4 q5
    by_cases k3 : k ≤ 3
    · obtain rfl := q1 k3
      have d1 : ((k == 1) = true) ∨ ((k == 1) = false ∧ (k == 2) = true) ∨ ((k == 1) = false ∧ (k == 2) = false ∧ (k == 3) = true) := by
        have : k = 1 ∨ k = 2 ∨ k = 3 := by omega
        rcases this with rfl | rfl | rfl
        · left; rfl
        · right; left; exact ⟨rfl, rfl⟩
        · right; right; exact ⟨rfl, rfl, rfl⟩
      clear q1 k3 vk1 vk2 HQ
      rcases d1 with d1 | ⟨d1, d2⟩ | ⟨d1, d2, d3⟩
      all_goals
        have hb2 := HB.out.1.cell 2 _ rfl
        go_enter Tryz.func86, Tryz.ntmps86
        go_wp2_with fail
        refine (HZ.out _ HB.out.2).mono ?_
        rintro e w2 ⟨rfl, hx2⟩
        obtain ⟨g0, f0, g1, f1, g2, f2, g3, f3, g4, f4⟩ := blk5_base (HB.out.1.chg hx2 (fun h => h))
        have HX2 := Lib.hid hx2
        clear hx2 hb2
        go_wp2_with fail
        go_ret
        exact ⟨rfl, HB.out.2.trans HX2.out⟩
    have d1 : (k == 1) = false := by simp; omega
    have d2 : (k == 2) = false := by simp; omega
    have d3 : (k == 3) = false := by simp; omega
    clear q1
    by_cases k4 : k = 4 ∨ k = 5 ∨ k = 6
    · have q := HQ.out.1 k4
      have dd : ((k == 4) = true) ∨ ((k == 4) = false ∧ (k == 5) = true) ∨ ((k == 4) = false ∧ (k == 5) = false ∧ (k == 6) = true) := by
        rcases k4 with rfl | rfl | rfl
        · left; rfl
        · right; left; exact ⟨rfl, rfl⟩
        · right; right; exact ⟨rfl, rfl, rfl⟩
      subst q
      clear k3 vk1 vk2 HQ k4
      rcases dd with d4 | ⟨d4, d5⟩ | ⟨d4, d5, d6⟩
      all_goals
        have hb2 := HB.out.1.cell 2 _ rfl
        go_enter Tryz.func86, Tryz.ntmps86
        go_wp2_with fail
        refine (HZ.out _ HB.out.2).mono ?_
        rintro e w2 ⟨rfl, hx2⟩
        obtain ⟨g0, f0, g1, f1, g2, f2, g3, f3, g4, f4⟩ := blk5_base (HB.out.1.chg hx2 (fun h => h))
        have HX2 := Lib.hid hx2
        clear hx2 hb2
        go_wp2_with fail
        go_ret
        exact ⟨rfl, HB.out.2.trans HX2.out⟩
    have d4 : (k == 4) = false := by simp; omega
    have d5 : (k == 5) = false := by simp; omega
    have d6 : (k == 6) = false := by simp; omega
    by_cases k7 : k = 7
    · have q := HQ.out.2.1 k7
      have d7 : (k == 7) = true := by simpa using k7
      subst q
      clear k3 vk1 vk2 HQ k4 k7
      have hb2 := HB.out.1.cell 2 _ rfl
      go_enter Tryz.func86, Tryz.ntmps86
      go_wp2_with fail
      refine (HZ.out _ HB.out.2).mono ?_
      rintro e w2 ⟨rfl, hx2⟩
      obtain ⟨g0, f0, g1, f1, g2, f2, g3, f3, g4, f4⟩ := blk5_base (HB.out.1.chg hx2 (fun h => h))
      have HX2 := Lib.hid hx2
      clear hx2 hb2
      go_wp2_with fail
      go_ret
      exact ⟨rfl, HB.out.2.trans HX2.out⟩
    have d7 : (k == 7) = false := by simp; omega
    by_cases k8 : k = 8
    · have q := HQ.out.2.2.1 k8
      have d8 : (k == 8) = true := by simpa using k8
      subst q
      clear k3 vk1 vk2 HQ k4 k7 k8
      have hb2 := HB.out.1.cell 2 _ rfl
      go_enter Tryz.func86, Tryz.ntmps86
      go_wp2_with fail
      refine (HZ.out _ HB.out.2).mono ?_
      rintro e w2 ⟨rfl, hx2⟩
      obtain ⟨g0, f0, g1, f1, g2, f2, g3, f3, g4, f4⟩ := blk5_base (HB.out.1.chg hx2 (fun h => h))
      have HX2 := Lib.hid hx2
      clear hx2 hb2
      go_wp2_with fail
      go_ret
      exact ⟨rfl, HB.out.2.trans HX2.out⟩
    have d8 : (k == 8) = false := by simp; omega
    have k9 : k = 9 := by omega
    obtain ⟨c, c1, c9, hcc, q⟩ := HQ.out.2.2.2 k9
    have d9 : (k == 9) = true := by simpa using k9
    have HT := Lib.hid (fun w => ptimes_any c n ⟨c1, c9, s2, s3⟩ w)
    have hcn : 0 ≤ c * n := Int.mul_nonneg (by omega) s2
    have HE := Lib.hid q
    clear k3 vk1 vk2 HQ k4 k7 k8 k9
    obtain ⟨y, hy⟩ : ∃ y, c * n = y := ⟨_, rfl⟩
    rw [hy] at HT HE hcn q
    clear hy
    rcases hcc with ⟨hx, hm0, hm1, hcm⟩ | ⟨hx, hcm⟩
    · have e1 : (mx == -1) = true := by simpa using hx
      have e2 : max mn 0 = mn := by omega
      have e3 : min mn 1099511627776 = mn := by omega
      subst hcm
      have e4 : min (y + 3) 1099511627776 = y + 3 := by omega
      clear hx q
      have hb2 := HB.out.1.cell 2 _ rfl
      go_enter Tryz.func86, Tryz.ntmps86
      go_wp2_with fail
      refine (HZ.out _ HB.out.2).mono ?_
      rintro e w2 ⟨rfl, hx2⟩
      obtain ⟨g0, f0, g1, f1, g2, f2, g3, f3, g4, f4⟩ := blk5_base (HB.out.1.chg hx2 (fun h => h))
      have HX2 := Lib.hid hx2
      clear hx2 hb2
      go_wp2_with fail
      refine (HT.out _).mono ?_
      rintro e w3 ⟨rfl, rfl⟩
      go_wp2_with fail
      go_ret
      exact ⟨congrArg (fun n => Ending.returned (.int .i64 n)) HE.out.symm, HB.out.2.trans HX2.out⟩
    · have e1 : (mx == -1) = false := by simpa using hx
      subst hcm
      have e4 : min (y + 3) 1099511627776 = y + 3 := by omega
      clear hx q
      have hb2 := HB.out.1.cell 2 _ rfl
      go_enter Tryz.func86, Tryz.ntmps86
      go_wp2_with fail
      refine (HZ.out _ HB.out.2).mono ?_
      rintro e w2 ⟨rfl, hx2⟩
      obtain ⟨g0, f0, g1, f1, g2, f2, g3, f3, g4, f4⟩ := blk5_base (HB.out.1.chg hx2 (fun h => h))
      have HX2 := Lib.hid hx2
      clear hx2 hb2
      go_wp2_with fail
      refine (HT.out _).mono ?_
      rintro e w3 ⟨rfl, rfl⟩
      go_wp2_with fail
      go_ret
      exact ⟨congrArg (fun n => Ending.returned (.int .i64 n)) HE.out.symm, HB.out.2.trans HX2.out⟩
end Go.Proofs.YtkhllknahjmciaaGreat

/-! Paths (chapter 7): the check, whole. -/
namespace Go.Proofs.YtkhllknahjmciaaGreat
open Go.RowKit
set_option linter.unusedVariables false
set_option linter.unusedSimpArgs false

theorem rdeeps_ge : ∀ (ts : List Tr) (at' n : Int), n ≤ rdeeps ts at' n
  | [], _, _ => by rw [rdeeps]; omega
  | t :: ts, at', n => by
    rw [rdeeps]
    split
    · split
      · omega
      · have := rdeeps_ge ts at' (max n (rdeep t (at' + 1))); omega
    · omega
theorem rdeep_hgt (t : Tr) : ∀ at', rdeep t at' ≤ 40 → rdeep t at' = at' + hgt t - 1 := by
  refine Tr.rec (motive_1 := fun t => ∀ at', rdeep t at' ≤ 40 → rdeep t at' = at' + hgt t - 1) (motive_2 := fun ts => ∀ at' n, rdeeps ts at' n ≤ 40 → rdeeps ts at' n = at' + hgts ts (n - at')) ?_ ?_ ?_ t
  · intro k l kids mn mx ih at' h
    rw [rdeep] at h ⊢
    rw [ih _ _ h, hgt, Int.sub_self]; omega
  · intro at' n h
    rw [rdeeps, hgts]; omega
  · intro t ts ih1 ih2 at' n h
    rw [rdeeps] at h ⊢
    by_cases h1 : n ≤ 40
    · rw [if_pos h1] at h ⊢
      by_cases h2 : 40 ≤ at'
      · rw [if_pos h2] at h; omega
      · rw [if_neg h2] at h ⊢
        have h3 := rdeeps_ge ts at' (max n (rdeep t (at' + 1)))
        have h4 := ih1 (at' + 1) (by omega)
        rw [ih2 _ _ h, hgts, h4]
        congr 2
        omega
    · rw [if_neg h1] at h; omega
/-- A path that may be. -/
theorem rcheck_zero {t : Tr} (h : rcheck t = 0) : rdeep t 1 ≤ 20 ∧ hgt t = rdeep t 1 ∧ rchecks t = 0 ∧ rsize t 0 ≤ 60 := by
  unfold rcheck at h
  by_cases h1 : 20 < rdeep t 1
  · rw [if_pos h1] at h; cases h
  · rw [if_neg h1] at h
    by_cases h2 : rchecks t = 0 ∧ 60 < (if 40 < rdeep t 1 then 1099511627776 else rsize t 0)
    · rw [if_pos h2] at h; cases h
    · rw [if_neg h2] at h
      have h3 := rdeep_hgt t 1 (by omega)
      rw [if_neg (by omega)] at h2
      exact ⟨by omega, by omega, h, by have : ¬ 60 < rsize t 0 := fun h4 => h2 ⟨h, h4⟩
                                       omega⟩
set_option maxRecDepth 100000 in
set_option maxHeartbeats 1000000 in
theorem pCheck_any (t : Tr) (w : World) (cs : List Value) (h : TrC w t cs) (hv : rcheck t = 0) :
    Calls Tryz.prog 44 #[.agg cs.toArray] w fun e w' => e = .returned (.int .i64 0) ∧ Ext w w' := by
  obtain ⟨v1, v2, v3, v4⟩ := rcheck_zero hv
  obtain ⟨k, l, a, n, cap, mn, mx, rfl⟩ := h.form
  have hb := Blk.new w #[.int .i64 k, .string l, .slice a n cap, .int .i64 mn, .int .i64 mx] 28
  have hw1 : Ext w (w.alloc (.cells #[.int .i64 k, .string l, .slice a n cap, .int .i64 mn, .int .i64 mx] 28)) := (Chg.refl w).alloc _
  have HC := Lib.hid (pDeep_any t _ _ (h.ext hw1) (by omega))
  have HS := Lib.hid (fun W (hW : Ext w W) => And.intro (pall_any t W _ 0 (TrC.ext hW _ _ h) v3 v4) (psize_any t W _ 0 (TrC.ext hW _ _ h) v3 v4))
  have HB := Lib.hid (And.intro hb hw1)
  rw [v2] at HC
  have e1 : decide (20 < rdeep t 1) = false := by simp; omega
  have e2 : decide (60 < rsize t 0) = false := by simp; omega
  clear hb hw1 h hv v1 v2 v3 v4
  generalize rdeep t 1 = d at HC e1
  generalize rsize t 0 = s at HS e2
  go_enter Tryz.func44, Tryz.ntmps44
  go_wp2_with fail
  refine HC.out.mono ?_
  rintro e w2 ⟨rfl, hx⟩
  obtain ⟨g0, f0, g1, f1, g2, f2, g3, f3, g4, f4⟩ := blk5_base (HB.out.1.chg hx (fun h => h))
  have HX := Lib.hid hx
  clear hx
  go_wp2_with fail
  refine (HS.out _ (HB.out.2.trans HX.out)).1.mono ?_
  rintro e w3 ⟨rfl, hx3⟩
  clear g0 f0 g1 f1 g2 f2 g3 f3 g4 f4
  have HX3 := Lib.hid (HX.out.trans hx3)
  obtain ⟨g0, f0, g1, f1, g2, f2, g3, f3, g4, f4⟩ := blk5_base (HB.out.1.chg HX3.out (fun h => h))
  clear hx3
  go_wp2_with fail
  refine (HS.out _ (HB.out.2.trans HX3.out)).2.mono ?_
  rintro e w4 ⟨rfl, hx4⟩
  go_wp2_with fail
  go_ret
  exact ⟨rfl, (HB.out.2.trans HX3.out).trans hx4⟩
end Go.Proofs.YtkhllknahjmciaaGreat

/-! Plain paths (chapter 9): how they are made. -/
namespace Go.Proofs.YtkhllknahjmciaaGreat
open Go.RowKit
set_option linter.unusedVariables false
set_option linter.unusedSimpArgs false

/-- A path that lies where no block of S is. -/
def Tree (S : Nat → Prop) (w : World) (t : Tr) (cs : List Value) : Prop := ∀ w2, Chg S w w2 → TrC w2 t cs
def Trees (S : Nat → Prop) (w : World) (ts : List Tr) (css : List (List Value)) : Prop := ∀ w2, Chg S w w2 → TrCs w2 ts css
section
variable {S T : Nat → Prop} {w w' : World} {t : Tr} {ts : List Tr} {cs : List Value} {css : List (List Value)}
theorem Tree.trc (h : Tree S w t cs) : TrC w t cs := h w (Chg.refl w)
theorem Trees.trcs (h : Trees S w ts css) : TrCs w ts css := h w (Chg.refl w)
theorem Tree.chg (h : Tree S w t cs) (k : Chg S w w') : Tree S w' t cs := fun w2 h2 => h w2 (k.trans h2)
theorem Trees.chg (h : Trees S w ts css) (k : Chg S w w') : Trees S w' ts css := fun w2 h2 => h w2 (k.trans h2)
theorem Tree.ext (h : Tree S w t cs) (k : Ext w w') : Tree S w' t cs := h.chg (k.mono fun _ _ h => h.elim)
theorem Trees.ext (h : Trees S w ts css) (k : Ext w w') : Trees S w' ts css := h.chg (k.mono fun _ _ h => h.elim)
theorem Tree.mono (h : Tree S w t cs) (k : ∀ b, b < w.heap.size → T b → S b) : Tree T w t cs := fun w2 h2 => h w2 (h2.mono k)
theorem Trees.mono (h : Trees S w ts css) (k : ∀ b, b < w.heap.size → T b → S b) : Trees T w ts css := fun w2 h2 => h w2 (h2.mono k)
theorem TrC.tree (h : TrC w t cs) (k : ∀ b, b < w.heap.size → ¬ S b) : Tree S w t cs := fun w2 h2 => h.ext (h2.mono fun b hb hs => k b hb hs)
theorem TrCs.trees (h : TrCs w ts css) (k : ∀ b, b < w.heap.size → ¬ S b) : Trees S w ts css := fun w2 h2 => TrCs.ext (h2.mono fun b hb hs => k b hb hs) _ _ h
theorem Trees.nil : Trees S w [] [] := fun w2 _ => TrCs_nil.2 rfl
theorem Trees.cons (h : Tree S w t cs) (k : Trees S w ts css) : Trees S w (t :: ts) (cs :: css) := fun w2 h2 => TrCs_cons.2 ⟨cs, css, rfl, h w2 h2, k w2 h2⟩
theorem Trees.get (h : Trees S w ts css) : ∀ {i : Nat}, ts[i]? = some t → ∃ c, css[i]? = some c ∧ Tree S w t c := by
  induction ts generalizing css with
  | nil => intro i hi; simp at hi
  | cons u us ih =>
    obtain ⟨c, cs, rfl, h1, h2⟩ := TrCs_cons.1 h.trcs
    have key : ∀ w2, Chg S w w2 → TrC w2 u c ∧ TrCs w2 us cs := by
      intro w2 hw
      obtain ⟨c', cs', e, h1, h2⟩ := TrCs_cons.1 (h w2 hw)
      cases e
      exact ⟨h1, h2⟩
    intro i hi
    cases i with
    | zero =>
      obtain rfl : u = t := by simpa using hi
      exact ⟨c, rfl, fun w2 hw => (key w2 hw).1⟩
    | succ i => simpa using ih (fun w2 hw => (key w2 hw).2) (i := i) (by simpa using hi)
theorem Trees.append {us : List Tr} {dss : List (List Value)} (h : Trees S w ts css) (k : Trees S w us dss) : Trees S w (ts ++ us) (css ++ dss) := by
  induction ts generalizing css with
  | nil =>
    obtain rfl := TrCs_nil.1 h.trcs
    exact k
  | cons u us' ih =>
    obtain ⟨c, cs, rfl, h1, h2⟩ := TrCs_cons.1 h.trcs
    have key : ∀ w2, Chg S w w2 → TrC w2 u c ∧ TrCs w2 us' cs := by
      intro w2 hw
      obtain ⟨c', cs', e, h1, h2⟩ := TrCs_cons.1 (h w2 hw)
      cases e
      exact ⟨h1, h2⟩
    exact Trees.cons (fun w2 hw => (key w2 hw).1) (ih fun w2 hw => (key w2 hw).2)
theorem Tree.form (h : Tree S w t cs) : ∃ k l a n cap mn mx, cs = [.int .i64 k, .string l, .slice a n cap, .int .i64 mn, .int .i64 mx] := h.trc.form
/-- Kids laid in one new block. -/
theorem Trees.node {W : World} {k mn mx : Int} {l : ByteArray} {m ty : Nat} (h : Trees S w ts css) (hx : Ext w W) (hS : ∀ b, S b → b < w.heap.size) (hm : ts.length = m) (h1 : m ≤ 1000) (vs : Array Value) (hv : vs = css.flatten.toArray) {g : Nat} (hg : g = W.heap.size) :
    Tree S (W.alloc (.cells vs ty)) (.node k l ts mn mx) [.int .i64 k, .string l, .slice (some ⟨g, 0, none⟩) m m, .int .i64 mn, .int .i64 mx] := by
  subst hm hv hg
  intro w2 h2
  have hx2 : Chg S w w2 := Chg.trans ((hx.alloc _).mono fun _ _ h => h.elim) h2
  refine TrC_node.2 ⟨_, _, css, rfl, ⟨Nat.le_refl _, by unfold maxLen; omega, fun j u hu => ⟨_, rfl, ?_⟩⟩, h w2 hx2⟩
  have hn := news W css.flatten ty j u hu
  have hlt := lt_of_cell hn
  rw [h2.cell hlt (fun hs => ?_)]
  · exact hn
  · rw [addr_block] at hs
    have h3 := hS _ hs
    have h4 := hx.size
    simp at h3
    omega
theorem Tree.leaf {k mn mx : Int} {l : ByteArray} : Tree S w (.node k l [] mn mx) [.int .i64 k, .string l, .slice none 0 0, .int .i64 mn, .int .i64 mx] :=
  fun w2 _ => TrC_node.2 ⟨none, 0, [], rfl, Cells.nil _, TrCs_nil.2 rfl⟩
end
/-- S and one block. -/
def SP (S : Nat → Prop) (p : Nat) (b : Nat) : Prop := S b ∨ b = p
section
variable {S T : Nat → Prop} {w w' w2 w3 : World} {t : Tr} {ts : List Tr} {cs : List Value} {css : List (List Value)} {p : Nat}
theorem SP.bound (hS : ∀ b, S b → b < w.heap.size) (hp : p < w'.heap.size) (hx : Ext w w') : ∀ b, SP S p b → b < w'.heap.size := by
  rintro b (h | rfl)
  · exact Nat.lt_of_lt_of_le (hS b h) hx.size
  · exact hp
theorem Tree.sp (h : Tree S w t cs) (hp : w.heap.size ≤ p) (hx : Ext w w') : Tree (SP S p) w' t cs := (h.mono fun b hb hs => hs.resolve_right (by omega)).ext hx
theorem Trees.sp (h : Trees S w ts css) (hp : w.heap.size ≤ p) (hx : Ext w w') : Trees (SP S p) w' ts css := (h.mono fun b hb hs => hs.resolve_right (by omega)).ext hx
theorem Tree.put (h : Tree (SP S p) w2 t cs) (k : Chg (fun b => b = p) w2 w3) : Tree (SP S p) w3 t cs := h.chg (k.mono fun _ _ h => .inr h)
theorem Tree.off (h : Tree (SP S p) w2 t cs) : Tree S w2 t cs := h.mono fun _ _ h => .inl h
theorem Trees.put (h : Trees (SP S p) w2 ts css) (k : Chg (fun b => b = p) w2 w3) : Trees (SP S p) w3 ts css := h.chg (k.mono fun _ _ h => .inr h)
theorem Trees.off (h : Trees (SP S p) w2 ts css) : Trees S w2 ts css := h.mono fun _ _ h => .inl h
theorem Ext.put (h : Ext w w2) (k : Chg (fun b => b = p) w2 w3) (hp : w.heap.size ≤ p) : Ext w w3 := by
  have h' : Chg (fun b => b = p) w w2 := h.mono fun _ _ h => h.elim
  exact (h'.trans k).mono fun b hb e => by omega
theorem put5 {c0 c1 c2 c3 c4 : Value} : Chg (fun b => b = p) w (((((w.setCell ⟨p, 0, none⟩ c0).setCell ⟨p, 1, none⟩ c1).setCell ⟨p, 2, none⟩ c2).setCell ⟨p, 3, none⟩ c3).setCell ⟨p, 4, none⟩ c4) :=
  set_chg (set_chg (set_chg (set_chg (set_chg (Chg.refl _)))))
end
/-- A path of two. -/
def mkTwo (k : Int) (a b : Tr) : Tr := .node k ⟨#[]⟩ [a, b] 0 0
def mkStar (a : Tr) : Tr := .node 6 ⟨#[]⟩ [a] 0 0
def mkEps : Tr := .node 1 ⟨#[]⟩ [] 0 0
def mkMaybe (a : Tr) : Tr := mkTwo 5 mkEps a
/-- What a call that makes a path gives back. -/
def Makes (S : Nat → Prop) (w : World) (t : Tr) (e : Ending) (w' : World) : Prop := ∃ cs, e = .returned (.agg cs.toArray) ∧ Tree S w' t cs ∧ Ext w w'
set_option maxRecDepth 100000 in
set_option maxHeartbeats 1000000 in
theorem two_any (S : Nat → Prop) (k : Int) (a b : Tr) (w : World) (ca cb : List Value) (hS : ∀ b, S b → b < w.heap.size) (ha : Tree S w a ca) (hb : Tree S w b cb) :
    Calls Tryz.prog 237 #[.int .i64 k, .agg ca.toArray, .agg cb.toArray] w (Makes S w (mkTwo k a b)) := by
  obtain ⟨k1, l1, a1, n1, cap1, mn1, mx1, rfl⟩ := ha.form
  obtain ⟨k2, l2, a2, n2, cap2, mn2, mx2, rfl⟩ := hb.form
  have HA := Lib.hid (Trees.cons ha (Trees.cons hb Trees.nil))
  have HS := Lib.hid hS
  clear ha hb hS
  go_enter Tryz.func237, Tryz.ntmps237
  go_wp2_with fail
  go_returns
  exact ⟨_, rfl, HA.out.node ((((Chg.refl w).alloc _).alloc _).alloc _) HS.out (by rfl) (by decide) _ (by rfl) (by simp), ((((Chg.refl w).alloc _).alloc _).alloc _).alloc _⟩
set_option maxRecDepth 100000 in
set_option maxHeartbeats 1000000 in
theorem star_any (S : Nat → Prop) (a : Tr) (w : World) (ca : List Value) (hS : ∀ b, S b → b < w.heap.size) (ha : Tree S w a ca) :
    Calls Tryz.prog 236 #[.agg ca.toArray] w (Makes S w (mkStar a)) := by
  obtain ⟨k1, l1, a1, n1, cap1, mn1, mx1, rfl⟩ := ha.form
  have HA := Lib.hid (Trees.cons ha Trees.nil)
  have HS := Lib.hid hS
  clear ha hS
  go_enter Tryz.func236, Tryz.ntmps236
  go_wp2_with fail
  go_returns
  exact ⟨_, rfl, HA.out.node (((Chg.refl w).alloc _).alloc _) HS.out (by rfl) (by decide) _ (by rfl) (by simp), (((Chg.refl w).alloc _).alloc _).alloc _⟩
set_option maxRecDepth 100000 in
set_option maxHeartbeats 1000000 in
theorem aStar_any (S : Nat → Prop) (a : Tr) (w : World) (ca : List Value) (hS : ∀ b, S b → b < w.heap.size) (ha : Tree S w a ca) :
    Calls Tryz.prog 25 #[.agg ca.toArray] w (Makes S w (mkStar a)) := by
  obtain ⟨k1, l1, a1, n1, cap1, mn1, mx1, rfl⟩ := ha.form
  have HA := Lib.hid (Trees.cons ha Trees.nil)
  have HS := Lib.hid hS
  clear ha hS
  go_enter Tryz.func25, Tryz.ntmps25
  go_wp2_with fail
  go_returns
  exact ⟨_, rfl, HA.out.node (((Chg.refl w).alloc _).alloc _) HS.out (by rfl) (by decide) _ (by rfl) (by simp), (((Chg.refl w).alloc _).alloc _).alloc _⟩
set_option maxRecDepth 100000 in
set_option maxHeartbeats 1000000 in
theorem aFwd_any (S : Nat → Prop) (l : ByteArray) (w : World) :
    Calls Tryz.prog 24 #[.string l] w (Makes S w (.node 2 l [] 0 0)) := by
  go_enter Tryz.func24, Tryz.ntmps24
  go_wp2_with fail
  go_returns
  exact ⟨_, rfl, Tree.leaf, (Chg.refl w).alloc _⟩
set_option maxRecDepth 100000 in
set_option maxHeartbeats 1000000 in
theorem maybe_any (S : Nat → Prop) (a : Tr) (w : World) (ca : List Value) (hS : ∀ b, S b → b < w.heap.size) (ha : Tree S w a ca) :
    Calls Tryz.prog 238 #[.agg ca.toArray] w (Makes S w (mkMaybe a)) := by
  obtain ⟨k1, l1, a1, n1, cap1, mn1, mx1, rfl⟩ := ha.form
  have H2 := Lib.hid (fun W (hW : Ext w W) (hp : w.heap.size + 1 < W.heap.size) => two_any (SP S (w.heap.size + 1)) 5 mkEps a W _ _ (SP.bound hS hp hW) Tree.leaf (ha.sp (by omega) hW))
  clear ha hS
  go_enter Tryz.func238, Tryz.ntmps238
  go_wp2_with fail
  refine (H2.out _ (((Chg.refl w).alloc _).alloc _) (by simp)).mono ?_
  rintro e w2 ⟨cs, rfl, ht, hx⟩
  obtain ⟨k3, l3, a3, n3, cap3, mn3, mx3, rfl⟩ := ht.form
  have kb := (Blk.new (w.alloc (.cells #[.int .i64 k1, .string l1, .slice a1 n1 cap1, .int .i64 mn1, .int .i64 mx1] 28)) #[.int .i64 0, .string ⟨#[]⟩, .slice none 0 0, .int .i64 0, .int .i64 0] 28).chg hx (fun h => h)
  simp only [World.size_alloc] at kb
  obtain ⟨g0, f0, g1, f1, g2, f2, g3, f3, g4, f4⟩ := blk5_base kb
  obtain ⟨y3, z3, y4, z4, q0, q1, q2, q3, q4⟩ := blk5_facts kb (.int .i64 k3) (.string l3) (.slice a3 n3 cap3) (.int .i64 mn3) (.int .i64 mx3)
  have HS5 := Lib.hid (blk5_step kb (.int .i64 k3) (.string l3) (.slice a3 n3 cap3) (.int .i64 mn3) (.int .i64 mx3)).2.2.2.2.2
  have HT := Lib.hid (And.intro ht ((((Chg.refl w).alloc _).alloc _).trans hx))
  clear ht hx kb
  go_wp2_with fail
  try simp only [Exit.inBlock, Exit.then]
  refine bodyPost_ret (results_cell_row rfl _ _ (w.heap.size + 1) 28 #[.int .i64 k3, .string l3, .slice a3 n3 cap3, .int .i64 mn3, .int .i64 mx3] (0, 0) _ rfl HS5.out Tryz.underlying28 rfl (by kernel_rfl)) rfl ?_
  exact ⟨_, rfl, (HT.out.1.put put5).off, Ext.put HT.out.2 put5 (by omega)⟩
end Go.Proofs.YtkhllknahjmciaaGreat

/-! Plain paths (chapter 9): rows. -/
namespace Go.Proofs.YtkhllknahjmciaaGreat
open Go.RowKit
set_option linter.unusedVariables false
set_option linter.unusedSimpArgs false

/-- Paths as one. -/
def mkRow (k : Int) : List Tr → Tr
  | [] => mkEps
  | [t] => t
  | t :: u :: ts => mkTwo k t (mkRow k (u :: ts))
theorem mkRow_last {k : Int} {ts : List Tr} {n : Nat} {t : Tr} (h : ts[n]? = some t) (hn : ts.length = n + 1) : mkRow k (ts.drop n) = t := by
  obtain ⟨hi, rfl⟩ := List.getElem?_eq_some_iff.1 h
  rw [List.drop_eq_getElem_cons hi, show ts.drop (n + 1) = [] by rw [← hn]; exact drop_end ts, mkRow]
theorem mkRow_drop {k : Int} {ts : List Tr} {i : Nat} {t : Tr} (h : ts[i]? = some t) (hn : i + 1 < ts.length) : mkRow k (ts.drop i) = mkTwo k t (mkRow k (ts.drop (i + 1))) := by
  obtain ⟨hi, rfl⟩ := List.getElem?_eq_some_iff.1 h
  rw [List.drop_eq_getElem_cons hi, List.drop_eq_getElem_cons hn, mkRow]
/-- The path in its place. -/
theorem tree_at {S : Nat → Prop} {w : World} {a : Option Addr} {n cap : Nat} {css : List (List Value)} {kids : List Tr} (hc : Cells w a n cap (List.flatten css)) (ht : Trees S w kids css) {i : Nat} {t : Tr} (hi : kids[i]? = some t) :
    ∃ x k l a' n' cap' mn mx, a = some x ∧ Tree S w t [.int .i64 k, .string l, .slice a' n' cap', .int .i64 mn, .int .i64 mx] ∧ w.cell? (x.add (i * 5)) = some (.int .i64 k) ∧ w.cell? { block := (x.add (i * 5)).block, off := (x.add (i * 5)).off + 1 } = some (.string l) ∧ w.cell? { block := (x.add (i * 5)).block, off := (x.add (i * 5)).off + 2 } = some (.slice a' n' cap') ∧ w.cell? { block := (x.add (i * 5)).block, off := (x.add (i * 5)).off + 3 } = some (.int .i64 mn) ∧ w.cell? { block := (x.add (i * 5)).block, off := (x.add (i * 5)).off + 4 } = some (.int .i64 mx) := by
  have h5 := ht.trcs.get.1
  obtain ⟨c, hc1, hc2⟩ := ht.get hi
  obtain ⟨k, l, a', n', cap', mn, mx, rfl⟩ := hc2.form
  have key : ∀ j u, ([Value.int .i64 k, .string l, .slice a' n' cap', .int .i64 mn, .int .i64 mx] : List Value)[j]? = some u → ∃ x, a = some x ∧ w.cell? (x.add (i * 5 + j)) = some u := fun j u hu => hc.at _ u (flat_get 5 css i j _ u h5 hc1 hu)
  obtain ⟨x, rfl, k0⟩ := key 0 _ rfl
  obtain ⟨x1, e1, k1⟩ := key 1 _ rfl
  obtain ⟨x2, e2, k2⟩ := key 2 _ rfl
  obtain ⟨x3, e3, k3⟩ := key 3 _ rfl
  obtain ⟨x4, e4, k4⟩ := key 4 _ rfl
  cases e1; cases e2; cases e3; cases e4
  rw [add_off _ _ _ (by decide)] at k1 k2 k3 k4
  exact ⟨x, k, l, a', n', cap', mn, mx, rfl, hc2, k0, k1, k2, k3, k4⟩
set_option maxRecDepth 100000 in
set_option maxHeartbeats 1000000 in
theorem row_any (S : Nat → Prop) (k : Int) (ts : List Tr) (w : World) (a : Option Addr) (m cap : Nat) (css : List (List Value)) (hm : ts.length = m) (hS : ∀ b, S b → b < w.heap.size) (hc : Cells w a m cap css.flatten) (ht : Trees S w ts css) :
    Calls Tryz.prog 235 #[.int .i64 k, .slice a m cap] w (Makes S w (mkRow k ts)) := by
  have hcap := hc.1
  have hmax := hc.2.1
  unfold maxLen at hmax
  cases m with
  | zero =>
    obtain rfl := List.length_eq_zero_iff.1 hm
    clear hc ht
    go_enter Tryz.func235, Tryz.ntmps235
    go_wp2_with fail
    go_returns
    exact ⟨_, rfl, Tree.leaf, (Chg.refl w).alloc _⟩
  | succ n =>
    obtain ⟨T, hT⟩ : ∃ T, mkRow k ts = T := ⟨_, rfl⟩
    rw [hT]
    have H2 := Lib.hid (fun b c wr ca cb (hx : Ext w wr) (hp : w.heap.size + 1 < wr.heap.size) ha hb => two_any (SP (SP S w.heap.size) (w.heap.size + 1)) k b c wr ca cb (SP.bound (SP.bound hS (by omega) hx) hp (Chg.refl _)) ha hb)
    have HK := Lib.hid (And.intro hc (And.intro ht (And.intro hm hT)))
    obtain ⟨u, hu⟩ : ∃ u, ts[n]? = some u := ⟨_, List.getElem?_eq_getElem (by omega)⟩
    obtain ⟨x, ku, lu, au, nu, cu, mnu, mxu, rfl, htu, c0, c1, c2, c3, c4⟩ := tree_at (hc.ext ((Chg.refl w).alloc (.cells #[.int .i64 0, .string ⟨#[]⟩, .slice none 0 0, .int .i64 0, .int .i64 0] 28))) (ht.sp (Nat.le_refl _) ((Chg.refl w).alloc (.cells #[.int .i64 0, .string ⟨#[]⟩, .slice none 0 0, .int .i64 0, .int .i64 0] 28))) hu
    have HU := Lib.hid (And.intro htu hm)
    have en : ((n : Int) + 1 - 1) = n := by omega
    have HT := Lib.hid (mkRow_last (k := k) hu hm)
    clear hc ht htu hu hT hm hS
    go_enter Tryz.func235, Tryz.ntmps235
    go_wp2_with fail
    go_loopg [6] n (fun g l6 wr => ∃ (j : Nat) (v : Int) (cs : List Value), j ≤ n ∧ v = (j : Int) - 1 ∧ Ext w wr ∧ Blk wr w.heap.size #[.int .i64 0, .string ⟨#[]⟩, .slice none 0 0, .int .i64 0, .int .i64 0] 28 ∧ Blk wr (w.heap.size + 1) cs.toArray 28 ∧ Tree (SP (SP S w.heap.size) (w.heap.size + 1)) wr (mkRow k (ts.drop j)) cs ∧ l6 = .int .i64 v ∧ g = j)
    case atStart =>
      have b4 : Blk (w.alloc (.cells #[.int .i64 0, .string ⟨#[]⟩, .slice none 0 0, .int .i64 0, .int .i64 0] 28)) w.heap.size #[.int .i64 0, .string ⟨#[]⟩, .slice none 0 0, .int .i64 0, .int .i64 0] 28 := Blk.new _ _ _
      have b5 := Blk.new (w.alloc (.cells #[.int .i64 0, .string ⟨#[]⟩, .slice none 0 0, .int .i64 0, .int .i64 0] 28)) #[.int .i64 ku, .string lu, .slice au nu cu, .int .i64 mnu, .int .i64 mxu] 28
      simp only [World.size_alloc] at b5
      have kx : Ext (w.alloc (.cells #[.int .i64 0, .string ⟨#[]⟩, .slice none 0 0, .int .i64 0, .int .i64 0] 28)) ((w.alloc (.cells #[.int .i64 0, .string ⟨#[]⟩, .slice none 0 0, .int .i64 0, .int .i64 0] 28)).alloc (.cells #[.int .i64 ku, .string lu, .slice au nu cu, .int .i64 mnu, .int .i64 mxu] 28)) := (Chg.refl _).alloc _
      exact ⟨n, (n : Int) + 1 - 2, [.int .i64 ku, .string lu, .slice au nu cu, .int .i64 mnu, .int .i64 mxu], Nat.le_refl _, by omega, ((Chg.refl w).alloc _).alloc _, b4.chg kx (fun h => h), b5, by rw [HT.out]; exact HU.out.1.sp (by simp) kx, rfl, rfl⟩
    case round =>
      obtain ⟨j, v, cs, hj, hv, hx, hb4, hb5, ht, rfl, rfl⟩ := hrel
      clear c0 c1 c2 c3 c4
      cases gk with
      | zero =>
        have hv0 : decide (0 ≤ v) = false := by simp; omega
        have hv1 : ¬ 0 ≤ v := by omega
        clear hv
        rw [List.drop_zero, HK.out.2.2.2] at ht
        obtain ⟨k3, l3, a3, n3, cap3, mn3, mx3, rfl⟩ := ht.form
        have kd : Blk wr (w.heap.size + 1) #[.int .i64 k3, .string l3, .slice a3 n3 cap3, .int .i64 mn3, .int .i64 mx3] 28 := hb5
        obtain ⟨x0, -, x1, -, x2, -, x3, -, x4, -⟩ := blk5_base kd
        obtain ⟨g0, f0, g1, f1, g2, f2, g3, f3, g4, f4⟩ := blk5_base hb4
        obtain ⟨y3, z3, y4, z4, q0, q1, q2, q3, q4⟩ := blk5_facts hb4 (.int .i64 k3) (.string l3) (.slice a3 n3 cap3) (.int .i64 mn3) (.int .i64 mx3)
        have HS5 := Lib.hid (blk5_step hb4 (.int .i64 k3) (.string l3) (.slice a3 n3 cap3) (.int .i64 mn3) (.int .i64 mx3)).2.2.2.2.2
        have HT2 := Lib.hid (And.intro ht.off hx)
        clear ht hx hb4 hb5 kd
        go_wp2_with fail
        try simp only [Exit.inBlock, Exit.then]
        refine bodyPost_ret (results_cell_row rfl _ _ (w.heap.size) 28 #[.int .i64 k3, .string l3, .slice a3 n3 cap3, .int .i64 mn3, .int .i64 mx3] (0, 0) _ rfl HS5.out Tryz.underlying28 rfl (by kernel_rfl)) rfl ?_
        exact ⟨_, rfl, (HT2.out.1.put put5).off, Ext.put HT2.out.2 put5 (Nat.le_refl _)⟩
      | succ i =>
        obtain rfl : v = i := by omega
        obtain ⟨t, hu⟩ : ∃ u, ts[i]? = some u := ⟨_, List.getElem?_eq_getElem (by have := HK.out.2.2.1; omega)⟩
        obtain ⟨x', k6, l6, a6, n6, cap6, mn6, mx6, ex, htu, c0, c1, c2, c3, c4⟩ := tree_at (HK.out.1.ext hx) (((HK.out.2.1.sp (Nat.le_refl _) (Chg.refl _)).mono (T := SP (SP S w.heap.size) (w.heap.size + 1)) (fun b hb hs => hs.resolve_right (by omega))).ext hx) hu
        cases ex
        obtain ⟨k3, l3, a3, n3, cap3, mn3, mx3, rfl⟩ := ht.form
        have kd : Blk wr (w.heap.size + 1) #[.int .i64 k3, .string l3, .slice a3 n3 cap3, .int .i64 mn3, .int .i64 mx3] 28 := hb5
        obtain ⟨x0, -, x1, -, x2, -, x3, -, x4, -⟩ := blk5_base kd
        have HC := Lib.hid (H2.out t _ wr.drew _ _ hx.drew kd.lt (htu.ext (Chg.refl wr).drew) (ht.ext (Chg.refl wr).drew))
        have HR := Lib.hid (mkRow_drop (k := k) hu (by have := HK.out.2.2.1; omega))
        have HX := Lib.hid (And.intro hx (And.intro hb4 kd))
        clear ht htu hu hx hb4 hb5 kd
        clear hv
        have hin' : (i : Int) < ((n + 1 : Nat) : Int) := by omega
        have hin2 : (i : Int) < (n : Int) + 1 := by omega
        have hin3 : i < n + 1 := by omega
        have hin0 : (0 : Int) ≤ i := by omega
        go_wp2_with fail
        refine wp_region_still_tail 6 (by kernel_rfl) (by kernel_rfl) ?_
        simp only [List.take_succ_cons, List.take_zero, List.drop_succ_cons, List.drop_zero]
        change wpStill _ _ wr.drew _ _ _
        repeat still_step
        refine wpStill_nil ?_
        change wpList _ _ _ _ _ wr.drew
        go_wp2_with fail
        refine HC.out.mono ?_
        rintro e w2 ⟨cs2, rfl, ht, hx2⟩
        obtain ⟨k7, l7, a7, n7, cap7, mn7, mx7, rfl⟩ := ht.form
        have kx : Ext wr w2 := (Chg.refl wr).drew.trans hx2
        have kb := HX.out.2.2.chg kx (fun h => h)
        clear x0 x1 x2 x3 x4 c0 c1 c2 c3 c4
        obtain ⟨g0, f0, g1, f1, g2, f2, g3, f3, g4, f4⟩ := blk5_base kb
        obtain ⟨y3, z3, y4, z4, q0, q1, q2, q3, q4⟩ := blk5_facts kb (.int .i64 k7) (.string l7) (.slice a7 n7 cap7) (.int .i64 mn7) (.int .i64 mx7)
        have HS5 := Lib.hid (blk5_step kb (.int .i64 k7) (.string l7) (.slice a7 n7 cap7) (.int .i64 mn7) (.int .i64 mx7)).2.2.2.2.2
        rw [← HR.out] at ht
        have HT2 := Lib.hid (And.intro ht kx)
        clear ht hx2 kx kb
        go_wp2_with fail
        go_roundg i
        case measure => omega
        case rel => exact ⟨i, (i : Int) - 1, _, by omega, rfl, Ext.put (HX.out.1.trans HT2.out.2) put5 (by omega), (HX.out.2.1.chg HT2.out.2 (fun h => h)).chg put5 (by omega), HS5.out, HT2.out.1.put put5, rfl, rfl⟩
end Go.Proofs.YtkhllknahjmciaaGreat

/-! Plain paths (chapter 9): in memory of their own. -/
namespace Go.Proofs.YtkhllknahjmciaaGreat
open Go.RowKit
set_option linter.unusedVariables false
set_option linter.unusedSimpArgs false

theorem info_path : (Tryz.prog.info? 28).map (fun i => (i.zero, i.size, i.bytes)) = some (some (.agg #[.int .i64 0, .string ⟨#[]⟩, .slice none 0 0, .int .i64 0, .int .i64 0]), 5, 64) := by kernel_rfl
theorem own_set {w : World} {base : Nat} {e : TypeId} {size g n cap : Nat} {xs : List Value} (h : w.ownsRow base e size (.slice (some ⟨g, 0, none⟩) n cap) n xs) (j : Nat) (u : Value) : (w.setCell ⟨g, j, none⟩ u).ownsRow base e size (.slice (some ⟨g, 0, none⟩) n cap) n (xs.set j u) := by
  rcases h.2 with ⟨hv, _⟩ | ⟨g', cap', cur, hv, h1, h2, h3, h4, h5, h6⟩
  · cases hv
  · cases hv
    refine ⟨by rw [List.length_set]; exact h.1, .inr ⟨g, cap, cur.setIfInBounds j u, rfl, h1, Blk.set h2 j u, h3, h4, by rw [Array.size_setIfInBounds]; exact h5, ?_⟩⟩
    rw [Array.toList_setIfInBounds, List.take_set, h6]
theorem five_of {c : List Value} (h : c.length = 5) : ∃ a0 a1 a2 a3 a4, c = [a0, a1, a2, a3, a4] := by
  match c, h with
  | [a0, a1, a2, a3, a4], _ => exact ⟨a0, a1, a2, a3, a4, rfl⟩
theorem flat_set (c0 c1 c2 c3 c4 : Value) : ∀ (ds : List (List Value)) (i : Nat), (∀ c ∈ ds, c.length = 5) → i < ds.length → ((((ds.flatten.set (i * 5) c0).set (i * 5 + 1) c1).set (i * 5 + 2) c2).set (i * 5 + 3) c3).set (i * 5 + 4) c4 = (ds.set i [c0, c1, c2, c3, c4]).flatten
  | [], i, _, hi => by simp at hi
  | d :: ds, 0, h5, _ => by
    obtain ⟨a0, a1, a2, a3, a4, rfl⟩ := five_of (h5 d (by simp))
    simp
  | d :: ds, i + 1, h5, hi => by
    have hd := h5 d (by simp)
    have ih := flat_set c0 c1 c2 c3 c4 ds i (fun c hc => h5 c (by simp [hc])) (by simpa using hi)
    have key : ∀ (l : List Value) (j : Nat) (u : Value), (d ++ l).set ((i + 1) * 5 + j) u = d ++ l.set (i * 5 + j) u := by
      intro l j u
      rw [List.set_append_right _ _ (by rw [hd]; omega), hd]
      congr 2; omega
    have k0 : (d ++ ds.flatten).set ((i + 1) * 5) c0 = d ++ ds.flatten.set (i * 5) c0 := key ds.flatten 0 c0
    rw [List.flatten_cons, k0, key, key, key, key, ih, List.set_cons_succ, List.flatten_cons]
theorem Trees.set {S : Nat → Prop} {w : World} {t : Tr} {c : List Value} (hc : Tree S w t c) : ∀ {ts : List Tr} {ds : List (List Value)} {i : Nat}, Trees S w ts ds → ts[i]? = some t → Trees S w ts (ds.set i c)
  | [], ds, i, _, hi => by simp at hi
  | u :: us, ds, i, h, hi => by
    obtain ⟨d, ds', rfl, h1, h2⟩ := TrCs_cons.1 h.trcs
    have key : ∀ w2, Chg S w w2 → TrC w2 u d ∧ TrCs w2 us ds' := by
      intro w2 hw
      obtain ⟨c', cs', e, h1, h2⟩ := TrCs_cons.1 (h w2 hw)
      cases e
      exact ⟨h1, h2⟩
    cases i with
    | zero =>
      obtain rfl : u = t := by simpa using hi
      exact Trees.cons hc (fun w2 hw => (key w2 hw).2)
    | succ i => exact Trees.cons (fun w2 hw => (key w2 hw).1) (Trees.set hc (fun w2 hw => (key w2 hw).2) (by simpa using hi))
theorem flat_len {ds : List (List Value)} (h5 : ∀ c ∈ ds, c.length = 5) : ds.flatten.length = ds.length * 5 := by
  induction ds with
  | nil => rfl
  | cons d ds ih => rw [List.flatten_cons, List.length_append, h5 d (by simp), ih (fun c hc => h5 c (by simp [hc])), List.length_cons]; omega
theorem Trees.length {S : Nat → Prop} {w : World} : ∀ {ts : List Tr} {ds : List (List Value)}, Trees S w ts ds → ds.length = ts.length
  | [], ds, h => by obtain rfl := TrCs_nil.1 h.trcs; rfl
  | u :: us, ds, h => by
    obtain ⟨d, ds', rfl, h1, h2⟩ := TrCs_cons.1 h.trcs
    have key : Trees S w us ds' := by
      intro w2 hw
      obtain ⟨c', cs', e, h1, h2⟩ := TrCs_cons.1 (h w2 hw)
      cases e
      exact h2
    rw [List.length_cons, List.length_cons, key.length]
set_option maxRecDepth 100000 in
set_option maxHeartbeats 1000000 in
theorem pclone_any (ds : List (List Value)) (w : World) (a : Option Addr) (m cap : Nat) (hm : ds.length = m) (h5 : ∀ c ∈ ds, c.length = 5) (hc : Cells w a m cap ds.flatten) (h1 : ∀ u ∈ ds.flatten, u.oneCell' = true) (hb : m ≤ 1000) :
    Calls Tryz.prog 234 #[.slice a m cap] w fun e w' => ∃ v', e = .returned v' ∧ w'.ownsRow w.heap.size 28 5 v' m ds.flatten ∧ Ext w w' := by
  have q22 := fun (w : World) (a : Option Addr) (n c n' c' : Nat) => Lib.run_eql_slice_nil (P := Tryz.prog) w 26 _ a n c n' c' Tryz.underlying26
  have hfl := flat_len h5
  rw [hm] at hfl
  cases a with
  | none =>
    have h0 : m = 0 := by
      rcases Nat.eq_zero_or_pos m with h | h
      · exact h
      · obtain ⟨u, hu⟩ : ∃ u, ds.flatten[0]? = some u := ⟨_, List.getElem?_eq_getElem (by omega)⟩
        obtain ⟨x, e, -⟩ := hc.at 0 u hu
        cases e
    subst h0
    obtain rfl := List.length_eq_zero_iff.1 hm
    clear hc hm h5 hfl h1
    go_enter Tryz.func234, Tryz.ntmps234
    go_wp2_with fail
    go_ret
    exact ⟨_, rfl, World.ownsRow_nil _ _ _ _, Chg.refl _⟩
  | some x =>
    obtain ⟨i0, hi0, hii⟩ := Option.map_eq_some_iff.1 info_path
    obtain ⟨hz0, hz1, hz2⟩ : i0.zero = some (.agg #[.int .i64 0, .string ⟨#[]⟩, .slice none 0 0, .int .i64 0, .int .i64 0]) ∧ i0.size = 5 ∧ i0.bytes = 64 := by
      have := hii; simp at this; exact this
    have HI := Lib.hid (And.intro hi0 (And.intro hz0 (And.intro hz1 hz2)))
    have HC := Lib.hid (And.intro hc (And.intro hfl h1))
    clear hi0 hii hz0 hz1 hz2 hc hm h5 hfl h1
    go_enter Tryz.func234, Tryz.ntmps234
    go_wp2_with (at_builtin; refine wpList_append_st _ rfl (.tmp 5) (.tmp 6) 26 rfl w.heap.size 28 i0 (.agg #[.int .i64 0, .string ⟨#[]⟩, .slice none 0 0, .int .i64 0, .int .i64 0]) 5 64 Tryz.underlying26 HI.out.1 HI.out.2.1 HI.out.2.2.1 HI.out.2.2.2 rfl (by decide) _ 0 [] rfl (World.ownsRow_made w #[] 0 (Nat.le_refl _) (Nat.zero_le _) rfl) x m cap ds.flatten rfl HC.out.2.1 (fun j u hj => by obtain ⟨y, e, hy⟩ := (HC.out.1.ext ((Chg.refl w).alloc _)).at j u hj; cases e; exact hy) HC.out.2.2 (by unfold maxLen; omega) (by omega) (by simp) ?_; intro v' w' u1 u2 u3; have HF := Lib.hid (And.intro u1 (And.intro u2 u3)); clear u1 u2 u3)
    go_wp2_with fail
    go_ret
    obtain ⟨u1, u2, u3⟩ := HF.out
    refine ⟨v', rfl, by simpa using u1, ?_⟩
    exact Ext.put (p := w.heap.size) ((Chg.refl w).alloc _) ((Chg.of_grown u2).mono fun b hb e => by have e2 : some b = some w.heap.size := e; simpa using e2) (Nat.le_refl _)
end Go.Proofs.YtkhllknahjmciaaGreat
