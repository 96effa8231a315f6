/-
  How much a path has within (for what is looked at). Paths (chapter 7): how deep, of those that may be. Paths (chapter 7): those that may be are let pass. Paths (chapter 7): all of one; small ones. Paths (chapter 7): how great, of small ones; and the check lets them pass.
-/
import Derived.Test.YtkhllknahjmciaaGreatM03
/-! How much a path has within (for what is looked at). -/
namespace Go.Proofs.YtkhllknahjmciaaGreat
open Go.RowKit
set_option linter.unusedVariables false
set_option linter.unusedSimpArgs false

theorem sumH_le (ms : List Int) : ∀ n : Int, 0 ≤ n → n ≤ 1099511627776 → (∀ m ∈ ms, 0 ≤ m) → 0 ≤ sumH n ms ∧ sumH n ms ≤ 1099511627776 := by
  induction ms with
  | nil => intro n h0 h1 _; rw [sumH]; exact ⟨h0, h1⟩
  | cons m ms ih =>
    intro n h0 h1 hm
    rw [sumH]
    have := hm m (by simp)
    split
    · omega
    · exact ih _ (by omega) (by omega) (fun x hx => hm x (by simp [hx]))
mutual
def wgt : Tr → Int → Int
  | .node _ l kids _ _, d => if 60 < d then 1099511627776 else wgts kids d (sumH 1 [(l.size : Int)])
def wgts : List Tr → Int → Int → Int
  | [], _, n => n
  | t :: ts, d, n => if n < 10000 then wgts ts d (sumH n [wgt t (d + 1)]) else n
end
theorem wgts_drop {kids : List Tr} {i : Nat} {t : Tr} (h : kids[i]? = some t) (d n : Int) : wgts (kids.drop i) d n = if n < 10000 then wgts (kids.drop (i + 1)) d (sumH n [wgt t (d + 1)]) else n := by
  obtain ⟨hi, rfl⟩ := List.getElem?_eq_some_iff.1 h
  rw [List.drop_eq_getElem_cons hi, wgts]
theorem wgt_le (t : Tr) (d : Int) : 0 ≤ wgt t d ∧ wgt t d ≤ 1099511627776 := by
  refine Tr.rec (motive_1 := fun t => ∀ d, 0 ≤ wgt t d ∧ wgt t d ≤ 1099511627776) (motive_2 := fun ts => ∀ d n, 0 ≤ n → n ≤ 1099511627776 → 0 ≤ wgts ts d n ∧ wgts ts d n ≤ 1099511627776) ?_ ?_ ?_ t d
  · intro k l kids mn mx ih d
    rw [wgt]
    split
    · omega
    · have := sumH_le [(l.size : Int)] 1 (by omega) (by omega) (by intro m hm; simp at hm; omega)
      exact ih _ _ this.1 this.2
  · intro d n h0 h1
    rw [wgts]; exact ⟨h0, h1⟩
  · intro t ts ih1 ih2 d n h0 h1
    rw [wgts]
    split
    · have := sumH_le [wgt t (d + 1)] n h0 h1 (by intro m hm; simp at hm; rw [hm]; exact (ih1 _).1)
      exact ih2 _ _ this.1 this.2
    · exact ⟨h0, h1⟩
/-- A sum of two, where the second has just been laid. -/
theorem sum1_any (n m : Int) (w : World) (h0 : 0 ≤ n) (h1 : n ≤ 1099511627776) (hm : 0 ≤ m) :
    Calls Tryz.prog 78 #[.int .i64 n, .slice (some ⟨w.heap.size, 0, none⟩) 1 1] (w.alloc (.cells #[.int .i64 m] 3)) fun e w' => e = .returned (.int .i64 (sumH n [m])) ∧ w' = (w.alloc (.cells #[.int .i64 m] 3)) :=
  sum_any n [m] _ (some ⟨w.heap.size, 0, none⟩) 1 ⟨Nat.le_refl _, by unfold maxLen; simp, fun j u hu => ⟨_, rfl, news w [.int .i64 m] 3 j u hu⟩⟩ h0 h1 (by intro x hx; simp at hx; omega)
set_option maxRecDepth 100000 in
set_option maxHeartbeats 1000000 in
theorem wgt_any (t : Tr) (w : World) (cs : List Value) (d : Int) (h : TrC w t cs) (h0 : 0 ≤ d) (h1 : d ≤ 100) :
    Calls Tryz.prog 40 #[.agg cs.toArray, .int .i64 d] w fun e w' => e = .returned (.int .i64 (wgt t d)) ∧ Ext w w' := by
  induction t using Tr.ind generalizing w cs d with
  | node k l kids mn mx ih =>
    obtain ⟨a, cap, css, rfl, hc, ht⟩ := TrC_node.1 h
    have hb := Blk.new w #[.int .i64 k, .string l, .slice a kids.length cap, .int .i64 mn, .int .i64 mx] 28
    have hw1 : Ext w (w.alloc (.cells #[.int .i64 k, .string l, .slice a kids.length cap, .int .i64 mn, .int .i64 mx] 28)) := (Chg.refl w).alloc _
    have hcap := hc.1
    have hmax := hc.2.1
    unfold maxLen at hmax
    obtain ⟨R, hR⟩ : ∃ R, wgt (.node k l kids mn mx) d = R := ⟨_, rfl⟩
    rw [hR]
    rw [wgt] at hR
    have HI := Lib.hid ih
    have hs0 := sumH_le [(l.size : Int)] 1 (by omega) (by omega) (by intro m hm; simp at hm; omega)
    clear ih
    have HK := Lib.hid (And.intro hc ht)
    have HB := Lib.hid (And.intro hb hw1)
    clear hc ht hb hw1 h
    obtain ⟨m, hm⟩ : ∃ m, kids.length = m := ⟨_, rfl⟩
    rw [hm] at HB hcap ⊢
    have HM := Lib.hid hm
    clear hm
    have HS := Lib.hid (sum1_any 1 l.size (w.alloc (.cells #[.int .i64 k, .string l, .slice a m cap, .int .i64 mn, .int .i64 mx] 28)) (by omega) (by omega) (by omega))
    obtain ⟨s, hs⟩ : ∃ s, sumH 1 [(l.size : Int)] = s := ⟨_, rfl⟩
    rw [hs] at HS hR hs0
    clear hs
    simp only [World.size_alloc] at HS
    by_cases h60 : 60 < d
    · have e1 : decide (60 < d) = true := by simpa using h60
      rw [if_pos h60] at hR
      subst hR
      clear h60
      go_enter Tryz.func40, Tryz.ntmps40
      go_wp2_with fail
      refine HS.out.mono ?_
      rintro e w' ⟨rfl, rfl⟩
      go_wp2_with fail
      go_ret
      exact ⟨rfl, HB.out.2.alloc _⟩
    · have e1 : decide (60 < d) = false := by simpa using h60
      rw [if_neg h60] at hR
      have HR := Lib.hid hR
      have h60' : d ≤ 60 := by omega
      clear hR h60
      go_enter Tryz.func40, Tryz.ntmps40
      go_wp2_with fail
      refine HS.out.mono ?_
      rintro e w' ⟨rfl, rfl⟩
      go_wp2_with fail
      go_loopg [5, 6] m (fun g l5 l6 wr => ∃ (i : Nat) (n : Int), i ≤ m ∧ Ext (w.alloc (.cells #[.int .i64 k, .string l, .slice a m cap, .int .i64 mn, .int .i64 mx] 28)) wr ∧ wgts (kids.drop i) d n = R ∧ 0 ≤ n ∧ n ≤ 1099511627776 ∧ l5 = .int .i64 n ∧ l6 = .int .i64 i ∧ g = m - i)
      case atStart => exact ⟨0, s, Nat.zero_le _, (Chg.refl _).alloc _, HR.out, hs0.1, hs0.2, rfl, rfl, rfl⟩
      case round =>
        obtain ⟨i, n, hi, hx, hr, hn0, hn1, rfl, rfl, rfl⟩ := hrel
        have HX := Lib.hid hx
        have k2 := (HB.out.1.chg hx (fun h => h)).cell 2 _ rfl
        by_cases hin : i < m
        · have hin' : (i : Int) < m := by omega
          obtain ⟨u, hu⟩ : ∃ u, kids[i]? = some u := ⟨_, List.getElem?_eq_getElem (by rw [HM.out]; exact hin)⟩
          obtain ⟨x, ku, lu, au, nu, cu, mnu, mxu, rfl, htu, c0, c1, c2, c3, c4⟩ := kid_at (HK.out.1.ext (HB.out.2.trans hx)) (HK.out.2.ext (HB.out.2.trans hx) _ _) hu
          rw [wgts_drop hu] at hr
          by_cases hn : n < 10000
          · have e2 : decide (n < 10000) = true := by simpa using hn
            rw [if_pos hn] at hr
            have hd0 := wgt_le u (d + 1)
            have HC := Lib.hid (HI.out u (List.mem_of_getElem? hu) wr _ (d + 1) htu (by omega) (by omega))
            obtain ⟨z, hz⟩ : ∃ z, wgt u (d + 1) = z := ⟨_, rfl⟩
            rw [hz] at HC hr hd0
            have hq0 := sumH_le [z] n hn0 hn1 (by intro y hy; rw [List.mem_singleton.1 hy]; exact hd0.1)
            have HS2 := Lib.hid (fun W => sum1_any n z W hn0 hn1 hd0.1)
            obtain ⟨q, hq⟩ : ∃ q, sumH n [z] = q := ⟨_, rfl⟩
            rw [hq] at HS2 hr hq0
            have HR2 := Lib.hid hr
            clear hx hr hu htu hz hq hd0 hn
            go_wp2_with fail
            refine HC.out.mono ?_
            rintro e w2 ⟨rfl, hx2⟩
            have HX2 := Lib.hid (HX.out.trans hx2)
            clear hx2
            go_wp2_with fail
            refine (HS2.out _).mono ?_
            rintro e w' ⟨rfl, rfl⟩
            go_wp2_with fail
            go_roundg (m - (i + 1))
            case measure => omega
            case rel => exact ⟨i + 1, q, by omega, HX2.out.alloc _, HR2.out, hq0.1, hq0.2, rfl, rfl, rfl⟩
          · have e2 : decide (n < 10000) = false := by simpa using hn
            rw [if_neg hn] at hr
            subst hr
            clear hx hu htu hn
            go_wp2_with fail
            go_ret
            exact ⟨rfl, HB.out.2.trans HX.out⟩
        · obtain rfl : i = m := by omega
          rw [← HM.out, drop_end] at hr
          rw [wgts] at hr
          subst hr
          go_wp2_with fail
          go_ret
          exact ⟨rfl, HB.out.2.trans HX.out⟩
end Go.Proofs.YtkhllknahjmciaaGreat

/-! Paths (chapter 7): how deep, of those that may be. -/
namespace Go.Proofs.YtkhllknahjmciaaGreat
open Go.RowKit
set_option linter.unusedVariables false
set_option linter.unusedSimpArgs false

mutual
def hgt : Tr → Int
  | .node _ _ kids _ _ => hgts kids 0 + 1
def hgts : List Tr → Int → Int
  | [], o => o
  | t :: ts, o => hgts ts (max o (hgt t))
end
theorem hgts_drop {kids : List Tr} {i : Nat} {t : Tr} (h : kids[i]? = some t) (o : Int) : hgts (kids.drop i) o = hgts (kids.drop (i + 1)) (max o (hgt t)) := by
  obtain ⟨hi, rfl⟩ := List.getElem?_eq_some_iff.1 h
  rw [List.drop_eq_getElem_cons hi, hgts]
theorem hgts_ge : ∀ (ts : List Tr) (o : Int), o ≤ hgts ts o
  | [], o => by rw [hgts]; omega
  | t :: ts, o => by rw [hgts]; have := hgts_ge ts (max o (hgt t)); omega
theorem hgts_mem : ∀ (ts : List Tr) (o : Int) (t : Tr), t ∈ ts → hgt t ≤ hgts ts o
  | [], _, _, h => by simp at h
  | u :: ts, o, t, h => by
    rw [hgts]
    rcases List.mem_cons.1 h with rfl | h
    · have := hgts_ge ts (max o (hgt t)); omega
    · exact hgts_mem ts _ t h
theorem hgt_pos (t : Tr) : 1 ≤ hgt t := by
  obtain ⟨k, l, kids, mn, mx⟩ := t
  rw [hgt]; have := hgts_ge kids 0; omega
theorem hgt_kid {k mn mx : Int} {l : ByteArray} {kids : List Tr} {u : Tr} (h : u ∈ kids) : hgt u + 1 ≤ hgt (.node k l kids mn mx) := by
  rw [hgt]; have := hgts_mem kids 0 u h; omega
set_option maxRecDepth 100000 in
set_option maxHeartbeats 1000000 in
theorem pdeep_any (t : Tr) (w : World) (cs : List Value) (at' : Int) (h : TrC w t cs) (h0 : 1 ≤ at') (h1 : at' + hgt t ≤ 41) :
    Calls Tryz.prog 135 #[.agg cs.toArray, .int .i64 at'] w fun e w' => e = .returned (.int .i64 (hgt t)) ∧ Ext w w' := by
  induction t using Tr.ind generalizing w cs at' with
  | node k l kids mn mx ih =>
    obtain ⟨a, cap, css, rfl, hc, ht⟩ := TrC_node.1 h
    have hb := Blk.new w #[.int .i64 k, .string l, .slice a kids.length cap, .int .i64 mn, .int .i64 mx] 28
    have hw1 : Ext w (w.alloc (.cells #[.int .i64 k, .string l, .slice a kids.length cap, .int .i64 mn, .int .i64 mx] 28)) := (Chg.refl w).alloc _
    have hcap := hc.1
    have hmax := hc.2.1
    unfold maxLen at hmax
    obtain ⟨R, hR⟩ : ∃ R, hgts kids 0 = R := ⟨_, rfl⟩
    have hp := hgt_pos (.node k l kids mn mx)
    have hkid : ∀ u ∈ kids, hgt u + 1 ≤ hgt (.node k l kids mn mx) := fun u hu => hgt_kid hu
    rw [hgt, hR] at hkid h1 hp ⊢
    have HI := Lib.hid (And.intro ih (And.intro hkid hR))
    clear ih hkid hR
    have HK := Lib.hid (And.intro hc ht)
    have HB := Lib.hid (And.intro hb hw1)
    clear hc ht hb hw1 h
    obtain ⟨m, hm⟩ : ∃ m, kids.length = m := ⟨_, rfl⟩
    rw [hm] at HB hcap ⊢
    have HM := Lib.hid hm
    clear hm
    have e1 : decide (40 < at') = false := by simp; omega
    go_enter Tryz.func135, Tryz.ntmps135
    go_wp2_with fail
    go_loopg [5, 7, 13] m (fun g l5 l7 l13 wr => ∃ (i : Nat) (o : Int), i ≤ m ∧ Ext (w.alloc (.cells #[.int .i64 k, .string l, .slice a m cap, .int .i64 mn, .int .i64 mx] 28)) wr ∧ hgts (kids.drop i) o = R ∧ 0 ≤ o ∧ l5 = .int .i64 o ∧ l13 = .int .i64 i ∧ g = m - i)
    case atStart => exact ⟨0, 0, Nat.zero_le _, Chg.refl _, HI.out.2.2, by omega, rfl, rfl, rfl⟩
    case round =>
      obtain ⟨i, o, hi, hx, hr, ho, rfl, rfl, rfl⟩ := hrel
      have HX := Lib.hid hx
      have hoR : o ≤ R := by rw [← hr]; exact hgts_ge _ _
      by_cases hin : i < m
      · have hin' : (i : Int) < m := by omega
        obtain ⟨u, hu⟩ : ∃ u, kids[i]? = some u := ⟨_, List.getElem?_eq_getElem (by rw [HM.out]; exact hin)⟩
        obtain ⟨x, ku, lu, au, nu, cu, mnu, mxu, rfl, htu, c0, c1, c2, c3, c4⟩ := kid_at (HK.out.1.ext (HB.out.2.trans hx)) (HK.out.2.ext (HB.out.2.trans hx) _ _) hu
        rw [hgts_drop hu] at hr
        have hh := HI.out.2.1 u (List.mem_of_getElem? hu)
        have hq := hgt_pos u
        have HC := Lib.hid (HI.out.1 u (List.mem_of_getElem? hu) (wr.alloc (.cells #[.int .i64 ku, .string lu, .slice au nu cu, .int .i64 mnu, .int .i64 mxu] 28)) _ (at' + 1) (htu.ext ((Chg.refl _).alloc _)) (by omega) (by omega))
        obtain ⟨d, hd⟩ : ∃ d, hgt u = d := ⟨_, rfl⟩
        rw [hd] at HC hr hh hq
        have hmR : max o d ≤ R := by rw [← hr]; exact hgts_ge _ _
        have HR := Lib.hid hr
        clear hx hr hu htu hd
        go_wp2_with fail
        refine HC.out.mono ?_
        rintro e w2 ⟨rfl, hx2⟩
        have HX2 := Lib.hid ((HX.out.alloc _).trans hx2)
        clear hx2
        rcases Int.le_total o d with hod | hod
        · rw [show max o d = d by omega] at HR hmR
          have e2 : decide (40 < at' + d) = false := by simp; omega
          have e2' : ¬ 40 < at' + d := by omega
          go_wp2_with fail
          all_goals
            go_roundg (m - (i + 1))
            case measure => omega
            case rel => exact ⟨i + 1, d, by omega, HX2.out, HR.out, by omega, congrArg (Value.int .i64) (by omega), rfl, rfl⟩
        · rw [show max o d = o by omega] at HR hmR
          have e2 : decide (40 < at' + o) = false := by simp; omega
          have e2' : ¬ 40 < at' + o := by omega
          go_wp2_with fail
          all_goals
            go_roundg (m - (i + 1))
            case measure => omega
            case rel => exact ⟨i + 1, o, by omega, HX2.out, HR.out, by omega, congrArg (Value.int .i64) (by omega), rfl, rfl⟩
      · obtain rfl : i = m := by omega
        rw [← HM.out, drop_end, hgts] at hr
        subst hr
        go_wp2_with fail
        go_ret
        exact ⟨rfl, HB.out.2.trans HX.out⟩
theorem pDeep_any (t : Tr) (w : World) (cs : List Value) (h : TrC w t cs) (h1 : hgt t ≤ 40) :
    Calls Tryz.prog 84 #[.agg cs.toArray] w fun e w' => e = .returned (.int .i64 (hgt t)) ∧ Ext w w' := by
  obtain ⟨k, l, a, n, cap, mn, mx, rfl⟩ := h.form
  have hw1 : Ext w (w.alloc (.cells #[.int .i64 k, .string l, .slice a n cap, .int .i64 mn, .int .i64 mx] 28)) := (Chg.refl w).alloc _
  have HC := Lib.hid (pdeep_any t _ _ 1 (h.ext hw1) (by omega) (by omega))
  have HX := Lib.hid hw1
  generalize hgt t = H at HC ⊢
  clear hw1 h
  go_enter Tryz.func84, Tryz.ntmps84
  go_wp2_with fail
  refine HC.out.mono ?_
  rintro e w2 ⟨rfl, hx⟩
  go_wp2_with fail
  go_ret
  exact ⟨rfl, HX.out.trans hx⟩
end Go.Proofs.YtkhllknahjmciaaGreat

/-! Paths (chapter 7): those that may be are let pass. -/
namespace Go.Proofs.YtkhllknahjmciaaGreat
open Go.RowKit
set_option linter.unusedVariables false
set_option linter.unusedSimpArgs false

/-- What a path that may be has. -/
theorem valid_parts {k mn mx : Int} {l : ByteArray} {kids : List Tr} (h : rchecks (.node k l kids mn mx) = 0) : rkidsB k kids = true ∧ ((k = 2 ∨ k = 3) → 1 ≤ l.size ∧ l.size ≤ 20) ∧ (k = 9 → ¬ repBad mn mx) ∧ ∀ u ∈ kids, rchecks u = 0 := by
  rw [rchecks] at h
  cases hb : rkidsB k kids with
  | false => rw [hb, if_pos rfl] at h; cases h
  | true =>
    rw [hb, if_neg (by simp)] at h
    by_cases h2 : (k = 2 ∨ k = 3) ∧ ¬ (1 ≤ l.size ∧ l.size ≤ 20)
    · rw [if_pos h2] at h; cases h
    · rw [if_neg h2] at h
      by_cases h3 : k = 9 ∧ (mn < 0 ∨ 8 < mn ∨ (mx ≠ -1 ∧ (mx < mn ∨ mx < 1 ∨ 8 < mx)))
      · rw [if_pos h3] at h; cases h
      · rw [if_neg h3] at h
        refine ⟨rfl, fun hk => ?_, fun hk hr => h3 ⟨hk, hr⟩, ?_⟩
        · exact Classical.byContradiction fun hn => h2 ⟨hk, hn⟩
        · have key : ∀ ts : List Tr, rchecksL ts = 0 → ∀ u ∈ ts, rchecks u = 0 := by
            intro ts
            induction ts with
            | nil => intro _ u hu; simp at hu
            | cons t ts ih =>
              intro hts u hu
              rw [rchecksL] at hts
              by_cases ht : rchecks t = 0
              · rw [if_pos ht] at hts
                rcases List.mem_cons.1 hu with rfl | hu
                · exact ht
                · exact ih hts u hu
              · rw [if_neg ht] at hts; exact absurd hts ht
          exact key kids h
theorem kind_of_kids {k : Int} {kids : List Tr} (h : rkidsB k kids = true) : 1 ≤ k ∧ k ≤ 9 ∧ (1 ≤ k ∧ k ≤ 3 → kids = []) ∧ (k = 4 ∨ k = 5 → 2 ≤ kids.length ∧ ∀ u ∈ kids, u.kind ≠ k) ∧ (6 ≤ k → kids.length = 1) := by
  unfold rkidsB at h
  by_cases h1 : k = 1 ∨ k = 2 ∨ k = 3
  · rw [if_pos h1] at h
    have := List.length_eq_zero_iff.1 (beq_iff_eq.1 h)
    exact ⟨by omega, by omega, fun _ => this, fun h => by omega, fun h => by omega⟩
  · rw [if_neg h1] at h
    by_cases h2 : k = 4 ∨ k = 5
    · rw [if_pos h2, Bool.and_eq_true, decide_eq_true_iff, List.all_eq_true] at h
      exact ⟨by omega, by omega, fun h => by omega, fun _ => ⟨h.2, fun u hu => by simpa using h.1 u hu⟩, fun h => by omega⟩
    · rw [if_neg h2] at h
      by_cases h3 : k = 6 ∨ k = 7 ∨ k = 8 ∨ k = 9
      · rw [if_pos h3] at h
        exact ⟨by omega, by omega, fun h => by omega, fun h => by omega, fun _ => beq_iff_eq.1 h⟩
      · rw [if_neg h3] at h; cases h
theorem pnamed_any (s : ByteArray) (h : 1 ≤ s.size ∧ s.size ≤ 20) (w : World) :
    Calls Tryz.prog 185 #[.string s] w fun e w' => e = .returned (.bool true) ∧ w' = w := by
  have e1 : decide ((0 : Int) < s.size) = true := by simp; omega
  have e0 : decide (0 < s.size) = true := by simp; omega
  have e2 : decide ((s.size : Int) ≤ 20) = true := by simp; omega
  clear h
  go_enter Tryz.func185, Tryz.ntmps185
  go_wp2_with fail
  go_ret
  exact ⟨rfl, rfl⟩
/-- How many kids a kind has at least and at most. -/
def leastK (k : Int) : Int := if k ≤ 3 then 0 else if k ≤ 5 then 2 else 1
def mostK (k : Int) : Int := if k ≤ 3 then 0 else if k ≤ 5 then 1099511627776 else 1
theorem pkids_any (k : Int) (h : 1 ≤ k ∧ k ≤ 9) (w : World) :
    Calls Tryz.prog 184 #[.int .i64 k] w fun e w' => e = .returned (.tuple #[.int .i64 (leastK k), .int .i64 (mostK k), .bool true]) ∧ w' = w := by
  have hk : k = 1 ∨ k = 2 ∨ k = 3 ∨ k = 4 ∨ k = 5 ∨ k = 6 ∨ k = 7 ∨ k = 8 ∨ k = 9 := by omega
  clear h
  rcases hk with rfl | rfl | rfl | rfl | rfl | rfl | rfl | rfl | rfl
  all_goals
    go_enter Tryz.func184, Tryz.ntmps184
    go_wp2_with fail
    go_ret3
    exact ⟨rfl, rfl⟩
set_option maxRecDepth 100000 in
set_option maxHeartbeats 1000000 in
theorem pone_any (t : Tr) (w : World) (cs : List Value) (h : TrC w t cs) (hv : rchecks t = 0) (hlen : ∀ k l kids mn mx, t = .node k l kids mn mx → kids.length ≤ 1000) :
    Calls Tryz.prog 136 #[.agg cs.toArray] w fun e w' => e = .returned (.int .i64 0) ∧ Ext w w' := by
  obtain ⟨k, l, kids, mn, mx⟩ := t
  have hl := hlen _ _ _ _ _ rfl
  obtain ⟨v1, v2, v3, -⟩ := valid_parts hv
  obtain ⟨u1, u2, u3, u4, u5⟩ := kind_of_kids v1
  obtain ⟨a, cap, css, rfl, hc, ht⟩ := TrC_node.1 h
  have hb := Blk.new w #[.int .i64 k, .string l, .slice a kids.length cap, .int .i64 mn, .int .i64 mx] 28
  have hw1 : Ext w (w.alloc (.cells #[.int .i64 k, .string l, .slice a kids.length cap, .int .i64 mn, .int .i64 mx] 28)) := (Chg.refl w).alloc _
  have hcap := hc.1
  have hmax := hc.2.1
  unfold maxLen at hmax
  have HL := Lib.hid (fun w => pkids_any k ⟨u1, u2⟩ w)
  have hlo : leastK k ≤ kids.length ∧ kids.length ≤ mostK k := by
    unfold leastK mostK
    by_cases h3 : k ≤ 3
    · rw [if_pos h3, if_pos h3, u3 ⟨u1, h3⟩]; simp
    · rw [if_neg h3, if_neg h3]
      by_cases h5 : k ≤ 5
      · rw [if_pos h5, if_pos h5]; have := (u4 (by omega)).1; omega
      · rw [if_neg h5, if_neg h5]; have := u5 (by omega); omega
  have HU := Lib.hid (And.intro u4 (And.intro v2 v3))
  clear hv hlen v1 v2 v3 u3 u4 u5 hl
  have HK := Lib.hid (And.intro hc ht)
  have HB := Lib.hid (And.intro hb hw1)
  clear hc ht hb hw1 h
  obtain ⟨m, hm⟩ : ∃ m, kids.length = m := ⟨_, rfl⟩
  rw [hm] at HB hcap ⊢
  have HM := Lib.hid hm
  clear hm
  rw [HM.out] at hlo
  generalize leastK k = lo at HL hlo
  generalize mostK k = hi at HL hlo
  have e1 : decide ((m : Int) < lo) = false := by simp; omega
  have e2 : decide (hi < (m : Int)) = false := by simp; omega
  have k0 := HB.out.1.cell 0 _ rfl
  clear hlo
  go_enter Tryz.func136, Tryz.ntmps136
  go_wp2_with fail
  refine (HL.out _).mono ?_
  rintro e w' ⟨rfl, rfl⟩
  go_wp2_with fail
  go_loopg [7, 34] m (fun g l7 l34 wr => ∃ (i : Nat), i ≤ m ∧ Ext (w.alloc (.cells #[.int .i64 k, .string l, .slice a m cap, .int .i64 mn, .int .i64 mx] 28)) wr ∧ l34 = .int .i64 i ∧ g = m - i)
  case atStart => exact ⟨0, Nat.zero_le _, Chg.refl _, rfl, rfl⟩
  case round =>
    obtain ⟨i, hi, hx, rfl, rfl⟩ := hrel
    have HX := Lib.hid hx
    obtain ⟨g0, f0, g1, f1, g2, f2, g3, f3, g4, f4⟩ := blk5_base (HB.out.1.chg hx (fun h => h))
    by_cases hin : i < m
    · have hin' : (i : Int) < m := by omega
      obtain ⟨u, hu⟩ : ∃ u, kids[i]? = some u := ⟨_, List.getElem?_eq_getElem (by rw [HM.out]; exact hin)⟩
      obtain ⟨x, ku, lu, au, nu, cu, mnu, mxu, rfl, htu, c0, c1, c2, c3, c4⟩ := kid_at (HK.out.1.ext (HB.out.2.trans hx)) (HK.out.2.ext (HB.out.2.trans hx) _ _) hu
      have hku := htu.kind
      subst hku
      have h0 := fun o => (HB.out.1.chg (hx.alloc o) (fun h => h)).cell 0 _ rfl
      by_cases h45 : k = 4 ∨ k = 5
      · have e3 : (u.kind == k) = false := by simpa using (HU.out.1 h45).2 u (List.mem_of_getElem? hu)
        clear hx hu htu h45
        go_wp2_with fail
        go_roundg (m - (i + 1))
        case measure => omega
        case rel => exact ⟨i + 1, by omega, HX.out.alloc _, rfl, rfl⟩
      · have d4 : (k == 4) = false := by simp; omega
        have d5 : (k == 5) = false := by simp; omega
        clear hx hu htu h45
        cases e3 : (u.kind == k)
        all_goals
          go_wp2_with fail
          go_roundg (m - (i + 1))
          case measure => omega
          case rel => exact ⟨i + 1, by omega, HX.out.alloc _, rfl, rfl⟩
    · obtain rfl : i = m := by omega
      clear hx HL
      by_cases h23 : k = 2 ∨ k = 3
      · have HN := Lib.hid (fun w => pnamed_any l (HU.out.2.1 h23) w)
        have hs2 : ((k == 2) = true) ∨ ((k == 2) = false ∧ (k == 3) = true) := by
          rcases h23 with rfl | rfl
          · left; rfl
          · right; exact ⟨rfl, rfl⟩
        clear h23
        rcases hs2 with s2 | ⟨s2, s3⟩
        all_goals
          go_wp2_with fail
          refine (HN.out _).mono ?_
          rintro e w' ⟨rfl, rfl⟩
          go_wp2_with fail
          go_ret
          exact ⟨rfl, HB.out.2.trans HX.out⟩
      · have d2 : (k == 2) = false := by simp; omega
        have d3 : (k == 3) = false := by simp; omega
        by_cases h9 : k = 9
        · have d9 : (k == 9) = true := by simpa using h9
          have hb := HU.out.2.2 h9
          unfold repBad at hb
          have b1 : decide (mn < 0) = false := by simp; omega
          have b2 : decide (8 < mn) = false := by simp; omega
          by_cases b3 : mx = -1
          · have b4 : (mx != -1) = false := by simpa using b3
            clear hb b3 h9 h23
            go_wp2_with fail
            go_ret
            exact ⟨rfl, HB.out.2.trans HX.out⟩
          · have b4 : (mx != -1) = true := by simpa using b3
            have b5 : decide (mx < mn) = false := by simp; omega
            have b6 : decide (mx < 1) = false := by simp; omega
            have b7 : decide (8 < mx) = false := by simp; omega
            clear hb b3 h9 h23
            go_wp2_with fail
            go_ret
            exact ⟨rfl, HB.out.2.trans HX.out⟩
        · have d9 : (k == 9) = false := by simpa using h9
          clear h9 h23
          go_wp2_with fail
          go_ret
          exact ⟨rfl, HB.out.2.trans HX.out⟩
end Go.Proofs.YtkhllknahjmciaaGreat

/-! Paths (chapter 7): all of one; small ones. -/
namespace Go.Proofs.YtkhllknahjmciaaGreat
open Go.RowKit
set_option linter.unusedVariables false
set_option linter.unusedSimpArgs false

theorem rsizes_ge : ∀ (ts : List Tr) (at' n : Int), 0 ≤ n → n ≤ 1099511627776 → n ≤ rsizes ts at' n
  | [], _, _, _, _ => by rw [rsizes]; omega
  | t :: ts, at', n, h0, h1 => by
    rw [rsizes]
    have h2 := (rsize_le t (at' + 1)).1
    have h3 : n ≤ rsum n (rsize t (at' + 1)) ∧ rsum n (rsize t (at' + 1)) ≤ 1099511627776 := by unfold rsum; omega
    have := rsizes_ge ts at' _ (by omega) h3.2
    omega
theorem rsizes_small : ∀ (ts : List Tr) (at' n : Int), 0 ≤ n → rsizes ts at' n ≤ 60 → (∀ u ∈ ts, 1 ≤ rsize u (at' + 1)) → n + ts.length ≤ rsizes ts at' n ∧ ∀ u ∈ ts, rsize u (at' + 1) ≤ 60
  | [], _, _, _, h, _ => by rw [rsizes]; simp
  | t :: ts, at', n, h0, h, hp => by
    have h1 : n ≤ 60 := by
      rcases Int.le_total n 1099511627776 with h1 | h1
      · have := rsizes_ge (t :: ts) at' n h0 h1; omega
      · rw [rsizes] at h
        have h2 := (rsize_le t (at' + 1)).1
        have h3 : rsum n (rsize t (at' + 1)) = 1099511627776 := by unfold rsum; omega
        rw [h3] at h
        have := rsizes_ge ts at' 1099511627776 (by omega) (by omega)
        omega
    rw [rsizes] at h ⊢
    have h2 := rsize_le t (at' + 1)
    have hp1 := hp t (List.mem_cons_self ..)
    have h3 : 0 ≤ rsum n (rsize t (at' + 1)) ∧ rsum n (rsize t (at' + 1)) ≤ 1099511627776 := by unfold rsum; omega
    have h4 := rsizes_ge ts at' _ h3.1 h3.2
    have h5 : rsum n (rsize t (at' + 1)) = n + rsize t (at' + 1) := by unfold rsum at h4 h ⊢; omega
    obtain ⟨h6, h7⟩ := rsizes_small ts at' _ h3.1 h (fun u hu => hp u (List.mem_cons_of_mem _ hu))
    rw [h5] at h6 h4 ⊢
    rw [h5] at h
    refine ⟨by simp only [List.length_cons]; omega, fun u hu => ?_⟩
    rcases List.mem_cons.1 hu with rfl | hu
    · omega
    · exact h7 u hu
theorem valid_pos {t : Tr} (hv : rchecks t = 0) (at' : Int) : 1 ≤ rsize t at' := by
  obtain ⟨k, l, kids, mn, mx⟩ := t
  obtain ⟨v1, v2, v3, v4⟩ := valid_parts hv
  obtain ⟨u1, u2, u3, u4, u5⟩ := kind_of_kids v1
  rw [rsize]
  split
  · omega
  · have hn := rsizes_ge kids at' 0 (by omega) (by omega)
    generalize rsizes kids at' 0 = n at hn
    unfold rsizeK
    have hc0 : 0 ≤ (if mx = -1 then min (max mn 0) 1099511627776 + 1 else max mx 0) := by split <;> omega
    generalize (if mx = -1 then min (max mn 0) 1099511627776 + 1 else max mx 0) = c at hc0
    split
    · unfold rsum; omega
    · split
      · unfold rsum; omega
      · split
        · unfold rsum; omega
        · split
          · split
            · omega
            · have := Int.mul_nonneg hc0 hn
              unfold rsum; omega
          · rw [if_pos (by omega)]; omega
/-- What a small path that may be has. -/
theorem small_parts {k mn mx : Int} {l : ByteArray} {kids : List Tr} {at' : Int} (hv : rchecks (.node k l kids mn mx) = 0) (hs : rsize (.node k l kids mn mx) at' ≤ 60) :
    at' < 40 ∧ rsize (.node k l kids mn mx) at' = rsizeK k mn mx (rsizes kids at' 0) ∧ 0 ≤ rsizes kids at' 0 ∧ rsizes kids at' 0 ≤ 60 ∧ kids.length ≤ 60 ∧ ∀ u ∈ kids, rsize u (at' + 1) ≤ 60 := by
  obtain ⟨v1, v2, v3, v4⟩ := valid_parts hv
  obtain ⟨u1, u2, u3, u4, u5⟩ := kind_of_kids v1
  rw [rsize] at hs ⊢
  by_cases hat : 40 ≤ at'
  · rw [if_pos hat] at hs; omega
  rw [if_neg hat] at hs ⊢
  have hn := rsizes_ge kids at' 0 (by omega) (by omega)
  have key : rsizes kids at' 0 ≤ 60 := by
    by_cases h3 : k ≤ 3
    · rw [u3 ⟨u1, h3⟩, rsizes]; omega
    · generalize rsizes kids at' 0 = n at hn hs
      unfold rsizeK at hs
      by_cases h4 : k = 4 ∨ k = 5 ∨ k = 6
      · rw [if_pos h4] at hs; unfold rsum at hs; omega
      · rw [if_neg h4] at hs
        by_cases h7 : k = 7
        · rw [if_pos h7] at hs; unfold rsum at hs; omega
        · rw [if_neg h7] at hs
          by_cases h8 : k = 8
          · rw [if_pos h8] at hs; unfold rsum at hs; omega
          · have h9 : k = 9 := by omega
            rw [if_neg h8, if_pos h9] at hs
            have hb := v3 h9
            unfold repBad at hb
            have hc1 : 1 ≤ (if mx = -1 then min (max mn 0) 1099511627776 + 1 else max mx 0) := by split <;> omega
            generalize (if mx = -1 then min (max mn 0) 1099511627776 + 1 else max mx 0) = c at hc1 hs
            by_cases hq : 0 < n ∧ 1099511627776 / n < c
            · rw [if_pos hq] at hs; omega
            · rw [if_neg hq] at hs
              have : 1 * n ≤ c * n := Int.mul_le_mul_of_nonneg_right hc1 hn
              unfold rsum at hs; omega
  obtain ⟨p1, p2⟩ := rsizes_small kids at' 0 (by omega) key (fun u hu => valid_pos (v4 u hu) _)
  exact ⟨by omega, rfl, hn, key, by omega, p2⟩
set_option maxRecDepth 100000 in
set_option maxHeartbeats 1000000 in
theorem pall_any (t : Tr) (w : World) (cs : List Value) (at' : Int) (h : TrC w t cs) (hv : rchecks t = 0) (hs : rsize t at' ≤ 60) :
    Calls Tryz.prog 85 #[.agg cs.toArray] w fun e w' => e = .returned (.int .i64 0) ∧ Ext w w' := by
  induction t using Tr.ind generalizing w cs at' with
  | node k l kids mn mx ih =>
    have s5 := (small_parts hv hs).2.2.2.2
    have HO := Lib.hid (fun W (hW : Ext w W) => pone_any (.node k l kids mn mx) W cs (h.ext hW) hv (fun k' l' kids' mn' mx' he => by injection he with _ _ he; subst he; omega))
    have v4 := (valid_parts hv).2.2.2
    have HI := Lib.hid (fun u hu w cs h => ih u hu w cs (at' + 1) h (v4 u hu) (s5.2 u hu))
    have hl := s5.1
    clear ih s5 v4 hv hs
    obtain ⟨a, cap, css, rfl, hc, ht⟩ := TrC_node.1 h
    have hb := Blk.new w #[.int .i64 k, .string l, .slice a kids.length cap, .int .i64 mn, .int .i64 mx] 28
    have hw1 : Ext w (w.alloc (.cells #[.int .i64 k, .string l, .slice a kids.length cap, .int .i64 mn, .int .i64 mx] 28)) := (Chg.refl w).alloc _
    have hcap := hc.1
    have hmax := hc.2.1
    unfold maxLen at hmax
    have HO2 := Lib.hid (HO.out _ hw1)
    clear HO
    have HK := Lib.hid (And.intro hc ht)
    have HB := Lib.hid (And.intro hb hw1)
    clear hc ht hb hw1 h
    obtain ⟨m, hm⟩ : ∃ m, kids.length = m := ⟨_, rfl⟩
    rw [hm] at HB hcap ⊢
    have HM := Lib.hid hm
    clear hm
    rw [HM.out] at HO2
    go_enter Tryz.func85, Tryz.ntmps85
    go_wp2_with fail
    refine HO2.out.mono ?_
    rintro e w2 ⟨rfl, hx2⟩
    obtain ⟨g0, f0, g1, f1, g2, f2, g3, f3, g4, f4⟩ := blk5_base (HB.out.1.chg hx2 (fun h => h))
    have HX2 := Lib.hid hx2
    clear hx2
    go_wp2_with fail
    go_loopg [3, 4] m (fun g l3 l4 wr => ∃ (i : Nat), i ≤ m ∧ Ext (w.alloc (.cells #[.int .i64 k, .string l, .slice a m cap, .int .i64 mn, .int .i64 mx] 28)) wr ∧ l3 = .int .i64 0 ∧ l4 = .int .i64 i ∧ g = m - i)
    case atStart => exact ⟨0, Nat.zero_le _, HX2.out, rfl, rfl, rfl⟩
    case round =>
      clear g0 f0 g1 f1 g2 f2 g3 f3 g4 f4
      obtain ⟨i, hi, hx, rfl, rfl, rfl⟩ := hrel
      have HX := Lib.hid hx
      have k2 := (HB.out.1.chg hx (fun h => h)).cell 2 _ rfl
      by_cases hin : i < m
      · have hin' : (i : Int) < m := by omega
        obtain ⟨u, hu⟩ : ∃ u, kids[i]? = some u := ⟨_, List.getElem?_eq_getElem (by rw [HM.out]; exact hin)⟩
        obtain ⟨x, ku, lu, au, nu, cu, mnu, mxu, rfl, htu, c0, c1, c2, c3, c4⟩ := kid_at (HK.out.1.ext (HB.out.2.trans hx)) (HK.out.2.ext (HB.out.2.trans hx) _ _) hu
        have HC := Lib.hid (HI.out u (List.mem_of_getElem? hu) wr _ htu)
        clear hx hu htu
        go_wp2_with fail
        refine HC.out.mono ?_
        rintro e w3 ⟨rfl, hx3⟩
        have HX3 := Lib.hid hx3
        clear hx3
        go_wp2_with fail
        go_roundg (m - (i + 1))
        case measure => omega
        case rel => exact ⟨i + 1, by omega, HX.out.trans HX3.out, rfl, rfl, rfl⟩
      · obtain rfl : i = m := by omega
        clear hx
        go_wp2_with fail
        go_ret
        exact ⟨rfl, HB.out.2.trans HX.out⟩
end Go.Proofs.YtkhllknahjmciaaGreat

/-! Paths (chapter 7): how great, of small ones; and the check lets them pass. -/
namespace Go.Proofs.YtkhllknahjmciaaGreat
open Go.RowKit
set_option linter.unusedVariables false
set_option linter.unusedSimpArgs false

theorem ptimes_any (c y : Int) (h : 1 ≤ c ∧ c ≤ 9 ∧ 0 ≤ y ∧ y ≤ 60) (w : World) :
    Calls Tryz.prog 138 #[.int .i64 c, .int .i64 y] w fun e w' => e = .returned (.int .i64 (c * y)) ∧ w' = w := by
  obtain ⟨h0, h1, h2, h3⟩ := h
  have e1 : decide (0 < c) = true := by simp; omega
  have h4 : 60 ≤ 1099511627776 / c := (Int.le_ediv_iff_mul_le (by omega)).2 (by omega)
  have e2 : decide (1099511627776 / c < y) = false := by simp; omega
  have h5 : 0 ≤ c * y := Int.mul_nonneg (by omega) h2
  have h6 : c * y ≤ 9 * 60 := Int.mul_le_mul h1 h3 h2 (by omega)
  have h7 : max c 0 = c := by omega
  go_enter Tryz.func138, Tryz.ntmps138
  go_wp2_with fail
  go_ret
  exact ⟨rfl, rfl⟩
set_option maxRecDepth 100000 in
set_option maxHeartbeats 1000000 in
theorem psizes_any (kids : List Tr) (w : World) (a : Option Addr) (m cap : Nat) (css : List (List Value)) (at' : Int) (hm : kids.length = m) (hc : Cells w a m cap (List.flatten css)) (ht : TrCs w kids css) (hs : rsizes kids at' 0 ≤ 60)
    (hk : ∀ u ∈ kids, ∀ w cs, TrC w u cs → Calls Tryz.prog 86 #[.agg cs.toArray] w fun e w' => e = .returned (.int .i64 (rsize u (at' + 1))) ∧ Ext w w') :
    Calls Tryz.prog 137 #[.slice a m cap] w fun e w' => e = .returned (.int .i64 (rsizes kids at' 0)) ∧ Ext w w' := by
  have hcap := hc.1
  have hmax := hc.2.1
  unfold maxLen at hmax
  obtain ⟨R, hR⟩ : ∃ R, rsizes kids at' 0 = R := ⟨_, rfl⟩
  rw [hR] at hs ⊢
  have HK := Lib.hid (And.intro hc (And.intro ht (And.intro hk hR)))
  have HM := Lib.hid hm
  clear hc ht hk hR hm
  go_enter Tryz.func137, Tryz.ntmps137
  go_wp2_with fail
  go_loopg [2, 7] m (fun g l2 l7 wr => ∃ (i : Nat) (n : Int), i ≤ m ∧ Ext w wr ∧ rsizes (kids.drop i) at' n = R ∧ 0 ≤ n ∧ n ≤ 1099511627776 ∧ l2 = .int .i64 n ∧ l7 = .int .i64 i ∧ g = m - i)
  case atStart => exact ⟨0, 0, Nat.zero_le _, Chg.refl _, HK.out.2.2.2, by omega, by omega, rfl, rfl, rfl⟩
  case round =>
    obtain ⟨i, n, hi, hx, hr, hn0, hn1, rfl, rfl, rfl⟩ := hrel
    have HX := Lib.hid hx
    by_cases hin : i < m
    · have hin' : (i : Int) < m := by omega
      obtain ⟨u, hu⟩ : ∃ u, kids[i]? = some u := ⟨_, List.getElem?_eq_getElem (by rw [HM.out]; exact hin)⟩
      obtain ⟨x, ku, lu, au, nu, cu, mnu, mxu, rfl, htu, c0, c1, c2, c3, c4⟩ := kid_at (HK.out.1.ext hx) (HK.out.2.1.ext hx _ _) hu
      rw [rsizes_drop hu] at hr
      have HC := Lib.hid (HK.out.2.2.1 u (List.mem_of_getElem? hu) (wr.alloc (.cells #[.int .i64 ku, .string lu, .slice au nu cu, .int .i64 mnu, .int .i64 mxu] 28)) _ (htu.ext ((Chg.refl _).alloc _)))
      have hq := rsize_le u (at' + 1)
      obtain ⟨d, hd⟩ : ∃ d, rsize u (at' + 1) = d := ⟨_, rfl⟩
      rw [hd] at HC hr hq
      have hg := rsizes_ge (kids.drop (i + 1)) at' (rsum n d) (by unfold rsum; omega) (by unfold rsum; omega)
      rw [hr] at hg
      have he : rsum n d = n + d := by unfold rsum at hg ⊢; omega
      have hnd : n + d ≤ 60 := by omega
      have e1 : min (n + d) 1099511627776 = n + d := by omega
      rw [he] at hr hg
      obtain ⟨hq0, hq1⟩ := hq
      have HR := Lib.hid hr
      clear hx hr hu htu hd he
      go_wp2_with fail
      refine HC.out.mono ?_
      rintro e w2 ⟨rfl, hx2⟩
      have HX2 := Lib.hid ((HX.out.alloc _).trans hx2)
      clear hx2
      go_wp2_with fail
      go_roundg (m - (i + 1))
      case measure => omega
      case rel => exact ⟨i + 1, n + d, by omega, HX2.out, HR.out, by omega, by omega, rfl, rfl, rfl⟩
    · obtain rfl : i = m := by omega
      rw [← HM.out, drop_end, rsizes] at hr
      subst hr
      clear hx
      go_wp2_with fail
      go_ret
      exact ⟨rfl, HX.out⟩
end Go.Proofs.YtkhllknahjmciaaGreat
