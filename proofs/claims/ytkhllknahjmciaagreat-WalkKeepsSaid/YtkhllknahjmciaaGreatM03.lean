/-
  The document's own answer on paths (chapter 7): what may be. The document's own answer on paths (chapter 7), whole; how much a path has within.
-/
import Derived.Test.YtkhllknahjmciaaGreatM02
/-! The document's own answer on paths (chapter 7): what may be. -/
namespace Go.Proofs.YtkhllknahjmciaaGreat
open Go.RowKit
set_option linter.unusedVariables false
set_option linter.unusedSimpArgs false

def Tr.kind : Tr → Int
  | .node k _ _ _ _ => k
theorem TrC.kind {w : World} {t : Tr} {k : Int} {cs : List Value} (h : TrC w t (.int .i64 k :: cs)) : k = t.kind := by
  obtain ⟨k', l, kids, mn, mx⟩ := t
  obtain ⟨a, cap, css, h1, -⟩ := TrC_node.1 h
  have := (List.cons.inj h1).1
  injection this
def rkidsB (k : Int) (kids : List Tr) : Bool :=
  if k = 1 ∨ k = 2 ∨ k = 3 then kids.length == 0
  else if k = 4 ∨ k = 5 then (kids.all fun t => t.kind != k) && decide (2 ≤ kids.length)
  else if k = 6 ∨ k = 7 ∨ k = 8 ∨ k = 9 then kids.length == 1
  else false
theorem all_at {α : Type} {p : α → Bool} {l : List α} {i : Nat} {x : α} (hi : l[i]? = some x) (hp : p x = false) : l.all p = false := by
  rw [List.all_eq_false]
  exact ⟨x, List.mem_of_getElem? hi, by simp [hp]⟩
theorem all_drop {α : Type} {p : α → Bool} {l : List α} {i : Nat} {x : α} (hi : l[i]? = some x) (hp : p x = true) : (l.drop i).all p = (l.drop (i + 1)).all p := by
  obtain ⟨h, rfl⟩ := List.getElem?_eq_some_iff.1 hi
  rw [List.drop_eq_getElem_cons h, List.all_cons, hp, Bool.true_and]
set_option maxRecDepth 100000 in
set_option maxHeartbeats 1000000 in
theorem rkids_any (t : Tr) (w : World) (cs : List Value) (h : TrC w t cs) :
    Calls Tryz.prog 117 #[.agg cs.toArray] w fun e w' => e = .returned (.bool (match t with | .node k _ kids _ _ => rkidsB k kids)) ∧ Ext w w' := by
  obtain ⟨k, l, kids, mn, mx⟩ := t
  simp only
  obtain ⟨a, cap, css, rfl, hc, ht⟩ := TrC_node.1 h
  have hb := Blk.new w #[.int .i64 k, .string l, .slice a kids.length cap, .int .i64 mn, .int .i64 mx] 28
  have hw1 : Ext w (w.alloc (.cells #[.int .i64 k, .string l, .slice a kids.length cap, .int .i64 mn, .int .i64 mx] 28)) := (Chg.refl w).alloc _
  have hcap := hc.1
  have hmax := hc.2.1
  unfold maxLen at hmax
  obtain ⟨R, hR⟩ : ∃ R, rkidsB k kids = R := ⟨_, rfl⟩
  rw [hR]
  unfold rkidsB at hR
  have HK := Lib.hid (And.intro hc ht)
  have HB := Lib.hid (And.intro hb hw1)
  clear hc ht hb hw1 h
  obtain ⟨m, hm⟩ : ∃ m, kids.length = m := ⟨_, rfl⟩
  rw [hm] at HB hcap ⊢
  have HM := Lib.hid hm
  clear hm
  have hk : k = 1 ∨ k = 2 ∨ k = 3 ∨ k = 4 ∨ k = 5 ∨ k = 6 ∨ k = 7 ∨ k = 8 ∨ k = 9 ∨ ¬ (1 ≤ k ∧ k ≤ 9) := by omega
  have h0 : (kids.length == 0) = ((m : Int) == 0) := by rw [HM.out, Bool.eq_iff_iff, beq_iff_eq, beq_iff_eq]; omega
  have h1 : (kids.length == 1) = ((m : Int) == 1) := by rw [HM.out, Bool.eq_iff_iff, beq_iff_eq, beq_iff_eq]; omega
  have h2 : decide (2 ≤ kids.length) = decide ((2 : Int) ≤ m) := by rw [HM.out, Bool.eq_iff_iff, decide_eq_true_iff, decide_eq_true_iff]; omega
  rw [h0, h1, h2] at hR
  clear h0 h1 h2
  rcases hk with rfl | rfl | rfl | hk
  · rw [if_pos (by omega)] at hR
    subst hR
    go_enter Tryz.func117, Tryz.ntmps117
    go_wp2_with fail
    go_ret
    exact ⟨rfl, HB.out.2⟩
  · rw [if_pos (by omega)] at hR
    subst hR
    go_enter Tryz.func117, Tryz.ntmps117
    go_wp2_with fail
    go_ret
    exact ⟨rfl, HB.out.2⟩
  · rw [if_pos (by omega)] at hR
    subst hR
    go_enter Tryz.func117, Tryz.ntmps117
    go_wp2_with fail
    go_ret
    exact ⟨rfl, HB.out.2⟩
  · by_cases h45 : k = 4 ∨ k = 5
    · rw [if_neg (by omega), if_pos h45] at hR
      obtain ⟨A, hA⟩ : ∃ A, (kids.all fun t => t.kind != k) = A := ⟨_, rfl⟩
      rw [hA] at hR
      have HR := Lib.hid (And.intro hA hR)
      clear hA hR hk
      have d1 : (k == 1) = false := by simp; omega
      have d2 : (k == 2) = false := by simp; omega
      have d3 : (k == 3) = false := by simp; omega
      have hsl : ((k == 4) = true) ∨ ((k == 4) = false ∧ (k == 5) = true) := by
        rcases h45 with rfl | rfl
        · left; rfl
        · right; exact ⟨rfl, rfl⟩
      clear h45
      rcases hsl with d4 | ⟨d4, d5⟩
      all_goals
        go_enter Tryz.func117, Tryz.ntmps117
        go_wp2_with fail
        go_loopg [3] m (fun g l3 wr => ∃ (i : Nat), i ≤ m ∧ (∃ q, wr = (w.alloc (.cells #[.int .i64 k, .string l, .slice a m cap, .int .i64 mn, .int .i64 mx] 28)).drewN q) ∧ (kids.drop i).all (fun t => t.kind != k) = A ∧ l3 = .int .i64 i ∧ g = m - i)
        case atStart => exact ⟨0, Nat.zero_le _, ⟨0, rfl⟩, HR.out.1, rfl, rfl⟩
        case round =>
          obtain ⟨i, hi, ⟨q, rfl⟩, hr, rfl, rfl⟩ := hrel
          by_cases hin : i < m
          · have hin' : (i : Int) < m := by omega
            have hx : Ext (w.alloc (.cells #[.int .i64 k, .string l, .slice a m cap, .int .i64 mn, .int .i64 mx] 28)) ((w.alloc (.cells #[.int .i64 k, .string l, .slice a m cap, .int .i64 mn, .int .i64 mx] 28)).drewN q) := (Chg.refl _).drewN q
            obtain ⟨u, hu⟩ : ∃ u, kids[i]? = some u := ⟨_, List.getElem?_eq_getElem (by rw [HM.out]; exact hin)⟩
            obtain ⟨x, ku, lu, au, nu, cu, mnu, mxu, rfl, htu, c0, c1, c2, c3, c4⟩ := kid_at (HK.out.1.ext (HB.out.2.trans hx)) (HK.out.2.ext (HB.out.2.trans hx) _ _) hu
            have hku := htu.kind
            subst hku
            have c0' : (w.alloc (.cells #[.int .i64 k, .string l, .slice (some x) m cap, .int .i64 mn, .int .i64 mx] 28)).cell? (x.add (i * 5)) = some (.int .i64 u.kind) := c0
            clear c0 c1 c2 c3 c4 htu hx
            by_cases hk : u.kind = k
            · have hA : A = false := by rw [← hr]; exact all_at (i := 0) (by rw [List.getElem?_drop, Nat.add_zero]; exact hu) (by simp [hk])
              have e1 : (u.kind == k) = true := by simpa using hk
              have HRR : Hid (R = false) := Lib.hid (by rw [← HR.out.2, hA]; rfl)
              clear hr hu hk hA
              go_wp2_with fail
              go_quiet (fail)
              go_wp2_with fail
              go_ret
              exact ⟨congrArg (fun b => Ending.returned (.bool b)) HRR.out.symm, (HB.out.2.drewN _).drewN _⟩
            · have e1 : (u.kind == k) = false := by simpa using hk
              rw [all_drop hu (by simpa using hk)] at hr
              have HRR := Lib.hid hr
              clear hr hu hk
              go_wp2_with fail
              go_quiet (fail)
              go_wp2_with fail
              go_roundg (m - (i + 1))
              case measure => omega
              case rel => exact ⟨i + 1, by omega, ⟨_, rfl⟩, HRR.out, rfl, rfl⟩
          · obtain rfl : i = m := by omega
            rw [← HM.out, drop_end] at hr
            have HRR : Hid (decide ((2 : Int) ≤ i) = R) := Lib.hid (by rw [← HR.out.2, ← hr]; rfl)
            clear hr
            go_wp2_with fail
            go_ret
            exact ⟨congrArg (fun b => Ending.returned (.bool b)) HRR.out, HB.out.2.drewN _⟩
    · by_cases hk9 : k ≤ 9 ∧ 1 ≤ k
      · rw [if_neg (by omega), if_neg (by omega), if_pos (by omega)] at hR
        subst hR
        have hk : k = 6 ∨ k = 7 ∨ k = 8 ∨ k = 9 := by omega
        clear h45 hk9
        rcases hk with rfl | rfl | rfl | rfl
        all_goals
          go_enter Tryz.func117, Tryz.ntmps117
          go_wp2_with fail
          go_ret
          exact ⟨rfl, HB.out.2⟩
      · rw [if_neg (by omega), if_neg (by omega), if_neg (by omega)] at hR
        subst hR
        have d1 : (k == 1) = false := by simp; omega
        have d2 : (k == 2) = false := by simp; omega
        have d3 : (k == 3) = false := by simp; omega
        have d4 : (k == 4) = false := by simp; omega
        have d5 : (k == 5) = false := by simp; omega
        have d6 : (k == 6) = false := by simp; omega
        have d7 : (k == 7) = false := by simp; omega
        have d8 : (k == 8) = false := by simp; omega
        have d9 : (k == 9) = false := by simp; omega
        go_enter Tryz.func117, Tryz.ntmps117
        go_wp2_with fail
        go_ret
        exact ⟨rfl, HB.out.2⟩
mutual
def rchecks : Tr → Int
  | .node k l kids mn mx =>
    if rkidsB k kids = false then 1
    else if (k = 2 ∨ k = 3) ∧ ¬ (1 ≤ l.size ∧ l.size ≤ 20) then 2
    else if k = 9 ∧ (mn < 0 ∨ 8 < mn ∨ (mx ≠ -1 ∧ (mx < mn ∨ mx < 1 ∨ 8 < mx))) then 1
    else rchecksL kids
def rchecksL : List Tr → Int
  | [] => 0
  | t :: ts => if rchecks t = 0 then rchecksL ts else rchecks t
end
theorem rchecksL_drop {kids : List Tr} {i : Nat} {t : Tr} (h : kids[i]? = some t) : rchecksL (kids.drop i) = if rchecks t = 0 then rchecksL (kids.drop (i + 1)) else rchecks t := by
  obtain ⟨hi, rfl⟩ := List.getElem?_eq_some_iff.1 h
  rw [List.drop_eq_getElem_cons hi, rchecksL]
/-- The tests of a repeated path, one way each. -/
def repBad (mn mx : Int) : Prop := mn < 0 ∨ 8 < mn ∨ (mx ≠ -1 ∧ (mx < mn ∨ mx < 1 ∨ 8 < mx))
set_option maxRecDepth 100000 in
set_option maxHeartbeats 4000000 in
theorem rchecks_any (t : Tr) (w : World) (cs : List Value) (h : TrC w t cs) :
    Calls Tryz.prog 70 #[.agg cs.toArray] w fun e w' => e = .returned (.int .i64 (rchecks t)) ∧ Ext w w' := by
  induction t using Tr.ind generalizing w cs with
  | node k l kids mn mx ih =>
    obtain ⟨a, cap, css, rfl, hc, ht⟩ := TrC_node.1 h
    have hb := Blk.new w #[.int .i64 k, .string l, .slice a kids.length cap, .int .i64 mn, .int .i64 mx] 28
    have hw1 : Ext w (w.alloc (.cells #[.int .i64 k, .string l, .slice a kids.length cap, .int .i64 mn, .int .i64 mx] 28)) := (Chg.refl w).alloc _
    have hcap := hc.1
    have hmax := hc.2.1
    unfold maxLen at hmax
    have HKI : Hid (Calls Tryz.prog 117 #[.agg #[.int .i64 k, .string l, .slice a kids.length cap, .int .i64 mn, .int .i64 mx]] (w.alloc (.cells #[.int .i64 k, .string l, .slice a kids.length cap, .int .i64 mn, .int .i64 mx] 28)) fun e w' => e = .returned (.bool (rkidsB k kids)) ∧ Ext (w.alloc (.cells #[.int .i64 k, .string l, .slice a kids.length cap, .int .i64 mn, .int .i64 mx] 28)) w') := Lib.hid (rkids_any (.node k l kids mn mx) _ _ (TrC.ext hw1 _ _ h))
    obtain ⟨R, hR⟩ : ∃ R, rchecks (.node k l kids mn mx) = R := ⟨_, rfl⟩
    rw [hR]
    rw [rchecks] at hR
    have HI := Lib.hid ih
    clear ih
    have HNA := Lib.hid (fun w => rname_any l w)
    have HK := Lib.hid (And.intro hc ht)
    have HB := Lib.hid (And.intro hb hw1)
    clear hc ht hb hw1 h
    obtain ⟨m, hm⟩ : ∃ m, kids.length = m := ⟨_, rfl⟩
    rw [hm] at HB hcap ⊢
    have HM := Lib.hid hm
    clear hm
    rw [HM.out] at HKI
    have k0 := HB.out.1.cell 0 _ rfl
    cases hkb : rkidsB k kids with
    | false =>
      rw [hkb] at HKI hR
      rw [if_pos rfl] at hR
      subst hR
      clear hkb
      go_enter Tryz.func70, Tryz.ntmps70
      go_wp2_with fail
      refine HKI.out.mono ?_
      rintro e w2 ⟨rfl, hx⟩
      go_wp2_with fail
      go_ret
      exact ⟨rfl, HB.out.2.trans hx⟩
    | true =>
      rw [hkb] at HKI hR
      rw [if_neg (by simp)] at hR
      clear hkb
      by_cases h9 : k = 9
      · have e9 : (k == 9) = true := by simpa using h9
        have d2 : (k == 2) = false := by simp; omega
        have d3 : (k == 3) = false := by simp; omega
        rw [if_neg (by omega)] at hR
        by_cases hbad : repBad mn mx
        · rw [if_pos ⟨h9, hbad⟩] at hR
          subst hR
          unfold repBad at hbad
          clear HI h9
          by_cases b1 : mn < 0
          · have e1 : decide (mn < 0) = true := by simpa using b1
            go_enter Tryz.func70, Tryz.ntmps70
            go_wp2_with fail
            refine HKI.out.mono ?_
            rintro e w2 ⟨rfl, hx2⟩
            have kb := HB.out.1.chg hx2 (fun h => h)
            obtain ⟨g0, f0, g1, f1, g2, f2, g3, f3, g4, f4⟩ := blk5_base kb
            have HX2 := Lib.hid hx2
            clear hx2 kb k0
            go_wp2_with fail
            go_ret
            exact ⟨rfl, HB.out.2.trans HX2.out⟩
          · have e1 : decide (mn < 0) = false := by simpa using b1
            by_cases b2 : 8 < mn
            · have e2 : decide (8 < mn) = true := by simpa using b2
              go_enter Tryz.func70, Tryz.ntmps70
              go_wp2_with fail
              refine HKI.out.mono ?_
              rintro e w2 ⟨rfl, hx2⟩
              have kb := HB.out.1.chg hx2 (fun h => h)
              obtain ⟨g0, f0, g1, f1, g2, f2, g3, f3, g4, f4⟩ := blk5_base kb
              have HX2 := Lib.hid hx2
              clear hx2 kb k0
              go_wp2_with fail
              go_ret
              exact ⟨rfl, HB.out.2.trans HX2.out⟩
            · have e2 : decide (8 < mn) = false := by simpa using b2
              have b3 : mx ≠ -1 := by omega
              have e3 : (mx != -1) = true := by simpa using b3
              by_cases b4 : mx < mn
              · have e4 : decide (mx < mn) = true := by simpa using b4
                go_enter Tryz.func70, Tryz.ntmps70
                go_wp2_with fail
                refine HKI.out.mono ?_
                rintro e w2 ⟨rfl, hx2⟩
                have kb := HB.out.1.chg hx2 (fun h => h)
                obtain ⟨g0, f0, g1, f1, g2, f2, g3, f3, g4, f4⟩ := blk5_base kb
                have HX2 := Lib.hid hx2
                clear hx2 kb k0
                go_wp2_with fail
                go_ret
                exact ⟨rfl, HB.out.2.trans HX2.out⟩
              · have e4 : decide (mx < mn) = false := by simpa using b4
                by_cases b5 : mx < 1
                · have e5 : decide (mx < 1) = true := by simpa using b5
                  go_enter Tryz.func70, Tryz.ntmps70
                  go_wp2_with fail
                  refine HKI.out.mono ?_
                  rintro e w2 ⟨rfl, hx2⟩
                  have kb := HB.out.1.chg hx2 (fun h => h)
                  obtain ⟨g0, f0, g1, f1, g2, f2, g3, f3, g4, f4⟩ := blk5_base kb
                  have HX2 := Lib.hid hx2
                  clear hx2 kb k0
                  go_wp2_with fail
                  go_ret
                  exact ⟨rfl, HB.out.2.trans HX2.out⟩
                · have e5 : decide (mx < 1) = false := by simpa using b5
                  have e6 : decide (8 < mx) = true := by simp; omega
                  go_enter Tryz.func70, Tryz.ntmps70
                  go_wp2_with fail
                  refine HKI.out.mono ?_
                  rintro e w2 ⟨rfl, hx2⟩
                  have kb := HB.out.1.chg hx2 (fun h => h)
                  obtain ⟨g0, f0, g1, f1, g2, f2, g3, f3, g4, f4⟩ := blk5_base kb
                  have HX2 := Lib.hid hx2
                  clear hx2 kb k0
                  go_wp2_with fail
                  go_ret
                  exact ⟨rfl, HB.out.2.trans HX2.out⟩
        · rw [if_neg (fun h => hbad h.2)] at hR
          unfold repBad at hbad
          have HRR := Lib.hid hR
          have e1 : decide (mn < 0) = false := by simp; omega
          have e2 : decide (8 < mn) = false := by simp; omega
          clear hR
          by_cases b3 : mx = -1
          · have e3 : (mx != -1) = false := by simpa using b3
            clear hbad b3 h9
            go_enter Tryz.func70, Tryz.ntmps70
            go_wp2_with fail
            refine HKI.out.mono ?_
            rintro e w2 ⟨rfl, hx2⟩
            have kb := HB.out.1.chg hx2 (fun h => h)
            obtain ⟨g0, f0, g1, f1, g2, f2, g3, f3, g4, f4⟩ := blk5_base kb
            have HX2 := Lib.hid hx2
            clear hx2 kb k0
            go_wp2_with fail
            go_loopg [3] m (fun g l3 wr => ∃ (i : Nat), i ≤ m ∧ Ext (w.alloc (.cells #[.int .i64 k, .string l, .slice a m cap, .int .i64 mn, .int .i64 mx] 28)) wr ∧ rchecksL (kids.drop i) = R ∧ l3 = .int .i64 i ∧ g = m - i)
            case atStart => exact ⟨0, Nat.zero_le _, HX2.out, HRR.out, rfl, rfl⟩
            case round =>
              clear g0 f0 g1 f1 g2 f2 g3 f3 g4 f4
              obtain ⟨i, hi, hx, hr, rfl, rfl⟩ := hrel
              have HX := Lib.hid hx
              have k2 := (HB.out.1.chg hx (fun h => h)).cell 2 _ rfl
              by_cases hin : i < m
              · have hin' : (i : Int) < m := by omega
                obtain ⟨u, hu⟩ : ∃ u, kids[i]? = some u := ⟨_, List.getElem?_eq_getElem (by rw [HM.out]; exact hin)⟩
                obtain ⟨x, ku, lu, au, nu, cu, mnu, mxu, rfl, htu, c0, c1, c2, c3, c4⟩ := kid_at (HK.out.1.ext (HB.out.2.trans hx)) (HK.out.2.ext (HB.out.2.trans hx) _ _) hu
                rw [rchecksL_drop hu] at hr
                have HC := Lib.hid (HI.out u (List.mem_of_getElem? hu) wr _ htu)
                obtain ⟨d, hd⟩ : ∃ d, rchecks u = d := ⟨_, rfl⟩
                rw [hd] at HC hr
                by_cases hd0 : d = 0
                · subst hd0
                  rw [if_pos rfl] at hr
                  have HR2 := Lib.hid hr
                  clear hx hr hu htu hd
                  go_wp2_with fail
                  refine HC.out.mono ?_
                  rintro e w3 ⟨rfl, hx3⟩
                  have HX3 := Lib.hid hx3
                  clear hx3
                  go_wp2_with fail
                  go_roundg (m - (i + 1))
                  case measure => omega
                  case rel => exact ⟨i + 1, by omega, HX.out.trans HX3.out, HR2.out, rfl, rfl⟩
                · rw [if_neg hd0] at hr
                  have ed : (d != 0) = true := by simpa using hd0
                  have HR2 := Lib.hid hr
                  clear hx hr hu htu hd hd0
                  go_wp2_with fail
                  refine HC.out.mono ?_
                  rintro e w3 ⟨rfl, hx3⟩
                  have HX3 := Lib.hid hx3
                  clear hx3
                  go_wp2_with fail
                  go_ret
                  exact ⟨congrArg (fun n => Ending.returned (.int .i64 n)) HR2.out, (HB.out.2.trans HX.out).trans HX3.out⟩
              · obtain rfl : i = m := by omega
                rw [← HM.out, drop_end] at hr
                rw [rchecksL] at hr
                subst hr
                go_wp2_with fail
                go_ret
                exact ⟨rfl, HB.out.2.trans HX.out⟩
          · have e3 : (mx != -1) = true := by simpa using b3
            have e4 : decide (mx < mn) = false := by simp; omega
            have e5 : decide (mx < 1) = false := by simp; omega
            have e6 : decide (8 < mx) = false := by simp; omega
            clear hbad b3 h9
            go_enter Tryz.func70, Tryz.ntmps70
            go_wp2_with fail
            refine HKI.out.mono ?_
            rintro e w2 ⟨rfl, hx2⟩
            have kb := HB.out.1.chg hx2 (fun h => h)
            obtain ⟨g0, f0, g1, f1, g2, f2, g3, f3, g4, f4⟩ := blk5_base kb
            have HX2 := Lib.hid hx2
            clear hx2 kb k0
            go_wp2_with fail
            go_loopg [3] m (fun g l3 wr => ∃ (i : Nat), i ≤ m ∧ Ext (w.alloc (.cells #[.int .i64 k, .string l, .slice a m cap, .int .i64 mn, .int .i64 mx] 28)) wr ∧ rchecksL (kids.drop i) = R ∧ l3 = .int .i64 i ∧ g = m - i)
            case atStart => exact ⟨0, Nat.zero_le _, HX2.out, HRR.out, rfl, rfl⟩
            case round =>
              clear g0 f0 g1 f1 g2 f2 g3 f3 g4 f4
              obtain ⟨i, hi, hx, hr, rfl, rfl⟩ := hrel
              have HX := Lib.hid hx
              have k2 := (HB.out.1.chg hx (fun h => h)).cell 2 _ rfl
              by_cases hin : i < m
              · have hin' : (i : Int) < m := by omega
                obtain ⟨u, hu⟩ : ∃ u, kids[i]? = some u := ⟨_, List.getElem?_eq_getElem (by rw [HM.out]; exact hin)⟩
                obtain ⟨x, ku, lu, au, nu, cu, mnu, mxu, rfl, htu, c0, c1, c2, c3, c4⟩ := kid_at (HK.out.1.ext (HB.out.2.trans hx)) (HK.out.2.ext (HB.out.2.trans hx) _ _) hu
                rw [rchecksL_drop hu] at hr
                have HC := Lib.hid (HI.out u (List.mem_of_getElem? hu) wr _ htu)
                obtain ⟨d, hd⟩ : ∃ d, rchecks u = d := ⟨_, rfl⟩
                rw [hd] at HC hr
                by_cases hd0 : d = 0
                · subst hd0
                  rw [if_pos rfl] at hr
                  have HR2 := Lib.hid hr
                  clear hx hr hu htu hd
                  go_wp2_with fail
                  refine HC.out.mono ?_
                  rintro e w3 ⟨rfl, hx3⟩
                  have HX3 := Lib.hid hx3
                  clear hx3
                  go_wp2_with fail
                  go_roundg (m - (i + 1))
                  case measure => omega
                  case rel => exact ⟨i + 1, by omega, HX.out.trans HX3.out, HR2.out, rfl, rfl⟩
                · rw [if_neg hd0] at hr
                  have ed : (d != 0) = true := by simpa using hd0
                  have HR2 := Lib.hid hr
                  clear hx hr hu htu hd hd0
                  go_wp2_with fail
                  refine HC.out.mono ?_
                  rintro e w3 ⟨rfl, hx3⟩
                  have HX3 := Lib.hid hx3
                  clear hx3
                  go_wp2_with fail
                  go_ret
                  exact ⟨congrArg (fun n => Ending.returned (.int .i64 n)) HR2.out, (HB.out.2.trans HX.out).trans HX3.out⟩
              · obtain rfl : i = m := by omega
                rw [← HM.out, drop_end] at hr
                rw [rchecksL] at hr
                subst hr
                go_wp2_with fail
                go_ret
                exact ⟨rfl, HB.out.2.trans HX.out⟩
      · have e9 : (k == 9) = false := by simpa using h9
        by_cases h23 : k = 2 ∨ k = 3
        · have hs2 : ((k == 2) = true) ∨ ((k == 2) = false ∧ (k == 3) = true) := by
            rcases h23 with rfl | rfl
            · left; rfl
            · right; exact ⟨rfl, rfl⟩
          by_cases hl : 1 ≤ l.size ∧ l.size ≤ 20
          · rw [if_neg (fun h => h.2 hl), if_neg (fun h => h9 h.1)] at hR
            have HRR := Lib.hid hR
            rw [decide_eq_true hl.1, decide_eq_true hl.2] at HNA
            clear hR h23 h9 hl
            rcases hs2 with s2 | ⟨s2, s3⟩
            all_goals
              go_enter Tryz.func70, Tryz.ntmps70
              go_wp2_with fail
              refine HKI.out.mono ?_
              rintro e w2 ⟨rfl, hx2⟩
              have kb := HB.out.1.chg hx2 (fun h => h)
              obtain ⟨g0, f0, g1, f1, g2, f2, g3, f3, g4, f4⟩ := blk5_base kb
              have HX2 := Lib.hid hx2
              clear hx2 kb k0
              go_wp2_with fail
              refine (HNA.out _).mono ?_
              rintro e w' ⟨rfl, rfl⟩
              go_wp2_with fail
              go_loopg [3] m (fun g l3 wr => ∃ (i : Nat), i ≤ m ∧ Ext (w.alloc (.cells #[.int .i64 k, .string l, .slice a m cap, .int .i64 mn, .int .i64 mx] 28)) wr ∧ rchecksL (kids.drop i) = R ∧ l3 = .int .i64 i ∧ g = m - i)
              case atStart => exact ⟨0, Nat.zero_le _, HX2.out, HRR.out, rfl, rfl⟩
              case round =>
                clear g0 f0 g1 f1 g2 f2 g3 f3 g4 f4
                obtain ⟨i, hi, hx, hr, rfl, rfl⟩ := hrel
                have HX := Lib.hid hx
                have k2 := (HB.out.1.chg hx (fun h => h)).cell 2 _ rfl
                by_cases hin : i < m
                · have hin' : (i : Int) < m := by omega
                  obtain ⟨u, hu⟩ : ∃ u, kids[i]? = some u := ⟨_, List.getElem?_eq_getElem (by rw [HM.out]; exact hin)⟩
                  obtain ⟨x, ku, lu, au, nu, cu, mnu, mxu, rfl, htu, c0, c1, c2, c3, c4⟩ := kid_at (HK.out.1.ext (HB.out.2.trans hx)) (HK.out.2.ext (HB.out.2.trans hx) _ _) hu
                  rw [rchecksL_drop hu] at hr
                  have HC := Lib.hid (HI.out u (List.mem_of_getElem? hu) wr _ htu)
                  obtain ⟨d, hd⟩ : ∃ d, rchecks u = d := ⟨_, rfl⟩
                  rw [hd] at HC hr
                  by_cases hd0 : d = 0
                  · subst hd0
                    rw [if_pos rfl] at hr
                    have HR2 := Lib.hid hr
                    clear hx hr hu htu hd
                    go_wp2_with fail
                    refine HC.out.mono ?_
                    rintro e w3 ⟨rfl, hx3⟩
                    have HX3 := Lib.hid hx3
                    clear hx3
                    go_wp2_with fail
                    go_roundg (m - (i + 1))
                    case measure => omega
                    case rel => exact ⟨i + 1, by omega, HX.out.trans HX3.out, HR2.out, rfl, rfl⟩
                  · rw [if_neg hd0] at hr
                    have ed : (d != 0) = true := by simpa using hd0
                    have HR2 := Lib.hid hr
                    clear hx hr hu htu hd hd0
                    go_wp2_with fail
                    refine HC.out.mono ?_
                    rintro e w3 ⟨rfl, hx3⟩
                    have HX3 := Lib.hid hx3
                    clear hx3
                    go_wp2_with fail
                    go_ret
                    exact ⟨congrArg (fun n => Ending.returned (.int .i64 n)) HR2.out, (HB.out.2.trans HX.out).trans HX3.out⟩
                · obtain rfl : i = m := by omega
                  rw [← HM.out, drop_end] at hr
                  rw [rchecksL] at hr
                  subst hr
                  go_wp2_with fail
                  go_ret
                  exact ⟨rfl, HB.out.2.trans HX.out⟩
          · rw [if_pos ⟨h23, hl⟩] at hR
            have hlf : (decide (1 ≤ l.size) && decide (l.size ≤ 20)) = false := by
              rw [Bool.eq_false_iff]; intro h; rw [Bool.and_eq_true, decide_eq_true_iff, decide_eq_true_iff] at h; exact hl h
            rw [hlf] at HNA
            subst hR
            clear h23 h9 hl hlf
            rcases hs2 with s2 | ⟨s2, s3⟩
            all_goals
              go_enter Tryz.func70, Tryz.ntmps70
              go_wp2_with fail
              refine HKI.out.mono ?_
              rintro e w2 ⟨rfl, hx2⟩
              have kb := HB.out.1.chg hx2 (fun h => h)
              obtain ⟨g0, f0, g1, f1, g2, f2, g3, f3, g4, f4⟩ := blk5_base kb
              have HX2 := Lib.hid hx2
              clear hx2 kb k0
              go_wp2_with fail
              refine (HNA.out _).mono ?_
              rintro e w' ⟨rfl, rfl⟩
              go_wp2_with fail
              go_ret
              exact ⟨rfl, HB.out.2.trans HX2.out⟩
        · rw [if_neg (fun h => h23 h.1), if_neg (fun h => h9 h.1)] at hR
          have HRR := Lib.hid hR
          have d2 : (k == 2) = false := by simp; omega
          have d3 : (k == 3) = false := by simp; omega
          clear hR h23 h9
          go_enter Tryz.func70, Tryz.ntmps70
          go_wp2_with fail
          refine HKI.out.mono ?_
          rintro e w2 ⟨rfl, hx2⟩
          have kb := HB.out.1.chg hx2 (fun h => h)
          obtain ⟨g0, f0, g1, f1, g2, f2, g3, f3, g4, f4⟩ := blk5_base kb
          have HX2 := Lib.hid hx2
          clear hx2 kb k0
          go_wp2_with fail
          go_loopg [3] m (fun g l3 wr => ∃ (i : Nat), i ≤ m ∧ Ext (w.alloc (.cells #[.int .i64 k, .string l, .slice a m cap, .int .i64 mn, .int .i64 mx] 28)) wr ∧ rchecksL (kids.drop i) = R ∧ l3 = .int .i64 i ∧ g = m - i)
          case atStart => exact ⟨0, Nat.zero_le _, HX2.out, HRR.out, rfl, rfl⟩
          case round =>
            clear g0 f0 g1 f1 g2 f2 g3 f3 g4 f4
            obtain ⟨i, hi, hx, hr, rfl, rfl⟩ := hrel
            have HX := Lib.hid hx
            have k2 := (HB.out.1.chg hx (fun h => h)).cell 2 _ rfl
            by_cases hin : i < m
            · have hin' : (i : Int) < m := by omega
              obtain ⟨u, hu⟩ : ∃ u, kids[i]? = some u := ⟨_, List.getElem?_eq_getElem (by rw [HM.out]; exact hin)⟩
              obtain ⟨x, ku, lu, au, nu, cu, mnu, mxu, rfl, htu, c0, c1, c2, c3, c4⟩ := kid_at (HK.out.1.ext (HB.out.2.trans hx)) (HK.out.2.ext (HB.out.2.trans hx) _ _) hu
              rw [rchecksL_drop hu] at hr
              have HC := Lib.hid (HI.out u (List.mem_of_getElem? hu) wr _ htu)
              obtain ⟨d, hd⟩ : ∃ d, rchecks u = d := ⟨_, rfl⟩
              rw [hd] at HC hr
              by_cases hd0 : d = 0
              · subst hd0
                rw [if_pos rfl] at hr
                have HR2 := Lib.hid hr
                clear hx hr hu htu hd
                go_wp2_with fail
                refine HC.out.mono ?_
                rintro e w3 ⟨rfl, hx3⟩
                have HX3 := Lib.hid hx3
                clear hx3
                go_wp2_with fail
                go_roundg (m - (i + 1))
                case measure => omega
                case rel => exact ⟨i + 1, by omega, HX.out.trans HX3.out, HR2.out, rfl, rfl⟩
              · rw [if_neg hd0] at hr
                have ed : (d != 0) = true := by simpa using hd0
                have HR2 := Lib.hid hr
                clear hx hr hu htu hd hd0
                go_wp2_with fail
                refine HC.out.mono ?_
                rintro e w3 ⟨rfl, hx3⟩
                have HX3 := Lib.hid hx3
                clear hx3
                go_wp2_with fail
                go_ret
                exact ⟨congrArg (fun n => Ending.returned (.int .i64 n)) HR2.out, (HB.out.2.trans HX.out).trans HX3.out⟩
            · obtain rfl : i = m := by omega
              rw [← HM.out, drop_end] at hr
              rw [rchecksL] at hr
              subst hr
              go_wp2_with fail
              go_ret
              exact ⟨rfl, HB.out.2.trans HX.out⟩
end Go.Proofs.YtkhllknahjmciaaGreat

/-! The document's own answer on paths (chapter 7), whole; how much a path has within. -/
namespace Go.Proofs.YtkhllknahjmciaaGreat
open Go.RowKit
set_option linter.unusedVariables false
set_option linter.unusedSimpArgs false

def rcheck (t : Tr) : Int :=
  if 20 < rdeep t 1 then 4
  else if rchecks t = 0 ∧ 60 < (if 40 < rdeep t 1 then 1099511627776 else rsize t 0) then 5 else rchecks t
def rSizeT (t : Tr) : Int := if 40 < rdeep t 1 then 1099511627776 else rsize t 0
set_option maxRecDepth 100000 in
set_option maxHeartbeats 1000000 in
theorem rSize_any (t : Tr) (w : World) (cs : List Value) (h : TrC w t cs) :
    Calls Tryz.prog 21 #[.agg cs.toArray] w fun e w' => e = .returned (.int .i64 (rSizeT t)) ∧ Ext w w' := by
  obtain ⟨k, l, a, n, cap, mn, mx, rfl⟩ := h.form
  have hb := Blk.new w #[.int .i64 k, .string l, .slice a n cap, .int .i64 mn, .int .i64 mx] 28
  have hw1 : Ext w (w.alloc (.cells #[.int .i64 k, .string l, .slice a n cap, .int .i64 mn, .int .i64 mx] 28)) := (Chg.refl w).alloc _
  have HC := Lib.hid (rDeep_any t _ _ (h.ext hw1))
  have HS := Lib.hid (fun W (hW : Ext w W) => rsize_any t W _ 0 (TrC.ext hW _ _ h) (by omega) (by omega))
  have HB := Lib.hid (And.intro hb hw1)
  clear hb hw1 h
  unfold rSizeT
  generalize rdeep t 1 = d at HC ⊢
  by_cases hd : 40 < d
  · rw [if_pos hd]
    have e1 : decide (40 < d) = true := by simpa using hd
    clear HS hd
    go_enter Tryz.func21, Tryz.ntmps21
    go_wp2_with fail
    refine HC.out.mono ?_
    rintro e w2 ⟨rfl, hx⟩
    go_wp2_with fail
    go_ret
    exact ⟨rfl, HB.out.2.trans hx⟩
  · rw [if_neg hd]
    have e1 : decide (40 < d) = false := by simpa using hd
    clear hd
    go_enter Tryz.func21, Tryz.ntmps21
    go_wp2_with fail
    refine HC.out.mono ?_
    rintro e w2 ⟨rfl, hx⟩
    obtain ⟨g0, f0, g1, f1, g2, f2, g3, f3, g4, f4⟩ := blk5_base (HB.out.1.chg hx (fun h => h))
    have HX := Lib.hid (HB.out.2.trans hx)
    clear hx
    go_wp2_with fail
    refine (HS.out _ HX.out).mono ?_
    rintro e w3 ⟨rfl, hx3⟩
    go_wp2_with fail
    go_ret
    exact ⟨rfl, HX.out.trans hx3⟩
set_option maxRecDepth 100000 in
set_option maxHeartbeats 1000000 in
theorem rcheck_any (t : Tr) (w : World) (cs : List Value) (h : TrC w t cs) :
    Calls Tryz.prog 31 #[.agg cs.toArray] w fun e w' => e = .returned (.int .i64 (rcheck t)) ∧ Ext w w' := by
  obtain ⟨k, l, a, n, cap, mn, mx, rfl⟩ := h.form
  have hb := Blk.new w #[.int .i64 k, .string l, .slice a n cap, .int .i64 mn, .int .i64 mx] 28
  have hw1 : Ext w (w.alloc (.cells #[.int .i64 k, .string l, .slice a n cap, .int .i64 mn, .int .i64 mx] 28)) := (Chg.refl w).alloc _
  have HC := Lib.hid (rDeep_any t _ _ (h.ext hw1))
  have HS := Lib.hid (fun W (hW : Ext w W) => rSize_any t W _ (TrC.ext hW _ _ h))
  have HK := Lib.hid (fun W (hW : Ext w W) => rchecks_any t W _ (TrC.ext hW _ _ h))
  have HB := Lib.hid (And.intro hb hw1)
  clear hb hw1 h
  have hR : rcheck t = if 20 < rdeep t 1 then 4 else if rchecks t = 0 ∧ 60 < rSizeT t then 5 else rchecks t := rfl
  rw [hR]
  clear hR
  generalize rdeep t 1 = d at HC ⊢
  generalize rSizeT t = s at HS ⊢
  generalize rchecks t = c at HK ⊢
  by_cases hd : 20 < d
  · rw [if_pos hd]
    have e1 : decide (20 < d) = true := by simpa using hd
    clear HS HK hd
    go_enter Tryz.func31, Tryz.ntmps31
    go_wp2_with fail
    refine HC.out.mono ?_
    rintro e w2 ⟨rfl, hx⟩
    go_wp2_with fail
    go_ret
    exact ⟨rfl, HB.out.2.trans hx⟩
  · rw [if_neg hd]
    have e1 : decide (20 < d) = false := by simpa using hd
    obtain ⟨R, hR⟩ : ∃ R, (if c = 0 ∧ 60 < s then (5 : Int) else c) = R := ⟨_, rfl⟩
    rw [hR]
    have HR := Lib.hid hR
    clear hd hR
    go_enter Tryz.func31, Tryz.ntmps31
    go_wp2_with fail
    refine HC.out.mono ?_
    rintro e w2 ⟨rfl, hx⟩
    have kb := HB.out.1.chg hx (fun h => h)
    obtain ⟨g0, f0, g1, f1, g2, f2, g3, f3, g4, f4⟩ := blk5_base kb
    have HX := Lib.hid (HB.out.2.trans hx)
    clear hx
    go_wp2_with fail
    refine (HK.out _ HX.out).mono ?_
    rintro e w3 ⟨rfl, hx3⟩
    obtain ⟨g0, f0, g1, f1, g2, f2, g3, f3, g4, f4⟩ := blk5_base (kb.chg hx3 (fun h => h))
    have HX3 := Lib.hid (HX.out.trans hx3)
    clear hx3 kb
    by_cases hc : c = 0
    · subst hc
      by_cases hs : 60 < s
      · have HR2 : Hid (5 = R) := Lib.hid ((if_pos ⟨rfl, hs⟩).symm.trans HR.out)
        have e2 : decide (60 < s) = true := by simpa using hs
        clear hs
        go_wp2_with fail
        refine (HS.out _ HX3.out).mono ?_
        rintro e w4 ⟨rfl, hx4⟩
        go_wp2_with fail
        go_ret
        exact ⟨congrArg (fun n => Ending.returned (.int .i64 n)) HR2.out, HX3.out.trans hx4⟩
      · have HR2 : Hid (0 = R) := Lib.hid ((if_neg (fun h => hs h.2)).symm.trans HR.out)
        have e2 : decide (60 < s) = false := by simpa using hs
        clear hs
        go_wp2_with fail
        refine (HS.out _ HX3.out).mono ?_
        rintro e w4 ⟨rfl, hx4⟩
        go_wp2_with fail
        go_ret
        exact ⟨congrArg (fun n => Ending.returned (.int .i64 n)) HR2.out, HX3.out.trans hx4⟩
    · have HR2 : Hid (c = R) := Lib.hid ((if_neg (fun h => hc h.1)).symm.trans HR.out)
      have e2 : (c == 0) = false := by simpa using hc
      go_wp2_with fail
      go_ret
      exact ⟨congrArg (fun n => Ending.returned (.int .i64 n)) HR2.out, HX3.out⟩
/-- A sum, held at a limit. -/
def sumH : Int → List Int → Int
  | n, [] => n
  | n, m :: ms => if 1099511627776 < n ∨ 1099511627776 - n < m then 1099511627776 else sumH (n + m) ms
theorem sumH_drop {ms : List Int} {i : Nat} {m : Int} (h : ms[i]? = some m) (n : Int) : sumH n (ms.drop i) = if 1099511627776 < n ∨ 1099511627776 - n < m then 1099511627776 else sumH (n + m) (ms.drop (i + 1)) := by
  obtain ⟨hi, rfl⟩ := List.getElem?_eq_some_iff.1 h
  rw [List.drop_eq_getElem_cons hi, sumH]
set_option maxRecDepth 100000 in
set_option maxHeartbeats 1000000 in
theorem sum_any (n : Int) (ms : List Int) (w : World) (a : Option Addr) (cap : Nat) (hc : Cells w a ms.length cap (ms.map (Value.int .i64))) (h0 : 0 ≤ n) (h1 : n ≤ 1099511627776) (hm : ∀ m ∈ ms, 0 ≤ m) :
    Calls Tryz.prog 78 #[.int .i64 n, .slice a ms.length cap] w fun e w' => e = .returned (.int .i64 (sumH n ms)) ∧ w' = w := by
  obtain ⟨R, hR⟩ : ∃ R, sumH n ms = R := ⟨_, rfl⟩
  rw [hR]
  have hcap := hc.1
  have hmax := hc.2.1
  unfold maxLen at hmax
  have HK := Lib.hid (And.intro hc (And.intro hm hR))
  clear hc hm hR
  obtain ⟨m, hm⟩ : ∃ m, ms.length = m := ⟨_, rfl⟩
  rw [hm] at hcap ⊢
  have HM := Lib.hid hm
  clear hm
  go_enter Tryz.func78, Tryz.ntmps78
  go_wp2_with fail
  go_loopg [0, 5] m (fun g l0 l5 wr => ∃ (i : Nat) (c : Int), wr = w ∧ i ≤ m ∧ 0 ≤ c ∧ c ≤ 1099511627776 ∧ sumH c (ms.drop i) = R ∧ l0 = .int .i64 c ∧ l5 = .int .i64 i ∧ g = m - i)
  case atStart => exact ⟨0, n, rfl, Nat.zero_le _, h0, h1, HK.out.2.2, rfl, rfl, rfl⟩
  case round =>
    obtain ⟨i, c, rfl, hi, hc0, hc1, hr, rfl, rfl, rfl⟩ := hrel
    by_cases hin : i < m
    · have hin' : (i : Int) < m := by omega
      obtain ⟨u, hu⟩ : ∃ u, ms[i]? = some u := ⟨_, List.getElem?_eq_getElem (by rw [HM.out]; exact hin)⟩
      obtain ⟨x, rfl, hx⟩ := HK.out.1.at i (.int .i64 u) (by simp [hu])
      have hu0 := HK.out.2.1 u (List.mem_of_getElem? hu)
      rw [sumH_drop hu] at hr
      have e1 : decide (1099511627776 < c) = false := by simp; omega
      by_cases h2 : 1099511627776 - c < u
      · have e2 : decide (1099511627776 - c < u) = true := by simpa using h2
        rw [if_pos (.inr h2)] at hr
        subst hr
        clear hu h2
        go_wp2_with fail
        go_ret
        exact ⟨rfl, rfl⟩
      · have e2 : decide (1099511627776 - c < u) = false := by simpa using h2
        rw [if_neg (by omega)] at hr
        have hcu : c + u ≤ 1099511627776 := by omega
        have HR := Lib.hid hr
        clear hr hu h2
        go_wp2_with fail
        go_roundg (m - (i + 1))
        case measure => omega
        case rel => exact ⟨i + 1, c + u, rfl, by omega, by omega, hcu, HR.out, rfl, rfl, rfl⟩
    · obtain rfl : i = m := by omega
      rw [← HM.out, drop_end, sumH] at hr
      subst hr
      go_wp2_with fail
      go_ret
      exact ⟨rfl, rfl⟩
end Go.Proofs.YtkhllknahjmciaaGreat
