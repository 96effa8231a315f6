/-
  Paths (the document's own): may the word be empty? Paths (the document's own): the empty word, asked. The tokens of a graph's edges (the document's own). Graphs (the document's own): one node more, one edge more.
-/
import Derived.Test.YtkhllknahjmciaaGreatM31
/-! Paths (the document's own): may the word be empty? -/
namespace Go.Proofs.YtkhllknahjmciaaGreat
open Go.RowKit
set_option linter.unusedVariables false
set_option linter.unusedSimpArgs false

set_option maxRecDepth 100000 in
set_option maxHeartbeats 1000000 in
theorem nullable_any (t : Tr) (w : World) (cs : List Value) (h : TrC w t cs) (hv : rchecks t = 0) :
    Calls Tryz.prog 74 #[.agg cs.toArray] w fun e w' => e = .returned (.bool (rnull t)) ∧ Ext w w' := by
  induction t using Tr.ind generalizing w cs with
  | node k l kids mn mx ih =>
    obtain ⟨a, cap, css, rfl, hc, ht⟩ := TrC_node.1 h
    have hb := Blk.new w #[.int .i64 k, .string l, .slice a kids.length cap, .int .i64 mn, .int .i64 mx] 28
    have hw1 : Ext w (w.alloc (.cells #[.int .i64 k, .string l, .slice a kids.length cap, .int .i64 mn, .int .i64 mx] 28)) := (Chg.refl w).alloc _
    have hcap := hc.1
    have hmax := hc.2.1
    unfold maxLen at hmax
    obtain ⟨v1, v2, v3, v4⟩ := valid_parts hv
    obtain ⟨u1, u2, u3, u4, u5⟩ := kind_of_kids v1
    obtain ⟨R, hR⟩ : ∃ R, rnull (.node k l kids mn mx) = R := ⟨_, rfl⟩
    rw [hR]
    rw [rnull] at hR
    have HI := Lib.hid (And.intro ih v4)
    have hone : 6 ≤ k → kids.length = 1 := u5
    clear hv v1 v2 v3 v4 u3 u4 u5 ih
    have hk : k = 1 ∨ k = 2 ∨ k = 3 ∨ k = 4 ∨ k = 5 ∨ k = 6 ∨ k = 7 ∨ k = 8 ∨ k = 9 := by omega
    clear u1 u2
    have HK := Lib.hid (And.intro hc ht)
    have HB := Lib.hid (And.intro hb hw1)
    clear hc ht hb hw1 h
    obtain ⟨m, hm⟩ : ∃ m, kids.length = m := ⟨_, rfl⟩
    rw [hm] at HB hcap ⊢
    have HM := Lib.hid hm
    clear hm
    rcases hk with rfl | rfl | rfl | rfl | rfl | rfl | rfl | rfl | rfl
    · have hR2 : true = R := by rw [← hR]; simp
      subst hR2
      clear hR hone
      go_enter Tryz.func74, Tryz.ntmps74
      go_wp2_with fail
      go_ret
      exact ⟨rfl, HB.out.2⟩
    · have hR2 : false = R := by rw [← hR]; simp
      subst hR2
      clear hR hone
      go_enter Tryz.func74, Tryz.ntmps74
      go_wp2_with fail
      go_ret
      exact ⟨rfl, HB.out.2⟩
    · have hR2 : false = R := by rw [← hR]; simp
      subst hR2
      clear hR hone
      go_enter Tryz.func74, Tryz.ntmps74
      go_wp2_with fail
      go_ret
      exact ⟨rfl, HB.out.2⟩
    · rw [if_neg (by omega), if_pos rfl] at hR
      have HRR := Lib.hid hR
      clear hR hone
      go_enter Tryz.func74, Tryz.ntmps74
      go_wp2_with fail
      go_loopg [3] m (fun g l3 wr => ∃ (i : Nat), i ≤ m ∧ Ext (w.alloc (.cells #[.int .i64 4, .string l, .slice a m cap, .int .i64 mn, .int .i64 mx] 28)) wr ∧ rnullAll (kids.drop i) = R ∧ l3 = .int .i64 i ∧ g = m - i)
      case atStart => exact ⟨0, Nat.zero_le _, Chg.refl _, HRR.out, rfl, rfl⟩
      case round =>
        obtain ⟨i, hi, hx, hr, rfl, rfl⟩ := hrel
        have HX := Lib.hid hx
        have k2 := (HB.out.1.chg hx (fun h => h)).cell 2 _ rfl
        by_cases hin : i < m
        · have hin' : (i : Int) < m := by omega
          obtain ⟨u, hu⟩ : ∃ u, kids[i]? = some u := ⟨_, List.getElem?_eq_getElem (by rw [HM.out]; exact hin)⟩
          obtain ⟨x, ku, lu, au, nu, cu, mnu, mxu, rfl, htu, c0, c1, c2, c3, c4⟩ := kid_at (HK.out.1.ext (HB.out.2.trans hx)) (HK.out.2.ext (HB.out.2.trans hx) _ _) hu
          rw [rnullAll_drop hu] at hr
          have HC := Lib.hid (HI.out.1 u (List.mem_of_getElem? hu) wr _ htu (HI.out.2 u (List.mem_of_getElem? hu)))
          obtain ⟨d, hd⟩ : ∃ d, rnull u = d := ⟨_, rfl⟩
          rw [hd] at HC hr
          clear hx hu htu hd
          cases d with
          | false =>
            rw [Bool.false_and] at hr
            subst hr
            go_wp2_with fail
            refine HC.out.mono ?_
            rintro e w3 ⟨rfl, hx3⟩
            have HX3 := Lib.hid hx3
            clear hx3
            go_wp2_with fail
            go_ret
            exact ⟨rfl, (HB.out.2.trans HX.out).trans HX3.out⟩
          | true =>
            rw [Bool.true_and] at hr
            have HR2 := Lib.hid hr
            clear hr
            go_wp2_with fail
            refine HC.out.mono ?_
            rintro e w3 ⟨rfl, hx3⟩
            have HX3 := Lib.hid hx3
            clear hx3
            go_wp2_with fail
            go_roundg (m - (i + 1))
            case measure => omega
            case rel => exact ⟨i + 1, by omega, HX.out.trans HX3.out, HR2.out, rfl, rfl⟩
        · obtain rfl : i = m := by omega
          rw [← HM.out, drop_end] at hr
          rw [rnullAll] at hr
          subst hr
          go_wp2_with fail
          go_ret
          exact ⟨rfl, HB.out.2.trans HX.out⟩
    · rw [if_neg (by omega), if_neg (by omega), if_pos (by omega)] at hR
      have HRR := Lib.hid hR
      clear hR hone
      go_enter Tryz.func74, Tryz.ntmps74
      go_wp2_with fail
      go_loopg [4] m (fun g l3 wr => ∃ (i : Nat), i ≤ m ∧ Ext (w.alloc (.cells #[.int .i64 5, .string l, .slice a m cap, .int .i64 mn, .int .i64 mx] 28)) wr ∧ rnullAny (kids.drop i) = R ∧ l3 = .int .i64 i ∧ g = m - i)
      case atStart => exact ⟨0, Nat.zero_le _, Chg.refl _, HRR.out, rfl, rfl⟩
      case round =>
        obtain ⟨i, hi, hx, hr, rfl, rfl⟩ := hrel
        have HX := Lib.hid hx
        have k2 := (HB.out.1.chg hx (fun h => h)).cell 2 _ rfl
        by_cases hin : i < m
        · have hin' : (i : Int) < m := by omega
          obtain ⟨u, hu⟩ : ∃ u, kids[i]? = some u := ⟨_, List.getElem?_eq_getElem (by rw [HM.out]; exact hin)⟩
          obtain ⟨x, ku, lu, au, nu, cu, mnu, mxu, rfl, htu, c0, c1, c2, c3, c4⟩ := kid_at (HK.out.1.ext (HB.out.2.trans hx)) (HK.out.2.ext (HB.out.2.trans hx) _ _) hu
          rw [rnullAny_drop hu] at hr
          have HC := Lib.hid (HI.out.1 u (List.mem_of_getElem? hu) wr _ htu (HI.out.2 u (List.mem_of_getElem? hu)))
          obtain ⟨d, hd⟩ : ∃ d, rnull u = d := ⟨_, rfl⟩
          rw [hd] at HC hr
          clear hx hu htu hd
          cases d with
          | true =>
            rw [Bool.true_or] at hr
            subst hr
            go_wp2_with fail
            refine HC.out.mono ?_
            rintro e w3 ⟨rfl, hx3⟩
            have HX3 := Lib.hid hx3
            clear hx3
            go_wp2_with fail
            go_ret
            exact ⟨rfl, (HB.out.2.trans HX.out).trans HX3.out⟩
          | false =>
            rw [Bool.false_or] at hr
            have HR2 := Lib.hid hr
            clear hr
            go_wp2_with fail
            refine HC.out.mono ?_
            rintro e w3 ⟨rfl, hx3⟩
            have HX3 := Lib.hid hx3
            clear hx3
            go_wp2_with fail
            go_roundg (m - (i + 1))
            case measure => omega
            case rel => exact ⟨i + 1, by omega, HX.out.trans HX3.out, HR2.out, rfl, rfl⟩
        · obtain rfl : i = m := by omega
          rw [← HM.out, drop_end] at hr
          rw [rnullAny] at hr
          subst hr
          go_wp2_with fail
          go_ret
          exact ⟨rfl, HB.out.2.trans HX.out⟩
    · have hR2 : true = R := by rw [← hR]; simp
      subst hR2
      clear hR hone
      go_enter Tryz.func74, Tryz.ntmps74
      go_wp2_with fail
      go_ret
      exact ⟨rfl, HB.out.2⟩
    · rw [if_neg (by omega), if_neg (by omega), if_pos (by omega)] at hR
      obtain rfl : m = 1 := (HM.out.symm.trans (hone (by omega)))
      obtain ⟨u, hu⟩ : ∃ u, kids[0]? = some u := ⟨_, List.getElem?_eq_getElem (by rw [HM.out]; omega)⟩
      obtain ⟨x, ku, lu, au, nu, cu, mnu, mxu, rfl, htu, c0, c1, c2, c3, c4⟩ := kid_at (HK.out.1.ext HB.out.2) (HK.out.2.ext HB.out.2 _ _) hu
      rw [Nat.zero_mul, add_zero] at c0 c1 c2 c3 c4
      obtain ⟨v, hv⟩ : ∃ v, kids = [v] := List.length_eq_one_iff.1 HM.out
      have huv : u = v := by rw [hv] at hu; simpa using hu.symm
      have hR3 : rnull u = R := by rw [← hR, hv, huv]; simp [rnullAny]
      have HC := Lib.hid (HI.out.1 u (List.mem_of_getElem? hu) _ _ htu (HI.out.2 u (List.mem_of_getElem? hu)))
      have HRR := Lib.hid hR3
      obtain ⟨d, hd⟩ : ∃ d, rnull u = d := ⟨_, rfl⟩
      rw [hd] at HC HRR
      clear hR hR3 hu htu hv huv hd hone
      go_enter Tryz.func74, Tryz.ntmps74
      go_wp2_with fail
      refine HC.out.mono ?_
      rintro e w3 ⟨rfl, hx3⟩
      go_wp2_with fail
      go_ret
      exact ⟨congrArg (fun b => Ending.returned (.bool b)) HRR.out, HB.out.2.trans hx3⟩
    · have hR2 : true = R := by rw [← hR]; simp
      subst hR2
      clear hR hone
      go_enter Tryz.func74, Tryz.ntmps74
      go_wp2_with fail
      go_ret
      exact ⟨rfl, HB.out.2⟩
    · rw [if_neg (by omega), if_neg (by omega), if_neg (by omega), if_pos rfl] at hR
      by_cases h0 : mn = 0
      · subst h0
        simp only [decide_true, Bool.true_or] at hR
        subst hR
        clear hone
        go_enter Tryz.func74, Tryz.ntmps74
        go_wp2_with fail
        go_ret
        exact ⟨rfl, HB.out.2⟩
      · have e0 : (mn == 0) = false := by simpa using h0
        rw [decide_eq_false h0, Bool.false_or] at hR
        obtain rfl : m = 1 := (HM.out.symm.trans (hone (by omega)))
        obtain ⟨u, hu⟩ : ∃ u, kids[0]? = some u := ⟨_, List.getElem?_eq_getElem (by rw [HM.out]; omega)⟩
        obtain ⟨x, ku, lu, au, nu, cu, mnu, mxu, rfl, htu, c0, c1, c2, c3, c4⟩ := kid_at (HK.out.1.ext HB.out.2) (HK.out.2.ext HB.out.2 _ _) hu
        rw [Nat.zero_mul, add_zero] at c0 c1 c2 c3 c4
        obtain ⟨v, hv⟩ : ∃ v, kids = [v] := List.length_eq_one_iff.1 HM.out
        have huv : u = v := by rw [hv] at hu; simpa using hu.symm
        have hR3 : rnull u = R := by rw [← hR, hv, huv]; simp [rnullAny]
        have HC := Lib.hid (HI.out.1 u (List.mem_of_getElem? hu) _ _ htu (HI.out.2 u (List.mem_of_getElem? hu)))
        have HRR := Lib.hid hR3
        obtain ⟨d, hd⟩ : ∃ d, rnull u = d := ⟨_, rfl⟩
        rw [hd] at HC HRR
        clear hR hR3 hu htu hv huv hd hone
        go_enter Tryz.func74, Tryz.ntmps74
        go_wp2_with fail
        refine HC.out.mono ?_
        rintro e w3 ⟨rfl, hx3⟩
        go_wp2_with fail
        go_ret
        exact ⟨congrArg (fun b => Ending.returned (.bool b)) HRR.out, HB.out.2.trans hx3⟩
end Go.Proofs.YtkhllknahjmciaaGreat

/-! Paths (the document's own): the empty word, asked. -/
namespace Go.Proofs.YtkhllknahjmciaaGreat
open Go.RowKit
set_option linter.unusedVariables false
set_option linter.unusedSimpArgs false

def BoolPost (w : World) (e : Ending) (w' : World) : Prop := ∃ b, e = .returned (.bool b) ∧ Ext w w'
set_option maxRecDepth 100000 in
set_option maxHeartbeats 1000000 in
theorem is_any (t : Tr) (w : World) (cs : List Value) (at' : Int) (h : TrC w t cs) (hv : rchecks t = 0) (h0 : 1 ≤ at') (h1 : at' + hgt t ≤ 60) :
    Calls Tryz.prog 159 #[.agg cs.toArray, .int .i64 at'] w (BoolPost w) := by
  induction t using Tr.ind generalizing w cs at' with
  | node k l kids mn mx ih =>
    obtain ⟨a, cap, css, rfl, hc, ht⟩ := TrC_node.1 h
    have hb := Blk.new w #[.int .i64 k, .string l, .slice a kids.length cap, .int .i64 mn, .int .i64 mx] 28
    have hw1 : Ext w (w.alloc (.cells #[.int .i64 k, .string l, .slice a kids.length cap, .int .i64 mn, .int .i64 mx] 28)) := (Chg.refl w).alloc _
    have hcap := hc.1
    have hmax := hc.2.1
    unfold maxLen at hmax
    obtain ⟨v1, v2, v3, v4⟩ := valid_parts hv
    obtain ⟨u1, u2, u3, u4, u5⟩ := kind_of_kids v1
    have hkid : ∀ u ∈ kids, hgt u + 1 ≤ hgt (.node k l kids mn mx) := fun u hu => hgt_kid hu
    have hp := hgt_pos (.node k l kids mn mx)
    have HI := Lib.hid (fun u hu W c a' (hc : TrC W u c) (ha : 1 ≤ a') (hb : a' ≤ at' + 1) => ih u hu W c a' hc (v4 u hu) ha (by have := hkid u hu; omega))
    have hk : k = 1 ∨ k = 2 ∨ k = 3 ∨ k = 4 ∨ k = 5 ∨ k = 6 ∨ k = 7 ∨ k = 8 ∨ k = 9 := by omega
    have e4 : decide (400 < at') = false := by simp; omega
    have h2 : at' ≤ 59 := by omega
    clear hv v1 v2 v3 v4 u1 u2 u3 u4 u5 ih hkid hp h1
    have HK := Lib.hid (And.intro hc ht)
    have HB := Lib.hid (And.intro hb hw1)
    clear hc ht hb hw1 h
    obtain ⟨m, hm⟩ : ∃ m, kids.length = m := ⟨_, rfl⟩
    rw [hm] at HB hcap ⊢
    have HM := Lib.hid hm
    clear hm
    rcases hk with rfl | rfl | rfl | rfl | rfl | rfl | rfl | rfl | rfl
    · by_cases hmn : (m : Int) = 0
      · have e1 : ((m : Int) != 0) = false := by simpa using hmn
        go_enter Tryz.func159, Tryz.ntmps159
        go_wp2_with fail
        go_loopg [6] m (fun g l6 wr => ∃ (i : Nat), i ≤ m ∧ Ext (w.alloc (.cells #[.int .i64 1, .string l, .slice a m cap, .int .i64 mn, .int .i64 mx] 28)) wr ∧ l6 = .int .i64 i ∧ g = m - i)
        case atStart => exact ⟨0, Nat.zero_le _, Chg.refl _, rfl, rfl⟩
        case round =>
          obtain ⟨i, hi, hx, rfl, rfl⟩ := hrel
          have HX := Lib.hid hx
          have k2 := (HB.out.1.chg hx (fun h => h)).cell 2 _ rfl
          by_cases hin : i < m
          · omega
          · have hin' : ¬ (i : Int) < 0 := by omega
            clear hx
            go_wp2_with fail
            go_ret
            exact ⟨true, rfl, HB.out.2.trans HX.out⟩
      · have e1 : ((m : Int) != 0) = true := by simpa using hmn
        go_enter Tryz.func159, Tryz.ntmps159
        go_wp2_with fail
        go_ret
        exact ⟨false, rfl, HB.out.2⟩
    · by_cases hmn : (m : Int) = 0
      · have e1 : ((m : Int) != 0) = false := by simpa using hmn
        go_enter Tryz.func159, Tryz.ntmps159
        go_wp2_with fail
        go_loopg [6] m (fun g l6 wr => ∃ (i : Nat), i ≤ m ∧ Ext (w.alloc (.cells #[.int .i64 2, .string l, .slice a m cap, .int .i64 mn, .int .i64 mx] 28)) wr ∧ l6 = .int .i64 i ∧ g = m - i)
        case atStart => exact ⟨0, Nat.zero_le _, Chg.refl _, rfl, rfl⟩
        case round =>
          obtain ⟨i, hi, hx, rfl, rfl⟩ := hrel
          have HX := Lib.hid hx
          have k2 := (HB.out.1.chg hx (fun h => h)).cell 2 _ rfl
          by_cases hin : i < m
          · omega
          · have hin' : ¬ (i : Int) < 0 := by omega
            clear hx
            go_wp2_with fail
            go_ret
            exact ⟨true, rfl, HB.out.2.trans HX.out⟩
      · have e1 : ((m : Int) != 0) = true := by simpa using hmn
        go_enter Tryz.func159, Tryz.ntmps159
        go_wp2_with fail
        go_ret
        exact ⟨false, rfl, HB.out.2⟩
    · by_cases hmn : (m : Int) = 0
      · have e1 : ((m : Int) != 0) = false := by simpa using hmn
        go_enter Tryz.func159, Tryz.ntmps159
        go_wp2_with fail
        go_loopg [6] m (fun g l6 wr => ∃ (i : Nat), i ≤ m ∧ Ext (w.alloc (.cells #[.int .i64 3, .string l, .slice a m cap, .int .i64 mn, .int .i64 mx] 28)) wr ∧ l6 = .int .i64 i ∧ g = m - i)
        case atStart => exact ⟨0, Nat.zero_le _, Chg.refl _, rfl, rfl⟩
        case round =>
          obtain ⟨i, hi, hx, rfl, rfl⟩ := hrel
          have HX := Lib.hid hx
          have k2 := (HB.out.1.chg hx (fun h => h)).cell 2 _ rfl
          by_cases hin : i < m
          · omega
          · have hin' : ¬ (i : Int) < 0 := by omega
            clear hx
            go_wp2_with fail
            go_ret
            exact ⟨true, rfl, HB.out.2.trans HX.out⟩
      · have e1 : ((m : Int) != 0) = true := by simpa using hmn
        go_enter Tryz.func159, Tryz.ntmps159
        go_wp2_with fail
        go_ret
        exact ⟨false, rfl, HB.out.2⟩
    · by_cases hmn : (m : Int) = 2
      · have e1 : ((m : Int) != 2) = false := by simpa using hmn
        go_enter Tryz.func159, Tryz.ntmps159
        go_wp2_with fail
        go_loopg [6] m (fun g l6 wr => ∃ (i : Nat), i ≤ m ∧ Ext (w.alloc (.cells #[.int .i64 4, .string l, .slice a m cap, .int .i64 mn, .int .i64 mx] 28)) wr ∧ l6 = .int .i64 i ∧ g = m - i)
        case atStart => exact ⟨0, Nat.zero_le _, Chg.refl _, rfl, rfl⟩
        case round =>
          obtain ⟨i, hi, hx, rfl, rfl⟩ := hrel
          have HX := Lib.hid hx
          have k2 := (HB.out.1.chg hx (fun h => h)).cell 2 _ rfl
          by_cases hin : i < m
          · have hin' : (i : Int) < 2 := by omega
            have hin2 : (i : Int) < m := by omega
            obtain ⟨u, hu⟩ : ∃ u, kids[i]? = some u := ⟨_, List.getElem?_eq_getElem (by rw [HM.out]; exact hin)⟩
            obtain ⟨x, ku, lu, au, nu, cu, mnu, mxu, rfl, htu, c0, c1, c2, c3, c4⟩ := kid_at (HK.out.1.ext (HB.out.2.trans hx)) (HK.out.2.ext (HB.out.2.trans hx) _ _) hu
            have HC := Lib.hid (HI.out u (List.mem_of_getElem? hu) wr _ (at' + 1) htu (by omega) (by omega))
            clear hx hu htu
            go_wp2_with fail
            refine HC.out.mono ?_
            rintro e w3 ⟨d, rfl, hx3⟩
            have HX3 := Lib.hid hx3
            clear hx3
            cases d with
            | false =>
              go_wp2_with fail
              go_ret
              exact ⟨false, rfl, (HB.out.2.trans HX.out).trans HX3.out⟩
            | true =>
              go_wp2_with fail
              go_roundg (m - (i + 1))
              case measure => omega
              case rel => exact ⟨i + 1, by omega, HX.out.trans HX3.out, rfl, rfl⟩
          · have hin' : ¬ (i : Int) < 2 := by omega
            clear hx
            go_wp2_with fail
            go_ret
            exact ⟨true, rfl, HB.out.2.trans HX.out⟩
      · have e1 : ((m : Int) != 2) = true := by simpa using hmn
        go_enter Tryz.func159, Tryz.ntmps159
        go_wp2_with fail
        go_ret
        exact ⟨false, rfl, HB.out.2⟩
    · by_cases hmn : (m : Int) = 2
      · have e1 : ((m : Int) != 2) = false := by simpa using hmn
        go_enter Tryz.func159, Tryz.ntmps159
        go_wp2_with fail
        go_loopg [6] m (fun g l6 wr => ∃ (i : Nat), i ≤ m ∧ Ext (w.alloc (.cells #[.int .i64 5, .string l, .slice a m cap, .int .i64 mn, .int .i64 mx] 28)) wr ∧ l6 = .int .i64 i ∧ g = m - i)
        case atStart => exact ⟨0, Nat.zero_le _, Chg.refl _, rfl, rfl⟩
        case round =>
          obtain ⟨i, hi, hx, rfl, rfl⟩ := hrel
          have HX := Lib.hid hx
          have k2 := (HB.out.1.chg hx (fun h => h)).cell 2 _ rfl
          by_cases hin : i < m
          · have hin' : (i : Int) < 2 := by omega
            have hin2 : (i : Int) < m := by omega
            obtain ⟨u, hu⟩ : ∃ u, kids[i]? = some u := ⟨_, List.getElem?_eq_getElem (by rw [HM.out]; exact hin)⟩
            obtain ⟨x, ku, lu, au, nu, cu, mnu, mxu, rfl, htu, c0, c1, c2, c3, c4⟩ := kid_at (HK.out.1.ext (HB.out.2.trans hx)) (HK.out.2.ext (HB.out.2.trans hx) _ _) hu
            have HC := Lib.hid (HI.out u (List.mem_of_getElem? hu) wr _ (at' + 1) htu (by omega) (by omega))
            clear hx hu htu
            go_wp2_with fail
            refine HC.out.mono ?_
            rintro e w3 ⟨d, rfl, hx3⟩
            have HX3 := Lib.hid hx3
            clear hx3
            cases d with
            | false =>
              go_wp2_with fail
              go_ret
              exact ⟨false, rfl, (HB.out.2.trans HX.out).trans HX3.out⟩
            | true =>
              go_wp2_with fail
              go_roundg (m - (i + 1))
              case measure => omega
              case rel => exact ⟨i + 1, by omega, HX.out.trans HX3.out, rfl, rfl⟩
          · have hin' : ¬ (i : Int) < 2 := by omega
            clear hx
            go_wp2_with fail
            go_ret
            exact ⟨true, rfl, HB.out.2.trans HX.out⟩
      · have e1 : ((m : Int) != 2) = true := by simpa using hmn
        go_enter Tryz.func159, Tryz.ntmps159
        go_wp2_with fail
        go_ret
        exact ⟨false, rfl, HB.out.2⟩
    · by_cases hmn : (m : Int) = 1
      · have e1 : ((m : Int) != 1) = false := by simpa using hmn
        go_enter Tryz.func159, Tryz.ntmps159
        go_wp2_with fail
        go_loopg [6] m (fun g l6 wr => ∃ (i : Nat), i ≤ m ∧ Ext (w.alloc (.cells #[.int .i64 6, .string l, .slice a m cap, .int .i64 mn, .int .i64 mx] 28)) wr ∧ l6 = .int .i64 i ∧ g = m - i)
        case atStart => exact ⟨0, Nat.zero_le _, Chg.refl _, rfl, rfl⟩
        case round =>
          obtain ⟨i, hi, hx, rfl, rfl⟩ := hrel
          have HX := Lib.hid hx
          have k2 := (HB.out.1.chg hx (fun h => h)).cell 2 _ rfl
          by_cases hin : i < m
          · have hin' : (i : Int) < 1 := by omega
            have hin2 : (i : Int) < m := by omega
            obtain ⟨u, hu⟩ : ∃ u, kids[i]? = some u := ⟨_, List.getElem?_eq_getElem (by rw [HM.out]; exact hin)⟩
            obtain ⟨x, ku, lu, au, nu, cu, mnu, mxu, rfl, htu, c0, c1, c2, c3, c4⟩ := kid_at (HK.out.1.ext (HB.out.2.trans hx)) (HK.out.2.ext (HB.out.2.trans hx) _ _) hu
            have HC := Lib.hid (HI.out u (List.mem_of_getElem? hu) wr _ (at' + 1) htu (by omega) (by omega))
            clear hx hu htu
            go_wp2_with fail
            refine HC.out.mono ?_
            rintro e w3 ⟨d, rfl, hx3⟩
            have HX3 := Lib.hid hx3
            clear hx3
            cases d with
            | false =>
              go_wp2_with fail
              go_ret
              exact ⟨false, rfl, (HB.out.2.trans HX.out).trans HX3.out⟩
            | true =>
              go_wp2_with fail
              go_roundg (m - (i + 1))
              case measure => omega
              case rel => exact ⟨i + 1, by omega, HX.out.trans HX3.out, rfl, rfl⟩
          · have hin' : ¬ (i : Int) < 1 := by omega
            clear hx
            go_wp2_with fail
            go_ret
            exact ⟨true, rfl, HB.out.2.trans HX.out⟩
      · have e1 : ((m : Int) != 1) = true := by simpa using hmn
        go_enter Tryz.func159, Tryz.ntmps159
        go_wp2_with fail
        go_ret
        exact ⟨false, rfl, HB.out.2⟩
    all_goals
      have e1 : ((m : Int) != -1) = true := bne_iff_ne.2 (by omega)
      go_enter Tryz.func159, Tryz.ntmps159
      go_wp2_with fail
      go_ret
      exact ⟨false, rfl, HB.out.2⟩
set_option maxRecDepth 100000 in
set_option maxHeartbeats 1000000 in
theorem Is_any (t : Tr) (w : World) (cs : List Value) (h : TrC w t cs) (hv : rchecks t = 0) (h1 : hgt t ≤ 40) :
    Calls Tryz.prog 120 #[.agg cs.toArray] w (BoolPost w) := by
  obtain ⟨k, l, a, n, cap, mn, mx, rfl⟩ := h.form
  have hw1 : Ext w (w.alloc (.cells #[.int .i64 k, .string l, .slice a n cap, .int .i64 mn, .int .i64 mx] 28)) := (Chg.refl w).alloc _
  have HC := Lib.hid (is_any t _ _ 1 (h.ext hw1) hv (by omega) (by omega))
  have HX := Lib.hid hw1
  clear hw1 h hv h1
  go_enter Tryz.func120, Tryz.ntmps120
  go_wp2_with fail
  refine HC.out.mono ?_
  rintro e w2 ⟨b, rfl, hx⟩
  go_wp2_with fail
  go_ret
  exact ⟨b, rfl, HX.out.trans hx⟩
set_option maxRecDepth 100000 in
set_option maxHeartbeats 1000000 in
theorem pMay_any (t : Tr) (w : World) (cs : List Value) (h : TrC w t cs) (hv : rcheck t = 0) :
    Calls Tryz.prog 73 #[.agg cs.toArray] w fun e w' => e = .returned (.bool true) ∧ Ext w w' := by
  obtain ⟨v1, v2, v3, v4⟩ := rcheck_zero hv
  obtain ⟨k, l, a, n, cap, mn, mx, rfl⟩ := h.form
  have hw1 : Ext w (w.alloc (.cells #[.int .i64 k, .string l, .slice a n cap, .int .i64 mn, .int .i64 mx] 28)) := (Chg.refl w).alloc _
  have HC := Lib.hid (Is_any t _ _ (h.ext hw1) v3 (by omega))
  have HD := Lib.hid (fun W (hW : Ext w W) => rcheck_any t W _ (h.ext hW))
  rw [hv] at HD
  have HX := Lib.hid hw1
  have hb := Blk.new w #[.int .i64 k, .string l, .slice a n cap, .int .i64 mn, .int .i64 mx] 28
  have HB := Lib.hid hb
  clear hw1 h hv v1 v2 v3 v4 hb
  go_enter Tryz.func73, Tryz.ntmps73
  go_wp2_with fail
  refine HC.out.mono ?_
  rintro e w2 ⟨b, rfl, hx⟩
  cases b with
  | true =>
    go_wp2_with fail
    go_ret
    exact ⟨rfl, HX.out.trans hx⟩
  | false =>
    obtain ⟨p0, -, p1, -, p2, -, p3, -, p4, -⟩ := blk5_base (HB.out.chg hx (fun h => h))
    have HD2 := Lib.hid (HD.out _ (HX.out.trans hx))
    have HX2 := Lib.hid (HX.out.trans hx)
    clear hx
    go_wp2_with fail
    refine HD2.out.mono ?_
    rintro e w3 ⟨rfl, hx3⟩
    go_wp2_with fail
    go_ret
    exact ⟨rfl, HX2.out.trans hx3⟩
set_option maxRecDepth 100000 in
set_option maxHeartbeats 1000000 in
theorem Nullable_any (t : Tr) (w : World) (cs : List Value) (h : TrC w t cs) (hv : rcheck t = 0) :
    Calls Tryz.prog 34 #[.agg cs.toArray] w fun e w' => e = .returned (.bool (rnull t)) ∧ Ext w w' := by
  obtain ⟨v1, v2, v3, v4⟩ := rcheck_zero hv
  obtain ⟨k, l, a, n, cap, mn, mx, rfl⟩ := h.form
  have hw1 : Ext w (w.alloc (.cells #[.int .i64 k, .string l, .slice a n cap, .int .i64 mn, .int .i64 mx] 28)) := (Chg.refl w).alloc _
  have HC := Lib.hid (pMay_any t _ _ (h.ext hw1) hv)
  have HD := Lib.hid (fun W (hW : Ext w W) => nullable_any t W _ (h.ext hW) v3)
  obtain ⟨R, hR⟩ : ∃ R, rnull t = R := ⟨_, rfl⟩
  rw [hR] at HD ⊢
  have HX := Lib.hid hw1
  have hb := Blk.new w #[.int .i64 k, .string l, .slice a n cap, .int .i64 mn, .int .i64 mx] 28
  have HB := Lib.hid hb
  clear hw1 h hv v1 v2 v3 v4 hb hR
  go_enter Tryz.func34, Tryz.ntmps34
  go_wp2_with fail
  refine HC.out.mono ?_
  rintro e w2 ⟨rfl, hx⟩
  obtain ⟨p0, -, p1, -, p2, -, p3, -, p4, -⟩ := blk5_base (HB.out.chg hx (fun h => h))
  have HD2 := Lib.hid (HD.out _ (HX.out.trans hx))
  have HX2 := Lib.hid (HX.out.trans hx)
  clear hx
  go_wp2_with fail
  refine HD2.out.mono ?_
  rintro e w3 ⟨rfl, hx3⟩
  go_wp2_with fail
  go_ret
  exact ⟨rfl, HX2.out.trans hx3⟩
end Go.Proofs.YtkhllknahjmciaaGreat

/-! The tokens of a graph's edges (the document's own). -/
namespace Go.Proofs.YtkhllknahjmciaaGreat
open Go.RowKit
set_option linter.unusedVariables false
set_option linter.unusedSimpArgs false

theorem info_num : (Tryz.prog.info? 3).map (fun i => (i.zero, i.size, i.bytes)) = some (some (.int .i64 0), 1, 8) := by kernel_rfl
def tokC (es : List Eg) : List Value := es.map fun e => .int .i64 e.tok
set_option maxRecDepth 100000 in
set_option maxHeartbeats 1000000 in
theorem Tokens_any (g : Gr) (w : World) (gcs : List Value) (hg : GrC w g gcs) (hl : g.edges.length ≤ 1000) :
    Calls Tryz.prog 33 #[.agg gcs.toArray] w fun e w' => ∃ a cap, e = .returned (.slice a g.edges.length cap) ∧ Cells w' a g.edges.length cap (tokC g.edges) ∧ Ext w w' := by
  obtain ⟨na, nc, ea, ec, rfl, hns, hes⟩ := hg
  obtain ⟨m, hm⟩ : ∃ m, g.nodes.length = m := ⟨_, rfl⟩
  obtain ⟨n, hn⟩ : ∃ n, g.edges.length = n := ⟨_, rfl⟩
  rw [hm, hn]
  have hl1 := hes.1
  have hl2 := hes.2.1
  unfold maxLen at hl2
  rw [hn] at hl hl1
  have hb := Blk.new w #[.slice na m nc, .slice ea n ec, .int .i64 g.next] 25
  have hx1 : Ext w (w.alloc (.cells #[.slice na m nc, .slice ea n ec, .int .i64 g.next] 25)) := (Chg.refl w).alloc _
  obtain ⟨W1, hW1⟩ : ∃ W1, w.alloc (.cells #[.slice na m nc, .slice ea n ec, .int .i64 g.next] 25) = W1 := ⟨_, rfl⟩
  rw [hW1] at hb hx1
  have HB := Lib.hid (And.intro hb (And.intro hx1 (And.intro hes hn)))
  have HW1 := Lib.hid hW1
  obtain ⟨i0, hi0, hii⟩ := Option.map_eq_some_iff.1 info_num
  obtain ⟨hz0, hz1, hz2⟩ : i0.zero = some (.int .i64 0) ∧ i0.size = 1 ∧ i0.bytes = 8 := by
    have := hii; simp at this; exact this
  have HI := Lib.hid (And.intro hi0 (And.intro hz0 (And.intro hz1 hz2)))
  clear hi0 hii hz0 hz1 hz2 hb hx1 hW1 hns hes hn hm
  go_enter Tryz.func33, Tryz.ntmps33
  go_wp2_with fail
  rw [HW1.out]
  go_loopg [3, 4] n (fun g' l3 l4 wr => ∃ (i : Nat), i ≤ n ∧ Ext W1 wr ∧ wr.ownsRow W1.heap.size 3 1 l3 i (tokC (g.edges.take i)) ∧ l4 = .int .i64 i ∧ g' = n - i)
  case atStart => exact ⟨0, Nat.zero_le _, Chg.refl _, by rw [List.take_zero]; exact World.ownsRow_nil _ _ _ _, rfl, rfl⟩
  case round =>
    obtain ⟨i, hi, hx, ho, rfl, rfl⟩ := hrel
    obtain ⟨b0, -, b1, -, b2, -⟩ := blk3_base (HB.out.1.chg hx (fun h => h))
    by_cases hin : i < n
    · have hin' : (i : Int) < n := by omega
      obtain ⟨e, he⟩ : ∃ e, g.edges[i]? = some e := ⟨_, List.getElem?_eq_getElem (by rw [HB.out.2.2.2]; exact hin)⟩
      obtain ⟨x, rfl, c0, c1, c2, c3⟩ := eg_at (Cells.ext HB.out.2.2.1 (HB.out.2.1.trans hx)) he
      have HT := Lib.hid (take_succ' he)
      have hsz := hx.size
      obtain ⟨la, lc, rfl⟩ := own_slice ho
      have HX := Lib.hid (And.intro hx ho)
      clear hx ho he
      go_wp2_with (at_builtin; refine wpList_append_st _ rfl (.tmp 12) (.tmp 19) 80 rfl W1.heap.size 3 i0 (.int .i64 0) 1 8 Tryz.underlying80 HI.out.1 HI.out.2.1 HI.out.2.2.1 HI.out.2.2.2 rfl (by decide) (.slice la i lc) i _ rfl (own_low HX.out.2 ((Chg.refl _).alloc _) (fun _ _ h => h)) ⟨wr.heap.size, 0, none⟩ 1 1 [.int .i64 e.tok] rfl rfl (by exact fun j u hj => news wr _ _ j u hj) (by simp [Value.oneCell']) (by unfold maxLen; omega) (by omega) (by simp; omega) ?_; intro v' w' u1 u2 u3; have HF := Lib.hid (And.intro u1 (And.intro u2 u3)); clear u1 u2 u3)
      go_roundg (n - (i + 1))
      case measure => omega
      case rel =>
        refine ⟨i + 1, by omega, Ext.own HX.out.1 HX.out.2 (Nat.le_refl _) (grow_chg HF.out.2.1), ?_, rfl, rfl⟩
        rw [HT.out]
        unfold tokC
        rw [List.map_append]
        exact HF.out.1
    · obtain rfl : i = n := by omega
      obtain ⟨la, lc, rfl⟩ := own_slice ho
      have hc := Cells.of_own ho
      rw [List.take_of_length_le (by rw [HB.out.2.2.2]; exact Nat.le_refl _)] at hc
      have HX := Lib.hid (And.intro hc (HB.out.2.1.trans hx))
      clear hx ho hc
      go_wp2_with fail
      go_ret
      exact ⟨la, lc, rfl, HX.out.1, HX.out.2⟩
end Go.Proofs.YtkhllknahjmciaaGreat

/-! Graphs (the document's own): one node more, one edge more. -/
namespace Go.Proofs.YtkhllknahjmciaaGreat
open Go.RowKit
set_option linter.unusedVariables false
set_option linter.unusedSimpArgs false

theorem ob_eq {g n c b : Nat} (h : (Value.slice (some ⟨g, 0, none⟩) n c).ownBlock = some b) : g = b := by simpa [Value.ownBlock] using h
set_option maxRecDepth 100000 in
set_option maxHeartbeats 1000000 in
theorem gNew0 (w : World) : Calls Tryz.prog 64 #[] w fun e w' => e = .returned (.pointer (some ⟨w.heap.size, 0, none⟩)) ∧ w' = w.alloc (.cells #[.slice none 0 0, .slice none 0 0, .int .i64 1] 135) := by
  go_enter Tryz.func64, Tryz.ntmps64
  go_wp2_with fail
  go_ret
  exact ⟨rfl, rfl⟩
set_option maxRecDepth 100000 in
set_option maxHeartbeats 1000000 in
theorem gAddNode0 (w : World) (p : Nat) (ev : Value) (d id : Int) (hid : 1 ≤ id ∧ id ≤ 1000) (hb : Blk w p #[.slice none 0 0, ev, .int .i64 d] 135) :
    Calls Tryz.prog 65 #[.pointer (some ⟨p, 0, none⟩), .int .i64 id] w fun e w' => ∃ na nc, e = .returned (.int .i64 0) ∧ Blk w' p #[.slice na 1 nc, ev, .int .i64 d] 135 ∧ (∀ (S : Nat → Prop) w2, (∀ b, S b → b < w.heap.size) → S p → Chg S w' w2 → NsC w2 [⟨id, [], []⟩] na nc) ∧ Chg (fun b => b = p) w w' := by
  have h1 := hid.1
  have h2 := hid.2
  obtain ⟨b0, f0, b1, -, b2, -⟩ := blk3_base hb
  have HB := Lib.hid hb
  have HP := Lib.hid (rplace_any ([] : List Nd) id w none 0 ev (.int .i64 d) ⟨[], Cells.nil w, rfl⟩)
  simp only [List.length_nil, placeN] at HP
  have e1 : decide (id < 1) = false := decide_eq_false (by omega)
  have e2 : decide (1000 < id) = false := decide_eq_false (by omega)
  clear hid hb
  go_enter Tryz.func65, Tryz.ntmps65
  go_wp2_with fail
  clear b0 f0 b1 b2
  refine HP.out.mono ?_
  rintro e w2 ⟨rfl, hx⟩
  obtain ⟨b0, f0, b1, -, b2, -⟩ := blk3_base (HB.out.chg hx (fun h => h))
  have hx3 := hx.alloc (.cells #[] 109)
  have k3 := HB.out.chg hx3 (fun h => h)
  have d0 := k3.cell 0 _ rfl
  have HX := Lib.hid hx
  obtain ⟨i0, hi0, hii⟩ := Option.map_eq_some_iff.1 info_nd
  obtain ⟨hz0, hz1, hz2⟩ : i0.zero = some (.agg #[.int .i64 0, .slice none 0 0, .slice none 0 0]) ∧ i0.size = 3 ∧ i0.bytes = 56 := by
    have := hii; simp at this; exact this
  have HI := Lib.hid (And.intro hi0 (And.intro hz0 (And.intro hz1 hz2)))
  clear hx hx3 k3 hi0 hii hz0 hz1 hz2
  go_wp2_with (at_builtin; refine wpList_append_st _ rfl (.tmp 37) (.tmp 40) 22 rfl w2.heap.size 109 i0 (.agg #[.int .i64 0, .slice none 0 0, .slice none 0 0]) 3 56 Tryz.underlying22 HI.out.1 HI.out.2.1 HI.out.2.2.1 HI.out.2.2.2 rfl (by decide) (.slice (some ⟨w2.heap.size, 0, none⟩) 0 0) 0 [] rfl ((World.ownsRow_made w2 #[] 0 (Nat.le_refl _) (Nat.zero_le _) rfl).alloc _) ⟨w2.heap.size + 1, 0, none⟩ 1 1 [.int .i64 id, .slice none 0 0, .slice none 0 0] rfl rfl (by exact fun j u hj => by have := news (w2.alloc (.cells #[] 109)) [.int .i64 id, .slice none 0 0, .slice none 0 0] 109 j u hj; simpa using this) (by simp [Value.oneCell']) (by unfold maxLen; omega) (by omega) (by simp; omega) ?_; intro v' w' u1 u2 u3; obtain ⟨a', cap', rfl⟩ := own_slice u1; have HF := Lib.hid (And.intro u1 (grow_chg (wr := w2.alloc (.cells #[] 109)) u2)); clear u1 u2 u3)
  have hsz := HX.out.size
  have hlp := HB.out.lt
  have kp := ((HB.out.chg HX.out (fun h => h)).chg ((Chg.refl (S := fun _ => False) _).alloc (.cells #[] 109)) (fun h => h)).chg HF.out.2 (fun h => by have := ob_eq h; omega)
  obtain ⟨g0, z0, -⟩ := blk3_base kp
  have HK := Lib.hid kp
  clear kp b0 f0 b1 b2 d0
  go_loopg [6] 0 (fun g l6 wr => g = 0 ∧ l6 = .int .i64 0 ∧ wr = w')
  case atStart => exact ⟨rfl, rfl, rfl⟩
  case round =>
    obtain ⟨rfl, rfl, rfl⟩ := hrel
    go_wp2_with fail
    go_quiet (fail)
    go_wp2_with fail
    go_ret
    have hA : Chg (fun b => w.heap.size ≤ b ∨ b = p) w wr := (((HX.out.mono fun _ _ h => h.elim).alloc _).trans (HF.out.2.mono fun b _ h => .inl (by have := ob_eq h; omega)))
    refine ⟨a', cap', rfl, (HK.out.chg ((Chg.refl (S := fun _ => False) _).drewN _) (fun h => h)).set 0 _, fun S w5 hS hp h5 => ⟨[[.int .i64 id, .slice none 0 0, .slice none 0 0]], ?_, ⟨_, [], rfl, ⟨none, 0, none, 0, rfl, Cells.nil _, Cells.nil _⟩, rfl⟩⟩, ?_⟩
    · exact Cells.of_own (own_low HF.out.1 (S := S) (((set_chg (p := p) (j := 0) ((Chg.refl (S := fun b => b = p) wr).drewN _)).mono (fun b _ e => by rw [e]; exact hp)).trans h5) (by intro g hg e; have := hS g e; omega))
    · exact ((hA.drewN _).setCell ⟨p, 0, none⟩ _ (fun _ => .inr rfl)).mono fun b hb h => h.elim (fun h => by omega) (fun h => h)
set_option maxRecDepth 100000 in
set_option maxHeartbeats 1000000 in
theorem gAddNode1 (w : World) (p : Nat) (ev : Value) (d id i1 : Int) (na : Option Addr) (nc : Nat) (hid : 1 ≤ id ∧ id ≤ 1000) (hlt : i1 < id) (hb : Blk w p #[.slice na 1 nc, ev, .int .i64 d] 135) (hn : NsC w [⟨i1, [], []⟩] na nc) :
    Calls Tryz.prog 65 #[.pointer (some ⟨p, 0, none⟩), .int .i64 id] w fun e w' => ∃ na nc, e = .returned (.int .i64 0) ∧ Blk w' p #[.slice na 2 nc, ev, .int .i64 d] 135 ∧ (∀ (S : Nat → Prop) w2, (∀ b, S b → b < w.heap.size) → S p → Chg S w' w2 → NsC w2 [⟨i1, [], []⟩, ⟨id, [], []⟩] na nc) ∧ Chg (fun b => b = p) w w' := by
  have h1 := hid.1
  have h2 := hid.2
  obtain ⟨b0, f0, b1, -, b2, -⟩ := blk3_base hb
  have HB := Lib.hid hb
  have HP := Lib.hid (rplace_any [⟨i1, [], []⟩] id w na nc ev (.int .i64 d) hn)
  rw [placeN, if_neg (by simp only; omega), placeN] at HP
  simp only [List.length_cons, List.length_nil] at HP
  have e1 : decide (id < 1) = false := decide_eq_false (by omega)
  have e2 : decide (1000 < id) = false := decide_eq_false (by omega)
  have e3 : decide (id < i1) = false := decide_eq_false (by omega)
  obtain ⟨css, hcs, hnd⟩ := hn
  obtain ⟨c, cs', rfl, hc, hcs'⟩ := hnd
  obtain rfl : cs' = [] := hcs'
  obtain ⟨la, lc, pa, pc, rfl, hla, hpa⟩ := hc
  simp only [List.flatten_cons, List.flatten_nil, List.append_nil, List.length_cons, List.length_nil, Nat.zero_add] at hcs
  obtain ⟨x, rfl, hx0⟩ := hcs.at 0 _ rfl
  have hnc : 1 ≤ nc := hcs.1
  have HN := Lib.hid (And.intro hcs (And.intro hla hpa))
  have hlp := hb.lt
  clear hid hb hcs hla hpa hx0
  go_enter Tryz.func65, Tryz.ntmps65
  go_wp2_with fail
  clear b0 f0 b1 b2
  refine HP.out.mono ?_
  rintro e w2 ⟨rfl, hx⟩
  obtain ⟨b0, f0, b1, -, b2, -⟩ := blk3_base (HB.out.chg hx (fun h => h))
  have hx3 := hx.alloc (.cells #[] 109)
  have k3 := HB.out.chg hx3 (fun h => h)
  have d0 := k3.cell 0 _ rfl
  have hsz := hx.size
  have HX := Lib.hid (And.intro hx hx3)
  obtain ⟨i0, hi0, hii⟩ := Option.map_eq_some_iff.1 info_nd
  obtain ⟨hz0, hz1, hz2⟩ : i0.zero = some (.agg #[.int .i64 0, .slice none 0 0, .slice none 0 0]) ∧ i0.size = 3 ∧ i0.bytes = 56 := by
    have := hii; simp at this; exact this
  have HI := Lib.hid (And.intro hi0 (And.intro hz0 (And.intro hz1 hz2)))
  clear hx hx3 k3 hi0 hii hz0 hz1 hz2
  go_wp2_with (first | (at_builtin; refine wpList_append_st _ rfl (.tmp 30) (.tmp 35) 22 rfl w2.heap.size 109 i0 (.agg #[.int .i64 0, .slice none 0 0, .slice none 0 0]) 3 56 Tryz.underlying22 HI.out.1 HI.out.2.1 HI.out.2.2.1 HI.out.2.2.2 rfl (by decide) (.slice (some ⟨w2.heap.size, 0, none⟩) 0 0) 0 [] rfl (World.ownsRow_made w2 #[] 0 (Nat.le_refl _) (Nat.zero_le _) rfl) x 1 nc [.int .i64 i1, .slice la 0 lc, .slice pa 0 pc] rfl rfl (fun j u hj => by obtain ⟨y, e, hy⟩ := (HN.out.1.ext HX.out.2).at j u hj; cases e; exact hy) (by simp [Value.oneCell']) (by unfold maxLen; omega) (by omega) (by simp) ?_; intro v3 w3 u1 u2 u3; have HF := Lib.hid (And.intro u1 (Chg.of_grown u2)); clear u1 u2 u3) | (at_builtin; refine wpList_append_st _ rfl (.tmp 37) (.tmp 40) 22 rfl w2.heap.size 109 i0 (.agg #[.int .i64 0, .slice none 0 0, .slice none 0 0]) 3 56 Tryz.underlying22 HI.out.1 HI.out.2.1 HI.out.2.2.1 HI.out.2.2.2 rfl (by decide) v3 1 _ rfl (HF.out.1.alloc _) ⟨w3.heap.size, 0, none⟩ 1 1 [.int .i64 id, .slice none 0 0, .slice none 0 0] rfl rfl (by exact fun j u hj => news w3 _ _ j u hj) (by simp [Value.oneCell']) (by unfold maxLen; omega) (by omega) (by have := (HF.out.2).size; simp only [World.size_alloc] at *; omega) ?_; intro v' w' u1 u2 u3; obtain ⟨g2, cap2, rfl, hcell⟩ := own_form u1 (by omega); have HG := Lib.hid (And.intro u1 (grow_chg (wr := w3) u2)); clear u1 u2 u3 hcell))
  have hx2w : Chg (fun b => w.heap.size ≤ b ∨ b = p) w w3 := ((HX.out.2.mono fun _ _ h => h.elim).trans (HF.out.2.mono fun b _ h => .inl (by have := ob_eq h.symm; omega)))
  have hA : Chg (fun b => w.heap.size ≤ b ∨ b = p) w w' := hx2w.trans (HG.out.2.mono fun b _ h => .inl (by have := (own_block_lt HF.out.1 b h).1; omega))
  have kp := (HB.out.chg HX.out.2 (fun h => h)).chg HF.out.2 (fun h => by have := ob_eq h.symm; omega) |>.chg HG.out.2 (fun h => by have := (own_block_lt HF.out.1 _ h).1; omega)
  obtain ⟨g0, z0, -⟩ := blk3_base kp
  have c0 : w'.cell? ⟨g2, 0, none⟩ = some (.int .i64 i1) := (HG.out.1.cellAt 0 (by omega)).trans rfl
  have c3 : w'.cell? ⟨g2, 3, none⟩ = some (.int .i64 id) := (HG.out.1.cellAt 3 (by omega)).trans rfl
  have HK := Lib.hid (And.intro kp hA)
  clear kp hA hx2w b0 f0 b1 b2 d0
  go_loopg [6] 0 (fun g l6 wr => g = 0 ∧ l6 = .int .i64 1 ∧ wr = w')
  case atStart => exact ⟨rfl, rfl, rfl⟩
  case round =>
    obtain ⟨rfl, rfl, rfl⟩ := hrel
    go_wp2_with fail
    go_quiet (fail)
    go_wp2_with fail
    go_ret
    refine ⟨some ⟨g2, 0, none⟩, cap2, rfl, (HK.out.1.chg ((Chg.refl (S := fun _ => False) _).drewN _) (fun h => h)).set 0 _, fun S w5 hS hp h5 => ⟨[[.int .i64 i1, .slice la 0 lc, .slice pa 0 pc], [.int .i64 id, .slice none 0 0, .slice none 0 0]], ?_, ⟨_, _, rfl, ⟨la, lc, pa, pc, rfl, ⟨HN.out.2.1.1, HN.out.2.1.2.1, fun j u hu => by simp [strCells] at hu⟩, ⟨HN.out.2.2.1, HN.out.2.2.2.1, fun j u hu => by simp [propCells] at hu⟩⟩, ⟨_, [], rfl, ⟨none, 0, none, 0, rfl, Cells.nil _, Cells.nil _⟩, rfl⟩⟩⟩, ?_⟩
    · exact Cells.of_own (own_low HG.out.1 (S := S) (((set_chg (p := p) (j := 0) ((Chg.refl (S := fun b => b = p) wr).drewN _)).mono (fun b _ e => by rw [e]; exact hp)).trans h5) (by intro g hg e; have := hS g e; omega))
    · exact ((HK.out.2.drewN _).setCell ⟨p, 0, none⟩ _ (fun _ => .inr rfl)).mono fun b hb h => h.elim (fun h => by omega) (fun h => h)
end Go.Proofs.YtkhllknahjmciaaGreat
