/-
  Graphs (the document's own): may a node be one? Regions that draw their order, whose calls may make new memory but hand back what no world decides: one walk serves every order.
-/
import Derived.Test.YtkhllknahjmciaaGreatM09
/-! Graphs (the document's own): may a node be one? -/
namespace Go.Proofs.YtkhllknahjmciaaGreat
open Go.RowKit
set_option linter.unusedVariables false
set_option linter.unusedSimpArgs false

def nameOk (s : ByteArray) : Bool := decide (1 ≤ s.size) && decide (s.size ≤ 20)
def leS (a b : ByteArray) : Bool := Op.bytesLess a.toList b.toList || a.toList == b.toList
theorem gname_any (s : ByteArray) (w : World) :
    Calls Tryz.prog 50 #[.string s] w fun e w' => e = .returned (.bool (nameOk s)) ∧ w' = w := by
  unfold nameOk
  by_cases h1 : 1 ≤ s.size
  · by_cases h2 : s.size ≤ 20
    · have e1 : decide ((1 : Int) ≤ s.size) = true := by simp; omega
      have e2 : decide ((s.size : Int) ≤ 20) = true := by simp; omega
      rw [decide_eq_true h1, decide_eq_true h2]
      go_enter Tryz.func50, Tryz.ntmps50
      go_wp2_with fail
      go_ret
      exact ⟨rfl, rfl⟩
    · have e1 : decide ((1 : Int) ≤ s.size) = true := by simp; omega
      have e2 : decide ((s.size : Int) ≤ 20) = false := by simp; omega
      rw [decide_eq_true h1, decide_eq_false h2]
      go_enter Tryz.func50, Tryz.ntmps50
      go_wp2_with fail
      go_ret
      exact ⟨rfl, rfl⟩
  · have e1 : decide ((1 : Int) ≤ s.size) = false := by simp; omega
    rw [decide_eq_false h1]
    go_enter Tryz.func50, Tryz.ntmps50
    go_wp2_with fail
    go_ret
    exact ⟨rfl, rfl⟩
/-- Labels in order, each one a name; p: the one ahead. -/
def okLs : Option ByteArray → List ByteArray → Bool
  | _, [] => true
  | none, s :: ss => nameOk s && okLs (some s) ss
  | some p, s :: ss => nameOk s && !leS s p && okLs (some s) ss
def okPs : Option ByteArray → List (ByteArray × ByteArray) → Bool
  | _, [] => true
  | none, s :: ss => nameOk s.1 && nameOk s.2 && okPs (some s.1) ss
  | some p, s :: ss => nameOk s.1 && nameOk s.2 && !leS s.1 p && okPs (some s.1) ss
def soundNd (t : Nd) : Bool :=
  decide (1 ≤ t.id) && decide (t.id ≤ 1000) && decide (t.labels.length ≤ 8) && decide (t.props.length ≤ 8) && okLs none t.labels && okPs none t.props
/-- The one ahead of a place. -/
def ahead {α : Type} (l : List α) : Nat → Option α
  | 0 => none
  | i + 1 => l[i]?
theorem okLs_drop {ss : List ByteArray} {i : Nat} {s : ByteArray} (h : ss[i]? = some s) : okLs (ahead ss i) (ss.drop i) = (nameOk s && (match ahead ss i with | none => true | some p => !leS s p) && okLs (ahead ss (i + 1)) (ss.drop (i + 1))) := by
  have h' : ahead ss (i + 1) = some s := h
  obtain ⟨hi, rfl⟩ := List.getElem?_eq_some_iff.1 h
  rw [List.drop_eq_getElem_cons hi, h']
  cases ahead ss i with
  | none => rw [okLs]; simp
  | some p => rw [okLs]
theorem okPs_drop {ss : List (ByteArray × ByteArray)} {i : Nat} {s : ByteArray × ByteArray} (h : ss[i]? = some s) : okPs ((ahead ss i).map Prod.fst) (ss.drop i) = (nameOk s.1 && nameOk s.2 && (match (ahead ss i).map Prod.fst with | none => true | some p => !leS s.1 p) && okPs ((ahead ss (i + 1)).map Prod.fst) (ss.drop (i + 1))) := by
  have h' : ahead ss (i + 1) = some s := h
  obtain ⟨hi, rfl⟩ := List.getElem?_eq_some_iff.1 h
  rw [List.drop_eq_getElem_cons hi, h']
  cases ahead ss i with
  | none => rw [Option.map_none, okPs]; simp
  | some p => rw [Option.map_some, okPs]; simp
set_option maxRecDepth 100000 in
set_option maxHeartbeats 1000000 in
theorem soundNode_any (t : Nd) (w : World) (cs : List Value) (h : NdC w t cs) :
    Calls Tryz.prog 49 #[.agg cs.toArray] w fun e w' => e = .returned (.bool (soundNd t)) ∧ Ext w w' := by
  obtain ⟨la, lc, pa, pc, rfl, hl, hp⟩ := h
  have hb := Blk.new w #[.int .i64 t.id, .slice la t.labels.length lc, .slice pa t.props.length pc] 109
  have hw1 : Ext w (w.alloc (.cells #[.int .i64 t.id, .slice la t.labels.length lc, .slice pa t.props.length pc] 109)) := (Chg.refl w).alloc _
  have hlc := hl.1
  have hlm := hl.2.1
  have hpc := hp.1
  have hpm := hp.2.1
  unfold maxLen at hlm hpm
  unfold soundNd
  obtain ⟨m, hm⟩ : ∃ m, t.labels.length = m := ⟨_, rfl⟩
  obtain ⟨n, hn⟩ : ∃ n, t.props.length = n := ⟨_, rfl⟩
  obtain ⟨d, hd⟩ : ∃ d, t.id = d := ⟨_, rfl⟩
  obtain ⟨L, hL⟩ : ∃ L, t.labels = L := ⟨_, rfl⟩
  obtain ⟨P, hP⟩ : ∃ P, t.props = P := ⟨_, rfl⟩
  rw [hm] at hb hw1 hl hlc ⊢
  rw [hn] at hb hw1 hp hpc ⊢
  rw [hd] at hb hw1 ⊢
  rw [hL] at hl hm ⊢
  rw [hP] at hp hn ⊢
  clear hd hL hP
  by_cases hg : 1 ≤ d ∧ d ≤ 1000 ∧ m ≤ 8 ∧ n ≤ 8
  · obtain ⟨g1, g2, g3, g4⟩ := hg
    have e1 : decide (d < 1) = false := by simp; omega
    have e2 : decide ((1000 : Int) < d) = false := by simp; omega
    have e3 : decide ((8 : Int) < m) = false := by simp; omega
    have e4 : decide ((8 : Int) < n) = false := by simp; omega
    rw [decide_eq_true g1, decide_eq_true g2, decide_eq_true g3, decide_eq_true g4, Bool.true_and, Bool.true_and, Bool.true_and, Bool.true_and]
    have HB := Lib.hid (And.intro hb hw1)
    have HL := Lib.hid (And.intro hl hm)
    have HP := Lib.hid (And.intro hp hn)
    obtain ⟨b0, -, b1, -, b2, -⟩ := blk3_base hb
    obtain ⟨RL, hRL⟩ : ∃ R, okLs none L = R := ⟨_, rfl⟩
    obtain ⟨RP, hRP⟩ : ∃ R, okPs none P = R := ⟨_, rfl⟩
    rw [hRL, hRP]
    have HRL := Lib.hid hRL
    have HRP := Lib.hid hRP
    clear hb hw1 hl hp hm hn hRL hRP
    go_enter Tryz.func49, Tryz.ntmps49
    go_wp2_with fail
    go_loopg [3] m (fun g l3 wr => ∃ i : Nat, i ≤ m ∧ Ext (w.alloc (.cells #[.int .i64 d, .slice la m lc, .slice pa n pc] 109)) wr ∧ okLs (ahead L i) (L.drop i) = RL ∧ l3 = .int .i64 i ∧ g = m - i)
    case atStart => exact ⟨0, Nat.zero_le _, Chg.refl _, HRL.out, rfl, rfl⟩
    case round =>
      clear b0 b1 b2
      obtain ⟨i, hi, hx, hr, rfl, rfl⟩ := hrel
      obtain ⟨b0, -, b1, -, b2, -⟩ := blk3_base (HB.out.1.chg hx (fun h => h))
      by_cases hin : i < m
      · have hin' : (i : Int) < m := by omega
        obtain ⟨s, hs⟩ : ∃ s, L[i]? = some s := ⟨_, List.getElem?_eq_getElem (by rw [HL.out.2]; exact hin)⟩
        obtain ⟨x, rfl, c0⟩ := str_at (HL.out.1.ext (HB.out.2.trans hx)) hs
        rw [okLs_drop hs] at hr
        cases eN : nameOk s with
        | false =>
          have HN := Lib.hid (fun W => gname_any s W)
          rw [eN] at HN hr
          rw [Bool.false_and, Bool.false_and] at hr
          subst hr
          have HX := Lib.hid hx
          clear hx hs eN
          go_wp2_with fail
          go_quiet ((go_at_call 50; exact Calls.quiet_of_same ((HN.out _).mono fun e w' ⟨h1, h2⟩ => ⟨h1, h2⟩)))
          go_wp2_with fail
          go_ret
          exact ⟨rfl, (HB.out.2.trans HX.out).drewN _⟩
        | true =>
          have HN := Lib.hid (fun W => gname_any s W)
          rw [eN] at HN hr
          rw [Bool.true_and] at hr
          rcases Nat.eq_zero_or_pos i with rfl | hpos
          · -- the first
            have hr' := Lib.hid hr
            have HX := Lib.hid hx
            rw [add_zero] at c0
            clear hx hs eN hr
            go_wp2_with fail
            go_quiet ((go_at_call 50; exact Calls.quiet_of_same ((HN.out _).mono fun e w' ⟨h1, h2⟩ => ⟨h1, h2⟩)))
            go_wp2_with fail
            go_roundg (m - (0 + 1))
            case measure => omega
            case rel => exact ⟨0 + 1, by omega, HX.out.drewN _, hr'.out, rfl, rfl⟩
          · obtain ⟨k, hk⟩ : ∃ k, i = k + 1 := ⟨i - 1, by omega⟩
            obtain ⟨q, hq⟩ : ∃ q, L[k]? = some q := ⟨_, List.getElem?_eq_getElem (by rw [HL.out.2]; omega)⟩
            obtain ⟨x', e', c1⟩ := str_at (HL.out.1.ext (HB.out.2.trans hx)) hq
            cases e'
            have ea : ahead L i = some q := by rw [hk]; exact hq
            rw [ea] at hr
            dsimp only at hr
            have e5 : decide ((0 : Int) < (i : Int)) = true := by simp; omega
            have w1 : IntKind.i64.wrap ((i : Int) - 1) = k := by rw [show (i : Int) - 1 = k by omega]; exact IntWalk.i64_in _ (by omega)
            have e6 : decide (0 < i) = true := by simpa using hpos
            have w2 : (0 : Int) ≤ k := by omega
            have w3 : (k : Int) < m := by omega
            clear hk hpos
            cases eL : leS s q with
            | true =>
              have eL' : (Op.bytesLess s.toList q.toList || s.toList == q.toList) = true := eL
              rw [eL] at hr
              simp only [Bool.not_true, Bool.false_and] at hr
              subst hr
              have HX := Lib.hid hx
              clear hx hs eN hq eL ea
              go_wp2_with fail
              go_quiet ((go_at_call 50; exact Calls.quiet_of_same ((HN.out _).mono fun e w' ⟨h1, h2⟩ => ⟨h1, h2⟩)))
              go_wp2_with fail
              go_ret
              exact ⟨rfl, (HB.out.2.trans HX.out).drewN _⟩
            | false =>
              have eL' : (Op.bytesLess s.toList q.toList || s.toList == q.toList) = false := eL
              rw [eL] at hr
              simp only [Bool.not_false, Bool.true_and] at hr
              have hr' := Lib.hid hr
              have HX := Lib.hid hx
              clear hx hs eN hr hq eL ea
              go_wp2_with fail
              go_quiet ((go_at_call 50; exact Calls.quiet_of_same ((HN.out _).mono fun e w' ⟨h1, h2⟩ => ⟨h1, h2⟩)))
              go_wp2_with fail
              go_roundg (m - (i + 1))
              case measure => omega
              case rel => exact ⟨i + 1, by omega, HX.out.drewN _, hr'.out, rfl, rfl⟩
      · obtain rfl : i = m := by omega
        rw [List.drop_of_length_le (by rw [HL.out.2]; exact Nat.le_refl _)] at hr
        have hr' : true = RL := by rw [← hr]; cases ahead L i <;> rfl
        subst hr'
        have HX := Lib.hid hx
        clear hr hx HRL
        go_wp2_with fail
        go_loopg [4] n (fun g l4 wr => ∃ j : Nat, j ≤ n ∧ Ext (w.alloc (.cells #[.int .i64 d, .slice la i lc, .slice pa n pc] 109)) wr ∧ okPs ((ahead P j).map Prod.fst) (P.drop j) = RP ∧ l4 = .int .i64 j ∧ g = n - j)
        case atStart => exact ⟨0, Nat.zero_le _, HX.out, HRP.out, rfl, rfl⟩
        case round =>
          clear b0 b1 b2 HX
          obtain ⟨j, hj, hx, hr, rfl, rfl⟩ := hrel
          obtain ⟨b0, -, b1, -, b2, -⟩ := blk3_base (HB.out.1.chg hx (fun h => h))
          by_cases hjn : j < n
          · have hjn' : (j : Int) < n := by omega
            obtain ⟨⟨s, v⟩, hs⟩ : ∃ s, P[j]? = some s := ⟨_, List.getElem?_eq_getElem (by rw [HP.out.2]; exact hjn)⟩
            obtain ⟨y, rfl, c0, c1⟩ := prop_at (HP.out.1.ext (HB.out.2.trans hx)) hs
            rw [okPs_drop hs] at hr
            dsimp only at hr c0 c1
            cases eN : nameOk s with
            | false =>
              have HN := Lib.hid (fun W => gname_any s W)
              rw [eN] at HN hr
              simp only [Bool.false_and] at hr
              subst hr
              have HX := Lib.hid hx
              clear hx hs eN
              rcases Nat.eq_zero_or_pos j with rfl | hpos
              · rw [Nat.zero_mul, add_zero] at c0 c1
                go_wp2_with fail
                go_quiet ((go_at_call 50; exact Calls.quiet_of_same ((HN.out _).mono fun e w' ⟨h1, h2⟩ => ⟨h1, h2⟩)))
                go_wp2_with fail
                go_ret
                exact ⟨rfl, (HB.out.2.trans HX.out).drewN _⟩
              · go_wp2_with fail
                go_quiet ((go_at_call 50; exact Calls.quiet_of_same ((HN.out _).mono fun e w' ⟨h1, h2⟩ => ⟨h1, h2⟩)))
                go_wp2_with fail
                go_ret
                exact ⟨rfl, (HB.out.2.trans HX.out).drewN _⟩
            | true =>
              have HN := Lib.hid (fun W => gname_any s W)
              rw [eN] at HN hr
              rw [Bool.true_and] at hr
              cases eM : nameOk v with
              | false =>
                have HN2 := Lib.hid (fun W => gname_any v W)
                rw [eM] at HN2 hr
                simp only [Bool.false_and] at hr
                subst hr
                have HX := Lib.hid hx
                clear hx hs eN eM
                rcases Nat.eq_zero_or_pos j with rfl | hpos
                · rw [Nat.zero_mul, add_zero] at c0 c1
                  go_wp2_with fail
                  go_quiet ((first | (go_at_call_of 50 (Value.string s); exact Calls.quiet_of_same ((HN.out _).mono fun e w' ⟨h1, h2⟩ => ⟨h1, h2⟩)) | (go_at_call_of 50 (Value.string v); exact Calls.quiet_of_same ((HN2.out _).mono fun e w' ⟨h1, h2⟩ => ⟨h1, h2⟩))))
                  go_wp2_with fail
                  go_ret
                  exact ⟨rfl, (HB.out.2.trans HX.out).drewN _⟩
                · go_wp2_with fail
                  go_quiet ((first | (go_at_call_of 50 (Value.string s); exact Calls.quiet_of_same ((HN.out _).mono fun e w' ⟨h1, h2⟩ => ⟨h1, h2⟩)) | (go_at_call_of 50 (Value.string v); exact Calls.quiet_of_same ((HN2.out _).mono fun e w' ⟨h1, h2⟩ => ⟨h1, h2⟩))))
                  go_wp2_with fail
                  go_ret
                  exact ⟨rfl, (HB.out.2.trans HX.out).drewN _⟩
              | true =>
                have HN2 := Lib.hid (fun W => gname_any v W)
                rw [eM] at HN2 hr
                rw [Bool.true_and] at hr
                rcases Nat.eq_zero_or_pos j with rfl | hpos
                · have hr' := Lib.hid hr
                  have HX := Lib.hid hx
                  rw [Nat.zero_mul, add_zero] at c0 c1
                  clear hx hs eN eM hr
                  go_wp2_with fail
                  go_quiet ((first | (go_at_call_of 50 (Value.string s); exact Calls.quiet_of_same ((HN.out _).mono fun e w' ⟨h1, h2⟩ => ⟨h1, h2⟩)) | (go_at_call_of 50 (Value.string v); exact Calls.quiet_of_same ((HN2.out _).mono fun e w' ⟨h1, h2⟩ => ⟨h1, h2⟩))))
                  go_wp2_with fail
                  go_roundg (n - (0 + 1))
                  case measure => omega
                  case rel => exact ⟨0 + 1, by omega, HX.out.drewN _, hr'.out, rfl, rfl⟩
                · obtain ⟨k, hk⟩ : ∃ k, j = k + 1 := ⟨j - 1, by omega⟩
                  obtain ⟨⟨q, q2⟩, hq⟩ : ∃ q, P[k]? = some q := ⟨_, List.getElem?_eq_getElem (by rw [HP.out.2]; omega)⟩
                  obtain ⟨x', e', c2, -⟩ := prop_at (HP.out.1.ext (HB.out.2.trans hx)) hq
                  cases e'
                  have ea : ahead P j = some (q, q2) := by rw [hk]; exact hq
                  rw [ea] at hr
                  dsimp only [Option.map] at hr c2
                  have e5 : decide ((0 : Int) < (j : Int)) = true := by simp; omega
                  have w1 : IntKind.i64.wrap ((j : Int) - 1) = k := by rw [show (j : Int) - 1 = k by omega]; exact IntWalk.i64_in _ (by omega)
                  have e6 : decide (0 < j) = true := by simpa using hpos
                  have w2 : (0 : Int) ≤ k := by omega
                  have w3 : (k : Int) < n := by omega
                  clear hk hpos
                  cases eL : leS s q with
                  | true =>
                    have eL' : (Op.bytesLess s.toList q.toList || s.toList == q.toList) = true := eL
                    rw [eL] at hr
                    simp only [Bool.not_true, Bool.false_and] at hr
                    subst hr
                    have HX := Lib.hid hx
                    clear hx hs eN eM hq eL ea
                    go_wp2_with fail
                    go_quiet ((first | (go_at_call_of 50 (Value.string s); exact Calls.quiet_of_same ((HN.out _).mono fun e w' ⟨h1, h2⟩ => ⟨h1, h2⟩)) | (go_at_call_of 50 (Value.string v); exact Calls.quiet_of_same ((HN2.out _).mono fun e w' ⟨h1, h2⟩ => ⟨h1, h2⟩))))
                    go_wp2_with fail
                    go_ret
                    exact ⟨rfl, (HB.out.2.trans HX.out).drewN _⟩
                  | false =>
                    have eL' : (Op.bytesLess s.toList q.toList || s.toList == q.toList) = false := eL
                    rw [eL] at hr
                    simp only [Bool.not_false, Bool.true_and] at hr
                    have hr' := Lib.hid hr
                    have HX := Lib.hid hx
                    clear hx hs eN eM hr hq eL ea
                    go_wp2_with fail
                    go_quiet ((first | (go_at_call_of 50 (Value.string s); exact Calls.quiet_of_same ((HN.out _).mono fun e w' ⟨h1, h2⟩ => ⟨h1, h2⟩)) | (go_at_call_of 50 (Value.string v); exact Calls.quiet_of_same ((HN2.out _).mono fun e w' ⟨h1, h2⟩ => ⟨h1, h2⟩))))
                    go_wp2_with fail
                    go_roundg (n - (j + 1))
                    case measure => omega
                    case rel => exact ⟨j + 1, by omega, HX.out.drewN _, hr'.out, rfl, rfl⟩
          · obtain rfl : j = n := by omega
            rw [List.drop_of_length_le (by rw [HP.out.2]; exact Nat.le_refl _)] at hr
            have hr' : true = RP := by rw [← hr]; cases (ahead P j).map Prod.fst <;> rfl
            subst hr'
            have HX := Lib.hid hx
            clear hr hx HRP
            go_wp2_with fail
            go_ret
            exact ⟨rfl, HB.out.2.trans HX.out⟩
  · have hR : (decide (1 ≤ d) && decide (d ≤ 1000) && decide (m ≤ 8) && decide (n ≤ 8) && okLs none L && okPs none P) = false := by
      rw [← Bool.not_eq_true]
      simp only [Bool.and_eq_true, decide_eq_true_eq]
      omega
    rw [hR]
    have HB := Lib.hid (And.intro hb hw1)
    obtain ⟨b0, -, b1, -, b2, -⟩ := blk3_base hb
    clear hb hw1 hl hp hm hn hR
    by_cases g1 : d < 1
    · have e1 : decide (d < 1) = true := by simpa using g1
      go_enter Tryz.func49, Tryz.ntmps49
      go_wp2_with fail
      go_ret
      exact ⟨rfl, HB.out.2⟩
    · have e1 : decide (d < 1) = false := by simpa using g1
      by_cases g2 : 1000 < d
      · have e2 : decide ((1000 : Int) < d) = true := by simpa using g2
        go_enter Tryz.func49, Tryz.ntmps49
        go_wp2_with fail
        go_ret
        exact ⟨rfl, HB.out.2⟩
      · have e2 : decide ((1000 : Int) < d) = false := by simpa using g2
        by_cases g3 : 8 < m
        · have e3 : decide ((8 : Int) < m) = true := by simp; omega
          go_enter Tryz.func49, Tryz.ntmps49
          go_wp2_with fail
          go_ret
          exact ⟨rfl, HB.out.2⟩
        · have e3 : decide ((8 : Int) < m) = false := by simp; omega
          have e4 : decide ((8 : Int) < n) = true := by simp; omega
          go_enter Tryz.func49, Tryz.ntmps49
          go_wp2_with fail
          go_ret
          exact ⟨rfl, HB.out.2⟩
end Go.Proofs.YtkhllknahjmciaaGreat

/-! Regions that draw their order, whose calls may make new memory but hand back what no world decides: one walk serves every order. -/
namespace Go.Proofs.YtkhllknahjmciaaGreat
open Go.RowKit
set_option linter.unusedVariables false
set_option linter.unusedSimpArgs false

open Classical in
/-- A world in which nothing of w has turned: u, where it is one. -/
noncomputable def xt (w u : World) : World := if Ext w u then u else w
theorem xt_of {w u : World} (h : Ext w u) : xt w u = u := if_pos h
theorem xt_ext (w u : World) : Ext w (xt w u) := by
  unfold xt
  split
  · assumption
  · exact Chg.refl w
theorem xt_eq {w u w' : World} (h : w' = xt w u) : Ext w w' := by rw [h]; exact xt_ext _ _
theorem xt_cell {w : World} {x : Addr} {v : Value} (h : w.cell? x = some v) (u : World) : (xt w u).cell? x = some v := ((xt_ext w u).cell (lt_of_cell h) (fun h => h)).trans h
theorem wp_region_xt {P : Program} {id : Nat} {Q : Exit → Act → World → Prop} {a : Act} {w : World} {l : List Oper} (hm : P.follows .mixedOrders = true) (hB : Region.lexB .any l.toArray = true)
    (h : wpQuiet P l.toArray (fun w' => ∃ u, w' = xt w u) (fun a' => ∀ w', (∃ u, w' = xt w u) → Q .normal a' w') l a) : (Code.region id l.toArray true).wp P Q a w :=
  wp_region_quiet (C := fun w' => ∃ u, w' = xt w u) hm hB ⟨w.drew, (xt_of (Chg.refl (S := fun _ => False) w).drew).symm⟩ (by simpa using h)
theorem xt_call {P : Program} {f : FuncId} {args : Array Value} {w u : World} {v : Value} (h : Calls P f args (xt w u) fun e w' => e = .returned v ∧ Ext (xt w u) w') : Calls P f args (xt w u) fun e w'' => e = .returned v ∧ ∃ u', w'' = xt w u' :=
  h.mono fun _ _ ⟨he, hx⟩ => ⟨he, _, (xt_of ((xt_ext w u).trans hx)).symm⟩
theorem xt_same {P : Program} {f : FuncId} {args : Array Value} {w u : World} {v : Value} (h : Calls P f args (xt w u) fun e w' => e = .returned v ∧ w' = xt w u) : Calls P f args (xt w u) fun e w'' => e = .returned v ∧ ∃ u', w'' = xt w u' :=
  h.mono fun _ _ ⟨he, hx⟩ => ⟨he, u, hx⟩
end Go.Proofs.YtkhllknahjmciaaGreat
