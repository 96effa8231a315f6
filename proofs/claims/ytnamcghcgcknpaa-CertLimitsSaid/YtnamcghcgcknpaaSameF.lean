/-
  Two certs, whatever they are: told to be the same only if they are (chapter 24): walks, numbers.
-/
import Derived.Test.YtnamcghcgcknpaaSameE
import Derived.Test.YtnamcghcgcknpaaSameB
namespace Go.Proofs.Ytnamcghcgcknpaa
open Go.RowKit
set_option linter.unusedVariables false

set_option maxHeartbeats 800000 in
theorem eqWalks_gen {w : World} {a1 a2 : Option Addr} {cap1 cap2 : Nat} {us1 us2 : List Value} {ls1 ls2 : List (List (Int × Bool))} (h1 : Cells w a1 ls1.length cap1 us1) (h2 : Cells w a2 ls2.length cap2 us2) (r1 : WalkRows w us1 ls1) (r2 : WalkRows w us2 ls2) :
    Calls Try.prog 38 #[.slice a1 ls1.length cap1, .slice a2 ls2.length cap2, .func (.func 39) #[] #[]] w (Says (ls1 = ls2) w) := by
  have hc1 := h1.1
  have hc2 := h2.1
  have hm1 := h1.2.1
  have hm2 := h2.2.1
  unfold maxLen at hm1 hm2
  have H1 := Lib.hid h1
  have H2 := Lib.hid h2
  have HR := Lib.hid (And.intro r1 r2)
  clear h1 h2 r1 r2
  obtain ⟨n, hn⟩ : ∃ n, ls1.length = n := ⟨_, rfl⟩
  obtain ⟨m, hm⟩ : ∃ n, ls2.length = n := ⟨_, rfl⟩
  rw [hn] at hc1 ⊢
  rw [hm] at hc2 ⊢
  have HN := Lib.hid (And.intro hn hm)
  clear hn hm
  by_cases hnm : n = m
  · subst hnm
    go_enter Try.func38, Try.ntmps38
    go_wp2_with fail
    go_loopg [17] n (fun g l17 wr => ∃ i : Nat, Ext w wr ∧ i ≤ n ∧ (∀ j, j < i → ls1[j]? = ls2[j]?) ∧ l17 = .int .i64 i ∧ g = n - i)
    case atStart => exact ⟨0, Chg.refl w, Nat.zero_le _, fun j hj => absurd hj (by omega), rfl, rfl⟩
    case round =>
      obtain ⟨i, hex, hi, hall, rfl, rfl⟩ := hrel
      have HE := Lib.hid hex
      have HAL := Lib.hid hall
      clear hex hall
      by_cases hin : i < n
      · have hin' : (i : Int) < n := by omega
        obtain ⟨z, hz⟩ : ∃ z, ls1[i]? = some z := ⟨_, List.getElem?_eq_getElem (by rw [HN.out.1]; exact hin)⟩
        obtain ⟨z2, hz2⟩ : ∃ z, ls2[i]? = some z := ⟨_, List.getElem?_eq_getElem (by rw [HN.out.2]; exact hin)⟩
        obtain ⟨b1, p1, hu1, hcu1⟩ := HR.out.1.get.2 i z hz
        obtain ⟨b2, p2, hu2, hcu2⟩ := HR.out.2.get.2 i z2 hz2
        obtain ⟨x, rfl, c0⟩ := H1.out.2.2 i _ hu1
        obtain ⟨y, rfl, c1⟩ := H2.out.2.2 i _ hu2
        have d0 := (HE.out.cell (lt_of_cell c0) (fun h => h)).trans c0
        have d1 := (HE.out.cell (lt_of_cell c1) (fun h => h)).trans c1
        have HS := Lib.hid (fun w2 (k : Ext w w2) => same1_gen (w := w2) (hcu1.chg (S := fun _ => False) k (fun _ _ h => h)) (hcu2.chg (S := fun _ => False) k (fun _ _ h => h)))
        have HZ := Lib.hid (And.intro hz hz2)
        clear c0 c1 hz hu1 hu2 hcu1 hcu2 hz2
        generalize z.length = q at d0 HS
        generalize z2.length = q2 at d1 HS
        go_wp2_with (go_at_call 39; refine (HS.out _ HE.out).mono ?_; rintro e w' ⟨⟨b, rfl, hb⟩, hx⟩; have HBB := Lib.hid hb; clear hb; cases b)
        · go_ret
          exact Says.no (HE.out.trans hx)
        · go_roundg (n - (i + 1))
          case measure => omega
          case rel => exact ⟨i + 1, HE.out.trans hx, by omega, same_step HAL.out HZ.out.1 (by rw [show z = z2 from HBB.out (by trivial)]; exact HZ.out.2), rfl, rfl⟩
      · have e0 : n = i := by omega
        subst e0
        have hin' : ¬ (n : Int) < n := by omega
        go_wp2_with fail
        go_ret
        exact Says.yes (same_all HN.out.1 HN.out.2 HAL.out) HE.out
  · have hne : ((n : Int) != (m : Int)) = true := by simp; omega
    clear hnm
    go_enter Try.func38, Try.ntmps38
    go_wp2_with fail
    go_ret
    exact Says.no (Chg.refl _)
/-- An order came back; where it is 0, P holds. -/
def Ord0 (P : Prop) (e : Ending) : Prop := ∃ z, e = .returned (.int .i64 z) ∧ (z = 0 → P)
def ordI (x y : Int) : Int := if x < y then -1 else if y < x then 1 else 0
theorem ordI_zero {x y : Int} (h : ordI x y = 0) : x = y := by
  unfold ordI at h
  split at h
  · omega
  · split at h <;> omega
theorem cmpI_gen (x y : Int) (w : World) : Calls Try.prog 72 #[.int .i64 x, .int .i64 y] w fun e w' => e = .returned (.int .i64 (ordI x y)) ∧ w' = w := by
  rcases Int.lt_trichotomy x y with h | h | h
  · have HN := Lib.hid (fun z w => nanI_any z w)
    have h1 : x < y := h
    have ho : ordI x y = -1 := by unfold ordI; rw [if_pos h]
    rw [ho]
    clear ho
    go_enter Try.func72, Try.ntmps72
    go_wp2_with (go_at_call 75; refine (HN.out _ _).mono ?_; rintro e w' ⟨rfl, rfl⟩)
    go_ret
    exact ⟨rfl, rfl⟩
  · subst h
    have ho : ordI x x = 0 := by unfold ordI; rw [if_neg (by omega), if_neg (by omega)]
    rw [ho]
    exact cmpI_eq x w
  · have HN := Lib.hid (fun z w => nanI_any z w)
    have h1 : ¬ x < y := by omega
    have h2 : y < x := h
    have ho : ordI x y = 1 := by unfold ordI; rw [if_neg h1, if_pos h]
    rw [ho]
    clear ho
    go_enter Try.func72, Try.ntmps72
    go_wp2_with (go_at_call 75; refine (HN.out _ _).mono ?_; rintro e w' ⟨rfl, rfl⟩)
    go_ret
    exact ⟨rfl, rfl⟩
theorem cmpU_gen (x y : Int) (w : World) : Calls Try.prog 73 #[.int .u32 x, .int .u32 y] w fun e w' => e = .returned (.int .i64 (ordI x y)) ∧ w' = w := by
  rcases Int.lt_trichotomy x y with h | h | h
  · have HN := Lib.hid (fun z w => nanU_any z w)
    have h1 : x < y := h
    have ho : ordI x y = -1 := by unfold ordI; rw [if_pos h]
    rw [ho]
    clear ho
    go_enter Try.func73, Try.ntmps73
    go_wp2_with (go_at_call 76; refine (HN.out _ _).mono ?_; rintro e w' ⟨rfl, rfl⟩)
    go_ret
    exact ⟨rfl, rfl⟩
  · subst h
    have ho : ordI x x = 0 := by unfold ordI; rw [if_neg (by omega), if_neg (by omega)]
    rw [ho]
    exact cmpU_eq x w
  · have HN := Lib.hid (fun z w => nanU_any z w)
    have h1 : ¬ x < y := by omega
    have h2 : y < x := h
    have ho : ordI x y = 1 := by unfold ordI; rw [if_neg h1, if_pos h]
    rw [ho]
    clear ho
    go_enter Try.func73, Try.ntmps73
    go_wp2_with (go_at_call 76; refine (HN.out _ _).mono ?_; rintro e w' ⟨rfl, rfl⟩)
    go_ret
    exact ⟨rfl, rfl⟩
set_option maxHeartbeats 800000 in
theorem cmpN_gen {w : World} {a1 a2 : Option Addr} {cap1 cap2 : Nat} {l1 l2 : List Nat} {inf1 inf2 : Bool} (h1 : Cells w a1 l1.length cap1 (wordCells l1)) (h2 : Cells w a2 l2.length cap2 (wordCells l2)) (hm1 : mayNat inf1 l1 = true) (hm2 : mayNat inf2 l2 = true) :
    Calls Try.prog 69 #[.agg #[.bool inf1, .slice a1 l1.length cap1], .agg #[.bool inf2, .slice a2 l2.length cap2]] w fun e w' => Ord0 (inf1 = inf2 ∧ (inf1 = true ∨ l1 = l2)) e ∧ Ext w w' := by
  have hb : Ext w ((w.alloc (Obj.cells #[.bool inf1, .slice a1 l1.length cap1] 28)).alloc (Obj.cells #[.bool inf2, .slice a2 l2.length cap2] 28)) := ((Chg.refl w).alloc _).alloc _
  have HX := Lib.hid hb
  have hc1 := h1.1
  have hc2 := h2.1
  have hx1 := h1.2.1
  have hx2 := h2.2.1
  unfold maxLen at hx1 hx2
  cases inf1 with
  | true =>
    cases inf2 with
    | true =>
      clear h1 h2 hm1 hm2
      generalize l1.length = n at HX hc1 ⊢
      generalize l2.length = m at HX hc2 ⊢
      go_enter Try.func69, Try.ntmps69
      go_wp2_with fail
      go_ret
      exact ⟨⟨_, rfl, fun _ => by simp⟩, HX.out⟩
    | false =>
      clear h1 h2 hm1 hm2
      generalize l1.length = n at HX hc1 ⊢
      generalize l2.length = m at HX hc2 ⊢
      go_enter Try.func69, Try.ntmps69
      go_wp2_with fail
      go_ret
      exact ⟨⟨_, rfl, fun h => by omega⟩, HX.out⟩
  | false =>
    cases inf2 with
    | true =>
      clear h1 h2 hm1 hm2
      generalize l1.length = n at HX hc1 ⊢
      generalize l2.length = m at HX hc2 ⊢
      go_enter Try.func69, Try.ntmps69
      go_wp2_with fail
      go_ret
      exact ⟨⟨_, rfl, fun h => by omega⟩, HX.out⟩
    | false =>
      have hwl1 : wl l1 l1.length = l1.length := by
        have h3 : whole l1 = true := hm1
        rw [whole_wl] at h3
        simpa using h3
      have hwl2 : wl l2 l2.length = l2.length := by
        have h3 : whole l2 = true := hm2
        rw [whole_wl] at h3
        simpa using h3
      have HW1 := Lib.hid (fun k => whole_any (h1.chg (S := fun _ => False) (hb.drewN k) (fun _ _ h => h)))
      have HW2 := Lib.hid (fun k => whole_any (h2.chg (S := fun _ => False) (hb.drewN k) (fun _ _ h => h)))
      rw [hwl1] at HW1
      rw [hwl2] at HW2
      have H1 := Lib.hid h1
      have H2 := Lib.hid h2
      have HCI := Lib.hid (fun w => cmpI_gen (l1.length : Int) (l2.length : Int) w)
      clear h1 h2 hm1 hm2 hwl1 hwl2 hb
      obtain ⟨n, hn⟩ : ∃ n, l1.length = n := ⟨_, rfl⟩
      obtain ⟨m, hm⟩ : ∃ n, l2.length = n := ⟨_, rfl⟩
      rw [hn] at HX HW1 HW2 hc1 HCI ⊢
      rw [hm] at HX HW1 HW2 hc2 HCI ⊢
      obtain ⟨o0, ho0⟩ : ∃ o, ordI (n : Int) (m : Int) = o := ⟨_, rfl⟩
      rw [ho0] at HCI
      have HO0 := Lib.hid ho0
      clear ho0
      have HN := Lib.hid (And.intro hn hm)
      clear hn hm
      go_enter Try.func69, Try.ntmps69
      go_wp2_with fail
      go_quiet ((first | (go_at_call_of 65 (Value.slice a1 n cap1); exact Calls.quiet_of_same ((HW1.out _).mono fun e w' ⟨h1, h2⟩ => ⟨h1, h2⟩)) | (go_at_call_of 65 (Value.slice a2 m cap2); exact Calls.quiet_of_same ((HW2.out _).mono fun e w' ⟨h1, h2⟩ => ⟨h1, h2⟩))))
      go_wp2_with (go_at_call 72; refine (HCI.out _).mono ?_; rintro e w' ⟨rfl, rfl⟩)
      go_loopg [7, 8] n (fun g l7 l8 wr => ∃ (k : Nat) (o : Int), Ext w wr ∧ k ≤ n ∧ (o = 0 → n = m ∧ ∀ j, k ≤ j → l1.getD j 0 = l2.getD j 0) ∧ l7 = .int .i64 o ∧ l8 = .int .i64 ((k : Int) - 1) ∧ g = k)
      case atStart => exact ⟨n, o0, HX.out.drewN _, Nat.le_refl _, fun h => ⟨by have := ordI_zero (HO0.out.trans h); omega, fun j hj => by
        have e := ordI_zero (HO0.out.trans h)
        rw [List.getD_eq_getElem?_getD, List.getD_eq_getElem?_getD, List.getElem?_eq_none (by rw [HN.out.1]; omega), List.getElem?_eq_none (by rw [HN.out.2]; omega)]⟩, rfl, rfl, rfl⟩
      case round =>
        obtain ⟨k, o, hex, hk, ho, rfl, rfl, hg⟩ := hrel
        have HE := Lib.hid hex
        have HO := Lib.hid ho
        clear hex ho
        by_cases hz : o = 0
        · subst hz
          cases k with
          | zero =>
            have h0 : ¬ (0 : Int) ≤ ((0 : Nat) : Int) - 1 := by omega
            go_wp2_with fail
            go_ret
            refine ⟨⟨_, rfl, fun _ => ?_⟩, HE.out⟩
            suffices hs : l1 = l2 by simp [hs]
            obtain ⟨hnm, hall⟩ := HO.out (by trivial)
            refine same_all HN.out.1 (HN.out.2.trans hnm.symm) fun j hj => ?_
            have h := hall j (Nat.zero_le _)
            rw [List.getElem?_eq_getElem (by rw [HN.out.1]; exact hj), List.getElem?_eq_getElem (by rw [HN.out.2]; omega)]
            rw [List.getD_eq_getElem?_getD, List.getD_eq_getElem?_getD, List.getElem?_eq_getElem (by rw [HN.out.1]; exact hj), List.getElem?_eq_getElem (by rw [HN.out.2]; omega)] at h
            exact congrArg some h
          | succ k =>
            have he : (((k + 1 : Nat) : Int) - 1) = (k : Int) := by omega
            rw [he]
            obtain ⟨hnm, -⟩ := HO.out (by trivial)
            have hk0 : 0 ≤ (k : Int) := by omega
            have hkn : (k : Int) < n := by omega
            have hkm : (k : Int) < m := by omega
            obtain ⟨x, rfl, c0⟩ := word_cell H1.out (m := k) (by rw [HN.out.1]; omega)
            obtain ⟨y, rfl, c1⟩ := word_cell H2.out (m := k) (by rw [HN.out.2]; omega)
            have d0 := (HE.out.cell (lt_of_cell c0) (fun h => h)).trans c0
            have d1 := (HE.out.cell (lt_of_cell c1) (fun h => h)).trans c1
            have HCU := Lib.hid (fun w => cmpU_gen ((l1.getD k 0 : Nat) : Int) ((l2.getD k 0 : Nat) : Int) w)
            obtain ⟨z1, hz1⟩ : ∃ z, ((l1.getD k 0 : Nat) : Int) = z := ⟨_, rfl⟩
            obtain ⟨z2, hz2⟩ : ∃ z, ((l2.getD k 0 : Nat) : Int) = z := ⟨_, rfl⟩
            rw [hz1] at d0 HCU
            rw [hz2] at d1 HCU
            have HZ := Lib.hid (And.intro hz1 hz2)
            clear c0 c1 he hz1 hz2 hnm
            obtain ⟨o1, ho1⟩ : ∃ o, ordI z1 z2 = o := ⟨_, rfl⟩
            rw [ho1] at HCU
            have HO1 := Lib.hid ho1
            clear ho1
            go_wp2_with fail
            go_quiet ((go_at_call 73; exact Calls.quiet_of_same ((HCU.out _).mono fun e w' ⟨h1, h2⟩ => ⟨h1, h2⟩)))
            go_wp2_with fail
            go_roundg k
            case measure => omega
            case rel =>
              refine ⟨k, o1, HE.out.drewN _, by omega, fun h => ⟨(HO.out (by trivial)).1, fun j hj => ?_⟩, rfl, rfl, rfl⟩
              by_cases e : j = k
              · subst e
                have h3 := ordI_zero (HO1.out.trans h)
                rw [← HZ.out.1, ← HZ.out.2] at h3
                exact Int.ofNat_inj.1 h3
              · exact (HO.out (by trivial)).2 j (by omega)
        · have hz' : (o == 0) = false := by simpa using hz
          have HOZ := Lib.hid hz
          clear hz
          by_cases hk0 : 0 ≤ (k : Int) - 1
          · go_wp2_with fail
            go_ret
            exact ⟨⟨_, rfl, fun h => absurd h HOZ.out⟩, HE.out⟩
          · go_wp2_with fail
            go_ret
            exact ⟨⟨_, rfl, fun h => absurd h HOZ.out⟩, HE.out⟩
theorem sameN_gen {w : World} {a1 a2 : Option Addr} {cap1 cap2 : Nat} {l1 l2 : List Nat} {inf1 inf2 : Bool} (h1 : Cells w a1 l1.length cap1 (wordCells l1)) (h2 : Cells w a2 l2.length cap2 (wordCells l2)) (hm1 : mayNat inf1 l1 = true) (hm2 : mayNat inf2 l2 = true) :
    Calls Try.prog 61 #[.agg #[.bool inf1, .slice a1 l1.length cap1], .agg #[.bool inf2, .slice a2 l2.length cap2]] w (Says (inf1 = inf2 ∧ (inf1 = true ∨ l1 = l2)) w) := by
  have hb : Ext w ((w.alloc (Obj.cells #[.bool inf1, .slice a1 l1.length cap1] 28)).alloc (Obj.cells #[.bool inf2, .slice a2 l2.length cap2] 28)) := ((Chg.refl w).alloc _).alloc _
  have HX := Lib.hid hb
  have HC := Lib.hid (cmpN_gen (h1.chg (S := fun _ => False) hb (fun _ _ h => h)) (h2.chg (S := fun _ => False) hb (fun _ _ h => h)) hm1 hm2)
  clear hb h1 h2 hm1 hm2
  obtain ⟨P, hP⟩ : ∃ P : Prop, (inf1 = inf2 ∧ (inf1 = true ∨ l1 = l2)) = P := ⟨_, rfl⟩
  rw [hP] at HC ⊢
  clear hP
  generalize l1.length = n at HX HC ⊢
  generalize l2.length = m at HX HC ⊢
  go_enter Try.func61, Try.ntmps61
  go_wp2_with (go_at_call 69; refine HC.out.mono ?_; rintro e w' ⟨⟨z, rfl, hz⟩, hx⟩)
  go_ret
  exact ⟨⟨_, rfl, fun h => hz (by simpa using h)⟩, HX.out.trans hx⟩
end Go.Proofs.Ytnamcghcgcknpaa
