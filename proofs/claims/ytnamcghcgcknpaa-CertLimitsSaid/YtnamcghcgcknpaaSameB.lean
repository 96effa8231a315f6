/-
  Two values that are the same (chapters 3, 4, 24).
-/
import Derived.Test.YtnamcghcgcknpaaSameA
import Derived.Deep.RegionWith
namespace Go.Proofs.Ytnamcghcgcknpaa
open Go.RowKit
set_option linter.unusedVariables false

theorem nanI_any (z : Int) (w : World) : Calls Try.prog 75 #[.int .i64 z] w fun e w' => e = .returned (.bool false) ∧ w' = w := by
  go_enter Try.func75, Try.ntmps75
  go_wp2_with fail
  go_ret
  exact ⟨rfl, rfl⟩
theorem nanU_any (z : Int) (w : World) : Calls Try.prog 76 #[.int .u32 z] w fun e w' => e = .returned (.bool false) ∧ w' = w := by
  go_enter Try.func76, Try.ntmps76
  go_wp2_with fail
  go_ret
  exact ⟨rfl, rfl⟩
theorem cmpI_eq (z : Int) (w : World) : Calls Try.prog 72 #[.int .i64 z, .int .i64 z] w fun e w' => e = .returned (.int .i64 0) ∧ w' = w := by
  have HN := Lib.hid (fun w => nanI_any z w)
  have h1 : ¬ z < z := by omega
  go_enter Try.func72, Try.ntmps72
  go_wp2_with (go_at_call 75; refine (HN.out _).mono ?_; rintro e w' ⟨rfl, rfl⟩)
  go_ret
  exact ⟨rfl, rfl⟩
theorem cmpU_eq (z : Int) (w : World) : Calls Try.prog 73 #[.int .u32 z, .int .u32 z] w fun e w' => e = .returned (.int .i64 0) ∧ w' = w := by
  have HN := Lib.hid (fun w => nanU_any z w)
  have h1 : ¬ z < z := by omega
  go_enter Try.func73, Try.ntmps73
  go_wp2_with (go_at_call 76; refine (HN.out _).mono ?_; rintro e w' ⟨rfl, rfl⟩)
  go_ret
  exact ⟨rfl, rfl⟩
set_option maxHeartbeats 800000 in
theorem cmpN_eq {w : World} {a1 a2 : Option Addr} {cap1 cap2 : Nat} {l : List Nat} {inf : Bool} (h1 : Cells w a1 l.length cap1 (wordCells l)) (h2 : Cells w a2 l.length cap2 (wordCells l)) (hm : mayNat inf l = true) :
    Calls Try.prog 69 #[.agg #[.bool inf, .slice a1 l.length cap1], .agg #[.bool inf, .slice a2 l.length cap2]] w fun e w' => e = .returned (.int .i64 0) ∧ Ext w w' := by
  have hb : Ext w ((w.alloc (Obj.cells #[.bool inf, .slice a1 l.length cap1] 28)).alloc (Obj.cells #[.bool inf, .slice a2 l.length cap2] 28)) := ((Chg.refl w).alloc _).alloc _
  have HX := Lib.hid hb
  have hc1 := h1.1
  have hc2 := h2.1
  have hm1 := h1.2.1
  have hm2 := h2.2.1
  unfold maxLen at hm1 hm2
  cases inf with
  | true =>
    clear h1 h2 hm
    generalize l.length = n at HX hc1 hc2 ⊢
    go_enter Try.func69, Try.ntmps69
    go_wp2_with fail
    go_ret
    exact ⟨rfl, HX.out⟩
  | false =>
    have hwl : wl l l.length = l.length := by
      have h3 : whole l = true := hm
      rw [whole_wl] at h3
      simpa using h3
    have HW1 := Lib.hid (fun k => whole_any (h1.chg (S := fun _ => False) (hb.drewN k) (fun _ _ h => h)))
    have HW2 := Lib.hid (fun k => whole_any (h2.chg (S := fun _ => False) (hb.drewN k) (fun _ _ h => h)))
    rw [hwl] at HW1 HW2
    have H1 := Lib.hid h1
    have H2 := Lib.hid h2
    have HCI := Lib.hid (fun w => cmpI_eq (l.length : Int) w)
    clear h1 h2 hm hwl hb
    obtain ⟨n, hn⟩ : ∃ n, l.length = n := ⟨_, rfl⟩
    rw [hn] at HX HW1 HW2 hc1 hc2 HCI ⊢
    have HN := Lib.hid hn
    clear hn
    go_enter Try.func69, Try.ntmps69
    go_wp2_with fail
    go_quiet ((first | (go_at_call_of 65 (Value.slice a1 n cap1); exact Calls.quiet_of_same ((HW1.out _).mono fun e w' ⟨h1, h2⟩ => ⟨h1, h2⟩)) | (go_at_call_of 65 (Value.slice a2 n cap2); exact Calls.quiet_of_same ((HW2.out _).mono fun e w' ⟨h1, h2⟩ => ⟨h1, h2⟩))))
    go_wp2_with (go_at_call 72; refine (HCI.out _).mono ?_; rintro e w' ⟨rfl, rfl⟩)
    go_loopg [7, 8] n (fun g l7 l8 wr => ∃ k : Nat, Ext w wr ∧ k ≤ n ∧ l7 = .int .i64 0 ∧ l8 = .int .i64 ((k : Int) - 1) ∧ g = k)
    case atStart => exact ⟨n, HX.out.drewN _, Nat.le_refl _, rfl, rfl, rfl⟩
    case round =>
      obtain ⟨k, hex, hk, rfl, rfl, hg⟩ := hrel
      have HE := Lib.hid hex
      clear hex
      cases k with
      | zero =>
        have h0 : ¬ (0 : Int) ≤ ((0 : Nat) : Int) - 1 := by omega
        go_wp2_with fail
        go_ret
        exact ⟨rfl, HE.out⟩
      | succ k =>
        have he : (((k + 1 : Nat) : Int) - 1) = (k : Int) := by omega
        rw [he]
        have hk0 : 0 ≤ (k : Int) := by omega
        have hkn : (k : Int) < n := by omega
        obtain ⟨x, rfl, c0⟩ := word_cell H1.out (m := k) (by rw [HN.out]; omega)
        obtain ⟨y, rfl, c1⟩ := word_cell H2.out (m := k) (by rw [HN.out]; omega)
        have d0 := (HE.out.cell (lt_of_cell c0) (fun h => h)).trans c0
        have d1 := (HE.out.cell (lt_of_cell c1) (fun h => h)).trans c1
        have HCU := Lib.hid (fun w => cmpU_eq ((l.getD k 0 : Nat) : Int) w)
        generalize ((l.getD k 0 : Nat) : Int) = z at d0 d1 HCU
        clear c0 c1 he
        go_wp2_with fail
        go_quiet ((go_at_call 73; exact Calls.quiet_of_same ((HCU.out _).mono fun e w' ⟨h1, h2⟩ => ⟨h1, h2⟩)))
        go_wp2_with fail
        go_roundg k
        case measure => omega
        case rel => exact ⟨k, HE.out.drewN _, by omega, rfl, rfl, rfl⟩
theorem sameN_eq {w : World} {a1 a2 : Option Addr} {cap1 cap2 : Nat} {l : List Nat} {inf : Bool} (h1 : Cells w a1 l.length cap1 (wordCells l)) (h2 : Cells w a2 l.length cap2 (wordCells l)) (hm : mayNat inf l = true) :
    Calls Try.prog 61 #[.agg #[.bool inf, .slice a1 l.length cap1], .agg #[.bool inf, .slice a2 l.length cap2]] w fun e w' => e = .returned (.bool true) ∧ Ext w w' := by
  have hb : Ext w ((w.alloc (Obj.cells #[.bool inf, .slice a1 l.length cap1] 28)).alloc (Obj.cells #[.bool inf, .slice a2 l.length cap2] 28)) := ((Chg.refl w).alloc _).alloc _
  have HX := Lib.hid hb
  have HC := Lib.hid (cmpN_eq (h1.chg (S := fun _ => False) hb (fun _ _ h => h)) (h2.chg (S := fun _ => False) hb (fun _ _ h => h)) hm)
  clear hb h1 h2 hm
  generalize l.length = n at HX HC ⊢
  go_enter Try.func61, Try.ntmps61
  go_wp2_with (go_at_call 69; refine HC.out.mono ?_; rintro e w' ⟨rfl, hx⟩)
  go_ret
  exact ⟨rfl, HX.out.trans hx⟩
end Go.Proofs.Ytnamcghcgcknpaa
