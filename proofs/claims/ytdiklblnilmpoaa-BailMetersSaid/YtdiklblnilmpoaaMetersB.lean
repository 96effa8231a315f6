/-
  The walk of the law BailMeters: true, and nothing that was there has turned.
-/
import Derived.Test.YtdiklblnilmpoaaMetersA
import Derived.Deep.LoopGhost
namespace Go.Proofs.Ytdiklblnilmpoaa
open Go.RowKit
set_option linter.unusedVariables false

/-- WHAT THE WALK IS TOLD OF A SLICE OF INTEGERS THAT CAME IN. -/
def IsRow (k : IntKind) (w : World) (a : Option Addr) (len cap : Nat) (zs : List Int) : Prop :=
  (a = none ∧ len = 0 ∧ cap = 0 ∧ zs = []) ∨
  ∃ x, a = some x ∧ len ≤ cap ∧ cap ≤ maxLen ∧ zs.length = cap ∧ (∀ i, i < zs.length → w.cell? (x.add i) = some (.int k (zs.getD i 0))) ∧ ∀ n ∈ zs, (Lit.int k n).wf = true

/-- The loop's state: the boxes of l, of m, of i; what the meter holds. -/
structure MSt (W wr : World) (a : Option Addr) (len cap : Nat) (i : Nat) (k : Int) (b7 : Nat) : Prop where
  bel : Ext W wr
  h3 : Box wr W.heap.size (.slice a len cap)
  hm : Box wr (W.heap.size + 1) (.int .i64 k)
  h5 : Box wr (W.heap.size + 1 + 1) (.pointer (some ⟨W.heap.size + 1, 0, none⟩))
  h7 : Box wr b7 (.int .i64 i)
  le7 : W.heap.size + 1 + 1 + 1 ≤ b7
  k0 : 0 ≤ k
  k1 : k ≤ 9223372036854775807
  ile : i ≤ len

theorem MSt.start (w : World) (a1 : Option Addr) (len1 cap1 : Nat) {k : Int} (hk00 : 0 ≤ k) (hk01 : k ≤ 9223372036854775807) :
    MSt w ((((w.alloc (.cells #[.slice a1 len1 cap1] 22)).alloc (.cells #[.int .i64 k] 62)).alloc (.cells #[.pointer (some ⟨w.heap.size + 1, 0, none⟩)] 24)).alloc (.cells #[.int .i64 0] 3)) a1 len1 cap1 0 k (w.heap.size + 1 + 1 + 1) := by
  refine ⟨(((((Chg.refl w).alloc _).alloc _).alloc _).alloc _), ?_, ?_, ?_, ?_, Nat.le_refl _, hk00, hk01, Nat.zero_le _⟩
  · exact (Box.new (w := w) _ _).chg (S := fun _ => False) ((((Chg.refl _).alloc _).alloc _).alloc _) (fun h => h)
  · have := (Box.new (w := w.alloc (Obj.cells #[Value.slice a1 len1 cap1] 22)) (.int .i64 k) 62).chg (S := fun _ => False) (((Chg.refl _).alloc (.cells #[.pointer (some ⟨w.heap.size + 1, 0, none⟩)] 24)).alloc (.cells #[.int .i64 0] 3)) (fun h => h)
    simp only [World.size_alloc] at this
    exact this
  · have := (Box.new (w := (w.alloc (Obj.cells #[Value.slice a1 len1 cap1] 22)).alloc (.cells #[.int .i64 k] 62)) (.pointer (some ⟨w.heap.size + 1, 0, none⟩)) 24).chg (S := fun _ => False) ((Chg.refl _).alloc (.cells #[.int .i64 0] 3)) (fun h => h)
    simp only [World.size_alloc] at this
    exact this
  · have := Box.new (w := ((w.alloc (Obj.cells #[Value.slice a1 len1 cap1] 22)).alloc (.cells #[.int .i64 k] 62)).alloc (.cells #[.pointer (some ⟨w.heap.size + 1, 0, none⟩)] 24)) (.int .i64 0) 3
    simp only [World.size_alloc] at this
    exact this
/-- The state's step: i goes on in a new box, the meter holds k'. -/
theorem MSt.step {W wr w' : World} {a : Option Addr} {len cap i b7 : Nat} {k k' : Int} (h : MSt W wr a len cap i k b7) (hk : Keep (fun _ b => b = W.heap.size + 1) wr w') (hm : Box w' (W.heap.size + 1) (.int .i64 k')) (h0 : 0 ≤ k') (h1 : k' ≤ 9223372036854775807) (hi : i < len) :
    MSt W (w'.alloc (.cells #[.int .i64 (↑i + 1)] 3)) a len cap (i + 1) k' w'.heap.size := by
  have hs := hk.size
  have hW := h.bel.size
  have l7 := h.h7.lt
  have l7' := h.le7
  have e : Ext w' (w'.alloc (.cells #[.int .i64 (↑i + 1)] 3)) := (Chg.refl _).alloc _
  refine ⟨?_, ((h.h3.keep hk (by show ¬ (_ = _); omega)).chg e (fun h => h)), hm.chg e (fun h => h), ((h.h5.keep hk (by show ¬ (_ = _); omega)).chg e (fun h => h)), Box.new (.int .i64 (↑i + 1)) _, by omega, h0, h1, by omega⟩
  refine Chg.trans ?_ e
  exact ⟨hk.os.trans h.bel.os, hk.tape.trans h.bel.tape, hk.output.trans h.bel.output, by omega, fun j hj _ => (hk.block j (by omega) (by show ¬ (_ = _); omega)).trans (h.bel.block j hj (fun h => h))⟩
theorem meters_walk (a0 : Int) (a1 : Option Addr) (len1 cap1 : Nat) (z1 : List Int) (w : World) (w0 : (Lit.int .i64 a0).wf = true) (w1 : IsRow .i64 w a1 len1 cap1 z1) :
    Calls Try.prog 3 #[.int .i64 a0, .slice a1 len1 cap1] w fun e w' => e = .returned (.bool true) ∧ Below w.heap.size w w' := by
  have hlen : len1 ≤ 9223372036854775807 := by
    rcases w1 with ⟨_, h, _⟩ | ⟨x, _, h, h2, _⟩
    · omega
    · unfold maxLen at h2; omega
  by_cases h100 : 100 < len1
  · go_enter Try.func3, Try.ntmps3
    have H1 := Lib.hid w1
    clear w1 w0
    have hb : Ext w (w.alloc (Obj.cells #[Value.slice a1 len1 cap1] 22)) := (Chg.refl w).alloc _
    have h100' : (100 : Int) < (len1 : Int) := by omega
    go_wp2_with fail
    refine (awake_any _).mono ?_
    rintro e w2 ⟨rfl, h2⟩
    go_wp2
    go_ret
    exact ⟨rfl, Ext.below (hb.trans h2)⟩
  · have ha0 : a0 ≤ 9223372036854775807 := by
      have h := w0; simp only [Lit.wf, Bool.and_eq_true, decide_eq_true_eq] at h; exact h.2
    have HW := Lib.hid w1
    clear w1 w0
    have h100' : ¬ (100 : Int) < (len1 : Int) := by omega
    obtain ⟨k0, hk0, hk00, hk01, hk02⟩ : ∃ k0 : Int, max a0 0 = k0 ∧ 0 ≤ k0 ∧ k0 ≤ 9223372036854775807 ∧ ((a0 < 0 ∧ k0 = 0) ∨ (¬ a0 < 0 ∧ k0 = a0)) := ⟨max a0 0, rfl, by omega, by omega, by omega⟩
    have hmk : Calls Try.prog 9 #[.int .i64 a0] (w.alloc (Obj.cells #[Value.slice a1 len1 cap1] 22)) fun e w' => e = .returned (.pointer (some ⟨w.heap.size + 1, 0, none⟩)) ∧ w' = (w.alloc (Obj.cells #[Value.slice a1 len1 cap1] 22)).alloc (.cells #[.int .i64 k0] 62) := by
      have h := newMeter_any a0 (w.alloc (Obj.cells #[Value.slice a1 len1 cap1] 22))
      rw [World.size_alloc, hk0] at h
      exact h
    have HM := Lib.hid hmk
    clear hk0 hmk
    rcases hk02 with ⟨hn, rfl⟩ | ⟨hn, rfl⟩
    all_goals
      go_enter Try.func3, Try.ntmps3
      go_wp2_with (go_at_call 9; refine HM.out.mono ?_; rintro e w' ⟨rfl, rfl⟩)
      clear HM
      go_loopg [6, 7] len1 (fun g l6 l7 wr => ∃ (i : Nat) (k : Int) (b7 : Nat), MSt w wr a1 len1 cap1 i k b7 ∧ l6 = .int .i64 k ∧ l7 = .pointer (some ⟨b7, 0, none⟩) ∧ g = len1 - i)
      case atStart =>
        exact ⟨0, _, w.heap.size + 1 + 1 + 1, MSt.start _ _ _ _ hk00 hk01, rfl, rfl, rfl⟩
      case round =>
        obtain ⟨i, k, b7, hst, rfl, rfl, rfl⟩ := hrel
        have HS := Lib.hid hst
        obtain ⟨bel, h3, hm, h5, h7, le7, hk0, hk1, ile⟩ := hst
        have c3 := h3.cell
        have c5 := h5.cell
        have c7 := h7.cell
        by_cases hi : i < len1
        · obtain ⟨x, rfl, hlc, hcm, hzl, hcell, hwz⟩ : ∃ x, a1 = some x ∧ len1 ≤ cap1 ∧ cap1 ≤ maxLen ∧ z1.length = cap1 ∧ (∀ i, i < z1.length → w.cell? (x.add i) = some (.int .i64 (z1.getD i 0))) ∧ ∀ n ∈ z1, (Lit.int .i64 n).wf = true := by
            rcases HW.out with ⟨_, h, _⟩ | h
            · omega
            · exact h
          have hci := hcell i (by omega)
          obtain ⟨n, hn⟩ : ∃ n, z1.getD i 0 = n := ⟨_, rfl⟩
          rw [hn] at hci
          have hcr : wr.cell? (x.add i) = some (.int .i64 n) := by rw [bel.cell (lt_of_cell hci) (fun h => h)]; exact hci
          have hxlt : (x.add i).block < wr.heap.size := lt_of_cell hcr
          have hxne : ¬ (x.add i).block = w.heap.size + 1 := fun h => by have := lt_of_cell hci; omega
          have hT : There (fun _ b => b = w.heap.size + 1) wr := by rintro b rfl; exact hm.lt
          have hi1 : 0 ≤ (i : Int) := by omega
          have hi2 : (i : Int) < (len1 : Int) := by omega
          have hcat : Calls Try.prog 10 #[.func (.func 11) #[] #[.pointer (some ⟨w.heap.size + 1 + 1, 0, none⟩), .pointer (some ⟨w.heap.size, 0, none⟩), .pointer (some ⟨b7, 0, none⟩)]] wr (CatchEnd (fun _ b => b = w.heap.size + 1) wr (Used (w.heap.size + 1) k n)) :=
            catch_runs (loc_const _) hT fun w1 he => meters1_runs _ _ _ _ len1 cap1 i x k n w1 (h5.chg he (fun h => h)) (h3.chg he (fun h => h)) (h7.chg he (fun h => h)) hi hlen (by rw [he.cell hxlt (fun h => h)]; exact hcr) (hm.chg he (fun h => h)) hk1
          have HC := Lib.hid hcat
          have HN := Lib.hid (And.intro hn hxne)
          clear hcat hn hxne hci hcell hwz HW
          have HX := Lib.hid hcr
          clear hcr
          go_wp2_with fail
          refine HC.out.mono ?_
          rintro e w' ⟨o, w2, hk2, hu, ⟨hk, hch⟩, he⟩
          have hcr' : w'.cell? (x.add i) = some (.int .i64 n) := by
            have := hk.block (x.add i).block hxlt HN.out.2
            rw [World.cell?_of_block this]; exact HX.out
          have k3 := (h3.keep hk (by show ¬ (_ = _); omega)).cell
          have k5 := (h5.keep hk (by show ¬ (_ = _); omega)).cell
          have k7 := (h7.keep hk (by show ¬ (_ = _); omega)).cell
          have f7 := (h7.keep hk (by show ¬ (_ = _); omega)).frozen
          have hmm : ∀ v, Box w2 (w.heap.size + 1) v → Box w' (w.heap.size + 1) v := fun v hv => hv.chg hch (fun h => h.2 rfl)
          have HCH := Lib.hid (And.intro hch hk2)
          rcases hu with ⟨hn0, rfl, hb⟩ | ⟨hn0, hkn, rfl, hb⟩ | ⟨hn0, hkn, rfl, hb⟩
          · have hb' := hmm _ hb
            have cm' := hb'.cell
            have HF := Lib.hid (HS.out.step hk hb' hk0 hk1 hi)
            clear HCH hmm hb hb' hk hch hk2 HC HS HX HN bel h3 hm h5 h7 hxlt hT c3 c5 c7
            simp only at he
            subst he
            go_wp2_with (go_at_call 13; refine (left_some _ k _ cm').mono ?_; rintro e w' ⟨rfl, rfl⟩)
            go_roundg (len1 - (i + 1))
            case measure => omega
            case rel => exact ⟨i + 1, _, w'.heap.size, HF.out, rfl, rfl, rfl⟩
          · have hb' := hmm _ hb
            have cm' := hb'.cell
            have HF := Lib.hid (HS.out.step hk hb' hk0 hk1 hi)
            clear HCH hmm hb hb' hk hch hk2 HC HS HX HN bel h3 hm h5 h7 hxlt hT c3 c5 c7
            simp only at he
            subst he
            go_wp2_with (go_at_call 13; refine (left_some _ k _ cm').mono ?_; rintro e w' ⟨rfl, rfl⟩)
            go_roundg (len1 - (i + 1))
            case measure => omega
            case rel => exact ⟨i + 1, _, w'.heap.size, HF.out, rfl, rfl, rfl⟩
          · have hb' := hmm _ hb
            have cm' := hb'.cell
            have HF := Lib.hid (HS.out.step hk hb' (by omega) (by omega) hi)
            clear HCH hmm hb hb' hk hch hk2 HC HS HX HN bel h3 hm h5 h7 hxlt hT c3 c5 c7
            simp only at he
            subst he
            go_wp2_with (go_at_call 13; refine (left_some _ (k - n) _ cm').mono ?_; rintro e w' ⟨rfl, rfl⟩)
            go_roundg (len1 - (i + 1))
            case measure => omega
            case rel => exact ⟨i + 1, _, w'.heap.size, HF.out, rfl, rfl, rfl⟩
        · have hi' : ¬ (i : Int) < (len1 : Int) := by omega
          have HB := Lib.hid bel
          clear hi HW HS bel h3 hm h5 h7
          go_wp2_with fail
          have hcat : Calls Try.prog 10 #[.func (.func 14) #[] #[.pointer (some ⟨wr.heap.size, 0, none⟩)]] (wr.alloc (Obj.cells #[Value.pointer none] 24)) (CatchEnd NoD (wr.alloc (Obj.cells #[Value.pointer none] 24)) (fun o _ => o = .bail 10 1)) :=
            catch_runs loc_none (there_none _) fun w1 he => meters2_runs _ w1 ((Box.new _ _).chg he (fun h => h))
          refine hcat.mono ?_
          rintro e w' ⟨o, w2, hk2, rfl, ⟨hk, hch⟩, he⟩
          simp only at he
          subst he
          have k11 := ((Box.new (w := wr) (.pointer none) 24).keep hk (fun h => h)).cell
          have HE : Hid (Ext w w') := (HB.out.trans ((Chg.refl _).alloc _)).trans hk.ext
          clear hcat hk hch hk2 HB
          go_wp2_with (first | (go_at_call 13; refine (left_nil _).mono ?_; rintro e w' ⟨rfl, rfl⟩) | (go_at_call 8; refine (awake_any _).mono ?_; rintro e w3 ⟨rfl, h3⟩))
          go_ret
          exact ⟨rfl, Ext.below (HE.out.trans h3)⟩
end Go.Proofs.Ytdiklblnilmpoaa
