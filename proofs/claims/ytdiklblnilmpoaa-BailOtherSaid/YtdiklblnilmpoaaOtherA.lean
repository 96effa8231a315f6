/-
  The walk of the law BailOther: true, and nothing that was there has turned.
-/
import Derived.Test.YtdiklblnilmpoaaBailF
import Derived.Deep.LoopGhost
import Derived.Laws.EntriesVeiled
namespace Go.Proofs.Ytdiklblnilmpoaa
open Go.RowKit
set_option linter.unusedVariables false

theorem other1_runs (b : Nat) (n : Int) (w : World) (hb : Box w b (.int .i64 n)) :
    Runs NoD (.func (.func 19) #[] #[.pointer (some ⟨b, 0, none⟩)]) w (fun o _ => o = .other 3 (.int .i64 n)) := by
  refine Runs.of (fun args w => run_enter Try.func19 rfl rfl args w) ?_
  have cb := hb.cell
  go_enter Try.func19, Try.ntmps19
  go_wp2
  exact ⟨rfl, Keep.refl w, .other 3 (.int .i64 n), ⟨_, rfl, Thrown.one _, .inl (by decide)⟩, rfl⟩
theorem other2_runs (w : World) :
    Runs NoD (.func (.func 20) #[] #[]) w (fun o _ => o = .other 35 (.pointer none)) := by
  refine Runs.of (fun args w => run_enter Try.func20 rfl rfl args w) ?_
  go_enter Try.func20, Try.ntmps20
  go_wp2
  exact ⟨rfl, Keep.refl w, .other 35 (.pointer none), ⟨_, rfl, Thrown.one _, .inr rfl⟩, rfl⟩
theorem other3i_runs (b t : Nat) (x fv : Value) (w : World) (hb : Box w b fv) (hr : ∀ w1, Ext w w1 → Runs NoD fv w1 (fun o _ => o = .other t x)) :
    Runs NoD (.func (.func 22) #[] #[.pointer (some ⟨b, 0, none⟩)]) w (fun o _ => o = .other t x) := by
  refine Runs.of (fun args w => run_enter Try.func22 rfl rfl args w) ?_
  have cb := hb.cell
  have HO := Lib.hid (only_runs (code := 1) loc_none (there_none w) hr)
  clear hr
  go_enter Try.func22, Try.ntmps22
  go_wp2_with fail
  refine HO.out.mono ?_
  rintro e w' ⟨o, w2, hk, rfl, ⟨hk', _⟩, he⟩
  have he0 := he
  obtain ⟨ch, rfl, rest⟩ := he
  exact ⟨rfl, hk', .other t x, he0, rfl⟩
theorem other3_runs (b t : Nat) (x fv : Value) (w : World) (hb : Box w b fv) (hr : ∀ w1, Ext w w1 → Runs NoD fv w1 (fun o _ => o = .other t x)) :
    Runs NoD (.func (.func 21) #[] #[.pointer (some ⟨b, 0, none⟩)]) w (fun o _ => o = .other t x) := by
  refine Runs.of (fun args w => run_enter Try.func21 rfl rfl args w) ?_
  have HO := Lib.hid (catch_runs loc_none (there_none w) fun w1 he => other3i_runs b t x fv w1 (hb.chg he (fun h => h)) fun w2 he2 => hr w2 (he.trans he2))
  clear hr hb
  have hmf := run_mkFunc
  go_enter Try.func21, Try.ntmps21
  go_wp2_with fail
  refine HO.out.mono ?_
  rintro e w' ⟨o, w2, hk, rfl, ⟨hk', _⟩, he⟩
  have he0 := he
  obtain ⟨ch, rfl, rest⟩ := he
  exact ⟨rfl, hk', .other t x, he0, rfl⟩
theorem other4i_runs (b t : Nat) (x fv : Value) (w : World) (hb : Box w b fv) (hr : ∀ w1, Ext w w1 → Runs NoD fv w1 (fun o _ => o = .other t x)) :
    Runs NoD (.func (.func 24) #[] #[.pointer (some ⟨b, 0, none⟩)]) w (fun o _ => o = .other t x) := by
  refine Runs.of (fun args w => run_enter Try.func24 rfl rfl args w) ?_
  have cb := hb.cell
  have HO := Lib.hid (only_runs (code := 1) loc_none (there_none w) hr)
  clear hr
  go_enter Try.func24, Try.ntmps24
  go_wp2_with fail
  refine HO.out.mono ?_
  rintro e w' ⟨o, w2, hk, rfl, ⟨hk', _⟩, he⟩
  have he0 := he
  obtain ⟨ch, rfl, rest⟩ := he
  exact ⟨rfl, hk', .other t x, he0, rfl⟩
theorem other4_runs (b t : Nat) (x fv : Value) (w : World) (hb : Box w b fv) (hr : ∀ w1, Ext w w1 → Runs NoD fv w1 (fun o _ => o = .other t x)) :
    Runs NoD (.func (.func 23) #[] #[.pointer (some ⟨b, 0, none⟩)]) w (fun o _ => o = .other t x) := by
  refine Runs.of (fun args w => run_enter Try.func23 rfl rfl args w) ?_
  have HO := Lib.hid (catch_runs loc_none (there_none w) fun w1 he => other4i_runs b t x fv w1 (hb.chg he (fun h => h)) fun w2 he2 => hr w2 (he.trans he2))
  clear hr hb
  have hmf := run_mkFunc
  go_enter Try.func23, Try.ntmps23
  go_wp2_with fail
  refine HO.out.mono ?_
  rintro e w' ⟨o, w2, hk, rfl, ⟨hk', _⟩, he⟩
  have he0 := he
  obtain ⟨ch, rfl, rest⟩ := he
  exact ⟨rfl, hk', .other t x, he0, rfl⟩

structure OSt (W wr : World) (n : Int) (g1 g2 : Nat) (c1 c2 : Array Value) : Prop where
  bel : Ext W wr
  h2 : Box wr W.heap.size (.int .i64 n)
  run1 : ∀ w', Ext wr w' → Runs NoD (.func (.func g1) #[] c1) w' (fun o _ => o = .other 3 (.int .i64 n))
  run2 : ∀ w', Ext wr w' → Runs NoD (.func (.func g2) #[] c2) w' (fun o _ => o = .other 35 (.pointer none))
theorem OSt.step {W wr : World} {n : Int} {g1 g2 : Nat} {c1 c2 : Array Value} (h : OSt W wr n g1 g2 c1 c2) (t u : Nat) :
    OSt W ((wr.alloc (.cells #[.func (.func g1) #[] c1] t)).alloc (.cells #[.func (.func g2) #[] c2] u)) n 21 23 #[.pointer (some ⟨wr.heap.size, 0, none⟩)] #[.pointer (some ⟨wr.heap.size + 1, 0, none⟩)] := by
  have e : Ext wr ((wr.alloc (.cells #[.func (.func g1) #[] c1] t)).alloc (.cells #[.func (.func g2) #[] c2] u)) := ((Chg.refl _).alloc _).alloc _
  have b0 := (Box.new (w := wr) (.func (.func g1) #[] c1) t).chg (S := fun _ => False) ((Chg.refl _).alloc (.cells #[.func (.func g2) #[] c2] u)) (fun h => h)
  have b1 := Box.new (w := wr.alloc (.cells #[.func (.func g1) #[] c1] t)) (.func (.func g2) #[] c2) u
  rw [World.size_alloc] at b1
  exact ⟨h.bel.trans e, h.h2.chg e (fun h => h),
    fun w' he => other3_runs _ _ _ _ w' (b0.chg he (fun h => h)) fun w1 he1 => h.run1 w1 ((e.trans he).trans he1),
    fun w' he => other4_runs _ _ _ _ w' (b1.chg he (fun h => h)) fun w1 he1 => h.run2 w1 ((e.trans he).trans he1)⟩
theorem OSt.start (W : World) (n : Int) (t : Nat) : OSt W (W.alloc (.cells #[.int .i64 n] t)) n 19 20 #[.pointer (some ⟨W.heap.size, 0, none⟩)] #[] :=
  ⟨(Chg.refl W).alloc _, Box.new _ _, fun w' he => other1_runs _ _ w' ((Box.new (w := W) (.int .i64 n) t).chg he (fun h => h)), fun w' _ => other2_runs w'⟩

theorem other_walk (a0 a1 : Int) (w : World) (w0 : (Lit.int .i64 a0).wf = true) (w1 : (Lit.int .i64 a1).wf = true) :
    Calls Try.prog 5 #[.int .i64 a0, .int .i64 a1] w fun e w' => e = .returned (.bool true) ∧ Below w.heap.size w w' := by
  clear w0 w1
  have hb : Hid (Ext w (w.alloc (Obj.cells #[Value.int .i64 a0] 3))) := (Chg.refl w).alloc _
  rcases (by omega : a1 < 0 ∨ (¬ a1 < 0 ∧ 20 < a1) ∨ (¬ a1 < 0 ∧ ¬ 20 < a1)) with h | ⟨h, h'⟩ | ⟨h, h'⟩
  · go_enter Try.func5, Try.ntmps5
    go_wp2_with fail
    refine (awake_any _).mono ?_
    rintro e w2 ⟨rfl, h2⟩
    go_wp2
    go_ret
    exact ⟨rfl, Ext.below (hb.out.trans h2)⟩
  · go_enter Try.func5, Try.ntmps5
    go_wp2_with fail
    refine (awake_any _).mono ?_
    rintro e w2 ⟨rfl, h2⟩
    go_wp2
    go_ret
    exact ⟨rfl, Ext.below (hb.out.trans h2)⟩
  · obtain ⟨d, rfl⟩ := Int.eq_ofNat_of_zero_le (show 0 ≤ a1 by omega)
    have hmf := run_mkFunc
    go_enter Try.func5, Try.ntmps5
    go_wp2_with fail
    clear hb
    go_loopg [5, 6, 7] d (fun gg l5 l6 l7 wr => ∃ (i g1 g2 : Nat) (c1 c2 : Array Value), i ≤ d ∧ OSt w wr a0 g1 g2 c1 c2 ∧ l5 = .func (.func g1) #[] c1 ∧ l6 = .func (.func g2) #[] c2 ∧ l7 = .int .i64 i ∧ gg = d - i)
    case atStart => exact ⟨0, _, _, _, _, Nat.zero_le _, OSt.start w a0 _, rfl, rfl, rfl, rfl⟩
    case round =>
      obtain ⟨i, g1, g2, c1, c2, hile, hst, rfl, rfl, rfl, rfl⟩ := hrel
      by_cases hi : i < d
      · have hi2 : (i : Int) < (d : Int) := by omega
        have HS := Lib.hid (hst.step 1 1)
        clear hst
        go_wp2_with fail
        go_roundg (d - (i + 1))
        case measure => omega
        case rel => exact ⟨i + 1, _, _, _, _, by omega, HS.out, rfl, rfl, by go_num, rfl⟩
      · have hi2 : ¬ (i : Int) < (d : Int) := by omega
        clear hi hile
        have H1 := Lib.hid (safe_runs loc_none (there_none wr) hst.run1)
        have HS := Lib.hid hst
        clear hst
        have hai := as_int
        have hah := as_hit
        go_wp2_with fail
        refine H1.out.mono ?_
        rintro e wa ⟨o, w2, hk2, rfl, ⟨hk, hch⟩, he, _⟩
        subst he
        have ea := Lib.hid hk.ext
        have H2 := Lib.hid (safe_runs loc_none (there_none wa) fun w' he => HS.out.run2 w' (hk.ext.trans he))
        clear hk2 hk hch H1
        go_wp2_with fail
        refine H2.out.mono ?_
        rintro e wb ⟨o, w2, hk2, rfl, ⟨hk, hch⟩, he, _⟩
        subst he
        have eb := Lib.hid hk.ext
        have c2 := ((HS.out.h2.chg ea.out (fun h => h)).chg eb.out (fun h => h)).cell
        clear hk2 hk hch H2
        go_wp2_with (go_at_call 8; refine (awake_any _).mono ?_; rintro e w3 ⟨rfl, h3⟩)
        go_ret
        exact ⟨rfl, Ext.below (((HS.out.bel.trans ea.out).trans eb.out).trans h3)⟩
end Go.Proofs.Ytdiklblnilmpoaa
