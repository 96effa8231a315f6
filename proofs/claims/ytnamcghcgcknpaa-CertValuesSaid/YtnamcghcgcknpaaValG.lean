/-
  Reading a value (chapter 24): Unvalue.
-/
import Derived.Test.YtnamcghcgcknpaaValF
import Derived.Test.YtnamcghcgcknpaaDecC
namespace Go.Proofs.Ytnamcghcgcknpaa
open Go.RowKit
set_option linter.unusedVariables false

/-- What the reading's function value does. -/
def UnvΦ (B rb : Nat) (p0 : Nat) (a : Option Addr) (len cap : Nat) (bs : List Nat) (o : Fin) (w' : World) : Prop :=
  match dVal bs with
  | none => (∃ a, o = .bail 13 a) ∧ ∃ d0 d1 d2 d3 d4, Blk w' p0 #[d0, d1, d2, d3, d4] 31
  | some (v, t) => o = .ret ∧ v.x < 18446744073709551616 ∧ Rd w' rb a len cap bs t ∧ ∃ a1 cap1, w'.ownsRow B 77 1 (.slice a1 v.w.length cap1) v.w.length (wordCells v.w) ∧ Blk w' p0 #[.int .i64 v.sem, .bool v.inf, .slice a1 v.w.length cap1, .int .i64 v.level, .float .f64 v.x] 31
set_option maxRecDepth 100000 in
set_option maxHeartbeats 1000000 in
theorem unv1_runs {w1 : World} {B p0 p2 rb : Nat} {a : Option Addr} {len cap : Nat} {bs : List Nat} {c0 c1 c2 c3 c4 : Value} (hB : B ≤ w1.heap.size) (hp0 : p0 < B) (h : Rd w1 rb a len cap bs bs) (h2 : Box w1 p2 (.pointer (some ⟨rb, 0, none⟩))) (h0 : Blk w1 p0 #[c0, c1, c2, c3, c4] 31) (h0r : p0 < rb) (h0a : ∀ x, a = some x → 0 < len → x.block < p0) :
    Runs (fun _ k => k = rb ∨ k = p0) (.func (.func 30) #[] #[.pointer (some ⟨p2, 0, none⟩), .pointer (some ⟨p0, 0, none⟩)]) w1 (UnvΦ B rb p0 a len cap bs) := by
  refine Runs.of (fun args w => run_enter Try.func30 rfl rfl args w) ?_
  have k2 := h2.cell
  have hC := value_any h
  have hD : ∀ k, (k = rb ∨ k = p0) → k < w1.heap.size := fun k hk => hk.elim (fun e => e ▸ h.lt) (fun e => e ▸ h0.lt)
  have HD := Lib.hid hD
  have H0 := Lib.hid (And.intro h0 (And.intro h0r h0a))
  have hsf := run_store_f
  cases hd : dVal bs with
  | none =>
    have HC : Hid (Calls Try.prog 31 #[.pointer (some ⟨rb, 0, none⟩)] w1 fun e w2 => Chg (fun k => k = rb) w1 w2 ∧ Gone w1.heap.size e w2) := Lib.hid (by unfold Got at hC; rw [hd] at hC; exact hC)
    have HΦ : Hid (∀ o w', ((∃ a, o = .bail 13 a) ∧ ∃ d0 d1 d2 d3 d4, Blk w' p0 #[d0, d1, d2, d3, d4] 31) → UnvΦ B rb p0 a len cap bs o w') := Lib.hid (fun o w' h => by unfold UnvΦ; rw [hd]; exact h)
    clear hC hd h h2 h0 h0r h0a hD
    go_enter Try.func30, Try.ntmps30
    go_wp2_with fail
    refine HC.out.mono ?_
    rintro e w2 ⟨hc, hg⟩
    obtain ⟨p, he⟩ := gone_ends (D := fun k => k = rb ∨ k = p0) hg HD.out
    have hfin : Keep (fun _ k => k = rb ∨ k = p0) w1 w2 ∧ ∃ o, Ends (fun _ k => k = rb ∨ k = p0) o e w2 ∧ UnvΦ B rb p0 a len cap bs o w2 :=
      ⟨keep_const (hc.mono fun k _ h => .inl h) HD.out, _, he, HΦ.out _ _ ⟨⟨p, rfl⟩, _, _, _, _, _, H0.out.1.chg hc (by intro h; have := H0.out.2.1; have h' : p0 = rb := h; omega)⟩⟩
    obtain ⟨q, ch, b, rfl, _⟩ := hg
    exact ⟨rfl, hfin⟩
  | some q =>
    obtain ⟨v, t⟩ := q
    have HC : Hid (Calls Try.prog 31 #[.pointer (some ⟨rb, 0, none⟩)] w1 fun e w2 => Chg (fun k => k = rb) w1 w2 ∧ ∃ val, e = .returned val ∧ ValV w1 v val w2 ∧ Rd w2 rb a len cap bs t) := Lib.hid (by unfold Got at hC; rw [hd] at hC; exact hC)
    have HΦ : Hid (∀ o w', (o = .ret ∧ v.x < 18446744073709551616 ∧ Rd w' rb a len cap bs t ∧ ∃ a1 cap1, w'.ownsRow B 77 1 (.slice a1 v.w.length cap1) v.w.length (wordCells v.w) ∧ Blk w' p0 #[.int .i64 v.sem, .bool v.inf, .slice a1 v.w.length cap1, .int .i64 v.level, .float .f64 v.x] 31) → UnvΦ B rb p0 a len cap bs o w') := Lib.hid (fun o w' h => by unfold UnvΦ; rw [hd]; exact h)
    clear hC hd h h2 h0 h0r h0a hD
    go_enter Try.func30, Try.ntmps30
    go_wp2_with fail
    refine HC.out.mono ?_
    rintro e w2 ⟨hc, val, rfl, ⟨a1, cap1, rfl, hown, hvx⟩, hrd⟩
    have kb := H0.out.1.chg hc (by intro h; have := H0.out.2.1; have h' : p0 = rb := h; omega)
    obtain ⟨g0, f0, g1, f1, g2, f2, g3, f3, g4, f4⟩ := blk5_base kb
    have HS := Lib.hid (blk5_step kb (.int .i64 v.sem) (.bool v.inf) (.slice a1 v.w.length cap1) (.int .i64 v.level) (.float .f64 v.x))
    have HCR := Lib.hid (And.intro hown (And.intro hvx hrd))
    have HCC := Lib.hid hc
    clear kb hown hvx hc hrd
    unfold valV at *
    go_wp2_with fail
    go_end0
    have hcc : Chg (fun k => k = p0) w2 _ := set_chg (j := 4) (c := .float .f64 v.x) (set_chg (j := 3) (c := .int .i64 v.level) (set_chg (j := 2) (c := .slice a1 v.w.length cap1) (set_chg (j := 1) (c := .bool v.inf) (set_chg (j := 0) (c := .int .i64 v.sem) (Chg.refl w2)))))
    refine ⟨keep_const ((HCC.out.mono fun k _ h => .inl h).trans (hcc.mono fun k _ h => .inr h)) HD.out, .ret, rfl, HΦ.out _ _ ⟨rfl, HCR.out.2.1, ?_, a1, cap1, ownsRow_base (own_low HCR.out.1 hcc (fun g hg h => by have h' : g = p0 := h; omega)) hB, HS.out.2.2.2.2.2⟩⟩
    obtain ⟨r1, r2, r3, r4, r5, r6, r7, r8⟩ := HCR.out.2.2
    refine ⟨?_, r2, r3, r4, fun i hi => ?_, r6, r7, r8⟩
    · obtain ⟨u, hu⟩ := r1
      refine ⟨u, ?_⟩
      rw [hcc.block rb (Array.getElem?_eq_some_iff.1 hu).1 (by intro h; have h' : rb = p0 := h; have := H0.out.2.1; omega)]
      exact hu
    · obtain ⟨x, hx1, hx2, hx3⟩ := r5 i hi
      refine ⟨x, hx1, hx2, ?_⟩
      rw [hcc.cell (lt_of_cell hx3) (by rw [addr_block]; intro h; have h' : x.block = p0 := h; have := H0.out.2.2 x hx1 (by omega); omega)]
      exact hx3
end Go.Proofs.Ytnamcghcgcknpaa
