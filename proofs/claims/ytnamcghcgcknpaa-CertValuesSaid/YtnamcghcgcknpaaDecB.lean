/-
  Decode (chapter 24): bytes as a cert, or none.
-/
import Derived.Test.YtnamcghcgcknpaaDecA
namespace Go.Proofs.Ytnamcghcgcknpaa
open Go.RowKit
set_option linter.unusedVariables false

/-- What the reading's function value does. -/
def DecΦ (w1 : World) (p0 : Nat) (bs : List Nat) (o : Fin) (w' : World) : Prop :=
  match dCrtR bs with
  | none => (∃ a, o = .bail 13 a) ∧ ∃ d0 d1 d2 d3 d4 d5 d6 d7, Blk w' p0 #[d0, d1, d2, d3, d4, d5, d6, d7] 33
  | some (c, _) => o = .ret ∧ ∃ a1 cap1 a2 cap2 a3 cap3, CertR w1 c (crtV c a1 cap1 a2 cap2 a3 cap3) w' ∧ Blk w' p0 #[.int .i64 c.conj, .slice a1 c.nodes.length cap1, .slice a2 c.walks.length cap2, .int .i64 c.claim.sem, .bool c.claim.inf, .slice a3 c.claim.w.length cap3, .int .i64 c.claim.level, .float .f64 c.claim.x] 33
theorem CertR.val {w w' : World} {c : Crt} {val : Value} (h : CertR w c val w') : ∃ a1 cap1 a2 cap2 a3 cap3, val = crtV c a1 cap1 a2 cap2 a3 cap3 := by
  obtain ⟨a1, cap1, a2, cap2, a3, cap3, us, l, ls, bl, h1, -⟩ := h
  exact ⟨a1, cap1, a2, cap2, a3, cap3, h1⟩
theorem keep_const {D : Nat → Prop} {w w' : World} (h : Chg D w w') (hD : ∀ k, D k → k < w.heap.size) : Keep (fun _ => D) w w' :=
  ⟨h.os, h.tape, h.output, h.size, h.block, fun _ _ h => h, fun ht k hk => Nat.lt_of_lt_of_le (hD k hk) h.size⟩
theorem gone_ends {D : Nat → Prop} {B : Nat} {e : Ending} {w' : World} (h : Gone B e w') (hD : ∀ k, D k → k < B) : ∃ p, Ends (fun _ => D) (.bail 13 p) e w' := by
  obtain ⟨p, ch, b, h1, h2, h3, h4, h5⟩ := h
  exact ⟨p, ch, b, h1, h2, h3, h4, fun h => h5 (hD b h)⟩
set_option maxRecDepth 100000 in
set_option maxHeartbeats 1000000 in
theorem dec1_runs {w1 : World} {p0 p2 rb : Nat} {a : Option Addr} {len cap : Nat} {bs : List Nat} {c0 c1 c2 c3 c4 c5 c6 c7 : Value} (h : Rd w1 rb a len cap bs bs) (h2 : Box w1 p2 (.pointer (some ⟨rb, 0, none⟩))) (h0 : Blk w1 p0 #[c0, c1, c2, c3, c4, c5, c6, c7] 33) (h0r : ¬ p0 = rb) :
    Runs (fun _ k => k = rb ∨ k = p0) (.func (.func 20) #[] #[.pointer (some ⟨p2, 0, none⟩), .pointer (some ⟨p0, 0, none⟩)]) w1 (DecΦ w1 p0 bs) := by
  refine Runs.of (fun args w => run_enter Try.func20 rfl rfl args w) ?_
  have k2 := h2.cell
  have hC := cert_any h
  have hD : ∀ k, (k = rb ∨ k = p0) → k < w1.heap.size := fun k hk => hk.elim (fun e => e ▸ h.lt) (fun e => e ▸ h0.lt)
  have HD := Lib.hid hD
  have H0 := Lib.hid (And.intro h0 h0r)
  have hsf := run_store_f
  cases hd : dCrtR bs with
  | none =>
    have HC : Hid (Calls Try.prog 21 #[.pointer (some ⟨rb, 0, none⟩)] w1 fun e w2 => Chg (fun k => k = rb) w1 w2 ∧ Gone w1.heap.size e w2) := Lib.hid (by unfold Got at hC; rw [hd] at hC; exact hC)
    have HΦ : Hid (∀ o w', ((∃ a, o = .bail 13 a) ∧ ∃ d0 d1 d2 d3 d4 d5 d6 d7, Blk w' p0 #[d0, d1, d2, d3, d4, d5, d6, d7] 33) → DecΦ w1 p0 bs o w') := Lib.hid (fun o w' h => by unfold DecΦ; rw [hd]; exact h)
    clear hC hd h h2 h0 h0r hD
    go_enter Try.func20, Try.ntmps20
    go_wp2_with fail
    refine HC.out.mono ?_
    rintro e w2 ⟨hc, hg⟩
    obtain ⟨p, he⟩ := gone_ends (D := fun k => k = rb ∨ k = p0) hg HD.out
    have hfin : Keep (fun _ k => k = rb ∨ k = p0) w1 w2 ∧ ∃ o, Ends (fun _ k => k = rb ∨ k = p0) o e w2 ∧ DecΦ w1 p0 bs o w2 :=
      ⟨keep_const (hc.mono fun k _ h => .inl h) HD.out, _, he, HΦ.out _ _ ⟨⟨p, rfl⟩, _, _, _, _, _, _, _, _, H0.out.1.chg hc H0.out.2⟩⟩
    obtain ⟨q, ch, b, rfl, _⟩ := hg
    exact ⟨rfl, hfin⟩
  | some q =>
    obtain ⟨c, t⟩ := q
    have HC : Hid (Calls Try.prog 21 #[.pointer (some ⟨rb, 0, none⟩)] w1 fun e w2 => Chg (fun k => k = rb) w1 w2 ∧ ∃ v, e = .returned v ∧ CertR w1 c v w2 ∧ Rd w2 rb a len cap bs t) := Lib.hid (by unfold Got at hC; rw [hd] at hC; exact hC)
    have HΦ : Hid (∀ o w', (o = .ret ∧ ∃ a1 cap1 a2 cap2 a3 cap3, CertR w1 c (crtV c a1 cap1 a2 cap2 a3 cap3) w' ∧ Blk w' p0 #[.int .i64 c.conj, .slice a1 c.nodes.length cap1, .slice a2 c.walks.length cap2, .int .i64 c.claim.sem, .bool c.claim.inf, .slice a3 c.claim.w.length cap3, .int .i64 c.claim.level, .float .f64 c.claim.x] 33) → DecΦ w1 p0 bs o w') := Lib.hid (fun o w' h => by unfold DecΦ; rw [hd]; exact h)
    clear hC hd h h2 h0 h0r hD
    go_enter Try.func20, Try.ntmps20
    go_wp2_with fail
    refine HC.out.mono ?_
    rintro e w2 ⟨hc, val, rfl, hcr, hrd⟩
    obtain ⟨a1, cap1, a2, cap2, a3, cap3, rfl⟩ := hcr.val
    have kb := H0.out.1.chg hc H0.out.2
    obtain ⟨g0, f0, g1, f1, g2, f2, g3, f3, g4, f4, g5, f5, g6, f6, g7, f7⟩ := blk8_base kb
    have HS := Lib.hid (blk8_step kb (.int .i64 c.conj) (.slice a1 c.nodes.length cap1) (.slice a2 c.walks.length cap2) (.int .i64 c.claim.sem) (.bool c.claim.inf) (.slice a3 c.claim.w.length cap3) (.int .i64 c.claim.level) (.float .f64 c.claim.x))
    have HCR := Lib.hid hcr
    have HCC := Lib.hid hc
    have hp0 := H0.out.1.lt
    clear kb hcr hc hrd
    unfold crtV at *
    go_wp2_with fail
    go_end0
    have hcc : Chg (fun k => k = p0) w2 _ := set_chg (j := 7) (c := .float .f64 c.claim.x) (set_chg (j := 6) (c := .int .i64 c.claim.level) (set_chg (j := 5) (c := .slice a3 c.claim.w.length cap3) (set_chg (j := 4) (c := .bool c.claim.inf) (set_chg (j := 3) (c := .int .i64 c.claim.sem) (set_chg (j := 2) (c := .slice a2 c.walks.length cap2) (set_chg (j := 1) (c := .slice a1 c.nodes.length cap1) (set_chg (j := 0) (c := .int .i64 c.conj) (Chg.refl w2))))))))
    refine ⟨keep_const ((HCC.out.mono fun k _ h => .inl h).trans (hcc.mono fun k _ h => .inr h)) HD.out, .ret, rfl, HΦ.out _ _ ⟨rfl, a1, cap1, a2, cap2, a3, cap3, HCR.out.chg hcc (fun g hg h => by have h' : g = p0 := h; omega), HS.out.2.2.2.2.2.2.2.2⟩⟩
end Go.Proofs.Ytnamcghcgcknpaa
