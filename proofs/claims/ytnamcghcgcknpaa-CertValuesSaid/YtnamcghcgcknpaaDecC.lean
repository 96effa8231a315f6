/-
  Decode (chapter 24): the walk.
-/
import Derived.Test.YtnamcghcgcknpaaDecB
namespace Go.Proofs.Ytnamcghcgcknpaa
open Go.RowKit
set_option linter.unusedVariables false

theorem CertR.base {w1 w w' : World} {c : Crt} {val : Value} (h : CertR w1 c val w') (hB : w.heap.size ≤ w1.heap.size) : CertR w c val w' := by
  obtain ⟨a1, cap1, a2, cap2, a3, cap3, us, l, ls, bl, h1, h2, h3, h4, h5, h6, h7⟩ := h
  exact ⟨a1, cap1, a2, cap2, a3, cap3, us, l, ls, bl, h1, h2, h3, ownsRow_base h4 hB, ownsRow_base h5 hB, SRows.base hB h6, ownsRow_base h7 hB⟩
theorem DecΦ.base {w1 w : World} {p0 : Nat} {bs : List Nat} {o : Fin} {w' : World} (h : DecΦ w1 p0 bs o w') (hB : w.heap.size ≤ w1.heap.size) : DecΦ w p0 bs o w' := by
  unfold DecΦ at *
  split at h
  · exact h
  · obtain ⟨h1, a1, cap1, a2, cap2, a3, cap3, h2, h3⟩ := h
    exact ⟨h1, a1, cap1, a2, cap2, a3, cap3, h2.base hB, h3⟩
/-- The cert that there is none. -/
def nilC : Value := .agg #[.int .i64 0, .slice none 0 0, .slice none 0 0, .int .i64 0, .bool false, .slice none 0 0, .int .i64 0, .float .f64 0]
/-- What Decode comes to. -/
def Dec (w : World) (bs : List Nat) (e : Ending) (w' : World) : Prop :=
  Ext w w' ∧ match dCrtR bs with
    | none => e = .returned (.tuple #[nilC, .int .i64 13])
    | some (c, _) => ∃ val, e = .returned (.tuple #[val, .int .i64 0]) ∧ CertR w c val w'
/-- The world in which Decode's literal is called. -/
def W3 (w : World) (a : Option Addr) (len cap : Nat) : World :=
  ((w.alloc (Obj.cells #[.int .i64 0, .slice none 0 0, .slice none 0 0, .int .i64 0, .bool false, .slice none 0 0, .int .i64 0, .float .f64 0] 33)).alloc (Obj.cells #[.slice a len cap, .int .i64 0] 60)).alloc (Obj.cells #[.pointer (some ⟨w.heap.size + 1, 0, none⟩)] 58)
/-- A world two blocks larger. -/
def W5 (w : World) (a : Option Addr) (len cap : Nat) : World := ((W3 w a len cap).alloc (Obj.cells #[] 0)).alloc (Obj.cells #[] 0)
theorem w3_ext (w : World) (a : Option Addr) (len cap : Nat) : Ext w (W3 w a len cap) := ((((Chg.refl w).alloc _).alloc _).alloc _)
theorem w3_size (w : World) (a : Option Addr) (len cap : Nat) : (W3 w a len cap).heap.size = w.heap.size + 3 := by
  unfold W3; simp only [World.size_alloc]
theorem w5_size (w : World) (a : Option Addr) (len cap : Nat) : (W5 w a len cap).heap.size = w.heap.size + 5 := by
  unfold W5; simp only [World.size_alloc, w3_size]
theorem w3_blk0 (w : World) (a : Option Addr) (len cap : Nat) : Blk (W3 w a len cap) w.heap.size #[.int .i64 0, .slice none 0 0, .slice none 0 0, .int .i64 0, .bool false, .slice none 0 0, .int .i64 0, .float .f64 0] 33 :=
  (Blk.new w _ _).chg (S := fun _ => False) (((Chg.refl _).alloc _).alloc _) (fun h => h)
theorem w3_blk1 (w : World) (a : Option Addr) (len cap : Nat) : Blk (W3 w a len cap) (w.heap.size + 1) #[.slice a len cap, .int .i64 0] 60 := by
  have := (Blk.new (w.alloc (Obj.cells #[.int .i64 0, .slice none 0 0, .slice none 0 0, .int .i64 0, .bool false, .slice none 0 0, .int .i64 0, .float .f64 0] 33)) #[.slice a len cap, .int .i64 0] 60).chg (S := fun _ => False) ((Chg.refl _).alloc (Obj.cells #[.pointer (some ⟨w.heap.size + 1, 0, none⟩)] 58)) (fun h => h)
  rw [World.size_alloc] at this
  exact this
theorem w3_box2 (w : World) (a : Option Addr) (len cap : Nat) : Box (W3 w a len cap) (w.heap.size + 1 + 1) (.pointer (some ⟨w.heap.size + 1, 0, none⟩)) := by
  have := Box.new (w := (w.alloc (Obj.cells #[.int .i64 0, .slice none 0 0, .slice none 0 0, .int .i64 0, .bool false, .slice none 0 0, .int .i64 0, .float .f64 0] 33)).alloc (Obj.cells #[.slice a len cap, .int .i64 0] 60)) (.pointer (some ⟨w.heap.size + 1, 0, none⟩)) 58
  simp only [World.size_alloc] at this
  exact this
theorem dec_catch {w : World} {a : Option Addr} {cap : Nat} {bs : List Nat} (h : Cells w a bs.length cap (byteCells bs)) (hb : ∀ b ∈ bs, b < 256) (hlen : bs.length < 4611686018427387904) :
    Calls Try.prog 19 #[.func (.func 20) #[] #[.pointer (some ⟨w.heap.size + 1 + 1, 0, none⟩), .pointer (some ⟨w.heap.size, 0, none⟩)]] (W3 w a bs.length cap) (CatchEnd (fun _ k => k = w.heap.size + 1 ∨ k = w.heap.size) (W3 w a bs.length cap) (DecΦ (W5 w a bs.length cap) w.heap.size bs)) := by
  have hs3 := w3_size w a bs.length cap
  refine catch_runs (loc_const _) (fun k hk => by rcases hk with rfl | rfl <;> omega) fun w1 he hsz => ?_
  have hrd : Rd w1 (w.heap.size + 1) a bs.length cap bs bs := by
    refine ⟨⟨60, ?_⟩, ⟨[], rfl⟩, rfl, hlen, fun i hi => ?_, hb, h.1, h.2.1⟩
    · have h1 := (w3_blk1 w a bs.length cap).chg he (fun h => h)
      unfold Blk at h1
      simpa using h1
    · obtain ⟨x, rfl, hx⟩ := byte_cell h hi
      have hlt := lt_of_cell hx
      refine ⟨x, rfl, by rw [addr_block] at hlt; omega, ?_⟩
      rw [((w3_ext w (some x) bs.length cap).trans he).cell hlt (fun h => h)]
      exact hx
  have h0 := (w3_blk0 w a bs.length cap).chg he (fun h => h)
  have h2 := (w3_box2 w a bs.length cap).chg he (fun h => h)
  exact (dec1_runs hrd h2 h0 (by omega)).mono fun o w' _ hΦ => hΦ.base (by rw [w5_size]; omega)
set_option maxRecDepth 100000 in
set_option maxHeartbeats 2000000 in
theorem decode_any {w : World} {a : Option Addr} {cap : Nat} {bs : List Nat} (h : Cells w a bs.length cap (byteCells bs)) (hb : ∀ b ∈ bs, b < 256) (hlen : bs.length < 4611686018427387904) :
    Calls Try.prog 9 #[.slice a bs.length cap] w (Dec w bs) := by
  have hC := dec_catch h hb hlen
  have hcap := h.1
  have hs3 := w3_size w a bs.length cap
  have hs5 := w5_size w a bs.length cap
  have hx3 := w3_ext w a bs.length cap
  have hb0 := w3_blk0 w a bs.length cap
  obtain ⟨X5, hX5⟩ : ∃ X, W5 w a bs.length cap = X := ⟨_, rfl⟩
  rw [hX5] at hs5 hC
  obtain ⟨X3, hX3⟩ : ∃ X, W3 w a bs.length cap = X := ⟨_, rfl⟩
  rw [hX3] at hs3 hx3 hb0 hC
  have HX3 : Hid (((w.alloc (Obj.cells #[.int .i64 0, .slice none 0 0, .slice none 0 0, .int .i64 0, .bool false, .slice none 0 0, .int .i64 0, .float .f64 0] 33)).alloc (Obj.cells #[.slice a bs.length cap, .int .i64 0] 60)).alloc (Obj.cells #[.pointer (some ⟨w.heap.size + 1, 0, none⟩)] 58) = X3) := Lib.hid hX3
  have HC := Lib.hid hC
  have HS := Lib.hid (And.intro hs3 (And.intro hs5 (And.intro hx3 hb0)))
  have hsf := run_store_f
  clear h hb hlen hC hs3 hs5 hx3 hb0 hX3 hX5
  have HDc : Hid (∀ e w', Ext w w' ∧ (match dCrtR bs with | none => e = .returned (.tuple #[nilC, .int .i64 13]) | some (c, _) => ∃ val, e = .returned (.tuple #[val, .int .i64 0]) ∧ CertR w c val w') → Dec w bs e w') := Lib.hid (fun e w' h => h)
  generalize Dec w bs = DD at HDc ⊢
  obtain ⟨D, hD⟩ : ∃ D, dCrtR bs = D := ⟨_, rfl⟩
  rw [hD] at HDc
  have HD := Lib.hid hD
  clear hD
  obtain ⟨n, hn⟩ : ∃ n, bs.length = n := ⟨_, rfl⟩
  rw [hn] at hcap HX3 ⊢
  clear hn
  go_enter Try.func9, Try.ntmps9
  go_wp2_with fail
  rw [HX3.out]
  refine HC.out.mono ?_
  rintro e w4 ⟨o, w2, hk2, hΦ, ⟨hk, hch⟩, he⟩
  have hE : Chg (fun k => w.heap.size ≤ k) w w4 := (HS.out.2.2.1.mono (fun _ _ h => h.elim)).trans (hk.chg.mono fun k hk h => h.elim (fun h => by omega) (fun h => by omega))
  have hE0 := Lib.hid hE
  unfold DecΦ at hΦ
  rw [HD.out] at hΦ
  cases D with
  | none =>
    obtain ⟨⟨p, rfl⟩, d0, d1, d2, d3, d4, d5, d6, d7, hbk⟩ := hΦ
    simp only at he
    subst he
    have kb := hbk.chg hch (by intro h; have := HS.out.1; omega)
    obtain ⟨g0, f0, g1, f1, g2, f2, g3, f3, g4, f4, g5, f5, g6, f6, g7, f7⟩ := blk8_base kb
    obtain ⟨y3, z3, y4, z4, y5, z5, y6, z6, y7, z7, q0, q1, q2, q3, q4, q5, q6, q7⟩ := blk8_facts kb (.int .i64 0) (.slice none 0 0) (.slice none 0 0) (.int .i64 0) (.bool false) (.slice none 0 0) (.int .i64 0) (.float .f64 0)
    clear kb hbk hch hk hk2 hE HC
    go_wp2_with fail
    (try simp only [Exit.inBlock, Exit.then])
    refine bodyPost_ret (by simp [results, Try.results9, go_sem, q0, q1, q2, q3, q4, q5, q6, q7]; try rfl) rfl ?_
    have hcc : Chg (fun k => k = w.heap.size) w4 _ := set_chg (j := 7) (c := .float .f64 0) (set_chg (j := 6) (c := .int .i64 0) (set_chg (j := 5) (c := .slice none 0 0) (set_chg (j := 4) (c := .bool false) (set_chg (j := 3) (c := .int .i64 0) (set_chg (j := 2) (c := .slice none 0 0) (set_chg (j := 1) (c := .slice none 0 0) (set_chg (j := 0) (c := .int .i64 0) (Chg.refl w4))))))))
    refine HDc.out _ _ ⟨?_, rfl⟩
    exact (hE0.out.trans (hcc.mono fun k _ h => by have h' : k = w.heap.size := h; omega)).mono fun k hk h => absurd h (by omega)
  | some q =>
    obtain ⟨c, t⟩ := q
    obtain ⟨rfl, a1, cap1, a2, cap2, a3, cap3, hcr, hbk⟩ := hΦ
    simp only at he
    subst he
    have kb := hbk.chg hch (by intro h; have := HS.out.1; omega)
    obtain ⟨g0, f0, g1, f1, g2, f2, g3, f3, g4, f4, g5, f5, g6, f6, g7, f7⟩ := blk8_base kb
    obtain ⟨y3, z3, y4, z4, y5, z5, y6, z6, y7, z7, q0, q1, q2, q3, q4, q5, q6, q7⟩ := blk8_facts kb (.int .i64 c.conj) (.slice a1 c.nodes.length cap1) (.slice a2 c.walks.length cap2) (.int .i64 c.claim.sem) (.bool c.claim.inf) (.slice a3 c.claim.w.length cap3) (.int .i64 c.claim.level) (.float .f64 c.claim.x)
    have hcr4 := hcr.chg hch (fun g hg h => by have := HS.out.1; have := HS.out.2.1; omega)
    have HCR := Lib.hid hcr4
    clear kb hcr hcr4 hbk hch hk hk2 hE HC
    go_wp2_with fail
    (try simp only [Exit.inBlock, Exit.then])
    refine bodyPost_ret (by simp [results, Try.results9, go_sem, q0, q1, q2, q3, q4, q5, q6, q7]; try rfl) rfl ?_
    have hcc : Chg (fun k => k = w.heap.size) w4 _ := set_chg (j := 7) (c := .float .f64 c.claim.x) (set_chg (j := 6) (c := .int .i64 c.claim.level) (set_chg (j := 5) (c := .slice a3 c.claim.w.length cap3) (set_chg (j := 4) (c := .bool c.claim.inf) (set_chg (j := 3) (c := .int .i64 c.claim.sem) (set_chg (j := 2) (c := .slice a2 c.walks.length cap2) (set_chg (j := 1) (c := .slice a1 c.nodes.length cap1) (set_chg (j := 0) (c := .int .i64 c.conj) (Chg.refl w4))))))))
    refine HDc.out _ _ ⟨?_, _, rfl, ?_⟩
    · exact (hE0.out.trans (hcc.mono fun k _ h => by have h' : k = w.heap.size := h; omega)).mono fun k hk h => absurd h (by omega)
    · exact (HCR.out.chg hcc (fun g hg h => by have h' : g = w.heap.size := h; have := HS.out.2.1; omega)).base (by have := HS.out.2.1; omega)
end Go.Proofs.Ytnamcghcgcknpaa
