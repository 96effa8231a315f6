/-
  Machines (chapter 16): a plain path's part. Machines (chapter 16): a plain path's part, walked. Machines (chapter 16): a plain path's part, whole.
-/
import Derived.Test.YtkhllknahjmciaaGreatM07
import Derived.StillTailTactics
/-! Machines (chapter 16): a plain path's part. -/
namespace Go.Proofs.YtkhllknahjmciaaGreat
open Go.RowKit
set_option linter.unusedVariables false
set_option linter.unusedSimpArgs false

def Mv.e (f t : Int) : Mv := ⟨f, t, true, ⟨#[]⟩, false⟩
/-- Start, accept, states and the moves that are new. -/
structure Pt where
  s : Int
  a : Int
  n : Int
  ms : List Mv
def partP : Pl → Int → Pt
  | .eps, n => ⟨n, n + 1, n + 2, [⟨n, n + 1, true, ⟨#[]⟩, false⟩]⟩
  | .fwd l, n => ⟨n, n + 1, n + 2, [⟨n, n + 1, false, l, false⟩]⟩
  | .back l, n => ⟨n, n + 1, n + 2, [⟨n, n + 1, false, l, true⟩]⟩
  | .seq p q, n =>
    let x := partP p n
    let y := partP q x.n
    ⟨x.s, y.a, y.n, x.ms ++ y.ms ++ [Mv.e x.a y.s]⟩
  | .alt p q, n =>
    let x := partP p (n + 1)
    let y := partP q x.n
    ⟨n, y.n, y.n + 1, x.ms ++ y.ms ++ [Mv.e n x.s, Mv.e n y.s, Mv.e x.a y.n, Mv.e y.a y.n]⟩
  | .star p, n =>
    let x := partP p (n + 1)
    ⟨n, x.n, x.n + 1, x.ms ++ [Mv.e n x.s, Mv.e n x.n, Mv.e x.a x.s, Mv.e x.a x.n]⟩
def Pl.big : Pl → Nat
  | .eps => 1
  | .fwd _ => 1
  | .back _ => 1
  | .seq p q => p.big + q.big + 1
  | .alt p q => p.big + q.big + 1
  | .star p => p.big + 1
theorem partP_n (p : Pl) : ∀ n, n ≤ (partP p n).n ∧ (partP p n).n ≤ n + 2 * p.big ∧ (partP p n).ms.length ≤ 4 * p.big ∧ n ≤ (partP p n).s ∧ (partP p n).s < (partP p n).n ∧ n ≤ (partP p n).a ∧ (partP p n).a < (partP p n).n := by
  induction p with
  | eps => intro n; simp [partP, Pl.big]; omega
  | fwd l => intro n; simp [partP, Pl.big]; omega
  | back l => intro n; simp [partP, Pl.big]; omega
  | seq p q h1 h2 =>
    intro n
    have a1 := h1 n
    have a2 := h2 (partP p n).n
    simp only [partP, Pl.big, List.length_append, List.length_cons, List.length_nil]
    omega
  | alt p q h1 h2 =>
    intro n
    have a1 := h1 (n + 1)
    have a2 := h2 (partP p (n + 1)).n
    simp only [partP, Pl.big, List.length_append, List.length_cons, List.length_nil]
    omega
  | star p h1 =>
    intro n
    have a1 := h1 (n + 1)
    simp only [partP, Pl.big, List.length_append, List.length_cons, List.length_nil]
    omega
end Go.Proofs.YtkhllknahjmciaaGreat

/-! Machines (chapter 16): a plain path's part, walked. -/
namespace Go.Proofs.YtkhllknahjmciaaGreat
open Go.RowKit
set_option linter.unusedVariables false
set_option linter.unusedSimpArgs false

theorem MF.box {w w1 : World} {p b t : Nat} {v v1 : Value} {cs : Array Value} (h : MF w p v w1 v1) (hb : Blk w b cs t) (h1 : b ≠ p) (h2 : v.ownBlock ≠ some b) : Blk w1 b cs t :=
  hb.chg h.1 fun h => h.elim h1 h2
theorem MF.old {w0 w w1 : World} {p : Nat} {n a b : Int} {ms : List Mv} {v v1 : Value} (h : MF w p v w1 v1) (hs : NSt w p n a b ms v) (hx : Ext w0 w) (hp : w0.heap.size ≤ p) : Ext w0 w1 := by
  refine ⟨h.1.os.trans hx.os, h.1.tape.trans hx.tape, h.1.output.trans hx.output, Nat.le_trans hx.size h.1.size, fun k hk _ => ?_⟩
  refine (h.1.block k (Nat.lt_of_lt_of_le hk hx.size) fun hs' => ?_).trans (hx.block k hk (fun h => h))
  rcases hs' with e | e
  · omega
  · have := (ownsRow_block hs.2 k e).1
    omega
theorem NSt.new {w : World} {p : Nat} {n a b : Int} {ms : List Mv} {v : Value} (hs : NSt w p n a b ms v) : w.heap.size ≠ p ∧ v.ownBlock ≠ some w.heap.size := by
  refine ⟨by have := hs.1.lt; omega, fun e => ?_⟩
  have := (ownsRow_block hs.2 _ e).2
  omega
theorem NSt.facts {w : World} {p : Nat} {n a b : Int} {ms : List Mv} {v : Value} (hs : NSt w p n a b ms v) : w.cell? ⟨p, 3, none⟩ = some v ∧ w.frozen? ⟨p, 3, none⟩ = false := ⟨hs.1.cell 3 _ rfl, hs.1.frozen 3⟩
theorem NSt.len {w : World} {p : Nat} {n a b : Int} {ms : List Mv} {v : Value} (hs : NSt w p n a b ms v) : ∃ al cap, v = .slice al ms.length cap := own_slice hs.2
theorem qfacts {w : World} {p q t s : Nat} {a0 a1 a2 a3 b0 b1 b2 b3 b4 : Value} (h : Blk w p #[a0, a1, a2, a3] t) (k : Blk w q #[b0, b1, b2, b3, b4] s) : w.cell? ⟨p, 3, none⟩ = some a3 ∧ w.frozen? ⟨p, 3, none⟩ = false ∧ w.cell? ⟨q, 0, none⟩ = some b0 ∧ w.cell? ⟨q, 1, none⟩ = some b1 := ⟨h.cell 3 _ rfl, h.frozen 3, k.cell 0 _ rfl, k.cell 1 _ rfl⟩
theorem qfacts2 {w : World} {q s : Nat} {b0 b1 b2 b3 b4 : Value} (k : Blk w q #[b0, b1, b2, b3, b4] s) : w.cell? ⟨q, 0, none⟩ = some b0 ∧ w.cell? ⟨q, 1, none⟩ = some b1 := ⟨k.cell 0 _ rfl, k.cell 1 _ rfl⟩
def PartPost (p : Nat) (a b : Int) (ms : List Mv) (v : Value) (w : World) (x : Pt) (e : Ending) (w' : World) : Prop :=
  ∃ v', e = .returned (.tuple #[.int .i64 x.s, .int .i64 x.a]) ∧ NSt w' p x.n a b (ms ++ x.ms) v' ∧ MF w p v w' v'
set_option maxRecDepth 100000 in
set_option maxHeartbeats 1000000 in
theorem part_leaf (k : Int) (l : ByteArray) (hk : k = 1 ∨ k = 2 ∨ k = 3) (w : World) (p : Nat) (n a b : Int) (ms : List Mv) (v : Value) (al : Option Addr) (nk cap : Nat) (mn mx : Int) (hs : NSt w p n a b ms v) (hn : 0 ≤ n) (hn1 : n ≤ 99998) (hm : ms.length ≤ 100000) :
    Calls Tryz.prog 144 #[.pointer (some ⟨p, 0, none⟩), .agg #[.int .i64 k, .string l, .slice al nk cap, .int .i64 mn, .int .i64 mx]] w (PartPost p a b ms v w ⟨n, n + 1, n + 2, [⟨n, n + 1, decide (k = 1), l, decide (k = 3)⟩]⟩) := by
  obtain ⟨hne1, hne2⟩ := hs.new
  have hb := Blk.new w #[.int .i64 k, .string l, .slice al nk cap, .int .i64 mn, .int .i64 mx] 28
  have hw1 : Ext w (w.alloc (.cells #[.int .i64 k, .string l, .slice al nk cap, .int .i64 mn, .int .i64 mx] 28)) := (Chg.refl w).alloc _
  have HB := Lib.hid (And.intro hb (And.intro (hs.ext hw1) (And.intro hne1 hne2)))
  have d4 : (k == 4) = false := by simp; omega
  have d5 : (k == 5) = false := by simp; omega
  have d6 : (k == 6) = false := by simp; omega
  have e1 : decide (k = 1) = (k == 1) := by by_cases h : k = 1 <;> simp [h]
  have e3 : decide (k = 3) = (k == 3) := by by_cases h : k = 3 <;> simp [h]
  rw [e1, e3]
  clear hb hw1 hs hne1 hne2 e1 e3
  obtain ⟨i0, hi0, hii⟩ := Option.map_eq_some_iff.1 info_move
  obtain ⟨hz0, hz1, hz2⟩ : i0.zero = some (.agg #[.int .i64 0, .int .i64 0, .bool false, .string ⟨#[]⟩, .bool false]) ∧ i0.size = 5 ∧ i0.bytes = 48 := by
    have := hii; simp at this; exact this
  have HI := Lib.hid (And.intro hi0 (And.intro hz0 (And.intro hz1 hz2)))
  clear hi0 hii hz0 hz1 hz2
  go_enter Tryz.func144, Tryz.ntmps144
  go_wp2_with fail
  refine (state_any _ p n a b ms v HB.out.2.1 (by omega)).mono ?_
  rintro e w2 ⟨rfl, hn2, hm2⟩
  have HM2 := Lib.hid (And.intro hn2 hm2)
  clear hn2 hm2
  go_wp2_with fail
  refine (state_any _ p (n + 1) a b ms v HM2.out.1 (by omega)).mono ?_
  rintro e w3 ⟨rfl, hn3, hm3⟩
  have hm3 := HM2.out.2.trans hm3
  have kb := hm3.box HB.out.1 HB.out.2.2.1 HB.out.2.2.2
  obtain ⟨av, capv, rfl⟩ := hn3.len
  obtain ⟨c0, -, c1, -⟩ := blk5_base kb
  obtain ⟨c3, f3⟩ := hn3.facts
  have HM3 := Lib.hid (And.intro hn3 (And.intro hm3 kb))
  clear hn3 hm3 kb HM2
  go_wp2_with fail
  have hb3 : p < w3.heap.size := HM3.out.1.1.lt
  have HCs := Lib.hid (fun W (hW : Ext w3 W) => And.intro ((hW.cell (lt_of_cell c0) (fun h => h)).trans c0) ((hW.cell (lt_of_cell c1) (fun h => h)).trans c1))
  have HN2 := Lib.hid HB.out.2.2.2
  refine wp_region_held_drew (S := fun v => v.cell? ⟨w.heap.size, 0, none⟩ = some (.int .i64 k) ∧ v.cell? ⟨w.heap.size, 1, none⟩ = some (.string l)) (by kernel_rfl) (HCs.out _ (Chg.refl (S := fun _ => False) w3).drew) (fun hHeld => ?_)
  refine wpAnyH_take (i := 0) (v := .pointer (some ⟨p, 0, none⟩)) rfl (by kernel_rfl) (by kernel_rfl) (by kernel_rfl) (fun _ _ _ h => h) (Or.inl ⟨by rfl, ?_⟩) hHeld ?_
  · intro wS hSw
    obtain ⟨hs0, hs1⟩ := hSw
    go_simp
  simp only [Act.put, List.setIfInBounds_toArray, List.set_cons_zero, List.set_cons_succ]
  refine wpAnyH_take (i := 1) (v := .pointer (some ⟨p, 0, none⟩)) rfl (by kernel_rfl) (by kernel_rfl) (by kernel_rfl) (fun _ _ _ h => h) (Or.inl ⟨by rfl, ?_⟩) hHeld ?_
  · intro wS hSw
    obtain ⟨hs0, hs1⟩ := hSw
    go_simp
  simp only [Act.put, List.setIfInBounds_toArray, List.set_cons_zero, List.set_cons_succ]
  refine wpAnyH_take (i := 2) (v := .pointer (some ⟨p, 0, none⟩)) rfl (by kernel_rfl) (by kernel_rfl) (by kernel_rfl) (fun _ _ _ h => h) (Or.inl ⟨by rfl, ?_⟩) hHeld ?_
  · intro wS hSw
    obtain ⟨hs0, hs1⟩ := hSw
    go_simp
  simp only [Act.put, List.setIfInBounds_toArray, List.set_cons_zero, List.set_cons_succ]
  refine wpAnyH_take (i := 3) (v := .pointer (some ⟨p, 3, none⟩)) rfl (by kernel_rfl) (by kernel_rfl) (by kernel_rfl) (fun _ _ _ h => h) (Or.inl ⟨by rfl, ?_⟩) hHeld ?_
  · intro wS hSw
    obtain ⟨hs0, hs1⟩ := hSw
    go_simp
  simp only [Act.put, List.setIfInBounds_toArray, List.set_cons_zero, List.set_cons_succ]
  refine wpAnyH_take (i := 5) (v := .int .i64 n) rfl (by kernel_rfl) (by kernel_rfl) (by kernel_rfl) (fun _ _ _ h => h) (Or.inl ⟨by rfl, ?_⟩) hHeld ?_
  · intro wS hSw
    obtain ⟨hs0, hs1⟩ := hSw
    go_simp
  simp only [Act.put, List.setIfInBounds_toArray, List.set_cons_zero, List.set_cons_succ]
  refine wpAnyH_take (i := 6) (v := .int .i64 (n + 1)) rfl (by kernel_rfl) (by kernel_rfl) (by kernel_rfl) (fun _ _ _ h => h) (Or.inl ⟨by rfl, ?_⟩) hHeld ?_
  · intro wS hSw
    obtain ⟨hs0, hs1⟩ := hSw
    go_simp
  simp only [Act.put, List.setIfInBounds_toArray, List.set_cons_zero, List.set_cons_succ]
  refine wpAnyH_take (i := 7) (v := .pointer (some ⟨w.heap.size, 0, none⟩)) rfl (by kernel_rfl) (by kernel_rfl) (by kernel_rfl) (fun _ _ _ h => h) (Or.inl ⟨by rfl, ?_⟩) hHeld ?_
  · intro wS hSw
    obtain ⟨hs0, hs1⟩ := hSw
    go_simp
  simp only [Act.put, List.setIfInBounds_toArray, List.set_cons_zero, List.set_cons_succ]
  refine wpAnyH_take (i := 8) (v := .int .i64 k) rfl (by kernel_rfl) (by kernel_rfl) (by kernel_rfl) (fun _ _ _ h => h) (Or.inl ⟨by rfl, ?_⟩) hHeld ?_
  · intro wS hSw
    obtain ⟨hs0, hs1⟩ := hSw
    go_simp
  simp only [Act.put, List.setIfInBounds_toArray, List.set_cons_zero, List.set_cons_succ]
  refine wpAnyH_take (i := 9) (v := .bool (k == 1)) rfl (by kernel_rfl) (by kernel_rfl) (by kernel_rfl) (fun _ _ _ h => h) (Or.inl ⟨by rfl, ?_⟩) hHeld ?_
  · intro wS hSw
    obtain ⟨hs0, hs1⟩ := hSw
    go_simp
  simp only [Act.put, List.setIfInBounds_toArray, List.set_cons_zero, List.set_cons_succ]
  refine wpAnyH_take (i := 10) (v := .pointer (some ⟨w.heap.size, 1, none⟩)) rfl (by kernel_rfl) (by kernel_rfl) (by kernel_rfl) (fun _ _ _ h => h) (Or.inl ⟨by rfl, ?_⟩) hHeld ?_
  · intro wS hSw
    obtain ⟨hs0, hs1⟩ := hSw
    go_simp
  simp only [Act.put, List.setIfInBounds_toArray, List.set_cons_zero, List.set_cons_succ]
  refine wpAnyH_take (i := 11) (v := .string l) rfl (by kernel_rfl) (by kernel_rfl) (by kernel_rfl) (fun _ _ _ h => h) (Or.inl ⟨by rfl, ?_⟩) hHeld ?_
  · intro wS hSw
    obtain ⟨hs0, hs1⟩ := hSw
    go_simp
  simp only [Act.put, List.setIfInBounds_toArray, List.set_cons_zero, List.set_cons_succ]
  refine wpAnyH_take (i := 12) (v := .pointer (some ⟨w.heap.size, 0, none⟩)) rfl (by kernel_rfl) (by kernel_rfl) (by kernel_rfl) (fun _ _ _ h => h) (Or.inl ⟨by rfl, ?_⟩) hHeld ?_
  · intro wS hSw
    obtain ⟨hs0, hs1⟩ := hSw
    go_simp
  simp only [Act.put, List.setIfInBounds_toArray, List.set_cons_zero, List.set_cons_succ]
  refine wpAnyH_take (i := 13) (v := .int .i64 k) rfl (by kernel_rfl) (by kernel_rfl) (by kernel_rfl) (fun _ _ _ h => h) (Or.inl ⟨by rfl, ?_⟩) hHeld ?_
  · intro wS hSw
    obtain ⟨hs0, hs1⟩ := hSw
    go_simp
  simp only [Act.put, List.setIfInBounds_toArray, List.set_cons_zero, List.set_cons_succ]
  refine wpAnyH_take (i := 14) (v := .bool (k == 3)) rfl (by kernel_rfl) (by kernel_rfl) (by kernel_rfl) (fun _ _ _ h => h) (Or.inl ⟨by rfl, ?_⟩) hHeld ?_
  · intro wS hSw
    obtain ⟨hs0, hs1⟩ := hSw
    go_simp
  simp only [Act.put, List.setIfInBounds_toArray, List.set_cons_zero, List.set_cons_succ]
  refine wpAnyH_take (i := 15) (v := .agg #[.int .i64 n, .int .i64 (n + 1), .bool (k == 1), .string l, .bool (k == 3)]) rfl (by kernel_rfl) (by kernel_rfl) (by kernel_rfl) (fun _ _ _ h => h) (Or.inl ⟨by rfl, ?_⟩) hHeld ?_
  · intro wS hSw
    obtain ⟨hs0, hs1⟩ := hSw
    go_simp
  simp only [Act.put, List.setIfInBounds_toArray, List.set_cons_zero, List.set_cons_succ]
  refine wpAnyH_ready (rs := [4, 16]) (by kernel_rfl) (by simp) ?_
  refine AllReadyH.cons rfl (fun K hK => ?_) ?_
  · go_simp
    refine hK.out _ _ (by exact hHeld) (fun hHeld => ?_)
    clear hK K
    refine wpAnyH_ready (rs := [16]) (by kernel_rfl) (by simp) ?_
    refine AllReadyH.cons rfl (fun K hK => ?_) ?_
    · go_simp
      refine hK.out _ _ (HCs.out _ ((Chg.refl (S := fun _ => False) w3).alloc _).drew) (fun hHeld => ?_)
      clear hK K
      refine wpAnyH_ready (rs := [17]) (by kernel_rfl) (by simp) ?_
      refine AllReadyH.cons rfl (fun K hK => ?_) ?_
      · refine step_append_st rfl (.tmp 127) (.tmp 139) 156 rfl (p + 1) 211 i0 (.agg #[.int .i64 0, .int .i64 0, .bool false, .string ⟨#[]⟩, .bool false]) 5 48 Tryz.underlying156 HI.out.1 HI.out.2.1 HI.out.2.2.1 HI.out.2.2.2 rfl (by decide) (.slice av ms.length capv) ms.length _ rfl (own_low HM3.out.1.2 ((Chg.refl _).alloc _).drew (fun _ _ h => h)) ⟨w3.heap.size, 0, none⟩ 1 1 (Mv.cells ⟨n, n + 1, k == 1, l, k == 3⟩) rfl rfl (by exact fun j u hj => news w3.drew (Mv.cells ⟨n, n + 1, k == 1, l, k == 3⟩) 211 j u hj) (by simp [Mv.cells, Value.oneCell']) (by unfold maxLen; omega) (by omega) (by simp; omega) ?_
        intro v' w' u1 u2 u3
        obtain ⟨a', cap', rfl⟩ := own_slice u1
        have hg := grow_chg (wr := w3.drew) u2
        have kp := Blk.own (HM3.out.1.1.chg (Chg.refl (S := fun _ => False) w3).drew (fun h => h)) HM3.out.1.2 (by omega) hg
        have kb := (HM3.out.2.2.chg (Chg.refl (S := fun _ => False) w3).drew (fun h => h)).chg hg HN2.out
        obtain ⟨y3, z3, y0, y1⟩ := qfacts kp kb
        have HQ := Lib.hid (qfacts2 (kb.chg (set_chg (p := p) (j := 3) (c := .slice a' (ms.length + 1) cap') (Chg.refl _)) HB.out.2.2.1))
        have HF := Lib.hid (And.intro u1 (And.intro u2 u3))
        refine hK.out _ _ (by exact ⟨y0, y1⟩) (fun hHeld => ?_)
        clear hK K u1 u2 u3 hg kp kb
        simp only [Act.put, List.setIfInBounds_toArray, List.set_cons_zero, List.set_cons_succ]
        refine wpAnyH_take (i := 18) (v := .pointer (some ⟨p, 0, none⟩)) rfl (by kernel_rfl) (by kernel_rfl) (by kernel_rfl) (fun _ _ _ h => h) (Or.inl ⟨by rfl, ?_⟩) hHeld ?_
        · intro wS hSw
          obtain ⟨hs0, hs1⟩ := hSw
          go_simp
        simp only [Act.put, List.setIfInBounds_toArray, List.set_cons_zero, List.set_cons_succ]
        refine wpAnyH_take (i := 19) (v := .pointer (some ⟨p, 3, none⟩)) rfl (by kernel_rfl) (by kernel_rfl) (by kernel_rfl) (fun _ _ _ h => h) (Or.inl ⟨by rfl, ?_⟩) hHeld ?_
        · intro wS hSw
          obtain ⟨hs0, hs1⟩ := hSw
          go_simp
        simp only [Act.put, List.setIfInBounds_toArray, List.set_cons_zero, List.set_cons_succ]
        refine wpAnyH_ready (rs := [20]) (by kernel_rfl) (by simp) ?_
        refine AllReadyH.cons rfl (fun K hK => ?_) ?_
        · go_simp
          refine hK.out _ _ HQ.out (fun hHeld => ?_)
          clear hK K hHeld
          refine wpAnyH_done (by kernel_rfl) ?_ _
          go_wp2_with fail
          go_ret2
          obtain ⟨k1, k2⟩ := NSt.grow (w2 := w3.drew) HM3.out.1 (Chg.refl (S := fun _ => False) w3).drew HF.out.1 HF.out.2.1 HF.out.2.2
          exact ⟨_, rfl, by rw [show (n + 1 + 1 : Int) = n + 2 by omega] at k1; exact k1, MF.ext ((Chg.refl w).alloc _) (HM3.out.2.1.trans k2)⟩
        exact AllReadyH.nil
      exact AllReadyH.nil
    exact AllReadyH.nil
  refine AllReadyH.cons rfl (fun K hK => ?_) ?_
  · go_simp
    refine hK.out _ _ (HCs.out _ ((Chg.refl (S := fun _ => False) w3).alloc _).drew) (fun hHeld => ?_)
    clear hK K
    refine wpAnyH_ready (rs := [4]) (by kernel_rfl) (by simp) ?_
    refine AllReadyH.cons rfl (fun K hK => ?_) ?_
    · go_simp
      refine hK.out _ _ (by exact hHeld) (fun hHeld => ?_)
      clear hK K
      refine wpAnyH_ready (rs := [17]) (by kernel_rfl) (by simp) ?_
      refine AllReadyH.cons rfl (fun K hK => ?_) ?_
      · refine step_append_st rfl (.tmp 127) (.tmp 139) 156 rfl (p + 1) 211 i0 (.agg #[.int .i64 0, .int .i64 0, .bool false, .string ⟨#[]⟩, .bool false]) 5 48 Tryz.underlying156 HI.out.1 HI.out.2.1 HI.out.2.2.1 HI.out.2.2.2 rfl (by decide) (.slice av ms.length capv) ms.length _ rfl (own_low HM3.out.1.2 ((Chg.refl _).alloc _).drew (fun _ _ h => h)) ⟨w3.heap.size, 0, none⟩ 1 1 (Mv.cells ⟨n, n + 1, k == 1, l, k == 3⟩) rfl rfl (by exact fun j u hj => news w3.drew (Mv.cells ⟨n, n + 1, k == 1, l, k == 3⟩) 211 j u hj) (by simp [Mv.cells, Value.oneCell']) (by unfold maxLen; omega) (by omega) (by simp; omega) ?_
        intro v' w' u1 u2 u3
        obtain ⟨a', cap', rfl⟩ := own_slice u1
        have hg := grow_chg (wr := w3.drew) u2
        have kp := Blk.own (HM3.out.1.1.chg (Chg.refl (S := fun _ => False) w3).drew (fun h => h)) HM3.out.1.2 (by omega) hg
        have kb := (HM3.out.2.2.chg (Chg.refl (S := fun _ => False) w3).drew (fun h => h)).chg hg HN2.out
        obtain ⟨y3, z3, y0, y1⟩ := qfacts kp kb
        have HQ := Lib.hid (qfacts2 (kb.chg (set_chg (p := p) (j := 3) (c := .slice a' (ms.length + 1) cap') (Chg.refl _)) HB.out.2.2.1))
        have HF := Lib.hid (And.intro u1 (And.intro u2 u3))
        refine hK.out _ _ (by exact ⟨y0, y1⟩) (fun hHeld => ?_)
        clear hK K u1 u2 u3 hg kp kb
        simp only [Act.put, List.setIfInBounds_toArray, List.set_cons_zero, List.set_cons_succ]
        refine wpAnyH_take (i := 18) (v := .pointer (some ⟨p, 0, none⟩)) rfl (by kernel_rfl) (by kernel_rfl) (by kernel_rfl) (fun _ _ _ h => h) (Or.inl ⟨by rfl, ?_⟩) hHeld ?_
        · intro wS hSw
          obtain ⟨hs0, hs1⟩ := hSw
          go_simp
        simp only [Act.put, List.setIfInBounds_toArray, List.set_cons_zero, List.set_cons_succ]
        refine wpAnyH_take (i := 19) (v := .pointer (some ⟨p, 3, none⟩)) rfl (by kernel_rfl) (by kernel_rfl) (by kernel_rfl) (fun _ _ _ h => h) (Or.inl ⟨by rfl, ?_⟩) hHeld ?_
        · intro wS hSw
          obtain ⟨hs0, hs1⟩ := hSw
          go_simp
        simp only [Act.put, List.setIfInBounds_toArray, List.set_cons_zero, List.set_cons_succ]
        refine wpAnyH_ready (rs := [20]) (by kernel_rfl) (by simp) ?_
        refine AllReadyH.cons rfl (fun K hK => ?_) ?_
        · go_simp
          refine hK.out _ _ HQ.out (fun hHeld => ?_)
          clear hK K hHeld
          refine wpAnyH_done (by kernel_rfl) ?_ _
          go_wp2_with fail
          go_ret2
          obtain ⟨k1, k2⟩ := NSt.grow (w2 := w3.drew) HM3.out.1 (Chg.refl (S := fun _ => False) w3).drew HF.out.1 HF.out.2.1 HF.out.2.2
          exact ⟨_, rfl, by rw [show (n + 1 + 1 : Int) = n + 2 by omega] at k1; exact k1, MF.ext ((Chg.refl w).alloc _) (HM3.out.2.1.trans k2)⟩
        exact AllReadyH.nil
      exact AllReadyH.nil
    exact AllReadyH.nil
  exact AllReadyH.nil
end Go.Proofs.YtkhllknahjmciaaGreat

/-! Machines (chapter 16): a plain path's part, whole. -/
namespace Go.Proofs.YtkhllknahjmciaaGreat
open Go.RowKit
set_option linter.unusedVariables false
set_option linter.unusedSimpArgs false

theorem kid_some {w : World} {x : Addr} {n cap : Nat} {css : List (List Value)} {kids : List Tr} (hc : Cells w (some x) n cap (List.flatten css)) (ht : TrCs w kids css) {i : Nat} {t : Tr} (hi : kids[i]? = some t) :
    ∃ k l a' n' cap' mn mx, TrC w t [.int .i64 k, .string l, .slice a' n' cap', .int .i64 mn, .int .i64 mx] ∧ w.cell? (x.add (i * 5)) = some (.int .i64 k) ∧ w.cell? { block := (x.add (i * 5)).block, off := (x.add (i * 5)).off + 1 } = some (.string l) ∧ w.cell? { block := (x.add (i * 5)).block, off := (x.add (i * 5)).off + 2 } = some (.slice a' n' cap') ∧ w.cell? { block := (x.add (i * 5)).block, off := (x.add (i * 5)).off + 3 } = some (.int .i64 mn) ∧ w.cell? { block := (x.add (i * 5)).block, off := (x.add (i * 5)).off + 4 } = some (.int .i64 mx) := by
  obtain ⟨x', k, l, a', n', cap', mn, mx, e, h⟩ := kid_at hc ht hi
  cases e
  exact ⟨k, l, a', n', cap', mn, mx, h⟩
theorem kid_zero {w : World} {x : Addr} {n cap : Nat} {css : List (List Value)} {kids : List Tr} {t : Tr} (hc : Cells w (some x) n cap (List.flatten css)) (ht : TrCs w (t :: kids) css) :
    ∃ k l a' n' cap' mn mx, TrC w t [.int .i64 k, .string l, .slice a' n' cap', .int .i64 mn, .int .i64 mx] ∧ w.cell? x = some (.int .i64 k) ∧ w.cell? { block := x.block, off := x.off + 1 } = some (.string l) ∧ w.cell? { block := x.block, off := x.off + 2 } = some (.slice a' n' cap') ∧ w.cell? { block := x.block, off := x.off + 3 } = some (.int .i64 mn) ∧ w.cell? { block := x.block, off := x.off + 4 } = some (.int .i64 mx) := by
  have := kid_some hc ht (i := 0) rfl
  rw [Nat.zero_mul, add_zero] at this
  exact this
theorem kid_one {w : World} {x : Addr} {n cap : Nat} {css : List (List Value)} {kids : List Tr} {s t : Tr} (hc : Cells w (some x) n cap (List.flatten css)) (ht : TrCs w (s :: t :: kids) css) :
    ∃ k l a' n' cap' mn mx, TrC w t [.int .i64 k, .string l, .slice a' n' cap', .int .i64 mn, .int .i64 mx] ∧ w.cell? { block := x.block, off := x.off + 5 } = some (.int .i64 k) ∧ w.cell? { block := x.block, off := x.off + 5 + 1 } = some (.string l) ∧ w.cell? { block := x.block, off := x.off + 5 + 2 } = some (.slice a' n' cap') ∧ w.cell? { block := x.block, off := x.off + 5 + 3 } = some (.int .i64 mn) ∧ w.cell? { block := x.block, off := x.off + 5 + 4 } = some (.int .i64 mx) := kid_some hc ht (i := 1) rfl
theorem node_addr {w : World} {k mn mx : Int} {l : ByteArray} {t : Tr} {ts : List Tr} {cs : List Value} (h : TrC w (.node k l (t :: ts) mn mx) cs) : ∃ x cap css, cs = [.int .i64 k, .string l, .slice (some x) (ts.length + 1) cap, .int .i64 mn, .int .i64 mx] ∧ Cells w (some x) (ts.length + 1) cap (List.flatten css) ∧ TrCs w (t :: ts) css := by
  obtain ⟨a, cap, css, rfl, hc, ht⟩ := TrC_node.1 h
  obtain ⟨x, _, _, _, _, _, _, _, rfl, -⟩ := kid_at hc ht (i := 0) rfl
  exact ⟨x, cap, css, rfl, hc, ht⟩
theorem five_ext {w0 w : World} {x : Addr} {a0 a1 a2 a3 a4 : Value} (h : Ext w0 w) (c0 : w0.cell? x = some a0) (c1 : w0.cell? { block := x.block, off := x.off + 1 } = some a1) (c2 : w0.cell? { block := x.block, off := x.off + 2 } = some a2) (c3 : w0.cell? { block := x.block, off := x.off + 3 } = some a3) (c4 : w0.cell? { block := x.block, off := x.off + 4 } = some a4) :
    w.cell? x = some a0 ∧ w.cell? { block := x.block, off := x.off + 1 } = some a1 ∧ w.cell? { block := x.block, off := x.off + 2 } = some a2 ∧ w.cell? { block := x.block, off := x.off + 3 } = some a3 ∧ w.cell? { block := x.block, off := x.off + 4 } = some a4 :=
  ⟨(h.cell (lt_of_cell c0) (fun h => h)).trans c0, (h.cell (lt_of_cell c1) (fun h => h)).trans c1, (h.cell (lt_of_cell c2) (fun h => h)).trans c2, (h.cell (lt_of_cell c3) (fun h => h)).trans c3, (h.cell (lt_of_cell c4) (fun h => h)).trans c4⟩
set_option maxRecDepth 100000 in
set_option maxHeartbeats 1000000 in
theorem part_any (q : Pl) (w0 w : World) (p : Nat) (n a b : Int) (ms : List Mv) (v : Value) (cs : List Value) (hs : NSt w p n a b ms v) (hp : w0.heap.size ≤ p) (hx0 : Ext w0 w) (ht : TrC w0 q.tr cs) (hn : 0 ≤ n) (hn1 : n + 2 * q.big ≤ 99998) (hm : ms.length + 4 * q.big ≤ 99990) :
    Calls Tryz.prog 144 #[.pointer (some ⟨p, 0, none⟩), .agg cs.toArray] w (PartPost p a b ms v w (partP q n)) := by
  induction q generalizing w n ms cs v with
  | eps =>
    obtain ⟨al, cap, css, rfl, hc, htk⟩ := TrC_node.1 ht
    exact part_leaf 1 _ (by omega) w p n a b ms v al _ cap _ _ hs hn (by simp [Pl.big] at hn1; omega) (by omega)
  | fwd l =>
    obtain ⟨al, cap, css, rfl, hc, htk⟩ := TrC_node.1 ht
    exact part_leaf 2 l (by omega) w p n a b ms v al _ cap _ _ hs hn (by simp [Pl.big] at hn1; omega) (by omega)
  | back l =>
    obtain ⟨al, cap, css, rfl, hc, htk⟩ := TrC_node.1 ht
    exact part_leaf 3 l (by omega) w p n a b ms v al _ cap _ _ hs hn (by simp [Pl.big] at hn1; omega) (by omega)
  | seq q r h1 h2 =>
    obtain ⟨x, cap, css, rfl, hc, htk⟩ := node_addr (w := w0) (cs := cs) (k := 4) (l := ⟨#[]⟩) (t := q.tr) (ts := [r.tr]) (mn := 0) (mx := 0) ht
    obtain ⟨hne1, hne2⟩ := hs.new
    have hb := Blk.new w #[.int .i64 4, .string ⟨#[]⟩, .slice (some x) 2 cap, .int .i64 0, .int .i64 0] 28
    have hw1 : Ext w (w.alloc (.cells #[.int .i64 4, .string ⟨#[]⟩, .slice (some x) 2 cap, .int .i64 0, .int .i64 0] 28)) := (Chg.refl w).alloc _
    obtain ⟨k6, l6, a6, n6, cap6, mn6, mx6, htu, g0, g1, g2, g3, g4⟩ := kid_zero hc htk
    have HA := Lib.hid (fun W (hW : Ext w0 W) => five_ext hW g0 g1 g2 g3 g4)
    have hcap := hc.1
    clear g0 g1 g2 g3 g4
    simp only [Pl.big] at hn1 hm
    obtain ⟨-, -, -, -, b2, -⟩ := blk5_base hb
    obtain ⟨k7, l7, a7, n7, cap7, mn7, mx7, htv, g0, g1, g2, g3, g4⟩ := kid_one hc htk
    have HA1 := Lib.hid (fun W (hW : Ext w0 W) => five_ext hW g0 g1 g2 g3 g4)
    clear g0 g1 g2 g3 g4
    have hq := partP_n q n
    have hr := partP_n r (partP q n).n
    obtain ⟨P, hP⟩ : ∃ P, partP q n = P := ⟨_, rfl⟩
    obtain ⟨R, hR⟩ : ∃ R, partP r P.n = R := ⟨_, rfl⟩
    rw [hP] at hr hq
    rw [hR] at hr
    have hE : partP (.seq q r) n = ⟨P.s, R.a, R.n, P.ms ++ R.ms ++ [Mv.e P.a R.s]⟩ := by simp only [partP, hP, hR]
    rw [hE]
    have HH := Lib.hid (And.intro hs (And.intro hp (And.intro hx0 (And.intro hb (And.intro hw1 (And.intro hne1 hne2))))))
    have H1 := Lib.hid (h1 _ n ms v _ (hs.ext hw1) (hx0.trans hw1) htu hn (by omega) (by omega))
    have H2 := Lib.hid (And.intro h2 htv)
    rw [hP] at H1
    have HR := Lib.hid hR
    have HM := Lib.hid (And.intro (hs.ext hw1) (MF.refl (w.alloc (.cells #[.int .i64 4, .string ⟨#[]⟩, .slice (some x) 2 cap, .int .i64 0, .int .i64 0] 28)) p v))
    obtain ⟨c0, c1, c2, c3, c4⟩ := HA.out _ (hx0.trans hw1)
    clear hs hx0 hb hw1 hne1 hne2 hc htk htu htv h1 h2 ht hP hR hE
    go_enter Tryz.func144, Tryz.ntmps144
    go_wp2_with fail
    refine H1.out.mono ?_
    clear H1
    rintro e w2 ⟨v2, rfl, hn2, hm2⟩
    have HM' := Lib.hid (And.intro hn2 (HM.out.2.trans hm2))
    clear hn2 hm2 HM
    have HM := HM'
    clear HM'
    clear c0 c1 c2 c3 c4 b2
    have hxx := (HM.out.2).old (HH.out.1.ext HH.out.2.2.2.2.1) (HH.out.2.2.1.trans HH.out.2.2.2.2.1) HH.out.2.1
    obtain ⟨-, -, -, -, b2, -⟩ := blk5_base ((HM.out.2).box HH.out.2.2.2.1 HH.out.2.2.2.2.2.1 HH.out.2.2.2.2.2.2)
    have HX := Lib.hid hxx
    clear hxx
    obtain ⟨c0, c1, c2, c3, c4⟩ := HA1.out _ HX.out
    go_wp2_with fail
    have H3 := Lib.hid (H2.out.1 _ _ _ _ _ HM.out.1 HX.out H2.out.2 (by omega) (by omega) (by simp only [List.length_append]; omega))
    rw [HR.out] at H3
    refine H3.out.mono ?_
    clear H3
    rintro e w3 ⟨v3, rfl, hn3, hm3⟩
    have HM' := Lib.hid (And.intro hn3 (HM.out.2.trans hm3))
    clear hn3 hm3 HM
    have HM := HM'
    clear HM'
    clear c0 c1 c2 c3 c4 b2
    go_wp2_with fail
    refine (eps_any _ p _ a b _ _ _ _ HM.out.1 (by simp only [List.length_append, List.length_cons, List.length_nil]; omega)).mono ?_
    rintro e w4 ⟨v4, rfl, hn4, hm4⟩
    have HM' := Lib.hid (And.intro hn4 (HM.out.2.trans hm4))
    clear hn4 hm4 HM
    have HM := HM'
    clear HM'
    go_wp2_with fail
    go_ret2
    exact ⟨_, rfl, by simpa only [List.append_assoc, Mv.e, List.cons_append, List.nil_append] using HM.out.1, MF.ext ((Chg.refl w).alloc _) HM.out.2⟩
  | alt q r h1 h2 =>
    obtain ⟨x, cap, css, rfl, hc, htk⟩ := node_addr (w := w0) (cs := cs) (k := 5) (l := ⟨#[]⟩) (t := q.tr) (ts := [r.tr]) (mn := 0) (mx := 0) ht
    obtain ⟨hne1, hne2⟩ := hs.new
    have hb := Blk.new w #[.int .i64 5, .string ⟨#[]⟩, .slice (some x) 2 cap, .int .i64 0, .int .i64 0] 28
    have hw1 : Ext w (w.alloc (.cells #[.int .i64 5, .string ⟨#[]⟩, .slice (some x) 2 cap, .int .i64 0, .int .i64 0] 28)) := (Chg.refl w).alloc _
    obtain ⟨k6, l6, a6, n6, cap6, mn6, mx6, htu, g0, g1, g2, g3, g4⟩ := kid_zero hc htk
    have HA := Lib.hid (fun W (hW : Ext w0 W) => five_ext hW g0 g1 g2 g3 g4)
    have hcap := hc.1
    clear g0 g1 g2 g3 g4
    simp only [Pl.big] at hn1 hm
    obtain ⟨-, -, -, -, b2, -⟩ := blk5_base hb
    obtain ⟨k7, l7, a7, n7, cap7, mn7, mx7, htv, g0, g1, g2, g3, g4⟩ := kid_one hc htk
    have HA1 := Lib.hid (fun W (hW : Ext w0 W) => five_ext hW g0 g1 g2 g3 g4)
    clear g0 g1 g2 g3 g4
    have hq := partP_n q (n + 1)
    have hr := partP_n r (partP q (n + 1)).n
    obtain ⟨P, hP⟩ : ∃ P, partP q (n + 1) = P := ⟨_, rfl⟩
    obtain ⟨R, hR⟩ : ∃ R, partP r P.n = R := ⟨_, rfl⟩
    rw [hP] at hr hq
    rw [hR] at hr
    have hE : partP (.alt q r) n = ⟨n, R.n, R.n + 1, P.ms ++ R.ms ++ [Mv.e n P.s, Mv.e n R.s, Mv.e P.a R.n, Mv.e R.a R.n]⟩ := by simp only [partP, hP, hR]
    rw [hE]
    have HH := Lib.hid (And.intro hs (And.intro hp (And.intro hx0 (And.intro hb (And.intro hw1 (And.intro hne1 hne2))))))
    have H1 := Lib.hid (And.intro h1 htu)
    have H2 := Lib.hid (And.intro h2 htv)
    have HP := Lib.hid hP
    have HR := Lib.hid hR
    have HM := Lib.hid (And.intro (hs.ext hw1) (MF.refl (w.alloc (.cells #[.int .i64 5, .string ⟨#[]⟩, .slice (some x) 2 cap, .int .i64 0, .int .i64 0] 28)) p v))
    obtain ⟨c0, c1, c2, c3, c4⟩ := HA.out _ (hx0.trans hw1)
    clear hs hx0 hb hw1 hne1 hne2 hc htk htu htv h1 h2 ht hP hR hE
    go_enter Tryz.func144, Tryz.ntmps144
    go_wp2_with fail
    refine (state_any _ p n a b _ _ HM.out.1 (by omega)).mono ?_
    rintro e w5 ⟨rfl, hn5, hm5⟩
    have HM' := Lib.hid (And.intro hn5 (HM.out.2.trans hm5))
    clear hn5 hm5 HM
    have HM := HM'
    clear HM'
    clear c0 c1 c2 c3 c4 b2
    have hxx := (HM.out.2).old (HH.out.1.ext HH.out.2.2.2.2.1) (HH.out.2.2.1.trans HH.out.2.2.2.2.1) HH.out.2.1
    obtain ⟨-, -, -, -, b2, -⟩ := blk5_base ((HM.out.2).box HH.out.2.2.2.1 HH.out.2.2.2.2.2.1 HH.out.2.2.2.2.2.2)
    have HX := Lib.hid hxx
    clear hxx
    obtain ⟨c0, c1, c2, c3, c4⟩ := HA.out _ HX.out
    go_wp2_with fail
    have H3 := Lib.hid (H1.out.1 _ _ _ _ _ HM.out.1 HX.out H1.out.2 (by omega) (by omega) (by omega))
    rw [HP.out] at H3
    refine H3.out.mono ?_
    clear H3 HX
    rintro e w2 ⟨v2, rfl, hn2, hm2⟩
    have HM' := Lib.hid (And.intro hn2 (HM.out.2.trans hm2))
    clear hn2 hm2 HM
    have HM := HM'
    clear HM'
    clear c0 c1 c2 c3 c4 b2
    have hxx := (HM.out.2).old (HH.out.1.ext HH.out.2.2.2.2.1) (HH.out.2.2.1.trans HH.out.2.2.2.2.1) HH.out.2.1
    obtain ⟨-, -, -, -, b2, -⟩ := blk5_base ((HM.out.2).box HH.out.2.2.2.1 HH.out.2.2.2.2.2.1 HH.out.2.2.2.2.2.2)
    have HX := Lib.hid hxx
    clear hxx
    obtain ⟨c0, c1, c2, c3, c4⟩ := HA1.out _ HX.out
    go_wp2_with fail
    have H3 := Lib.hid (H2.out.1 _ _ _ _ _ HM.out.1 HX.out H2.out.2 (by omega) (by omega) (by simp only [List.length_append]; omega))
    rw [HR.out] at H3
    refine H3.out.mono ?_
    clear H3
    rintro e w3 ⟨v3, rfl, hn3, hm3⟩
    have HM' := Lib.hid (And.intro hn3 (HM.out.2.trans hm3))
    clear hn3 hm3 HM
    have HM := HM'
    clear HM'
    clear c0 c1 c2 c3 c4 b2
    go_wp2_with fail
    refine (state_any _ p _ a b _ _ HM.out.1 (by omega)).mono ?_
    rintro e w4 ⟨rfl, hn4, hm4⟩
    have HM' := Lib.hid (And.intro hn4 (HM.out.2.trans hm4))
    clear hn4 hm4 HM
    have HM := HM'
    clear HM'
    go_wp2_with fail
    refine (eps_any _ p _ a b _ _ _ _ HM.out.1 (by simp only [List.length_append, List.length_cons, List.length_nil]; omega)).mono ?_
    rintro e w6 ⟨v6, rfl, hn6, hm6⟩
    have HM' := Lib.hid (And.intro hn6 (HM.out.2.trans hm6))
    clear hn6 hm6 HM
    have HM := HM'
    clear HM'
    go_wp2_with fail
    refine (eps_any _ p _ a b _ _ _ _ HM.out.1 (by simp only [List.length_append, List.length_cons, List.length_nil]; omega)).mono ?_
    rintro e w7 ⟨v7, rfl, hn7, hm7⟩
    have HM' := Lib.hid (And.intro hn7 (HM.out.2.trans hm7))
    clear hn7 hm7 HM
    have HM := HM'
    clear HM'
    go_wp2_with fail
    refine (eps_any _ p _ a b _ _ _ _ HM.out.1 (by simp only [List.length_append, List.length_cons, List.length_nil]; omega)).mono ?_
    rintro e w8 ⟨v8, rfl, hn8, hm8⟩
    have HM' := Lib.hid (And.intro hn8 (HM.out.2.trans hm8))
    clear hn8 hm8 HM
    have HM := HM'
    clear HM'
    go_wp2_with fail
    refine (eps_any _ p _ a b _ _ _ _ HM.out.1 (by simp only [List.length_append, List.length_cons, List.length_nil]; omega)).mono ?_
    rintro e w9 ⟨v9, rfl, hn9, hm9⟩
    have HM' := Lib.hid (And.intro hn9 (HM.out.2.trans hm9))
    clear hn9 hm9 HM
    have HM := HM'
    clear HM'
    go_wp2_with fail
    go_ret2
    exact ⟨_, rfl, by simpa only [List.append_assoc, Mv.e, List.cons_append, List.nil_append] using HM.out.1, MF.ext ((Chg.refl w).alloc _) HM.out.2⟩
  | star q h1 =>
    obtain ⟨x, cap, css, rfl, hc, htk⟩ := node_addr (w := w0) (cs := cs) (k := 6) (l := ⟨#[]⟩) (t := q.tr) (ts := []) (mn := 0) (mx := 0) ht
    obtain ⟨hne1, hne2⟩ := hs.new
    have hb := Blk.new w #[.int .i64 6, .string ⟨#[]⟩, .slice (some x) 1 cap, .int .i64 0, .int .i64 0] 28
    have hw1 : Ext w (w.alloc (.cells #[.int .i64 6, .string ⟨#[]⟩, .slice (some x) 1 cap, .int .i64 0, .int .i64 0] 28)) := (Chg.refl w).alloc _
    obtain ⟨k6, l6, a6, n6, cap6, mn6, mx6, htu, g0, g1, g2, g3, g4⟩ := kid_zero hc htk
    have HA := Lib.hid (fun W (hW : Ext w0 W) => five_ext hW g0 g1 g2 g3 g4)
    have hcap := hc.1
    clear g0 g1 g2 g3 g4
    simp only [Pl.big] at hn1 hm
    obtain ⟨-, -, -, -, b2, -⟩ := blk5_base hb
    have hq := partP_n q (n + 1)
    obtain ⟨P, hP⟩ : ∃ P, partP q (n + 1) = P := ⟨_, rfl⟩
    rw [hP] at hq
    have hE : partP (.star q) n = ⟨n, P.n, P.n + 1, P.ms ++ [Mv.e n P.s, Mv.e n P.n, Mv.e P.a P.s, Mv.e P.a P.n]⟩ := by simp only [partP, hP]
    rw [hE]
    have HH := Lib.hid (And.intro hs (And.intro hp (And.intro hx0 (And.intro hb (And.intro hw1 (And.intro hne1 hne2))))))
    have H1 := Lib.hid (And.intro h1 htu)
    have HP := Lib.hid hP
    have HM := Lib.hid (And.intro (hs.ext hw1) (MF.refl (w.alloc (.cells #[.int .i64 6, .string ⟨#[]⟩, .slice (some x) 1 cap, .int .i64 0, .int .i64 0] 28)) p v))
    obtain ⟨c0, c1, c2, c3, c4⟩ := HA.out _ (hx0.trans hw1)
    clear hs hx0 hb hw1 hne1 hne2 hc htk htu h1 ht hP hE
    go_enter Tryz.func144, Tryz.ntmps144
    go_wp2_with fail
    refine (state_any _ p n a b _ _ HM.out.1 (by omega)).mono ?_
    rintro e w5 ⟨rfl, hn5, hm5⟩
    have HM' := Lib.hid (And.intro hn5 (HM.out.2.trans hm5))
    clear hn5 hm5 HM
    have HM := HM'
    clear HM'
    clear c0 c1 c2 c3 c4 b2
    have hxx := (HM.out.2).old (HH.out.1.ext HH.out.2.2.2.2.1) (HH.out.2.2.1.trans HH.out.2.2.2.2.1) HH.out.2.1
    obtain ⟨-, -, -, -, b2, -⟩ := blk5_base ((HM.out.2).box HH.out.2.2.2.1 HH.out.2.2.2.2.2.1 HH.out.2.2.2.2.2.2)
    have HX := Lib.hid hxx
    clear hxx
    obtain ⟨c0, c1, c2, c3, c4⟩ := HA.out _ HX.out
    go_wp2_with fail
    have H3 := Lib.hid (H1.out.1 _ _ _ _ _ HM.out.1 HX.out H1.out.2 (by omega) (by omega) (by omega))
    rw [HP.out] at H3
    refine H3.out.mono ?_
    clear H3 HX
    rintro e w2 ⟨v2, rfl, hn2, hm2⟩
    have HM' := Lib.hid (And.intro hn2 (HM.out.2.trans hm2))
    clear hn2 hm2 HM
    have HM := HM'
    clear HM'
    clear c0 c1 c2 c3 c4 b2
    go_wp2_with fail
    refine (state_any _ p _ a b _ _ HM.out.1 (by omega)).mono ?_
    rintro e w4 ⟨rfl, hn4, hm4⟩
    have HM' := Lib.hid (And.intro hn4 (HM.out.2.trans hm4))
    clear hn4 hm4 HM
    have HM := HM'
    clear HM'
    go_wp2_with fail
    refine (eps_any _ p _ a b _ _ _ _ HM.out.1 (by simp only [List.length_append, List.length_cons, List.length_nil]; omega)).mono ?_
    rintro e w6 ⟨v6, rfl, hn6, hm6⟩
    have HM' := Lib.hid (And.intro hn6 (HM.out.2.trans hm6))
    clear hn6 hm6 HM
    have HM := HM'
    clear HM'
    go_wp2_with fail
    refine (eps_any _ p _ a b _ _ _ _ HM.out.1 (by simp only [List.length_append, List.length_cons, List.length_nil]; omega)).mono ?_
    rintro e w7 ⟨v7, rfl, hn7, hm7⟩
    have HM' := Lib.hid (And.intro hn7 (HM.out.2.trans hm7))
    clear hn7 hm7 HM
    have HM := HM'
    clear HM'
    go_wp2_with fail
    refine (eps_any _ p _ a b _ _ _ _ HM.out.1 (by simp only [List.length_append, List.length_cons, List.length_nil]; omega)).mono ?_
    rintro e w8 ⟨v8, rfl, hn8, hm8⟩
    have HM' := Lib.hid (And.intro hn8 (HM.out.2.trans hm8))
    clear hn8 hm8 HM
    have HM := HM'
    clear HM'
    go_wp2_with fail
    refine (eps_any _ p _ a b _ _ _ _ HM.out.1 (by simp only [List.length_append, List.length_cons, List.length_nil]; omega)).mono ?_
    rintro e w9 ⟨v9, rfl, hn9, hm9⟩
    have HM' := Lib.hid (And.intro hn9 (HM.out.2.trans hm9))
    clear hn9 hm9 HM
    have HM := HM'
    clear HM'
    go_wp2_with fail
    go_ret2
    exact ⟨_, rfl, by simpa only [List.append_assoc, Mv.e, List.cons_append, List.nil_append] using HM.out.1, MF.ext ((Chg.refl w).alloc _) HM.out.2⟩
end Go.Proofs.YtkhllknahjmciaaGreat
