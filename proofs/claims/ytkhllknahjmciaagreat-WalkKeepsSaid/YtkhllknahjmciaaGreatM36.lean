/-
  Graphs (the document's own) without no edges; values field by field. Values (the document's own), field by field. Graphs (the document's own): an edge by its token. Graphs (the document's own): the same one is the same.
-/
import Derived.Test.YtkhllknahjmciaaGreatM35
/-! Graphs (the document's own) without no edges; values field by field. -/
namespace Go.Proofs.YtkhllknahjmciaaGreat
open Go.RowKit
set_option linter.unusedVariables false
set_option linter.unusedSimpArgs false

set_option maxRecDepth 100000 in
set_option maxHeartbeats 1000000 in
theorem subset0 (a : Option Addr) (c : Nat) (w : World) :
    Calls Tryz.prog 37 #[.slice a 1 c, .slice none 0 0] w fun e w' => e = .returned (.bool false) ∧ Ext w w' := by
  go_enter Tryz.func37, Tryz.ntmps37
  go_wp2_with fail
  go_loopg [5] 0 (fun g l5 wr => g = 0 ∧ l5 = .int .i64 0 ∧ Ext w wr)
  case atStart => exact ⟨rfl, rfl, Chg.refl _⟩
  case round =>
    obtain ⟨rfl, rfl, hx⟩ := hrel
    have HX := Lib.hid hx
    clear hx
    go_wp2_with fail
    go_loopg [6, 7] 0 (fun g l6 l7 wr => g = 0 ∧ l6 = .bool false ∧ l7 = .int .i64 0 ∧ Ext w wr)
    case atStart => exact ⟨rfl, rfl, rfl, HX.out⟩
    case round =>
      obtain ⟨rfl, rfl, rfl, hx⟩ := hrel
      have HY := Lib.hid hx
      clear hx
      go_wp2_with fail
      go_ret
      exact ⟨rfl, HY.out⟩
set_option maxRecDepth 100000 in
set_option maxHeartbeats 1000000 in
theorem without0 (g : Gr) (w : World) (gcs : List Value) (hg : GrC w g gcs) (hl : g.edges.length ≤ 1000) :
    Calls Tryz.prog 35 #[.agg gcs.toArray, .slice none 0 0] w fun e w' => ∃ cs, e = .returned (.agg cs.toArray) ∧ GrC w' g cs ∧ Ext w w' := by
  obtain ⟨na, nc, ea, ec, rfl, hns, hes⟩ := hg
  obtain ⟨m, hm⟩ : ∃ m, g.nodes.length = m := ⟨_, rfl⟩
  obtain ⟨n, hn⟩ : ∃ n, g.edges.length = n := ⟨_, rfl⟩
  have hl1 := hes.1
  have hl2 := hes.2.1
  unfold maxLen at hl2
  have HS := Lib.hid (fun a c W => subset0 a c W)
  have HN := Lib.hid (And.intro hns (And.intro hm hn))
  have HE := Lib.hid hes
  rw [hm, hn]
  rw [hn] at hl hl1
  have hx1 := ((Chg.refl (S := fun _ => False) w).alloc (.cells #[.slice na m nc, .slice ea n ec, .int .i64 g.next] 25)).alloc (.cells #[.slice none 0 0, .slice none 0 0, .int .i64 0] 25)
  obtain ⟨W1, hW1⟩ : ∃ W1, (w.alloc (.cells #[.slice na m nc, .slice ea n ec, .int .i64 g.next] 25)).alloc (.cells #[.slice none 0 0, .slice none 0 0, .int .i64 0] 25) = W1 := ⟨_, rfl⟩
  have kB : Blk W1 w.heap.size #[.slice na m nc, .slice ea n ec, .int .i64 g.next] 25 := by rw [← hW1]; exact (Blk.new w _ _).chg ((Chg.refl (S := fun _ => False) _).alloc _) (fun h => h)
  have kR : Blk W1 (w.heap.size + 1) #[.slice none 0 0, .slice none 0 0, .int .i64 0] 25 := by
    rw [← hW1]
    simpa using Blk.new (w.alloc (.cells #[.slice na m nc, .slice ea n ec, .int .i64 g.next] 25)) #[.slice none 0 0, .slice none 0 0, .int .i64 0] 25
  rw [hW1] at hx1
  have HB := Lib.hid (And.intro hx1 (And.intro kB kR))
  have HW1 := Lib.hid hW1
  have hsz := kR.lt
  obtain ⟨i0, hi0, hii⟩ := Option.map_eq_some_iff.1 info_eg
  obtain ⟨hz0, hz1, hz2⟩ : i0.zero = some (.agg #[.int .i64 0, .int .i64 0, .string ⟨#[]⟩, .int .i64 0]) ∧ i0.size = 4 ∧ i0.bytes = 40 := by
    have := hii; simp at this; exact this
  have HI := Lib.hid (And.intro hi0 (And.intro hz0 (And.intro hz1 hz2)))
  clear hi0 hii hz0 hz1 hz2 hx1 kB kR hW1 hns hes hm hn
  go_enter Tryz.func35, Tryz.ntmps35
  go_wp2_with fail
  rw [HW1.out]
  go_loopg [5, 6] n (fun g' l5 l6 wr => ∃ (i : Nat), i ≤ n ∧ Ext W1 wr ∧ wr.ownsRow W1.heap.size 72 4 l5 i (egCells (g.edges.take i)) ∧ l6 = .int .i64 i ∧ g' = n - i)
  case atStart => exact ⟨0, Nat.zero_le _, Chg.refl _, by rw [List.take_zero]; exact World.ownsRow_nil _ _ _ _, rfl, rfl⟩
  case round =>
    obtain ⟨w4, rfl⟩ : ∃ x, x = wr := ⟨_, rfl⟩
    obtain ⟨i, hi, hx, ho, rfl, rfl⟩ := hrel
    obtain ⟨b0, -, b1, -, b2, -⟩ := blk3_base (HB.out.2.1.chg hx (fun h => h))
    by_cases hin : i < n
    · have hin' : (i : Int) < n := by omega
      obtain ⟨e, he⟩ : ∃ e, g.edges[i]? = some e := ⟨_, List.getElem?_eq_getElem (by rw [HN.out.2.2]; exact hin)⟩
      obtain ⟨x, rfl, c0, c1, c2, c3⟩ := eg_at (Cells.ext HE.out (HB.out.1.trans hx)) he
      have HX := Lib.hid (And.intro hx (And.intro ho he))
      clear hx ho c1 c2 c3 he
      go_wp2_with fail
      refine (HS.out _ _ _).mono ?_
      rintro e' w5 ⟨rfl, hx5⟩
      have hx45 := ((Chg.refl (S := fun _ => False) w4).alloc (.cells #[.int .i64 e.tok] 3)).trans hx5
      have hx15 := HX.out.1.trans hx45
      have hsz5 := hx15.size
      clear b0 b1 b2 c0
      obtain ⟨b0, -, b1, -, b2, -⟩ := blk3_base (HB.out.2.1.chg hx15 (fun h => h))
      obtain ⟨x', e1, c0, c1, c2, c3⟩ := eg_at (Cells.ext HE.out (HB.out.1.trans hx15)) HX.out.2.2
      cases e1
      obtain ⟨la, lc, rfl⟩ := own_slice HX.out.2.1
      have HT := Lib.hid (take_succ' HX.out.2.2)
      have HY := Lib.hid (And.intro hx15 (own_low HX.out.2.1 hx45 (fun _ _ h => h)))
      clear hx5 hx45 hx15
      go_wp2_with (at_builtin; refine wpList_append_st _ rfl (.tmp 24) (.tmp 30) 23 rfl W1.heap.size 72 i0 (.agg #[.int .i64 0, .int .i64 0, .string ⟨#[]⟩, .int .i64 0]) 4 40 Tryz.underlying23 HI.out.1 HI.out.2.1 HI.out.2.2.1 HI.out.2.2.2 rfl (by decide) (.slice la i lc) i _ rfl (own_low HY.out.2 ((Chg.refl _).alloc _) (fun _ _ h => h)) ⟨w5.heap.size, 0, none⟩ 1 1 e.cells rfl rfl (by exact fun j u hj => news w5 e.cells _ j u hj) (by simp [Eg.cells, Value.oneCell']) (by unfold maxLen; omega) (by omega) (by simp; omega) ?_; intro v' w' u1 u2 u3; have HF := Lib.hid (And.intro u1 u2); clear u1 u2 u3)
      go_roundg (n - (i + 1))
      case measure => omega
      case rel =>
        refine ⟨i + 1, by omega, Ext.own HY.out.1 HY.out.2 (Nat.le_refl _) (grow_chg HF.out.2), ?_, rfl, rfl⟩
        rw [HT.out, egCells_app]
        have := HF.out.1
        simpa [egCells] using this
    · obtain rfl : i = n := by omega
      obtain ⟨la, lc, rfl⟩ := own_slice ho
      have kB := HB.out.2.1.chg hx (fun h => h)
      have kR := HB.out.2.2.chg hx (fun h => h)
      have kB2 := kB.set 1 (.slice la i lc)
      obtain ⟨y0, f0, y1, f1, y2, f2⟩ := blk3_base kB
      clear b0 b1 b2
      obtain ⟨d0, -, d1, -, d2, -⟩ := blk3_base kB2
      have hs1 : Chg (fun b => b = w.heap.size) w4 (w4.setCell ⟨w.heap.size, 1, none⟩ (.slice la i lc)) := set_chg (Chg.refl _)
      have kR1 := kR.chg hs1 (by omega)
      obtain ⟨r0, s0, -⟩ := blk3_base kR1
      have k1 := kR1.set 0 (.slice na m nc)
      have r1 := k1.cell 1 _ rfl
      have s1 := k1.frozen 1
      have k2 := k1.set 1 (.slice la i lc)
      have r2 := k2.cell 2 _ rfl
      have s2 := k2.frozen 2
      have k3 := k2.set 2 (.int .i64 g.next)
      have q0 := k3.cell 0 _ rfl
      have q1 := k3.cell 1 _ rfl
      have q2 := k3.cell 2 _ rfl
      have hs2 : Chg (fun b => b = w.heap.size + 1) (w4.setCell ⟨w.heap.size, 1, none⟩ (.slice la i lc)) ((((w4.setCell ⟨w.heap.size, 1, none⟩ (.slice la i lc)).setCell ⟨w.heap.size + 1, 0, none⟩ (.slice na m nc)).setCell ⟨w.heap.size + 1, 1, none⟩ (.slice la i lc)).setCell ⟨w.heap.size + 1, 2, none⟩ (.int .i64 g.next)) := set_chg (set_chg (set_chg (Chg.refl _)))
      have hall : Chg (fun b => w.heap.size ≤ b) w4 ((((w4.setCell ⟨w.heap.size, 1, none⟩ (.slice la i lc)).setCell ⟨w.heap.size + 1, 0, none⟩ (.slice na m nc)).setCell ⟨w.heap.size + 1, 1, none⟩ (.slice la i lc)).setCell ⟨w.heap.size + 1, 2, none⟩ (.int .i64 g.next)) := (hs1.mono fun b _ (h : b = w.heap.size) => (by omega : w.heap.size ≤ b)).trans (hs2.mono fun b _ (h : b = w.heap.size + 1) => (by omega : w.heap.size ≤ b))
      have hE := (((HB.out.1.trans hx).mono (T := fun b => w.heap.size ≤ b) fun _ _ h => h.elim).trans hall).mono (T := fun _ => False) fun b hb (h : w.heap.size ≤ b) => by omega
      have hoF := own_low (own_low ho hs1 (by intro g' hg' e'; omega)) hs2 (by intro g' hg' e'; omega)
      have HF := Lib.hid (And.intro hE hoF)
      clear hs1 hs2 hall hE hoF kB kR kB2 kR1 k1 k2 k3 hx ho
      go_wp2_with fail
      try simp only [Exit.inBlock, Exit.then]
      refine bodyPost_ret (by simp [results, Tryz.results35, go_sem, q0, q1, q2]; try rfl) rfl ?_
      refine ⟨[.slice na m nc, .slice la i lc, .int .i64 g.next], rfl, ⟨na, nc, la, lc, ?_, HN.out.1.ext HF.out.1, ?_⟩, HF.out.1⟩
      · rw [HN.out.2.1, HN.out.2.2]
      · have := Cells.of_own HF.out.2
        rw [List.take_of_length_le (by rw [HN.out.2.2]; exact Nat.le_refl _)] at this
        unfold EsC
        rw [HN.out.2.2]
        exact this
end Go.Proofs.YtkhllknahjmciaaGreat

/-! Values (the document's own), field by field. -/
namespace Go.Proofs.YtkhllknahjmciaaGreat
open Go.RowKit
set_option linter.unusedVariables false
set_option linter.unusedSimpArgs false

set_option maxRecDepth 100000 in
set_option maxHeartbeats 1000000 in
theorem bits0 (w : World) : Calls Tryz.prog 107 #[.float .f64 0] w fun e w' => e = .returned (.int .u64 0) ∧ Ext w w' := by
  have hq := run_to 0
  go_enter Tryz.func107, Tryz.ntmps107
  go_wp2_with fail
  go_ret
  exact ⟨rfl, Chg.refl _⟩
set_option maxRecDepth 100000 in
set_option maxHeartbeats 1000000 in
theorem fSame0 (w : World) : Calls Tryz.prog 57 #[.float .f64 0, .float .f64 0] w fun e w' => e = .returned (.bool true) ∧ Ext w w' := by
  have HB := Lib.hid bits0
  go_enter Tryz.func57, Tryz.ntmps57
  go_wp2_with fail
  refine (HB.out _).mono ?_
  rintro e w2 ⟨rfl, hx⟩
  have HX := Lib.hid hx
  clear hx
  go_wp2_with fail
  refine (HB.out _).mono ?_
  rintro e w3 ⟨rfl, hx⟩
  go_wp2_with fail
  go_ret
  exact ⟨rfl, HX.out.trans hx⟩
set_option maxRecDepth 100000 in
set_option maxHeartbeats 1000000 in
theorem fields0 (s l : Int) (i : Bool) (a b : Option Addr) (c d : Nat) (w : World) :
    Calls Tryz.prog 16 #[.agg (V5 s i a c l).toArray, .agg (V5 s i b d l).toArray] w fun e w' => e = .returned (.bool true) ∧ Ext w w' := by
  have HS := Lib.hid fSame0
  unfold V5
  have hsf := run_store_f
  have hx1 := ((Chg.refl (S := fun _ => False) w).alloc (.cells #[.int .i64 s, .bool i, .slice a 0 c, .int .i64 l, .float .f64 0] 38)).alloc (.cells #[.int .i64 s, .bool i, .slice b 0 d, .int .i64 l, .float .f64 0] 38)
  have ha := (Blk.new w #[.int .i64 s, .bool i, .slice a 0 c, .int .i64 l, .float .f64 0] 38).chg ((Chg.refl (S := fun _ => False) _).alloc (.cells #[.int .i64 s, .bool i, .slice b 0 d, .int .i64 l, .float .f64 0] 38)) (fun h => h)
  have hb := Blk.new (w.alloc (.cells #[.int .i64 s, .bool i, .slice a 0 c, .int .i64 l, .float .f64 0] 38)) #[.int .i64 s, .bool i, .slice b 0 d, .int .i64 l, .float .f64 0] 38
  simp only [World.size_alloc] at hb
  have HX := Lib.hid (And.intro hx1 (And.intro ha hb))
  clear hx1 ha hb
  go_enter Tryz.func16, Tryz.ntmps16
  go_wp2_with fail
  refine (HS.out _).mono ?_
  rintro e w2 ⟨rfl, hx⟩
  obtain ⟨b0, -, b1, -, b2, -, b3, -, b4, -⟩ := blk5_base (HX.out.2.2.chg hx (fun h => h))
  obtain ⟨y0, -, y1, -, y2, -, y3, -, y4, -⟩ := blk5_base (HX.out.2.1.chg hx (fun h => h))
  have HY := Lib.hid (And.intro (HX.out.1.trans hx) (And.intro (HX.out.2.1.chg hx (fun h => h)) (HX.out.2.2.chg hx (fun h => h))))
  clear hx
  go_wp2_with fail
  go_loopg [5] 0 (fun g l5 wr => g = 0 ∧ l5 = .int .i64 0 ∧ wr = w2)
  case atStart => exact ⟨rfl, rfl, rfl⟩
  case round =>
    obtain ⟨rfl, rfl, rfl⟩ := hrel
    go_wp2_with fail
    go_ret
    exact ⟨rfl, HY.out.1⟩
end Go.Proofs.YtkhllknahjmciaaGreat

/-! Graphs (the document's own): an edge by its token. -/
namespace Go.Proofs.YtkhllknahjmciaaGreat
open Go.RowKit
set_option linter.unusedVariables false
set_option linter.unusedSimpArgs false

theorem any_drop {α : Type} {p : α → Bool} {l : List α} {i : Nat} {x : α} (hi : l[i]? = some x) (hp : p x = false) : (l.drop i).any p = (l.drop (i + 1)).any p := by
  obtain ⟨h, rfl⟩ := List.getElem?_eq_some_iff.1 hi
  rw [List.drop_eq_getElem_cons h, List.any_cons, hp, Bool.false_or]
set_option maxRecDepth 100000 in
set_option maxHeartbeats 1000000 in
theorem rEdge_any (g : Gr) (tok : Int) (w : World) (gcs : List Value) (hg : GrC w g gcs) (ht : (g.edges.any fun e => decide (e.tok = tok)) = true) :
    Calls Tryz.prog 29 #[.agg gcs.toArray, .int .i64 tok] w fun e w' => (∃ q : Eg, e = .returned (.tuple #[.agg #[.int .i64 q.tok, .int .i64 q.fr, .string q.lab, .int .i64 q.to], .bool true])) ∧ Ext w w' := by
  obtain ⟨na, nc, ea, ec, rfl, hns, hes⟩ := hg
  obtain ⟨m, hm⟩ : ∃ m, g.nodes.length = m := ⟨_, rfl⟩
  obtain ⟨n, hn⟩ : ∃ n, g.edges.length = n := ⟨_, rfl⟩
  have hl1 := hes.1
  have hl2 := hes.2.1
  unfold maxLen at hl2
  have HE := Lib.hid (And.intro hes (And.intro hn ht))
  rw [hm, hn]
  rw [hn] at hl1
  have hx1 := ((Chg.refl (S := fun _ => False) w).alloc (.cells #[.slice na m nc, .slice ea n ec, .int .i64 g.next] 25)).alloc (.cells #[.int .i64 0, .int .i64 0, .string ⟨#[]⟩, .int .i64 0] 72)
  obtain ⟨W1, hW1⟩ : ∃ W1, (w.alloc (.cells #[.slice na m nc, .slice ea n ec, .int .i64 g.next] 25)).alloc (.cells #[.int .i64 0, .int .i64 0, .string ⟨#[]⟩, .int .i64 0] 72) = W1 := ⟨_, rfl⟩
  have kB : Blk W1 w.heap.size #[.slice na m nc, .slice ea n ec, .int .i64 g.next] 25 := by rw [← hW1]; exact (Blk.new w _ _).chg ((Chg.refl (S := fun _ => False) _).alloc _) (fun h => h)
  have kR : Blk W1 (w.heap.size + 1) #[.int .i64 0, .int .i64 0, .string ⟨#[]⟩, .int .i64 0] 72 := by
    rw [← hW1]
    simpa using Blk.new (w.alloc (.cells #[.slice na m nc, .slice ea n ec, .int .i64 g.next] 25)) #[.int .i64 0, .int .i64 0, .string ⟨#[]⟩, .int .i64 0] 72
  rw [hW1] at hx1
  have HB := Lib.hid (And.intro hx1 (And.intro kB kR))
  have HW1 := Lib.hid hW1
  clear hx1 kB kR hW1 hns hes hm hn ht
  go_enter Tryz.func29, Tryz.ntmps29
  go_wp2_with fail
  rw [HW1.out]
  go_loopg [6] n (fun g' l6 wr => ∃ (i : Nat), i ≤ n ∧ wr = W1 ∧ ((g.edges.drop i).any fun e => decide (e.tok = tok)) = true ∧ l6 = .int .i64 i ∧ g' = n - i)
  case atStart => exact ⟨0, Nat.zero_le _, rfl, HE.out.2.2, rfl, rfl⟩
  case round =>
    obtain ⟨i, hi, rfl, hr, rfl, rfl⟩ := hrel
    obtain ⟨b0, -, b1, -, b2, -⟩ := blk3_base HB.out.2.1
    by_cases hin : i < n
    · have hin' : (i : Int) < n := by omega
      obtain ⟨e, he⟩ : ∃ e, g.edges[i]? = some e := ⟨_, List.getElem?_eq_getElem (by rw [HE.out.2.1]; exact hin)⟩
      obtain ⟨x, rfl, c0, c1, c2, c3⟩ := eg_at (Cells.ext HE.out.1 HB.out.1) he
      by_cases hq : e.tok = tok
      · have e1 : (e.tok == tok) = true := by simpa using hq
        obtain ⟨y0, f0, y1, f1, y2, f2, y3, f3⟩ := blk4_base HB.out.2.2
        obtain ⟨r4, s4, q0, q1, q2, q3⟩ := blk4_facts HB.out.2.2 (.int .i64 e.tok) (.int .i64 e.fr) (.string e.lab) (.int .i64 e.to)
        have hE := Lib.hid (Ext.put HB.out.1 (set_chg (p := w.heap.size + 1) (j := 3) (c := .int .i64 e.to) (set_chg (p := w.heap.size + 1) (j := 2) (c := .string e.lab) (set_chg (p := w.heap.size + 1) (j := 1) (c := .int .i64 e.fr) (set_chg (p := w.heap.size + 1) (j := 0) (c := .int .i64 e.tok) (Chg.refl _))))) (by omega))
        clear hq he hr
        go_wp2_with fail
        try simp only [Exit.inBlock, Exit.then]
        refine bodyPost_ret (by simp [results, Tryz.results29, go_sem, q0, q1, q2, q3]; try rfl) rfl ?_
        exact ⟨⟨e, rfl⟩, hE.out⟩
      · have e1 : (e.tok == tok) = false := by simpa using hq
        rw [any_drop he (by simpa using hq)] at hr
        have HR := Lib.hid hr
        clear hq he hr
        go_wp2_with fail
        go_roundg (n - (i + 1))
        case measure => omega
        case rel => exact ⟨i + 1, by omega, rfl, HR.out, rfl, rfl⟩
    · obtain rfl : i = n := by omega
      rw [List.drop_of_length_le (by rw [HE.out.2.1]; exact Nat.le_refl _)] at hr
      cases hr
end Go.Proofs.YtkhllknahjmciaaGreat

/-! Graphs (the document's own): the same one is the same. -/
namespace Go.Proofs.YtkhllknahjmciaaGreat
open Go.RowKit
set_option linter.unusedVariables false
set_option linter.unusedSimpArgs false

set_option maxRecDepth 100000 in
set_option maxHeartbeats 1000000 in
theorem rTexts_any (ss : List ByteArray) (w : World) (a b : Option Addr) (c d : Nat) (ha : Cells w a ss.length c (strCells ss)) (hb : Cells w b ss.length d (strCells ss)) :
    Calls Tryz.prog 75 #[.slice a ss.length c, .slice b ss.length d] w fun e w' => e = .returned (.bool true) ∧ Ext w w' := by
  have hl1 := ha.1
  have hl2 := ha.2.1
  have hl3 := hb.1
  have hl4 := hb.2.1
  unfold maxLen at hl2 hl4
  obtain ⟨n, hn⟩ : ∃ n, ss.length = n := ⟨_, rfl⟩
  rw [hn] at ha hb hl1 hl3 ⊢
  have HA := Lib.hid (And.intro ha (And.intro hb hn))
  clear ha hb hn
  go_enter Tryz.func75, Tryz.ntmps75
  go_wp2_with fail
  go_loopg [5] n (fun g l5 wr => ∃ i : Nat, i ≤ n ∧ Ext w wr ∧ l5 = .int .i64 i ∧ g = n - i)
  case atStart => exact ⟨0, Nat.zero_le _, Chg.refl _, rfl, rfl⟩
  case round =>
    obtain ⟨i, hi, hx, rfl, rfl⟩ := hrel
    have HX := Lib.hid hx
    by_cases hin : i < n
    · have hin' : (i : Int) < n := by omega
      obtain ⟨s, hs⟩ : ∃ s, ss[i]? = some s := ⟨_, List.getElem?_eq_getElem (by rw [HA.out.2.2]; exact hin)⟩
      obtain ⟨x, rfl, c0⟩ := str_at (HA.out.1.ext hx) hs
      obtain ⟨y, rfl, d0⟩ := str_at (HA.out.2.1.ext hx) hs
      clear hx hs
      go_wp2_with fail
      go_quiet (fail)
      go_wp2_with fail
      go_roundg (n - (i + 1))
      case measure => omega
      case rel => exact ⟨i + 1, by omega, HX.out.drewN _, rfl, rfl⟩
    · obtain rfl : i = n := by omega
      clear hx
      go_wp2_with fail
      go_ret
      exact ⟨rfl, HX.out⟩
end Go.Proofs.YtkhllknahjmciaaGreat
