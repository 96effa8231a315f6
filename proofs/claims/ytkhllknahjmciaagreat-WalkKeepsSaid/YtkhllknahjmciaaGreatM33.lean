/-
  Graphs (the document's own): one edge more; a row of two nodes. The row of two nodes that the laws begin with. Values (the document's own): two costs of nothing are alike. What the document fixes: the laws' beginning, as plain facts. What the document fixes: the laws' beginning, walked. WalkNone as a plain law.
-/
import Derived.Test.YtkhllknahjmciaaGreatM32
/-! Graphs (the document's own): one edge more; a row of two nodes. -/
namespace Go.Proofs.YtkhllknahjmciaaGreat
open Go.RowKit
set_option linter.unusedVariables false
set_option linter.unusedSimpArgs false

theorem egCells_snoc (e : Eg) : ∀ es : List Eg, egCells (es ++ [e]) = egCells es ++ e.cells
  | [] => by simp [egCells]
  | t :: es => by rw [List.cons_append, egCells, egCells, egCells_snoc e es, List.append_assoc]
set_option maxRecDepth 100000 in
set_option maxHeartbeats 1000000 in
theorem gAdd0 (w : World) (p : Nat) (ns : List Nd) (na : Option Addr) (nc : Nat) (d fr tn : Int) (lab : ByteArray) (hl : nameOk lab = true) (hd : 0 ≤ d ∧ d ≤ 1000000) (hb : Blk w p #[.slice na ns.length nc, .slice none 0 0, .int .i64 d] 135) (hn : ∀ w2, Chg (fun b => b = p) w w2 → NsC w2 ns na nc) (h1 : 0 ≤ placeN ns fr 0) (h2 : 0 ≤ placeN ns tn 0) :
    Calls Tryz.prog 66 #[.pointer (some ⟨p, 0, none⟩), .int .i64 fr, .string lab, .int .i64 tn] w fun e w' => ∃ ea ec, e = .returned (.tuple #[.int .i64 d, .int .i64 0]) ∧ Blk w' p #[.slice na ns.length nc, .slice ea 1 ec, .int .i64 (d + 1)] 135 ∧ (∀ (S : Nat → Prop) w2, (∀ b, S b → b < w.heap.size) → S p → Chg S w' w2 → EsC w2 [⟨d, fr, lab, tn⟩] ea ec) ∧ Chg (fun b => b = p) w w' := by
  have HB := Lib.hid (And.intro hb hn)
  have HNm := Lib.hid (fun W => gname_any lab W)
  rw [hl] at HNm
  have HP1 := Lib.hid (fun W (hW : Ext w W) => rplace_any ns fr W na nc (.slice none 0 0) (.int .i64 d) (hn W (hW.mono fun _ _ h => h.elim)))
  have HP2 := Lib.hid (fun W (hW : Ext w W) => rplace_any ns tn W na nc (.slice none 0 0) (.int .i64 d) (hn W (hW.mono fun _ _ h => h.elim)))
  obtain ⟨m, hm⟩ : ∃ m, ns.length = m := ⟨_, rfl⟩
  rw [hm] at HP1 HP2 ⊢
  obtain ⟨r1, hr1⟩ : ∃ r, placeN ns fr 0 = r := ⟨_, rfl⟩
  obtain ⟨r2, hr2⟩ : ∃ r, placeN ns tn 0 = r := ⟨_, rfl⟩
  rw [hr1] at HP1 h1
  rw [hr2] at HP2 h2
  have e1 : decide (r1 < 0) = false := decide_eq_false (by omega)
  have e2 : decide (r2 < 0) = false := decide_eq_false (by omega)
  have hd1 := hd.1
  have hd2 := hd.2
  have hlp := hb.lt
  have hb' := hb
  rw [hm] at hb'
  have HB2 := Lib.hid hb'
  clear hb hn hb' hl hd hm hr1 hr2
  go_enter Tryz.func66, Tryz.ntmps66
  go_wp2_with fail
  refine (HNm.out _).mono ?_
  rintro e w9 ⟨rfl, h9⟩
  subst w9
  obtain ⟨b0, -, b1, -, b2, -⟩ := blk3_base HB2.out
  have HP := Lib.hid (HP1.out w (Chg.refl w))
  go_wp2_with fail
  refine HP.out.mono ?_
  rintro e w3 ⟨rfl, hx3⟩
  clear b0 b1 b2
  obtain ⟨b0, -, b1, -, b2, -⟩ := blk3_base (HB2.out.chg hx3 (fun h => h))
  have HPq := Lib.hid (HP2.out w3 hx3)
  have HX3 := Lib.hid hx3
  clear hx3
  go_wp2_with fail
  refine HPq.out.mono ?_
  rintro e w4 ⟨rfl, hx4⟩
  clear b0 b1 b2
  have hx14 := HX3.out.trans hx4
  obtain ⟨b0, -, b1, -, b2, -⟩ := blk3_base (HB2.out.chg hx14 (fun h => h))
  have hx5 := hx14.alloc (.cells #[] 72)
  obtain ⟨d0, -, d1, -, d2, -⟩ := blk3_base (HB2.out.chg hx5 (fun h => h))
  have hsz := hx14.size
  have HX := Lib.hid (And.intro hx14 hx5)
  obtain ⟨i0, hi0, hii⟩ := Option.map_eq_some_iff.1 info_eg
  obtain ⟨hz0, hz1, hz2⟩ : i0.zero = some (.agg #[.int .i64 0, .int .i64 0, .string ⟨#[]⟩, .int .i64 0]) ∧ i0.size = 4 ∧ i0.bytes = 40 := by
    have := hii; simp at this; exact this
  have HI := Lib.hid (And.intro hi0 (And.intro hz0 (And.intro hz1 hz2)))
  have e5 : decide (1099511627776 < d) = false := decide_eq_false (by omega)
  clear hx4 hx14 hx5 hi0 hii hz0 hz1 hz2
  go_wp2_with (at_builtin; refine wpList_append_st _ rfl (.tmp 57) (.tmp 63) 23 rfl w4.heap.size 72 i0 (.agg #[.int .i64 0, .int .i64 0, .string ⟨#[]⟩, .int .i64 0]) 4 40 Tryz.underlying23 HI.out.1 HI.out.2.1 HI.out.2.2.1 HI.out.2.2.2 rfl (by decide) (.slice (some ⟨w4.heap.size, 0, none⟩) 0 0) 0 [] rfl ((World.ownsRow_made w4 #[] 0 (Nat.le_refl _) (Nat.zero_le _) rfl).alloc _) ⟨w4.heap.size + 1, 0, none⟩ 1 1 [.int .i64 d, .int .i64 fr, .string lab, .int .i64 tn] rfl rfl (by exact fun j u hj => by have := news (w4.alloc (.cells #[] 72)) [.int .i64 d, .int .i64 fr, .string lab, .int .i64 tn] 72 j u hj; simpa using this) (by simp [Value.oneCell']) (by unfold maxLen; omega) (by omega) (by simp; omega) ?_; intro v' w' u1 u2 u3; obtain ⟨a', cap', rfl⟩ := own_slice u1; have hg := grow_chg (wr := w4.alloc (.cells #[] 72)) u2; have kp := (HB2.out.chg HX.out.2 (fun h => h)).chg hg (fun h => by have := ob_eq h; omega); have HF := Lib.hid (And.intro u1 (And.intro hg kp)); obtain ⟨g0, f0, g1, f1, g2, f2⟩ := blk3_base kp; have k2 := (kp.set 1 (.slice a' 1 cap')).cell 2 _ rfl; have z2 := (kp.set 1 (.slice a' 1 cap')).frozen 2; clear u1 u2 u3 hg kp)
  go_returns
  have hA : Chg (fun b => w.heap.size ≤ b ∨ b = p) w w' := (((HX.out.1.mono fun _ _ h => h.elim).alloc _).trans (HF.out.2.1.mono fun b _ h => .inl (by have := ob_eq h; omega)))
  refine ⟨a', cap', rfl, (HF.out.2.2.set 1 _).set 2 _, fun S w5 hS hp h5 => ?_, (((hA.setCell ⟨p, 1, none⟩ _ (fun _ => .inr rfl)).setCell ⟨p, 2, none⟩ _ (fun _ => .inr rfl)).mono fun b hb h => h.elim (fun h => by omega) (fun h => h))⟩
  exact Cells.of_own (own_low (S := S) HF.out.1 (((set_chg (p := p) (j := 2) (set_chg (p := p) (j := 1) (Chg.refl (S := fun b => b = p) w'))).mono (fun b _ e => by rw [e]; exact hp)).trans h5) (by intro g hg e; have := hS g e; omega))
set_option maxRecDepth 100000 in
set_option maxHeartbeats 1000000 in
theorem gAdd1 (w : World) (p : Nat) (ns : List Nd) (na : Option Addr) (nc : Nat) (d fr tn : Int) (lab : ByteArray) (hl : nameOk lab = true) (es : List Eg) (x : Addr) (ec : Nat) (he60 : es.length < 60) (hd : 0 ≤ d ∧ d ≤ 1000000) (hb : Blk w p #[.slice na ns.length nc, .slice (some x) es.length ec, .int .i64 d] 135) (hes : EsC w es (some x) ec) (hn : ∀ w2, Chg (fun b => b = p) w w2 → NsC w2 ns na nc) (h1 : 0 ≤ placeN ns fr 0) (h2 : 0 ≤ placeN ns tn 0) :
    Calls Tryz.prog 66 #[.pointer (some ⟨p, 0, none⟩), .int .i64 fr, .string lab, .int .i64 tn] w fun e w' => ∃ ea ec, e = .returned (.tuple #[.int .i64 d, .int .i64 0]) ∧ Blk w' p #[.slice na ns.length nc, .slice ea (es.length + 1) ec, .int .i64 (d + 1)] 135 ∧ (∀ (S : Nat → Prop) w2, (∀ b, S b → b < w.heap.size) → S p → Chg S w' w2 → EsC w2 (es ++ [⟨d, fr, lab, tn⟩]) ea ec) ∧ Chg (fun b => b = p) w w' := by
  have HE := Lib.hid hes
  have hec := hes.1
  have hem := hes.2.1
  unfold maxLen at hem
  clear hes
  have HB := Lib.hid (And.intro hb hn)
  have HNm := Lib.hid (fun W => gname_any lab W)
  rw [hl] at HNm
  have HP1 := Lib.hid (fun W (hW : Ext w W) => rplace_any ns fr W na nc (.slice (some x) es.length ec) (.int .i64 d) (hn W (hW.mono fun _ _ h => h.elim)))
  have HP2 := Lib.hid (fun W (hW : Ext w W) => rplace_any ns tn W na nc (.slice (some x) es.length ec) (.int .i64 d) (hn W (hW.mono fun _ _ h => h.elim)))
  obtain ⟨m, hm⟩ : ∃ m, ns.length = m := ⟨_, rfl⟩
  rw [hm] at HP1 HP2 ⊢
  obtain ⟨n, hn'⟩ : ∃ n, es.length = n := ⟨_, rfl⟩
  rw [hn'] at HP1 HP2 he60 hec
  have HN := Lib.hid hn'
  obtain ⟨r1, hr1⟩ : ∃ r, placeN ns fr 0 = r := ⟨_, rfl⟩
  obtain ⟨r2, hr2⟩ : ∃ r, placeN ns tn 0 = r := ⟨_, rfl⟩
  rw [hr1] at HP1 h1
  rw [hr2] at HP2 h2
  have e1 : decide (r1 < 0) = false := decide_eq_false (by omega)
  have e2 : decide (r2 < 0) = false := decide_eq_false (by omega)
  have hd1 := hd.1
  have hd2 := hd.2
  have hlp := hb.lt
  have hb' := hb
  rw [hm, hn'] at hb'
  have HB2 := Lib.hid hb'
  rw [hn']
  clear hb hn hb' hl hd hm hr1 hr2 hn'
  go_enter Tryz.func66, Tryz.ntmps66
  go_wp2_with fail
  refine (HNm.out _).mono ?_
  rintro e w9 ⟨rfl, h9⟩
  subst w9
  obtain ⟨b0, -, b1, -, b2, -⟩ := blk3_base HB2.out
  have HP := Lib.hid (HP1.out w (Chg.refl w))
  go_wp2_with fail
  refine HP.out.mono ?_
  rintro e w3 ⟨rfl, hx3⟩
  clear b0 b1 b2
  obtain ⟨b0, -, b1, -, b2, -⟩ := blk3_base (HB2.out.chg hx3 (fun h => h))
  have HPq := Lib.hid (HP2.out w3 hx3)
  have HX3 := Lib.hid hx3
  clear hx3
  go_wp2_with fail
  refine HPq.out.mono ?_
  rintro e w4 ⟨rfl, hx4⟩
  clear b0 b1 b2
  have hx14 := HX3.out.trans hx4
  obtain ⟨b0, -, b1, -, b2, -⟩ := blk3_base (HB2.out.chg hx14 (fun h => h))
  have hx5 := hx14.alloc (.cells #[] 72)
  obtain ⟨d0, -, d1, -, d2, -⟩ := blk3_base (HB2.out.chg hx5 (fun h => h))
  have hsz := hx14.size
  have HX := Lib.hid (And.intro hx14 hx5)
  obtain ⟨i0, hi0, hii⟩ := Option.map_eq_some_iff.1 info_eg
  obtain ⟨hz0, hz1, hz2⟩ : i0.zero = some (.agg #[.int .i64 0, .int .i64 0, .string ⟨#[]⟩, .int .i64 0]) ∧ i0.size = 4 ∧ i0.bytes = 40 := by
    have := hii; simp at this; exact this
  have HI := Lib.hid (And.intro hi0 (And.intro hz0 (And.intro hz1 hz2)))
  have e6 : decide (60 ≤ (n : Int)) = false := decide_eq_false (by omega)
  have e5 : decide (1099511627776 < d) = false := decide_eq_false (by omega)
  clear hx4 hx14 hx5 hi0 hii hz0 hz1 hz2
  go_wp2_with (first | (at_builtin; refine wpList_append_st _ rfl (.tmp 51) (.tmp 56) 23 rfl w4.heap.size 72 i0 (.agg #[.int .i64 0, .int .i64 0, .string ⟨#[]⟩, .int .i64 0]) 4 40 Tryz.underlying23 HI.out.1 HI.out.2.1 HI.out.2.2.1 HI.out.2.2.2 rfl (by decide) (.slice (some ⟨w4.heap.size, 0, none⟩) 0 0) 0 [] rfl (World.ownsRow_made w4 #[] 0 (Nat.le_refl _) (Nat.zero_le _) rfl) x n ec (egCells es) rfl (by rw [egCells_len, HN.out]) (fun j u hj => by obtain ⟨y, e, hy⟩ := (Cells.ext HE.out HX.out.2).at j u hj; cases e; exact hy) (one_eg _) (by unfold maxLen; omega) (by omega) (by simp) ?_; intro v3 w6 u1 u2 u3; have HG := Lib.hid (And.intro u1 (Chg.of_grown u2)); have kq := (HB2.out.chg HX.out.2 (fun h => h)).chg (Chg.of_grown u2) (fun h => by have := ob_eq h.symm; omega); have hs6 := (Chg.of_grown u2).size; have HKq := Lib.hid kq; clear u1 u2 u3 kq) | (at_builtin; refine wpList_append_st _ rfl (.tmp 57) (.tmp 63) 23 rfl w4.heap.size 72 i0 (.agg #[.int .i64 0, .int .i64 0, .string ⟨#[]⟩, .int .i64 0]) 4 40 Tryz.underlying23 HI.out.1 HI.out.2.1 HI.out.2.2.1 HI.out.2.2.2 rfl (by decide) v3 (0 + n) _ rfl (HG.out.1.alloc _) ⟨w6.heap.size, 0, none⟩ 1 1 [.int .i64 d, .int .i64 fr, .string lab, .int .i64 tn] rfl rfl (by exact fun j u hj => news w6 _ _ j u hj) (by simp [Value.oneCell']) (by unfold maxLen; omega) (by omega) (by simp at *; omega) ?_; intro v' w' u1 u2 u3; obtain ⟨a', cap', rfl⟩ := own_slice u1; have hg := grow_chg (wr := w6) u2; have kp := HKq.out.chg hg (fun h => by have := (own_block_lt HG.out.1 _ h).1; omega); have HF := Lib.hid (And.intro u1 (And.intro hg kp)); obtain ⟨g0, f0, g1, f1, g2, f2⟩ := blk3_base kp; have k2 := (kp.set 1 (.slice a' (0 + n + 1) cap')).cell 2 _ rfl; have z2 := (kp.set 1 (.slice a' (0 + n + 1) cap')).frozen 2; clear u1 u2 u3 hg kp))
  go_returns
  have hA : Chg (fun b => w.heap.size ≤ b ∨ b = p) w w' := (((HX.out.2.mono fun _ _ h => h.elim).trans (HG.out.2.mono fun b _ h => .inl (by have := ob_eq h.symm; omega))).trans (HF.out.2.1.mono fun b _ h => .inl (by have := (own_block_lt HG.out.1 b h).1; omega)))
  have hc5 := fun (S : Nat → Prop) w5 (hS : ∀ b, S b → b < w.heap.size) (hp : S p) (h5 : Chg S ((w'.setCell ⟨p, 1, none⟩ (.slice a' (0 + n + 1) cap')).setCell ⟨p, 2, none⟩ (.int .i64 (d + 1))) w5) => Cells.of_own (own_low (S := S) HF.out.1 (((set_chg (p := p) (j := 2) (set_chg (p := p) (j := 1) (Chg.refl (S := fun b => b = p) w'))).mono (fun b _ e => by rw [e]; exact hp)).trans h5) (by intro g hg e; have := hS g e; omega))
  have kz := ((HF.out.2.2.set 1 (.slice a' (0 + n + 1) cap')).set 2 (.int .i64 (d + 1)))
  have hz := (((hA.setCell ⟨p, 1, none⟩ (.slice a' (0 + n + 1) cap') (fun _ => .inr rfl)).setCell ⟨p, 2, none⟩ (.int .i64 (d + 1)) (fun _ => .inr rfl)).mono fun b hb h => h.elim (fun h => by omega) (fun h => h))
  simp only [Nat.zero_add] at hc5 kz hz
  refine ⟨a', cap', rfl, kz, fun S w5 hS hp h5 => ?_, hz⟩
  have := hc5 S w5 hS hp h5
  unfold EsC
  rw [List.length_append, HN.out, egCells_snoc]
  exact this
end Go.Proofs.YtkhllknahjmciaaGreat

/-! The row of two nodes that the laws begin with. -/
namespace Go.Proofs.YtkhllknahjmciaaGreat
open Go.RowKit
set_option linter.unusedVariables false
set_option linter.unusedSimpArgs false

abbrev la : ByteArray := ⟨#[97]⟩
def chainG (b : Bool) : Gr := ⟨[⟨1, [], []⟩, ⟨2, [], []⟩], if b then [⟨1, 1, la, 2⟩, ⟨2, 2, la, 1⟩] else [⟨1, 1, la, 2⟩], if b then 3 else 2⟩
def ChainPost (b : Bool) (w : World) (e : Ending) (w' : World) : Prop := ∃ cs, e = .returned (.agg cs.toArray) ∧ GrC w' (chainG b) cs ∧ Ext w w'
set_option maxRecDepth 100000 in
set_option maxHeartbeats 1000000 in
theorem chain2 (b : Bool) (w : World) : Calls Tryz.prog 22 #[.int .i64 2, .bool b] w (ChainPost b w) := by
  have HNew := Lib.hid gNew0
  have hR := Blk.new w #[.slice none 0 0, .slice none 0 0, .int .i64 0] 25
  have hx1 : Ext w (w.alloc (.cells #[.slice none 0 0, .slice none 0 0, .int .i64 0] 25)) := (Chg.refl w).alloc _
  obtain ⟨W2, hW2⟩ : ∃ W2, (w.alloc (.cells #[.slice none 0 0, .slice none 0 0, .int .i64 0] 25)).alloc (.cells #[.slice none 0 0, .slice none 0 0, .int .i64 1] 135) = W2 := ⟨_, rfl⟩
  have hx2 : Ext w W2 := by rw [← hW2]; exact hx1.alloc _
  have hR2 : Blk W2 w.heap.size #[.slice none 0 0, .slice none 0 0, .int .i64 0] 25 := by rw [← hW2]; exact hR.chg ((Chg.refl (S := fun _ => False) _).alloc _) (fun h => h)
  have hG2 : Blk W2 (w.heap.size + 1) #[.slice none 0 0, .slice none 0 0, .int .i64 1] 135 := by
    rw [← hW2]
    simpa using Blk.new (w.alloc (.cells #[.slice none 0 0, .slice none 0 0, .int .i64 0] 25)) #[.slice none 0 0, .slice none 0 0, .int .i64 1] 135
  have HB := Lib.hid (And.intro hx2 (And.intro hR2 hG2))
  have HW := Lib.hid hW2
  have hsz := hG2.lt
  clear hR hx1 hx2 hR2 hG2 hW2
  go_enter Tryz.func22, Tryz.ntmps22
  go_wp2_with fail
  refine (HNew.out _).mono ?_
  rintro e w9 ⟨rfl, h9⟩
  rw [HW.out] at h9
  subst w9
  simp only [World.size_alloc]
  go_wp2_with fail
  go_loopg [6] 2 (fun g l6 wr => Chg (fun b => b = w.heap.size + 1) W2 wr ∧ ((g = 2 ∧ l6 = .int .i64 1 ∧ wr = W2) ∨ (g = 1 ∧ l6 = .int .i64 2 ∧ ∃ na nc, Blk wr (w.heap.size + 1) #[.slice na 1 nc, .slice none 0 0, .int .i64 1] 135 ∧ ∀ w2, Chg (fun b => b = w.heap.size ∨ b = w.heap.size + 1) wr w2 → NsC w2 [⟨1, [], []⟩] na nc) ∨ (g = 0 ∧ l6 = .int .i64 3 ∧ ∃ na nc, Blk wr (w.heap.size + 1) #[.slice na 2 nc, .slice none 0 0, .int .i64 1] 135 ∧ ∀ w2, Chg (fun b => b = w.heap.size ∨ b = w.heap.size + 1) wr w2 → NsC w2 [⟨1, [], []⟩, ⟨2, [], []⟩] na nc)))
  case atStart => exact ⟨Chg.refl _, .inl ⟨rfl, rfl, rfl⟩⟩
  case round =>
    obtain ⟨w1, rfl⟩ : ∃ x, x = wr := ⟨_, rfl⟩
    obtain ⟨hx, hrel⟩ := hrel
    have hz1 := hx.size
    obtain ⟨rfl, rfl, rfl⟩ | ⟨rfl, rfl, na, nc, hb, hn⟩ | ⟨rfl, rfl, na, nc, hb, hn⟩ := hrel
    · have HA := Lib.hid (gAddNode0 w1 (w.heap.size + 1) (.slice none 0 0) 1 1 (by omega) HB.out.2.2)
      clear hx
      go_wp2_with fail
      refine HA.out.mono ?_
      rintro e w3 ⟨na, nc, rfl, hb, hn, hx3⟩
      have HZ := Lib.hid (And.intro hb (And.intro (fun w2 (h2 : Chg (fun b => b = w.heap.size ∨ b = w.heap.size + 1) w3 w2) => hn (fun b => b = w.heap.size ∨ b = w.heap.size + 1) w2 (fun b h => Or.elim h (fun h => by omega) (fun h => by omega)) (.inr rfl) h2) hx3))
      clear hb hn hx3
      go_wp2_with fail
      go_roundg 1
      case measure => omega
      case rel => exact ⟨HZ.out.2.2, .inr (.inl ⟨rfl, rfl, na, nc, HZ.out.1, HZ.out.2.1⟩)⟩
    · have HA := Lib.hid (gAddNode1 w1 (w.heap.size + 1) (.slice none 0 0) 1 2 1 na nc (by omega) (by omega) hb (hn _ (Chg.refl _)))
      have HX := Lib.hid hx
      clear hb hn hx
      go_wp2_with fail
      refine HA.out.mono ?_
      rintro e w3 ⟨na, nc, rfl, hb, hn, hx3⟩
      have HZ := Lib.hid (And.intro hb (And.intro (fun w2 (h2 : Chg (fun b => b = w.heap.size ∨ b = w.heap.size + 1) w3 w2) => hn (fun b => b = w.heap.size ∨ b = w.heap.size + 1) w2 (fun b h => Or.elim h (fun h => by omega) (fun h => by omega)) (.inr rfl) h2) hx3))
      clear hb hn hx3
      go_wp2_with fail
      go_roundg 0
      case measure => omega
      case rel => exact ⟨HX.out.trans HZ.out.2.2, .inr (.inr ⟨rfl, rfl, na, nc, HZ.out.1, HZ.out.2.1⟩)⟩
    · have HA := Lib.hid (gAdd0 w1 (w.heap.size + 1) [⟨1, [], []⟩, ⟨2, [], []⟩] na nc 1 1 2 la (by decide) (by omega) hb (fun w2 h2 => hn w2 (h2.mono fun _ _ h => .inr h)) (by decide) (by decide))
      have HX := Lib.hid (And.intro hx hn)
      clear hb hn hx
      go_wp2_with fail
      go_loopg [7] 1 (fun g l7 wr => (g = 1 ∧ l7 = .int .i64 1 ∧ wr = w1) ∨ (g = 0 ∧ l7 = .int .i64 2 ∧ Chg (fun b => b = w.heap.size + 1) w1 wr ∧ ∃ ea ec, Blk wr (w.heap.size + 1) #[.slice na 2 nc, .slice ea 1 ec, .int .i64 2] 135 ∧ ∀ w2, Chg (fun b => b = w.heap.size ∨ b = w.heap.size + 1) wr w2 → EsC w2 [⟨1, 1, la, 2⟩] ea ec))
      case atStart => exact .inl ⟨rfl, rfl, rfl⟩
      case round =>
        obtain ⟨w5, rfl⟩ : ∃ x, x = wr := ⟨_, rfl⟩
        obtain ⟨rfl, rfl, rfl⟩ | ⟨rfl, rfl, hx5, ea1, ec1, hb, he⟩ := hrel
        · go_wp2_with fail
          refine HA.out.mono ?_
          rintro e w3 ⟨ea, ec, rfl, hb, he, hx3⟩
          have HZ := Lib.hid (And.intro hb (And.intro (fun w2 (h2 : Chg (fun b => b = w.heap.size ∨ b = w.heap.size + 1) w3 w2) => he (fun b => b = w.heap.size ∨ b = w.heap.size + 1) w2 (fun b h => Or.elim h (fun h => by omega) (fun h => by omega)) (.inr rfl) h2) hx3))
          clear hb he hx3
          go_wp2_with fail
          go_roundg 0
          case measure => omega
          case rel => exact .inr ⟨rfl, rfl, HZ.out.2.2, ea, ec, HZ.out.1, HZ.out.2.1⟩
        · cases b with
          | false =>
            have HC := Lib.hid (HX.out.2 _ (hx5.mono fun _ _ h => .inr h))
            have hxx := ((HX.out.1.trans hx5))
            have hns := (fun W (hW : Chg (fun b => b = w.heap.size ∨ b = w.heap.size + 1) w5 W) => HX.out.2 W ((hx5.mono fun _ _ h => .inr h).trans hW))
            have hee := he
            have kR := HB.out.2.1.chg hxx (by omega)
            obtain ⟨b0, -, b1, -, b2, -⟩ := blk3_base hb
            obtain ⟨r0, s0, -⟩ := blk3_base kR
            have k1 := kR.set 0 (.slice na 2 nc)
            have r1 := k1.cell 1 _ rfl
            have s1 := k1.frozen 1
            have k2 := k1.set 1 (.slice ea1 1 ec1)
            have r2 := k2.cell 2 _ rfl
            have s2 := k2.frozen 2
            have k3 := k2.set 2 (.int .i64 2)
            have q0 := k3.cell 0 _ rfl
            have q1 := k3.cell 1 _ rfl
            have q2 := k3.cell 2 _ rfl
            have hset : Chg (fun b => b = w.heap.size) w5 (((w5.setCell ⟨w.heap.size, 0, none⟩ (.slice na 2 nc)).setCell ⟨w.heap.size, 1, none⟩ (.slice ea1 1 ec1)).setCell ⟨w.heap.size, 2, none⟩ (.int .i64 2)) := set_chg (set_chg (set_chg (Chg.refl _)))
            have HT := Lib.hid (And.intro hxx (And.intro hns (And.intro hee hset)))
            clear hb hxx hns hee kR k1 k2 k3 hset
            go_wp2_with fail
            try simp only [Exit.inBlock, Exit.then]
            refine bodyPost_ret (by simp [results, Tryz.results22, go_sem, q0, q1, q2]; try rfl) rfl ?_
            refine ⟨[.slice na 2 nc, .slice ea1 1 ec1, .int .i64 2], rfl, ⟨na, nc, ea1, ec1, rfl, HT.out.2.1 _ (HT.out.2.2.2.mono fun _ _ h => .inl h), HT.out.2.2.1 _ (HT.out.2.2.2.mono fun _ _ h => .inl h)⟩, ?_⟩
            exact (((HB.out.1.mono (T := fun b => w.heap.size ≤ b) fun _ _ h => h.elim).trans (HT.out.1.mono fun b _ (h : b = w.heap.size + 1) => (by omega : w.heap.size ≤ b))).trans (HT.out.2.2.2.mono fun b _ (h : b = w.heap.size) => (by omega : w.heap.size ≤ b))).mono fun b hb (h : w.heap.size ≤ b) => by omega
          | true =>
            obtain ⟨x, rfl, -⟩ := eg_at (he _ (Chg.refl _)) (i := 0) rfl
            have hz5 := hx5.size
            have HA2 := Lib.hid (gAdd1 w5 (w.heap.size + 1) [⟨1, [], []⟩, ⟨2, [], []⟩] na nc 2 2 1 la (by decide) [⟨1, 1, la, 2⟩] x ec1 (by decide) (by omega) hb (he _ (Chg.refl _)) (fun w2 h2 => HX.out.2 w2 ((hx5.mono fun _ _ h => .inr h).trans (h2.mono fun _ _ h => .inr h))) (by decide) (by decide))
            have HX5 := Lib.hid hx5
            clear hb he hx5
            go_wp2_with fail
            refine HA2.out.mono ?_
            rintro e w6 ⟨ea2, ec2, rfl, hb, he, hx6⟩
            have hxx := ((HX.out.1.trans HX5.out).trans hx6)
            have hns := (fun W (hW : Chg (fun b => b = w.heap.size ∨ b = w.heap.size + 1) w6 W) => HX.out.2 W (((HX5.out.trans hx6).mono fun _ _ h => .inr h).trans hW))
            have hee := (fun w2 (h2 : Chg (fun b => b = w.heap.size ∨ b = w.heap.size + 1) w6 w2) => he (fun b => b = w.heap.size ∨ b = w.heap.size + 1) w2 (fun b h => Or.elim h (fun h => by omega) (fun h => by omega)) (.inr rfl) h2)
            have kR := HB.out.2.1.chg hxx (by omega)
            obtain ⟨b0, -, b1, -, b2, -⟩ := blk3_base hb
            obtain ⟨r0, s0, -⟩ := blk3_base kR
            have k1 := kR.set 0 (.slice na 2 nc)
            have r1 := k1.cell 1 _ rfl
            have s1 := k1.frozen 1
            have k2 := k1.set 1 (.slice ea2 2 ec2)
            have r2 := k2.cell 2 _ rfl
            have s2 := k2.frozen 2
            have k3 := k2.set 2 (.int .i64 3)
            have q0 := k3.cell 0 _ rfl
            have q1 := k3.cell 1 _ rfl
            have q2 := k3.cell 2 _ rfl
            have hset : Chg (fun b => b = w.heap.size) w6 (((w6.setCell ⟨w.heap.size, 0, none⟩ (.slice na 2 nc)).setCell ⟨w.heap.size, 1, none⟩ (.slice ea2 2 ec2)).setCell ⟨w.heap.size, 2, none⟩ (.int .i64 3)) := set_chg (set_chg (set_chg (Chg.refl _)))
            have HT := Lib.hid (And.intro hxx (And.intro hns (And.intro hee hset)))
            clear hb hxx hns hee kR k1 k2 k3 hset
            go_wp2_with fail
            try simp only [Exit.inBlock, Exit.then]
            refine bodyPost_ret (by simp [results, Tryz.results22, go_sem, q0, q1, q2]; try rfl) rfl ?_
            refine ⟨[.slice na 2 nc, .slice ea2 2 ec2, .int .i64 3], rfl, ⟨na, nc, ea2, ec2, rfl, HT.out.2.1 _ (HT.out.2.2.2.mono fun _ _ h => .inl h), HT.out.2.2.1 _ (HT.out.2.2.2.mono fun _ _ h => .inl h)⟩, ?_⟩
            exact (((HB.out.1.mono (T := fun b => w.heap.size ≤ b) fun _ _ h => h.elim).trans (HT.out.1.mono fun b _ (h : b = w.heap.size + 1) => (by omega : w.heap.size ≤ b))).trans (HT.out.2.2.2.mono fun b _ (h : b = w.heap.size) => (by omega : w.heap.size ≤ b))).mono fun b hb (h : w.heap.size ≤ b) => by omega
end Go.Proofs.YtkhllknahjmciaaGreat

/-! Values (the document's own): two costs of nothing are alike. -/
namespace Go.Proofs.YtkhllknahjmciaaGreat
open Go.RowKit
set_option linter.unusedVariables false
set_option linter.unusedSimpArgs false

set_option maxRecDepth 100000 in
set_option maxHeartbeats 1000000 in
theorem nMay0 (a : Option Addr) (c : Nat) (w : World) :
    Calls Tryz.prog 113 #[.agg #[.bool false, .slice a 0 c]] w fun e w' => e = .returned (.bool true) ∧ Ext w w' := by
  have HX := Lib.hid ((Chg.refl (S := fun _ => False) w).alloc (.cells #[.bool false, .slice a 0 c] 35))
  go_enter Tryz.func113, Tryz.ntmps113
  go_wp2_with fail
  go_ret
  exact ⟨rfl, HX.out⟩
set_option maxRecDepth 100000 in
set_option maxHeartbeats 1000000 in
theorem vMay3 (a : Option Addr) (c : Nat) (w : World) :
    Calls Tryz.prog 61 #[.agg (V5 3 false a c 0).toArray] w fun e w' => e = .returned (.int .i64 0) ∧ Ext w w' := by
  have HM := Lib.hid (fun W => nMay0 a c W)
  have HX := Lib.hid ((Chg.refl (S := fun _ => False) w).alloc (.cells #[.int .i64 3, .bool false, .slice a 0 c, .int .i64 0, .float .f64 0] 38))
  have hsf := run_store_f
  unfold V5
  go_enter Tryz.func61, Tryz.ntmps61
  go_wp2_with fail
  refine (HM.out _).mono ?_
  rintro e w2 ⟨rfl, hx⟩
  have HX2 := Lib.hid (HX.out.trans hx)
  clear hx
  go_wp2_with fail
  go_ret
  exact ⟨rfl, HX2.out⟩
set_option maxRecDepth 100000 in
set_option maxHeartbeats 1000000 in
theorem clean0 (a : Option Addr) (c : Nat) (w : World) :
    Calls Tryz.prog 67 #[.agg #[.bool false, .slice a 0 c]] w fun e w' => (∃ a' c', e = .returned (.agg #[.bool false, .slice a' 0 c'])) ∧ Ext w w' := by
  cases a
  all_goals
    go_enter Tryz.func67, Tryz.ntmps67
    go_wp2_with fail
    go_loopg [3] 0 (fun g l3 wr => g = 0 ∧ l3 = .slice (some ⟨w.heap.size + 1 + 1, 0, none⟩) 0 0 ∧ ∃ o, wr = ((w.alloc o).alloc (.cells #[.bool false, .slice none 0 0] 35)).alloc (.cells #[] 118))
    case atStart => exact ⟨rfl, rfl, _, rfl⟩
    case round =>
      obtain ⟨rfl, rfl, o, rfl⟩ := hrel
      have k2 := (Blk.new (w.alloc o) #[.bool false, .slice (some ⟨w.heap.size + 1 + 1, 0, none⟩) 0 0] 35).chg ((Chg.refl (S := fun _ => False) _).alloc (.cells #[] 118)) (fun h => h)
      simp only [World.size_alloc] at k2
      have q0 := k2.cell 0 _ rfl
      have q1 := k2.cell 1 _ rfl
      clear k2
      go_wp2_with fail
      try simp only [Exit.inBlock, Exit.then]
      refine bodyPost_ret (by simp [results, Tryz.results67, go_sem, q0, q1]; try rfl) rfl ?_
      exact ⟨⟨_, _, rfl⟩, (((Chg.refl w).alloc _).alloc _).alloc _⟩
set_option maxRecDepth 100000 in
set_option maxHeartbeats 1000000 in
theorem cmp00 (a b : Option Addr) (c d : Nat) (w : World) :
    Calls Tryz.prog 27 #[.agg #[.bool false, .slice a 0 c], .agg #[.bool false, .slice b 0 d]] w fun e w' => e = .returned (.int .i64 0) ∧ Ext w w' := by
  have HC := Lib.hid (fun a c W => clean0 a c W)
  have hx1 := ((Chg.refl (S := fun _ => False) w).alloc (.cells #[.bool false, .slice a 0 c] 35)).alloc (.cells #[.bool false, .slice b 0 d] 35)
  have hb := Blk.new (w.alloc (.cells #[.bool false, .slice a 0 c] 35)) #[.bool false, .slice b 0 d] 35
  simp only [World.size_alloc] at hb
  have HX := Lib.hid (And.intro hx1 hb)
  clear hx1 hb
  go_enter Tryz.func27, Tryz.ntmps27
  go_wp2_with fail
  refine (HC.out _ _ _).mono ?_
  rintro e w2 ⟨⟨a', c', rfl⟩, hx⟩
  have hx2 := hx.alloc (.cells #[.bool false, .slice a' 0 c'] 35)
  obtain ⟨b0, -, b1, -⟩ := blk2_base (HX.out.2.chg hx2 (fun h => h))
  have kA := Blk.new w2 #[.bool false, .slice a' 0 c'] 35
  have HY := Lib.hid (And.intro (HX.out.1.trans hx2) kA)
  clear hx hx2 kA
  go_wp2_with fail
  refine (HC.out _ _ _).mono ?_
  rintro e w3 ⟨⟨b', d', rfl⟩, hx⟩
  have hx3 := hx.alloc (.cells #[.bool false, .slice b' 0 d'] 35)
  obtain ⟨y0, -, y1, -⟩ := blk2_base (HY.out.2.chg hx3 (fun h => h))
  obtain ⟨z0, -, z1, -⟩ := blk2_base (Blk.new w3 #[.bool false, .slice b' 0 d'] 35)
  obtain ⟨W4, hW4⟩ : ∃ W4, w3.alloc (.cells #[.bool false, .slice b' 0 d'] 35) = W4 := ⟨_, rfl⟩
  have HZ := Lib.hid (HY.out.1.trans hx3)
  have HW4 := Lib.hid hW4
  clear hx hx3 b0 b1 hW4
  go_wp2_with fail
  rw [HW4.out] at HZ ⊢
  go_loopg [7] 0 (fun g l7 wr => g = 0 ∧ l7 = .int .i64 (-1) ∧ wr = W4)
  case atStart => exact ⟨rfl, rfl, rfl⟩
  case round =>
    obtain ⟨rfl, rfl, rfl⟩ := hrel
    go_wp2_with fail
    go_ret
    exact ⟨rfl, HZ.out⟩
set_option maxRecDepth 100000 in
set_option maxHeartbeats 1000000 in
theorem alike3 (a b : Option Addr) (c d : Nat) (w : World) :
    Calls Tryz.prog 20 #[.agg (V5 3 false a c 0).toArray, .agg (V5 3 false b d 0).toArray] w fun e w' => e = .returned (.bool true) ∧ Ext w w' := by
  have HM := Lib.hid (fun a c W => vMay3 a c W)
  have HC := Lib.hid (fun W => cmp00 a b c d W)
  unfold V5 at HM ⊢
  have hsf := run_store_f
  have hx1 := ((Chg.refl (S := fun _ => False) w).alloc (.cells #[.int .i64 3, .bool false, .slice a 0 c, .int .i64 0, .float .f64 0] 38)).alloc (.cells #[.int .i64 3, .bool false, .slice b 0 d, .int .i64 0, .float .f64 0] 38)
  have ha := (Blk.new w #[.int .i64 3, .bool false, .slice a 0 c, .int .i64 0, .float .f64 0] 38).chg ((Chg.refl (S := fun _ => False) _).alloc (.cells #[.int .i64 3, .bool false, .slice b 0 d, .int .i64 0, .float .f64 0] 38)) (fun h => h)
  have hb := Blk.new (w.alloc (.cells #[.int .i64 3, .bool false, .slice a 0 c, .int .i64 0, .float .f64 0] 38)) #[.int .i64 3, .bool false, .slice b 0 d, .int .i64 0, .float .f64 0] 38
  simp only [World.size_alloc] at hb
  have HX := Lib.hid (And.intro hx1 (And.intro ha hb))
  clear hx1 ha hb
  go_enter Tryz.func20, Tryz.ntmps20
  go_wp2_with fail
  refine (HM.out _ _ _).mono ?_
  rintro e w2 ⟨rfl, hx⟩
  obtain ⟨b0, -, b1, -, b2, -, b3, -, b4, -⟩ := blk5_base (HX.out.2.2.chg hx (fun h => h))
  have HY := Lib.hid hx
  clear hx
  go_wp2_with fail
  refine (HM.out _ _ _).mono ?_
  rintro e w3 ⟨rfl, hx⟩
  have hx3 := HY.out.trans hx
  clear b0 b1 b2 b3 b4
  obtain ⟨b0, -, b1, -, b2, -, b3, -, b4, -⟩ := blk5_base (HX.out.2.2.chg hx3 (fun h => h))
  obtain ⟨y0, -, y1, -, y2, -, y3, -, y4, -⟩ := blk5_base (HX.out.2.1.chg hx3 (fun h => h))
  have HZ := Lib.hid (HX.out.1.trans hx3)
  clear hx hx3
  go_wp2_with fail
  refine (HC.out _).mono ?_
  rintro e w4 ⟨rfl, hx⟩
  go_wp2_with fail
  go_ret
  exact ⟨rfl, HZ.out.trans hx⟩
end Go.Proofs.YtkhllknahjmciaaGreat

/-! What the document fixes: the laws' beginning, as plain facts. -/
namespace Go.Proofs.YtkhllknahjmciaaGreat
open Go.RowKit
set_option linter.unusedVariables false
set_option linter.unusedSimpArgs false

abbrev fwdT : Tr := .node 2 la [] 0 0
theorem fwd_check : rcheck fwdT = 0 := by decide
theorem mach_fwd : machP fwdT = ⟨0, 1, 2, [⟨0, 1, false, la, false⟩]⟩ := by
  unfold machP fwdT
  rw [plainP, plainsP]
  simp [plainPK, partP]
theorem chain_may (b : Bool) : MayG (chainG b) := mayG_spec (by cases b <;> decide)
theorem find_there : findE (fun _ => true) (chainG true) fwdT 1 2 = some [(1, false)] := by
  unfold findE
  rw [mach_fwd]
  decide
theorem find_not : findE (fun k => decide (k ∈ [1])) (chainG false) fwdT 2 1 = none := by
  unfold findE
  rw [mach_fwd]
  decide
end Go.Proofs.YtkhllknahjmciaaGreat

/-! What the document fixes: the laws' beginning, walked. -/
namespace Go.Proofs.YtkhllknahjmciaaGreat
open Go.RowKit
set_option linter.unusedVariables false
set_option linter.unusedSimpArgs false

set_option maxRecDepth 100000 in
set_option maxHeartbeats 1000000 in
theorem awake_any (w : World) : Calls Tryz.prog 10 #[] w fun e w' => e = .returned (.bool true) ∧ Ext w w' := by
  have HCh := Lib.hid (fun b W => chain2 b W)
  have HFw := Lib.hid (fun W => aFwd_any (fun _ => False) la W)
  have HBe := Lib.hid (fun W gcs tcs hg ht => Best_any 3 (.inr rfl) (chainG true) fwdT (chain_may true) fwd_check gcs tcs 1 2 W hg ht)
  have HSo := Lib.hid (fun W gcs tcs ta tc hg ht hts => Some_any (chainG false) fwdT (chain_may false) fwd_check gcs tcs 2 1 [1] ta tc W hg ht hts)
  rw [find_there] at HBe
  rw [find_not] at HSo
  have HAl := Lib.hid (fun a b c d W => alike3 a b c d W)
  unfold V5 at HAl
  have hsf := run_store_f
  go_enter Tryz.func10, Tryz.ntmps10
  go_wp2_with fail
  refine (HCh.out _ _).mono ?_
  rintro e w1 ⟨g1, rfl, hg1, hx1⟩
  go_wp2_with fail
  refine (HFw.out _).mono ?_
  rintro e w2 ⟨t1, rfl, ht1, hx2⟩
  have HX2 := Lib.hid (hx1.trans hx2)
  have HB2 := Lib.hid (HBe.out w2 _ _ (hg1.ext hx2) ht1.trc)
  clear hg1 hx1 ht1 hx2
  go_wp2_with fail
  refine HB2.out.mono ?_
  rintro e w3 ⟨hx3, h3⟩
  obtain ⟨h3, -⟩ | ⟨l3, v3, c3, h3, rfl, ho3, i3, a3, c3', l3', rfl, hc3, hok3⟩ := h3
  · cases h3
  obtain rfl : [(1, false)] = l3 := by simpa using h3
  obtain ⟨rfl, rfl⟩ : i3 = false ∧ l3' = 0 := by
    rcases hok3 with ⟨h, -⟩ | ⟨-, h1, h2⟩
    · omega
    · exact ⟨by simpa using h1, h2⟩
  unfold V5
  obtain ⟨g3, cap3, rfl, hc4⟩ := own_form ho3 (by simp)
  have c0 : w3.cell? ⟨g3, 0, none⟩ = some (.int .i64 1) := by
    have := hc4 0 _ rfl
    rwa [add_zero] at this
  have hg3 := lt_of_cell c0
  have hx4 : Ext w3 (w3.alloc (.cells #[.int .i64 3, .bool false, .slice a3 0 c3', .int .i64 0, .float .f64 0] 38)) := (Chg.refl w3).alloc _
  have hb4 := Blk.new w3 #[.int .i64 3, .bool false, .slice a3 0 c3', .int .i64 0, .float .f64 0] 38
  obtain ⟨W4, hW4⟩ : ∃ W4, w3.alloc (.cells #[.int .i64 3, .bool false, .slice a3 0 c3', .int .i64 0, .float .f64 0] 38) = W4 := ⟨_, rfl⟩
  rw [hW4] at hx4 hb4
  have hc4' := (hx4.cell (p := ⟨g3, 0, none⟩) hg3 (fun h => h)).trans c0
  have HX4 := Lib.hid (And.intro ((HX2.out.trans hx3).trans hx4) (And.intro hb4 hc4'))
  have HW4 := Lib.hid hW4
  clear hx3 ho3 hc3 hok3 hc4 c0 hg3 hx4 hb4 hc4' hW4 h3
  go_wp2_with fail
  rw [HW4.out]
  refine (HCh.out _ _).mono ?_
  rintro e w5 ⟨g5, rfl, hg5, hx5⟩
  go_wp2_with fail
  refine (HFw.out _).mono ?_
  rintro e w6 ⟨t6, rfl, ht6, hx6⟩
  have hx7 : Ext w6 (w6.alloc (.cells #[.int .i64 1] 3)) := (Chg.refl w6).alloc _
  have hcl : Cells (w6.alloc (.cells #[.int .i64 1] 3)) (some ⟨w6.heap.size, 0, none⟩) 1 1 ([(1 : Int)].map (.int .i64 ·)) := ⟨Nat.le_refl _, by unfold maxLen; omega, fun j u hj => ⟨_, rfl, news w6 _ _ j u hj⟩⟩
  have HS7 := Lib.hid (HSo.out _ _ _ _ _ ((hg5.ext hx6).ext hx7) (ht6.trc.ext hx7) hcl)
  have HX7 := Lib.hid ((hx5.trans hx6).trans hx7)
  clear hg5 hx5 ht6 hx6 hx7 hcl
  go_wp2_with fail
  refine HS7.out.mono ?_
  rintro e w8 ⟨hx8, h8⟩
  obtain ⟨-, rfl⟩ | ⟨l8, v8, h8, -⟩ := h8
  rotate_left
  · cases h8
  have hx48 := HX7.out.trans hx8
  obtain ⟨b0, -, b1, -, b2, -, b3, -, b4, -⟩ := blk5_base (HX4.out.2.1.chg hx48 (fun h => h))
  have c0 := (hx48.cell (p := ⟨g3, 0, none⟩) (lt_of_cell HX4.out.2.2) (fun h => h)).trans HX4.out.2.2
  have HX8 := Lib.hid (HX4.out.1.trans hx48)
  clear hx8 hx48
  go_wp2_with fail
  refine (HAl.out _ _ _ _ _).mono ?_
  rintro e w9 ⟨rfl, hx9⟩
  go_wp2_with fail
  go_ret
  exact ⟨rfl, HX8.out.trans hx9⟩
end Go.Proofs.YtkhllknahjmciaaGreat

/-! WalkNone as a plain law. -/
namespace Go.Proofs.YtkhllknahjmciaaGreat
open Go.RowKit
set_option linter.unusedVariables false
set_option linter.unusedSimpArgs false

theorem steps_none {L : List Et} (h : ∀ e ∈ L, e.tok ≤ 0) (b1 b2 : Int) : ∀ (k : Nat) (a s : Int), stepsE L b1 b2 k a s = []
  | 0, a, s => rfl
  | k + 1, a, s => by
    rw [stepsE]
    split
    · rfl
    · cases hq : seek a s L with
      | none => rfl
      | some e =>
        simp only
        rw [if_neg (by have := h e (seek_is hq).1; omega), steps_none h b1 b2 k, List.nil_append]
theorem Built.quiet {wt : Int → Bool} (hw : ∀ k, wt k = false) {es : List Eg} {ms : List Mv} {b1 b2 : Int} {L : List Et} (h : Built wt es ms b1 b2 L) : ∀ e ∈ L, e.tok ≤ 0 := by
  induction h with
  | one =>
    intro e he
    rw [List.mem_singleton] at he
    subst he
    exact Int.le_refl _
  | @snoc L n h h1 h2 h3 ih =>
    intro e he
    rcases List.mem_append.1 he with he | he
    · exact ih e he
    · rw [List.mem_singleton] at he
      subst he
      obtain ⟨m, hm, -, -, ⟨-, -, h, -⟩ | ⟨-, -, g, -, -, hk, -⟩⟩ := h3
      · omega
      · rw [hw] at hk; cases hk
/-- What the search has found, at its end. -/
theorem run_facts {g : Gr} (hm : MayG g) (wt : Int → Bool) (t : Tr) {b1 : Int} (h : 0 ≤ placeN g.nodes b1 0) {L : List Et} (hL : runE wt g.edges g.nodes (machP t).ms (g.nodes.length * (machP t).n.toNat + 1) [⟨b1, (machP t).s, b1, (machP t).s, 0, false⟩] = L) :
    Built wt g.edges (machP t).ms b1 (machP t).s L ∧ (∀ a s, seek a s L ≠ none ↔ Rt (Sp (Ed wt g.edges) (machP t).ms) (b1, (machP t).s) (a, s)) ∧ ∀ e ∈ L, ∃ u ∈ g.nodes, u.id = e.id := by
  have hf := fit_of hm (t := t) h
  have hb := (Built.one (wt := wt) (es := g.edges) (ms := (machP t).ms) (b1 := b1) (b2 := (machP t).s)).run g.nodes (g.nodes.length * (machP t).n.toNat + 1)
  have hc := run_end hf (g.nodes.length * (machP t).n.toNat + 1) _ (Built.one (wt := wt)) (by simp; omega)
  rw [hL] at hb hc
  exact ⟨hb, found_iff hf hb hc, fun e he => (hb.spot hf e he).1⟩
theorem find_self {g : Gr} (hm : MayG g) {wt : Int → Bool} (hw : ∀ k, wt k = false) {t : Tr} (hv : rcheck t = 0) (id : Int) :
    findE wt g t id id = if 0 ≤ placeN g.nodes id 0 ∧ rnull t = true then some [] else none := by
  unfold findE
  by_cases h : 0 ≤ placeN g.nodes id 0
  · rw [if_pos h]
    simp only
    obtain ⟨L, hL⟩ : ∃ L, runE wt g.edges g.nodes (machP t).ms (g.nodes.length * (machP t).n.toNat + 1) [⟨id, (machP t).s, id, (machP t).s, 0, false⟩] = L := ⟨_, rfl⟩
    rw [hL]
    obtain ⟨hb, hf, -⟩ := run_facts hm wt t h hL
    have hE : Ed wt g.edges = fun _ _ _ _ => False := by
      funext l b u v
      refine propext (Iff.intro (fun h => ?_) (fun h => h.elim))
      obtain ⟨x, _, _, hx, _⟩ := h
      rw [hw] at hx
      cases hx
    have key : seek id (machP t).a L ≠ none ↔ rnull t = true := by
      rw [hf, hE]
      unfold machP
      rw [mach_den, den_null, null_plain t (rcheck_zero hv).2.2.1]
      simp
    by_cases hn : rnull t = true
    · rw [if_neg (key.2 hn), if_pos ⟨h, hn⟩, steps_none (hb.quiet hw)]
    · rw [if_pos (Classical.byContradiction fun hc => hn (key.1 hc)), if_neg (fun hc => hn hc.2)]
  · rw [if_neg h, if_neg (fun hc => h hc.1)]
theorem find_far {g : Gr} (hm : MayG g) (wt : Int → Bool) (t : Tr) (b1 tn : Int) (h : 1000 < tn) : findE wt g t b1 tn = none := by
  unfold findE
  by_cases h0 : 0 ≤ placeN g.nodes b1 0
  · rw [if_pos h0]
    simp only
    obtain ⟨L, hL⟩ : ∃ L, runE wt g.edges g.nodes (machP t).ms (g.nodes.length * (machP t).n.toNat + 1) [⟨b1, (machP t).s, b1, (machP t).s, 0, false⟩] = L := ⟨_, rfl⟩
    rw [hL]
    obtain ⟨hb, hf, hn⟩ := run_facts hm wt t h0 hL
    rw [if_pos]
    cases hq : seek tn (machP t).a L with
    | none => rfl
    | some e =>
      obtain ⟨e1, e2, -⟩ := seek_is hq
      obtain ⟨u, hu, hu2⟩ := hn e e1
      have := hm.id u hu
      omega
  · rw [if_neg h0]
theorem find_zero {g : Gr} (hm : MayG g) (wt : Int → Bool) (t : Tr) (tn : Int) : findE wt g t 0 tn = none := by
  unfold findE
  rw [if_neg]
  intro h
  obtain ⟨j, u, h1, h2, -⟩ := placeN_ge _ _ _ h
  have := hm.id u (List.mem_of_getElem? h1)
  omega
end Go.Proofs.YtkhllknahjmciaaGreat
