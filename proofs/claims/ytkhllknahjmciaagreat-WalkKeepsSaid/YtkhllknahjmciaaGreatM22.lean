/-
  What the empty path is worth (chapter 18). A path's worth is told (chapter 18).
-/
import Derived.Test.YtkhllknahjmciaaGreatM21
/-! What the empty path is worth (chapter 18). -/
namespace Go.Proofs.YtkhllknahjmciaaGreat
open Go.RowKit
set_option linter.unusedVariables false
set_option linter.unusedSimpArgs false

/-- A matrix of m rows: 1 where a node meets itself, else 0. -/
def MatPost (s : Int) (m : Nat) (w : World) (e : Ending) (w' : World) : Prop :=
  ∃ p rs vs us, e = .returned (.slice (some ⟨p, 0, none⟩) m m) ∧ rs.length = m ∧ Blk w' p rs.toArray 48 ∧ RowsM w' (p + 1) vs us rs m m ∧ Bv s false vs ∧ Bv s true us ∧ w.heap.size ≤ p ∧ Ext w w'
set_option maxRecDepth 100000 in
set_option maxHeartbeats 1000000 in
theorem dWorth0 (s : Int) (hs : s = 2 ∨ s = 3) (na : Option Addr) (m nc : Nat) (ea : Option Addr) (n ec : Nat) (d : Int) (hm : m ≤ 1000) (w : World) :
    Calls Tryz.prog 141 #[.agg #[.slice na m nc, .slice ea n ec, .int .i64 d, .int .i64 s, .slice none 0 0], .agg epsCs.toArray] w (MatPost s m w) := by
  have HZ := Lib.hid (fun W => dZero_any s hs W)
  have HO := Lib.hid (fun W => dOne_any s hs W)
  have HBl := Lib.hid (fun s1 i1 a1 c1 l1 s2 i2 a2 c2 l2 W => blank_any na m nc ea n ec d s (.slice none 0 0) s1 i1 a1 c1 l1 s2 i2 a2 c2 l2 hm W)
  unfold epsCs
  unfold V5 at HBl
  have hw1 := ((Chg.refl (S := fun _ => False) w).alloc (.cells #[.slice na m nc, .slice ea n ec, .int .i64 d, .int .i64 s, .slice none 0 0] 150)).alloc (.cells #[.int .i64 1, .string ⟨#[]⟩, .slice none 0 0, .int .i64 0, .int .i64 0] 28)
  have hb1 := (Blk.new w #[.slice na m nc, .slice ea n ec, .int .i64 d, .int .i64 s, .slice none 0 0] 150).chg ((Chg.refl (S := fun _ => False) _).alloc (.cells #[.int .i64 1, .string ⟨#[]⟩, .slice none 0 0, .int .i64 0, .int .i64 0] 28)) (fun h => h)
  have hb2 := Blk.new (w.alloc (.cells #[.slice na m nc, .slice ea n ec, .int .i64 d, .int .i64 s, .slice none 0 0] 150)) #[.int .i64 1, .string ⟨#[]⟩, .slice none 0 0, .int .i64 0, .int .i64 0] 28
  obtain ⟨W0, hW0⟩ : ∃ W0, (w.alloc (.cells #[.slice na m nc, .slice ea n ec, .int .i64 d, .int .i64 s, .slice none 0 0] 150)).alloc (.cells #[.int .i64 1, .string ⟨#[]⟩, .slice none 0 0, .int .i64 0, .int .i64 0] 28) = W0 := ⟨_, rfl⟩
  rw [hW0] at hb1 hb2 hw1
  simp only [World.size_alloc] at hb2
  have HW := Lib.hid hW0
  have HCs := Lib.hid (fun W (hW : Ext W0 W) => let q := blk5_base (hb1.chg hW (fun h => h)); And.intro q.1 (And.intro q.2.2.1 (And.intro q.2.2.2.2.1 (And.intro q.2.2.2.2.2.2.1 q.2.2.2.2.2.2.2.2.1))))
  have HX := Lib.hid hw1
  obtain ⟨x0, -, x1, -, x2, -, x3, -, x4, -⟩ := blk5_base hb2
  clear hb1 hb2 hw1 hW0 hs hm
  go_enter Tryz.func141, Tryz.ntmps141
  go_wp2_with fail
  rw [HW.out]
  go_loopg [11] 0 (fun g t wr => g = 0 ∧ t = .int .i64 0 ∧ wr = W0)
  case atStart => exact ⟨rfl, rfl, rfl⟩
  case round =>
    obtain ⟨rfl, rfl, rfl⟩ := hrel
    go_wp2_with fail
    go_region_held3 (fun v => v.cell? ⟨w.heap.size, 0, none⟩ = some (.slice na m nc) ∧ v.cell? ⟨w.heap.size, 1, none⟩ = some (.slice ea n ec) ∧ v.cell? ⟨w.heap.size, 2, none⟩ = some (.int .i64 d) ∧ v.cell? ⟨w.heap.size, 3, none⟩ = some (.int .i64 s) ∧ v.cell? ⟨w.heap.size, 4, none⟩ = some (.slice none 0 0)) (first | with_reducible exact HCs.out _ HV.out.1 | with_reducible exact HCs.out _ HU2.out.1 | with_reducible exact HCs.out _ HU1.out.1 | with_reducible exact HCs.out _ (Chg.refl (S := fun _ => False) wr).drew | with_reducible exact HCs.out _ HU2'.out.1 | with_reducible exact HCs.out _ HU1'.out.1) (first | (go_at_call 195; refine (HZ.out _).mono ?_; rintro e w2 ⟨cs, rfl, ⟨i1, a1, c1, l1, rfl, hc1, hok1⟩, hx⟩; unfold V5; have hxw := (by first | exact (HU1'.out.1).trans hx | exact (Chg.refl (S := fun _ => False) wr).drew.trans hx : Ext wr w2); have HU1 := Lib.hid (And.intro hxw (And.intro hc1 hok1)); have HU2' := HU1; clear hx hxw hc1 hok1) | (go_at_call 91; refine (HO.out _).mono ?_; rintro e w3 ⟨cs, rfl, ⟨i2, a2, c2, l2, rfl, hc2, hok2⟩, hx⟩; unfold V5; have hxw := (by first | exact (HU2'.out.1).trans hx | exact (Chg.refl (S := fun _ => False) wr).drew.trans hx : Ext wr w3); have HU2 := Lib.hid (And.intro hxw (And.intro hc2 hok2)); have HU1' := HU2; clear hx hxw hc2 hok2) | (go_at_call 194; refine (HBl.out _ _ _ _ _ _ _ _ _ _ _).mono ?_; rintro e w4 ⟨rs, rfl, hlen, hbk, hrw, hx⟩; have hxw := (by first | exact (HU1.out.1).trans hx | exact (HU2.out.1).trans hx : Ext wr w4); have hsz := (by first | exact (HU1.out.1).size | exact (HU2.out.1).size : wr.heap.size ≤ _); have HV := Lib.hid (And.intro hxw (And.intro hlen (And.intro hbk hrw))); clear hx hxw hlen hbk hrw))
    all_goals
      go_wp2_with fail
      go_ret
      exact ⟨_, rs, _, _, rfl, HV.out.2.1, HV.out.2.2.1, HV.out.2.2.2, ⟨i1, a1, c1, l1, rfl, HU1.out.2.1, HU1.out.2.2⟩, ⟨i2, a2, c2, l2, rfl, HU2.out.2.1, HU2.out.2.2⟩, by have := HX.out.size; have := HU1.out.1.size; have := HU2.out.1.size; omega, HX.out.trans HV.out.1⟩
set_option maxRecDepth 100000 in
set_option maxHeartbeats 1000000 in
theorem dOf0 (s : Int) (hs : s = 2 ∨ s = 3) (na : Option Addr) (m nc : Nat) (ea : Option Addr) (n ec : Nat) (d : Int) (hm : m ≤ 1000) (w : World) :
    Calls Tryz.prog 89 #[.agg #[.slice na m nc, .slice ea n ec, .int .i64 d, .int .i64 s, .slice none 0 0], .agg epsCs.toArray] w (MatPost s m w) := by
  have HP := Lib.hid (fun W => DsPlain0 W)
  have HWo := Lib.hid (fun W => dWorth0 s hs na m nc ea n ec d hm W)
  unfold epsCs at *
  have hw1 := ((Chg.refl (S := fun _ => False) w).alloc (.cells #[.slice na m nc, .slice ea n ec, .int .i64 d, .int .i64 s, .slice none 0 0] 150)).alloc (.cells #[.int .i64 1, .string ⟨#[]⟩, .slice none 0 0, .int .i64 0, .int .i64 0] 28)
  have hb1 := (Blk.new w #[.slice na m nc, .slice ea n ec, .int .i64 d, .int .i64 s, .slice none 0 0] 150).chg ((Chg.refl (S := fun _ => False) _).alloc (.cells #[.int .i64 1, .string ⟨#[]⟩, .slice none 0 0, .int .i64 0, .int .i64 0] 28)) (fun h => h)
  obtain ⟨W0, hW0⟩ : ∃ W0, (w.alloc (.cells #[.slice na m nc, .slice ea n ec, .int .i64 d, .int .i64 s, .slice none 0 0] 150)).alloc (.cells #[.int .i64 1, .string ⟨#[]⟩, .slice none 0 0, .int .i64 0, .int .i64 0] 28) = W0 := ⟨_, rfl⟩
  rw [hW0] at hb1 hw1
  have HW := Lib.hid hW0
  have HB := Lib.hid (And.intro hb1 hw1)
  clear hb1 hw1 hW0 hs hm
  go_enter Tryz.func89, Tryz.ntmps89
  go_wp2_with fail
  rw [HW.out]
  refine (HP.out _).mono ?_
  rintro e w2 ⟨rfl, hx⟩
  have hxa := hx.alloc (.cells #[.int .i64 1, .string ⟨#[]⟩, .slice none 0 0, .int .i64 0, .int .i64 0] 28)
  obtain ⟨y0, -, y1, -, y2, -, y3, -, y4, -⟩ := blk5_base (HB.out.1.chg hxa (fun h => h))
  obtain ⟨z0, -, z1, -, z2, -, z3, -, z4, -⟩ := blk5_base (Blk.new w2 #[.int .i64 1, .string ⟨#[]⟩, .slice none 0 0, .int .i64 0, .int .i64 0] 28)
  have HX := Lib.hid (HB.out.2.trans hxa)
  clear hx hxa
  go_wp2_with fail
  refine (HWo.out _).mono ?_
  rintro e w3 ⟨p, rs, vs, us, rfl, h1, h2, h3, h4, h5, h6, h7⟩
  have HR := Lib.hid (And.intro h1 (And.intro h2 (And.intro h3 (And.intro h4 (And.intro h5 (And.intro h6 h7))))))
  clear h1 h2 h3 h4 h5 h6 h7
  go_wp2_with fail
  go_ret
  exact ⟨p, rs, vs, us, rfl, HR.out.1, HR.out.2.1, HR.out.2.2.1, HR.out.2.2.2.1, HR.out.2.2.2.2.1, by have := HX.out.size; have := HR.out.2.2.2.2.2.1; omega, HX.out.trans HR.out.2.2.2.2.2.2⟩
end Go.Proofs.YtkhllknahjmciaaGreat

/-! A path's worth is told (chapter 18). -/
namespace Go.Proofs.YtkhllknahjmciaaGreat
open Go.RowKit
set_option linter.unusedVariables false
set_option linter.unusedSimpArgs false

theorem rowC_len {vs us : List Value} (hv : vs.length = 5) (hu : us.length = 5) (i : Nat) : ∀ m, (rowC vs us i m).length = m * 5
  | 0 => rfl
  | m + 1 => by
    rw [rowC_succ, List.length_append, rowC_len hv hu i m]
    split <;> omega
theorem rowC_at {vs us : List Value} (hv : vs.length = 5) (hu : us.length = 5) (i k q : Nat) (hq : q < 5) : ∀ m, k < m → (rowC vs us i m)[k * 5 + q]? = (if i = k then us else vs)[q]?
  | 0, h => by omega
  | m + 1, h => by
    rw [rowC_succ]
    by_cases e : k = m
    · subst e
      rw [List.getElem?_append_right (by rw [rowC_len hv hu]; omega), rowC_len hv hu, show k * 5 + q - k * 5 = q by omega]
    · rw [List.getElem?_append_left (by rw [rowC_len hv hu]; omega)]
      exact rowC_at hv hu i k q hq m (by omega)
theorem Bv.len {s : Int} {b : Bool} {cs : List Value} (h : Bv s b cs) : cs.length = 5 := by
  obtain ⟨i, a, c, l, rfl, -⟩ := h
  rfl
theorem five_at {xs ys : List Value} {n : Nat} {y0 y1 y2 y3 y4 : Value} (h : ∀ q, q < 5 → xs[n + q]? = ys[q]?) (hy : ys = [y0, y1, y2, y3, y4]) :
    xs[n]? = some y0 ∧ xs[n + 1]? = some y1 ∧ xs[n + 2]? = some y2 ∧ xs[n + 3]? = some y3 ∧ xs[n + 4]? = some y4 := by
  subst hy
  exact ⟨h 0 (by omega), h 1 (by omega), h 2 (by omega), h 3 (by omega), h 4 (by omega)⟩
/-- A row of values, of which those from k on stand as they were told. -/
def RowFrom (W : World) (base g m cap : Nat) (zs : List Value) (k : Nat) : Prop :=
  ∃ xs, W.ownsRow base 38 5 (.slice (some ⟨g, 0, none⟩) m cap) m xs ∧ ∀ q, k * 5 ≤ q → xs[q]? = zs[q]?
theorem RowFrom.at {W : World} {base g m cap k : Nat} {zs : List Value} (h : RowFrom W base g m cap zs k) (hk : k < m) {y0 y1 y2 y3 y4 : Value} (h0 : zs[k * 5]? = some y0) (h1 : zs[k * 5 + 1]? = some y1) (h2 : zs[k * 5 + 2]? = some y2) (h3 : zs[k * 5 + 3]? = some y3) (h4 : zs[k * 5 + 4]? = some y4) :
    W.cell? ⟨g, k * 5, none⟩ = some y0 ∧ W.cell? ⟨g, k * 5 + 1, none⟩ = some y1 ∧ W.cell? ⟨g, k * 5 + 2, none⟩ = some y2 ∧ W.cell? ⟨g, k * 5 + 3, none⟩ = some y3 ∧ W.cell? ⟨g, k * 5 + 4, none⟩ = some y4 := by
  obtain ⟨xs, ho, hx⟩ := h
  have hc := fun q (hq : q < m * 5) => ho.cellAt q hq
  refine ⟨?_, ?_, ?_, ?_, ?_⟩
  · rw [hc _ (by omega), hx _ (by omega), h0]
  · rw [hc _ (by omega), hx _ (by omega), h1]
  · rw [hc _ (by omega), hx _ (by omega), h2]
  · rw [hc _ (by omega), hx _ (by omega), h3]
  · rw [hc _ (by omega), hx _ (by omega), h4]
theorem RowFrom.set {W : World} {base g m cap k : Nat} {zs : List Value} (h : RowFrom W base g m cap zs k) (c0 c1 c2 c3 c4 : Value) :
    RowFrom (((((W.setCell ⟨g, k * 5, none⟩ c0).setCell ⟨g, k * 5 + 1, none⟩ c1).setCell ⟨g, k * 5 + 2, none⟩ c2).setCell ⟨g, k * 5 + 3, none⟩ c3).setCell ⟨g, k * 5 + 4, none⟩ c4) base g m cap zs (k + 1) := by
  obtain ⟨xs, ho, hx⟩ := h
  refine ⟨_, own_set (own_set (own_set (own_set (own_set ho _ c0) _ c1) _ c2) _ c3) _ c4, fun q hq => ?_⟩
  rw [List.getElem?_set_ne (by omega), List.getElem?_set_ne (by omega), List.getElem?_set_ne (by omega), List.getElem?_set_ne (by omega), List.getElem?_set_ne (by omega)]
  exact hx q (by omega)
theorem own_old {W : World} {base g m cap : Nat} {e : TypeId} {xs : List Value} (h : W.ownsRow base e 5 (.slice (some ⟨g, 0, none⟩) m cap) m xs) (j : Nat) (hj : j < m * 5) : (∃ u, W.cell? ⟨g, j, none⟩ = some u) ∧ W.frozen? ⟨g, j, none⟩ = false := by
  refine ⟨?_, h.frozenAt j⟩
  rw [h.cellAt j hj]
  exact ⟨_, List.getElem?_eq_getElem (by rw [h.1]; exact hj)⟩
/-- What a store of a value into a row asks for. -/
theorem row_facts {W : World} {base g m cap k : Nat} {e : TypeId} {xs : List Value} (h : W.ownsRow base e 5 (.slice (some ⟨g, 0, none⟩) m cap) m xs) (hk : k < m) (c0 c1 c2 c3 : Value) :
    ((∃ u, W.cell? ⟨g, k * 5, none⟩ = some u) ∧ W.frozen? ⟨g, k * 5, none⟩ = false) ∧
    ((∃ u, (W.setCell ⟨g, k * 5, none⟩ c0).cell? ⟨g, k * 5 + 1, none⟩ = some u) ∧ (W.setCell ⟨g, k * 5, none⟩ c0).frozen? ⟨g, k * 5 + 1, none⟩ = false) ∧
    ((∃ u, ((W.setCell ⟨g, k * 5, none⟩ c0).setCell ⟨g, k * 5 + 1, none⟩ c1).cell? ⟨g, k * 5 + 2, none⟩ = some u) ∧ ((W.setCell ⟨g, k * 5, none⟩ c0).setCell ⟨g, k * 5 + 1, none⟩ c1).frozen? ⟨g, k * 5 + 2, none⟩ = false) ∧
    ((∃ u, (((W.setCell ⟨g, k * 5, none⟩ c0).setCell ⟨g, k * 5 + 1, none⟩ c1).setCell ⟨g, k * 5 + 2, none⟩ c2).cell? ⟨g, k * 5 + 3, none⟩ = some u) ∧ (((W.setCell ⟨g, k * 5, none⟩ c0).setCell ⟨g, k * 5 + 1, none⟩ c1).setCell ⟨g, k * 5 + 2, none⟩ c2).frozen? ⟨g, k * 5 + 3, none⟩ = false) ∧
    ((∃ u, ((((W.setCell ⟨g, k * 5, none⟩ c0).setCell ⟨g, k * 5 + 1, none⟩ c1).setCell ⟨g, k * 5 + 2, none⟩ c2).setCell ⟨g, k * 5 + 3, none⟩ c3).cell? ⟨g, k * 5 + 4, none⟩ = some u) ∧ ((((W.setCell ⟨g, k * 5, none⟩ c0).setCell ⟨g, k * 5 + 1, none⟩ c1).setCell ⟨g, k * 5 + 2, none⟩ c2).setCell ⟨g, k * 5 + 3, none⟩ c3).frozen? ⟨g, k * 5 + 4, none⟩ = false) :=
  ⟨own_old h _ (by omega), own_old (own_set h _ c0) _ (by omega), own_old (own_set (own_set h _ c0) _ c1) _ (by omega), own_old (own_set (own_set (own_set h _ c0) _ c1) _ c2) _ (by omega), own_old (own_set (own_set (own_set (own_set h _ c0) _ c1) _ c2) _ c3) _ (by omega)⟩
def PathPost (w : World) (e : Ending) (w' : World) : Prop := ∃ v, e = .returned (.tuple #[v, .int .i64 0]) ∧ Ext w w'
set_option maxRecDepth 100000 in
set_option maxHeartbeats 1000000 in
theorem dPath0 (s : Int) (hs : s = 2 ∨ s = 3) (g : Gr) (hm : MayG g) (na : Option Addr) (m nc : Nat) (ea : Option Addr) (n ec : Nat) (d : Int) (w : World)
    (hg : GrC w g [.slice na m nc, .slice ea n ec, .int .i64 d]) (hm2 : m ≤ 1000) :
    Calls Tryz.prog 45 #[.agg #[.slice na m nc, .slice ea n ec, .int .i64 d], .agg epsCs.toArray, .int .i64 s, .slice none 0 0] w (PathPost w) := by
  have hw1 := ((Chg.refl (S := fun _ => False) w).alloc (.cells #[.slice na m nc, .slice ea n ec, .int .i64 d] 25)).alloc (.cells #[.int .i64 1, .string ⟨#[]⟩, .slice none 0 0, .int .i64 0, .int .i64 0] 28)
  have hb1 := (Blk.new w #[.slice na m nc, .slice ea n ec, .int .i64 d] 25).chg ((Chg.refl (S := fun _ => False) _).alloc (.cells #[.int .i64 1, .string ⟨#[]⟩, .slice none 0 0, .int .i64 0, .int .i64 0] 28)) (fun h => h)
  have hb2 := Blk.new (w.alloc (.cells #[.slice na m nc, .slice ea n ec, .int .i64 d] 25)) #[.int .i64 1, .string ⟨#[]⟩, .slice none 0 0, .int .i64 0, .int .i64 0] 28
  obtain ⟨W0, hW0⟩ : ∃ W0, (w.alloc (.cells #[.slice na m nc, .slice ea n ec, .int .i64 d] 25)).alloc (.cells #[.int .i64 1, .string ⟨#[]⟩, .slice none 0 0, .int .i64 0, .int .i64 0] 28) = W0 := ⟨_, rfl⟩
  rw [hW0] at hb1 hb2 hw1
  simp only [World.size_alloc] at hb2
  have HOp := Lib.hid (dOpen0 s hs g hm na m nc ea n ec d epsT (w.heap.size + 1) 1 ⟨#[]⟩ none 0 0 0 0 W0 (hg.ext hw1) (eps_cells W0) eps_check hb2)
  have HOf := Lib.hid (fun W => dOf0 s hs na m nc ea n ec d hm2 W)
  have HOn := Lib.hid (fun W => dOne_any s hs W)
  have HT := Lib.hid (fun i1 l1 i2 l2 b1 b2 a1 a2 c1 c2 hc1 hc2 h1 h2 W => dTimes0 (s := s) (i1 := i1) (l1 := l1) (i2 := i2) (l2 := l2) (b1 := b1) (b2 := b2) a1 a2 c1 c2 hc1 hc2 h1 h2 W)
  unfold epsCs at *
  unfold V5 at HT
  have HW := Lib.hid hW0
  have HB := Lib.hid (And.intro hb1 (And.intro hb2 hw1))
  have hsf := run_store_f
  clear hb1 hb2 hw1 hW0 hs hm hg
  go_enter Tryz.func45, Tryz.ntmps45
  go_wp2_with fail
  rw [HW.out]
  refine HOp.out.mono ?_
  rintro e w2 ⟨rfl, hx⟩
  have hxa := hx.alloc (.cells #[.slice na m nc, .slice ea n ec, .int .i64 d, .int .i64 s, .slice none 0 0] 150)
  obtain ⟨y0, -, y1, -, y2, -, y3, -, y4, -⟩ := blk5_base (HB.out.2.1.chg hxa (fun h => h))
  obtain ⟨z0, -, z1, -, z2, -, z3, -, z4, -⟩ := blk5_base (Blk.new w2 #[.slice na m nc, .slice ea n ec, .int .i64 d, .int .i64 s, .slice none 0 0] 150)
  have HX := Lib.hid (HB.out.2.2.trans hxa)
  clear hx hxa
  go_wp2_with fail
  refine (HOf.out _).mono ?_
  rintro e w3 ⟨p, rs, vs, us, rfl, h1, h2, h3, h4, h5, h6, h7⟩
  have HR := Lib.hid (And.intro h1 (And.intro h2 (And.intro h3 (And.intro h4 (And.intro h5 (And.intro h6 (HX.out.trans h7)))))))
  have hp : w.heap.size ≤ p := by have := HX.out.size; omega
  clear h1 h2 h3 h4 h5 h6 h7
  go_wp2_with fail
  go_loopg [33] m (fun g l33 wr => ∃ i : Nat, i ≤ m ∧ Blk wr p rs.toArray 48 ∧ (∀ j, i ≤ j → j < m → ∃ v, rs[j]? = some v ∧ wr.ownsRow (p + 1) 38 5 v m (rowC vs us j m)) ∧ Ext w wr ∧ l33 = .int .i64 i ∧ g = m - i)
  case atStart => exact ⟨0, Nat.zero_le _, HR.out.2.1, fun j _ hj => HR.out.2.2.1.row j hj, HR.out.2.2.2.2.2.2, rfl, rfl⟩
  case round =>
    clear y0 y1 y2 y3 y4 z0 z1 z2 z3 z4
    obtain ⟨w1, rfl⟩ : ∃ x, x = wr := ⟨_, rfl⟩
    obtain ⟨i, hi, hb, hr, hx, rfl, rfl⟩ := hrel
    by_cases him : i < m
    · have him' : (i : Int) < m := by omega
      obtain ⟨v, hv, ho⟩ := hr i (Nat.le_refl _) him
      obtain ⟨g, cap, rfl, -⟩ := own_form ho (by omega)
      have hM : w1.cell? ⟨p, i, none⟩ = some (.slice (some ⟨g, 0, none⟩) m cap) := hb.cell i _ (by simpa using hv)
      have hgp : p + 1 ≤ g := (own_block_lt ho g rfl).1
      have hg1 : g < w1.heap.size := (own_block_lt ho g rfl).2
      have HK := Lib.hid (And.intro hb (And.intro hr (And.intro hx (And.intro hv ho))))
      have HN := Lib.hid (And.intro hgp (And.intro hg1 hp))
      clear hb hr hx hv ho hi hgp hg1 hp
      go_wp2_with fail
      go_loopg [39] m (fun g2 l39 wr => ∃ k : Nat, k ≤ m ∧ RowFrom wr (p + 1) g m cap (rowC vs us i m) k ∧ Chg (fun b => b = g) w1 wr ∧ l39 = .int .i64 k ∧ g2 = m - k)
      case atStart => exact ⟨0, Nat.zero_le _, ⟨_, HK.out.2.2.2.2, fun _ _ => rfl⟩, Chg.refl _, rfl, rfl⟩
      case round =>
        obtain ⟨w4, rfl⟩ : ∃ x, x = wr := ⟨_, rfl⟩
        obtain ⟨k, hk, hrow, hxk, rfl, rfl⟩ := hrel
        by_cases hkm : k < m
        · have hkm' : (k : Int) < m := by omega
          obtain ⟨ie, ae, ce, le, hE, hce, hoke⟩ : Bv s (decide (i = k)) (if i = k then us else vs) := by
            by_cases e : i = k
            · rw [if_pos e, decide_eq_true e]; exact HR.out.2.2.2.2.1
            · rw [if_neg e, decide_eq_false e]; exact HR.out.2.2.2.1
          have hat := fun q (hq : q < 5) => rowC_at HR.out.2.2.2.1.len HR.out.2.2.2.2.1.len i k q hq m hkm
          rw [hE] at hat
          obtain ⟨r0, r1, r2, r3, r4⟩ := hrow.at hkm (hat 0 (by omega)) (hat 1 (by omega)) (hat 2 (by omega)) (hat 3 (by omega)) (hat 4 (by omega))
          have kb := Blk.new w4 #[.int .i64 s, .bool ie, .slice ae 0 ce, .int .i64 le, .float .f64 0] 38
          have hxn := (Chg.refl (S := fun _ => False) w4).alloc (.cells #[.int .i64 s, .bool ie, .slice ae 0 ce, .int .i64 le, .float .f64 0] 38)
          obtain ⟨W5, hW5⟩ : ∃ W5, w4.alloc (.cells #[.int .i64 s, .bool ie, .slice ae 0 ce, .int .i64 le, .float .f64 0] 38) = W5 := ⟨_, rfl⟩
          rw [hW5] at kb hxn
          have HW5 := Lib.hid hW5
          have HQ := Lib.hid (And.intro hrow (And.intro hxk (And.intro kb hxn)))
          have HE := Lib.hid (And.intro hce hoke)
          clear hat hE hrow hxk kb hxn hW5 hce hoke hk
          go_upto_region 11 with fail
          rw [HW5.out]
          have HCs := Lib.hid (fun W (hW : Chg (fun b => b = g) W5 W) => let q := blk5_base (HQ.out.2.2.1.chg hW (by have := HN.out.2.1; have := HQ.out.2.1.size; omega)); And.intro q.1 (And.intro q.2.2.1 (And.intro q.2.2.2.2.1 (And.intro q.2.2.2.2.2.2.1 q.2.2.2.2.2.2.2.2.1))))
          clear r0 r1 r2 r3 r4 hM
          have hk0 : (0 : Int) ≤ k := by omega
          go_region_held3 (fun v => v.cell? ⟨w4.heap.size, 0, none⟩ = some (.int .i64 s) ∧ v.cell? ⟨w4.heap.size, 1, none⟩ = some (.bool ie) ∧ v.cell? ⟨w4.heap.size, 2, none⟩ = some (.slice ae 0 ce) ∧ v.cell? ⟨w4.heap.size, 3, none⟩ = some (.int .i64 le) ∧ v.cell? ⟨w4.heap.size, 4, none⟩ = some (.float .f64 0)) (first | with_reducible exact HCs.out _ HS5.out | with_reducible exact HCs.out _ HV.out.1 | with_reducible exact HCs.out _ HU.out.2.2.2 | with_reducible exact HCs.out _ (Chg.refl (S := fun b => b = g) W5).drew) (first | (go_at_call 91; refine (HOn.out _).mono ?_; rintro e w6 ⟨cs, rfl, ⟨i6, a6, c6, l6, rfl, hc6, hok6⟩, hx6⟩; unfold V5; have hx56 : Ext W5 w6 := (Chg.refl (S := fun _ => False) W5).drew.trans hx6; have HU := Lib.hid (And.intro hx56 (And.intro hc6 (And.intro hok6 (show Chg (fun b => b = g) W5 w6 from hx56.mono fun _ _ h => h.elim)))); clear hx6 hx56 hc6 hok6) | (go_at_call 90; refine (HT.out _ _ _ _ _ _ _ _ _ _ HE.out.1 HU.out.2.1 HE.out.2 HU.out.2.2.1 _).mono ?_; rintro e w7 ⟨cs, rfl, ⟨i7, a7, c7, l7, rfl, hc7, hok7⟩, hx7⟩; unfold V5; have hx57 : Ext W5 w7 := HU.out.1.trans hx7; obtain ⟨xs, ho7, hxs7⟩ := HQ.out.1; have ho7' := own_chg ho7 (HQ.out.2.2.2.trans hx57) (fun _ _ h => h); obtain ⟨⟨⟨u0, r0⟩, f0⟩, ⟨⟨u1, r1⟩, f1⟩, ⟨⟨u2, r2⟩, f2⟩, ⟨⟨u3, r3⟩, f3⟩, ⟨⟨u4, r4⟩, f4⟩⟩ := row_facts ho7' hkm (.int .i64 s) (.bool i7) (.slice a7 0 c7) (.int .i64 l7); have HRw := Lib.hid (RowFrom.set (zs := rowC vs us i m) (k := k) ⟨xs, ho7', hxs7⟩ (.int .i64 s) (.bool i7) (.slice a7 0 c7) (.int .i64 l7) (.float .f64 0)); have hs7 : Chg (fun b => b = g) W5 w7 := hx57.mono fun _ _ h => h.elim; have HV := Lib.hid (And.intro hs7 hx57); have HS5 := Lib.hid (set_chg (p := g) (j := k * 5 + 4) (c := .float .f64 0) (set_chg (p := g) (j := k * 5 + 3) (c := .int .i64 l7) (set_chg (p := g) (j := k * 5 + 2) (c := .slice a7 0 c7) (set_chg (p := g) (j := k * 5 + 1) (c := .bool i7) (set_chg (p := g) (j := k * 5) (c := .int .i64 s) hs7))))); clear hx7 hx57 ho7 ho7' hxs7 hs7 hc7 hok7))
          all_goals
            go_wp2_with fail
            go_roundg (m - (k + 1))
            case measure => omega
            case rel => exact ⟨k + 1, by omega, HRw.out, HQ.out.2.1.trans ((HQ.out.2.2.2.mono fun _ _ h => h.elim).trans HS5.out), by simp, rfl⟩
        · have hkm' : ¬ (k : Int) < m := by omega
          have HQ := Lib.hid (And.intro hrow hxk)
          clear hrow hxk hk
          go_wp2_with fail
          go_roundg (m - (i + 1))
          case measure => omega
          case rel =>
            refine ⟨i + 1, by omega, HK.out.1.chg HQ.out.2 (by have := HN.out.1; omega), fun j h1 h2 => ?_, Ext.put HK.out.2.2.1 HQ.out.2 (by have := HN.out.1; have := HN.out.2.2; omega), by simp, rfl⟩
            obtain ⟨v2, h3, h4⟩ := HK.out.2.1 j (by omega) h2
            exact ⟨v2, h3, own_chg h4 HQ.out.2 fun g' e1 e2 => HR.out.2.2.1.apart i j _ v2 g (by omega) h2 HK.out.2.2.2.1 h3 rfl (by rw [e1, e2])⟩
    · have him' : ¬ (i : Int) < m := by omega
      have HK := Lib.hid hx
      clear hb hr hx hi
      go_wp2_with fail
      go_ret2
      exact ⟨_, rfl, HK.out⟩
end Go.Proofs.YtkhllknahjmciaaGreat
