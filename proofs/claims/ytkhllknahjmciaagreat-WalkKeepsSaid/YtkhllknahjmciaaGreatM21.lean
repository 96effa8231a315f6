/-
  A matrix of one value, with another one where a node meets itself (chapter 18).
-/
import Derived.Test.YtkhllknahjmciaaGreatM20
/-! A matrix of one value, with another one where a node meets itself (chapter 18). -/
namespace Go.Proofs.YtkhllknahjmciaaGreat
open Go.RowKit
set_option linter.unusedVariables false
set_option linter.unusedSimpArgs false

theorem info_value : (Tryz.prog.info? 38).map (fun i => (i.zero, i.size, i.bytes)) = some (some (.agg #[.int .i64 0, .bool false, .slice none 0 0, .int .i64 0, .float .f64 0]), 5, 56) := by kernel_rfl
theorem info_vrow : (Tryz.prog.info? 48).map (fun i => (i.zero, i.size, i.bytes)) = some (some (.slice none 0 0), 1, 24) := by kernel_rfl
/-- What stands in row i, of k columns. -/
def rowC (vs us : List Value) (i k : Nat) : List Value := ((List.range k).map fun j => if i = j then us else vs).flatten
theorem rowC_succ (vs us : List Value) (i k : Nat) : rowC vs us i (k + 1) = rowC vs us i k ++ (if i = k then us else vs) := by
  unfold rowC
  rw [List.range_succ, List.map_append, List.flatten_append]
  simp
/-- The first i rows of a matrix stand, each in its own block, above base. -/
structure RowsM (W : World) (base : Nat) (vs us : List Value) (rs : List Value) (i m : Nat) : Prop where
  row : ∀ j, j < i → ∃ v, rs[j]? = some v ∧ W.ownsRow base 38 5 v m (rowC vs us j m)
  apart : ∀ j j' v v' g, j < j' → j' < i → rs[j]? = some v → rs[j']? = some v' → v.ownBlock = some g → v'.ownBlock ≠ some g
theorem RowsM.nil (W : World) (base : Nat) (vs us rs : List Value) (m : Nat) : RowsM W base vs us rs 0 m := ⟨fun j h => by omega, fun j j' v v' g h1 h2 => by omega⟩
theorem own_block_lt {w : World} {base e size n : Nat} {v : Value} {xs : List Value} (h : w.ownsRow base e size v n xs) (g : Nat) (hg : v.ownBlock = some g) : base ≤ g ∧ g < w.heap.size := h.lt g hg
theorem own_weak {w : World} {base base' e size n : Nat} {v : Value} {xs : List Value} (h : w.ownsRow base e size v n xs) (hb : base' ≤ base) : w.ownsRow base' e size v n xs := by
  refine ⟨h.1, ?_⟩
  rcases h.2 with h | ⟨g, cap, cur, rfl, h1, h2⟩
  · exact .inl h
  · exact .inr ⟨g, cap, cur, rfl, by omega, h2⟩
theorem RowsM.next {W1 W : World} {base M : Nat} {vs us rs : List Value} {i m : Nat} {v : Value} (h : RowsM W1 base vs us rs i m) (hM : M < base) (hb : base ≤ W1.heap.size) (hi : i < rs.length) (k : Chg (fun b => b = M) W1 W) (hv : W.ownsRow W1.heap.size 38 5 v m (rowC vs us i m)) :
    RowsM W base vs us (rs.set i v) (i + 1) m := by
  constructor
  · intro j hj
    by_cases e : j = i
    · subst e
      exact ⟨v, by simp [hi], own_weak hv hb⟩
    · obtain ⟨u, hu, ho⟩ := h.row j (by omega)
      exact ⟨u, by rw [List.getElem?_set_ne (by omega)]; exact hu, own_chg ho k fun g hg e2 => by have := (own_block_lt ho g hg).1; omega⟩
  · intro j j' u u' g h1 h2 h3 h4 h5 h6
    by_cases e : j' = i
    · subst e
      rw [List.getElem?_set_ne (by omega)] at h3
      simp [hi] at h4
      subst h4
      obtain ⟨u2, h7, ho⟩ := h.row j h1
      obtain rfl : u = u2 := by simpa using h3.symm.trans h7
      have e1 := (own_block_lt ho g h5).2
      have e2 := (own_block_lt hv g h6).1
      omega
    · rw [List.getElem?_set_ne (by omega)] at h3 h4
      exact h.apart j j' u u' g h1 (by omega) h3 h4 h5 h6
set_option maxRecDepth 100000 in
set_option maxHeartbeats 1000000 in
theorem blank_any (na : Option Addr) (m nc : Nat) (ea : Option Addr) (n ec : Nat) (d s : Int) (x2 : Value) (s1 : Int) (i1 : Bool) (a1 : Option Addr) (c1 : Nat) (l1 : Int) (s2 : Int) (i2 : Bool) (a2 : Option Addr) (c2 : Nat) (l2 : Int) (hm : m ≤ 1000) (w : World) :
    Calls Tryz.prog 194 #[.agg #[.slice na m nc, .slice ea n ec, .int .i64 d, .int .i64 s, x2], .agg (V5 s1 i1 a1 c1 l1).toArray, .agg (V5 s2 i2 a2 c2 l2).toArray] w fun e w' =>
      ∃ rs, e = .returned (.slice (some ⟨w.heap.size + 3, 0, none⟩) m m) ∧ rs.length = m ∧ Blk w' (w.heap.size + 3) rs.toArray 48 ∧ RowsM w' (w.heap.size + 4) (V5 s1 i1 a1 c1 l1) (V5 s2 i2 a2 c2 l2) rs m m ∧ Ext w w' := by
  obtain ⟨i0, hi0, hii⟩ := Option.map_eq_some_iff.1 info_value
  obtain ⟨hz0, hz1, hz2⟩ : i0.zero = some (.agg #[.int .i64 0, .bool false, .slice none 0 0, .int .i64 0, .float .f64 0]) ∧ i0.size = 5 ∧ i0.bytes = 56 := by
    have := hii; simp at this; exact this
  have HI := Lib.hid (And.intro hi0 (And.intro hz0 (And.intro hz1 hz2)))
  obtain ⟨i3, hi3, hii3⟩ := Option.map_eq_some_iff.1 info_vrow
  obtain ⟨hy0, hy1, hy2⟩ : i3.zero = some (.slice none 0 0) ∧ i3.size = 1 ∧ i3.bytes = 24 := by
    have := hii3; simp at this; exact this
  have hmk := fun W => run_make (P := Tryz.prog) W 154 48 i3 (.slice none 0 0) Tryz.underlying154 hi3 hy0 .i64 .i64 m m (by omega) (by omega) (by rw [hy2]; omega) (by omega)
  rw [hy1] at hmk
  obtain ⟨rs0, hrs0, hlen0, hnil0⟩ : ∃ rs0 : List Value, madeCells (Value.slice none 0 0).cells ((m : Int).toNat * 1) = rs0.toArray ∧ rs0.length = m ∧ ∀ j, j < m → rs0[j]? = some (.slice none 0 0) := by
    refine ⟨(madeCells (Value.slice none 0 0).cells ((m : Int).toNat * 1)).toList, by simp, by simp [size_madeCells], fun j hj => ?_⟩
    simp [madeCells, Value.cells, hj, Nat.mod_one]
  rw [hrs0] at hmk
  simp only [Int.toNat_natCast] at hmk
  clear hi0 hii hz0 hz1 hz2 hi3 hii3 hy0 hy1 hy2 hrs0
  obtain ⟨vs, hvs⟩ : ∃ vs, V5 s1 i1 a1 c1 l1 = vs := ⟨_, rfl⟩
  obtain ⟨us, hus⟩ : ∃ us, V5 s2 i2 a2 c2 l2 = us := ⟨_, rfl⟩
  have HV := Lib.hid (And.intro hvs hus)
  have hb1 := Blk.new w #[.slice na m nc, .slice ea n ec, .int .i64 d, .int .i64 s, x2] 150
  have hw1 := (Chg.refl (S := fun _ => False) w).alloc (.cells #[.slice na m nc, .slice ea n ec, .int .i64 d, .int .i64 s, x2] 150)
  obtain ⟨A1, hA1⟩ : ∃ A, w.alloc (.cells #[.slice na m nc, .slice ea n ec, .int .i64 d, .int .i64 s, x2] 150) = A := ⟨_, rfl⟩
  have sA1 : A1.heap.size = w.heap.size + 1 := by rw [← hA1]; simp
  have hb2 := Blk.new A1 #[.int .i64 s1, .bool i1, .slice a1 0 c1, .int .i64 l1, .float .f64 0] 38
  have e2 := (Chg.refl (S := fun _ => False) A1).alloc (.cells #[.int .i64 s1, .bool i1, .slice a1 0 c1, .int .i64 l1, .float .f64 0] 38)
  obtain ⟨A2, hA2⟩ : ∃ A, A1.alloc (.cells #[.int .i64 s1, .bool i1, .slice a1 0 c1, .int .i64 l1, .float .f64 0] 38) = A := ⟨_, rfl⟩
  have sA2 : A2.heap.size = w.heap.size + 1 + 1 := by rw [← hA2]; simp [sA1]
  have hb3 := Blk.new A2 #[.int .i64 s2, .bool i2, .slice a2 0 c2, .int .i64 l2, .float .f64 0] 38
  have e3 := (Chg.refl (S := fun _ => False) A2).alloc (.cells #[.int .i64 s2, .bool i2, .slice a2 0 c2, .int .i64 l2, .float .f64 0] 38)
  obtain ⟨A3, hA3⟩ : ∃ A, A2.alloc (.cells #[.int .i64 s2, .bool i2, .slice a2 0 c2, .int .i64 l2, .float .f64 0] 38) = A := ⟨_, rfl⟩
  have sA3 : A3.heap.size = w.heap.size + 1 + 1 + 1 := by rw [← hA3]; simp [sA2]
  have hb4 := Blk.new A3 rs0.toArray 48
  have e4 := (Chg.refl (S := fun _ => False) A3).alloc (.cells rs0.toArray 48)
  obtain ⟨A4, hA4⟩ : ∃ A, A3.alloc (.cells rs0.toArray 48) = A := ⟨_, rfl⟩
  have sA4 : A4.heap.size = w.heap.size + 1 + 1 + 1 + 1 := by rw [← hA4]; simp [sA3]
  rw [hA1] at hb1 hw1
  rw [hA2] at hb2 e2
  rw [hA3] at hb3 e3
  rw [hA4] at hb4 e4
  rw [sA1] at hb2
  rw [sA2] at hb3
  rw [sA3] at hb4
  have hb1' := hb1.chg ((e2.trans e3).trans e4) (fun h => h)
  have hb2' := hb2.chg (e3.trans e4) (fun h => h)
  have hb3' := hb3.chg e4 (fun h => h)
  obtain ⟨y0, -⟩ := blk5_base (hb1.chg (e2.trans e3) (fun h => h))
  have HX := Lib.hid (And.intro hb1' (And.intro hb2' (And.intro hb3' (And.intro hb4 (And.intro (((hw1.trans e2).trans e3).trans e4) sA4)))))
  have HA := Lib.hid (And.intro hA1 (And.intro hA2 (And.intro hA3 hA4)))
  have HS := Lib.hid (And.intro sA1 (And.intro sA2 sA3))
  clear hb1 hb2 hb3 hb4 hw1 e2 e3 e4 hb1' hb2' hb3' hA1 hA2 hA3 hA4 sA1 sA2 sA3 sA4 hvs hus
  unfold V5
  go_enter Tryz.func194, Tryz.ntmps194
  go_wp2_with fail
  rw [HA.out.1, HA.out.2.1, HA.out.2.2.1, HA.out.2.2.2]
  obtain ⟨M, hMe⟩ : ∃ M, w.heap.size + 1 + 1 + 1 = M := ⟨_, rfl⟩
  have HMe := Lib.hid hMe
  rw [hMe]
  clear hMe
  go_loopg [17] m (fun g l17 wr => ∃ (i : Nat) (rs : List Value), i ≤ m ∧ rs.length = m ∧ Blk wr M rs.toArray 48 ∧ RowsM wr (M + 1) vs us rs i m ∧ (∀ j, i ≤ j → j < m → rs[j]? = some (.slice none 0 0)) ∧ Chg (fun b => b = M) A4 wr ∧ l17 = .int .i64 i ∧ g = m - i)
  case atStart => exact ⟨0, rs0, Nat.zero_le _, hlen0, by rw [← HMe.out]; exact HX.out.2.2.2.1, RowsM.nil _ _ _ _ _ _, fun j _ hj => hnil0 j hj, Chg.refl _, rfl, rfl⟩
  case round =>
    clear y0
    obtain ⟨w1, rfl⟩ : ∃ x, x = wr := ⟨_, rfl⟩
    obtain ⟨i, rs, hi, hlen, hb, hr, hn0, hx, rfl, rfl⟩ := hrel
    obtain ⟨y0, -⟩ := blk5_base (HX.out.1.chg hx (by have := HMe.out; omega))
    by_cases him : i < m
    · have him' : (i : Int) < m := by omega
      have h0i : (0 : Int) ≤ i := by omega
      have HR := Lib.hid (And.intro hb (And.intro hr (And.intro hn0 hx)))
      have HL := Lib.hid hlen
      clear hb hr hn0 hx hlen hi
      go_wp2_with fail
      go_loopg [24] m (fun g l24 w3 => ∃ (k : Nat) (v : Value), k ≤ m ∧ w3.ownsRow w1.heap.size 38 5 v k (rowC vs us i k) ∧ Blk w3 M (rs.set i v).toArray 48 ∧ Chg (fun b => b = M) w1 w3 ∧ l24 = .int .i64 k ∧ g = m - k)
      case atStart =>
        refine ⟨0, .slice none 0 0, Nat.zero_le _, World.ownsRow_nil _ _ _ _, ?_, Chg.refl _, rfl, rfl⟩
        rw [show rs.set i (.slice none 0 0) = rs from List.ext_getElem? fun j => by
          by_cases e : j = i
          · subst e
            rw [List.getElem?_set_self (by rw [HL.out]; exact him), HR.out.2.2.1 j (Nat.le_refl _) him]
          · rw [List.getElem?_set_ne (fun h => e h.symm)]]
        exact HR.out.1
      case round =>
        obtain ⟨w3, rfl⟩ : ∃ x, x = wr := ⟨_, rfl⟩
        obtain ⟨k, v, hk, ho, hbk, hxk, rfl, rfl⟩ := hrel
        by_cases hkm : k < m
        · have hkm' : (k : Int) < m := by omega
          have hb3 := (HX.out.2.2.1.chg HR.out.2.2.2 (by have := HMe.out; omega)).chg hxk (by have := HMe.out; omega)
          have hb2 := (HX.out.2.1.chg HR.out.2.2.2 (by have := HMe.out; omega)).chg hxk (by have := HMe.out; omega)
          have hlt2 : w.heap.size + 1 + 1 < w3.heap.size := hb3.lt
          have hltM : M < w3.heap.size := hbk.lt
          have hwr : w1.heap.size ≤ w3.heap.size := hxk.size
          have hltR : M < w1.heap.size := HR.out.1.lt
          have kM : w3.cell? ⟨M, i, none⟩ = some v := hbk.cell i v (by simp [HL.out, him])
          have kF : w3.frozen? ⟨M, i, none⟩ = false := hbk.frozen i
          have HQ := Lib.hid (And.intro ho (And.intro hbk (And.intro hxk (And.intro hb2 hb3))))
          have HN := Lib.hid (And.intro hlt2 (And.intro hltM (And.intro hwr hltR)))
          clear ho hbk hxk hb2 hb3 hlt2 hltM hwr hltR hk
          have HA4 : Hid (A4.heap.size ≤ w1.heap.size) := Lib.hid HR.out.2.2.2.size
          by_cases hik : i = k
          · have HIK := Lib.hid hik
            have HRC : Hid (rowC vs us i (k + 1) = rowC vs us i k ++ [.int .i64 s2, .bool i2, .slice a2 0 c2, .int .i64 l2, .float .f64 0]) := Lib.hid (by rw [rowC_succ, if_pos hik, ← HV.out.2]; rfl)
            have hb1 : ((i : Int) == (k : Int)) = true := by simp [hik]
            have hb2 : decide ((i : Int) = (k : Int)) = true := by simp [hik]
            have hb3 : decide (i = k) = true := by simp [hik]
            clear hik
            have kM2 := (HQ.out.2.1.chg ((Chg.refl (S := fun _ => False) w3).alloc (.cells #[.int .i64 s2, .bool i2, .slice a2 0 c2, .int .i64 l2, .float .f64 0] 38)) (fun h => h)).cell i v (by simp [HL.out, him])
            obtain ⟨v0, -, v1, -, v2, -, v3, -, v4, -⟩ := blk5_base HQ.out.2.2.2.2
            have HCs := Lib.hid (fun W (hW : Chg (fun b => b = M ∨ v.ownBlock = some b) w3 W) => let q := blk5_base (Blk.chg (HQ.out.2.2.2.2) hW (fun e => by rcases e with e | e; (have := HMe.out; omega); (have := (HQ.out.1.lt _ e).1; have := HX.out.2.2.2.2.2; have := HA4.out; omega))); And.intro q.1 (And.intro q.2.2.1 (And.intro q.2.2.2.2.1 (And.intro q.2.2.2.2.2.2.1 q.2.2.2.2.2.2.2.2.1))))
            go_upto_region 9 with fail
            refine wp_region_held_drew (S := fun W => W.cell? ⟨w.heap.size + 1 + 1, 0, none⟩ = some (.int .i64 s2) ∧ W.cell? ⟨w.heap.size + 1 + 1, 1, none⟩ = some (.bool i2) ∧ W.cell? ⟨w.heap.size + 1 + 1, 2, none⟩ = some (.slice a2 0 c2) ∧ W.cell? ⟨w.heap.size + 1 + 1, 3, none⟩ = some (.int .i64 l2) ∧ W.cell? ⟨w.heap.size + 1 + 1, 4, none⟩ = some (.float .f64 0)) (by kernel_rfl) (HCs.out _ (Chg.refl (S := _) w3).drew) (fun hHeld => ?_)
            refine wpAnyH_take (i := 0) (v := .slice (some ⟨M, 0, none⟩) m m) rfl (by kernel_rfl) (by kernel_rfl) (by kernel_rfl) (fun _ _ _ h => h) (Or.inl ⟨by rfl, ?_⟩) hHeld ?_
            · intro wS hSw
              obtain ⟨hs0, hs1, hs2, hs3, hs4⟩ := hSw
              go_simp
            simp only [Act.put, List.setIfInBounds_toArray, List.set_cons_zero, List.set_cons_succ]
            refine wpAnyH_take (i := 1) (v := .int .i64 i) rfl (by kernel_rfl) (by kernel_rfl) (by kernel_rfl) (fun _ _ _ h => h) (Or.inl ⟨by rfl, ?_⟩) hHeld ?_
            · intro wS hSw
              obtain ⟨hs0, hs1, hs2, hs3, hs4⟩ := hSw
              go_simp
            simp only [Act.put, List.setIfInBounds_toArray, List.set_cons_zero, List.set_cons_succ]
            refine wpAnyH_take (i := 2) (v := .slice (some ⟨M, 0, none⟩) m m) rfl (by kernel_rfl) (by kernel_rfl) (by kernel_rfl) (fun _ _ _ h => h) (Or.inl ⟨by rfl, ?_⟩) hHeld ?_
            · intro wS hSw
              obtain ⟨hs0, hs1, hs2, hs3, hs4⟩ := hSw
              go_simp
            simp only [Act.put, List.setIfInBounds_toArray, List.set_cons_zero, List.set_cons_succ]
            refine wpAnyH_take (i := 3) (v := .int .i64 i) rfl (by kernel_rfl) (by kernel_rfl) (by kernel_rfl) (fun _ _ _ h => h) (Or.inl ⟨by rfl, ?_⟩) hHeld ?_
            · intro wS hSw
              obtain ⟨hs0, hs1, hs2, hs3, hs4⟩ := hSw
              go_simp
            simp only [Act.put, List.setIfInBounds_toArray, List.set_cons_zero, List.set_cons_succ]
            refine wpAnyH_take (i := 4) (v := .pointer (some ⟨M, i, none⟩)) rfl (by kernel_rfl) (by kernel_rfl) (by kernel_rfl) (fun _ _ _ h => h) (Or.inl ⟨by rfl, ?_⟩) hHeld ?_
            · intro wS hSw
              obtain ⟨hs0, hs1, hs2, hs3, hs4⟩ := hSw
              go_simp
            simp only [Act.put, List.setIfInBounds_toArray, List.set_cons_zero, List.set_cons_succ]
            refine wpAnyH_take (i := 6) (v := .agg #[.int .i64 s2, .bool i2, .slice a2 0 c2, .int .i64 l2, .float .f64 0]) rfl (by kernel_rfl) (by kernel_rfl) (by kernel_rfl) (fun _ _ _ h => h) (Or.inl ⟨by rfl, ?_⟩) hHeld ?_
            · intro wS hSw
              obtain ⟨hs0, hs1, hs2, hs3, hs4⟩ := hSw
              go_simp
            simp only [Act.put, List.setIfInBounds_toArray, List.set_cons_zero, List.set_cons_succ]
            refine wpAnyH_ready (rs := [5, 7]) (by kernel_rfl) (by simp) ?_
            refine AllReadyH.cons rfl (fun K hK => ?_) ?_
            · go_simp
              refine hK.out _ _ (by exact hHeld) (fun hHeld => ?_)
              clear hK K
              refine wpAnyH_ready (rs := [7]) (by kernel_rfl) (by simp) ?_
              refine AllReadyH.cons rfl (fun K hK => ?_) ?_
              · go_simp
                refine hK.out _ _ (HCs.out _ ((Chg.refl (S := _) w3).alloc _).drew) (fun hHeld => ?_)
                clear hK K
                refine wpAnyH_ready (rs := [8]) (by kernel_rfl) (by simp) ?_
                refine AllReadyH.cons rfl (fun K hK => ?_) ?_
                · refine step_append_st rfl ((.tmp 35)) ((.tmp 37)) 48 rfl w1.heap.size 38 i0 (.agg #[.int .i64 0, .bool false, .slice none 0 0, .int .i64 0, .float .f64 0]) 5 56 Tryz.underlying48 HI.out.1 HI.out.2.1 HI.out.2.2.1 HI.out.2.2.2 rfl (by decide) v k _ rfl (own_low HQ.out.1 ((Chg.refl _).alloc _).drew (fun _ _ h => h)) ⟨w3.heap.size, 0, none⟩ 1 1 [.int .i64 s2, .bool i2, .slice a2 0 c2, .int .i64 l2, .float .f64 0] rfl rfl (by exact fun j u hj => news w3.drew [.int .i64 s2, .bool i2, .slice a2 0 c2, .int .i64 l2, .float .f64 0] 38 j u hj) (by simp [Value.oneCell']) (by unfold maxLen; omega) (by omega) (by have := HN.out.2.2.1; simp; omega) ?_
                  intro v'' w' u1 u2 u3
                  obtain ⟨a', cap', rfl⟩ := own_slice u1
                  have hg := (Chg.refl (S := fun b => v.ownBlock = some b) w3).drew.trans (grow_chg (wr := w3.drew) u2)
                  have hM : ¬ v.ownBlock = some M := fun e => by have := (HQ.out.1.lt _ e).1; have := HN.out.2.2.2; omega
                  have kb := HQ.out.2.1.chg hg hM
                  have kM' : w'.cell? ⟨M, i, none⟩ = some v := kb.cell i v (by simp [HL.out, him])
                  have kF' : w'.frozen? ⟨M, i, none⟩ = false := kb.frozen i
                  have HF := Lib.hid (And.intro u1 (And.intro hg kb))
                  have HS5 := Lib.hid (HCs.out _ ((hg.mono (fun _ _ h => .inr h)).setCell ⟨M, i, none⟩ (.slice a' (k + 1) cap') (fun _ => .inl rfl)))
                  refine hK.out _ _ (HCs.out _ (hg.mono (fun _ _ h => .inr h))) (fun hHeld => ?_)
                  clear hK K u1 u2 u3 hg kb hM
                  simp only [Act.put, List.setIfInBounds_toArray, List.set_cons_zero, List.set_cons_succ]
                  refine wpAnyH_take (i := 9) (v := .pointer (some ⟨M, i, none⟩)) rfl (by kernel_rfl) (by kernel_rfl) (by kernel_rfl) (fun _ _ _ h => h) (Or.inl ⟨by rfl, ?_⟩) hHeld ?_
                  · intro wS hSw
                    obtain ⟨hs0, hs1, hs2, hs3, hs4⟩ := hSw
                    go_simp
                  simp only [Act.put, List.setIfInBounds_toArray, List.set_cons_zero, List.set_cons_succ]
                  refine wpAnyH_ready (rs := [10]) (by kernel_rfl) (by simp) ?_
                  refine AllReadyH.cons rfl (fun K hK => ?_) ?_
                  · go_simp
                    refine hK.out _ _ HS5.out (fun hHeld => ?_)
                    clear hK K hHeld
                    refine wpAnyH_done (by kernel_rfl) ?_ _
                    clear v0 v1 v2 v3 v4
                    go_wp2_with fail
                    go_roundg (m - (k + 1))
                    case measure => omega
                    case rel => exact ⟨k + 1, .slice a' (k + 1) cap', by omega, by rw [HRC.out]; exact own_chg HF.out.1 (set_chg (Chg.refl _)) (fun g h1 h2 => by have := (own_block_lt HF.out.1 g h1).1; have := HN.out.2.2.2; omega), by have := HF.out.2.2.set i (.slice a' (k + 1) cap'); simpa using this, ((HQ.out.2.2.1.mono (T := fun b => b = M ∨ v.ownBlock = some b) (fun _ _ h => .inl h)).trans ((HF.out.2.1.mono (fun _ _ h => .inr h)).setCell ⟨M, i, none⟩ (.slice a' (k + 1) cap') (fun _ => .inl rfl))).mono (fun b hb h => h.elim id (fun e => by have := (own_block_lt HQ.out.1 b e).1; omega)), by simp, rfl⟩
                  exact AllReadyH.nil
                exact AllReadyH.nil
              exact AllReadyH.nil
            refine AllReadyH.cons rfl (fun K hK => ?_) ?_
            · go_simp
              refine hK.out _ _ (HCs.out _ ((Chg.refl (S := _) w3).alloc _).drew) (fun hHeld => ?_)
              clear hK K
              refine wpAnyH_ready (rs := [5]) (by kernel_rfl) (by simp) ?_
              refine AllReadyH.cons rfl (fun K hK => ?_) ?_
              · go_simp
                refine hK.out _ _ (by exact hHeld) (fun hHeld => ?_)
                clear hK K
                refine wpAnyH_ready (rs := [8]) (by kernel_rfl) (by simp) ?_
                refine AllReadyH.cons rfl (fun K hK => ?_) ?_
                · refine step_append_st rfl ((.tmp 35)) ((.tmp 37)) 48 rfl w1.heap.size 38 i0 (.agg #[.int .i64 0, .bool false, .slice none 0 0, .int .i64 0, .float .f64 0]) 5 56 Tryz.underlying48 HI.out.1 HI.out.2.1 HI.out.2.2.1 HI.out.2.2.2 rfl (by decide) v k _ rfl (own_low HQ.out.1 ((Chg.refl _).alloc _).drew (fun _ _ h => h)) ⟨w3.heap.size, 0, none⟩ 1 1 [.int .i64 s2, .bool i2, .slice a2 0 c2, .int .i64 l2, .float .f64 0] rfl rfl (by exact fun j u hj => news w3.drew [.int .i64 s2, .bool i2, .slice a2 0 c2, .int .i64 l2, .float .f64 0] 38 j u hj) (by simp [Value.oneCell']) (by unfold maxLen; omega) (by omega) (by have := HN.out.2.2.1; simp; omega) ?_
                  intro v'' w' u1 u2 u3
                  obtain ⟨a', cap', rfl⟩ := own_slice u1
                  have hg := (Chg.refl (S := fun b => v.ownBlock = some b) w3).drew.trans (grow_chg (wr := w3.drew) u2)
                  have hM : ¬ v.ownBlock = some M := fun e => by have := (HQ.out.1.lt _ e).1; have := HN.out.2.2.2; omega
                  have kb := HQ.out.2.1.chg hg hM
                  have kM' : w'.cell? ⟨M, i, none⟩ = some v := kb.cell i v (by simp [HL.out, him])
                  have kF' : w'.frozen? ⟨M, i, none⟩ = false := kb.frozen i
                  have HF := Lib.hid (And.intro u1 (And.intro hg kb))
                  have HS5 := Lib.hid (HCs.out _ ((hg.mono (fun _ _ h => .inr h)).setCell ⟨M, i, none⟩ (.slice a' (k + 1) cap') (fun _ => .inl rfl)))
                  refine hK.out _ _ (HCs.out _ (hg.mono (fun _ _ h => .inr h))) (fun hHeld => ?_)
                  clear hK K u1 u2 u3 hg kb hM
                  simp only [Act.put, List.setIfInBounds_toArray, List.set_cons_zero, List.set_cons_succ]
                  refine wpAnyH_take (i := 9) (v := .pointer (some ⟨M, i, none⟩)) rfl (by kernel_rfl) (by kernel_rfl) (by kernel_rfl) (fun _ _ _ h => h) (Or.inl ⟨by rfl, ?_⟩) hHeld ?_
                  · intro wS hSw
                    obtain ⟨hs0, hs1, hs2, hs3, hs4⟩ := hSw
                    go_simp
                  simp only [Act.put, List.setIfInBounds_toArray, List.set_cons_zero, List.set_cons_succ]
                  refine wpAnyH_ready (rs := [10]) (by kernel_rfl) (by simp) ?_
                  refine AllReadyH.cons rfl (fun K hK => ?_) ?_
                  · go_simp
                    refine hK.out _ _ HS5.out (fun hHeld => ?_)
                    clear hK K hHeld
                    refine wpAnyH_done (by kernel_rfl) ?_ _
                    clear v0 v1 v2 v3 v4
                    go_wp2_with fail
                    go_roundg (m - (k + 1))
                    case measure => omega
                    case rel => exact ⟨k + 1, .slice a' (k + 1) cap', by omega, by rw [HRC.out]; exact own_chg HF.out.1 (set_chg (Chg.refl _)) (fun g h1 h2 => by have := (own_block_lt HF.out.1 g h1).1; have := HN.out.2.2.2; omega), by have := HF.out.2.2.set i (.slice a' (k + 1) cap'); simpa using this, ((HQ.out.2.2.1.mono (T := fun b => b = M ∨ v.ownBlock = some b) (fun _ _ h => .inl h)).trans ((HF.out.2.1.mono (fun _ _ h => .inr h)).setCell ⟨M, i, none⟩ (.slice a' (k + 1) cap') (fun _ => .inl rfl))).mono (fun b hb h => h.elim id (fun e => by have := (own_block_lt HQ.out.1 b e).1; omega)), by simp, rfl⟩
                  exact AllReadyH.nil
                exact AllReadyH.nil
              exact AllReadyH.nil
            exact AllReadyH.nil
          · have HIK := Lib.hid hik
            have HRC : Hid (rowC vs us i (k + 1) = rowC vs us i k ++ [.int .i64 s1, .bool i1, .slice a1 0 c1, .int .i64 l1, .float .f64 0]) := Lib.hid (by rw [rowC_succ, if_neg hik, ← HV.out.1]; rfl)
            have hb0 : ¬ (i : Int) = (k : Int) := by omega
            have hb1 : ((i : Int) == (k : Int)) = false := by simp; omega
            have kM2 := (HQ.out.2.1.chg ((Chg.refl (S := fun _ => False) w3).alloc (.cells #[.int .i64 s1, .bool i1, .slice a1 0 c1, .int .i64 l1, .float .f64 0] 38)) (fun h => h)).cell i v (by simp [HL.out, him])
            obtain ⟨v0, -, v1, -, v2, -, v3, -, v4, -⟩ := blk5_base HQ.out.2.2.2.1
            have HCs := Lib.hid (fun W (hW : Chg (fun b => b = M ∨ v.ownBlock = some b) w3 W) => let q := blk5_base (Blk.chg (HQ.out.2.2.2.1) hW (fun e => by rcases e with e | e; (have := HMe.out; omega); (have := (HQ.out.1.lt _ e).1; have := HX.out.2.2.2.2.2; have := HA4.out; omega))); And.intro q.1 (And.intro q.2.2.1 (And.intro q.2.2.2.2.1 (And.intro q.2.2.2.2.2.2.1 q.2.2.2.2.2.2.2.2.1))))
            go_upto_region 10 with fail
            refine wp_region_held_drew (S := fun W => W.cell? ⟨w.heap.size + 1, 0, none⟩ = some (.int .i64 s1) ∧ W.cell? ⟨w.heap.size + 1, 1, none⟩ = some (.bool i1) ∧ W.cell? ⟨w.heap.size + 1, 2, none⟩ = some (.slice a1 0 c1) ∧ W.cell? ⟨w.heap.size + 1, 3, none⟩ = some (.int .i64 l1) ∧ W.cell? ⟨w.heap.size + 1, 4, none⟩ = some (.float .f64 0)) (by kernel_rfl) (HCs.out _ (Chg.refl (S := _) w3).drew) (fun hHeld => ?_)
            refine wpAnyH_take (i := 0) (v := .slice (some ⟨M, 0, none⟩) m m) rfl (by kernel_rfl) (by kernel_rfl) (by kernel_rfl) (fun _ _ _ h => h) (Or.inl ⟨by rfl, ?_⟩) hHeld ?_
            · intro wS hSw
              obtain ⟨hs0, hs1, hs2, hs3, hs4⟩ := hSw
              go_simp
            simp only [Act.put, List.setIfInBounds_toArray, List.set_cons_zero, List.set_cons_succ]
            refine wpAnyH_take (i := 1) (v := .int .i64 i) rfl (by kernel_rfl) (by kernel_rfl) (by kernel_rfl) (fun _ _ _ h => h) (Or.inl ⟨by rfl, ?_⟩) hHeld ?_
            · intro wS hSw
              obtain ⟨hs0, hs1, hs2, hs3, hs4⟩ := hSw
              go_simp
            simp only [Act.put, List.setIfInBounds_toArray, List.set_cons_zero, List.set_cons_succ]
            refine wpAnyH_take (i := 2) (v := .slice (some ⟨M, 0, none⟩) m m) rfl (by kernel_rfl) (by kernel_rfl) (by kernel_rfl) (fun _ _ _ h => h) (Or.inl ⟨by rfl, ?_⟩) hHeld ?_
            · intro wS hSw
              obtain ⟨hs0, hs1, hs2, hs3, hs4⟩ := hSw
              go_simp
            simp only [Act.put, List.setIfInBounds_toArray, List.set_cons_zero, List.set_cons_succ]
            refine wpAnyH_take (i := 3) (v := .int .i64 i) rfl (by kernel_rfl) (by kernel_rfl) (by kernel_rfl) (fun _ _ _ h => h) (Or.inl ⟨by rfl, ?_⟩) hHeld ?_
            · intro wS hSw
              obtain ⟨hs0, hs1, hs2, hs3, hs4⟩ := hSw
              go_simp
            simp only [Act.put, List.setIfInBounds_toArray, List.set_cons_zero, List.set_cons_succ]
            refine wpAnyH_take (i := 4) (v := .pointer (some ⟨M, i, none⟩)) rfl (by kernel_rfl) (by kernel_rfl) (by kernel_rfl) (fun _ _ _ h => h) (Or.inl ⟨by rfl, ?_⟩) hHeld ?_
            · intro wS hSw
              obtain ⟨hs0, hs1, hs2, hs3, hs4⟩ := hSw
              go_simp
            simp only [Act.put, List.setIfInBounds_toArray, List.set_cons_zero, List.set_cons_succ]
            refine wpAnyH_take (i := 6) (v := .agg #[.int .i64 s1, .bool i1, .slice a1 0 c1, .int .i64 l1, .float .f64 0]) rfl (by kernel_rfl) (by kernel_rfl) (by kernel_rfl) (fun _ _ _ h => h) (Or.inl ⟨by rfl, ?_⟩) hHeld ?_
            · intro wS hSw
              obtain ⟨hs0, hs1, hs2, hs3, hs4⟩ := hSw
              go_simp
            simp only [Act.put, List.setIfInBounds_toArray, List.set_cons_zero, List.set_cons_succ]
            refine wpAnyH_ready (rs := [5, 7]) (by kernel_rfl) (by simp) ?_
            refine AllReadyH.cons rfl (fun K hK => ?_) ?_
            · go_simp
              refine hK.out _ _ (by exact hHeld) (fun hHeld => ?_)
              clear hK K
              refine wpAnyH_ready (rs := [7]) (by kernel_rfl) (by simp) ?_
              refine AllReadyH.cons rfl (fun K hK => ?_) ?_
              · go_simp
                refine hK.out _ _ (HCs.out _ ((Chg.refl (S := _) w3).alloc _).drew) (fun hHeld => ?_)
                clear hK K
                refine wpAnyH_ready (rs := [8]) (by kernel_rfl) (by simp) ?_
                refine AllReadyH.cons rfl (fun K hK => ?_) ?_
                · refine step_append_st rfl ((.tmp 45)) ((.tmp 47)) 48 rfl w1.heap.size 38 i0 (.agg #[.int .i64 0, .bool false, .slice none 0 0, .int .i64 0, .float .f64 0]) 5 56 Tryz.underlying48 HI.out.1 HI.out.2.1 HI.out.2.2.1 HI.out.2.2.2 rfl (by decide) v k _ rfl (own_low HQ.out.1 ((Chg.refl _).alloc _).drew (fun _ _ h => h)) ⟨w3.heap.size, 0, none⟩ 1 1 [.int .i64 s1, .bool i1, .slice a1 0 c1, .int .i64 l1, .float .f64 0] rfl rfl (by exact fun j u hj => news w3.drew [.int .i64 s1, .bool i1, .slice a1 0 c1, .int .i64 l1, .float .f64 0] 38 j u hj) (by simp [Value.oneCell']) (by unfold maxLen; omega) (by omega) (by have := HN.out.2.2.1; simp; omega) ?_
                  intro v'' w' u1 u2 u3
                  obtain ⟨a', cap', rfl⟩ := own_slice u1
                  have hg := (Chg.refl (S := fun b => v.ownBlock = some b) w3).drew.trans (grow_chg (wr := w3.drew) u2)
                  have hM : ¬ v.ownBlock = some M := fun e => by have := (HQ.out.1.lt _ e).1; have := HN.out.2.2.2; omega
                  have kb := HQ.out.2.1.chg hg hM
                  have kM' : w'.cell? ⟨M, i, none⟩ = some v := kb.cell i v (by simp [HL.out, him])
                  have kF' : w'.frozen? ⟨M, i, none⟩ = false := kb.frozen i
                  have HF := Lib.hid (And.intro u1 (And.intro hg kb))
                  have HS5 := Lib.hid (HCs.out _ ((hg.mono (fun _ _ h => .inr h)).setCell ⟨M, i, none⟩ (.slice a' (k + 1) cap') (fun _ => .inl rfl)))
                  refine hK.out _ _ (HCs.out _ (hg.mono (fun _ _ h => .inr h))) (fun hHeld => ?_)
                  clear hK K u1 u2 u3 hg kb hM
                  simp only [Act.put, List.setIfInBounds_toArray, List.set_cons_zero, List.set_cons_succ]
                  refine wpAnyH_take (i := 9) (v := .pointer (some ⟨M, i, none⟩)) rfl (by kernel_rfl) (by kernel_rfl) (by kernel_rfl) (fun _ _ _ h => h) (Or.inl ⟨by rfl, ?_⟩) hHeld ?_
                  · intro wS hSw
                    obtain ⟨hs0, hs1, hs2, hs3, hs4⟩ := hSw
                    go_simp
                  simp only [Act.put, List.setIfInBounds_toArray, List.set_cons_zero, List.set_cons_succ]
                  refine wpAnyH_ready (rs := [10]) (by kernel_rfl) (by simp) ?_
                  refine AllReadyH.cons rfl (fun K hK => ?_) ?_
                  · go_simp
                    refine hK.out _ _ HS5.out (fun hHeld => ?_)
                    clear hK K hHeld
                    refine wpAnyH_done (by kernel_rfl) ?_ _
                    clear v0 v1 v2 v3 v4
                    go_wp2_with fail
                    go_roundg (m - (k + 1))
                    case measure => omega
                    case rel => exact ⟨k + 1, .slice a' (k + 1) cap', by omega, by rw [HRC.out]; exact own_chg HF.out.1 (set_chg (Chg.refl _)) (fun g h1 h2 => by have := (own_block_lt HF.out.1 g h1).1; have := HN.out.2.2.2; omega), by have := HF.out.2.2.set i (.slice a' (k + 1) cap'); simpa using this, ((HQ.out.2.2.1.mono (T := fun b => b = M ∨ v.ownBlock = some b) (fun _ _ h => .inl h)).trans ((HF.out.2.1.mono (fun _ _ h => .inr h)).setCell ⟨M, i, none⟩ (.slice a' (k + 1) cap') (fun _ => .inl rfl))).mono (fun b hb h => h.elim id (fun e => by have := (own_block_lt HQ.out.1 b e).1; omega)), by simp, rfl⟩
                  exact AllReadyH.nil
                exact AllReadyH.nil
              exact AllReadyH.nil
            refine AllReadyH.cons rfl (fun K hK => ?_) ?_
            · go_simp
              refine hK.out _ _ (HCs.out _ ((Chg.refl (S := _) w3).alloc _).drew) (fun hHeld => ?_)
              clear hK K
              refine wpAnyH_ready (rs := [5]) (by kernel_rfl) (by simp) ?_
              refine AllReadyH.cons rfl (fun K hK => ?_) ?_
              · go_simp
                refine hK.out _ _ (by exact hHeld) (fun hHeld => ?_)
                clear hK K
                refine wpAnyH_ready (rs := [8]) (by kernel_rfl) (by simp) ?_
                refine AllReadyH.cons rfl (fun K hK => ?_) ?_
                · refine step_append_st rfl ((.tmp 45)) ((.tmp 47)) 48 rfl w1.heap.size 38 i0 (.agg #[.int .i64 0, .bool false, .slice none 0 0, .int .i64 0, .float .f64 0]) 5 56 Tryz.underlying48 HI.out.1 HI.out.2.1 HI.out.2.2.1 HI.out.2.2.2 rfl (by decide) v k _ rfl (own_low HQ.out.1 ((Chg.refl _).alloc _).drew (fun _ _ h => h)) ⟨w3.heap.size, 0, none⟩ 1 1 [.int .i64 s1, .bool i1, .slice a1 0 c1, .int .i64 l1, .float .f64 0] rfl rfl (by exact fun j u hj => news w3.drew [.int .i64 s1, .bool i1, .slice a1 0 c1, .int .i64 l1, .float .f64 0] 38 j u hj) (by simp [Value.oneCell']) (by unfold maxLen; omega) (by omega) (by have := HN.out.2.2.1; simp; omega) ?_
                  intro v'' w' u1 u2 u3
                  obtain ⟨a', cap', rfl⟩ := own_slice u1
                  have hg := (Chg.refl (S := fun b => v.ownBlock = some b) w3).drew.trans (grow_chg (wr := w3.drew) u2)
                  have hM : ¬ v.ownBlock = some M := fun e => by have := (HQ.out.1.lt _ e).1; have := HN.out.2.2.2; omega
                  have kb := HQ.out.2.1.chg hg hM
                  have kM' : w'.cell? ⟨M, i, none⟩ = some v := kb.cell i v (by simp [HL.out, him])
                  have kF' : w'.frozen? ⟨M, i, none⟩ = false := kb.frozen i
                  have HF := Lib.hid (And.intro u1 (And.intro hg kb))
                  have HS5 := Lib.hid (HCs.out _ ((hg.mono (fun _ _ h => .inr h)).setCell ⟨M, i, none⟩ (.slice a' (k + 1) cap') (fun _ => .inl rfl)))
                  refine hK.out _ _ (HCs.out _ (hg.mono (fun _ _ h => .inr h))) (fun hHeld => ?_)
                  clear hK K u1 u2 u3 hg kb hM
                  simp only [Act.put, List.setIfInBounds_toArray, List.set_cons_zero, List.set_cons_succ]
                  refine wpAnyH_take (i := 9) (v := .pointer (some ⟨M, i, none⟩)) rfl (by kernel_rfl) (by kernel_rfl) (by kernel_rfl) (fun _ _ _ h => h) (Or.inl ⟨by rfl, ?_⟩) hHeld ?_
                  · intro wS hSw
                    obtain ⟨hs0, hs1, hs2, hs3, hs4⟩ := hSw
                    go_simp
                  simp only [Act.put, List.setIfInBounds_toArray, List.set_cons_zero, List.set_cons_succ]
                  refine wpAnyH_ready (rs := [10]) (by kernel_rfl) (by simp) ?_
                  refine AllReadyH.cons rfl (fun K hK => ?_) ?_
                  · go_simp
                    refine hK.out _ _ HS5.out (fun hHeld => ?_)
                    clear hK K hHeld
                    refine wpAnyH_done (by kernel_rfl) ?_ _
                    clear v0 v1 v2 v3 v4
                    go_wp2_with fail
                    go_roundg (m - (k + 1))
                    case measure => omega
                    case rel => exact ⟨k + 1, .slice a' (k + 1) cap', by omega, by rw [HRC.out]; exact own_chg HF.out.1 (set_chg (Chg.refl _)) (fun g h1 h2 => by have := (own_block_lt HF.out.1 g h1).1; have := HN.out.2.2.2; omega), by have := HF.out.2.2.set i (.slice a' (k + 1) cap'); simpa using this, ((HQ.out.2.2.1.mono (T := fun b => b = M ∨ v.ownBlock = some b) (fun _ _ h => .inl h)).trans ((HF.out.2.1.mono (fun _ _ h => .inr h)).setCell ⟨M, i, none⟩ (.slice a' (k + 1) cap') (fun _ => .inl rfl))).mono (fun b hb h => h.elim id (fun e => by have := (own_block_lt HQ.out.1 b e).1; omega)), by simp, rfl⟩
                  exact AllReadyH.nil
                exact AllReadyH.nil
              exact AllReadyH.nil
            exact AllReadyH.nil
        · have hkm' : ¬ (k : Int) < m := by omega
          obtain rfl : k = m := by omega
          have HQ := Lib.hid (And.intro ho (And.intro hbk hxk))
          clear ho hbk hxk hk
          go_wp2_with fail
          go_roundg (k - (i + 1))
          case measure => omega
          case rel => exact ⟨i + 1, rs.set i v, by omega, by simp [HL.out], HQ.out.2.1, RowsM.next HR.out.2.1 (by omega) (HR.out.1.lt) (by rw [HL.out]; exact him) HQ.out.2.2 HQ.out.1, fun j h1 h2 => by rw [List.getElem?_set_ne (by omega)]; exact HR.out.2.2.1 j (by omega) h2, HR.out.2.2.2.trans HQ.out.2.2, by simp, rfl⟩
    · have him' : ¬ (i : Int) < m := by omega
      obtain rfl : i = m := by omega
      have HR := Lib.hid (And.intro hb (And.intro hr hx))
      have HL := Lib.hid hlen
      clear hb hr hn0 hx hlen hi
      go_wp2_with fail
      go_ret
      obtain rfl := HMe.out
      obtain ⟨rfl, rfl⟩ := HV.out
      refine ⟨rfl, rs, HL.out, HR.out.1, HR.out.2.1, Ext.put HX.out.2.2.2.2.1 HR.out.2.2 (by omega)⟩
end Go.Proofs.YtkhllknahjmciaaGreat
