/-
  The search: all best ways from a node on. The search by some edges alone: all ways from a node on.
-/
import Derived.Test.YtkhllknahjmciaaGreatM26
import Derived.Test.YtkhllknahjmciaaGreatM27
/-! The search: all best ways from a node on. -/
namespace Go.Proofs.YtkhllknahjmciaaGreat
open Go.RowKit
set_option linter.unusedVariables false
set_option linter.unusedSimpArgs false

theorem mvCells_at : ∀ {ms : List Mv} {i : Nat} {m : Mv}, ms[i]? = some m → ∀ j u, m.cells[j]? = some u → (mvCells ms)[i * 5 + j]? = some u
  | [], i, s, h => by simp at h
  | t :: ts, 0, s, h => by
    simp at h; subst h
    intro j u hj
    rw [mvCells, Nat.zero_mul, Nat.zero_add, List.getElem?_append_left (List.getElem?_eq_some_iff.1 hj).1]
    exact hj
  | t :: ts, i + 1, s, h => by
    intro j u hj
    have := mvCells_at (ms := ts) (i := i) (by simpa using h) j u hj
    rw [mvCells, List.getElem?_append_right (by simp [Mv.cells]; omega)]
    rw [show (i + 1) * 5 + j - t.cells.length = i * 5 + j by simp [Mv.cells]; omega]
    exact this
theorem mv_at {w : World} {a : Option Addr} {n cap : Nat} {ms : List Mv} (h : Cells w a n cap (mvCells ms)) {i : Nat} {m : Mv} (hi : ms[i]? = some m) :
    ∃ x, a = some x ∧ w.cell? (x.add (i * 5)) = some (.int .i64 m.f) ∧ w.cell? { block := (x.add (i * 5)).block, off := (x.add (i * 5)).off + 1 } = some (.int .i64 m.t) ∧ w.cell? { block := (x.add (i * 5)).block, off := (x.add (i * 5)).off + 2 } = some (.bool m.eps) ∧ w.cell? { block := (x.add (i * 5)).block, off := (x.add (i * 5)).off + 3 } = some (.string m.l) ∧ w.cell? { block := (x.add (i * 5)).block, off := (x.add (i * 5)).off + 4 } = some (.bool m.back) := by
  have key : ∀ j u, m.cells[j]? = some u → ∃ x, a = some x ∧ w.cell? (x.add (i * 5 + j)) = some u := fun j u hu => h.at _ u (mvCells_at hi j u hu)
  obtain ⟨x, rfl, k0⟩ := key 0 _ rfl
  obtain ⟨x1, e1, k1⟩ := key 1 _ rfl
  obtain ⟨x2, e2, k2⟩ := key 2 _ rfl
  obtain ⟨x3, e3, k3⟩ := key 3 _ rfl
  obtain ⟨x4, e4, k4⟩ := key 4 _ rfl
  cases e1; cases e2; cases e3; cases e4
  rw [add_off _ _ _ (by decide)] at k1 k2 k3 k4
  exact ⟨x, rfl, k0, k1, k2, k3, k4⟩
set_option maxRecDepth 100000 in
set_option maxHeartbeats 1000000 in
theorem run_any (f1 f2 sb r : Nat) (s : Int) (hsm : s = 2 ∨ s = 3) (fv : Value) (es : List Eg) (ns : List Nd) (ms : List Mv) (ea na ma : Option Addr) (ec nc mc : Nat) (x2 : Value) (nN nS nA : Int) (w0 w : World) (wt : Int → Bool) (b1 : Int) (N : Nat)
    (hs : SC w0 sb r s fv es ea ec (.slice na ns.length nc) x2 nN nS nA (.slice ma ms.length mc) w) (hnc : NsC w0 ns na nc) (hmc : Cells w0 ma ms.length mc (mvCells ms)) (hw : Ways w r s []) (hf : Fit es ns ms b1 nS N)
    (hfv : fv = .func (.func 47) #[] #[.pointer (some ⟨f1, 0, none⟩), .pointer (some ⟨f2, 0, none⟩)]) (hfn : ∀ W, Ext w0 W → ∀ tok : Int, Calls Tryz.prog 47 #[.int .i64 tok, .pointer (some ⟨f1, 0, none⟩), .pointer (some ⟨f2, 0, none⟩)] W (BvPost s (wt tok) W)) :
    Calls Tryz.prog 95 #[.pointer (some ⟨sb, 0, none⟩), .int .i64 b1] w fun e w' => e = .returned (.tuple #[]) ∧ Ways w' r s (runE wt es ns ms (ns.length * N + 1) [⟨b1, nS, b1, nS, 0, false⟩]) ∧ Chg (fun k => k = r) w w' := by
  obtain ⟨R, hR⟩ : ∃ R, runE wt es ns ms (ns.length * N + 1) [⟨b1, nS, b1, nS, 0, false⟩] = R := ⟨_, rfl⟩
  rw [hR]
  have HO := Lib.hid (fun W => one_any s hsm W)
  have HMv := Lib.hid (fun (m : Mv) (id : Int) (L : List Et) (W : World) (hS : SC w0 sb r s fv es ea ec (.slice na ns.length nc) x2 nN nS nA (.slice ma ms.length mc) W) (hW : Ways W r s L) => move_any f1 f2 sb r s fv es ea ec _ x2 nN nS nA _ w0 W wt m id L _ _ hS hW rfl rfl hfv hfn)
  have q7 := hs.blk.cell 7 _ rfl
  have HS := Lib.hid (And.intro hs hw)
  have HRR := Lib.hid hR
  have hbl := hs.blk.lt
  have hrl := hw.lt
  have HC := Lib.hid (And.intro hnc (And.intro hmc hf))
  have hsf := run_store_f
  have hl1 := hmc.1
  have hl2 := hmc.2.1
  have hl3 : ns.length ≤ nc ∧ nc ≤ maxLen := by obtain ⟨css, h1, -⟩ := hnc; exact ⟨h1.1, h1.2.1⟩
  have hl4 := hl3.1
  have hl5 := hl3.2
  unfold maxLen at hl2 hl5
  obtain ⟨n, hn⟩ : ∃ n, ns.length = n := ⟨_, rfl⟩
  obtain ⟨k, hk⟩ : ∃ n, ms.length = n := ⟨_, rfl⟩
  have HN := Lib.hid (And.intro hn hk)
  rw [hn] at hl4
  rw [hk] at hl1
  clear hs hw hR hfv hfn hnc hmc hf hsm hl3 hn hk
  go_enter Tryz.func95, Tryz.ntmps95
  go_wp2_with fail
  refine (HO.out _).mono ?_
  rintro e w1 ⟨cs1, rfl, ⟨i1, a1, c1, l1, rfl, hc1, ho1⟩, hx1⟩
  unfold V5
  have hx2 := (hx1.alloc (.cells #[.int .i64 s, .bool i1, .slice a1 0 c1, .int .i64 l1, .float .f64 0] 38)).alloc (.cells #[.int .i64 b1, .int .i64 nS] 207)
  have bv := (Blk.new w1 #[.int .i64 s, .bool i1, .slice a1 0 c1, .int .i64 l1, .float .f64 0] 38).chg ((Chg.refl (S := fun _ => False) _).alloc (.cells #[.int .i64 b1, .int .i64 nS] 207)) (fun h => h)
  have bp := Blk.new (w1.alloc (.cells #[.int .i64 s, .bool i1, .slice a1 0 c1, .int .i64 l1, .float .f64 0] 38)) #[.int .i64 b1, .int .i64 nS] 207
  simp only [World.size_alloc] at bp
  obtain ⟨w2, hw2⟩ : ∃ w2, (w1.alloc (.cells #[.int .i64 s, .bool i1, .slice a1 0 c1, .int .i64 l1, .float .f64 0] 38)).alloc (.cells #[.int .i64 b1, .int .i64 nS] 207) = w2 := ⟨_, rfl⟩
  rw [hw2] at hx2 bv bp
  have HW2 := Lib.hid hw2
  have hsz1 := hx1.size
  have hsv := bv.lt
  have q4 := (HS.out.1.toExt (hx1.alloc (.cells #[.int .i64 s, .bool i1, .slice a1 0 c1, .int .i64 l1, .float .f64 0] 38))).blk.cell 4 _ rfl
  have hS2 := HS.out.1.toExt hx2
  have hW2 := HS.out.2.ext hx2
  have HPut := Lib.hid (hW2.put (e := ⟨b1, nS, b1, nS, 0, false⟩) (ad := a1) rfl hc1 ho1 w2.drew ((Chg.refl (S := fun _ => False) w2).drew.block r hW2.lt (fun h => h)))
  have HB := Lib.hid (And.intro hx2 (And.intro bv (And.intro bp hS2)))
  clear hx2 hw2 hS2 hW2 bv bp hc1 ho1 q7
  go_wp2_with fail
  rw [HW2.out]
  refine wp_region_held_drew (S := fun v => v.cell? ⟨sb, 9, none⟩ = some (.map (some r)) ∧ Blk v (w1.heap.size + 1) #[.int .i64 b1, .int .i64 nS] 207 ∧ Blk v w1.heap.size #[.int .i64 s, .bool i1, .slice a1 0 c1, .int .i64 l1, .float .f64 0] 38) (by kernel_rfl) (by exact ⟨(HB.out.2.2.2.toExt (Chg.refl (S := fun _ => False) w2).drew).blk.cell 9 _ rfl, HB.out.2.2.1.chg (Chg.refl (S := fun _ => False) w2).drew (fun h => h), HB.out.2.1.chg (Chg.refl (S := fun _ => False) w2).drew (fun h => h)⟩) (fun hHeld => ?_)
  refine wpAnyH_take (i := 0) (v := .pointer (some ⟨sb, 0, none⟩)) rfl (by kernel_rfl) (by kernel_rfl) (by kernel_rfl) (fun _ _ _ h => h) (Or.inl ⟨by rfl, ?_⟩) hHeld ?_
  · intro wS hSw
    obtain ⟨hs1, hs2, hs3⟩ := hSw
    obtain ⟨y0, -, y1, -⟩ := blk2_base hs2
    obtain ⟨z0, -, z1, -, z2, -, z3, -, z4, -⟩ := blk5_base hs3
    clear hs2 hs3 hHeld
    go_simp
  simp only [Act.put, List.setIfInBounds_toArray, List.set_cons_zero, List.set_cons_succ]
  refine wpAnyH_take (i := 1) (v := .pointer (some ⟨sb, 0, none⟩)) rfl (by kernel_rfl) (by kernel_rfl) (by kernel_rfl) (fun _ _ _ h => h) (Or.inl ⟨by rfl, ?_⟩) hHeld ?_
  · intro wS hSw
    obtain ⟨hs1, hs2, hs3⟩ := hSw
    obtain ⟨y0, -, y1, -⟩ := blk2_base hs2
    obtain ⟨z0, -, z1, -, z2, -, z3, -, z4, -⟩ := blk5_base hs3
    clear hs2 hs3 hHeld
    go_simp
  simp only [Act.put, List.setIfInBounds_toArray, List.set_cons_zero, List.set_cons_succ]
  refine wpAnyH_take (i := 2) (v := .pointer (some ⟨sb, 9, none⟩)) rfl (by kernel_rfl) (by kernel_rfl) (by kernel_rfl) (fun _ _ _ h => h) (Or.inl ⟨by rfl, ?_⟩) hHeld ?_
  · intro wS hSw
    obtain ⟨hs1, hs2, hs3⟩ := hSw
    obtain ⟨y0, -, y1, -⟩ := blk2_base hs2
    obtain ⟨z0, -, z1, -, z2, -, z3, -, z4, -⟩ := blk5_base hs3
    clear hs2 hs3 hHeld
    go_simp
  simp only [Act.put, List.setIfInBounds_toArray, List.set_cons_zero, List.set_cons_succ]
  refine wpAnyH_take (i := 3) (v := .map (some r)) rfl (by kernel_rfl) (by kernel_rfl) (by kernel_rfl) (fun _ _ _ h => h) (Or.inl ⟨by rfl, ?_⟩) hHeld ?_
  · intro wS hSw
    obtain ⟨hs1, hs2, hs3⟩ := hSw
    obtain ⟨y0, -, y1, -⟩ := blk2_base hs2
    obtain ⟨z0, -, z1, -, z2, -, z3, -, z4, -⟩ := blk5_base hs3
    clear hs2 hs3 hHeld
    go_simp
  simp only [Act.put, List.setIfInBounds_toArray, List.set_cons_zero, List.set_cons_succ]
  refine wpAnyH_take (i := 4) (v := .agg #[.int .i64 b1, .int .i64 nS]) rfl (by kernel_rfl) (by kernel_rfl) (by kernel_rfl) (fun _ _ _ h => h) (Or.inl ⟨by rfl, ?_⟩) hHeld ?_
  · intro wS hSw
    obtain ⟨hs1, hs2, hs3⟩ := hSw
    obtain ⟨y0, -, y1, -⟩ := blk2_base hs2
    obtain ⟨z0, -, z1, -, z2, -, z3, -, z4, -⟩ := blk5_base hs3
    clear hs2 hs3 hHeld
    go_simp
  simp only [Act.put, List.setIfInBounds_toArray, List.set_cons_zero, List.set_cons_succ]
  refine wpAnyH_take (i := 5) (v := .agg #[.int .i64 s, .bool i1, .slice a1 0 c1, .int .i64 l1, .float .f64 0]) rfl (by kernel_rfl) (by kernel_rfl) (by kernel_rfl) (fun _ _ _ h => h) (Or.inl ⟨by rfl, ?_⟩) hHeld ?_
  · intro wS hSw
    obtain ⟨hs1, hs2, hs3⟩ := hSw
    obtain ⟨y0, -, y1, -⟩ := blk2_base hs2
    obtain ⟨z0, -, z1, -, z2, -, z3, -, z4, -⟩ := blk5_base hs3
    clear hs2 hs3 hHeld
    go_simp
  simp only [Act.put, List.setIfInBounds_toArray, List.set_cons_zero, List.set_cons_succ]
  refine wpAnyH_take (i := 6) (v := .agg #[.int .i64 b1, .int .i64 nS]) rfl (by kernel_rfl) (by kernel_rfl) (by kernel_rfl) (fun _ _ _ h => h) (Or.inl ⟨by rfl, ?_⟩) hHeld ?_
  · intro wS hSw
    obtain ⟨hs1, hs2, hs3⟩ := hSw
    obtain ⟨y0, -, y1, -⟩ := blk2_base hs2
    obtain ⟨z0, -, z1, -, z2, -, z3, -, z4, -⟩ := blk5_base hs3
    clear hs2 hs3 hHeld
    go_simp
  simp only [Act.put, List.setIfInBounds_toArray, List.set_cons_zero, List.set_cons_succ]
  refine wpAnyH_take (i := 7) (v := .agg #[.int .i64 s, .bool i1, .slice a1 0 c1, .int .i64 l1, .float .f64 0, .int .i64 b1, .int .i64 nS, .int .i64 0, .bool false]) rfl (by kernel_rfl) (by kernel_rfl) (by kernel_rfl) (fun _ _ _ h => h) (Or.inl ⟨by rfl, ?_⟩) hHeld ?_
  · intro wS hSw
    obtain ⟨hs1, hs2, hs3⟩ := hSw
    obtain ⟨y0, -, y1, -⟩ := blk2_base hs2
    obtain ⟨z0, -, z1, -, z2, -, z3, -, z4, -⟩ := blk5_base hs3
    clear hs2 hs3 hHeld
    go_simp
  simp only [Act.put, List.setIfInBounds_toArray, List.set_cons_zero, List.set_cons_succ]
  refine wpAnyH_ready (rs := [8]) (by kernel_rfl) (by simp) ?_
  refine AllReadyH.cons (i := 8) (rs := []) (by rfl) ?_ AllReadyH.nil
  intro K hK
  have hrun := (Classical.choose_spec HPut.out).1
  have hw4 := (Classical.choose_spec HPut.out).2.1
  have hc4 := (Classical.choose_spec HPut.out).2.2
  generalize Classical.choose HPut.out = W4 at hrun hw4 hc4
  simp only [List.nil_append] at hw4
  have HF := Lib.hid (And.intro hw4 (And.intro hc4 ((HB.out.1.drew.mono fun _ _ h => h.elim).trans hc4)))
  have hS4 : W4.cell? ⟨sb, 9, none⟩ = some (.map (some r)) ∧ Blk W4 (w1.heap.size + 1) #[.int .i64 b1, .int .i64 nS] 207 ∧ Blk W4 w1.heap.size #[.int .i64 s, .bool i1, .slice a1 0 c1, .int .i64 l1, .float .f64 0] 38 := ⟨(hc4.cell (p := ⟨sb, 9, none⟩) (lt_of_cell hHeld.1) HS.out.1.ne).trans hHeld.1, hHeld.2.1.chg hc4 (by omega), hHeld.2.2.chg hc4 (by omega)⟩
  have HS4 := Lib.hid hS4
  clear hw4 hc4 hS4
  go_simp
  refine hK.out _ _ HS4.out (fun hHeld => ?_)
  clear hK K hHeld hrun q4
  refine wpAnyH_done (by kernel_rfl) ?_ _
  have HS4 := Lib.hid (HS.out.1.chg HF.out.2.2)
  go_wp2_with fail
  go_loopg [7] (n * N + 1) (fun g l7 wr => ∃ (more : Bool) (L : List Et), l7 = .bool more ∧ Built wt es ms b1 nS L ∧ Chg (fun b => b = r) W4 wr ∧ Ways wr r s L ∧ (more = true → ∃ j, n * N < j + L.length ∧ runE wt es ns ms j L = R) ∧ (more = false → L = R) ∧ g = if more = true then n * N + 2 - L.length else 0)
  case atStart =>
    exact ⟨true, [⟨b1, nS, b1, nS, 0, false⟩], rfl, Built.one, Chg.refl _, HF.out.1, fun _ => ⟨n * N + 1, by simp; omega, by rw [← HN.out.1]; exact HRR.out⟩, fun h => by simp at h, by simp⟩
  case round =>
    obtain ⟨wo, rfl⟩ : ∃ x, x = wr := ⟨_, rfl⟩
    obtain ⟨more, L, rfl, hbu, hx, hwi, hm1, hm2, rfl⟩ := hrel
    cases more with
    | false =>
      obtain rfl := hm2 rfl
      have HX := Lib.hid (And.intro hwi (HF.out.2.2.trans hx))
      clear hbu hx hwi hm1 hm2
      go_wp2_with fail
      go_returns
      exact ⟨rfl, HX.out.1, HX.out.2⟩
    | true =>
      obtain ⟨j, hj, hjr⟩ := hm1 rfl
      have hbd := hbu.bound HC.out.2.2
      rw [HN.out.1] at hbd
      obtain ⟨j', rfl⟩ : ∃ j', j = j' + 1 := ⟨j - 1, by omega⟩
      rw [runE] at hjr
      have hbu' := hbu.moves ns ms (fun _ h => h)
      have hpre' := movesE_pre wt es ns ms L
      obtain ⟨L', hL'⟩ : ∃ L', movesE wt es ns ms L = L' := ⟨_, rfl⟩
      rw [hL'] at hjr hbu' hpre'
      have HJ := Lib.hid (And.intro hjr (And.intro hbu' (And.intro hL' (And.intro hpre' hbu))))
      have hSr := HS4.out.chg hx
      have q6 := hSr.blk.cell 6 _ rfl
      rw [HN.out.2] at q6
      have HX := Lib.hid (And.intro hx (And.intro hwi hSr))
      clear hbu hx hwi hm1 hm2 hjr hbu' hL' hpre' hSr
      go_wp2_with fail
      go_loopg [7, 42] k (fun g l7 l42 wi => ∃ (i : Nat) (Li : List Et), i ≤ k ∧ Chg (fun b => b = r) wo wi ∧ Ways wi r s Li ∧ L <+: Li ∧ movesE wt es ns (ms.drop i) Li = L' ∧ l7 = .bool (decide (L.length < Li.length)) ∧ l42 = .int .i64 i ∧ g = k - i)
      case atStart => exact ⟨0, L, Nat.zero_le _, Chg.refl _, HX.out.2.1, List.prefix_refl _, HJ.out.2.2.1, by rw [decide_eq_false (by omega)], rfl, rfl⟩
      case round =>
        clear q6
        obtain ⟨wi, rfl⟩ : ∃ x, x = wr := ⟨_, rfl⟩
        obtain ⟨i, Li, hi, hx, hwi, hpre, hLi, rfl, rfl, rfl⟩ := hrel
        by_cases hin : i < k
        · have hin' : (i : Int) < k := by omega
          obtain ⟨m, hm⟩ : ∃ m, ms[i]? = some m := ⟨_, List.getElem?_eq_getElem (by rw [HN.out.2]; exact hin)⟩
          have hSi := HX.out.2.2.chg hx
          obtain ⟨x, rfl, c0, c1, c2, c3, c4⟩ := mv_at (HC.out.2.1.ext hSi.ext) hm
          rw [movesE_drop hm] at hLi
          obtain ⟨L2, hL2⟩ : ∃ L2, nodesE wt es m ns Li = L2 := ⟨_, rfl⟩
          rw [hL2] at hLi
          have hpre2 := nodesE_pre wt es m ns Li
          rw [hL2] at hpre2
          obtain ⟨W5, hW5⟩ : ∃ W5, wi.alloc (.cells #[.int .i64 m.f, .int .i64 m.t, .bool m.eps, .string m.l, .bool m.back] 211) = W5 := ⟨_, rfl⟩
          have hx5 : Ext wi W5 := by rw [← hW5]; exact (Chg.refl wi).alloc _
          have kb5 : Blk W5 wi.heap.size #[.int .i64 m.f, .int .i64 m.t, .bool m.eps, .string m.l, .bool m.back] 211 := by rw [← hW5]; exact Blk.new _ _ _
          have hri : r < wi.heap.size := hwi.lt
          have hsz5 := kb5.lt
          have hS5 := hSi.toExt hx5
          have q0 := hS5.blk.cell 0 _ rfl
          rw [HN.out.1, ← hW5] at q0
          have HW5 := Lib.hid hW5
          have HY := Lib.hid (And.intro hx (And.intro hwi (And.intro hpre (And.intro hLi (And.intro hL2 (And.intro hpre2 (And.intro hx5 (And.intro kb5 hS5))))))))
          clear hx hwi hpre hLi hL2 hpre2 hx5 kb5 hS5 hSi hW5 hm
          go_wp2_with fail
          rw [HW5.out]
          go_loopg [7, 52] n (fun g l7 l52 wj => ∃ (q : Nat) (Lj : List Et), q ≤ n ∧ Chg (fun b => b = r) W5 wj ∧ Ways wj r s Lj ∧ Li <+: Lj ∧ nodesE wt es m (ns.drop q) Lj = L2 ∧ l7 = .bool (decide (L.length < Lj.length)) ∧ l52 = .int .i64 q ∧ g = n - q)
          case atStart => exact ⟨0, Li, Nat.zero_le _, Chg.refl _, HY.out.2.1.ext HY.out.2.2.2.2.2.2.1, List.prefix_refl _, HY.out.2.2.2.2.1, rfl, rfl, rfl⟩
          case round =>
            clear q0 c0 c1 c2 c3 c4
            obtain ⟨wj, rfl⟩ : ∃ x, x = wr := ⟨_, rfl⟩
            obtain ⟨q, Lj, hq, hx, hwj, hpre, hLj, rfl, rfl, rfl⟩ := hrel
            have hprL := HY.out.2.2.1.length_le
            have hprj := hpre.length_le
            by_cases hqn : q < n
            · have hqn' : (q : Int) < n := by omega
              obtain ⟨t, ht⟩ : ∃ t, ns[q]? = some t := ⟨_, List.getElem?_eq_getElem (by rw [HN.out.1]; exact hqn)⟩
              have hSj := HY.out.2.2.2.2.2.2.2.2.chg hx
              obtain ⟨x', la, lc, pa, pc, rfl, c0, c1, c2, -⟩ := nd_at (HC.out.1.ext hSj.ext) ht
              rw [nodesE_drop ht] at hLj
              have hal : Ext wj (wj.alloc (.cells #[.int .i64 t.id, .slice la t.labels.length lc, .slice pa t.props.length pc] 109)) := (Chg.refl wj).alloc _
              obtain ⟨y0, -, y1, -, y2, -, y3, -, y4, -⟩ := blk5_base ((HY.out.2.2.2.2.2.2.2.1.chg hx (by omega)).chg hal (fun h => h))
              have HM := Lib.hid (HMv.out m t.id Lj _ (hSj.toExt hal) (hwj.ext hal))
              have hpm := (moveE_pre wt es m t.id Lj)
              obtain ⟨L3, hL3⟩ : ∃ L3, moveE wt es m t.id Lj = L3 := ⟨_, rfl⟩
              rw [hL3] at HM hLj hpm
              have hplen := hpm.length_le
              obtain ⟨gb, hgb⟩ : ∃ gb, decide (Lj.length < L3.length) = gb := ⟨_, rfl⟩
              rw [hgb] at HM
              have HZ := Lib.hid (And.intro hgb (And.intro (hx.alloc (.cells #[.int .i64 t.id, .slice la t.labels.length lc, .slice pa t.props.length pc] 109)) (And.intro hwj (And.intro (hpre.trans hpm) hLj))))
              clear hx hwj hpre hLj hSj hal hL3 hgb hpm ht
              go_wp2_with fail
              refine HM.out.mono ?_
              rintro e w7 ⟨rfl, hw7, hc7⟩
              have HZ7 := Lib.hid (And.intro hw7 (HZ.out.2.1.trans hc7))
              clear hw7 hc7 c0 c1 c2 y0 y1 y2 y3 y4
              cases gb with
              | true =>
                have hlt := of_decide_eq_true HZ.out.1
                go_wp2_with fail
                go_roundg (n - (q + 1))
                case measure => omega
                case rel => exact ⟨q + 1, L3, by omega, HZ7.out.2, HZ7.out.1, HZ.out.2.2.2.1, HZ.out.2.2.2.2, by rw [decide_eq_true (by omega)], rfl, rfl⟩
              | false =>
                have hlt := of_decide_eq_false HZ.out.1
                go_wp2_with fail
                go_roundg (n - (q + 1))
                case measure => omega
                case rel => exact ⟨q + 1, L3, by omega, HZ7.out.2, HZ7.out.1, HZ.out.2.2.2.1, HZ.out.2.2.2.2, congrArg Value.bool (decide_eq_decide.2 (by omega)), rfl, rfl⟩
            · obtain rfl : q = n := by omega
              rw [List.drop_of_length_le (by rw [HN.out.1]; exact Nat.le_refl _), nodesE] at hLj
              subst hLj
              have HZ := Lib.hid (And.intro hx (And.intro hwj hpre))
              clear hx hwj hpre
              go_wp2_with fail
              go_roundg (k - (i + 1))
              case measure => omega
              case rel => exact ⟨i + 1, Lj, by omega, (HY.out.1.trans (HY.out.2.2.2.2.2.2.1.mono fun _ _ h => h.elim)).trans HZ.out.1, HZ.out.2.1, HY.out.2.2.1.trans HZ.out.2.2, HY.out.2.2.2.1, rfl, rfl, rfl⟩
        · obtain rfl : i = k := by omega
          rw [List.drop_of_length_le (by rw [HN.out.2]; exact Nat.le_refl _), movesE] at hLi
          subst hLi
          have HY := Lib.hid (And.intro (HX.out.1.trans hx) hwi)
          have hplen := HJ.out.2.2.2.1.length_le
          clear hx hwi hpre
          go_wp2_with fail
          obtain ⟨gb, hgb⟩ : ∃ gb, decide (L.length < Li.length) = gb := ⟨_, rfl⟩
          have hb2 := HJ.out.2.1.bound HC.out.2.2
          rw [HN.out.1] at hb2
          rw [hgb]
          go_roundg (if gb = true then n * N + 2 - Li.length else 0)
          case measure =>
            cases gb with
            | true =>
              have hlt := of_decide_eq_true hgb
              simp only [if_true]
              omega
            | false =>
              simp only [if_true, Bool.false_eq_true, if_false]
              omega
          case rel =>
            refine ⟨gb, Li, rfl, HJ.out.2.1, HY.out.1, HY.out.2, fun h => ?_, fun h => ?_, rfl⟩
            · subst h
              have hlt := of_decide_eq_true hgb
              exact ⟨j', by omega, by have := HJ.out.1; rwa [if_pos hlt] at this⟩
            · subst h
              have hlt := of_decide_eq_false hgb
              have := HJ.out.1
              rw [if_neg hlt] at this
              rw [← this]
              exact pre_eq HJ.out.2.2.2.1 (by omega)
end Go.Proofs.YtkhllknahjmciaaGreat

/-! The search by some edges alone: all ways from a node on. -/
namespace Go.Proofs.YtkhllknahjmciaaGreat
open Go.RowKit
set_option linter.unusedVariables false
set_option linter.unusedSimpArgs false

set_option maxRecDepth 100000 in
set_option maxHeartbeats 1000000 in
theorem run_any2 (f1 sb r : Nat) (s : Int) (hsm : s = 2 ∨ s = 3) (fv : Value) (es : List Eg) (ns : List Nd) (ms : List Mv) (ea na ma : Option Addr) (ec nc mc : Nat) (x2 : Value) (nN nS nA : Int) (w0 w : World) (wt : Int → Bool) (b1 : Int) (N : Nat)
    (hs : SC w0 sb r s fv es ea ec (.slice na ns.length nc) x2 nN nS nA (.slice ma ms.length mc) w) (hnc : NsC w0 ns na nc) (hmc : Cells w0 ma ms.length mc (mvCells ms)) (hw : Ways w r s []) (hf : Fit es ns ms b1 nS N)
    (hfv : fv = .func (.func 71) #[] #[.pointer (some ⟨f1, 0, none⟩)]) (hfn : ∀ W, Ext w0 W → ∀ tok : Int, Calls Tryz.prog 71 #[.int .i64 tok, .pointer (some ⟨f1, 0, none⟩)] W (BvPost s (wt tok) W)) :
    Calls Tryz.prog 95 #[.pointer (some ⟨sb, 0, none⟩), .int .i64 b1] w fun e w' => e = .returned (.tuple #[]) ∧ Ways w' r s (runE wt es ns ms (ns.length * N + 1) [⟨b1, nS, b1, nS, 0, false⟩]) ∧ Chg (fun k => k = r) w w' := by
  obtain ⟨R, hR⟩ : ∃ R, runE wt es ns ms (ns.length * N + 1) [⟨b1, nS, b1, nS, 0, false⟩] = R := ⟨_, rfl⟩
  rw [hR]
  have HO := Lib.hid (fun W => one_any s hsm W)
  have HMv := Lib.hid (fun (m : Mv) (id : Int) (L : List Et) (W : World) (hS : SC w0 sb r s fv es ea ec (.slice na ns.length nc) x2 nN nS nA (.slice ma ms.length mc) W) (hW : Ways W r s L) => move_any2 f1 sb r s fv es ea ec _ x2 nN nS nA _ w0 W wt m id L _ _ hS hW rfl rfl hfv hfn)
  have q7 := hs.blk.cell 7 _ rfl
  have HS := Lib.hid (And.intro hs hw)
  have HRR := Lib.hid hR
  have hbl := hs.blk.lt
  have hrl := hw.lt
  have HC := Lib.hid (And.intro hnc (And.intro hmc hf))
  have hsf := run_store_f
  have hl1 := hmc.1
  have hl2 := hmc.2.1
  have hl3 : ns.length ≤ nc ∧ nc ≤ maxLen := by obtain ⟨css, h1, -⟩ := hnc; exact ⟨h1.1, h1.2.1⟩
  have hl4 := hl3.1
  have hl5 := hl3.2
  unfold maxLen at hl2 hl5
  obtain ⟨n, hn⟩ : ∃ n, ns.length = n := ⟨_, rfl⟩
  obtain ⟨k, hk⟩ : ∃ n, ms.length = n := ⟨_, rfl⟩
  have HN := Lib.hid (And.intro hn hk)
  rw [hn] at hl4
  rw [hk] at hl1
  clear hs hw hR hfv hfn hnc hmc hf hsm hl3 hn hk
  go_enter Tryz.func95, Tryz.ntmps95
  go_wp2_with fail
  refine (HO.out _).mono ?_
  rintro e w1 ⟨cs1, rfl, ⟨i1, a1, c1, l1, rfl, hc1, ho1⟩, hx1⟩
  unfold V5
  have hx2 := (hx1.alloc (.cells #[.int .i64 s, .bool i1, .slice a1 0 c1, .int .i64 l1, .float .f64 0] 38)).alloc (.cells #[.int .i64 b1, .int .i64 nS] 207)
  have bv := (Blk.new w1 #[.int .i64 s, .bool i1, .slice a1 0 c1, .int .i64 l1, .float .f64 0] 38).chg ((Chg.refl (S := fun _ => False) _).alloc (.cells #[.int .i64 b1, .int .i64 nS] 207)) (fun h => h)
  have bp := Blk.new (w1.alloc (.cells #[.int .i64 s, .bool i1, .slice a1 0 c1, .int .i64 l1, .float .f64 0] 38)) #[.int .i64 b1, .int .i64 nS] 207
  simp only [World.size_alloc] at bp
  obtain ⟨w2, hw2⟩ : ∃ w2, (w1.alloc (.cells #[.int .i64 s, .bool i1, .slice a1 0 c1, .int .i64 l1, .float .f64 0] 38)).alloc (.cells #[.int .i64 b1, .int .i64 nS] 207) = w2 := ⟨_, rfl⟩
  rw [hw2] at hx2 bv bp
  have HW2 := Lib.hid hw2
  have hsz1 := hx1.size
  have hsv := bv.lt
  have q4 := (HS.out.1.toExt (hx1.alloc (.cells #[.int .i64 s, .bool i1, .slice a1 0 c1, .int .i64 l1, .float .f64 0] 38))).blk.cell 4 _ rfl
  have hS2 := HS.out.1.toExt hx2
  have hW2 := HS.out.2.ext hx2
  have HPut := Lib.hid (hW2.put (e := ⟨b1, nS, b1, nS, 0, false⟩) (ad := a1) rfl hc1 ho1 w2.drew ((Chg.refl (S := fun _ => False) w2).drew.block r hW2.lt (fun h => h)))
  have HB := Lib.hid (And.intro hx2 (And.intro bv (And.intro bp hS2)))
  clear hx2 hw2 hS2 hW2 bv bp hc1 ho1 q7
  go_wp2_with fail
  rw [HW2.out]
  refine wp_region_held_drew (S := fun v => v.cell? ⟨sb, 9, none⟩ = some (.map (some r)) ∧ Blk v (w1.heap.size + 1) #[.int .i64 b1, .int .i64 nS] 207 ∧ Blk v w1.heap.size #[.int .i64 s, .bool i1, .slice a1 0 c1, .int .i64 l1, .float .f64 0] 38) (by kernel_rfl) (by exact ⟨(HB.out.2.2.2.toExt (Chg.refl (S := fun _ => False) w2).drew).blk.cell 9 _ rfl, HB.out.2.2.1.chg (Chg.refl (S := fun _ => False) w2).drew (fun h => h), HB.out.2.1.chg (Chg.refl (S := fun _ => False) w2).drew (fun h => h)⟩) (fun hHeld => ?_)
  refine wpAnyH_take (i := 0) (v := .pointer (some ⟨sb, 0, none⟩)) rfl (by kernel_rfl) (by kernel_rfl) (by kernel_rfl) (fun _ _ _ h => h) (Or.inl ⟨by rfl, ?_⟩) hHeld ?_
  · intro wS hSw
    obtain ⟨hs1, hs2, hs3⟩ := hSw
    obtain ⟨y0, -, y1, -⟩ := blk2_base hs2
    obtain ⟨z0, -, z1, -, z2, -, z3, -, z4, -⟩ := blk5_base hs3
    clear hs2 hs3 hHeld
    go_simp
  simp only [Act.put, List.setIfInBounds_toArray, List.set_cons_zero, List.set_cons_succ]
  refine wpAnyH_take (i := 1) (v := .pointer (some ⟨sb, 0, none⟩)) rfl (by kernel_rfl) (by kernel_rfl) (by kernel_rfl) (fun _ _ _ h => h) (Or.inl ⟨by rfl, ?_⟩) hHeld ?_
  · intro wS hSw
    obtain ⟨hs1, hs2, hs3⟩ := hSw
    obtain ⟨y0, -, y1, -⟩ := blk2_base hs2
    obtain ⟨z0, -, z1, -, z2, -, z3, -, z4, -⟩ := blk5_base hs3
    clear hs2 hs3 hHeld
    go_simp
  simp only [Act.put, List.setIfInBounds_toArray, List.set_cons_zero, List.set_cons_succ]
  refine wpAnyH_take (i := 2) (v := .pointer (some ⟨sb, 9, none⟩)) rfl (by kernel_rfl) (by kernel_rfl) (by kernel_rfl) (fun _ _ _ h => h) (Or.inl ⟨by rfl, ?_⟩) hHeld ?_
  · intro wS hSw
    obtain ⟨hs1, hs2, hs3⟩ := hSw
    obtain ⟨y0, -, y1, -⟩ := blk2_base hs2
    obtain ⟨z0, -, z1, -, z2, -, z3, -, z4, -⟩ := blk5_base hs3
    clear hs2 hs3 hHeld
    go_simp
  simp only [Act.put, List.setIfInBounds_toArray, List.set_cons_zero, List.set_cons_succ]
  refine wpAnyH_take (i := 3) (v := .map (some r)) rfl (by kernel_rfl) (by kernel_rfl) (by kernel_rfl) (fun _ _ _ h => h) (Or.inl ⟨by rfl, ?_⟩) hHeld ?_
  · intro wS hSw
    obtain ⟨hs1, hs2, hs3⟩ := hSw
    obtain ⟨y0, -, y1, -⟩ := blk2_base hs2
    obtain ⟨z0, -, z1, -, z2, -, z3, -, z4, -⟩ := blk5_base hs3
    clear hs2 hs3 hHeld
    go_simp
  simp only [Act.put, List.setIfInBounds_toArray, List.set_cons_zero, List.set_cons_succ]
  refine wpAnyH_take (i := 4) (v := .agg #[.int .i64 b1, .int .i64 nS]) rfl (by kernel_rfl) (by kernel_rfl) (by kernel_rfl) (fun _ _ _ h => h) (Or.inl ⟨by rfl, ?_⟩) hHeld ?_
  · intro wS hSw
    obtain ⟨hs1, hs2, hs3⟩ := hSw
    obtain ⟨y0, -, y1, -⟩ := blk2_base hs2
    obtain ⟨z0, -, z1, -, z2, -, z3, -, z4, -⟩ := blk5_base hs3
    clear hs2 hs3 hHeld
    go_simp
  simp only [Act.put, List.setIfInBounds_toArray, List.set_cons_zero, List.set_cons_succ]
  refine wpAnyH_take (i := 5) (v := .agg #[.int .i64 s, .bool i1, .slice a1 0 c1, .int .i64 l1, .float .f64 0]) rfl (by kernel_rfl) (by kernel_rfl) (by kernel_rfl) (fun _ _ _ h => h) (Or.inl ⟨by rfl, ?_⟩) hHeld ?_
  · intro wS hSw
    obtain ⟨hs1, hs2, hs3⟩ := hSw
    obtain ⟨y0, -, y1, -⟩ := blk2_base hs2
    obtain ⟨z0, -, z1, -, z2, -, z3, -, z4, -⟩ := blk5_base hs3
    clear hs2 hs3 hHeld
    go_simp
  simp only [Act.put, List.setIfInBounds_toArray, List.set_cons_zero, List.set_cons_succ]
  refine wpAnyH_take (i := 6) (v := .agg #[.int .i64 b1, .int .i64 nS]) rfl (by kernel_rfl) (by kernel_rfl) (by kernel_rfl) (fun _ _ _ h => h) (Or.inl ⟨by rfl, ?_⟩) hHeld ?_
  · intro wS hSw
    obtain ⟨hs1, hs2, hs3⟩ := hSw
    obtain ⟨y0, -, y1, -⟩ := blk2_base hs2
    obtain ⟨z0, -, z1, -, z2, -, z3, -, z4, -⟩ := blk5_base hs3
    clear hs2 hs3 hHeld
    go_simp
  simp only [Act.put, List.setIfInBounds_toArray, List.set_cons_zero, List.set_cons_succ]
  refine wpAnyH_take (i := 7) (v := .agg #[.int .i64 s, .bool i1, .slice a1 0 c1, .int .i64 l1, .float .f64 0, .int .i64 b1, .int .i64 nS, .int .i64 0, .bool false]) rfl (by kernel_rfl) (by kernel_rfl) (by kernel_rfl) (fun _ _ _ h => h) (Or.inl ⟨by rfl, ?_⟩) hHeld ?_
  · intro wS hSw
    obtain ⟨hs1, hs2, hs3⟩ := hSw
    obtain ⟨y0, -, y1, -⟩ := blk2_base hs2
    obtain ⟨z0, -, z1, -, z2, -, z3, -, z4, -⟩ := blk5_base hs3
    clear hs2 hs3 hHeld
    go_simp
  simp only [Act.put, List.setIfInBounds_toArray, List.set_cons_zero, List.set_cons_succ]
  refine wpAnyH_ready (rs := [8]) (by kernel_rfl) (by simp) ?_
  refine AllReadyH.cons (i := 8) (rs := []) (by rfl) ?_ AllReadyH.nil
  intro K hK
  have hrun := (Classical.choose_spec HPut.out).1
  have hw4 := (Classical.choose_spec HPut.out).2.1
  have hc4 := (Classical.choose_spec HPut.out).2.2
  generalize Classical.choose HPut.out = W4 at hrun hw4 hc4
  simp only [List.nil_append] at hw4
  have HF := Lib.hid (And.intro hw4 (And.intro hc4 ((HB.out.1.drew.mono fun _ _ h => h.elim).trans hc4)))
  have hS4 : W4.cell? ⟨sb, 9, none⟩ = some (.map (some r)) ∧ Blk W4 (w1.heap.size + 1) #[.int .i64 b1, .int .i64 nS] 207 ∧ Blk W4 w1.heap.size #[.int .i64 s, .bool i1, .slice a1 0 c1, .int .i64 l1, .float .f64 0] 38 := ⟨(hc4.cell (p := ⟨sb, 9, none⟩) (lt_of_cell hHeld.1) HS.out.1.ne).trans hHeld.1, hHeld.2.1.chg hc4 (by omega), hHeld.2.2.chg hc4 (by omega)⟩
  have HS4 := Lib.hid hS4
  clear hw4 hc4 hS4
  go_simp
  refine hK.out _ _ HS4.out (fun hHeld => ?_)
  clear hK K hHeld hrun q4
  refine wpAnyH_done (by kernel_rfl) ?_ _
  have HS4 := Lib.hid (HS.out.1.chg HF.out.2.2)
  go_wp2_with fail
  go_loopg [7] (n * N + 1) (fun g l7 wr => ∃ (more : Bool) (L : List Et), l7 = .bool more ∧ Built wt es ms b1 nS L ∧ Chg (fun b => b = r) W4 wr ∧ Ways wr r s L ∧ (more = true → ∃ j, n * N < j + L.length ∧ runE wt es ns ms j L = R) ∧ (more = false → L = R) ∧ g = if more = true then n * N + 2 - L.length else 0)
  case atStart =>
    exact ⟨true, [⟨b1, nS, b1, nS, 0, false⟩], rfl, Built.one, Chg.refl _, HF.out.1, fun _ => ⟨n * N + 1, by simp; omega, by rw [← HN.out.1]; exact HRR.out⟩, fun h => by simp at h, by simp⟩
  case round =>
    obtain ⟨wo, rfl⟩ : ∃ x, x = wr := ⟨_, rfl⟩
    obtain ⟨more, L, rfl, hbu, hx, hwi, hm1, hm2, rfl⟩ := hrel
    cases more with
    | false =>
      obtain rfl := hm2 rfl
      have HX := Lib.hid (And.intro hwi (HF.out.2.2.trans hx))
      clear hbu hx hwi hm1 hm2
      go_wp2_with fail
      go_returns
      exact ⟨rfl, HX.out.1, HX.out.2⟩
    | true =>
      obtain ⟨j, hj, hjr⟩ := hm1 rfl
      have hbd := hbu.bound HC.out.2.2
      rw [HN.out.1] at hbd
      obtain ⟨j', rfl⟩ : ∃ j', j = j' + 1 := ⟨j - 1, by omega⟩
      rw [runE] at hjr
      have hbu' := hbu.moves ns ms (fun _ h => h)
      have hpre' := movesE_pre wt es ns ms L
      obtain ⟨L', hL'⟩ : ∃ L', movesE wt es ns ms L = L' := ⟨_, rfl⟩
      rw [hL'] at hjr hbu' hpre'
      have HJ := Lib.hid (And.intro hjr (And.intro hbu' (And.intro hL' (And.intro hpre' hbu))))
      have hSr := HS4.out.chg hx
      have q6 := hSr.blk.cell 6 _ rfl
      rw [HN.out.2] at q6
      have HX := Lib.hid (And.intro hx (And.intro hwi hSr))
      clear hbu hx hwi hm1 hm2 hjr hbu' hL' hpre' hSr
      go_wp2_with fail
      go_loopg [7, 42] k (fun g l7 l42 wi => ∃ (i : Nat) (Li : List Et), i ≤ k ∧ Chg (fun b => b = r) wo wi ∧ Ways wi r s Li ∧ L <+: Li ∧ movesE wt es ns (ms.drop i) Li = L' ∧ l7 = .bool (decide (L.length < Li.length)) ∧ l42 = .int .i64 i ∧ g = k - i)
      case atStart => exact ⟨0, L, Nat.zero_le _, Chg.refl _, HX.out.2.1, List.prefix_refl _, HJ.out.2.2.1, by rw [decide_eq_false (by omega)], rfl, rfl⟩
      case round =>
        clear q6
        obtain ⟨wi, rfl⟩ : ∃ x, x = wr := ⟨_, rfl⟩
        obtain ⟨i, Li, hi, hx, hwi, hpre, hLi, rfl, rfl, rfl⟩ := hrel
        by_cases hin : i < k
        · have hin' : (i : Int) < k := by omega
          obtain ⟨m, hm⟩ : ∃ m, ms[i]? = some m := ⟨_, List.getElem?_eq_getElem (by rw [HN.out.2]; exact hin)⟩
          have hSi := HX.out.2.2.chg hx
          obtain ⟨x, rfl, c0, c1, c2, c3, c4⟩ := mv_at (HC.out.2.1.ext hSi.ext) hm
          rw [movesE_drop hm] at hLi
          obtain ⟨L2, hL2⟩ : ∃ L2, nodesE wt es m ns Li = L2 := ⟨_, rfl⟩
          rw [hL2] at hLi
          have hpre2 := nodesE_pre wt es m ns Li
          rw [hL2] at hpre2
          obtain ⟨W5, hW5⟩ : ∃ W5, wi.alloc (.cells #[.int .i64 m.f, .int .i64 m.t, .bool m.eps, .string m.l, .bool m.back] 211) = W5 := ⟨_, rfl⟩
          have hx5 : Ext wi W5 := by rw [← hW5]; exact (Chg.refl wi).alloc _
          have kb5 : Blk W5 wi.heap.size #[.int .i64 m.f, .int .i64 m.t, .bool m.eps, .string m.l, .bool m.back] 211 := by rw [← hW5]; exact Blk.new _ _ _
          have hri : r < wi.heap.size := hwi.lt
          have hsz5 := kb5.lt
          have hS5 := hSi.toExt hx5
          have q0 := hS5.blk.cell 0 _ rfl
          rw [HN.out.1, ← hW5] at q0
          have HW5 := Lib.hid hW5
          have HY := Lib.hid (And.intro hx (And.intro hwi (And.intro hpre (And.intro hLi (And.intro hL2 (And.intro hpre2 (And.intro hx5 (And.intro kb5 hS5))))))))
          clear hx hwi hpre hLi hL2 hpre2 hx5 kb5 hS5 hSi hW5 hm
          go_wp2_with fail
          rw [HW5.out]
          go_loopg [7, 52] n (fun g l7 l52 wj => ∃ (q : Nat) (Lj : List Et), q ≤ n ∧ Chg (fun b => b = r) W5 wj ∧ Ways wj r s Lj ∧ Li <+: Lj ∧ nodesE wt es m (ns.drop q) Lj = L2 ∧ l7 = .bool (decide (L.length < Lj.length)) ∧ l52 = .int .i64 q ∧ g = n - q)
          case atStart => exact ⟨0, Li, Nat.zero_le _, Chg.refl _, HY.out.2.1.ext HY.out.2.2.2.2.2.2.1, List.prefix_refl _, HY.out.2.2.2.2.1, rfl, rfl, rfl⟩
          case round =>
            clear q0 c0 c1 c2 c3 c4
            obtain ⟨wj, rfl⟩ : ∃ x, x = wr := ⟨_, rfl⟩
            obtain ⟨q, Lj, hq, hx, hwj, hpre, hLj, rfl, rfl, rfl⟩ := hrel
            have hprL := HY.out.2.2.1.length_le
            have hprj := hpre.length_le
            by_cases hqn : q < n
            · have hqn' : (q : Int) < n := by omega
              obtain ⟨t, ht⟩ : ∃ t, ns[q]? = some t := ⟨_, List.getElem?_eq_getElem (by rw [HN.out.1]; exact hqn)⟩
              have hSj := HY.out.2.2.2.2.2.2.2.2.chg hx
              obtain ⟨x', la, lc, pa, pc, rfl, c0, c1, c2, -⟩ := nd_at (HC.out.1.ext hSj.ext) ht
              rw [nodesE_drop ht] at hLj
              have hal : Ext wj (wj.alloc (.cells #[.int .i64 t.id, .slice la t.labels.length lc, .slice pa t.props.length pc] 109)) := (Chg.refl wj).alloc _
              obtain ⟨y0, -, y1, -, y2, -, y3, -, y4, -⟩ := blk5_base ((HY.out.2.2.2.2.2.2.2.1.chg hx (by omega)).chg hal (fun h => h))
              have HM := Lib.hid (HMv.out m t.id Lj _ (hSj.toExt hal) (hwj.ext hal))
              have hpm := (moveE_pre wt es m t.id Lj)
              obtain ⟨L3, hL3⟩ : ∃ L3, moveE wt es m t.id Lj = L3 := ⟨_, rfl⟩
              rw [hL3] at HM hLj hpm
              have hplen := hpm.length_le
              obtain ⟨gb, hgb⟩ : ∃ gb, decide (Lj.length < L3.length) = gb := ⟨_, rfl⟩
              rw [hgb] at HM
              have HZ := Lib.hid (And.intro hgb (And.intro (hx.alloc (.cells #[.int .i64 t.id, .slice la t.labels.length lc, .slice pa t.props.length pc] 109)) (And.intro hwj (And.intro (hpre.trans hpm) hLj))))
              clear hx hwj hpre hLj hSj hal hL3 hgb hpm ht
              go_wp2_with fail
              refine HM.out.mono ?_
              rintro e w7 ⟨rfl, hw7, hc7⟩
              have HZ7 := Lib.hid (And.intro hw7 (HZ.out.2.1.trans hc7))
              clear hw7 hc7 c0 c1 c2 y0 y1 y2 y3 y4
              cases gb with
              | true =>
                have hlt := of_decide_eq_true HZ.out.1
                go_wp2_with fail
                go_roundg (n - (q + 1))
                case measure => omega
                case rel => exact ⟨q + 1, L3, by omega, HZ7.out.2, HZ7.out.1, HZ.out.2.2.2.1, HZ.out.2.2.2.2, by rw [decide_eq_true (by omega)], rfl, rfl⟩
              | false =>
                have hlt := of_decide_eq_false HZ.out.1
                go_wp2_with fail
                go_roundg (n - (q + 1))
                case measure => omega
                case rel => exact ⟨q + 1, L3, by omega, HZ7.out.2, HZ7.out.1, HZ.out.2.2.2.1, HZ.out.2.2.2.2, congrArg Value.bool (decide_eq_decide.2 (by omega)), rfl, rfl⟩
            · obtain rfl : q = n := by omega
              rw [List.drop_of_length_le (by rw [HN.out.1]; exact Nat.le_refl _), nodesE] at hLj
              subst hLj
              have HZ := Lib.hid (And.intro hx (And.intro hwj hpre))
              clear hx hwj hpre
              go_wp2_with fail
              go_roundg (k - (i + 1))
              case measure => omega
              case rel => exact ⟨i + 1, Lj, by omega, (HY.out.1.trans (HY.out.2.2.2.2.2.2.1.mono fun _ _ h => h.elim)).trans HZ.out.1, HZ.out.2.1, HY.out.2.2.1.trans HZ.out.2.2, HY.out.2.2.2.1, rfl, rfl, rfl⟩
        · obtain rfl : i = k := by omega
          rw [List.drop_of_length_le (by rw [HN.out.2]; exact Nat.le_refl _), movesE] at hLi
          subst hLi
          have HY := Lib.hid (And.intro (HX.out.1.trans hx) hwi)
          have hplen := HJ.out.2.2.2.1.length_le
          clear hx hwi hpre
          go_wp2_with fail
          obtain ⟨gb, hgb⟩ : ∃ gb, decide (L.length < Li.length) = gb := ⟨_, rfl⟩
          have hb2 := HJ.out.2.1.bound HC.out.2.2
          rw [HN.out.1] at hb2
          rw [hgb]
          go_roundg (if gb = true then n * N + 2 - Li.length else 0)
          case measure =>
            cases gb with
            | true =>
              have hlt := of_decide_eq_true hgb
              simp only [if_true]
              omega
            | false =>
              simp only [if_true, Bool.false_eq_true, if_false]
              omega
          case rel =>
            refine ⟨gb, Li, rfl, HJ.out.2.1, HY.out.1, HY.out.2, fun h => ?_, fun h => ?_, rfl⟩
            · subst h
              have hlt := of_decide_eq_true hgb
              exact ⟨j', by omega, by have := HJ.out.1; rwa [if_pos hlt] at this⟩
            · subst h
              have hlt := of_decide_eq_false hgb
              have := HJ.out.1
              rw [if_neg hlt] at this
              rw [← this]
              exact pre_eq HJ.out.2.2.2.1 (by omega)
end Go.Proofs.YtkhllknahjmciaaGreat
