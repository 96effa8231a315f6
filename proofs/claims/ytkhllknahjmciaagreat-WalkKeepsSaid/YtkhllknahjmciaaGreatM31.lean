/-
  The best steps of a path between two nodes. The steps of a path between two nodes, by some edges alone. The best walk, where nothing is weighed. A walk by some edges alone.
-/
import Derived.Test.YtkhllknahjmciaaGreatM30
import Derived.Test.YtkhllknahjmciaaGreatM23
/-! The best steps of a path between two nodes. -/
namespace Go.Proofs.YtkhllknahjmciaaGreat
open Go.RowKit
set_option linter.unusedVariables false
set_option linter.unusedSimpArgs false

/-- What is found: the steps, from the end on; none: there are none. -/
def findE (wt : Int → Bool) (g : Gr) (t : Tr) (b1 tn : Int) : Option (List (Int × Bool)) :=
  if 0 ≤ placeN g.nodes b1 0 then
    let L := runE wt g.edges g.nodes (machP t).ms (g.nodes.length * (machP t).n.toNat + 1) [⟨b1, (machP t).s, b1, (machP t).s, 0, false⟩]
    if seek tn (machP t).a L = none then none else some (stepsE L b1 (machP t).s L.length tn (machP t).a)
  else none
theorem fit_of {g : Gr} (hm : MayG g) {t : Tr} {b1 : Int} (h : 0 ≤ placeN g.nodes b1 0) : Fit g.edges g.nodes (machP t).ms b1 (machP t).s (machP t).n.toNat := by
  obtain ⟨p1, p2, p3, p4, p5, p6, p7⟩ := partP_n (plainP t) 0
  have hin := partP_in (plainP t) 0
  unfold machP
  refine ⟨fun e he => ?_, ?_, by omega, fun m hm => ?_⟩
  · obtain ⟨-, -, -, ⟨j, t1, a1, a2⟩, k, t2, c1, c2⟩ := hm.tok e he
    exact ⟨⟨t1, List.mem_of_getElem? a1, a2⟩, t2, List.mem_of_getElem? c1, c2⟩
  · obtain ⟨j, t1, a1, a2, -⟩ := placeN_ge _ _ _ h
    exact ⟨t1, List.mem_of_getElem? a1, a2⟩
  · have := hin m hm
    omega
def FindPost (s : Int) (q : Option (List (Int × Bool))) (w : World) (e : Ending) (w' : World) : Prop :=
  Ext w w' ∧ ((q = none ∧ e = .returned (.tuple #[.slice none 0 0, .agg zeroV.toArray, .bool false])) ∨
    ∃ l v cs, q = some l ∧ e = .returned (.tuple #[v, .agg cs.toArray, .bool true]) ∧ w'.ownsRow w.heap.size 67 2 v l.length (stepC l.reverse) ∧ Bv s true cs)
set_option maxRecDepth 100000 in
set_option maxHeartbeats 1000000 in
theorem Find_any (f1 f2 : Nat) (s : Int) (hsm : s = 2 ∨ s = 3) (fv : Value) (g : Gr) (t : Tr) (hm : MayG g) (hv : rcheck t = 0) (gcs tcs : List Value) (b1 tn : Int) (wt : Int → Bool) (w : World) (hg : GrC w g gcs) (ht : TrC w t tcs)
    (hfv : fv = .func (.func 47) #[] #[.pointer (some ⟨f1, 0, none⟩), .pointer (some ⟨f2, 0, none⟩)]) (hfn : ∀ W, Ext w W → ∀ tok : Int, Calls Tryz.prog 47 #[.int .i64 tok, .pointer (some ⟨f1, 0, none⟩), .pointer (some ⟨f2, 0, none⟩)] W (BvPost s (wt tok) W)) :
    Calls Tryz.prog 46 #[.agg gcs.toArray, .agg tcs.toArray, .int .i64 b1, .int .i64 tn, .int .i64 s, fv] w (FindPost s (findE wt g t b1 tn) w) := by
  obtain ⟨na, nc, ea, ec, rfl, hns, hes⟩ := hg
  obtain ⟨k, l, a, n, cap, mn, mx, rfl⟩ := ht.form
  obtain ⟨W1, hW1⟩ : ∃ W1, (((w.alloc (.cells #[.slice na g.nodes.length nc, .slice ea g.edges.length ec, .int .i64 g.next] 25)).alloc (.cells #[.int .i64 k, .string l, .slice a n cap, .int .i64 mn, .int .i64 mx] 28)).alloc (.cells #[.int .i64 b1] 3)).alloc (.cells #[.int .i64 0, .bool false, .slice none 0 0, .int .i64 0, .float .f64 0] 38) = W1 := ⟨_, rfl⟩
  have hx1 : Ext w W1 := by rw [← hW1]; exact ((((Chg.refl w).alloc _).alloc _).alloc _).alloc _
  have kG : Blk W1 w.heap.size #[.slice na g.nodes.length nc, .slice ea g.edges.length ec, .int .i64 g.next] 25 := by
    rw [← hW1]
    exact (Blk.new w _ _).chg (((Chg.refl (S := fun _ => False) _).alloc _).alloc _ |>.alloc _) (fun h => h)
  have kB : Blk W1 (w.heap.size + 1 + 1) #[.int .i64 b1] 3 := by
    rw [← hW1]
    have := (Blk.new ((w.alloc (.cells #[.slice na g.nodes.length nc, .slice ea g.edges.length ec, .int .i64 g.next] 25)).alloc (.cells #[.int .i64 k, .string l, .slice a n cap, .int .i64 mn, .int .i64 mx] 28)) #[.int .i64 b1] 3).chg ((Chg.refl (S := fun _ => False) _).alloc (.cells #[.int .i64 0, .bool false, .slice none 0 0, .int .i64 0, .float .f64 0] 38)) (fun h => h)
    simpa using this
  have kR : Blk W1 (w.heap.size + 1 + 1 + 1) #[.int .i64 0, .bool false, .slice none 0 0, .int .i64 0, .float .f64 0] 38 := by
    rw [← hW1]
    have := Blk.new (((w.alloc (.cells #[.slice na g.nodes.length nc, .slice ea g.edges.length ec, .int .i64 g.next] 25)).alloc (.cells #[.int .i64 k, .string l, .slice a n cap, .int .i64 mn, .int .i64 mx] 28)).alloc (.cells #[.int .i64 b1] 3)) #[.int .i64 0, .bool false, .slice none 0 0, .int .i64 0, .float .f64 0] 38
    simpa using this
  have HK := Lib.hid (Make_any t W1 _ hv (ht.ext hx1))
  have HW1 := Lib.hid hW1
  have HB := Lib.hid (And.intro hx1 (And.intro kG (And.intro kB kR)))
  have HC := Lib.hid (And.intro hns (And.intro hes (And.intro hm hv)))
  have HFn := Lib.hid hfn
  have hsf := run_store_f
  have hsz1 := kR.lt
  have hp1 := mach_n hv
  obtain ⟨p1, p2, p3, p4, p5, p6, p7⟩ := partP_n (plainP t) 0
  obtain ⟨M, hM⟩ : ∃ M, machP t = M := ⟨_, rfl⟩
  have hM' : partP (plainP t) 0 = M := hM
  rw [hM'] at p1 p2 p3 p4 p5 p6 p7
  obtain ⟨Q, hQ⟩ : ∃ Q, findE wt g t b1 tn = Q := ⟨_, rfl⟩
  rw [hQ]
  unfold findE at hQ
  rw [hM] at HK hQ
  have HM := Lib.hid hM
  have HQ := Lib.hid hQ
  clear hQ
  clear hx1 kG kB kR hns hes hm hv ht hfn hW1 hM hM'
  go_enter Tryz.func46, Tryz.ntmps46
  go_wp2_with fail
  rw [HW1.out]
  refine HK.out.mono ?_
  rintro e w2 ⟨al, capm, rfl, hmc, hx2⟩
  have hx3 := hx2.alloc (.cells #[.int .i64 M.n, .int .i64 M.s, .int .i64 M.a, .slice al M.ms.length capm] 158)
  have kN := Blk.new w2 #[.int .i64 M.n, .int .i64 M.s, .int .i64 M.a, .slice al M.ms.length capm] 158
  have hx13 := HB.out.1.trans hx3
  have kG3 := HB.out.2.1.chg hx3 (fun h => h)
  have kB3 := HB.out.2.2.1.chg hx3 (fun h => h)
  have kR3 := HB.out.2.2.2.chg hx3 (fun h => h)
  obtain ⟨n0, -, n1, -, n2, -⟩ := blk3_base kG3
  obtain ⟨hasB, hhas⟩ : ∃ b, decide (0 ≤ placeN g.nodes b1 0) = b := ⟨_, rfl⟩
  have HH := Lib.hid (nodeHas_any g.nodes b1 (w.heap.size + 1 + 1) _ na nc (HC.out.1.ext hx13) (kB3.cell 0 _ rfl) hasB hhas)
  have HX := Lib.hid (And.intro hx13 (And.intro hmc (And.intro kN (And.intro kG3 (And.intro kB3 (And.intro kR3 hhas))))))
  have hsz2 := hx2.size
  clear hmc hx2 hx3 kN hx13 kG3 kB3 kR3 hhas
  go_wp2_with fail
  refine HH.out.mono ?_
  rintro e w4 ⟨rfl, hx4⟩
  have HX4 := Lib.hid hx4
  clear n0 n1 n2
  cases hasB with
  | false =>
    have hQ := HQ.out
    rw [if_neg (of_decide_eq_false HX.out.2.2.2.2.2.2)] at hQ
    subst hQ
    have k7 := HX.out.2.2.2.2.2.1.chg hx4 (fun h => h)
    have HE := Lib.hid (Ext.put (HX.out.1.trans hx4) (put5 (p := w.heap.size + 1 + 1 + 1) (c0 := .int .i64 0) (c1 := .bool false) (c2 := .slice none 0 0) (c3 := .int .i64 0) (c4 := .float .f64 0)) (by omega))
    obtain ⟨g0, f0, g1, f1, g2, f2, g3, f3, g4, f4⟩ := blk5_base k7
    obtain ⟨y3, z3, y4, z4, q0, q1, q2, q3, q4⟩ := blk5_facts k7 (.int .i64 0) (.bool false) (.slice none 0 0) (.int .i64 0) (.float .f64 0)
    clear k7 hx4
    go_wp2_with fail
    try simp only [Exit.inBlock, Exit.then]
    refine bodyPost_ret (by simp [results, Tryz.results46, go_sem, q0, q1, q2, q3, q4]; try rfl) rfl ?_
    exact ⟨HE.out, .inl ⟨rfl, rfl⟩⟩
  | true =>
    have hyes : 0 ≤ placeN g.nodes b1 0 := of_decide_eq_true HX.out.2.2.2.2.2.2
    have hQ := HQ.out
    rw [if_pos hyes] at hQ
    have k4 := HX.out.2.2.1.chg hx4 (fun h => h)
    obtain ⟨n0, -, n1, -, n2, -⟩ := blk3_base (HX.out.2.2.2.1.chg hx4 (fun h => h))
    obtain ⟨m0, -, m1, -, m2, -, m3, -⟩ := blk4_base k4
    have kB4 := HX.out.2.2.2.2.1.chg hx4 (fun h => h)
    have hx5 : Ext w4 (w4.alloc (.map #[] 0)) := (Chg.refl w4).alloc _
    obtain ⟨W5, hW5⟩ : ∃ W5, (w4.alloc (.map #[] 0)).alloc (.cells #[.slice na g.nodes.length nc, .slice ea g.edges.length ec, .int .i64 g.next, .int .i64 M.n, .int .i64 M.s, .int .i64 M.a, .slice al M.ms.length capm, .int .i64 s, fv, .map (some w4.heap.size)] 165) = W5 := ⟨_, rfl⟩
    have hx45 : Ext w4 W5 := by rw [← hW5]; exact hx5.alloc _
    have hsb : Blk W5 (w4.heap.size + 1) #[.slice na g.nodes.length nc, .slice ea g.edges.length ec, .int .i64 g.next, .int .i64 M.n, .int .i64 M.s, .int .i64 M.a, .slice al M.ms.length capm, .int .i64 s, fv, .map (some w4.heap.size)] 165 := by
      rw [← hW5]
      simpa using Blk.new (w4.alloc (.map #[] 0)) #[.slice na g.nodes.length nc, .slice ea g.edges.length ec, .int .i64 g.next, .int .i64 M.n, .int .i64 M.s, .int .i64 M.a, .slice al M.ms.length capm, .int .i64 s, fv, .map (some w4.heap.size)] 165
    have hways : Ways W5 w4.heap.size s [] := Ways.ext (w := w4.alloc (.map #[] 0)) ⟨#[], 0, [], by show (w4.heap.push _)[w4.heap.size]? = _; simp, rfl, trivial⟩ (by rw [← hW5]; exact (Chg.refl _).alloc _)
    have hx14 := HX.out.1.trans hx4
    have hSC : SC w4 (w4.heap.size + 1) w4.heap.size s fv g.edges ea ec (.slice na g.nodes.length nc) (.int .i64 g.next) M.n M.s M.a (.slice al M.ms.length capm) W5 := ⟨hx45, Nat.le_refl _, by omega, hsb, Cells.ext HC.out.2.1 hx14⟩
    have hfit := fit_of HC.out.2.2.1 (t := t) hyes
    rw [HM.out] at hfit
    have hmv : Cells w4 al M.ms.length capm (mvCells M.ms) := HX.out.2.1.ext (((Chg.refl (S := fun _ => False) w2).alloc _).trans hx4)
    have HRun := Lib.hid (run_any f1 f2 (w4.heap.size + 1) w4.heap.size s hsm fv g.edges g.nodes M.ms ea na al ec nc capm (.int .i64 g.next) M.n M.s M.a w4 W5 wt b1 M.n.toNat hSC (HC.out.1.ext hx14) hmv hways hfit hfv (fun W hW tok => HFn.out W (hx14.trans hW) tok))
    have hbu := (Built.one (wt := wt) (es := g.edges) (ms := M.ms) (b1 := b1) (b2 := M.s)).run g.nodes (g.nodes.length * M.n.toNat + 1)
    have hbd := hbu.bound hfit
    obtain ⟨L, hL⟩ : ∃ L, runE wt g.edges g.nodes M.ms (g.nodes.length * M.n.toNat + 1) [⟨b1, M.s, b1, M.s, 0, false⟩] = L := ⟨_, rfl⟩
    rw [hL] at HRun hbu hbd hQ
    have hnl := HC.out.2.2.1.nlen
    have hll : L.length ≤ 100000 := by
      have h1 : M.n.toNat ≤ 600 := by omega
      have h2 := Nat.mul_le_mul hnl h1
      omega
    have HY := Lib.hid (And.intro hQ (And.intro hSC (And.intro hbu (And.intro hll hx14))))
    have c5 := (kB4.chg hx45 (fun h => h)).cell 0 _ rfl
    have HK4 := Lib.hid (And.intro kB4 (HX.out.2.2.2.2.2.1.chg hx4 (fun h => h)))
    have HW5 := Lib.hid hW5
    have hmk := run_makeMap_plain (P := Tryz.prog) (w := w4) 163
    have hsz5 := hx45.size
    have hsz4 := hx4.size
    have hlb := kB4.lt
    have hlb2 := HK4.out.2.lt
    rw [hfv] at hW5
    clear k4 kB4 hx5 hx45 hsb hways hx14 hSC hfit hmv hbu hbd hQ hL hnl hll hx4 hyes
    go_wp2_with fail
    refine HRun.out.mono ?_
    rintro e w6 ⟨rfl, hw6, hc6⟩
    have c6 := ((HK4.out.1.chg ((HY.out.2.1.ext).mono fun _ _ h => h.elim : Chg (fun b => b = w4.heap.size) w4 W5) (by omega)).chg hc6 (by omega)).cell 0 _ rfl
    have HSt := Lib.hid (steps_any (w4.heap.size + 1) w4.heap.size s fv g.edges M.ms ea ec _ _ M.n M.s M.a _ w4 w6 wt b1 tn L (HY.out.2.1.chg hc6) hw6 HY.out.2.2.1 HY.out.2.2.2.1)
    have HC6 := Lib.hid (Ext.put (HY.out.2.1.ext) hc6 (Nat.le_refl _))
    clear hw6 hc6 c5
    go_wp2_with fail
    refine HSt.out.mono ?_
    rintro e w7 ⟨hx7, h7⟩
    have HX7 := Lib.hid hx7
    have hE7 := HC6.out.trans hx7
    have k7 := HK4.out.2.chg hE7 (fun h => h)
    rcases h7 with ⟨hno, rfl⟩ | ⟨hyes, v7, cs7, rfl, ho7, i7, a7, c7, l7, rfl, hc7, hok7⟩
    · have HE := Lib.hid (Ext.put (HY.out.2.2.2.2.trans hE7) (put5 (p := w.heap.size + 1 + 1 + 1) (c0 := .int .i64 0) (c1 := .bool false) (c2 := .slice none 0 0) (c3 := .int .i64 0) (c4 := .float .f64 0)) (by omega))
      have hQ := HY.out.1
      rw [if_pos hno] at hQ
      have HQ2 := Lib.hid hQ
      unfold zeroV
      obtain ⟨g0, f0, g1, f1, g2, f2, g3, f3, g4, f4⟩ := blk5_base k7
      obtain ⟨y3, z3, y4, z4, q0, q1, q2, q3, q4⟩ := blk5_facts k7 (.int .i64 0) (.bool false) (.slice none 0 0) (.int .i64 0) (.float .f64 0)
      clear k7 hE7 hx7 hno hQ c6
      go_wp2_with fail
      try simp only [Exit.inBlock, Exit.then]
      refine bodyPost_ret (by simp [results, Tryz.results46, go_sem, q0, q1, q2, q3, q4]; try rfl) rfl ?_
      exact ⟨HE.out, .inl ⟨HQ2.out.symm, rfl⟩⟩
    · have hset := put5 (w := w7) (p := w.heap.size + 1 + 1 + 1) (c0 := .int .i64 s) (c1 := .bool i7) (c2 := .slice a7 0 c7) (c3 := .int .i64 l7) (c4 := .float .f64 0)
      have HE := Lib.hid (Ext.put (HY.out.2.2.2.2.trans hE7) hset (by omega))
      have hsz6 := HC6.out.size
      have HO7 := Lib.hid (own_weak (own_low ho7 hset (by intro g hg e; omega)) (by omega : w.heap.size ≤ w6.heap.size))
      have hQ := HY.out.1
      rw [if_neg hyes] at hQ
      have HQ2 := Lib.hid (And.intro hQ (And.intro hc7 hok7))
      unfold V5
      obtain ⟨g0, f0, g1, f1, g2, f2, g3, f3, g4, f4⟩ := blk5_base k7
      obtain ⟨y3, z3, y4, z4, q0, q1, q2, q3, q4⟩ := blk5_facts k7 (.int .i64 s) (.bool i7) (.slice a7 0 c7) (.int .i64 l7) (.float .f64 0)
      clear k7 hE7 hx7 hyes hQ c6 hset ho7 hc7 hok7
      go_wp2_with fail
      try simp only [Exit.inBlock, Exit.then]
      refine bodyPost_ret (by simp [results, Tryz.results46, go_sem, q0, q1, q2, q3, q4]; try rfl) rfl ?_
      exact ⟨HE.out, .inr ⟨_, v7, V5 s i7 a7 c7 l7, HQ2.out.1.symm, rfl, HO7.out, ⟨_, _, _, _, rfl, HQ2.out.2.1, HQ2.out.2.2⟩⟩⟩
end Go.Proofs.YtkhllknahjmciaaGreat

/-! The steps of a path between two nodes, by some edges alone. -/
namespace Go.Proofs.YtkhllknahjmciaaGreat
open Go.RowKit
set_option linter.unusedVariables false
set_option linter.unusedSimpArgs false

set_option maxRecDepth 100000 in
set_option maxHeartbeats 1000000 in
theorem Find_any2 (f1 : Nat) (s : Int) (hsm : s = 2 ∨ s = 3) (fv : Value) (g : Gr) (t : Tr) (hm : MayG g) (hv : rcheck t = 0) (gcs tcs : List Value) (b1 tn : Int) (wt : Int → Bool) (w : World) (hg : GrC w g gcs) (ht : TrC w t tcs)
    (hfv : fv = .func (.func 71) #[] #[.pointer (some ⟨f1, 0, none⟩)]) (hfn : ∀ W, Ext w W → ∀ tok : Int, Calls Tryz.prog 71 #[.int .i64 tok, .pointer (some ⟨f1, 0, none⟩)] W (BvPost s (wt tok) W)) :
    Calls Tryz.prog 46 #[.agg gcs.toArray, .agg tcs.toArray, .int .i64 b1, .int .i64 tn, .int .i64 s, fv] w (FindPost s (findE wt g t b1 tn) w) := by
  obtain ⟨na, nc, ea, ec, rfl, hns, hes⟩ := hg
  obtain ⟨k, l, a, n, cap, mn, mx, rfl⟩ := ht.form
  obtain ⟨W1, hW1⟩ : ∃ W1, (((w.alloc (.cells #[.slice na g.nodes.length nc, .slice ea g.edges.length ec, .int .i64 g.next] 25)).alloc (.cells #[.int .i64 k, .string l, .slice a n cap, .int .i64 mn, .int .i64 mx] 28)).alloc (.cells #[.int .i64 b1] 3)).alloc (.cells #[.int .i64 0, .bool false, .slice none 0 0, .int .i64 0, .float .f64 0] 38) = W1 := ⟨_, rfl⟩
  have hx1 : Ext w W1 := by rw [← hW1]; exact ((((Chg.refl w).alloc _).alloc _).alloc _).alloc _
  have kG : Blk W1 w.heap.size #[.slice na g.nodes.length nc, .slice ea g.edges.length ec, .int .i64 g.next] 25 := by
    rw [← hW1]
    exact (Blk.new w _ _).chg (((Chg.refl (S := fun _ => False) _).alloc _).alloc _ |>.alloc _) (fun h => h)
  have kB : Blk W1 (w.heap.size + 1 + 1) #[.int .i64 b1] 3 := by
    rw [← hW1]
    have := (Blk.new ((w.alloc (.cells #[.slice na g.nodes.length nc, .slice ea g.edges.length ec, .int .i64 g.next] 25)).alloc (.cells #[.int .i64 k, .string l, .slice a n cap, .int .i64 mn, .int .i64 mx] 28)) #[.int .i64 b1] 3).chg ((Chg.refl (S := fun _ => False) _).alloc (.cells #[.int .i64 0, .bool false, .slice none 0 0, .int .i64 0, .float .f64 0] 38)) (fun h => h)
    simpa using this
  have kR : Blk W1 (w.heap.size + 1 + 1 + 1) #[.int .i64 0, .bool false, .slice none 0 0, .int .i64 0, .float .f64 0] 38 := by
    rw [← hW1]
    have := Blk.new (((w.alloc (.cells #[.slice na g.nodes.length nc, .slice ea g.edges.length ec, .int .i64 g.next] 25)).alloc (.cells #[.int .i64 k, .string l, .slice a n cap, .int .i64 mn, .int .i64 mx] 28)).alloc (.cells #[.int .i64 b1] 3)) #[.int .i64 0, .bool false, .slice none 0 0, .int .i64 0, .float .f64 0] 38
    simpa using this
  have HK := Lib.hid (Make_any t W1 _ hv (ht.ext hx1))
  have HW1 := Lib.hid hW1
  have HB := Lib.hid (And.intro hx1 (And.intro kG (And.intro kB kR)))
  have HC := Lib.hid (And.intro hns (And.intro hes (And.intro hm hv)))
  have HFn := Lib.hid hfn
  have hsf := run_store_f
  have hsz1 := kR.lt
  have hp1 := mach_n hv
  obtain ⟨p1, p2, p3, p4, p5, p6, p7⟩ := partP_n (plainP t) 0
  obtain ⟨M, hM⟩ : ∃ M, machP t = M := ⟨_, rfl⟩
  have hM' : partP (plainP t) 0 = M := hM
  rw [hM'] at p1 p2 p3 p4 p5 p6 p7
  obtain ⟨Q, hQ⟩ : ∃ Q, findE wt g t b1 tn = Q := ⟨_, rfl⟩
  rw [hQ]
  unfold findE at hQ
  rw [hM] at HK hQ
  have HM := Lib.hid hM
  have HQ := Lib.hid hQ
  clear hQ
  clear hx1 kG kB kR hns hes hm hv ht hfn hW1 hM hM'
  go_enter Tryz.func46, Tryz.ntmps46
  go_wp2_with fail
  rw [HW1.out]
  refine HK.out.mono ?_
  rintro e w2 ⟨al, capm, rfl, hmc, hx2⟩
  have hx3 := hx2.alloc (.cells #[.int .i64 M.n, .int .i64 M.s, .int .i64 M.a, .slice al M.ms.length capm] 158)
  have kN := Blk.new w2 #[.int .i64 M.n, .int .i64 M.s, .int .i64 M.a, .slice al M.ms.length capm] 158
  have hx13 := HB.out.1.trans hx3
  have kG3 := HB.out.2.1.chg hx3 (fun h => h)
  have kB3 := HB.out.2.2.1.chg hx3 (fun h => h)
  have kR3 := HB.out.2.2.2.chg hx3 (fun h => h)
  obtain ⟨n0, -, n1, -, n2, -⟩ := blk3_base kG3
  obtain ⟨hasB, hhas⟩ : ∃ b, decide (0 ≤ placeN g.nodes b1 0) = b := ⟨_, rfl⟩
  have HH := Lib.hid (nodeHas_any g.nodes b1 (w.heap.size + 1 + 1) _ na nc (HC.out.1.ext hx13) (kB3.cell 0 _ rfl) hasB hhas)
  have HX := Lib.hid (And.intro hx13 (And.intro hmc (And.intro kN (And.intro kG3 (And.intro kB3 (And.intro kR3 hhas))))))
  have hsz2 := hx2.size
  clear hmc hx2 hx3 kN hx13 kG3 kB3 kR3 hhas
  go_wp2_with fail
  refine HH.out.mono ?_
  rintro e w4 ⟨rfl, hx4⟩
  have HX4 := Lib.hid hx4
  clear n0 n1 n2
  cases hasB with
  | false =>
    have hQ := HQ.out
    rw [if_neg (of_decide_eq_false HX.out.2.2.2.2.2.2)] at hQ
    subst hQ
    have k7 := HX.out.2.2.2.2.2.1.chg hx4 (fun h => h)
    have HE := Lib.hid (Ext.put (HX.out.1.trans hx4) (put5 (p := w.heap.size + 1 + 1 + 1) (c0 := .int .i64 0) (c1 := .bool false) (c2 := .slice none 0 0) (c3 := .int .i64 0) (c4 := .float .f64 0)) (by omega))
    obtain ⟨g0, f0, g1, f1, g2, f2, g3, f3, g4, f4⟩ := blk5_base k7
    obtain ⟨y3, z3, y4, z4, q0, q1, q2, q3, q4⟩ := blk5_facts k7 (.int .i64 0) (.bool false) (.slice none 0 0) (.int .i64 0) (.float .f64 0)
    clear k7 hx4
    go_wp2_with fail
    try simp only [Exit.inBlock, Exit.then]
    refine bodyPost_ret (by simp [results, Tryz.results46, go_sem, q0, q1, q2, q3, q4]; try rfl) rfl ?_
    exact ⟨HE.out, .inl ⟨rfl, rfl⟩⟩
  | true =>
    have hyes : 0 ≤ placeN g.nodes b1 0 := of_decide_eq_true HX.out.2.2.2.2.2.2
    have hQ := HQ.out
    rw [if_pos hyes] at hQ
    have k4 := HX.out.2.2.1.chg hx4 (fun h => h)
    obtain ⟨n0, -, n1, -, n2, -⟩ := blk3_base (HX.out.2.2.2.1.chg hx4 (fun h => h))
    obtain ⟨m0, -, m1, -, m2, -, m3, -⟩ := blk4_base k4
    have kB4 := HX.out.2.2.2.2.1.chg hx4 (fun h => h)
    have hx5 : Ext w4 (w4.alloc (.map #[] 0)) := (Chg.refl w4).alloc _
    obtain ⟨W5, hW5⟩ : ∃ W5, (w4.alloc (.map #[] 0)).alloc (.cells #[.slice na g.nodes.length nc, .slice ea g.edges.length ec, .int .i64 g.next, .int .i64 M.n, .int .i64 M.s, .int .i64 M.a, .slice al M.ms.length capm, .int .i64 s, fv, .map (some w4.heap.size)] 165) = W5 := ⟨_, rfl⟩
    have hx45 : Ext w4 W5 := by rw [← hW5]; exact hx5.alloc _
    have hsb : Blk W5 (w4.heap.size + 1) #[.slice na g.nodes.length nc, .slice ea g.edges.length ec, .int .i64 g.next, .int .i64 M.n, .int .i64 M.s, .int .i64 M.a, .slice al M.ms.length capm, .int .i64 s, fv, .map (some w4.heap.size)] 165 := by
      rw [← hW5]
      simpa using Blk.new (w4.alloc (.map #[] 0)) #[.slice na g.nodes.length nc, .slice ea g.edges.length ec, .int .i64 g.next, .int .i64 M.n, .int .i64 M.s, .int .i64 M.a, .slice al M.ms.length capm, .int .i64 s, fv, .map (some w4.heap.size)] 165
    have hways : Ways W5 w4.heap.size s [] := Ways.ext (w := w4.alloc (.map #[] 0)) ⟨#[], 0, [], by show (w4.heap.push _)[w4.heap.size]? = _; simp, rfl, trivial⟩ (by rw [← hW5]; exact (Chg.refl _).alloc _)
    have hx14 := HX.out.1.trans hx4
    have hSC : SC w4 (w4.heap.size + 1) w4.heap.size s fv g.edges ea ec (.slice na g.nodes.length nc) (.int .i64 g.next) M.n M.s M.a (.slice al M.ms.length capm) W5 := ⟨hx45, Nat.le_refl _, by omega, hsb, Cells.ext HC.out.2.1 hx14⟩
    have hfit := fit_of HC.out.2.2.1 (t := t) hyes
    rw [HM.out] at hfit
    have hmv : Cells w4 al M.ms.length capm (mvCells M.ms) := HX.out.2.1.ext (((Chg.refl (S := fun _ => False) w2).alloc _).trans hx4)
    have HRun := Lib.hid (run_any2 f1 (w4.heap.size + 1) w4.heap.size s hsm fv g.edges g.nodes M.ms ea na al ec nc capm (.int .i64 g.next) M.n M.s M.a w4 W5 wt b1 M.n.toNat hSC (HC.out.1.ext hx14) hmv hways hfit hfv (fun W hW tok => HFn.out W (hx14.trans hW) tok))
    have hbu := (Built.one (wt := wt) (es := g.edges) (ms := M.ms) (b1 := b1) (b2 := M.s)).run g.nodes (g.nodes.length * M.n.toNat + 1)
    have hbd := hbu.bound hfit
    obtain ⟨L, hL⟩ : ∃ L, runE wt g.edges g.nodes M.ms (g.nodes.length * M.n.toNat + 1) [⟨b1, M.s, b1, M.s, 0, false⟩] = L := ⟨_, rfl⟩
    rw [hL] at HRun hbu hbd hQ
    have hnl := HC.out.2.2.1.nlen
    have hll : L.length ≤ 100000 := by
      have h1 : M.n.toNat ≤ 600 := by omega
      have h2 := Nat.mul_le_mul hnl h1
      omega
    have HY := Lib.hid (And.intro hQ (And.intro hSC (And.intro hbu (And.intro hll hx14))))
    have c5 := (kB4.chg hx45 (fun h => h)).cell 0 _ rfl
    have HK4 := Lib.hid (And.intro kB4 (HX.out.2.2.2.2.2.1.chg hx4 (fun h => h)))
    have HW5 := Lib.hid hW5
    have hmk := run_makeMap_plain (P := Tryz.prog) (w := w4) 163
    have hsz5 := hx45.size
    have hsz4 := hx4.size
    have hlb := kB4.lt
    have hlb2 := HK4.out.2.lt
    rw [hfv] at hW5
    clear k4 kB4 hx5 hx45 hsb hways hx14 hSC hfit hmv hbu hbd hQ hL hnl hll hx4 hyes
    go_wp2_with fail
    refine HRun.out.mono ?_
    rintro e w6 ⟨rfl, hw6, hc6⟩
    have c6 := ((HK4.out.1.chg ((HY.out.2.1.ext).mono fun _ _ h => h.elim : Chg (fun b => b = w4.heap.size) w4 W5) (by omega)).chg hc6 (by omega)).cell 0 _ rfl
    have HSt := Lib.hid (steps_any (w4.heap.size + 1) w4.heap.size s fv g.edges M.ms ea ec _ _ M.n M.s M.a _ w4 w6 wt b1 tn L (HY.out.2.1.chg hc6) hw6 HY.out.2.2.1 HY.out.2.2.2.1)
    have HC6 := Lib.hid (Ext.put (HY.out.2.1.ext) hc6 (Nat.le_refl _))
    clear hw6 hc6 c5
    go_wp2_with fail
    refine HSt.out.mono ?_
    rintro e w7 ⟨hx7, h7⟩
    have HX7 := Lib.hid hx7
    have hE7 := HC6.out.trans hx7
    have k7 := HK4.out.2.chg hE7 (fun h => h)
    rcases h7 with ⟨hno, rfl⟩ | ⟨hyes, v7, cs7, rfl, ho7, i7, a7, c7, l7, rfl, hc7, hok7⟩
    · have HE := Lib.hid (Ext.put (HY.out.2.2.2.2.trans hE7) (put5 (p := w.heap.size + 1 + 1 + 1) (c0 := .int .i64 0) (c1 := .bool false) (c2 := .slice none 0 0) (c3 := .int .i64 0) (c4 := .float .f64 0)) (by omega))
      have hQ := HY.out.1
      rw [if_pos hno] at hQ
      have HQ2 := Lib.hid hQ
      unfold zeroV
      obtain ⟨g0, f0, g1, f1, g2, f2, g3, f3, g4, f4⟩ := blk5_base k7
      obtain ⟨y3, z3, y4, z4, q0, q1, q2, q3, q4⟩ := blk5_facts k7 (.int .i64 0) (.bool false) (.slice none 0 0) (.int .i64 0) (.float .f64 0)
      clear k7 hE7 hx7 hno hQ c6
      go_wp2_with fail
      try simp only [Exit.inBlock, Exit.then]
      refine bodyPost_ret (by simp [results, Tryz.results46, go_sem, q0, q1, q2, q3, q4]; try rfl) rfl ?_
      exact ⟨HE.out, .inl ⟨HQ2.out.symm, rfl⟩⟩
    · have hset := put5 (w := w7) (p := w.heap.size + 1 + 1 + 1) (c0 := .int .i64 s) (c1 := .bool i7) (c2 := .slice a7 0 c7) (c3 := .int .i64 l7) (c4 := .float .f64 0)
      have HE := Lib.hid (Ext.put (HY.out.2.2.2.2.trans hE7) hset (by omega))
      have hsz6 := HC6.out.size
      have HO7 := Lib.hid (own_weak (own_low ho7 hset (by intro g hg e; omega)) (by omega : w.heap.size ≤ w6.heap.size))
      have hQ := HY.out.1
      rw [if_neg hyes] at hQ
      have HQ2 := Lib.hid (And.intro hQ (And.intro hc7 hok7))
      unfold V5
      obtain ⟨g0, f0, g1, f1, g2, f2, g3, f3, g4, f4⟩ := blk5_base k7
      obtain ⟨y3, z3, y4, z4, q0, q1, q2, q3, q4⟩ := blk5_facts k7 (.int .i64 s) (.bool i7) (.slice a7 0 c7) (.int .i64 l7) (.float .f64 0)
      clear k7 hE7 hx7 hyes hQ c6 hset ho7 hc7 hok7
      go_wp2_with fail
      try simp only [Exit.inBlock, Exit.then]
      refine bodyPost_ret (by simp [results, Tryz.results46, go_sem, q0, q1, q2, q3, q4]; try rfl) rfl ?_
      exact ⟨HE.out, .inr ⟨_, v7, V5 s i7 a7 c7 l7, HQ2.out.1.symm, rfl, HO7.out, ⟨_, _, _, _, rfl, HQ2.out.2.1, HQ2.out.2.2⟩⟩⟩
end Go.Proofs.YtkhllknahjmciaaGreat

/-! The best walk, where nothing is weighed. -/
namespace Go.Proofs.YtkhllknahjmciaaGreat
open Go.RowKit
set_option linter.unusedVariables false
set_option linter.unusedSimpArgs false

def WalkPost (s : Int) (q : Option (List (Int × Bool))) (w : World) (e : Ending) (w' : World) : Prop :=
  Ext w w' ∧ ((q = none ∧ e = .returned (.tuple #[.slice none 0 0, .agg zeroV.toArray, .int .i64 15])) ∨
    ∃ l v cs, q = some l ∧ e = .returned (.tuple #[v, .agg cs.toArray, .int .i64 0]) ∧ w'.ownsRow w.heap.size 67 2 v l.length (stepC l.reverse) ∧ Bv s true cs)
set_option maxRecDepth 100000 in
set_option maxHeartbeats 1000000 in
theorem Best_any (s : Int) (hsm : s = 2 ∨ s = 3) (g : Gr) (t : Tr) (hm : MayG g) (hv : rcheck t = 0) (gcs tcs : List Value) (b1 tn : Int) (w : World) (hg : GrC w g gcs) (ht : TrC w t tcs) :
    Calls Tryz.prog 11 #[.agg gcs.toArray, .agg tcs.toArray, .int .i64 b1, .int .i64 tn, .int .i64 s, .slice none 0 0] w (WalkPost s (findE (fun _ => true) g t b1 tn) w) := by
  obtain ⟨na, nc, ea, ec, rfl, hns, hes⟩ := hg
  obtain ⟨k, l, a, n, cap, mn, mx, rfl⟩ := ht.form
  have hgr : GrC w g [.slice na g.nodes.length nc, .slice ea g.edges.length ec, .int .i64 g.next] := ⟨na, nc, ea, ec, rfl, hns, hes⟩
  obtain ⟨W1, hW1⟩ : ∃ W1, ((((w.alloc (.cells #[.slice na g.nodes.length nc, .slice ea g.edges.length ec, .int .i64 g.next] 25)).alloc (.cells #[.int .i64 k, .string l, .slice a n cap, .int .i64 mn, .int .i64 mx] 28)).alloc (.cells #[.int .i64 s] 3)).alloc (.cells #[.slice none 0 0] 29)).alloc (.cells #[.int .i64 0, .bool false, .slice none 0 0, .int .i64 0, .float .f64 0] 38) = W1 := ⟨_, rfl⟩
  have hx1 : Ext w W1 := by rw [← hW1]; exact (((((Chg.refl w).alloc _).alloc _).alloc _).alloc _).alloc _
  have kG : Blk W1 w.heap.size #[.slice na g.nodes.length nc, .slice ea g.edges.length ec, .int .i64 g.next] 25 := by
    rw [← hW1]
    exact (Blk.new w _ _).chg ((((Chg.refl (S := fun _ => False) _).alloc _).alloc _ |>.alloc _).alloc _) (fun h => h)
  have kP : Blk W1 (w.heap.size + 1) #[.int .i64 k, .string l, .slice a n cap, .int .i64 mn, .int .i64 mx] 28 := by
    rw [← hW1]
    have := (Blk.new (w.alloc (.cells #[.slice na g.nodes.length nc, .slice ea g.edges.length ec, .int .i64 g.next] 25)) #[.int .i64 k, .string l, .slice a n cap, .int .i64 mn, .int .i64 mx] 28).chg ((((Chg.refl (S := fun _ => False) _).alloc (.cells #[.int .i64 s] 3)).alloc (.cells #[.slice none 0 0] 29)).alloc (.cells #[.int .i64 0, .bool false, .slice none 0 0, .int .i64 0, .float .f64 0] 38)) (fun h => h)
    simpa using this
  have kS : Blk W1 (w.heap.size + 1 + 1) #[.int .i64 s] 3 := by
    rw [← hW1]
    have := (Blk.new ((w.alloc (.cells #[.slice na g.nodes.length nc, .slice ea g.edges.length ec, .int .i64 g.next] 25)).alloc (.cells #[.int .i64 k, .string l, .slice a n cap, .int .i64 mn, .int .i64 mx] 28)) #[.int .i64 s] 3).chg (((Chg.refl (S := fun _ => False) _).alloc (.cells #[.slice none 0 0] 29)).alloc (.cells #[.int .i64 0, .bool false, .slice none 0 0, .int .i64 0, .float .f64 0] 38)) (fun h => h)
    simpa using this
  have kW : Blk W1 (w.heap.size + 1 + 1 + 1) #[.slice none 0 0] 29 := by
    rw [← hW1]
    have := (Blk.new (((w.alloc (.cells #[.slice na g.nodes.length nc, .slice ea g.edges.length ec, .int .i64 g.next] 25)).alloc (.cells #[.int .i64 k, .string l, .slice a n cap, .int .i64 mn, .int .i64 mx] 28)).alloc (.cells #[.int .i64 s] 3)) #[.slice none 0 0] 29).chg ((Chg.refl (S := fun _ => False) _).alloc (.cells #[.int .i64 0, .bool false, .slice none 0 0, .int .i64 0, .float .f64 0] 38)) (fun h => h)
    simpa using this
  have kR : Blk W1 (w.heap.size + 1 + 1 + 1 + 1) #[.int .i64 0, .bool false, .slice none 0 0, .int .i64 0, .float .f64 0] 38 := by
    rw [← hW1]
    have := Blk.new ((((w.alloc (.cells #[.slice na g.nodes.length nc, .slice ea g.edges.length ec, .int .i64 g.next] 25)).alloc (.cells #[.int .i64 k, .string l, .slice a n cap, .int .i64 mn, .int .i64 mx] 28)).alloc (.cells #[.int .i64 s] 3)).alloc (.cells #[.slice none 0 0] 29)) #[.int .i64 0, .bool false, .slice none 0 0, .int .i64 0, .float .f64 0] 38
    simpa using this
  have HF := Lib.hid (fun W (hW : Ext W1 W) => And.intro (kG.chg hW (fun h => h)) (And.intro (kP.chg hW (fun h => h)) (And.intro (kS.chg hW (fun h => h)) (And.intro (kW.chg hW (fun h => h)) (kR.chg hW (fun h => h))))))
  have HOf := Lib.hid (Of_any g W1 _ (hgr.ext hx1) hm)
  have HZe := Lib.hid (fun W => zero_any s hsm W)
  have HCk := Lib.hid (fun W (hW : Ext w W) => pCheck_any t W _ (ht.ext hW) hv)
  have HDe := Lib.hid (fun W (hW : Ext w W) => dPath0 s hsm g hm na _ nc ea _ ec g.next W (hgr.ext hW) (by have := hm.nlen; omega))
  have HFi := Lib.hid (fun f1 f2 W (hW : Ext w W) (h1 : W.cell? ⟨f1, 0, none⟩ = some (.slice none 0 0)) (h2 : W.cell? ⟨f2, 0, none⟩ = some (.int .i64 s)) => Find_any f1 f2 s hsm _ g t hm hv _ _ b1 tn (fun _ => true) W (hgr.ext hW) (ht.ext hW) rfl (fun W2 hW2 tok => best1 f1 f2 s hsm tok W2 ((hW2.cell (lt_of_cell h1) (fun h => h)).trans h1) ((hW2.cell (lt_of_cell h2) (fun h => h)).trans h2)))
  have HW1 := Lib.hid hW1
  have HX1 := Lib.hid hx1
  have hsz1 := kR.lt
  have hsf := run_store_f
  have es1 : (s == 1) = false := by rcases hsm with rfl | rfl <;> rfl
  obtain ⟨Q, hQ⟩ : ∃ Q, findE (fun _ => true) g t b1 tn = Q := ⟨_, rfl⟩
  rw [hQ] at HFi ⊢
  obtain ⟨m1, hm1⟩ : ∃ m1, g.nodes.length = m1 := ⟨_, rfl⟩
  obtain ⟨m2, hm2⟩ : ∃ m1, g.edges.length = m1 := ⟨_, rfl⟩
  rw [hm1, hm2] at HF HOf HDe HFi HW1
  rw [hm1, hm2]
  clear kG kP kS kW kR hgr hns hes ht hm hv hx1 hW1 hQ hm1 hm2 hsm
  go_enter Tryz.func11, Tryz.ntmps11
  go_wp2_with fail
  rw [HW1.out]
  refine HOf.out.mono ?_
  rintro e w2 ⟨ad, rfl, hx2⟩
  have s0 := (HF.out w2 hx2).2.2.1.cell 0 _ rfl
  have HX2 := Lib.hid hx2
  clear hx2
  go_wp2_with fail
  refine (HZe.out _).mono ?_
  rintro e w3 ⟨cs3, rfl, ⟨i3, a3, c3, l3, rfl, -, -⟩, hx3⟩
  unfold V5
  have hx13 := (HX2.out.trans hx3).alloc (.cells #[.int .i64 s, .bool i3, .slice a3 0 c3, .int .i64 l3, .float .f64 0] 38)
  obtain ⟨kG, kP, kS, kW, kR⟩ := HF.out _ hx13
  have s1 := kS.cell 0 _ rfl
  obtain ⟨p0, -, p1, -, p2, -, p3, -, p4, -⟩ := blk5_base kP
  have HX3 := Lib.hid hx13
  have HC3 := Lib.hid (HCk.out _ (HX1.out.trans hx13))
  clear kG kP kS kW kR s0 hx3 hx13
  go_wp2_with fail
  refine HC3.out.mono ?_
  rintro e w4 ⟨rfl, hx4⟩
  have hx14 := HX3.out.trans hx4
  obtain ⟨kG, kP, kS, kW, kR⟩ := HF.out _ hx14
  have s2 := kS.cell 0 _ rfl
  have r2 := kW.cell 0 _ rfl
  obtain ⟨g0, -, g1, -, g2, -⟩ := blk3_base kG
  have HX4 := Lib.hid hx14
  have HD4 := Lib.hid (HDe.out _ (HX1.out.trans hx14))
  clear kG kP kS kW kR s1 hx4 hx14 p0 p1 p2 p3 p4
  go_wp2_with fail
  refine HD4.out.mono ?_
  rintro e w5 ⟨v5, rfl, hx5⟩
  have hx15 := HX4.out.trans hx5
  obtain ⟨kG, kP, kS, kW, kR⟩ := HF.out _ hx15
  have s3 := kS.cell 0 _ rfl
  have HFd := Lib.hid (HFi.out _ _ w5 (HX1.out.trans hx15) (kW.cell 0 _ rfl) s3)
  obtain ⟨n0, -, n1, -, n2, -⟩ := blk3_base kG
  obtain ⟨p0, -, p1, -, p2, -, p3, -, p4, -⟩ := blk5_base kP
  have HX5 := Lib.hid hx15
  clear kG kP kS kW kR s2 r2 g0 g1 g2 hx5 hx15
  go_wp2_with fail
  refine HFd.out.mono ?_
  rintro e w6 ⟨hx6, h6⟩
  have hx16 := HX5.out.trans hx6
  rcases h6 with ⟨rfl, rfl⟩ | ⟨lq, v6, cs6, rfl, rfl, ho6, i6, a6, c6, l6, rfl, hc6, hok6⟩
  · unfold zeroV
    have hx17 := hx16.alloc (.cells #[.int .i64 0, .bool false, .slice none 0 0, .int .i64 0, .float .f64 0] 38)
    have k7 := (HF.out _ hx17).2.2.2.2
    have HE := Lib.hid (Ext.put (HX1.out.trans hx17) (put5 (p := w.heap.size + 1 + 1 + 1 + 1) (c0 := .int .i64 0) (c1 := .bool false) (c2 := .slice none 0 0) (c3 := .int .i64 0) (c4 := .float .f64 0)) (by omega))
    obtain ⟨g0, f0, g1, f1, g2, f2, g3, f3, g4, f4⟩ := blk5_base k7
    obtain ⟨y3, z3, y4, z4, q0, q1, q2, q3, q4⟩ := blk5_facts k7 (.int .i64 0) (.bool false) (.slice none 0 0) (.int .i64 0) (.float .f64 0)
    clear k7 hx17 hx16 hx6 n0 n1 n2 p0 p1 p2 p3 p4 s3
    go_wp2_with fail
    try simp only [Exit.inBlock, Exit.then]
    refine bodyPost_ret (by simp [results, Tryz.results11, go_sem, q0, q1, q2, q3, q4]; try rfl) rfl ?_
    exact ⟨HE.out, .inl ⟨rfl, rfl⟩⟩
  · unfold V5
    have hx17 := hx16.alloc (.cells #[.int .i64 s, .bool i6, .slice a6 0 c6, .int .i64 l6, .float .f64 0] 38)
    have k7 := (HF.out _ hx17).2.2.2.2
    have hset := put5 (w := w6.alloc (.cells #[.int .i64 s, .bool i6, .slice a6 0 c6, .int .i64 l6, .float .f64 0] 38)) (p := w.heap.size + 1 + 1 + 1 + 1) (c0 := .int .i64 s) (c1 := .bool i6) (c2 := .slice a6 0 c6) (c3 := .int .i64 l6) (c4 := .float .f64 0)
    have hsz5 := HX5.out.size
    have HE := Lib.hid (Ext.put (HX1.out.trans hx17) hset (by omega))
    have HO6 := Lib.hid (own_weak (own_low (ho6.alloc _) hset (by intro g hg e; omega)) (by omega : w.heap.size ≤ w5.heap.size))
    have HQ6 := Lib.hid (And.intro hc6 hok6)
    obtain ⟨v0, -, v1, -, v2, -, v3, -, v4, -⟩ := blk5_base (Blk.new w6 #[.int .i64 s, .bool i6, .slice a6 0 c6, .int .i64 l6, .float .f64 0] 38)
    obtain ⟨g0, f0, g1, f1, g2, f2, g3, f3, g4, f4⟩ := blk5_base k7
    obtain ⟨y3, z3, y4, z4, q0, q1, q2, q3, q4⟩ := blk5_facts k7 (.int .i64 s) (.bool i6) (.slice a6 0 c6) (.int .i64 l6) (.float .f64 0)
    clear k7 hx17 hx16 hx6 hset n0 n1 n2 p0 p1 p2 p3 p4 s3 ho6 hc6 hok6
    go_wp2_with fail
    refine wp_region_still_tail 3 (by kernel_rfl) (by kernel_rfl) ?_
    simp only [List.take_succ_cons, List.take_zero, List.drop_succ_cons, List.drop_zero]
    change wpStill _ _ (w6.alloc (.cells #[.int .i64 s, .bool i6, .slice a6 0 c6, .int .i64 l6, .float .f64 0] 38)).drew _ _ _
    repeat still_step
    refine wpStill_nil ?_
    change wpList _ _ _ _ _ (w6.alloc (.cells #[.int .i64 s, .bool i6, .slice a6 0 c6, .int .i64 l6, .float .f64 0] 38)).drew
    go_wp2_with fail
    try simp only [Exit.inBlock, Exit.then]
    refine bodyPost_ret (by simp [results, Tryz.results11, go_sem, q0, q1, q2, q3, q4]; try rfl) rfl ?_
    exact ⟨HE.out.drew, .inr ⟨lq, v6, V5 s i6 a6 c6 l6, rfl, rfl, own_low (S := fun _ => False) HO6.out (Chg.refl _).drew (fun _ _ h => h), ⟨_, _, _, _, rfl, HQ6.out.1, HQ6.out.2⟩⟩⟩
end Go.Proofs.YtkhllknahjmciaaGreat

/-! A walk by some edges alone. -/
namespace Go.Proofs.YtkhllknahjmciaaGreat
open Go.RowKit
set_option linter.unusedVariables false
set_option linter.unusedSimpArgs false

def SomePost (q : Option (List (Int × Bool))) (w : World) (e : Ending) (w' : World) : Prop :=
  Ext w w' ∧ ((q = none ∧ e = .returned (.tuple #[.slice none 0 0, .int .i64 15])) ∨
    ∃ l v, q = some l ∧ e = .returned (.tuple #[v, .int .i64 0]) ∧ w'.ownsRow w.heap.size 67 2 v l.length (stepC l.reverse))
set_option maxRecDepth 100000 in
set_option maxHeartbeats 1000000 in
theorem Some_any (g : Gr) (t : Tr) (hm : MayG g) (hv : rcheck t = 0) (gcs tcs : List Value) (b1 tn : Int) (ts : List Int) (ta : Option Addr) (tc : Nat) (w : World) (hg : GrC w g gcs) (ht : TrC w t tcs) (hts : Cells w ta ts.length tc (ts.map (.int .i64 ·))) :
    Calls Tryz.prog 32 #[.agg gcs.toArray, .agg tcs.toArray, .int .i64 b1, .int .i64 tn, .slice ta ts.length tc] w (SomePost (findE (fun k => decide (k ∈ ts)) g t b1 tn) w) := by
  obtain ⟨na, nc, ea, ec, rfl, hns, hes⟩ := hg
  obtain ⟨k, l, a, n, cap, mn, mx, rfl⟩ := ht.form
  have hgr : GrC w g [.slice na g.nodes.length nc, .slice ea g.edges.length ec, .int .i64 g.next] := ⟨na, nc, ea, ec, rfl, hns, hes⟩
  obtain ⟨W1, hW1⟩ : ∃ W1, ((w.alloc (.cells #[.slice na g.nodes.length nc, .slice ea g.edges.length ec, .int .i64 g.next] 25)).alloc (.cells #[.int .i64 k, .string l, .slice a n cap, .int .i64 mn, .int .i64 mx] 28)).alloc (.cells #[.slice ta ts.length tc] 80) = W1 := ⟨_, rfl⟩
  have hx1 : Ext w W1 := by rw [← hW1]; exact (((Chg.refl w).alloc _).alloc _).alloc _
  have kG : Blk W1 w.heap.size #[.slice na g.nodes.length nc, .slice ea g.edges.length ec, .int .i64 g.next] 25 := by
    rw [← hW1]
    exact (Blk.new w _ _).chg (((Chg.refl (S := fun _ => False) _).alloc _).alloc _) (fun h => h)
  have kP : Blk W1 (w.heap.size + 1) #[.int .i64 k, .string l, .slice a n cap, .int .i64 mn, .int .i64 mx] 28 := by
    rw [← hW1]
    have := (Blk.new (w.alloc (.cells #[.slice na g.nodes.length nc, .slice ea g.edges.length ec, .int .i64 g.next] 25)) #[.int .i64 k, .string l, .slice a n cap, .int .i64 mn, .int .i64 mx] 28).chg ((Chg.refl (S := fun _ => False) _).alloc (.cells #[.slice ta ts.length tc] 80)) (fun h => h)
    simpa using this
  have kS : Blk W1 (w.heap.size + 1 + 1) #[.slice ta ts.length tc] 80 := by
    rw [← hW1]
    have := Blk.new ((w.alloc (.cells #[.slice na g.nodes.length nc, .slice ea g.edges.length ec, .int .i64 g.next] 25)).alloc (.cells #[.int .i64 k, .string l, .slice a n cap, .int .i64 mn, .int .i64 mx] 28)) #[.slice ta ts.length tc] 80
    simpa using this
  have HF := Lib.hid (fun W (hW : Ext W1 W) => And.intro (kG.chg hW (fun h => h)) (And.intro (kP.chg hW (fun h => h)) (kS.chg hW (fun h => h))))
  have HOf := Lib.hid (Of_any g W1 _ (hgr.ext hx1) hm)
  have HCk := Lib.hid (fun W (hW : Ext w W) => pCheck_any t W _ (ht.ext hW) hv)
  have HFi := Lib.hid (fun f1 W (hW : Ext w W) (h1 : W.cell? ⟨f1, 0, none⟩ = some (.slice ta ts.length tc)) => Find_any2 f1 2 (.inl rfl) _ g t hm hv _ _ b1 tn (fun k => decide (k ∈ ts)) W (hgr.ext hW) (ht.ext hW) rfl (fun W2 hW2 tok => some1 ts f1 tok W2 ta tc ((hts.ext hW).ext hW2) ((hW2.cell (lt_of_cell h1) (fun h => h)).trans h1) _ rfl))
  have HW1 := Lib.hid hW1
  have HX1 := Lib.hid hx1
  have hsz1 := kS.lt
  have hsf := run_store_f
  obtain ⟨Q, hQ⟩ : ∃ Q, findE (fun k => decide (k ∈ ts)) g t b1 tn = Q := ⟨_, rfl⟩
  rw [hQ] at HFi ⊢
  obtain ⟨m1, hm1⟩ : ∃ m1, g.nodes.length = m1 := ⟨_, rfl⟩
  obtain ⟨m2, hm2⟩ : ∃ m1, g.edges.length = m1 := ⟨_, rfl⟩
  obtain ⟨m3, hm3⟩ : ∃ m1, ts.length = m1 := ⟨_, rfl⟩
  rw [hm1, hm2] at HF HOf HFi HW1
  rw [hm3] at HF HFi HW1
  rw [hm1, hm2, hm3]
  clear kG kP kS hgr hns hes ht hm hv hx1 hW1 hQ hm1 hm2 hm3 hts
  go_enter Tryz.func32, Tryz.ntmps32
  go_wp2_with fail
  rw [HW1.out]
  refine HOf.out.mono ?_
  rintro e w2 ⟨ad, rfl, hx2⟩
  obtain ⟨p0, -, p1, -, p2, -, p3, -, p4, -⟩ := blk5_base (HF.out w2 hx2).2.1
  have HC2 := Lib.hid (HCk.out _ (HX1.out.trans hx2))
  have HX2 := Lib.hid hx2
  clear hx2
  go_wp2_with fail
  refine HC2.out.mono ?_
  rintro e w5 ⟨rfl, hx5⟩
  have hx15 := HX2.out.trans hx5
  obtain ⟨kG, kP, kS⟩ := HF.out _ hx15
  have HFd := Lib.hid (HFi.out _ w5 (HX1.out.trans hx15) (kS.cell 0 _ rfl))
  obtain ⟨n0, -, n1, -, n2, -⟩ := blk3_base kG
  clear p0 p1 p2 p3 p4
  obtain ⟨p0, -, p1, -, p2, -, p3, -, p4, -⟩ := blk5_base kP
  have HX5 := Lib.hid hx15
  clear kG kP kS hx5 hx15
  go_wp2_with fail
  refine HFd.out.mono ?_
  rintro e w6 ⟨hx6, h6⟩
  have hx16 := HX5.out.trans hx6
  rcases h6 with ⟨rfl, rfl⟩ | ⟨lq, v6, cs6, rfl, rfl, ho6, i6, a6, c6, l6, rfl, hc6, hok6⟩
  · unfold zeroV
    have HE := Lib.hid ((HX1.out.trans hx16).alloc (.cells #[.int .i64 0, .bool false, .slice none 0 0, .int .i64 0, .float .f64 0] 38))
    clear hx16 hx6 n0 n1 n2 p0 p1 p2 p3 p4
    go_wp2_with fail
    go_returns
    exact ⟨HE.out, .inl ⟨rfl, rfl⟩⟩
  · unfold V5
    have hsz5 := HX5.out.size
    have HE := Lib.hid ((HX1.out.trans hx16).alloc (.cells #[.int .i64 2, .bool i6, .slice a6 0 c6, .int .i64 l6, .float .f64 0] 38))
    have HO6 := Lib.hid (own_weak (ho6.alloc (.cells #[.int .i64 2, .bool i6, .slice a6 0 c6, .int .i64 l6, .float .f64 0] 38)) (by omega : w.heap.size ≤ w5.heap.size))
    clear hx16 hx6 n0 n1 n2 p0 p1 p2 p3 p4 ho6 hc6 hok6
    go_wp2_with fail
    go_returns
    exact ⟨HE.out, .inr ⟨lq, v6, rfl, rfl, HO6.out⟩⟩
end Go.Proofs.YtkhllknahjmciaaGreat
