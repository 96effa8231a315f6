/-
  The walk of the law BailPlays: true, and nothing that was there has turned.
-/
import Derived.Test.YtdiklblnilmpoaaPlayK
namespace Go.Proofs.Ytdiklblnilmpoaa
open Go.RowKit Pl
set_option linter.unusedVariables false

theorem weight_of {W : World} {d : Nd} {t : Tr} (h : NodeAt W d t) {x : Int} (hx : wt t 0 = x) : ∀ w, Ext W w → Calls Try.prog 31 #[d.val t, .int .i64 0] w fun e w' => e = .returned (.int .i64 x) ∧ Ext w w' := by
  intro w hw
  have := weight_any (cnt t) t (Nat.le_refl _) W d w 0 h hw (by omega)
  rw [hx] at this
  exact this
theorem bailPlays_heavy (W : World) (k c n : Int) (a : Option Addr) (cap len : Nat) (b x : Int) (hw : 200 < x)
    (HW : Hid (∀ w, Ext W w → Calls Try.prog 31 #[.agg #[.int .i64 k, .int .i64 c, .int .i64 n, .slice a len cap], .int .i64 0] w fun e w' => e = .returned (.int .i64 x) ∧ Ext w w')) :
    Calls Try.prog 7 #[.agg #[.int .i64 k, .int .i64 c, .int .i64 n, .slice a len cap], .int .i64 b] W fun e w' => e = .returned (.bool true) ∧ Below W.heap.size W w' := by
  go_enter Try.func7, Try.ntmps7
  go_wp2_with fail
  refine (HW.out _ ((Chg.refl W).alloc _)).mono ?_
  rintro e w1 ⟨rfl, e1⟩
  have E1 := Lib.hid ((((Chg.refl W).alloc _).trans e1 : Ext W w1))
  clear e1 HW
  go_wp2_with fail
  refine (awake_any _).mono ?_
  rintro e w2 ⟨rfl, h2⟩
  go_wp2
  go_ret
  exact ⟨rfl, Ext.below (E1.out.trans h2)⟩
theorem four_new (w : World) (a b c d : Array Value) (ta tb tc td : Nat) :
    Ext w ((((w.alloc (.cells a ta)).alloc (.cells b tb)).alloc (.cells c tc)).alloc (.cells d td)) ∧ Blk ((((w.alloc (.cells a ta)).alloc (.cells b tb)).alloc (.cells c tc)).alloc (.cells d td)) w.heap.size a ta ∧
    Blk ((((w.alloc (.cells a ta)).alloc (.cells b tb)).alloc (.cells c tc)).alloc (.cells d td)) (w.heap.size + 1) b tb ∧ Blk ((((w.alloc (.cells a ta)).alloc (.cells b tb)).alloc (.cells c tc)).alloc (.cells d td)) (w.heap.size + 1 + 1) c tc ∧
    Blk ((((w.alloc (.cells a ta)).alloc (.cells b tb)).alloc (.cells c tc)).alloc (.cells d td)) (w.heap.size + 1 + 1 + 1) d td := by
  refine ⟨(((Chg.refl w).alloc _).alloc _).alloc _ |>.alloc _, ?_, ?_, ?_, ?_⟩
  · exact (Blk.new w a ta).chg (S := fun _ => False) ((((Chg.refl _).alloc _).alloc _).alloc _) (fun h => h)
  · have := Blk.new (w.alloc (.cells a ta)) b tb
    rw [World.size_alloc] at this
    exact this.chg (S := fun _ => False) (((Chg.refl _).alloc _).alloc _) (fun h => h)
  · have := Blk.new ((w.alloc (.cells a ta)).alloc (.cells b tb)) c tc
    rw [World.size_alloc, World.size_alloc] at this
    exact this.chg (S := fun _ => False) ((Chg.refl _).alloc _) (fun h => h)
  · have := Blk.new (((w.alloc (.cells a ta)).alloc (.cells b tb)).alloc (.cells c tc)) d td
    rw [World.size_alloc, World.size_alloc, World.size_alloc] at this
    exact this
/-- Behind 'plays': what stands of the rest. -/
theorem plays_mid {W w2 w3 w5 : World} {n3 nm nw nx np len cap : Nat} {k c n L : Int} {a : Option Addr} {s' : St}
    (hB : Blk w2 nm #[.int .i64 L] 62 ∧ Blk w2 nw #[.slice none 0 0, .pointer (some ⟨nm, 0, none⟩)] 49 ∧ Blk w2 nx #[.pointer (some ⟨nw, 0, none⟩)] 47 ∧ Blk w2 n3 #[.int .i64 k, .int .i64 c, .int .i64 n, .slice a len cap] 45 ∧ Ext W w2)
    (hO : n3 < nm ∧ nm < nw ∧ nw < nx ∧ nx < np ∧ np < w2.heap.size ∧ W.heap.size ≤ n3) (hL : 0 ≤ L ∧ L ≤ 9223372036854775807)
    (hp : PSt W w2.heap.size np w2 ⟨[], L⟩) (hs : PSt W w2.heap.size np w3 s') (hk : Keep (NtsD np Non) w2 w3) (e5 : Ext w3 w5) :
    FrD W w5.heap.size nw nm nx n3 #[.int .i64 k, .int .i64 c, .int .i64 n, .slice a len cap] w5 ⟨[], L⟩ ∧ PSt W w2.heap.size np w5 s' ∧ w2.heap.size ≤ w5.heap.size := by
  obtain ⟨bm, bw, bx, b3, EW⟩ := hB
  obtain ⟨o1, o2, o3, o4, o5, o6⟩ := hO
  have nd : ∀ i, i < np → ¬ NtsD np Non w2 i := fun i hi => hp.nts.notD (by omega) (fun h => h) (by omega)
  have hsz : w2.heap.size ≤ w5.heap.size := Nat.le_trans hk.size e5.size
  have hs5 := hs.toExt e5
  have bm5 := (bm.keep hk (nd _ (by omega))).chg e5 (fun h => h)
  have bw5 := (bw.keep hk (nd _ (by omega))).chg e5 (fun h => h)
  have bx5 := (bx.keep hk (nd _ (by omega))).chg e5 (fun h => h)
  have b35 := (b3.keep hk (nd _ (by omega))).chg e5 (fun h => h)
  exact ⟨⟨⟨hs5.ext, ⟨_, bw5, World.ownsRow_nil _ _ _ _, bw5.lt⟩, ⟨_, bm5⟩, Nat.le_refl _, by omega, by omega, bm5.lt, by omega, hL.1, hL.2⟩, bx5, b35, ⟨by omega, by omega⟩, ⟨by omega, by omega⟩⟩, hs5, hsz⟩
/-- Behind Safe: all that the law looks at. -/
theorem plays_end {W w2 w5 w2' w6 : World} {n3 nm nw nx np ne len cap : Nat} {k c n L : Int} {a : Option Addr} {s' : St} {x0 x1 x2 : Value}
    (h5 : FrD W w5.heap.size nw nm nx n3 #[.int .i64 k, .int .i64 c, .int .i64 n, .slice a len cap] w5 ⟨[], L⟩ ∧ PSt W w2.heap.size np w5 s' ∧ w2.heap.size ≤ w5.heap.size)
    (hO : n3 < nm ∧ nm < nw ∧ nw < nx ∧ nx < np ∧ np < w2.heap.size ∧ W.heap.size ≤ n3) (hp : PSt W w2.heap.size np w2 ⟨[], L⟩) (h7 : Blk w5 ne #[x0, x1, x2] 54 ∧ w2.heap.size ≤ ne)
    (hk : Keep (WD nw nm) w5 w2') (hst : WSt W w5.heap.size nw nm w2' s') (ha : Aft (WD nw nm) w5 w2' w6) :
    Ext W w6 ∧ ∃ (va : Option Addr) (vc : Nat) (pa : Option Addr) (pc : Nat),
      ((∀ j y, s'.notes[j]? = some y → ∃ p, va = some p ∧ w6.cell? (p.add j) = some (.int .i64 y)) ∧ (∀ j y, s'.notes[j]? = some y → ∃ p, pa = some p ∧ w6.cell? (p.add j) = some (.int .i64 y))) ∧
      w6.cell? ⟨nx, 0, none⟩ = some (.pointer (some ⟨nw, 0, none⟩)) ∧ w6.cell? ⟨nw, 0, none⟩ = some (.slice va s'.notes.length vc) ∧ w6.cell? ⟨nw, 1, none⟩ = some (.pointer (some ⟨nm, 0, none⟩)) ∧ w6.cell? ⟨nm, 0, none⟩ = some (.int .i64 s'.left) ∧
      w6.cell? ⟨np, 0, none⟩ = some (.slice pa s'.notes.length pc) ∧ w6.cell? ⟨np, 1, none⟩ = some (.int .i64 s'.left) ∧ w6.cell? ⟨ne, 0, none⟩ = some x0 ∧ w6.cell? ⟨ne, 1, none⟩ = some x1 ∧ w6.cell? ⟨ne, 2, none⟩ = some x2 := by
  obtain ⟨hf, hs5, hsz⟩ := h5
  obtain ⟨o1, o2, o3, o4, o5, o6⟩ := hO
  obtain ⟨b7, g7⟩ := h7
  have hw6 : WSt W w5.heap.size nw nm w6 s' := hf.st.aft hst hk ha
  have k6 := ha.1
  have nd : ∀ i, i < w5.heap.size → i ≠ nw → i ≠ nm → ¬ WD nw nm w5 i := fun i h1 h2 h3 => hf.st.nts.notD h2 h3 h1
  have hp6 : Nts w2.heap.size np 52 (.int .i64 s'.left) w6 s'.notes := hs5.nts.of (S := Non) fun i hi => by
    have hl := hs5.there i hi
    have hg := hs5.nts.ge hi
    exact k6.block i hl (nd i hl (by omega) (by omega))
  have bx6 := hf.b2.keep k6 hf.nd2
  have b76 := b7.keep k6 (nd ne b7.lt (by omega) (by omega))
  obtain ⟨va, vc, c2, la⟩ := hw6.nts.val
  obtain ⟨pa, pc, c5, lp⟩ := hp6.val
  obtain ⟨_, _, c3, _⟩ := hw6.nts.cell
  obtain ⟨_, _, c6, _⟩ := hp6.cell
  exact ⟨hw6.ext, va, vc, pa, pc, ⟨la, lp⟩, bx6.cell 0 _ rfl, c2, c3, hw6.bx.cell, c5, c6, b76.cell 0 _ rfl, b76.cell 1 _ rfl, b76.cell 2 _ rfl⟩
set_option maxRecDepth 100000 in
set_option maxHeartbeats 4000000 in
theorem bailPlays_light_neg (W : World) (k c n : Int) (a : Option Addr) (cap : Nat) (kids : List Tr) (b x : Int) (hb : b ≤ 9223372036854775807) (hneg : b < 0) (hw : ¬ 200 < x)
    (HW : Hid (∀ w, Ext W w → Calls Try.prog 31 #[.agg #[.int .i64 k, .int .i64 c, .int .i64 n, .slice a kids.length cap], .int .i64 0] w fun e w' => e = .returned (.int .i64 x) ∧ Ext w w'))
    (HN : Hid (NodeAt W ⟨k, c, n, a, cap⟩ (.node k c n kids))) (HC : Hid (cnt (.node k c n kids) ≤ 200)) :
    Calls Try.prog 7 #[.agg #[.int .i64 k, .int .i64 c, .int .i64 n, .slice a kids.length cap], .int .i64 b] W fun e w' => e = .returned (.bool true) ∧ Below W.heap.size W w' := by
  obtain ⟨len, hlen⟩ : ∃ len, kids.length = len := ⟨_, rfl⟩
  have HP : Hid (∀ (w : World) (B bp : Nat) (s : St), PSt W B bp w s → s.notes.length + 3 * cnt (.node k c n kids) + 3 ≤ 1000 →
      Calls Try.prog 32 #[.pointer (some ⟨bp, 0, none⟩), .agg #[.int .i64 k, .int .i64 c, .int .i64 n, .slice a len cap]] w (PlaysEnd W B bp w (play (.node k c n kids) s))) :=
    Lib.hid fun w B bp s h1 h2 => by rw [← hlen]; exact plays_all _ (.node k c n kids) (Nat.le_refl _) W ⟨k, c, n, a, cap⟩ w B bp s HN.out h1 h2
  have HD : Hid (∀ (w : World) (B bw bm n2 n3 : Nat) (s : St), FrD W B bw bm n2 n3 #[.int .i64 k, .int .i64 c, .int .i64 n, .slice a len cap] w s → s.notes.length + 3 * cnt (.node k c n kids) + 3 ≤ 1000 →
      Runs (WD bw bm) (.func (.func 33) #[] #[.pointer (some ⟨n2, 0, none⟩), .pointer (some ⟨n3, 0, none⟩)]) w (fun o w' => o = toFin (play (.node k c n kids) s).1 ∧ WSt W B bw bm w' (play (.node k c n kids) s).2)) :=
    Lib.hid fun w B bw bm n2 n3 s h1 h2 => bailLit_runs W w B bw bm n2 n3 k c n a cap kids s HN.out (by rw [hlen]; exact h1) (does_all _ (.node k c n kids) (Nat.le_refl _)) h2 _ rfl
  have HCc := Lib.hid (show ∀ L : Int, (([] : List Int).length + 3 * cnt (.node k c n kids) + 3 ≤ 1000) ∧ (play (.node k c n kids) ⟨[], L⟩).2.notes.length ≤ 1000 from fun L => by
    have h1 := HC.out
    have h2 := (play_fair (.node k c n kids) ⟨[], L⟩).1
    simp at h2 ⊢
    omega)
  obtain ⟨r, hr⟩ : ∃ r, play (.node k c n kids) ⟨[], (0 : Int)⟩ = r := ⟨_, rfl⟩
  obtain ⟨N, hN⟩ : ∃ N, cnt (.node k c n kids) = N := ⟨_, rfl⟩
  rw [hlen] at HW ⊢
  have HP2 : Hid (∀ (w : World) (B bp : Nat), PSt W B bp w ⟨[], (0 : Int)⟩ → Calls Try.prog 32 #[.pointer (some ⟨bp, 0, none⟩), .agg #[.int .i64 k, .int .i64 c, .int .i64 n, .slice a len cap]] w (PlaysEnd W B bp w r)) :=
    Lib.hid fun w B bp h => by have := HP.out w B bp ⟨[], (0 : Int)⟩ h (HCc.out (0 : Int)).1; rw [hr] at this; exact this
  have HD2 : Hid (∀ (w : World) (B bw bm n2 n3 : Nat), FrD W B bw bm n2 n3 #[.int .i64 k, .int .i64 c, .int .i64 n, .slice a len cap] w ⟨[], (0 : Int)⟩ →
      Runs (WD bw bm) (.func (.func 33) #[] #[.pointer (some ⟨n2, 0, none⟩), .pointer (some ⟨n3, 0, none⟩)]) w (fun o w' => o = toFin r.1 ∧ WSt W B bw bm w' r.2)) :=
    Lib.hid fun w B bw bm n2 n3 h => by have := HD.out w B bw bm n2 n3 ⟨[], (0 : Int)⟩ h (HCc.out (0 : Int)).1; rw [hr] at this; exact this
  have HR : Hid (r.2.notes.length ≤ 1000) := Lib.hid (by have := (HCc.out (0 : Int)).2; rw [hr] at this; exact this)
  clear HP HD HN HC HCc hr hN hlen
  have hmx : max b 0 = 0 := by omega
  go_enter Try.func7, Try.ntmps7
  go_wp2_with fail
  refine (HW.out _ ((Chg.refl W).alloc _)).mono ?_
  rintro e w1 ⟨rfl, e1⟩
  have E1 := Lib.hid ((((Chg.refl W).alloc _).trans e1 : Ext W w1))
  have B0 : Blk w1 W.heap.size #[.int .i64 k, .int .i64 c, .int .i64 n, .slice a len cap] 45 := (Blk.new W _ _).chg e1 (fun h => h)
  have q0 := B0.cell 0 _ rfl
  have q1 := B0.cell 1 _ rfl
  have q2 := B0.cell 2 _ rfl
  have q3 := B0.cell 3 _ rfl
  have l0 := B0.lt
  have HB0 := Lib.hid B0
  obtain ⟨n3, hn3⟩ : ∃ n3, W.heap.size = n3 := ⟨_, rfl⟩
  have Hn3 := Lib.hid hn3
  rw [hn3] at q0 q1 q2 q3 l0
  clear e1 HW B0
  rw [hn3]
  clear hn3
  have i0 : ¬ n3 = w1.heap.size := by omega
  have i1 : ¬ n3 = w1.heap.size + 1 := by omega
  have i2 : ¬ n3 = w1.heap.size + 1 + 1 := by omega
  have i3 : ¬ n3 = w1.heap.size + 1 + 1 + 1 := by omega
  go_upto_region 5 with (go_at_call 9; refine (newMeter_any b _).mono ?_; rintro e w' ⟨rfl, rfl⟩; rw [hmx])
  clear i0 i1 i2 i3 q0 q1 q2 q3 hmx
  refine wp_world (fun w2 => Ext w1 w2 ∧ Blk w2 w1.heap.size #[.int .i64 (0 : Int)] 62 ∧ Blk w2 (w1.heap.size + 1) #[.slice none 0 0, .pointer (some ⟨w1.heap.size, 0, none⟩)] 49 ∧
    Blk w2 (w1.heap.size + 1 + 1) #[.pointer (some ⟨w1.heap.size + 1, 0, none⟩)] 47 ∧ Blk w2 (w1.heap.size + 1 + 1 + 1) #[.slice none 0 0, .int .i64 (0 : Int)] 52) (four_new w1 _ _ _ _ _ _ _ _) ?_
  rintro w2 ⟨e2, bm, bw, bx, bp⟩
  obtain ⟨nm, hnm⟩ : ∃ nm, w1.heap.size = nm := ⟨_, rfl⟩
  obtain ⟨nw, hnw⟩ : ∃ nw, w1.heap.size + 1 = nw := ⟨_, rfl⟩
  obtain ⟨nx, hnx⟩ : ∃ nx, w1.heap.size + 1 + 1 = nx := ⟨_, rfl⟩
  obtain ⟨np, hnp⟩ : ∃ np, w1.heap.size + 1 + 1 + 1 = np := ⟨_, rfl⟩
  rw [hnp] at bp
  rw [hnx] at bx
  rw [hnw] at bw bx
  rw [hnm] at bm bw
  rw [hnp, hnx, hnw, hnm]
  have B0 : Blk w2 n3 #[.int .i64 k, .int .i64 c, .int .i64 n, .slice a len cap] 45 := by have := HB0.out; rw [Hn3.out] at this; exact this.chg e2 (fun h => h)
  have EW : Ext W w2 := E1.out.trans e2
  have hWs := E1.out.size
  have o1 : n3 < nm := by omega
  have o2 : nm < nw := by omega
  have o3 : nw < nx := by omega
  have o4 : nx < np := by omega
  have o5 := bp.lt
  have HO := Lib.hid (And.intro o1 (And.intro o2 (And.intro o3 (And.intro o4 (And.intro o5 (show W.heap.size ≤ n3 from by rw [Hn3.out]; exact Nat.le_refl _))))))
  have hL0 : (0 : Int) ≤ (0 : Int) := by omega
  have hL1 : (0 : Int) ≤ 9223372036854775807 := by omega
  have hps : PSt W w2.heap.size np w2 ⟨[], (0 : Int)⟩ := ⟨EW, ⟨.slice none 0 0, bp, World.ownsRow_nil _ _ _ _, o5⟩, Nat.le_refl _, by omega, hL0, hL1⟩
  have HPS := Lib.hid hps
  have HL := Lib.hid (And.intro hL0 hL1)
  have HBs := Lib.hid (And.intro bm (And.intro bw (And.intro bx (And.intro B0 EW))))
  have q0 := B0.cell 0 _ rfl
  have q1 := B0.cell 1 _ rfl
  have q2 := B0.cell 2 _ rfl
  have q3 := B0.cell 3 _ rfl
  clear e2 bm bw bx bp hnm hnw hnx hnp B0 EW hWs o1 o2 o3 o4 o5 hL0 hL1 hps E1 HB0 l0 Hn3
  have hmf := run_mkFunc
  go_wp2_with fail
  refine (HP2.out _ _ _ HPS.out).mono ?_
  rintro e w3 ⟨rfl, hs3, hk3⟩
  have HS3 := Lib.hid hs3
  have HK3 := Lib.hid hk3
  clear hs3 hk3 q0 q1 q2 q3 HP2
  obtain ⟨en, s'⟩ := r
  have hai := as_int
  have hah := as_hit
  have ham := as_miss 3 (by decide)
  have hami := as_int_miss
  have hamn := as_int_nil
  have hahn := as_hit_nil
  cases en with
  | ret =>
    simp only [encE]
    go_upto_region 6 with (fail)
    refine wp_world (fun w5 => Ext w3 w5 ∧ Blk w5 w3.heap.size #[.int .i64 0, .int .i64 0, .int .i64 0] 54) ⟨(Chg.refl _).alloc _, Blk.new _ _ _⟩ ?_
    rintro w5 ⟨e5, b7⟩
    obtain ⟨ne, hne⟩ : ∃ ne, w3.heap.size = ne := ⟨_, rfl⟩
    rw [hne] at b7
    rw [hne]
    have HA5 := plays_mid HBs.out HO.out HL.out HPS.out HS3.out HK3.out e5
    have H7 := Lib.hid (And.intro b7 (show w2.heap.size ≤ ne from by rw [← hne]; exact HK3.out.size))
    clear e5 b7 hne
    have HS := Lib.hid (safe_runs (fv := .func (.func 33) #[] #[.pointer (some ⟨nx, 0, none⟩), .pointer (some ⟨n3, 0, none⟩)]) (D := WD nw nm) (ntsD_loc nw _) HA5.1.st.there (fun w6 he => HD2.out w6 w5.heap.size nw nm nx n3 (HA5.1.toExt he)))
    have H5 := Lib.hid HA5
    clear HA5
    go_wp2_with fail
    refine HS.out.mono ?_
    rintro e w6 ⟨o, w2', hk2, ⟨rfl, hst⟩, ha, he⟩
    simp only [toFin] at he
    obtain rfl := he
    obtain ⟨E6, va, vc, pa, pc, la, c1, c2, c3, c4, c5, c6, c7, c8, c9⟩ := plays_end H5.out HO.out HPS.out H7.out hk2 hst ha
    have HLA := Lib.hid la
    have HE6 := Lib.hid E6
    clear la E6 hk2 hst ha HS H7 H5
    have hlen2 : s'.notes.length ≤ 1000 := HR.out
    go_wp2_with fail
    go_quiet (first | (go_at_call 35; refine Calls.quiet_of (ints_same _ _ _ _ _ s'.notes _ rfl hlen2 ?_ ?_); exact HLA.out.1; exact HLA.out.2) | (go_at_call 13; exact Calls.quiet_of_same ((left_some nm s'.left (w6.drewN _) c4).mono fun e w' ⟨h1, h2⟩ => ⟨h1, h2.symm⟩)))
    go_wp2_with fail
    refine (awake_any _).mono ?_
    rintro e w7 ⟨rfl, e7⟩
    go_wp2_with fail
    go_ret
    exact ⟨rfl, Ext.below ((HE6.out.trans (Chg.drewN (Chg.refl _) nq)).trans e7)⟩
  | bail c' a' =>
    simp only [encE]
    go_upto_region 6 with (fail)
    refine wp_world (fun w5 => Ext w3 w5 ∧ Blk w5 w3.heap.size #[.int .i64 1, .int .i64 c', .int .i64 a'] 54) ⟨(Chg.refl _).alloc _, Blk.new _ _ _⟩ ?_
    rintro w5 ⟨e5, b7⟩
    obtain ⟨ne, hne⟩ : ∃ ne, w3.heap.size = ne := ⟨_, rfl⟩
    rw [hne] at b7
    rw [hne]
    have HA5 := plays_mid HBs.out HO.out HL.out HPS.out HS3.out HK3.out e5
    have H7 := Lib.hid (And.intro b7 (show w2.heap.size ≤ ne from by rw [← hne]; exact HK3.out.size))
    clear e5 b7 hne
    have HS := Lib.hid (safe_runs (fv := .func (.func 33) #[] #[.pointer (some ⟨nx, 0, none⟩), .pointer (some ⟨n3, 0, none⟩)]) (D := WD nw nm) (ntsD_loc nw _) HA5.1.st.there (fun w6 he => HD2.out w6 w5.heap.size nw nm nx n3 (HA5.1.toExt he)))
    have H5 := Lib.hid HA5
    clear HA5
    go_wp2_with fail
    refine HS.out.mono ?_
    rintro e w6 ⟨o, w2', hk2, ⟨rfl, hst⟩, ha, he⟩
    simp only [toFin] at he
    obtain ⟨b6, rfl, cb0, cb1, _⟩ := he
    obtain ⟨E6, va, vc, pa, pc, la, c1, c2, c3, c4, c5, c6, c7, c8, c9⟩ := plays_end H5.out HO.out HPS.out H7.out hk2 hst ha
    have HLA := Lib.hid la
    have HE6 := Lib.hid E6
    clear la E6 hk2 hst ha HS H7 H5
    have hlen2 : s'.notes.length ≤ 1000 := HR.out
    go_wp2_with fail
    go_quiet (first | (go_at_call 35; refine Calls.quiet_of (ints_same _ _ _ _ _ s'.notes _ rfl hlen2 ?_ ?_); exact HLA.out.1; exact HLA.out.2) | (go_at_call 13; exact Calls.quiet_of_same ((left_some nm s'.left (w6.drewN _) c4).mono fun e w' ⟨h1, h2⟩ => ⟨h1, h2.symm⟩)))
    go_upto_region 13 with (fail)
    refine wp_region_still_tail 24 (by kernel_rfl) (by kernel_rfl) ?_
    simp only [List.take_succ_cons, List.take_zero, List.drop_succ_cons, List.drop_zero]
    change wpStill _ _ (w6.drewN nq).drew _ _ _
    repeat still_step
    refine wpStill_nil ?_
    change wpList _ _ _ _ _ (w6.drewN nq).drew
    go_wp2_with fail
    refine (awake_any _).mono ?_
    rintro e w7 ⟨rfl, e7⟩
    go_wp2_with fail
    go_ret
    exact ⟨rfl, Ext.below ((HE6.out.trans (Chg.drew (Chg.drewN (Chg.refl _) nq))).trans e7)⟩
  | num x' =>
    simp only [encE]
    go_upto_region 6 with (fail)
    refine wp_world (fun w5 => Ext w3 w5 ∧ Blk w5 w3.heap.size #[.int .i64 2, .int .i64 0, .int .i64 x'] 54) ⟨(Chg.refl _).alloc _, Blk.new _ _ _⟩ ?_
    rintro w5 ⟨e5, b7⟩
    obtain ⟨ne, hne⟩ : ∃ ne, w3.heap.size = ne := ⟨_, rfl⟩
    rw [hne] at b7
    rw [hne]
    have HA5 := plays_mid HBs.out HO.out HL.out HPS.out HS3.out HK3.out e5
    have H7 := Lib.hid (And.intro b7 (show w2.heap.size ≤ ne from by rw [← hne]; exact HK3.out.size))
    clear e5 b7 hne
    have HS := Lib.hid (safe_runs (fv := .func (.func 33) #[] #[.pointer (some ⟨nx, 0, none⟩), .pointer (some ⟨n3, 0, none⟩)]) (D := WD nw nm) (ntsD_loc nw _) HA5.1.st.there (fun w6 he => HD2.out w6 w5.heap.size nw nm nx n3 (HA5.1.toExt he)))
    have H5 := Lib.hid HA5
    clear HA5
    go_wp2_with fail
    refine HS.out.mono ?_
    rintro e w6 ⟨o, w2', hk2, ⟨rfl, hst⟩, ha, he⟩
    simp only [toFin] at he
    obtain ⟨rfl, _⟩ := he
    obtain ⟨E6, va, vc, pa, pc, la, c1, c2, c3, c4, c5, c6, c7, c8, c9⟩ := plays_end H5.out HO.out HPS.out H7.out hk2 hst ha
    have HLA := Lib.hid la
    have HE6 := Lib.hid E6
    clear la E6 hk2 hst ha HS H7 H5
    have hlen2 : s'.notes.length ≤ 1000 := HR.out
    go_wp2_with fail
    go_quiet (first | (go_at_call 35; refine Calls.quiet_of (ints_same _ _ _ _ _ s'.notes _ rfl hlen2 ?_ ?_); exact HLA.out.1; exact HLA.out.2) | (go_at_call 13; exact Calls.quiet_of_same ((left_some nm s'.left (w6.drewN _) c4).mono fun e w' ⟨h1, h2⟩ => ⟨h1, h2.symm⟩)))
    go_wp2_with fail
    refine (awake_any _).mono ?_
    rintro e w7 ⟨rfl, e7⟩
    go_wp2_with fail
    go_ret
    exact ⟨rfl, Ext.below ((HE6.out.trans (Chg.drewN (Chg.refl _) nq)).trans e7)⟩
set_option maxRecDepth 100000 in
set_option maxHeartbeats 4000000 in
theorem bailPlays_light_pos (W : World) (k c n : Int) (a : Option Addr) (cap : Nat) (kids : List Tr) (b x : Int) (hb : b ≤ 9223372036854775807) (hneg : ¬ b < 0) (hw : ¬ 200 < x)
    (HW : Hid (∀ w, Ext W w → Calls Try.prog 31 #[.agg #[.int .i64 k, .int .i64 c, .int .i64 n, .slice a kids.length cap], .int .i64 0] w fun e w' => e = .returned (.int .i64 x) ∧ Ext w w'))
    (HN : Hid (NodeAt W ⟨k, c, n, a, cap⟩ (.node k c n kids))) (HC : Hid (cnt (.node k c n kids) ≤ 200)) :
    Calls Try.prog 7 #[.agg #[.int .i64 k, .int .i64 c, .int .i64 n, .slice a kids.length cap], .int .i64 b] W fun e w' => e = .returned (.bool true) ∧ Below W.heap.size W w' := by
  obtain ⟨len, hlen⟩ : ∃ len, kids.length = len := ⟨_, rfl⟩
  have HP : Hid (∀ (w : World) (B bp : Nat) (s : St), PSt W B bp w s → s.notes.length + 3 * cnt (.node k c n kids) + 3 ≤ 1000 →
      Calls Try.prog 32 #[.pointer (some ⟨bp, 0, none⟩), .agg #[.int .i64 k, .int .i64 c, .int .i64 n, .slice a len cap]] w (PlaysEnd W B bp w (play (.node k c n kids) s))) :=
    Lib.hid fun w B bp s h1 h2 => by rw [← hlen]; exact plays_all _ (.node k c n kids) (Nat.le_refl _) W ⟨k, c, n, a, cap⟩ w B bp s HN.out h1 h2
  have HD : Hid (∀ (w : World) (B bw bm n2 n3 : Nat) (s : St), FrD W B bw bm n2 n3 #[.int .i64 k, .int .i64 c, .int .i64 n, .slice a len cap] w s → s.notes.length + 3 * cnt (.node k c n kids) + 3 ≤ 1000 →
      Runs (WD bw bm) (.func (.func 33) #[] #[.pointer (some ⟨n2, 0, none⟩), .pointer (some ⟨n3, 0, none⟩)]) w (fun o w' => o = toFin (play (.node k c n kids) s).1 ∧ WSt W B bw bm w' (play (.node k c n kids) s).2)) :=
    Lib.hid fun w B bw bm n2 n3 s h1 h2 => bailLit_runs W w B bw bm n2 n3 k c n a cap kids s HN.out (by rw [hlen]; exact h1) (does_all _ (.node k c n kids) (Nat.le_refl _)) h2 _ rfl
  have HCc := Lib.hid (show ∀ L : Int, (([] : List Int).length + 3 * cnt (.node k c n kids) + 3 ≤ 1000) ∧ (play (.node k c n kids) ⟨[], L⟩).2.notes.length ≤ 1000 from fun L => by
    have h1 := HC.out
    have h2 := (play_fair (.node k c n kids) ⟨[], L⟩).1
    simp at h2 ⊢
    omega)
  obtain ⟨r, hr⟩ : ∃ r, play (.node k c n kids) ⟨[], b⟩ = r := ⟨_, rfl⟩
  obtain ⟨N, hN⟩ : ∃ N, cnt (.node k c n kids) = N := ⟨_, rfl⟩
  rw [hlen] at HW ⊢
  have HP2 : Hid (∀ (w : World) (B bp : Nat), PSt W B bp w ⟨[], b⟩ → Calls Try.prog 32 #[.pointer (some ⟨bp, 0, none⟩), .agg #[.int .i64 k, .int .i64 c, .int .i64 n, .slice a len cap]] w (PlaysEnd W B bp w r)) :=
    Lib.hid fun w B bp h => by have := HP.out w B bp ⟨[], b⟩ h (HCc.out b).1; rw [hr] at this; exact this
  have HD2 : Hid (∀ (w : World) (B bw bm n2 n3 : Nat), FrD W B bw bm n2 n3 #[.int .i64 k, .int .i64 c, .int .i64 n, .slice a len cap] w ⟨[], b⟩ →
      Runs (WD bw bm) (.func (.func 33) #[] #[.pointer (some ⟨n2, 0, none⟩), .pointer (some ⟨n3, 0, none⟩)]) w (fun o w' => o = toFin r.1 ∧ WSt W B bw bm w' r.2)) :=
    Lib.hid fun w B bw bm n2 n3 h => by have := HD.out w B bw bm n2 n3 ⟨[], b⟩ h (HCc.out b).1; rw [hr] at this; exact this
  have HR : Hid (r.2.notes.length ≤ 1000) := Lib.hid (by have := (HCc.out b).2; rw [hr] at this; exact this)
  clear HP HD HN HC HCc hr hN hlen
  have hmx : max b 0 = b := by omega
  go_enter Try.func7, Try.ntmps7
  go_wp2_with fail
  refine (HW.out _ ((Chg.refl W).alloc _)).mono ?_
  rintro e w1 ⟨rfl, e1⟩
  have E1 := Lib.hid ((((Chg.refl W).alloc _).trans e1 : Ext W w1))
  have B0 : Blk w1 W.heap.size #[.int .i64 k, .int .i64 c, .int .i64 n, .slice a len cap] 45 := (Blk.new W _ _).chg e1 (fun h => h)
  have q0 := B0.cell 0 _ rfl
  have q1 := B0.cell 1 _ rfl
  have q2 := B0.cell 2 _ rfl
  have q3 := B0.cell 3 _ rfl
  have l0 := B0.lt
  have HB0 := Lib.hid B0
  obtain ⟨n3, hn3⟩ : ∃ n3, W.heap.size = n3 := ⟨_, rfl⟩
  have Hn3 := Lib.hid hn3
  rw [hn3] at q0 q1 q2 q3 l0
  clear e1 HW B0
  rw [hn3]
  clear hn3
  have i0 : ¬ n3 = w1.heap.size := by omega
  have i1 : ¬ n3 = w1.heap.size + 1 := by omega
  have i2 : ¬ n3 = w1.heap.size + 1 + 1 := by omega
  have i3 : ¬ n3 = w1.heap.size + 1 + 1 + 1 := by omega
  go_upto_region 5 with (go_at_call 9; refine (newMeter_any b _).mono ?_; rintro e w' ⟨rfl, rfl⟩; rw [hmx])
  clear i0 i1 i2 i3 q0 q1 q2 q3 hmx
  refine wp_world (fun w2 => Ext w1 w2 ∧ Blk w2 w1.heap.size #[.int .i64 b] 62 ∧ Blk w2 (w1.heap.size + 1) #[.slice none 0 0, .pointer (some ⟨w1.heap.size, 0, none⟩)] 49 ∧
    Blk w2 (w1.heap.size + 1 + 1) #[.pointer (some ⟨w1.heap.size + 1, 0, none⟩)] 47 ∧ Blk w2 (w1.heap.size + 1 + 1 + 1) #[.slice none 0 0, .int .i64 b] 52) (four_new w1 _ _ _ _ _ _ _ _) ?_
  rintro w2 ⟨e2, bm, bw, bx, bp⟩
  obtain ⟨nm, hnm⟩ : ∃ nm, w1.heap.size = nm := ⟨_, rfl⟩
  obtain ⟨nw, hnw⟩ : ∃ nw, w1.heap.size + 1 = nw := ⟨_, rfl⟩
  obtain ⟨nx, hnx⟩ : ∃ nx, w1.heap.size + 1 + 1 = nx := ⟨_, rfl⟩
  obtain ⟨np, hnp⟩ : ∃ np, w1.heap.size + 1 + 1 + 1 = np := ⟨_, rfl⟩
  rw [hnp] at bp
  rw [hnx] at bx
  rw [hnw] at bw bx
  rw [hnm] at bm bw
  rw [hnp, hnx, hnw, hnm]
  have B0 : Blk w2 n3 #[.int .i64 k, .int .i64 c, .int .i64 n, .slice a len cap] 45 := by have := HB0.out; rw [Hn3.out] at this; exact this.chg e2 (fun h => h)
  have EW : Ext W w2 := E1.out.trans e2
  have hWs := E1.out.size
  have o1 : n3 < nm := by omega
  have o2 : nm < nw := by omega
  have o3 : nw < nx := by omega
  have o4 : nx < np := by omega
  have o5 := bp.lt
  have HO := Lib.hid (And.intro o1 (And.intro o2 (And.intro o3 (And.intro o4 (And.intro o5 (show W.heap.size ≤ n3 from by rw [Hn3.out]; exact Nat.le_refl _))))))
  have hL0 : (0 : Int) ≤ b := by omega
  have hL1 : b ≤ 9223372036854775807 := by omega
  have hps : PSt W w2.heap.size np w2 ⟨[], b⟩ := ⟨EW, ⟨.slice none 0 0, bp, World.ownsRow_nil _ _ _ _, o5⟩, Nat.le_refl _, by omega, hL0, hL1⟩
  have HPS := Lib.hid hps
  have HL := Lib.hid (And.intro hL0 hL1)
  have HBs := Lib.hid (And.intro bm (And.intro bw (And.intro bx (And.intro B0 EW))))
  have q0 := B0.cell 0 _ rfl
  have q1 := B0.cell 1 _ rfl
  have q2 := B0.cell 2 _ rfl
  have q3 := B0.cell 3 _ rfl
  clear e2 bm bw bx bp hnm hnw hnx hnp B0 EW hWs o1 o2 o3 o4 o5 hL0 hL1 hps E1 HB0 l0 Hn3
  have hmf := run_mkFunc
  go_wp2_with fail
  refine (HP2.out _ _ _ HPS.out).mono ?_
  rintro e w3 ⟨rfl, hs3, hk3⟩
  have HS3 := Lib.hid hs3
  have HK3 := Lib.hid hk3
  clear hs3 hk3 q0 q1 q2 q3 HP2
  obtain ⟨en, s'⟩ := r
  have hai := as_int
  have hah := as_hit
  have ham := as_miss 3 (by decide)
  have hami := as_int_miss
  have hamn := as_int_nil
  have hahn := as_hit_nil
  cases en with
  | ret =>
    simp only [encE]
    go_upto_region 6 with (fail)
    refine wp_world (fun w5 => Ext w3 w5 ∧ Blk w5 w3.heap.size #[.int .i64 0, .int .i64 0, .int .i64 0] 54) ⟨(Chg.refl _).alloc _, Blk.new _ _ _⟩ ?_
    rintro w5 ⟨e5, b7⟩
    obtain ⟨ne, hne⟩ : ∃ ne, w3.heap.size = ne := ⟨_, rfl⟩
    rw [hne] at b7
    rw [hne]
    have HA5 := plays_mid HBs.out HO.out HL.out HPS.out HS3.out HK3.out e5
    have H7 := Lib.hid (And.intro b7 (show w2.heap.size ≤ ne from by rw [← hne]; exact HK3.out.size))
    clear e5 b7 hne
    have HS := Lib.hid (safe_runs (fv := .func (.func 33) #[] #[.pointer (some ⟨nx, 0, none⟩), .pointer (some ⟨n3, 0, none⟩)]) (D := WD nw nm) (ntsD_loc nw _) HA5.1.st.there (fun w6 he => HD2.out w6 w5.heap.size nw nm nx n3 (HA5.1.toExt he)))
    have H5 := Lib.hid HA5
    clear HA5
    go_wp2_with fail
    refine HS.out.mono ?_
    rintro e w6 ⟨o, w2', hk2, ⟨rfl, hst⟩, ha, he⟩
    simp only [toFin] at he
    obtain rfl := he
    obtain ⟨E6, va, vc, pa, pc, la, c1, c2, c3, c4, c5, c6, c7, c8, c9⟩ := plays_end H5.out HO.out HPS.out H7.out hk2 hst ha
    have HLA := Lib.hid la
    have HE6 := Lib.hid E6
    clear la E6 hk2 hst ha HS H7 H5
    have hlen2 : s'.notes.length ≤ 1000 := HR.out
    go_wp2_with fail
    go_quiet (first | (go_at_call 35; refine Calls.quiet_of (ints_same _ _ _ _ _ s'.notes _ rfl hlen2 ?_ ?_); exact HLA.out.1; exact HLA.out.2) | (go_at_call 13; exact Calls.quiet_of_same ((left_some nm s'.left (w6.drewN _) c4).mono fun e w' ⟨h1, h2⟩ => ⟨h1, h2.symm⟩)))
    go_wp2_with fail
    refine (awake_any _).mono ?_
    rintro e w7 ⟨rfl, e7⟩
    go_wp2_with fail
    go_ret
    exact ⟨rfl, Ext.below ((HE6.out.trans (Chg.drewN (Chg.refl _) nq)).trans e7)⟩
  | bail c' a' =>
    simp only [encE]
    go_upto_region 6 with (fail)
    refine wp_world (fun w5 => Ext w3 w5 ∧ Blk w5 w3.heap.size #[.int .i64 1, .int .i64 c', .int .i64 a'] 54) ⟨(Chg.refl _).alloc _, Blk.new _ _ _⟩ ?_
    rintro w5 ⟨e5, b7⟩
    obtain ⟨ne, hne⟩ : ∃ ne, w3.heap.size = ne := ⟨_, rfl⟩
    rw [hne] at b7
    rw [hne]
    have HA5 := plays_mid HBs.out HO.out HL.out HPS.out HS3.out HK3.out e5
    have H7 := Lib.hid (And.intro b7 (show w2.heap.size ≤ ne from by rw [← hne]; exact HK3.out.size))
    clear e5 b7 hne
    have HS := Lib.hid (safe_runs (fv := .func (.func 33) #[] #[.pointer (some ⟨nx, 0, none⟩), .pointer (some ⟨n3, 0, none⟩)]) (D := WD nw nm) (ntsD_loc nw _) HA5.1.st.there (fun w6 he => HD2.out w6 w5.heap.size nw nm nx n3 (HA5.1.toExt he)))
    have H5 := Lib.hid HA5
    clear HA5
    go_wp2_with fail
    refine HS.out.mono ?_
    rintro e w6 ⟨o, w2', hk2, ⟨rfl, hst⟩, ha, he⟩
    simp only [toFin] at he
    obtain ⟨b6, rfl, cb0, cb1, _⟩ := he
    obtain ⟨E6, va, vc, pa, pc, la, c1, c2, c3, c4, c5, c6, c7, c8, c9⟩ := plays_end H5.out HO.out HPS.out H7.out hk2 hst ha
    have HLA := Lib.hid la
    have HE6 := Lib.hid E6
    clear la E6 hk2 hst ha HS H7 H5
    have hlen2 : s'.notes.length ≤ 1000 := HR.out
    go_wp2_with fail
    go_quiet (first | (go_at_call 35; refine Calls.quiet_of (ints_same _ _ _ _ _ s'.notes _ rfl hlen2 ?_ ?_); exact HLA.out.1; exact HLA.out.2) | (go_at_call 13; exact Calls.quiet_of_same ((left_some nm s'.left (w6.drewN _) c4).mono fun e w' ⟨h1, h2⟩ => ⟨h1, h2.symm⟩)))
    go_upto_region 13 with (fail)
    refine wp_region_still_tail 24 (by kernel_rfl) (by kernel_rfl) ?_
    simp only [List.take_succ_cons, List.take_zero, List.drop_succ_cons, List.drop_zero]
    change wpStill _ _ (w6.drewN nq).drew _ _ _
    repeat still_step
    refine wpStill_nil ?_
    change wpList _ _ _ _ _ (w6.drewN nq).drew
    go_wp2_with fail
    refine (awake_any _).mono ?_
    rintro e w7 ⟨rfl, e7⟩
    go_wp2_with fail
    go_ret
    exact ⟨rfl, Ext.below ((HE6.out.trans (Chg.drew (Chg.drewN (Chg.refl _) nq))).trans e7)⟩
  | num x' =>
    simp only [encE]
    go_upto_region 6 with (fail)
    refine wp_world (fun w5 => Ext w3 w5 ∧ Blk w5 w3.heap.size #[.int .i64 2, .int .i64 0, .int .i64 x'] 54) ⟨(Chg.refl _).alloc _, Blk.new _ _ _⟩ ?_
    rintro w5 ⟨e5, b7⟩
    obtain ⟨ne, hne⟩ : ∃ ne, w3.heap.size = ne := ⟨_, rfl⟩
    rw [hne] at b7
    rw [hne]
    have HA5 := plays_mid HBs.out HO.out HL.out HPS.out HS3.out HK3.out e5
    have H7 := Lib.hid (And.intro b7 (show w2.heap.size ≤ ne from by rw [← hne]; exact HK3.out.size))
    clear e5 b7 hne
    have HS := Lib.hid (safe_runs (fv := .func (.func 33) #[] #[.pointer (some ⟨nx, 0, none⟩), .pointer (some ⟨n3, 0, none⟩)]) (D := WD nw nm) (ntsD_loc nw _) HA5.1.st.there (fun w6 he => HD2.out w6 w5.heap.size nw nm nx n3 (HA5.1.toExt he)))
    have H5 := Lib.hid HA5
    clear HA5
    go_wp2_with fail
    refine HS.out.mono ?_
    rintro e w6 ⟨o, w2', hk2, ⟨rfl, hst⟩, ha, he⟩
    simp only [toFin] at he
    obtain ⟨rfl, _⟩ := he
    obtain ⟨E6, va, vc, pa, pc, la, c1, c2, c3, c4, c5, c6, c7, c8, c9⟩ := plays_end H5.out HO.out HPS.out H7.out hk2 hst ha
    have HLA := Lib.hid la
    have HE6 := Lib.hid E6
    clear la E6 hk2 hst ha HS H7 H5
    have hlen2 : s'.notes.length ≤ 1000 := HR.out
    go_wp2_with fail
    go_quiet (first | (go_at_call 35; refine Calls.quiet_of (ints_same _ _ _ _ _ s'.notes _ rfl hlen2 ?_ ?_); exact HLA.out.1; exact HLA.out.2) | (go_at_call 13; exact Calls.quiet_of_same ((left_some nm s'.left (w6.drewN _) c4).mono fun e w' ⟨h1, h2⟩ => ⟨h1, h2.symm⟩)))
    go_wp2_with fail
    refine (awake_any _).mono ?_
    rintro e w7 ⟨rfl, e7⟩
    go_wp2_with fail
    go_ret
    exact ⟨rfl, Ext.below ((HE6.out.trans (Chg.drewN (Chg.refl _) nq)).trans e7)⟩
set_option maxRecDepth 100000 in
theorem bailPlays_walk (W : World) (d : Nd) (t : Tr) (b : Int) (hb : b ≤ 9223372036854775807) (hnode : NodeAt W d t) :
    Calls Try.prog 7 #[d.val t, .int .i64 b] W fun e w' => e = .returned (.bool true) ∧ Below W.heap.size W w' := by
  obtain ⟨x, hx⟩ : ∃ x, wt t 0 = x := ⟨_, rfl⟩
  have HW := Lib.hid (weight_of hnode hx)
  have hcnt : ¬ 200 < x → cnt t ≤ 200 := fun h => by have := wt_cnt t 0 (by omega); omega
  have hnode0 := hnode
  cases hnode with
  | mk k c n a cap kids f hmax cells sub =>
    by_cases h : 200 < x
    · exact bailPlays_heavy W k c n a cap kids.length b x h HW
    · have HC := Lib.hid (hcnt h)
      by_cases hneg : b < 0
      · exact bailPlays_light_neg W k c n a cap kids b x hb hneg h HW (Lib.hid hnode0) HC
      · exact bailPlays_light_pos W k c n a cap kids b x hb hneg h HW (Lib.hid hnode0) HC
end Go.Proofs.Ytdiklblnilmpoaa
