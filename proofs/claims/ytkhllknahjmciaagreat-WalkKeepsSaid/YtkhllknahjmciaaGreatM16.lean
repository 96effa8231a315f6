/-
  All of a graph in the making. Rows that are the same. Graphs that are the same; a graph that may be is one. A graph that may be is one.
-/
import Derived.Test.YtkhllknahjmciaaGreatM15
import Derived.Deep.DeepCutAuto
/-! All of a graph in the making. -/
namespace Go.Proofs.YtkhllknahjmciaaGreat
open Go.RowKit
set_option linter.unusedVariables false
set_option linter.unusedSimpArgs false

theorem all_step {w w2 w' W1 : World} {q i B1 : Nat} {nv' ev' g1 v' : Value} {m : Nat} {es : List Value} {css : List (List Value)} {ns : List Nd} {t : Nd} {lv pv : Value}
    (hb : Blk w q #[nv', ev', g1] 25) (he : w.ownsRow W1.heap.size 72 4 ev' m es) (ho : w.ownsRow W1.heap.size 109 3 nv' i css.flatten) (hnd : NdOs w W1.heap.size w.heap.size ns css) (hx : Ext w w2)
    (hno : w2.ownsRow B1 9 1 lv t.labels.length (strCells t.labels) ∧ w2.ownsRow B1 142 2 pv t.props.length (propCells t.props) ∧ (∀ g, lv.ownBlock = some g → g < w2.heap.size) ∧ ∀ g, pv.ownBlock = some g → g < w2.heap.size)
    (u1 : w'.ownsRow W1.heap.size 109 3 v' (i + 1) (css.flatten ++ [.int .i64 t.id, lv, pv])) (hg : Chg (fun b => nv'.ownBlock = some b) w2 w') (hx1 : Ext W1 w) (hq : W1.heap.size ≤ q ∧ W1.heap.size ≤ B1) :
    Blk (w'.setCell ⟨q, 0, none⟩ v') q #[v', ev', g1] 25 ∧ (w'.setCell ⟨q, 0, none⟩ v').ownsRow W1.heap.size 72 4 ev' m es ∧ (w'.setCell ⟨q, 0, none⟩ v').ownsRow W1.heap.size 109 3 v' (i + 1) (css ++ [[.int .i64 t.id, lv, pv]]).flatten ∧
      NdOs (w'.setCell ⟨q, 0, none⟩ v') W1.heap.size (w'.setCell ⟨q, 0, none⟩ v').heap.size (ns ++ [t]) (css ++ [[.int .i64 t.id, lv, pv]]) ∧ Ext W1 (w'.setCell ⟨q, 0, none⟩ v') ∧ (w'.cell? ⟨q, 0, none⟩ = some nv' ∧ w'.frozen? ⟨q, 0, none⟩ = false) ∧
      Chg (fun b => nv'.ownBlock = some b ∨ b = q) w w' ∧ Chg (fun b => nv'.ownBlock = some b ∨ b = q) w (w'.setCell ⟨q, 0, none⟩ v') := by
  have hb2 := hb.chg hx (fun h => h)
  have ho2 := own_low ho hx (fun _ _ h => h)
  have he2 := own_low he hx (fun _ _ h => h)
  have hne : nv'.ownBlock ≠ some q := fun e => by
    obtain ⟨cur, k⟩ := own_type ho2 e
    exact absurd (blk_type k hb2) (by decide)
  have hb' := hb2.chg hg hne
  have hs : Chg (fun b => b = q) w' (w'.setCell ⟨q, 0, none⟩ v') := set_chg (Chg.refl _)
  have hrow : ∀ {b1 e1 z1 n1 : Nat} {v1 : Value} {x1 : List Value}, w'.ownsRow b1 e1 z1 v1 n1 x1 → e1 ≠ 25 → (w'.setCell ⟨q, 0, none⟩ v').ownsRow b1 e1 z1 v1 n1 x1 := fun h hn => own_chg h hs fun b hb e => by
    obtain ⟨cur, k⟩ := own_type h hb
    exact hn (blk_type k (e ▸ hb'))
  have hsz : (w'.setCell ⟨q, 0, none⟩ v').heap.size = w'.heap.size := by simp [World.setCell]
  have a1 := hx.size
  have a2 := hg.size
  have a3 := hx1.size
  have hc1 : Chg (fun b => nv'.ownBlock = some b ∨ b = q) w w' := (hx.mono fun _ _ h => h.elim).trans (hg.mono fun _ _ h => .inl h)
  have hc2 := hc1.trans (hs.mono fun _ _ (h : _ = q) => (.inr h : nv'.ownBlock = some _ ∨ _ = q))
  refine ⟨hb'.set 0 _, hrow (own_other he2 ho2 (by decide) hg) (by decide), ?_, ?_, ?_, ⟨hb'.cell 0 _ rfl, hb'.frozen 0⟩, hc1, hc2⟩
  · have := hrow u1 (by decide)
    simpa using this
  · have h2 := NdOs.chg hx (fun _ _ h => h.elim) hnd
    have h3 := NdOs.chg hg (fun b hb hS => by
      obtain ⟨cur, kb⟩ := own_type ho2 hS
      exact .inr ⟨cur, _, kb, by decide, by decide⟩) h2
    have h4 := NdOs.chg hs (fun b hb hS => .inr ⟨_, _, hS ▸ hb', by decide, by decide⟩) h3
    refine (h4.mono (by omega)).snoc ⟨lv, pv, rfl, hrow (own_other (ownsRow_base hno.1 hq.2) ho2 (by decide) hg) (by decide), hrow (own_other (ownsRow_base hno.2.1 hq.2) ho2 (by decide) hg) (by decide), fun g h => ?_, fun g h => ?_⟩
    · have := hno.2.2.1 g h; omega
    · have := hno.2.2.2 g h; omega
  · refine (hx1.mono (T := fun b => nv'.ownBlock = some b ∨ b = q) (fun _ _ h => h.elim)).trans hc2 |>.mono fun b hb h => ?_
    rcases h with h | h
    · have := (ho.lt b h).1; omega
    · omega
def AllPost (w : World) (g : Gr) (e : Ending) (w' : World) : Prop := ∃ cs, e = .returned (.agg cs.toArray) ∧ GrC w' g cs ∧ Ext w w'
set_option maxRecDepth 100000 in
set_option maxHeartbeats 1000000 in
theorem All_any (w : World) (p : Nat) (ns : List Nd) (es : List Eg) (gv : Int) (nv ev : Value) (h : GSt w p ns es gv nv ev) (hn : ns.length ≤ 12) (he : es.length ≤ 60) (h0 : 0 ≤ gv) (h1 : gv ≤ 1099511627776) (hl : ∀ t ∈ ns, t.labels.length ≤ 8 ∧ t.props.length ≤ 8) :
    Calls Tryz.prog 81 #[.pointer (some ⟨p, 0, none⟩)] w (AllPost w ⟨ns, es, gv + 1⟩) := by
  obtain ⟨na, nc, rfl, hns⟩ := h.ns
  have hed := h.edges
  obtain ⟨ea, ec, rfl⟩ := own_slice hed
  obtain ⟨n, hn'⟩ : ∃ n, ns.length = n := ⟨_, rfl⟩
  obtain ⟨m, hm'⟩ : ∃ n, es.length = n := ⟨_, rfl⟩
  have hbox := h.box
  have hcn : ns.length ≤ nc := by obtain ⟨css, h1, -⟩ := hns; exact h1.1
  rw [hn'] at hbox hn hcn
  rw [hm'] at hbox hed he
  have HCl := Lib.hid (fun W (hW : Ext w W) => cloneEg_any (egCells es) W ea m ec (by rw [egCells_len, hm']) ((Cells.of_own hed).ext hW) (one_eg _) (by omega))
  have HH := Lib.hid (And.intro hbox (And.intro hns (And.intro hn' (And.intro hm' hl))))
  obtain ⟨b0, -, b1, -, b2, -⟩ := blk3_base hbox
  clear h hns hed hn' hm' hl hbox
  obtain ⟨W1, hW1⟩ : ∃ W1, w.alloc (.cells #[.slice none 0 0, .slice none 0 0, .int .i64 0] 25) = W1 := ⟨_, rfl⟩
  have hx1 : Ext w W1 := by rw [← hW1]; exact (Chg.refl w).alloc _
  have hr1 : Blk W1 w.heap.size #[.slice none 0 0, .slice none 0 0, .int .i64 0] 25 := by rw [← hW1]; exact Blk.new _ _ _
  have HR1 := Lib.hid (And.intro hx1 hr1)
  have HW1 := Lib.hid hW1
  have hz1 : w.heap.size < W1.heap.size := hr1.lt
  have hlp : p < W1.heap.size := by have := b0; have h3 := hx1.size; have h4 := lt_of_cell b0; exact Nat.lt_of_lt_of_le h4 h3
  obtain ⟨c0, -, c1, -, c2, -⟩ := blk3_base (HH.out.1.chg hx1 (fun h => h))
  clear b0 b1 b2 hx1 hr1 hW1
  go_enter Tryz.func81, Tryz.ntmps81
  go_upto_region 3 with fail
  rw [HW1.out]
  go_cut [3] (fun l3 wx => ∃ (q : Nat) (ev' : Value), l3 = .pointer (some ⟨q, 0, none⟩) ∧ W1.heap.size ≤ q ∧ Blk wx q #[.slice none 0 0, ev', .int .i64 (gv + 1)] 25 ∧ wx.ownsRow W1.heap.size 72 4 ev' m (egCells es) ∧ Ext W1 wx)
  case first =>
    have HCs := Lib.hid (fun W (hW : Ext W1 W) => And.intro (one_ext hW c1) (one_ext hW c2))
    have w1 : IntKind.i64.wrap (gv + 1) = gv + 1 := IntWalk.i64_in _ (by omega)
    have HA := Lib.hid (And.intro (HR1.out.1.trans (Chg.refl (S := fun _ => False) W1).drew) (HR1.out.1.trans ((Chg.refl (S := fun _ => False) W1).alloc (.cells #[.slice none 0 0, .slice none 0 0, .int .i64 0] 25)).drew))
    go_region_held3 (fun v => v.cell? ⟨p, 1, none⟩ = some (.slice ea m ec) ∧ v.cell? ⟨p, 2, none⟩ = some (.int .i64 gv)) (first | with_reducible exact HCs.out _ (Chg.refl (S := fun _ => False) W1).drew | with_reducible exact HCs.out _ ((Chg.refl (S := fun _ => False) W1).alloc _).drew | with_reducible exact HCs.out _ HU.out | with_reducible exact HCs.out _ (HU.out.alloc _) | with_reducible exact HCs.out _ HV.out) (first | (go_at_call 131; (with_reducible refine (HCl.out _ HA.out.1).mono ?_); rintro e w2 ⟨v2, rfl, u1, u2⟩; obtain ⟨a2, cap2, rfl⟩ := own_slice u1; have HU := Lib.hid ((Chg.refl (S := fun _ => False) W1).drew.trans u2); have HO := Lib.hid u1; clear u1 u2) | (go_at_call 131; (with_reducible refine (HCl.out _ HA.out.2).mono ?_); rintro e w2 ⟨v2, rfl, u1, u2⟩; obtain ⟨a2, cap2, rfl⟩ := own_slice u1; have HU := Lib.hid (((Chg.refl (S := fun _ => False) W1).alloc (.cells #[.slice none 0 0, .slice none 0 0, .int .i64 0] 25)).drew.trans u2); have HO := Lib.hid u1; have hq := (Blk.new W1 #[.slice none 0 0, .slice none 0 0, .int .i64 0] 25).chg ((Chg.refl (S := fun _ => False) _).drew.trans u2) (fun h => h); have HQ := Lib.hid hq; obtain ⟨y0, z0, y1, z1, y2, z2⟩ := blk3_base hq; have HV := Lib.hid (((HU.out.setCell ⟨W1.heap.size, 0, none⟩ (.slice none 0 0) (by simp)).setCell ⟨W1.heap.size, 1, none⟩ (.slice a2 m cap2) (by simp)).setCell ⟨W1.heap.size, 2, none⟩ (.int .i64 (gv + 1)) (by simp)); clear hq u1 u2))
    all_goals
      clear w1
      go_wp2_with fail
      go_meet
      first
        | exact ⟨_, _, rfl, HU.out.size, Blk.new _ _ _, (ownsRow_base HO.out (Nat.le_refl _)).alloc _, HU.out.alloc _⟩
        | exact ⟨_, _, rfl, Nat.le_refl _, ((HQ.out.set 0 _).set 1 _).set 2 _, ownsRow_base (own_low HO.out (S := fun b => b = W1.heap.size) (set_chg (set_chg (set_chg (Chg.refl _)))) (by intro g hg e; simp at hg; omega)) (by simp), HV.out⟩
  case rest =>
    obtain ⟨q, ev', rfl, hq, hb, ho, hx⟩ := hcut
    obtain ⟨y0, z0, y1, z1, y2, z2⟩ := blk3_base hb
    obtain ⟨d0, -, d1, -, d2, -⟩ := blk3_base (HH.out.1.chg (HR1.out.1.trans hx) (fun h => h))
    have HX := Lib.hid (And.intro hb (And.intro ho hx))
    clear hb ho hx c0 c1 c2
    go_wp2_with fail
    go_loopg [25] n (fun g l25 wr => ∃ (i : Nat) (nv' : Value) (css : List (List Value)), i ≤ n ∧ Blk wr q #[nv', ev', .int .i64 (gv + 1)] 25 ∧ wr.ownsRow W1.heap.size 72 4 ev' m (egCells es) ∧ wr.ownsRow W1.heap.size 109 3 nv' i css.flatten ∧ NdOs wr W1.heap.size wr.heap.size (ns.take i) css ∧ Ext W1 wr ∧ l25 = .int .i64 i ∧ g = n - i)
    case atStart => exact ⟨0, .slice none 0 0, [], Nat.zero_le _, HX.out.1, HX.out.2.1, World.ownsRow_nil _ _ _ _, rfl, HX.out.2.2, rfl, rfl⟩
    case round =>
      clear y0 z0 y1 z1 y2 z2 d0 d1 d2 HX
      obtain ⟨i, nv', css, hi, hb, he', ho, hnd, hx, rfl, rfl⟩ := hrel
      obtain ⟨y0, z0, y1, z1, y2, z2⟩ := blk3_base hb
      by_cases hin : i < n
      · have hin' : (i : Int) < n := by omega
        obtain ⟨t, ht⟩ : ∃ t, ns[i]? = some t := ⟨_, List.getElem?_eq_getElem (by rw [HH.out.2.2.1]; exact hin)⟩
        obtain ⟨x, la, lc, pa, pc, rfl, c0, c1, c2, hsl, hsp⟩ := nd_at (HH.out.2.1.ext (HR1.out.1.trans hx)) ht
        have hca : Ext wr (wr.alloc (.cells #[.int .i64 t.id, .slice la t.labels.length lc, .slice pa t.props.length pc] 109)) := (Chg.refl wr).alloc _
        have hlt := HH.out.2.2.2.2 t (List.mem_of_getElem? ht)
        have HOw := Lib.hid (fun W (hW : Ext wr W) => gown_any t W [.int .i64 t.id, .slice la t.labels.length lc, .slice pa t.props.length pc] ⟨la, lc, pa, pc, rfl, hsl.ext hW, hsp.ext hW⟩ hlt.1 hlt.2)
        have HT := Lib.hid (take_succ' ht)
        obtain ⟨nva, ncap, rfl⟩ := own_slice ho
        obtain ⟨W0, hW0⟩ : ∃ W0, wr.alloc (.cells #[.int .i64 t.id, .slice la t.labels.length lc, .slice pa t.props.length pc] 109) = W0 := ⟨_, rfl⟩
        have kb := Blk.new wr #[.int .i64 t.id, .slice la t.labels.length lc, .slice pa t.props.length pc] 109
        have hsz0 : W0.heap.size = wr.heap.size + 1 := by rw [← hW0]; simp
        rw [hW0] at kb hca
        obtain ⟨i0, hi0, hii⟩ := Option.map_eq_some_iff.1 info_nd
        obtain ⟨hz0, hz1, hz2⟩ : i0.zero = some (.agg #[.int .i64 0, .slice none 0 0, .slice none 0 0]) ∧ i0.size = 3 ∧ i0.bytes = 56 := by
          have := hii; simp at this; exact this
        have HI := Lib.hid (And.intro hi0 (And.intro hz0 (And.intro hz1 hz2)))
        have HWE := Lib.hid hW0
        have HT := Lib.hid (take_succ' ht)
        have HW0 := Lib.hid hca
        have HE0 := Lib.hid (hca.trans (Chg.refl (S := fun _ => False) W0).drew)
        have hb0 := hb.chg hca (fun h => h)
        have ho0 := own_low ho hca (fun _ _ h => h)
        have HG := Lib.hid (And.intro hb0 (And.intro (own_low he' hca (fun _ _ h => h)) (And.intro ho0 (And.intro ((NdOs.chg hca (fun _ _ h => h.elim) hnd).mono hca.size) (hx.trans hca)))))
        have HLo := Lib.hid (And.intro hq (show W1.heap.size ≤ W0.drew.heap.size by have := hx.size; have : W0.drew.heap.size = W0.heap.size := rfl; omega))
        have HSt := Lib.hid (fun W (hW : Ext W0 W) => three_ext hW kb)
        have hqlt := hb.lt
        have hne5 : ¬ wr.heap.size = q := by omega
        have HSt2 := Lib.hid (fun W (hW : Chg (fun b => (Value.slice nva i ncap).ownBlock = some b ∨ b = q) W0 W) => three_ext (Chg.refl W) (kb.chg hW (fun h => h.elim (fun e => by have := (ho.lt _ e).2; omega) hne5)))
        obtain ⟨v0, -, v1, -, v2, -⟩ := blk3_base kb
        obtain ⟨y0, z0, -⟩ := blk3_base hb0
        clear hb he' ho hnd hx hi0 hii hz0 hz1 hz2 hW0 ht hlt hsl hsp y1 z1 y2 z2 hca hb0 ho0 kb hsz0
        go_upto_region 7 with fail
        rw [HWE.out]
        refine wp_region_held_drew (S := fun v => v.cell? ⟨wr.heap.size, 0, none⟩ = some (.int .i64 t.id) ∧ v.cell? ⟨wr.heap.size, 1, none⟩ = some (.slice la t.labels.length lc) ∧ v.cell? ⟨wr.heap.size, 2, none⟩ = some (.slice pa t.props.length pc)) (by kernel_rfl) (HSt.out _ (Chg.refl (S := fun _ => False) W0).drew) (fun hHeld => ?_)
        refine wpAnyH_take (i := 0) (v := .pointer (some ⟨q, 0, none⟩)) rfl (by kernel_rfl) (by kernel_rfl) (by kernel_rfl) (fun _ _ _ h => h) (Or.inl ⟨by rfl, ?_⟩) hHeld ?_
        · intro wS hSw
          obtain ⟨hs0, hs1, hs2⟩ := hSw
          go_simp
        simp only [Act.put, List.setIfInBounds_toArray, List.set_cons_zero, List.set_cons_succ]
        refine wpAnyH_take (i := 2) (v := .agg #[.int .i64 t.id, .slice la t.labels.length lc, .slice pa t.props.length pc]) rfl (by kernel_rfl) (by kernel_rfl) (by kernel_rfl) (fun _ _ _ h => h) (Or.inl ⟨by rfl, ?_⟩) hHeld ?_
        · intro wS hSw
          obtain ⟨hs0, hs1, hs2⟩ := hSw
          go_simp
        simp only [Act.put, List.setIfInBounds_toArray, List.set_cons_zero, List.set_cons_succ]
        refine wpAnyH_ready (rs := [1, 3]) (by kernel_rfl) (by simp) ?_
        refine AllReadyH.cons rfl (fun K hK => ?_) ?_
        · go_simp
          refine hK.out _ _ (by exact hHeld) (fun hHeld => ?_)
          clear hK K
          refine wpAnyH_ready (rs := [3]) (by kernel_rfl) (by simp) ?_
          refine AllReadyH.cons rfl (fun K hK => ?_) ?_
          · go_simp
            refine (HOw.out _ HE0.out).mono ?_
            rintro e w2 ⟨cs', rfl, hno, hxo⟩
            obtain ⟨lv, pv, rfl, hno2⟩ := hno
            obtain ⟨la2, lc2, rfl⟩ := own_slice hno2.1
            obtain ⟨pa2, pc2, rfl⟩ := own_slice hno2.2.1
            have hE2 := (Chg.refl (S := fun _ => False) W0).drew.trans hxo
            have HE2 := Lib.hid (And.intro hE2 hno2)
            have y9 := one_ext hE2 y0
            refine hK.out _ _ (HSt.out _ hE2) (fun hHeld => ?_)
            clear hK K hno2 hxo hE2
            refine wpAnyH_ready (rs := [4]) (by kernel_rfl) (by simp) ?_
            refine AllReadyH.cons rfl (fun K hK => ?_) ?_
            · go_simp
              refine hK.out _ _ (HSt.out _ (HE2.out.1.alloc _)) (fun hHeld => ?_)
              clear hK K
              have y10 := one_ext (HE2.out.1.alloc (.cells #[.int .i64 t.id, .slice la2 t.labels.length lc2, .slice pa2 t.props.length pc2] 109)) y0
              refine wpAnyH_ready (rs := [5]) (by kernel_rfl) (by simp) ?_
              refine AllReadyH.cons rfl (fun K hK => ?_) ?_
              · refine step_append_st rfl (.tmp 30) (.tmp 33) 22 rfl W1.heap.size 109 i0 (.agg #[.int .i64 0, .slice none 0 0, .slice none 0 0]) 3 56 Tryz.underlying22 HI.out.1 HI.out.2.1 HI.out.2.2.1 HI.out.2.2.2 rfl (by decide) (.slice nva i ncap) i _ rfl (own_low HG.out.2.2.1 (HE2.out.1.alloc _) (fun _ _ h => h)) ⟨w2.heap.size, 0, none⟩ 1 1 [.int .i64 t.id, .slice la2 t.labels.length lc2, .slice pa2 t.props.length pc2] rfl rfl (by exact fun j u hj => news w2 [.int .i64 t.id, .slice la2 t.labels.length lc2, .slice pa2 t.props.length pc2] 109 j u hj) (by simp [Value.oneCell']) (by unfold maxLen; omega) (by omega) (by have := HE2.out.1.size; have := HG.out.2.2.2.2.size; simp; omega) ?_
                intro v' w' u1 u2 u3
                obtain ⟨a', cap', rfl⟩ := own_slice u1
                have hg := grow_chg (wr := w2) u2
                obtain ⟨k1, k2, k3, k4, k5, k6, k7, k8⟩ := all_step HG.out.1 HG.out.2.1 HG.out.2.2.1 HG.out.2.2.2.1 HE2.out.1 HE2.out.2 u1 hg HG.out.2.2.2.2 (by exact HLo.out)
                have HF := Lib.hid (And.intro k1 (And.intro k2 (And.intro k3 (And.intro k4 k5))))
                have HS7 := Lib.hid (HSt2.out _ k8)
                refine hK.out _ _ (HSt2.out _ k7) (fun hHeld => ?_)
                clear hK K u1 u2 u3 hg k1 k2 k3 k4 k5 k7 k8
                obtain ⟨y8, z8⟩ := k6
                simp only [Act.put, List.setIfInBounds_toArray, List.set_cons_zero, List.set_cons_succ]
                refine wpAnyH_take (i := 6) (v := .pointer (some ⟨q, 0, none⟩)) rfl (by kernel_rfl) (by kernel_rfl) (by kernel_rfl) (fun _ _ _ h => h) (Or.inl ⟨by rfl, ?_⟩) hHeld ?_
                · intro wS hSw
                  obtain ⟨hs0, hs1, hs2⟩ := hSw
                  go_simp
                simp only [Act.put, List.setIfInBounds_toArray, List.set_cons_zero, List.set_cons_succ]
                refine wpAnyH_ready (rs := [7]) (by kernel_rfl) (by simp) ?_
                refine AllReadyH.cons rfl (fun K hK => ?_) ?_
                · go_simp
                  refine hK.out _ _ HS7.out (fun hHeld => ?_)
                  clear hK K hHeld
                  refine wpAnyH_done (by kernel_rfl) ?_ _
                  clear v0 v1 v2 y0 z0 y9 y10
                  go_wp2_with fail
                  go_roundg (n - (i + 1))
                  case measure => omega
                  case rel => exact ⟨i + 1, _, _, by omega, HF.out.1, HF.out.2.1, HF.out.2.2.1, by rw [HT.out]; exact HF.out.2.2.2.1, HF.out.2.2.2.2, rfl, rfl⟩
                exact AllReadyH.nil
              exact AllReadyH.nil
            exact AllReadyH.nil
          exact AllReadyH.nil
        refine AllReadyH.cons rfl (fun K hK => ?_) ?_
        · go_simp
          refine (HOw.out _ HE0.out).mono ?_
          rintro e w2 ⟨cs', rfl, hno, hxo⟩
          obtain ⟨lv, pv, rfl, hno2⟩ := hno
          obtain ⟨la2, lc2, rfl⟩ := own_slice hno2.1
          obtain ⟨pa2, pc2, rfl⟩ := own_slice hno2.2.1
          have hE2 := (Chg.refl (S := fun _ => False) W0).drew.trans hxo
          have HE2 := Lib.hid (And.intro hE2 hno2)
          have y9 := one_ext hE2 y0
          refine hK.out _ _ (HSt.out _ hE2) (fun hHeld => ?_)
          clear hK K hno2 hxo hE2
          refine wpAnyH_ready (rs := [1, 4]) (by kernel_rfl) (by simp) ?_
          refine AllReadyH.cons rfl (fun K hK => ?_) ?_
          · go_simp
            refine hK.out _ _ (by exact hHeld) (fun hHeld => ?_)
            clear hK K
            refine wpAnyH_ready (rs := [4]) (by kernel_rfl) (by simp) ?_
            refine AllReadyH.cons rfl (fun K hK => ?_) ?_
            · go_simp
              refine hK.out _ _ (HSt.out _ (HE2.out.1.alloc _)) (fun hHeld => ?_)
              clear hK K
              have y10 := one_ext (HE2.out.1.alloc (.cells #[.int .i64 t.id, .slice la2 t.labels.length lc2, .slice pa2 t.props.length pc2] 109)) y0
              refine wpAnyH_ready (rs := [5]) (by kernel_rfl) (by simp) ?_
              refine AllReadyH.cons rfl (fun K hK => ?_) ?_
              · refine step_append_st rfl (.tmp 30) (.tmp 33) 22 rfl W1.heap.size 109 i0 (.agg #[.int .i64 0, .slice none 0 0, .slice none 0 0]) 3 56 Tryz.underlying22 HI.out.1 HI.out.2.1 HI.out.2.2.1 HI.out.2.2.2 rfl (by decide) (.slice nva i ncap) i _ rfl (own_low HG.out.2.2.1 (HE2.out.1.alloc _) (fun _ _ h => h)) ⟨w2.heap.size, 0, none⟩ 1 1 [.int .i64 t.id, .slice la2 t.labels.length lc2, .slice pa2 t.props.length pc2] rfl rfl (by exact fun j u hj => news w2 [.int .i64 t.id, .slice la2 t.labels.length lc2, .slice pa2 t.props.length pc2] 109 j u hj) (by simp [Value.oneCell']) (by unfold maxLen; omega) (by omega) (by have := HE2.out.1.size; have := HG.out.2.2.2.2.size; simp; omega) ?_
                intro v' w' u1 u2 u3
                obtain ⟨a', cap', rfl⟩ := own_slice u1
                have hg := grow_chg (wr := w2) u2
                obtain ⟨k1, k2, k3, k4, k5, k6, k7, k8⟩ := all_step HG.out.1 HG.out.2.1 HG.out.2.2.1 HG.out.2.2.2.1 HE2.out.1 HE2.out.2 u1 hg HG.out.2.2.2.2 (by exact HLo.out)
                have HF := Lib.hid (And.intro k1 (And.intro k2 (And.intro k3 (And.intro k4 k5))))
                have HS7 := Lib.hid (HSt2.out _ k8)
                refine hK.out _ _ (HSt2.out _ k7) (fun hHeld => ?_)
                clear hK K u1 u2 u3 hg k1 k2 k3 k4 k5 k7 k8
                obtain ⟨y8, z8⟩ := k6
                simp only [Act.put, List.setIfInBounds_toArray, List.set_cons_zero, List.set_cons_succ]
                refine wpAnyH_take (i := 6) (v := .pointer (some ⟨q, 0, none⟩)) rfl (by kernel_rfl) (by kernel_rfl) (by kernel_rfl) (fun _ _ _ h => h) (Or.inl ⟨by rfl, ?_⟩) hHeld ?_
                · intro wS hSw
                  obtain ⟨hs0, hs1, hs2⟩ := hSw
                  go_simp
                simp only [Act.put, List.setIfInBounds_toArray, List.set_cons_zero, List.set_cons_succ]
                refine wpAnyH_ready (rs := [7]) (by kernel_rfl) (by simp) ?_
                refine AllReadyH.cons rfl (fun K hK => ?_) ?_
                · go_simp
                  refine hK.out _ _ HS7.out (fun hHeld => ?_)
                  clear hK K hHeld
                  refine wpAnyH_done (by kernel_rfl) ?_ _
                  clear v0 v1 v2 y0 z0 y9 y10
                  go_wp2_with fail
                  go_roundg (n - (i + 1))
                  case measure => omega
                  case rel => exact ⟨i + 1, _, _, by omega, HF.out.1, HF.out.2.1, HF.out.2.2.1, by rw [HT.out]; exact HF.out.2.2.2.1, HF.out.2.2.2.2, rfl, rfl⟩
                exact AllReadyH.nil
              exact AllReadyH.nil
            exact AllReadyH.nil
          refine AllReadyH.cons rfl (fun K hK => ?_) ?_
          · go_simp
            refine hK.out _ _ (HSt.out _ (HE2.out.1.alloc _)) (fun hHeld => ?_)
            clear hK K
            have y10 := one_ext (HE2.out.1.alloc (.cells #[.int .i64 t.id, .slice la2 t.labels.length lc2, .slice pa2 t.props.length pc2] 109)) y0
            refine wpAnyH_ready (rs := [1]) (by kernel_rfl) (by simp) ?_
            refine AllReadyH.cons rfl (fun K hK => ?_) ?_
            · go_simp
              refine hK.out _ _ (by exact hHeld) (fun hHeld => ?_)
              clear hK K
              refine wpAnyH_ready (rs := [5]) (by kernel_rfl) (by simp) ?_
              refine AllReadyH.cons rfl (fun K hK => ?_) ?_
              · refine step_append_st rfl (.tmp 30) (.tmp 33) 22 rfl W1.heap.size 109 i0 (.agg #[.int .i64 0, .slice none 0 0, .slice none 0 0]) 3 56 Tryz.underlying22 HI.out.1 HI.out.2.1 HI.out.2.2.1 HI.out.2.2.2 rfl (by decide) (.slice nva i ncap) i _ rfl (own_low HG.out.2.2.1 (HE2.out.1.alloc _) (fun _ _ h => h)) ⟨w2.heap.size, 0, none⟩ 1 1 [.int .i64 t.id, .slice la2 t.labels.length lc2, .slice pa2 t.props.length pc2] rfl rfl (by exact fun j u hj => news w2 [.int .i64 t.id, .slice la2 t.labels.length lc2, .slice pa2 t.props.length pc2] 109 j u hj) (by simp [Value.oneCell']) (by unfold maxLen; omega) (by omega) (by have := HE2.out.1.size; have := HG.out.2.2.2.2.size; simp; omega) ?_
                intro v' w' u1 u2 u3
                obtain ⟨a', cap', rfl⟩ := own_slice u1
                have hg := grow_chg (wr := w2) u2
                obtain ⟨k1, k2, k3, k4, k5, k6, k7, k8⟩ := all_step HG.out.1 HG.out.2.1 HG.out.2.2.1 HG.out.2.2.2.1 HE2.out.1 HE2.out.2 u1 hg HG.out.2.2.2.2 (by exact HLo.out)
                have HF := Lib.hid (And.intro k1 (And.intro k2 (And.intro k3 (And.intro k4 k5))))
                have HS7 := Lib.hid (HSt2.out _ k8)
                refine hK.out _ _ (HSt2.out _ k7) (fun hHeld => ?_)
                clear hK K u1 u2 u3 hg k1 k2 k3 k4 k5 k7 k8
                obtain ⟨y8, z8⟩ := k6
                simp only [Act.put, List.setIfInBounds_toArray, List.set_cons_zero, List.set_cons_succ]
                refine wpAnyH_take (i := 6) (v := .pointer (some ⟨q, 0, none⟩)) rfl (by kernel_rfl) (by kernel_rfl) (by kernel_rfl) (fun _ _ _ h => h) (Or.inl ⟨by rfl, ?_⟩) hHeld ?_
                · intro wS hSw
                  obtain ⟨hs0, hs1, hs2⟩ := hSw
                  go_simp
                simp only [Act.put, List.setIfInBounds_toArray, List.set_cons_zero, List.set_cons_succ]
                refine wpAnyH_ready (rs := [7]) (by kernel_rfl) (by simp) ?_
                refine AllReadyH.cons rfl (fun K hK => ?_) ?_
                · go_simp
                  refine hK.out _ _ HS7.out (fun hHeld => ?_)
                  clear hK K hHeld
                  refine wpAnyH_done (by kernel_rfl) ?_ _
                  clear v0 v1 v2 y0 z0 y9 y10
                  go_wp2_with fail
                  go_roundg (n - (i + 1))
                  case measure => omega
                  case rel => exact ⟨i + 1, _, _, by omega, HF.out.1, HF.out.2.1, HF.out.2.2.1, by rw [HT.out]; exact HF.out.2.2.2.1, HF.out.2.2.2.2, rfl, rfl⟩
                exact AllReadyH.nil
              exact AllReadyH.nil
            exact AllReadyH.nil
          exact AllReadyH.nil
        exact AllReadyH.nil
      · obtain rfl : i = n := by omega
        have hNt : ns.take i = ns := List.take_of_length_le (by rw [HH.out.2.2.1]; exact Nat.le_refl _)
        rw [hNt] at hnd
        obtain ⟨na', nc', rfl⟩ := own_slice ho
        obtain ⟨ea', ec', rfl⟩ := own_slice he'
        have kr := HR1.out.2.chg hx (fun h => h)
        obtain ⟨r0, s0, r1, s1, r2, s2⟩ := blk3_base kr
        obtain ⟨t0, t1, t2⟩ := blk3_facts kr (.slice na' i nc') (.slice ea' m ec') (.int .i64 (gv + 1))
        have HF := Lib.hid (And.intro he' (And.intro ho (And.intro hnd hx)))
        clear kr hb he' ho hnd hx hNt
        go_wp2_with fail
        refine bodyPost_ret (by simp [results, Tryz.results81, go_sem, t0, t1, t2]; try rfl) rfl ?_
        have CH := (((Chg.refl (S := fun b => b = w.heap.size) wr).setCell ⟨w.heap.size, 0, none⟩ (.slice na' i nc') (fun _ => rfl)).setCell ⟨w.heap.size, 1, none⟩ (.slice ea' m ec') (fun _ => rfl)).setCell ⟨w.heap.size, 2, none⟩ (.int .i64 (gv + 1)) (fun _ => rfl)
        refine ⟨[.slice na' i nc', .slice ea' m ec', .int .i64 (gv + 1)], rfl, ⟨na', nc', ea', ec', ?_, ⟨css, ?_, ?_⟩, ?_⟩, ?_⟩
        · rw [← HH.out.2.2.1, ← HH.out.2.2.2.1]
        · rw [HH.out.2.2.1]; exact Cells.of_own (own_low HF.out.2.1 CH (by intro g hg e; omega))
        · refine (NdOs.chg CH (fun b hb hS => ?_) HF.out.2.2.1).ndCs
          exact .inr ⟨_, _, hS ▸ (HR1.out.2.chg HF.out.2.2.2 (fun h => h)), by decide, by decide⟩
        · unfold EsC; rw [HH.out.2.2.2.1]; exact Cells.of_own (own_low HF.out.1 CH (by intro g hg e; omega))
        · exact (((HR1.out.1.trans HF.out.2.2.2).setCell _ _ (by simp)).setCell _ _ (by simp)).setCell _ _ (by simp)
end Go.Proofs.YtkhllknahjmciaaGreat

/-! Rows that are the same. -/
namespace Go.Proofs.YtkhllknahjmciaaGreat
open Go.RowKit
set_option linter.unusedVariables false
set_option linter.unusedSimpArgs false

set_option maxRecDepth 100000 in
set_option maxHeartbeats 1000000 in
theorem eqStr_any (ss : List ByteArray) (m : Nat) (w : World) (a b : Option Addr) (c d : Nat) (h1 : Cells w a m c (strCells ss)) (h2 : Cells w b m d (strCells ss)) (hm : ss.length = m) :
    Calls Tryz.prog 180 #[.slice a m c, .slice b m d] w fun e w' => e = .returned (.bool true) ∧ Ext w w' := by
  have k1 := h1.1
  have k2 := h1.2.1
  have k3 := h2.1
  unfold maxLen at k2
  have HH := Lib.hid (And.intro h1 (And.intro h2 hm))
  clear h1 h2 hm
  go_enter Tryz.func180, Tryz.ntmps180
  go_wp2_with fail
  go_loopg [13] m (fun g l13 wr => ∃ i : Nat, i ≤ m ∧ Ext w wr ∧ l13 = .int .i64 i ∧ g = m - i)
  case atStart => exact ⟨0, Nat.zero_le _, Chg.refl _, rfl, rfl⟩
  case round =>
    obtain ⟨i, hi, hx, rfl, rfl⟩ := hrel
    have HX := Lib.hid hx
    by_cases hin : i < m
    · have hin' : (i : Int) < m := by omega
      obtain ⟨s, hs⟩ : ∃ s, ss[i]? = some s := ⟨_, List.getElem?_eq_getElem (by rw [HH.out.2.2]; exact hin)⟩
      obtain ⟨x, rfl, c0⟩ := str_at (HH.out.1.ext hx) hs
      obtain ⟨y, rfl, c1⟩ := str_at (HH.out.2.1.ext hx) hs
      clear hx hs
      go_wp2_with fail
      go_quiet (fail)
      go_wp2_with fail
      go_roundg (m - (i + 1))
      case measure => omega
      case rel => exact ⟨i + 1, by omega, HX.out.drewN _, rfl, rfl⟩
    · obtain rfl : i = m := by omega
      clear hx
      go_wp2_with fail
      go_ret
      exact ⟨rfl, HX.out⟩
set_option maxRecDepth 100000 in
set_option maxHeartbeats 1000000 in
theorem eqProp_any (ss : List (ByteArray × ByteArray)) (m : Nat) (w : World) (a b : Option Addr) (c d : Nat) (h1 : Cells w a m c (propCells ss)) (h2 : Cells w b m d (propCells ss)) (hm : ss.length = m) :
    Calls Tryz.prog 181 #[.slice a m c, .slice b m d] w fun e w' => e = .returned (.bool true) ∧ Ext w w' := by
  have k1 := h1.1
  have k2 := h1.2.1
  have k3 := h2.1
  unfold maxLen at k2
  have HH := Lib.hid (And.intro h1 (And.intro h2 hm))
  clear h1 h2 hm
  go_enter Tryz.func181, Tryz.ntmps181
  go_wp2_with fail
  go_loopg [13] m (fun g l13 wr => ∃ i : Nat, i ≤ m ∧ Ext w wr ∧ l13 = .int .i64 i ∧ g = m - i)
  case atStart => exact ⟨0, Nat.zero_le _, Chg.refl _, rfl, rfl⟩
  case round =>
    obtain ⟨i, hi, hx, rfl, rfl⟩ := hrel
    have HX := Lib.hid hx
    by_cases hin : i < m
    · have hin' : (i : Int) < m := by omega
      obtain ⟨⟨s, t⟩, hs⟩ : ∃ s, ss[i]? = some s := ⟨_, List.getElem?_eq_getElem (by rw [HH.out.2.2]; exact hin)⟩
      obtain ⟨x, rfl, c0, c1⟩ := prop_at (HH.out.1.ext hx) hs
      obtain ⟨y, rfl, c2, c3⟩ := prop_at (HH.out.2.1.ext hx) hs
      dsimp only at c0 c1 c2 c3
      clear hx hs
      go_wp2_with fail
      go_quiet (fail)
      go_wp2_with fail
      go_roundg (m - (i + 1))
      case measure => omega
      case rel => exact ⟨i + 1, by omega, HX.out.drewN _, rfl, rfl⟩
    · obtain rfl : i = m := by omega
      clear hx
      go_wp2_with fail
      go_ret
      exact ⟨rfl, HX.out⟩
set_option maxRecDepth 100000 in
set_option maxHeartbeats 1000000 in
theorem eqEg_any (ss : List Eg) (m : Nat) (w : World) (a b : Option Addr) (c d : Nat) (h1 : Cells w a m c (egCells ss)) (h2 : Cells w b m d (egCells ss)) (hm : ss.length = m) :
    Calls Tryz.prog 128 #[.slice a m c, .slice b m d] w fun e w' => e = .returned (.bool true) ∧ Ext w w' := by
  have k1 := h1.1
  have k2 := h1.2.1
  have k3 := h2.1
  unfold maxLen at k2
  have HH := Lib.hid (And.intro h1 (And.intro h2 hm))
  clear h1 h2 hm
  go_enter Tryz.func128, Tryz.ntmps128
  go_wp2_with fail
  go_loopg [13] m (fun g l13 wr => ∃ i : Nat, i ≤ m ∧ Ext w wr ∧ l13 = .int .i64 i ∧ g = m - i)
  case atStart => exact ⟨0, Nat.zero_le _, Chg.refl _, rfl, rfl⟩
  case round =>
    obtain ⟨i, hi, hx, rfl, rfl⟩ := hrel
    have HX := Lib.hid hx
    by_cases hin : i < m
    · have hin' : (i : Int) < m := by omega
      obtain ⟨⟨tk, fr, lb, tn⟩, hs⟩ : ∃ s, ss[i]? = some s := ⟨_, List.getElem?_eq_getElem (by rw [HH.out.2.2]; exact hin)⟩
      obtain ⟨x, rfl, c0, c1, c2, c3⟩ := eg_at' (HH.out.1.ext hx) HH.out.2.2 hs
      obtain ⟨y, rfl, c4, c5, c6, c7⟩ := eg_at' (HH.out.2.1.ext hx) HH.out.2.2 hs
      dsimp only at c0 c1 c2 c3 c4 c5 c6 c7
      clear hx hs
      go_wp2_with fail
      go_quiet (fail)
      go_wp2_with fail
      go_roundg (m - (i + 1))
      case measure => omega
      case rel => exact ⟨i + 1, by omega, HX.out.drewN _, rfl, rfl⟩
    · obtain rfl : i = m := by omega
      clear hx
      go_wp2_with fail
      go_ret
      exact ⟨rfl, HX.out⟩
end Go.Proofs.YtkhllknahjmciaaGreat

/-! Graphs that are the same; a graph that may be is one. -/
namespace Go.Proofs.YtkhllknahjmciaaGreat
open Go.RowKit
set_option linter.unusedVariables false
set_option linter.unusedSimpArgs false

set_option maxRecDepth 100000 in
set_option maxHeartbeats 1000000 in
theorem sameNode_any (t : Nd) (w : World) (c1 c2 : List Value) (h1 : NdC w t c1) (h2 : NdC w t c2) :
    Calls Tryz.prog 130 #[.agg c1.toArray, .agg c2.toArray] w fun e w' => e = .returned (.bool true) ∧ Ext w w' := by
  obtain ⟨la, lc, pa, pc, rfl, hl, hp⟩ := h1
  obtain ⟨la2, lc2, pa2, pc2, rfl, hl2, hp2⟩ := h2
  have HS := Lib.hid (fun W (hW : Ext w W) => And.intro (eqStr_any t.labels _ W la la2 lc lc2 (hl.ext hW) (hl2.ext hW) rfl) (eqProp_any t.props _ W pa pa2 pc pc2 (hp.ext hW) (hp2.ext hW) rfl))
  generalize t.labels.length = m at *
  generalize t.props.length = n at *
  generalize t.id = d at *
  have hb := Blk.new w #[.int .i64 d, .slice la m lc, .slice pa n pc] 109
  have hw1 : Ext w (w.alloc (.cells #[.int .i64 d, .slice la m lc, .slice pa n pc] 109)) := (Chg.refl w).alloc _
  have hb2 := Blk.new (w.alloc (.cells #[.int .i64 d, .slice la m lc, .slice pa n pc] 109)) #[.int .i64 d, .slice la2 m lc2, .slice pa2 n pc2] 109
  have hw2 := hw1.alloc (.cells #[.int .i64 d, .slice la2 m lc2, .slice pa2 n pc2] 109)
  have hb1 := hb.chg ((Chg.refl (S := fun _ => False) _).alloc (.cells #[.int .i64 d, .slice la2 m lc2, .slice pa2 n pc2] 109)) (fun h => h)
  rw [World.size_alloc] at hb2
  have HB := Lib.hid (And.intro hb1 (And.intro hb2 hw2))
  clear hb hw1 hb1 hb2 hw2 hl hp hl2 hp2
  go_enter Tryz.func130, Tryz.ntmps130
  go_wp2_with fail
  refine (HS.out _ HB.out.2.2).1.mono ?_
  rintro e w2 ⟨rfl, hx⟩
  obtain ⟨b0, -, b1, -, b2, -⟩ := blk3_base (HB.out.1.chg hx (fun h => h))
  obtain ⟨d0, -, d1, -, d2, -⟩ := blk3_base (HB.out.2.1.chg hx (fun h => h))
  have HX := Lib.hid (HB.out.2.2.trans hx)
  clear hx
  go_wp2_with fail
  refine (HS.out _ HX.out).2.mono ?_
  rintro e w3 ⟨rfl, hx⟩
  have HX2 := Lib.hid (HX.out.trans hx)
  clear hx
  go_wp2_with fail
  go_ret
  exact ⟨rfl, HX2.out⟩
set_option maxRecDepth 100000 in
set_option maxHeartbeats 1000000 in
theorem eqNodes_any (ns : List Nd) (w : World) (a b : Option Addr) (c d : Nat) (h1 : NsC w ns a c) (h2 : NsC w ns b d) :
    Calls Tryz.prog 129 #[.slice a ns.length c, .slice b ns.length d, .func (.func 130) #[] #[]] w fun e w' => e = .returned (.bool true) ∧ Ext w w' := by
  have k1 : ns.length ≤ c ∧ c ≤ maxLen := by obtain ⟨css, h1, -⟩ := h1; exact ⟨h1.1, h1.2.1⟩
  have k3 : ns.length ≤ d := by obtain ⟨css, h1, -⟩ := h2; exact h1.1
  unfold maxLen at k1
  obtain ⟨k1, k2⟩ := k1
  obtain ⟨m, hm⟩ : ∃ m, ns.length = m := ⟨_, rfl⟩
  rw [hm] at k1 k3 ⊢
  have HH := Lib.hid (And.intro h1 (And.intro h2 hm))
  clear h1 h2 hm
  go_enter Tryz.func129, Tryz.ntmps129
  go_wp2_with fail
  go_loopg [17] m (fun g l17 wr => ∃ i : Nat, i ≤ m ∧ Ext w wr ∧ l17 = .int .i64 i ∧ g = m - i)
  case atStart => exact ⟨0, Nat.zero_le _, Chg.refl _, rfl, rfl⟩
  case round =>
    obtain ⟨i, hi, hx, rfl, rfl⟩ := hrel
    have HX := Lib.hid hx
    by_cases hin : i < m
    · have hin' : (i : Int) < m := by omega
      obtain ⟨t, ht⟩ : ∃ s, ns[i]? = some s := ⟨_, List.getElem?_eq_getElem (by rw [HH.out.2.2]; exact hin)⟩
      obtain ⟨x, la, lc, pa, pc, rfl, c0, c1, c2, hl, hp⟩ := nd_at (HH.out.1.ext hx) ht
      obtain ⟨y, la2, lc2, pa2, pc2, rfl, e0, e1, e2, hl2, hp2⟩ := nd_at (HH.out.2.1.ext hx) ht
      have HS := Lib.hid (fun W (hW : Ext wr W) => sameNode_any t W [.int .i64 t.id, .slice la t.labels.length lc, .slice pa t.props.length pc] [.int .i64 t.id, .slice la2 t.labels.length lc2, .slice pa2 t.props.length pc2] ⟨la, lc, pa, pc, rfl, hl.ext hW, hp.ext hW⟩ ⟨la2, lc2, pa2, pc2, rfl, hl2.ext hW, hp2.ext hW⟩)
      generalize t.labels.length = sl at *
      generalize t.props.length = sp at *
      generalize t.id = td at *
      have hE := ((Chg.refl (S := fun _ => False) wr).alloc (.cells #[.int .i64 td, .slice la sl lc, .slice pa sp pc] 109)).alloc (.cells #[.int .i64 td, .slice la2 sl lc2, .slice pa2 sp pc2] 109)
      have HE := Lib.hid (And.intro (HS.out _ hE) (HX.out.trans hE))
      have hA := (Chg.refl (S := fun _ => False) wr).alloc (.cells #[.int .i64 td, .slice la sl lc, .slice pa sp pc] 109)
      have y0 := one_ext hA e0
      have y1 := one_ext hA e1
      have y2 := one_ext hA e2
      clear hx ht hl hp hl2 hp2 hE hA HS
      go_wp2_with fail
      refine HE.out.1.mono ?_
      rintro e w2 ⟨rfl, hx⟩
      have HX2 := Lib.hid (HE.out.2.trans hx)
      clear hx
      go_wp2_with fail
      go_roundg (m - (i + 1))
      case measure => omega
      case rel => exact ⟨i + 1, by omega, HX2.out, rfl, rfl⟩
    · obtain rfl : i = m := by omega
      clear hx
      go_wp2_with fail
      go_ret
      exact ⟨rfl, HX.out⟩
set_option maxRecDepth 100000 in
set_option maxHeartbeats 1000000 in
theorem gSame_any (g : Gr) (w : World) (c1 c2 : List Value) (h1 : GrC w g c1) (h2 : GrC w g c2) :
    Calls Tryz.prog 80 #[.agg c1.toArray, .agg c2.toArray] w fun e w' => e = .returned (.bool true) ∧ Ext w w' := by
  obtain ⟨na, nc, ea, ec, rfl, hn, he⟩ := h1
  obtain ⟨na2, nc2, ea2, ec2, rfl, hn2, he2⟩ := h2
  have HS := Lib.hid (fun W (hW : Ext w W) => And.intro (eqEg_any g.edges _ W ea ea2 ec ec2 (Cells.ext he hW) (Cells.ext he2 hW) rfl) (eqNodes_any g.nodes W na na2 nc nc2 (hn.ext hW) (hn2.ext hW)))
  generalize g.nodes.length = m at *
  generalize hE : g.edges.length = n at *
  generalize g.next = d at *
  have hb := Blk.new w #[.slice na m nc, .slice ea n ec, .int .i64 d] 25
  have hw1 : Ext w (w.alloc (.cells #[.slice na m nc, .slice ea n ec, .int .i64 d] 25)) := (Chg.refl w).alloc _
  have hb2 := Blk.new (w.alloc (.cells #[.slice na m nc, .slice ea n ec, .int .i64 d] 25)) #[.slice na2 m nc2, .slice ea2 n ec2, .int .i64 d] 25
  have hw2 := hw1.alloc (.cells #[.slice na2 m nc2, .slice ea2 n ec2, .int .i64 d] 25)
  have hb1 := hb.chg ((Chg.refl (S := fun _ => False) _).alloc (.cells #[.slice na2 m nc2, .slice ea2 n ec2, .int .i64 d] 25)) (fun h => h)
  rw [World.size_alloc] at hb2
  have HB := Lib.hid (And.intro hb1 (And.intro hb2 hw2))
  clear hb hw1 hb1 hb2 hw2 hn he hn2 he2 hE
  go_enter Tryz.func80, Tryz.ntmps80
  go_wp2_with fail
  refine (HS.out _ HB.out.2.2).1.mono ?_
  rintro e w2 ⟨rfl, hx⟩
  obtain ⟨b0, -, b1, -, b2, -⟩ := blk3_base (HB.out.1.chg hx (fun h => h))
  obtain ⟨d0, -, d1, -, d2, -⟩ := blk3_base (HB.out.2.1.chg hx (fun h => h))
  have HX := Lib.hid (HB.out.2.2.trans hx)
  clear hx
  go_wp2_with fail
  refine (HS.out _ HX.out).2.mono ?_
  rintro e w3 ⟨rfl, hx⟩
  have HX2 := Lib.hid (HX.out.trans hx)
  clear hx
  go_wp2_with fail
  go_ret
  exact ⟨rfl, HX2.out⟩
end Go.Proofs.YtkhllknahjmciaaGreat

/-! A graph that may be is one. -/
namespace Go.Proofs.YtkhllknahjmciaaGreat
open Go.RowKit
set_option linter.unusedVariables false
set_option linter.unusedSimpArgs false

def OfPost (w : World) (e : Ending) (w' : World) : Prop := ∃ a, e = .returned (.tuple #[.pointer (some a), .int .i64 0]) ∧ Ext w w'
set_option maxRecDepth 100000 in
set_option maxHeartbeats 1000000 in
theorem Of_any (g : Gr) (w : World) (cs : List Value) (h : GrC w g cs) (hm : MayG g) :
    Calls Tryz.prog 42 #[.agg cs.toArray] w (OfPost w) := by
  have HAg := Lib.hid (fun W (hW : Ext w W) => again_any g W cs (h.ext hW) hm)
  have HSm := Lib.hid (fun W (hW : Ext w W) c1 (hc : GrC W g c1) => gSame_any g W c1 cs hc (h.ext hW))
  have HM := Lib.hid hm
  obtain ⟨na, nc, ea, ec, rfl, hn, he⟩ := h
  generalize g.nodes.length = m at *
  generalize g.edges.length = n at *
  generalize hd : g.next = d at *
  have hb := Blk.new w #[.slice na m nc, .slice ea n ec, .int .i64 d] 25
  have hw1 : Ext w (w.alloc (.cells #[.slice na m nc, .slice ea n ec, .int .i64 d] 25)) := (Chg.refl w).alloc _
  have HB := Lib.hid (And.intro hb hw1)
  have HD := Lib.hid hd
  obtain ⟨b0, -, b1, -, b2, -⟩ := blk3_base hb
  clear hb hw1 hn he hm hd
  go_enter Tryz.func42, Tryz.ntmps42
  go_wp2_with fail
  refine (HAg.out _ HB.out.2).mono ?_
  rintro e w2 ⟨p, nv, ev, rfl, hg, hx, hp⟩
  clear b0 b1 b2
  have HX := Lib.hid (And.intro (HB.out.2.trans hx) (HB.out.1.chg hx (fun h => h)))
  have HAll := Lib.hid (fun W (hW : Ext w2 W) => All_any W p g.nodes g.edges (g.next - 1) nv ev (hg.ext hW) HM.out.nlen HM.out.elen (by have := HM.out.next; omega) (by have := HM.out.next; omega) (fun t ht => ⟨(HM.out.labels t ht).1, (HM.out.props t ht).1⟩))
  have HCs := Lib.hid (fun W (hW : Ext w2 W) => three_ext hW HX.out.2)
  clear hg hx hp
  go_wp2_with fail
  go_region_held3 (fun v => v.cell? ⟨w.heap.size, 0, none⟩ = some (.slice na m nc) ∧ v.cell? ⟨w.heap.size, 1, none⟩ = some (.slice ea n ec) ∧ v.cell? ⟨w.heap.size, 2, none⟩ = some (.int .i64 d)) (first | with_reducible exact HCs.out _ (Chg.refl (S := fun _ => False) w2).drew | with_reducible exact HCs.out _ HU.out.1 | with_reducible exact HCs.out _ HV.out) (first | (go_at_call 81; refine (HAll.out _ (Chg.refl (S := fun _ => False) w2).drew).mono ?_; rintro e w3 ⟨c1, rfl, hc1, hx3⟩; rw [show g.next - 1 + 1 = g.next by omega] at hc1; have HU := Lib.hid (And.intro ((Chg.refl (S := fun _ => False) w2).drew.trans hx3) hc1); clear hc1 hx3) | (go_at_call 80; refine (HSm.out _ (HX.out.1.trans HU.out.1) _ HU.out.2).mono ?_; rintro e w4 ⟨rfl, hx4⟩; have HV := Lib.hid (HU.out.1.trans hx4); clear hx4))
  go_wp2_with fail
  go_ret2
  exact ⟨_, rfl, HX.out.1.trans HV.out⟩
end Go.Proofs.YtkhllknahjmciaaGreat
