/-
  A graph in the making: a property more. A graph in the making: an edge more. What a graph that may be is made of.
-/
import Derived.Test.YtkhllknahjmciaaGreatM13
/-! A graph in the making: a property more. -/
namespace Go.Proofs.YtkhllknahjmciaaGreat
open Go.RowKit
set_option linter.unusedVariables false
set_option linter.unusedSimpArgs false

/-- A property's row has grown, and its cell is laid anew. -/
theorem GCu.prop {w w' : World} {p B g nc : Nat} {ns : List Nd} {id : Int} {L : List ByteArray} {P : List (ByteArray × ByteArray)} {es : List Eg} {gv : Int} {ev lv pv v' : Value} {css : List (List Value)} {s : ByteArray × ByteArray} (h : GCu w p B ns ⟨id, L, P⟩ es gv (.slice (some ⟨g, 0, none⟩) (ns.length + 1) nc) ev)
    (hrow : w.ownsRow (p + 1) 109 3 (.slice (some ⟨g, 0, none⟩) (ns.length + 1) nc) (ns.length + 1) (css.flatten ++ [.int .i64 id, lv, pv])) (hnd : NdOs w (p + 1) B ns css) (hl : w.ownsRow B 9 1 lv L.length (strCells L)) (hp : w.ownsRow B 142 2 pv P.length (propCells P))
    (u1 : w'.ownsRow B 142 2 v' (P.length + 1) (propCells P ++ [.string s.1, .string s.2])) (hg : Chg (fun b => pv.ownBlock = some b) w w') :
    GCu (w'.setCell ⟨g, ns.length * 3 + 2, none⟩ v') p B ns ⟨id, L, P ++ [s]⟩ es gv (.slice (some ⟨g, 0, none⟩) (ns.length + 1) nc) ev ∧ Hi p w (w'.setCell ⟨g, ns.length * 3 + 2, none⟩ v') := by
  have hlow := h.low
  have hhigh := h.high
  have hrow' := own_other hrow hp (by decide) hg
  have hgp : p + 1 ≤ g := (hrow.lt g rfl).1
  obtain ⟨k1, k2⟩ := hrow'.stored (ns.length * 3 + 2) v'
  have hs : Chg (fun b => b = g) w' (w'.setCell ⟨g, ns.length * 3 + 2, none⟩ v') := set_chg (Chg.refl _)
  obtain ⟨curg, kg⟩ := own_type hrow' (g := g) rfl
  have hkp : Blk w' p _ _ := h.box.chg hg (fun e => by have := (hp.lt p e).1; omega)
  refine ⟨⟨hkp.chg hs (by omega), ⟨css, lv, v', ?_, ?_, ?_, ?_⟩, ?_, hlow, ?_⟩, ?_⟩
  · rw [(snoc_set css.flatten (.int .i64 id) lv pv v' _ (css_len hnd)).2] at k1
    exact k1
  · have h3 := NdOs.chg hg (fun b hb hS => .inl (hp.lt b hS).1) hnd
    exact NdOs.chg hs (fun b hb hS => .inr ⟨_, _, hS ▸ kg, by decide, by decide⟩) h3
  · have h3 := own_other hl hp (by decide) hg
    exact own_chg h3 hs fun b hb e => own_apart h3 hrow' (by decide) hb (e ▸ rfl)
  · rw [propCells_app, List.length_append]
    exact own_chg u1 hs fun b hb e => own_apart u1 hrow' (by decide) hb (e ▸ rfl)
  · have h3 := own_other h.edges hp (by decide) hg
    exact own_chg h3 hs fun b hb e => own_apart h3 hrow' (by decide) hb (e ▸ rfl)
  · have := hg.size
    simp [World.setCell]; omega
  · exact (hg.mono fun b _ hb => by have := (hp.lt b hb).1; show p ≤ b; omega).trans (hs.mono fun b _ hb => by show p ≤ b; omega)
theorem prop_facts {w w' : World} {p B g nc m n k z : Nat} {id : Int} {lv nv ev gv lv' : Value} {pv : Value} {css : List (List Value)} {xs : List Value}
    (hrow : w.ownsRow (p + 1) 109 3 (.slice (some ⟨g, 0, none⟩) k nc) k (css.flatten ++ [.int .i64 id, lv', pv])) (hl : w.ownsRow B 142 z lv m xs) (hb : Blk w p #[nv, ev, gv] 190) (hgp : p + 1 ≤ g) (hlo : p + 1 ≤ B)
    (hcl : css.flatten.length = n * 3) (hk : k = n + 1) (hg : Chg (fun b => lv.ownBlock = some b) w.drew w') (v' : Value) :
    w'.cell? ⟨p, 0, none⟩ = some nv ∧ w'.cell? ⟨g, n * 3 + 1, none⟩ = some lv' ∧ w'.frozen? ⟨g, n * 3 + 1, none⟩ = false ∧ (w'.setCell ⟨g, n * 3 + 1, none⟩ v').cell? ⟨p, 0, none⟩ = some nv ∧
      w'.cell? ⟨g, n * 3 + 2, none⟩ = some pv ∧ w'.frozen? ⟨g, n * 3 + 2, none⟩ = false ∧ (w'.setCell ⟨g, n * 3 + 2, none⟩ v').cell? ⟨p, 0, none⟩ = some nv := by
  have hrow0 : w.drew.ownsRow (p + 1) 109 3 (.slice (some ⟨g, 0, none⟩) k nc) k (css.flatten ++ [.int .i64 id, lv', pv]) := hrow
  have hl0 : w.drew.ownsRow B 142 z lv m xs := hl
  have hb0 : Blk w.drew p #[nv, ev, gv] 190 := hb
  have hrow' := own_other hrow0 hl0 (by decide) hg
  have hb' := hb0.chg hg fun e => by have := (hl.lt p e).1; omega
  obtain ⟨k0, k1, k2⟩ := snoc_at css.flatten (.int .i64 id) lv' pv _ hcl
  exact ⟨hb'.cell 0 _ rfl, (hrow'.cellAt (n * 3 + 1) (by omega)).trans k1, hrow'.frozenAt _, (hb'.chg (set_chg (p := g) (Chg.refl _)) (by omega)).cell 0 _ rfl, (hrow'.cellAt (n * 3 + 2) (by omega)).trans k2, hrow'.frozenAt _, (hb'.chg (set_chg (p := g) (Chg.refl _)) (by omega)).cell 0 _ rfl⟩
set_option maxRecDepth 100000 in
set_option maxHeartbeats 1000000 in
theorem Set_any (w : World) (p B : Nat) (ns : List Nd) (id : Int) (L : List ByteArray) (P : List (ByteArray × ByteArray)) (es : List Eg) (gv : Int) (nv ev : Value) (s v : ByteArray) (h : GCu w p B ns ⟨id, L, P⟩ es gv nv ev) (hn : ns.length < 12) (hr : Rise (ns ++ [⟨id, L, P⟩])) (hs : nameOk s = true) (hv : nameOk v = true) (hL : P.length < 8) (hlt : ∀ q ∈ P, ltS q.1 s = true) :
    Calls Tryz.prog 126 #[.pointer (some ⟨p, 0, none⟩), .int .i64 id, .string s, .string v] w (LabPost w p B ns ⟨id, L, P ++ [(s, v)]⟩ es gv nv ev) := by
  obtain ⟨na, nc', hnv, hc⟩ := h.ns
  obtain ⟨b0, f0, b1, f1, b2, f2⟩ := blk3_base h.box
  have hk : (ns ++ [(⟨id, L, P⟩ : Nd)])[ns.length]? = some ⟨id, L, P⟩ := by rw [List.getElem?_append_right (Nat.le_refl _)]; simp
  have HF := Lib.hid (find_old (ns ++ [⟨id, L, P⟩]) ns.length ⟨id, L, P⟩ w p na nc' (by rw [← hnv]; exact b0) hc (by simp; omega) hr hk)
  obtain ⟨g, nc, css, lv, pv, rfl, hgp, hrow, hnd, hl, hp, hcl, c0, c1, c2⟩ := h.at
  obtain ⟨la, lc, rfl⟩ := own_slice hp
  have HH := Lib.hid (And.intro h (And.intro hrow (And.intro hnd (And.intro hl hp))))
  have HB := Lib.hid (And.intro hs (And.intro hlt hv))
  obtain ⟨n, hn'⟩ : ∃ n, ns.length = n := ⟨_, rfl⟩
  obtain ⟨m, hm'⟩ : ∃ n, P.length = n := ⟨_, rfl⟩
  obtain ⟨k, hk1⟩ : ∃ k, n + 1 = k := ⟨_, rfl⟩
  have HN := Lib.hid (And.intro hn' (And.intro hm' hk1))
  have i1 : (0 : Int) ≤ (n : Int) := by omega
  have i2 : (n : Int) < (k : Int) := by omega
  dsimp only at hp
  rw [hn'] at HF hn b0 c0 c1 c2
  rw [hk1] at b0
  rw [hm'] at c2 hL
  have hlo := h.low
  have hhi := h.high
  have hpl : p < w.heap.size := h.box.lt
  have d3 : decide ((8 : Int) ≤ m) = false := by simp; omega
  have d4 : decide (8 ≤ m) = false := by simp; omega
  have HL := Lib.hid (show css.flatten.length = n * 3 by rw [hcl, hn'])
  clear h hc hlt hn' hm' b0 f0 b1 f1 b2 f2 c0 c1 c2 hrow hnd hl hp hs hv hr hk hnv hcl hk1
  go_enter Tryz.func126, Tryz.ntmps126
  go_wp2_with fail
  refine HF.out.mono ?_
  rintro e w2 ⟨rfl, hx⟩
  have H2 := HH.out.1.ext hx
  obtain ⟨b0, f0, b1, f1, b2, f2⟩ := blk3_base H2.box
  have hrow2 := own_low HH.out.2.1 hx (fun _ _ h => h)
  have hl2 := own_low HH.out.2.2.2.1 hx (fun _ _ h => h)
  have hp2 := own_low HH.out.2.2.2.2 hx (fun _ _ h => h)
  have hnd2 := NdOs.chg hx (fun _ _ h => h.elim) HH.out.2.2.1
  obtain ⟨k0, k1, k2⟩ := snoc_at css.flatten (.int .i64 id) lv (.slice la P.length lc) _ (css_len hnd2)
  have c2 := (hrow2.cellAt (ns.length * 3 + 2) (by omega)).trans k2
  have HR := Lib.hid (And.intro hrow2 (And.intro hl2 (And.intro hp2 (And.intro hnd2 (And.intro H2 hx)))))
  have HBS := Lib.hid (bsProp_any P s P.length w2 la lc (Cells.of_own hp2) rfl (by rw [HN.out.2.1]; omega) HB.out.2.1)
  rw [HN.out.1] at b0 c2
  rw [HN.out.2.2] at b0
  rw [HN.out.2.1] at c2 HBS
  have hsz := hx.size
  clear hx hrow2 hl2 hp2 hnd2 H2 k0 k1 k2
  go_wp2_with fail
  refine (named_any s _ HB.out.1).mono ?_
  rintro e w9 ⟨rfl, h9⟩
  subst w9
  go_wp2_with fail
  refine (named_any v _ HB.out.2.2).mono ?_
  rintro e w9 ⟨rfl, h9⟩
  subst w9
  go_wp2_with fail
  refine HBS.out.mono ?_
  rintro e w5 ⟨rfl, hx⟩
  have H5 := HR.out.2.2.2.2.1.ext hx
  clear b0 f0 b1 f1 b2 f2 c2
  obtain ⟨b0, f0, b1, f1, b2, f2⟩ := blk3_base H5.box
  have hsz5 := hx.size
  have HR5 := Lib.hid (And.intro (own_low HR.out.1 hx (fun _ _ h => h)) (And.intro (own_low HR.out.2.1 hx (fun _ _ h => h)) (And.intro (own_low HR.out.2.2.1 hx (fun _ _ h => h)) (And.intro (NdOs.chg (S := fun _ => False) hx (fun _ _ h => h.elim) HR.out.2.2.2.1) (And.intro H5 (HR.out.2.2.2.2.2.trans hx))))))
  rw [HN.out.1, HN.out.2.2] at b0
  clear hx H5 HR
  have hown := HR5.out.2.2.1
  rw [HN.out.2.1] at hown
  have HI := Lib.hid (insProp_any (w5.alloc (.cells #[.string s, .string v] 142)).drew B (.slice la m lc) m (propCells P) ((hown.alloc _)) ⟨w5.heap.size, 0, none⟩ [.string s, .string v] rfl (fun j u hj => news w5.drew [.string s, .string v] 142 j u hj) (by simp [Value.oneCell']) (by omega) (by simp; omega))
  have HO := Lib.hid hown
  clear hown
  have HCs := Lib.hid (fun W (hW : Ext w5 W) => one_ext hW b0)
  have HK := Lib.hid (fun (W : World) (v' : Value) (hg : Chg (fun b => (Value.slice la m lc).ownBlock = some b) w5.drew W) => prop_facts (n := n) HR5.out.1 HO.out HR5.out.2.2.2.2.1.box hgp hlo HL.out (by rw [HN.out.1]) hg v')
  simp only [HN.out.1, HN.out.2.1, HN.out.2.2] at HK
  go_wp2_with fail
  go_region_held3 (fun v => v.cell? ⟨p, 0, none⟩ = some (.slice (some ⟨g, 0, none⟩) k nc)) (first | with_reducible exact HCs.out _ (Chg.refl (S := fun _ => False) w5).drew | with_reducible exact HCs.out _ ((Chg.refl (S := fun _ => False) w5).alloc _).drew | with_reducible exact HQ.out.1 | with_reducible exact HQ.out.2) ((go_at_call 178; refine HI.out.mono ?_; rintro e w3 ⟨v', rfl, u1, u2, u3⟩; obtain ⟨a', cap', rfl⟩ := own_slice u1; have hg := grow_chg (wr := w5.drew) u2; obtain ⟨y0, -, -, -, y1, z1, y2⟩ := HK.out w3 (.slice a' (m + 1) cap') hg; have HQ := Lib.hid (And.intro y0 y2); have HG := Lib.hid (And.intro u1 hg); clear u1 u2 u3 hg y0 y2))
  go_wp2_with fail
  go_ret
  obtain ⟨u1, hg⟩ := HG.out
  have := GCu.prop (w := w5.drew) (s := (s, v)) (v' := .slice a' (m + 1) cap') (HR5.out.2.2.2.2.1.ext (Chg.refl _).drew) HR5.out.1 (NdOs.chg (S := fun _ => False) (Chg.refl _).drew (fun _ _ h => h.elim) HR5.out.2.2.2.1) HR5.out.2.1 HR5.out.2.2.1 (by rw [HN.out.2.1]; exact u1) (by rw [HN.out.2.1]; exact hg)
  simp only [HN.out.1] at this
  refine ⟨rfl, by rw [HN.out.1, HN.out.2.2]; rw [HN.out.2.2] at this; exact this.1, (Hi.of_ext HR5.out.2.2.2.2.2.drew).trans this.2, ?_⟩
  intro c hc hcB h1 h2 h3
  refine ⟨keeps3 HR5.out.2.2.2.2.2.drew hg (set_chg (p := g) (Chg.refl _)) hc (fun e => ?_) (fun e => h2 (by rw [e]; rfl)), h2, h3⟩
  have := (HO.out.lt c e).1
  omega
end Go.Proofs.YtkhllknahjmciaaGreat

/-! A graph in the making: an edge more. -/
namespace Go.Proofs.YtkhllknahjmciaaGreat
open Go.RowKit
set_option linter.unusedVariables false
set_option linter.unusedSimpArgs false

theorem has_any (ns : List Nd) (k : Nat) (t : Nd) (w : World) (p : Nat) (es : List Eg) (gv : Int) (nv ev : Value) (h : GSt w p ns es gv nv ev) (hn0 : ns.length ≤ 1000) (hr : Rise ns) (hk : ns[k]? = some t) :
    Calls Tryz.prog 179 #[.pointer (some ⟨p, 0, none⟩), .int .i64 t.id] w fun e w' => e = .returned (.bool true) ∧ Ext w w' := by
  obtain ⟨na, nc, rfl, hc⟩ := h.ns
  obtain ⟨b0, -⟩ := blk3_base h.box
  have HF := Lib.hid (find_old ns k t w p na nc b0 hc hn0 hr hk)
  clear h hn0 hr hk hc b0
  go_enter Tryz.func179, Tryz.ntmps179
  go_wp2_with fail
  refine HF.out.mono ?_
  rintro e w2 ⟨rfl, hx⟩
  go_wp2_with fail
  go_ret
  exact ⟨rfl, hx⟩
theorem egCells_app : ∀ (a b : List Eg), egCells (a ++ b) = egCells a ++ egCells b
  | [], b => rfl
  | s :: a, b => by rw [List.cons_append, egCells, egCells, egCells_app a b, List.append_assoc]
theorem add_facts {w : World} {p t : Nat} {a0 a1 a2 : Value} (h : Blk w p #[a0, a1, a2] t) (u : Value) :
    (w.setCell ⟨p, 1, none⟩ u).cell? ⟨p, 2, none⟩ = some a2 ∧ (w.setCell ⟨p, 1, none⟩ u).cell? ⟨p, 1, none⟩ = some u := ⟨(h.set 1 u).cell 2 _ rfl, (h.set 1 u).cell 1 _ rfl⟩
theorem GSt.edge {w w' : World} {p : Nat} {ns : List Nd} {es : List Eg} {gv : Int} {nv ev v' : Value} {e : Eg} (h : GSt w p ns es gv nv ev)
    (u1 : w'.ownsRow (p + 1) 72 4 v' (es.length + 1) (egCells es ++ e.cells)) (hg : Chg (fun b => ev.ownBlock = some b) w.drew w') :
    GSt (w'.setCell ⟨p, 1, none⟩ v') p ns (es ++ [e]) gv nv v' ∧ Hi p w (w'.setCell ⟨p, 1, none⟩ v') := by
  have hd := h.ext (Chg.refl (S := fun _ => False) w).drew
  obtain ⟨css, h1, h2⟩ := hd.nodes
  have kp := Blk.own hd.box hd.edges (by omega) hg
  have hsp : Chg (fun b => b = p) w' (w'.setCell ⟨p, 1, none⟩ v') := set_chg (Chg.refl w')
  have hlow : ∀ g, p + 1 ≤ g → ¬ g = p := by intro g hg e; omega
  refine ⟨⟨kp.set 1 _, ⟨css, own_low (own_other h1 hd.edges (by decide) hg) hsp hlow, ?_⟩, ?_⟩, ?_⟩
  · have h3 := NdOs.chg hg (fun b hb hS => by
      obtain ⟨cur, kb⟩ := own_type hd.edges hS
      exact .inr ⟨cur, _, kb, by decide, by decide⟩) h2
    have h4 := NdOs.chg hsp (fun b hb hS => .inr ⟨_, _, hS ▸ kp, by decide, by decide⟩) h3
    refine h4.mono ?_
    have := hg.size
    simp [World.setCell]
    exact this
  · rw [egCells_app, List.length_append]
    have := own_low u1 hsp hlow
    simpa [egCells] using this
  · refine ((Hi.of_ext (Chg.refl (S := fun _ => False) w).drew).trans (hg.mono fun b _ hb => ?_)).trans (hsp.mono fun b _ hb => ?_)
    · have := (hd.edges.lt b hb).1; show p ≤ b; omega
    · show p ≤ b; omega
theorem GSt.given {w : World} {p : Nat} {ns : List Nd} {es : List Eg} {gv : Int} {nv ev : Value} (h : GSt w p ns es gv nv ev) (z : Int) :
    GSt (w.setCell ⟨p, 2, none⟩ (.int .i64 z)) p ns es z nv ev ∧ Hi p w (w.setCell ⟨p, 2, none⟩ (.int .i64 z)) := by
  obtain ⟨css, h1, h2⟩ := h.nodes
  have hsp : Chg (fun b => b = p) w (w.setCell ⟨p, 2, none⟩ (.int .i64 z)) := set_chg (Chg.refl w)
  have hlow : ∀ g, p + 1 ≤ g → ¬ g = p := by intro g hg e; omega
  refine ⟨⟨h.box.set 2 _, ⟨css, own_low h1 hsp hlow, ?_⟩, own_low h.edges hsp hlow⟩, hsp.mono fun b _ hb => by show p ≤ b; omega⟩
  refine (NdOs.chg hsp (fun b hb hS => .inr ⟨_, _, hS ▸ h.box, by decide, by decide⟩) h2).mono ?_
  simp [World.setCell]
def AddEPost (w : World) (p : Nat) (ns : List Nd) (es : List Eg) (gv : Int) (nv ev : Value) (e : Ending) (w' : World) : Prop :=
  ∃ ev', e = .returned (.tuple #[.int .i64 gv, .int .i64 0]) ∧ GSt w' p ns es gv nv ev' ∧ Hi p w w' ∧ Keeps p w.heap.size w w' nv nv ev ev'
set_option maxRecDepth 100000 in
set_option maxHeartbeats 1000000 in
theorem Add_any (w : World) (p : Nat) (ns : List Nd) (es : List Eg) (gv : Int) (nv ev : Value) (fr to : Int) (lb : ByteArray) (h : GSt w p ns es gv nv ev) (hn0 : ns.length ≤ 1000) (hr : Rise ns) (i j : Nat) (s t : Nd) (hi : ns[i]? = some s) (hj : ns[j]? = some t) (hs : s.id = fr) (ht : t.id = to) (hl : nameOk lb = true) (he : es.length < 60) (hg0 : 0 ≤ gv) (hg1 : gv < 1099511627776) :
    Calls Tryz.prog 127 #[.pointer (some ⟨p, 0, none⟩), .int .i64 fr, .string lb, .int .i64 to] w (AddEPost w p ns (es ++ [⟨gv + 1, fr, lb, to⟩]) (gv + 1) nv ev) := by
  subst hs ht
  have HHas := Lib.hid (And.intro (fun W (hW : Ext w W) => has_any ns i s W p es gv nv ev (h.ext hW) hn0 hr hi) (fun W (hW : Ext w W) => has_any ns j t W p es gv nv ev (h.ext hW) hn0 hr hj))
  generalize s.id = fr at *
  generalize t.id = to at *
  have HNm := Lib.hid (fun W => named_any lb W hl)
  obtain ⟨ea, ec, rfl⟩ := own_slice h.edges
  obtain ⟨m, hm⟩ : ∃ m, es.length = m := ⟨_, rfl⟩
  have HN := Lib.hid hm
  have HH := Lib.hid h
  rw [hm] at he
  have d1 : decide ((60 : Int) ≤ m) = false := by simp; omega
  have d2 : decide (60 ≤ m) = false := by simp; omega
  have d3 : decide ((1099511627776 : Int) ≤ gv) = false := by simp; omega
  have hpl : p < w.heap.size := h.box.lt
  obtain ⟨i0, hi0, hii⟩ := Option.map_eq_some_iff.1 info_eg
  obtain ⟨hz0, hz1, hz2⟩ : i0.zero = some (.agg #[.int .i64 0, .int .i64 0, .string ⟨#[]⟩, .int .i64 0]) ∧ i0.size = 4 ∧ i0.bytes = 40 := by
    have := hii; simp at this; exact this
  have HI := Lib.hid (And.intro hi0 (And.intro hz0 (And.intro hz1 hz2)))
  clear hi0 hii hz0 hz1 hz2 h hm hr hi hj hl hn0
  go_enter Tryz.func127, Tryz.ntmps127
  go_wp2_with fail
  refine (HNm.out _).mono ?_
  rintro e w9 ⟨rfl, h9⟩
  subst w9
  go_wp2_with fail
  refine (HHas.out.1 _ (Chg.refl _)).mono ?_
  rintro e w2 ⟨rfl, hx⟩
  have HX := Lib.hid hx
  clear hx
  go_wp2_with fail
  refine (HHas.out.2 _ HX.out).mono ?_
  rintro e w3 ⟨rfl, hx⟩
  have HX3 := Lib.hid (HX.out.trans hx)
  have H3 := HH.out.ext HX3.out
  obtain ⟨b0, f0, b1, f1, b2, f2⟩ := blk3_base H3.box
  rw [HN.out] at b1
  obtain ⟨g3, hi3⟩ := H3.given (gv + 1)
  obtain ⟨w4, hw4⟩ : ∃ w4, w3.setCell ⟨p, 2, none⟩ (.int .i64 (gv + 1)) = w4 := ⟨_, rfl⟩
  have HW := Lib.hid hw4
  rw [hw4] at g3 hi3
  have HG := Lib.hid (And.intro g3 ((Hi.of_ext HX3.out).trans hi3))
  have HE := Lib.hid HX3.out
  have hsz3 := hx.size
  have hsz2 := HX.out.size
  have hs34 : w3.heap.size = w4.heap.size := by rw [← HW.out]; simp [World.setCell]
  clear hx HX HX3 H3 g3 hi3 hw4
  go_wp2_with fail
  rw [HW.out]
  clear b0 f0 b1 f1 b2 f2
  have HP := Lib.hid HG.out.1.box
  have HO := Lib.hid HG.out.1.edges
  rw [HN.out] at HP HO
  obtain ⟨b0, f0, b1, f1, b2, f2⟩ := blk3_base HP.out
  have hlt4 : p < w4.heap.size := HP.out.lt
  have HCs := Lib.hid (fun W (hW : Ext w4 W) => one_ext hW b2)
  refine wp_region_held_drew (S := fun v => v.cell? ⟨p, 2, none⟩ = some (.int .i64 (gv + 1))) (by kernel_rfl) (HCs.out _ (Chg.refl (S := fun _ => False) w4).drew) (fun hHeld => ?_)
  refine wpAnyH_take (i := 0) (v := .pointer (some ⟨p, 0, none⟩)) rfl (by kernel_rfl) (by kernel_rfl) (by kernel_rfl) (fun _ _ _ h => h) (Or.inl ⟨by rfl, ?_⟩) hHeld ?_
  · intro wS hSw
    have hs0 := hSw
    go_simp
  simp only [Act.put, List.setIfInBounds_toArray, List.set_cons_zero, List.set_cons_succ]
  refine wpAnyH_take (i := 1) (v := .pointer (some ⟨p, 0, none⟩)) rfl (by kernel_rfl) (by kernel_rfl) (by kernel_rfl) (fun _ _ _ h => h) (Or.inl ⟨by rfl, ?_⟩) hHeld ?_
  · intro wS hSw
    have hs0 := hSw
    go_simp
  simp only [Act.put, List.setIfInBounds_toArray, List.set_cons_zero, List.set_cons_succ]
  refine wpAnyH_take (i := 2) (v := .pointer (some ⟨p, 0, none⟩)) rfl (by kernel_rfl) (by kernel_rfl) (by kernel_rfl) (fun _ _ _ h => h) (Or.inl ⟨by rfl, ?_⟩) hHeld ?_
  · intro wS hSw
    have hs0 := hSw
    go_simp
  simp only [Act.put, List.setIfInBounds_toArray, List.set_cons_zero, List.set_cons_succ]
  refine wpAnyH_take (i := 3) (v := .pointer (some ⟨p, 1, none⟩)) rfl (by kernel_rfl) (by kernel_rfl) (by kernel_rfl) (fun _ _ _ h => h) (Or.inl ⟨by rfl, ?_⟩) hHeld ?_
  · intro wS hSw
    have hs0 := hSw
    go_simp
  simp only [Act.put, List.setIfInBounds_toArray, List.set_cons_zero, List.set_cons_succ]
  refine wpAnyH_take (i := 5) (v := .pointer (some ⟨p, 0, none⟩)) rfl (by kernel_rfl) (by kernel_rfl) (by kernel_rfl) (fun _ _ _ h => h) (Or.inl ⟨by rfl, ?_⟩) hHeld ?_
  · intro wS hSw
    have hs0 := hSw
    go_simp
  simp only [Act.put, List.setIfInBounds_toArray, List.set_cons_zero, List.set_cons_succ]
  refine wpAnyH_take (i := 6) (v := .pointer (some ⟨p, 0, none⟩)) rfl (by kernel_rfl) (by kernel_rfl) (by kernel_rfl) (fun _ _ _ h => h) (Or.inl ⟨by rfl, ?_⟩) hHeld ?_
  · intro wS hSw
    have hs0 := hSw
    go_simp
  simp only [Act.put, List.setIfInBounds_toArray, List.set_cons_zero, List.set_cons_succ]
  refine wpAnyH_take (i := 7) (v := .pointer (some ⟨p, 2, none⟩)) rfl (by kernel_rfl) (by kernel_rfl) (by kernel_rfl) (fun _ _ _ h => h) (Or.inl ⟨by rfl, ?_⟩) hHeld ?_
  · intro wS hSw
    have hs0 := hSw
    go_simp
  simp only [Act.put, List.setIfInBounds_toArray, List.set_cons_zero, List.set_cons_succ]
  refine wpAnyH_take (i := 8) (v := .int .i64 (gv + 1)) rfl (by kernel_rfl) (by kernel_rfl) (by kernel_rfl) (fun _ _ _ h => h) (Or.inl ⟨by rfl, ?_⟩) hHeld ?_
  · intro wS hSw
    have hs0 := hSw
    go_simp
  simp only [Act.put, List.setIfInBounds_toArray, List.set_cons_zero, List.set_cons_succ]
  refine wpAnyH_take (i := 9) (v := .int .i64 fr) rfl (by kernel_rfl) (by kernel_rfl) (by kernel_rfl) (fun _ _ _ h => h) (Or.inl ⟨by rfl, ?_⟩) hHeld ?_
  · intro wS hSw
    have hs0 := hSw
    go_simp
  simp only [Act.put, List.setIfInBounds_toArray, List.set_cons_zero, List.set_cons_succ]
  refine wpAnyH_take (i := 10) (v := .string lb) rfl (by kernel_rfl) (by kernel_rfl) (by kernel_rfl) (fun _ _ _ h => h) (Or.inl ⟨by rfl, ?_⟩) hHeld ?_
  · intro wS hSw
    have hs0 := hSw
    go_simp
  simp only [Act.put, List.setIfInBounds_toArray, List.set_cons_zero, List.set_cons_succ]
  refine wpAnyH_take (i := 11) (v := .int .i64 to) rfl (by kernel_rfl) (by kernel_rfl) (by kernel_rfl) (fun _ _ _ h => h) (Or.inl ⟨by rfl, ?_⟩) hHeld ?_
  · intro wS hSw
    have hs0 := hSw
    go_simp
  simp only [Act.put, List.setIfInBounds_toArray, List.set_cons_zero, List.set_cons_succ]
  refine wpAnyH_take (i := 12) (v := .agg #[.int .i64 (gv + 1), .int .i64 fr, .string lb, .int .i64 to]) rfl (by kernel_rfl) (by kernel_rfl) (by kernel_rfl) (fun _ _ _ h => h) (Or.inl ⟨by rfl, ?_⟩) hHeld ?_
  · intro wS hSw
    have hs0 := hSw
    go_simp
  simp only [Act.put, List.setIfInBounds_toArray, List.set_cons_zero, List.set_cons_succ]
  refine wpAnyH_ready (rs := [4, 13]) (by kernel_rfl) (by simp) ?_
  refine AllReadyH.cons rfl (fun K hK => ?_) ?_
  · go_simp
    refine hK.out _ _ (by exact hHeld) (fun hHeld => ?_)
    clear hK K
    refine wpAnyH_ready (rs := [13]) (by kernel_rfl) (by simp) ?_
    refine AllReadyH.cons rfl (fun K hK => ?_) ?_
    · go_simp
      refine hK.out _ _ (HCs.out _ ((Chg.refl (S := fun _ => False) w4).alloc _).drew) (fun hHeld => ?_)
      clear hK K
      refine wpAnyH_ready (rs := [14]) (by kernel_rfl) (by simp) ?_
      refine AllReadyH.cons rfl (fun K hK => ?_) ?_
      · refine step_append_st rfl (.tmp 50) (.tmp 59) 23 rfl (p + 1) 72 i0 (.agg #[.int .i64 0, .int .i64 0, .string ⟨#[]⟩, .int .i64 0]) 4 40 Tryz.underlying23 HI.out.1 HI.out.2.1 HI.out.2.2.1 HI.out.2.2.2 rfl (by decide) (.slice ea m ec) m _ rfl (own_low HO.out ((Chg.refl _).alloc _).drew (fun _ _ h => h)) ⟨w4.heap.size, 0, none⟩ 1 1 (Eg.cells ⟨gv + 1, fr, lb, to⟩) rfl rfl (by exact fun j u hj => news w4.drew (Eg.cells ⟨gv + 1, fr, lb, to⟩) 72 j u hj) (by simp [Eg.cells, Value.oneCell']) (by unfold maxLen; omega) (by omega) (by simp; omega) ?_
        intro v' w' u1 u2 u3
        obtain ⟨a', cap', rfl⟩ := own_slice u1
        have hg := grow_chg (wr := w4.drew) u2
        have kp := Blk.own (HP.out.chg (Chg.refl (S := fun _ => False) w4).drew (fun h => h)) HO.out (by omega) hg
        obtain ⟨-, -, y1, z1, y2, z2⟩ := blk3_base kp
        have HQ := Lib.hid (add_facts kp (.slice a' (m + 1) cap'))
        have HF := Lib.hid (And.intro u1 (And.intro hg u3))
        refine hK.out _ _ (by exact y2) (fun hHeld => ?_)
        clear hK K u1 u2 u3 hg kp
        simp only [Act.put, List.setIfInBounds_toArray, List.set_cons_zero, List.set_cons_succ]
        refine wpAnyH_take (i := 15) (v := .pointer (some ⟨p, 0, none⟩)) rfl (by kernel_rfl) (by kernel_rfl) (by kernel_rfl) (fun _ _ _ h => h) (Or.inl ⟨by rfl, ?_⟩) hHeld ?_
        · intro wS hSw
          have hs0 := hSw
          go_simp
        simp only [Act.put, List.setIfInBounds_toArray, List.set_cons_zero, List.set_cons_succ]
        refine wpAnyH_take (i := 16) (v := .pointer (some ⟨p, 1, none⟩)) rfl (by kernel_rfl) (by kernel_rfl) (by kernel_rfl) (fun _ _ _ h => h) (Or.inl ⟨by rfl, ?_⟩) hHeld ?_
        · intro wS hSw
          have hs0 := hSw
          go_simp
        simp only [Act.put, List.setIfInBounds_toArray, List.set_cons_zero, List.set_cons_succ]
        refine wpAnyH_ready (rs := [17]) (by kernel_rfl) (by simp) ?_
        refine AllReadyH.cons rfl (fun K hK => ?_) ?_
        · go_simp
          refine hK.out _ _ HQ.out.1 (fun hHeld => ?_)
          have y3 := HQ.out.1
          clear hK K hHeld
          refine wpAnyH_done (by kernel_rfl) ?_ _
          go_wp2_with fail
          go_ret2
          obtain ⟨k1, k2⟩ := GSt.edge (w := w4) (e := ⟨gv + 1, fr, lb, to⟩) (v' := .slice a' (m + 1) cap') HG.out.1 (by rw [HN.out]; exact HF.out.1) (by rw [HN.out]; exact HF.out.2.1)
          refine ⟨_, rfl, k1, HG.out.2.trans k2, ?_⟩
          intro c hc _ h1 h2 h3
          rw [HN.out] at h3
          refine ⟨?_, h2, fun e => ?_⟩
          · have e1 := keeps3 (w := w4) (Chg.refl (S := fun _ => False) w4).drew HF.out.2.1 (set_chg (p := p) (j := 1) (c := .slice a' (m + 1) cap') (Chg.refl _)) (by omega) h3 h1
            refine e1.trans ?_
            rw [← HW.out]
            exact ((set_chg (p := p) (j := 2) (Chg.refl w3)).block c (by omega) h1).trans (HE.out.block c hc (fun h => h))
          · rcases HF.out.2.2 c e with h | h
            · exact h3 h
            · simp at h; omega
        exact AllReadyH.nil
      exact AllReadyH.nil
    exact AllReadyH.nil
  refine AllReadyH.cons rfl (fun K hK => ?_) ?_
  · go_simp
    refine hK.out _ _ (HCs.out _ ((Chg.refl (S := fun _ => False) w4).alloc _).drew) (fun hHeld => ?_)
    clear hK K
    refine wpAnyH_ready (rs := [4]) (by kernel_rfl) (by simp) ?_
    refine AllReadyH.cons rfl (fun K hK => ?_) ?_
    · go_simp
      refine hK.out _ _ (by exact hHeld) (fun hHeld => ?_)
      clear hK K
      refine wpAnyH_ready (rs := [14]) (by kernel_rfl) (by simp) ?_
      refine AllReadyH.cons rfl (fun K hK => ?_) ?_
      · refine step_append_st rfl (.tmp 50) (.tmp 59) 23 rfl (p + 1) 72 i0 (.agg #[.int .i64 0, .int .i64 0, .string ⟨#[]⟩, .int .i64 0]) 4 40 Tryz.underlying23 HI.out.1 HI.out.2.1 HI.out.2.2.1 HI.out.2.2.2 rfl (by decide) (.slice ea m ec) m _ rfl (own_low HO.out ((Chg.refl _).alloc _).drew (fun _ _ h => h)) ⟨w4.heap.size, 0, none⟩ 1 1 (Eg.cells ⟨gv + 1, fr, lb, to⟩) rfl rfl (by exact fun j u hj => news w4.drew (Eg.cells ⟨gv + 1, fr, lb, to⟩) 72 j u hj) (by simp [Eg.cells, Value.oneCell']) (by unfold maxLen; omega) (by omega) (by simp; omega) ?_
        intro v' w' u1 u2 u3
        obtain ⟨a', cap', rfl⟩ := own_slice u1
        have hg := grow_chg (wr := w4.drew) u2
        have kp := Blk.own (HP.out.chg (Chg.refl (S := fun _ => False) w4).drew (fun h => h)) HO.out (by omega) hg
        obtain ⟨-, -, y1, z1, y2, z2⟩ := blk3_base kp
        have HQ := Lib.hid (add_facts kp (.slice a' (m + 1) cap'))
        have HF := Lib.hid (And.intro u1 (And.intro hg u3))
        refine hK.out _ _ (by exact y2) (fun hHeld => ?_)
        clear hK K u1 u2 u3 hg kp
        simp only [Act.put, List.setIfInBounds_toArray, List.set_cons_zero, List.set_cons_succ]
        refine wpAnyH_take (i := 15) (v := .pointer (some ⟨p, 0, none⟩)) rfl (by kernel_rfl) (by kernel_rfl) (by kernel_rfl) (fun _ _ _ h => h) (Or.inl ⟨by rfl, ?_⟩) hHeld ?_
        · intro wS hSw
          have hs0 := hSw
          go_simp
        simp only [Act.put, List.setIfInBounds_toArray, List.set_cons_zero, List.set_cons_succ]
        refine wpAnyH_take (i := 16) (v := .pointer (some ⟨p, 1, none⟩)) rfl (by kernel_rfl) (by kernel_rfl) (by kernel_rfl) (fun _ _ _ h => h) (Or.inl ⟨by rfl, ?_⟩) hHeld ?_
        · intro wS hSw
          have hs0 := hSw
          go_simp
        simp only [Act.put, List.setIfInBounds_toArray, List.set_cons_zero, List.set_cons_succ]
        refine wpAnyH_ready (rs := [17]) (by kernel_rfl) (by simp) ?_
        refine AllReadyH.cons rfl (fun K hK => ?_) ?_
        · go_simp
          refine hK.out _ _ HQ.out.1 (fun hHeld => ?_)
          have y3 := HQ.out.1
          clear hK K hHeld
          refine wpAnyH_done (by kernel_rfl) ?_ _
          go_wp2_with fail
          go_ret2
          obtain ⟨k1, k2⟩ := GSt.edge (w := w4) (e := ⟨gv + 1, fr, lb, to⟩) (v' := .slice a' (m + 1) cap') HG.out.1 (by rw [HN.out]; exact HF.out.1) (by rw [HN.out]; exact HF.out.2.1)
          refine ⟨_, rfl, k1, HG.out.2.trans k2, ?_⟩
          intro c hc _ h1 h2 h3
          rw [HN.out] at h3
          refine ⟨?_, h2, fun e => ?_⟩
          · have e1 := keeps3 (w := w4) (Chg.refl (S := fun _ => False) w4).drew HF.out.2.1 (set_chg (p := p) (j := 1) (c := .slice a' (m + 1) cap') (Chg.refl _)) (by omega) h3 h1
            refine e1.trans ?_
            rw [← HW.out]
            exact ((set_chg (p := p) (j := 2) (Chg.refl w3)).block c (by omega) h1).trans (HE.out.block c hc (fun h => h))
          · rcases HF.out.2.2 c e with h | h
            · exact h3 h
            · simp at h; omega
        exact AllReadyH.nil
      exact AllReadyH.nil
    exact AllReadyH.nil
  exact AllReadyH.nil
end Go.Proofs.YtkhllknahjmciaaGreat

/-! What a graph that may be is made of. -/
namespace Go.Proofs.YtkhllknahjmciaaGreat
open Go.RowKit
set_option linter.unusedVariables false
set_option linter.unusedSimpArgs false

theorem ahead_of {α : Type} {R : α → α → Prop} {l : List α} (h : l.Pairwise R) {j : Nat} {b : α} (hj : l[j]? = some b) : ∀ a ∈ l.take j, R a b := by
  intro a ha
  obtain ⟨i, hi, rfl⟩ := List.getElem_of_mem ha
  obtain ⟨hjl, rfl⟩ := List.getElem?_eq_some_iff.1 hj
  have hi' : i < j := by rw [List.length_take] at hi; omega
  rw [List.getElem_take]
  exact List.pairwise_iff_getElem.1 h i j (by omega) hjl hi'
theorem okLs_spec : ∀ (L : List ByteArray) (prev : Option ByteArray), okLs prev L = true → (∀ s ∈ L, nameOk s = true) ∧ (∀ p, prev = some p → ∀ s ∈ L, ltS p s = true) ∧ L.Pairwise (fun a b => ltS a b = true)
  | [], prev, _ => ⟨by simp, by simp, List.Pairwise.nil⟩
  | s :: ss, none, h => by
    rw [okLs] at h
    simp only [Bool.and_eq_true] at h
    obtain ⟨k1, k2, k3⟩ := okLs_spec ss _ h.2
    refine ⟨fun q hq => ?_, by simp, List.Pairwise.cons (fun q hq => k2 s rfl q hq) k3⟩
    rcases List.mem_cons.1 hq with rfl | hq
    · exact h.1
    · exact k1 q hq
  | s :: ss, some p, h => by
    rw [okLs] at h
    simp only [Bool.and_eq_true, Bool.not_eq_true'] at h
    obtain ⟨k1, k2, k3⟩ := okLs_spec ss _ h.2
    have hps := lt_of_not_le h.1.2
    refine ⟨fun q hq => ?_, fun p' hp' q hq => ?_, List.Pairwise.cons (fun q hq => k2 s rfl q hq) k3⟩
    · rcases List.mem_cons.1 hq with rfl | hq
      · exact h.1.1
      · exact k1 q hq
    · cases hp'
      rcases List.mem_cons.1 hq with rfl | hq
      · exact hps
      · exact ltS_trans hps (k2 s rfl q hq)
theorem okPs_spec : ∀ (L : List (ByteArray × ByteArray)) (prev : Option ByteArray), okPs prev L = true → (∀ s ∈ L, nameOk s.1 = true ∧ nameOk s.2 = true) ∧ (∀ p, prev = some p → ∀ s ∈ L, ltS p s.1 = true) ∧ L.Pairwise (fun a b => ltS a.1 b.1 = true)
  | [], prev, _ => ⟨by simp, by simp, List.Pairwise.nil⟩
  | s :: ss, none, h => by
    rw [okPs] at h
    simp only [Bool.and_eq_true] at h
    obtain ⟨k1, k2, k3⟩ := okPs_spec ss _ h.2
    refine ⟨fun q hq => ?_, by simp, List.Pairwise.cons (fun q hq => k2 s.1 rfl q hq) k3⟩
    rcases List.mem_cons.1 hq with rfl | hq
    · exact h.1
    · exact k1 q hq
  | s :: ss, some p, h => by
    rw [okPs] at h
    simp only [Bool.and_eq_true, Bool.not_eq_true'] at h
    obtain ⟨k1, k2, k3⟩ := okPs_spec ss _ h.2
    have hps := lt_of_not_le h.1.2
    refine ⟨fun q hq => ?_, fun p' hp' q hq => ?_, List.Pairwise.cons (fun q hq => k2 s.1 rfl q hq) k3⟩
    · rcases List.mem_cons.1 hq with rfl | hq
      · exact h.1.1
      · exact k1 q hq
    · cases hp'
      rcases List.mem_cons.1 hq with rfl | hq
      · exact hps
      · exact ltS_trans hps (k2 s.1 rfl q hq)
theorem okNs_spec : ∀ (L : List Nd) (prev : Option Int), okNs prev L = true → (∀ s ∈ L, soundNd s = true) ∧ (∀ p, prev = some p → ∀ s ∈ L, p < s.id) ∧ L.Pairwise (fun a b => a.id < b.id)
  | [], prev, _ => ⟨by simp, by simp, List.Pairwise.nil⟩
  | s :: ss, none, h => by
    rw [okNs] at h
    simp only [Bool.and_eq_true] at h
    obtain ⟨k1, k2, k3⟩ := okNs_spec ss _ h.2
    refine ⟨fun q hq => ?_, by simp, List.Pairwise.cons (fun q hq => k2 s.id rfl q hq) k3⟩
    rcases List.mem_cons.1 hq with rfl | hq
    · exact h.1
    · exact k1 q hq
  | s :: ss, some p, h => by
    rw [okNs] at h
    simp only [Bool.and_eq_true, Bool.not_eq_true', decide_eq_false_iff_not] at h
    obtain ⟨k1, k2, k3⟩ := okNs_spec ss _ h.2
    have hps : p < s.id := by omega
    refine ⟨fun q hq => ?_, fun p' hp' q hq => ?_, List.Pairwise.cons (fun q hq => k2 s.id rfl q hq) k3⟩
    · rcases List.mem_cons.1 hq with rfl | hq
      · exact h.1.1
      · exact k1 q hq
    · cases hp'
      rcases List.mem_cons.1 hq with rfl | hq
      · exact hps
      · have := k2 s.id rfl q hq; omega
theorem okEs_spec (ns : List Nd) (nx : Int) : ∀ (L : List Eg) (prev : Option Int), okEs ns nx prev L = true → (∀ s ∈ L, okEg ns nx s = true ∧ okEg2 ns s = true) ∧ (∀ p, prev = some p → ∀ s ∈ L, p < s.tok) ∧ L.Pairwise (fun a b => a.tok < b.tok)
  | [], prev, _ => ⟨by simp, by simp, List.Pairwise.nil⟩
  | s :: ss, none, h => by
    rw [okEs] at h
    simp only [Bool.and_eq_true] at h
    obtain ⟨k1, k2, k3⟩ := okEs_spec ns nx ss _ h.2
    refine ⟨fun q hq => ?_, by simp, List.Pairwise.cons (fun q hq => k2 s.tok rfl q hq) k3⟩
    rcases List.mem_cons.1 hq with rfl | hq
    · exact h.1
    · exact k1 q hq
  | s :: ss, some p, h => by
    rw [okEs] at h
    simp only [Bool.and_eq_true, Bool.not_eq_true', decide_eq_false_iff_not] at h
    obtain ⟨k1, k2, k3⟩ := okEs_spec ns nx ss _ h.2
    have hps : p < s.tok := by omega
    refine ⟨fun q hq => ?_, fun p' hp' q hq => ?_, List.Pairwise.cons (fun q hq => k2 s.tok rfl q hq) k3⟩
    · rcases List.mem_cons.1 hq with rfl | hq
      · exact ⟨h.1.1.1, h.1.2⟩
      · exact k1 q hq
    · cases hp'
      rcases List.mem_cons.1 hq with rfl | hq
      · exact hps
      · have := k2 s.tok rfl q hq; omega
theorem placeN_ge : ∀ (ns : List Nd) (id : Int) (i : Nat), 0 ≤ placeN ns id i → ∃ (j : Nat) (t : Nd), ns[j]? = some t ∧ t.id = id ∧ placeN ns id i = i + j
  | [], id, i, h => by rw [placeN] at h; omega
  | t :: ts, id, i, h => by
    rw [placeN] at h ⊢
    by_cases e : t.id = id
    · rw [if_pos e]; exact ⟨0, t, rfl, e, by omega⟩
    · rw [if_neg e] at h ⊢
      obtain ⟨j, s, h1, h2, h3⟩ := placeN_ge ts id (i + 1) h
      exact ⟨j + 1, s, by simpa using h1, h2, by rw [h3]; omega⟩
theorem inN_spec {ns : List Nd} {id : Int} (h : inN ns id = true) : ∃ (j : Nat) (t : Nd), ns[j]? = some t ∧ t.id = id := by
  unfold inN at h
  simp only [Bool.not_eq_true', decide_eq_false_iff_not] at h
  obtain ⟨j, t, h1, h2, _⟩ := placeN_ge ns id 0 (by omega)
  exact ⟨j, t, h1, h2⟩
/-- What a graph that may be is. -/
structure MayG (g : Gr) : Prop where
  nlen : g.nodes.length ≤ 12
  elen : g.edges.length ≤ 60
  next : 1 ≤ g.next ∧ g.next ≤ 1099511627777
  id : ∀ t ∈ g.nodes, 1 ≤ t.id ∧ t.id ≤ 1000
  rise : g.nodes.Pairwise (fun a b => a.id < b.id)
  labels : ∀ t ∈ g.nodes, t.labels.length ≤ 8 ∧ (∀ s ∈ t.labels, nameOk s = true) ∧ t.labels.Pairwise (fun a b => ltS a b = true)
  props : ∀ t ∈ g.nodes, t.props.length ≤ 8 ∧ (∀ s ∈ t.props, nameOk s.1 = true ∧ nameOk s.2 = true) ∧ t.props.Pairwise (fun a b => ltS a.1 b.1 = true)
  tok : ∀ e ∈ g.edges, 1 ≤ e.tok ∧ e.tok < g.next ∧ nameOk e.lab = true ∧ (∃ (j : Nat) (t : Nd), g.nodes[j]? = some t ∧ t.id = e.fr) ∧ ∃ (j : Nat) (t : Nd), g.nodes[j]? = some t ∧ t.id = e.to
  order : g.edges.Pairwise (fun a b => a.tok < b.tok)
theorem mayG_spec {g : Gr} (h : mayG g = true) : MayG g := by
  unfold mayG at h
  simp only [Bool.and_eq_true, decide_eq_true_eq] at h
  obtain ⟨⟨⟨⟨⟨h1, h2⟩, h3⟩, h4⟩, h5⟩, h6⟩ := h
  obtain ⟨n1, -, n3⟩ := okNs_spec _ _ h5
  obtain ⟨e1, -, e3⟩ := okEs_spec _ _ _ _ h6
  have hs : ∀ t ∈ g.nodes, ((((1 ≤ t.id ∧ t.id ≤ 1000) ∧ t.labels.length ≤ 8) ∧ t.props.length ≤ 8) ∧ okLs none t.labels = true) ∧ okPs none t.props = true := by
    intro t ht
    have := n1 t ht
    unfold soundNd at this
    simpa only [Bool.and_eq_true, decide_eq_true_eq] using this
  refine ⟨h1, h2, ⟨h3, h4⟩, fun t ht => (hs t ht).1.1.1.1, n3, fun t ht => ?_, fun t ht => ?_, fun e he => ?_, e3⟩
  · obtain ⟨k1, -, k3⟩ := okLs_spec _ _ (hs t ht).1.2
    exact ⟨(hs t ht).1.1.1.2, k1, k3⟩
  · obtain ⟨k1, -, k3⟩ := okPs_spec _ _ (hs t ht).2
    exact ⟨(hs t ht).1.1.2, k1, k3⟩
  · obtain ⟨k1, k2⟩ := e1 e he
    unfold okEg at k1
    unfold okEg2 at k2
    simp only [Bool.and_eq_true, Bool.not_eq_true', decide_eq_false_iff_not] at k1 k2
    exact ⟨by omega, by omega, k2.1.1, inN_spec k2.1.2, inN_spec k2.2⟩
theorem rise_of {ns : List Nd} (h : ns.Pairwise (fun a b => a.id < b.id)) : Rise ns := fun i j s t hi hj hij => by
  obtain ⟨hi', rfl⟩ := List.getElem?_eq_some_iff.1 hi
  obtain ⟨hj', rfl⟩ := List.getElem?_eq_some_iff.1 hj
  exact List.pairwise_iff_getElem.1 h i j hi' hj' hij
theorem rise_take {ns : List Nd} (h : ns.Pairwise (fun a b => a.id < b.id)) {i : Nat} {t : Nd} (hi : ns[i]? = some t) (L : List ByteArray) (P : List (ByteArray × ByteArray)) : Rise (ns.take i ++ [⟨t.id, L, P⟩]) := by
  refine rise_of ?_
  rw [List.pairwise_append]
  refine ⟨h.sublist (List.take_sublist _ _), List.pairwise_singleton _ _, fun a ha b hb => ?_⟩
  rw [List.mem_singleton.1 hb]
  exact ahead_of h hi a ha
theorem take_succ' {α : Type} {l : List α} {i : Nat} {t : α} (h : l[i]? = some t) : l.take (i + 1) = l.take i ++ [t] := by
  rw [List.take_add_one, h]; rfl
end Go.Proofs.YtkhllknahjmciaaGreat
