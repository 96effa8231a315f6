/-
  Plain paths (chapter 9): in memory of their own, whole. Plain paths (chapter 9): so many times.
-/
import Derived.Test.YtkhllknahjmciaaGreatM05
/-! Plain paths (chapter 9): in memory of their own, whole. -/
namespace Go.Proofs.YtkhllknahjmciaaGreat
open Go.RowKit
set_option linter.unusedVariables false
set_option linter.unusedSimpArgs false

/-- S and a slice's array. -/
def SV (S : Nat → Prop) (v : Value) (b : Nat) : Prop := S b ∨ v.ownBlock = some b
theorem TrCs.drop_at {w : World} {ts : List Tr} {css : List (List Value)} (h : TrCs w ts css) {i : Nat} {t : Tr} (hi : ts[i]? = some t) : ∃ c, css[i]? = some c ∧ TrC w t c ∧ css.drop i = c :: css.drop (i + 1) := by
  obtain ⟨c, h1, h2⟩ := h.get.2 i t hi
  obtain ⟨hl, rfl⟩ := List.getElem?_eq_some_iff.1 h1
  exact ⟨_, h1, h2, List.drop_eq_getElem_cons hl⟩
theorem TrC.oneCell {w : World} {t : Tr} {c : List Value} (h : TrC w t c) : ∀ u ∈ c, u.oneCell' = true := by
  obtain ⟨k, l, a, n, cap, mn, mx, rfl⟩ := h.form
  simp [Value.oneCell']
theorem TrCs.oneCell {w : World} : ∀ {ts : List Tr} {css : List (List Value)}, TrCs w ts css → ∀ u ∈ css.flatten, u.oneCell' = true
  | [], css, h => by obtain rfl := TrCs_nil.1 h; simp
  | t :: ts, css, h => by
    obtain ⟨c, cs, rfl, h1, h2⟩ := TrCs_cons.1 h
    intro u hu
    rw [List.flatten_cons, List.mem_append] at hu
    rcases hu with hu | hu
    · exact h1.oneCell u hu
    · exact h2.oneCell u hu
theorem TrCs.length {w : World} : ∀ {ts : List Tr} {css : List (List Value)}, TrCs w ts css → css.length = ts.length
  | [], css, h => by obtain rfl := TrCs_nil.1 h; rfl
  | t :: ts, css, h => by
    obtain ⟨c, cs, rfl, h1, h2⟩ := TrCs_cons.1 h
    rw [List.length_cons, List.length_cons, h2.length]
section
variable {w : World} {p ty o : Nat} {cs : Array Value}
/-- Five cells of a block, stored into one behind the other. -/
theorem blkN_facts (h : Blk w p cs ty) (ho : o + 4 < cs.size) (c0 c1 c2 c3 c4 : Value) :
    (∃ v, w.cell? ⟨p, o, none⟩ = some v) ∧ w.frozen? ⟨p, o, none⟩ = false ∧
    (∃ v, w.cell? ⟨p, o + 1, none⟩ = some v) ∧ w.frozen? ⟨p, o + 1, none⟩ = false ∧
    (∃ v, w.cell? ⟨p, o + 2, none⟩ = some v) ∧ w.frozen? ⟨p, o + 2, none⟩ = false ∧
    (∃ v, w.cell? ⟨p, o + 3, none⟩ = some v) ∧ w.frozen? ⟨p, o + 3, none⟩ = false ∧
    (∃ v, w.cell? ⟨p, o + 4, none⟩ = some v) ∧ w.frozen? ⟨p, o + 4, none⟩ = false ∧
    (∃ v, (w.setCell ⟨p, o, none⟩ c0).cell? ⟨p, o + 1, none⟩ = some v) ∧ (w.setCell ⟨p, o, none⟩ c0).frozen? ⟨p, o + 1, none⟩ = false ∧
    (∃ v, ((w.setCell ⟨p, o, none⟩ c0).setCell ⟨p, o + 1, none⟩ c1).cell? ⟨p, o + 2, none⟩ = some v) ∧ ((w.setCell ⟨p, o, none⟩ c0).setCell ⟨p, o + 1, none⟩ c1).frozen? ⟨p, o + 2, none⟩ = false ∧
    (∃ v, (((w.setCell ⟨p, o, none⟩ c0).setCell ⟨p, o + 1, none⟩ c1).setCell ⟨p, o + 2, none⟩ c2).cell? ⟨p, o + 3, none⟩ = some v) ∧ (((w.setCell ⟨p, o, none⟩ c0).setCell ⟨p, o + 1, none⟩ c1).setCell ⟨p, o + 2, none⟩ c2).frozen? ⟨p, o + 3, none⟩ = false ∧
    (∃ v, ((((w.setCell ⟨p, o, none⟩ c0).setCell ⟨p, o + 1, none⟩ c1).setCell ⟨p, o + 2, none⟩ c2).setCell ⟨p, o + 3, none⟩ c3).cell? ⟨p, o + 4, none⟩ = some v) ∧ ((((w.setCell ⟨p, o, none⟩ c0).setCell ⟨p, o + 1, none⟩ c1).setCell ⟨p, o + 2, none⟩ c2).setCell ⟨p, o + 3, none⟩ c3).frozen? ⟨p, o + 4, none⟩ = false := by
  have h1 := h.set o c0
  have h2 := h1.set (o + 1) c1
  have h3 := h2.set (o + 2) c2
  have h4 := h3.set (o + 3) c3
  have g : ∀ {w : World} {cs : Array Value}, Blk w p cs ty → ∀ j, (hj : j < cs.size) → w.cell? ⟨p, j, none⟩ = some cs[j] := fun h j hj => h.cell j _ (Array.getElem?_eq_getElem hj)
  refine ⟨⟨_, g h _ (by omega)⟩, h.frozen _, ⟨_, g h _ (by omega)⟩, h.frozen _, ⟨_, g h _ (by omega)⟩, h.frozen _, ⟨_, g h _ (by omega)⟩, h.frozen _, ⟨_, g h _ (by omega)⟩, h.frozen _, ⟨_, g h1 _ (by rw [Array.size_setIfInBounds]; omega)⟩, h1.frozen _, ⟨_, g h2 _ (by simp only [Array.size_setIfInBounds]; omega)⟩, h2.frozen _, ⟨_, g h3 _ (by simp only [Array.size_setIfInBounds]; omega)⟩, h3.frozen _, ⟨_, g h4 _ (by simp only [Array.size_setIfInBounds]; omega)⟩, h4.frozen _⟩
theorem put5at {c0 c1 c2 c3 c4 : Value} : Chg (fun b => b = p) w (((((w.setCell ⟨p, o, none⟩ c0).setCell ⟨p, o + 1, none⟩ c1).setCell ⟨p, o + 2, none⟩ c2).setCell ⟨p, o + 3, none⟩ c3).setCell ⟨p, o + 4, none⟩ c4) :=
  set_chg (set_chg (set_chg (set_chg (set_chg (Chg.refl _)))))
end
theorem own_blk {w : World} {base : Nat} {e : TypeId} {size g n cap : Nat} {xs : List Value} (h : w.ownsRow base e size (.slice (some ⟨g, 0, none⟩) n cap) n xs) : base ≤ g ∧ ∃ cur : Array Value, Blk w g cur e ∧ n * size ≤ cur.size := by
  rcases h.2 with ⟨hv, _⟩ | ⟨g', cap', cur, hv, h1, h2, h3, h4, h5, h6⟩
  · cases hv
  · cases hv
    exact ⟨h1, cur, h2, by rw [h5]; exact Nat.mul_le_mul_right _ h3⟩
theorem own_tree {S : Nat → Prop} {w w' : World} {kids : List Tr} {es : List (List Value)} {k mn mx : Int} {l : ByteArray} {a : Option Addr} {m cap p q B : Nat} (hm : kids.length = m)
    (ht : Trees (SV (SP (SP S p) q) (.slice a m cap)) w kids es) (ho : w.ownsRow B 28 5 (.slice a m cap) m es.flatten) (hx : Chg (SP (SP S p) q) w w') (hS : ∀ b, S b → b < B) (hp : p < B) (hq : q < B) :
    Tree S w' (.node k l kids mn mx) [.int .i64 k, .string l, .slice a m cap, .int .i64 mn, .int .i64 mx] := by
  subst hm
  intro w2 h2
  have hx2 : Chg (SP (SP S p) q) w w2 := hx.trans (h2.mono fun _ _ h => .inl (.inl h))
  refine TrC_node.2 ⟨_, _, es, rfl, Cells.of_own (own_chg ho hx2 fun g hg => ?_), ht w2 (hx2.mono fun _ _ h => .inl h)⟩
  have := (ho.lt g hg).1
  rintro ((h | h) | h)
  · have := hS g h; omega
  · omega
  · omega
/-- No node of a path has too many kids. -/
inductive Slim : Tr → Prop
  | node {k : Int} {l : ByteArray} {kids : List Tr} {mn mx : Int} (h : kids.length ≤ 1000) (hk : ∀ u ∈ kids, Slim u) : Slim (.node k l kids mn mx)
set_option maxRecDepth 100000 in
set_option maxHeartbeats 1000000 in
theorem own_any (t : Tr) (S : Nat → Prop) (w : World) (cs : List Value) (hs : Slim t) (hS : ∀ b, S b → b < w.heap.size) (h : TrC w t cs) :
    Calls Tryz.prog 189 #[.agg cs.toArray] w (Makes S w t) := by
  induction t using Tr.ind generalizing w cs S with
  | node k l kids mn mx ih =>
    obtain ⟨hlen, hsk⟩ : kids.length ≤ 1000 ∧ ∀ u ∈ kids, Slim u := by cases hs with | node h hk => exact ⟨h, hk⟩
    obtain ⟨a, cap, css, rfl, hc, ht⟩ := TrC_node.1 h
    have hb := Blk.new w #[.int .i64 k, .string l, .slice a kids.length cap, .int .i64 mn, .int .i64 mx] 28
    have hw1 : Ext w (w.alloc (.cells #[.int .i64 k, .string l, .slice a kids.length cap, .int .i64 mn, .int .i64 mx] 28)) := (Chg.refl w).alloc _
    have hcap := hc.1
    have hmax := hc.2.1
    unfold maxLen at hmax
    have HI := Lib.hid (fun u hu S w cs => ih u hu S w cs (hsk u hu))
    have hcl := ht.length
    have HCL := Lib.hid (fun W (hx : Ext w W) => pclone_any css W a kids.length cap hcl ht.get.1 (hc.ext hx) ht.oneCell hlen)
    clear ih hsk hs h
    have HK := Lib.hid (And.intro hc (And.intro ht (And.intro hcl hS)))
    have HB := Lib.hid (And.intro hb hw1)
    clear hc ht hb hw1 hcl hS
    obtain ⟨m, hm⟩ : ∃ m, kids.length = m := ⟨_, rfl⟩
    rw [hm] at HB HCL hcap hlen ⊢
    have HM := Lib.hid hm
    clear hm
    go_enter Tryz.func189, Tryz.ntmps189
    go_wp2_with fail
    refine (HCL.out _ (HB.out.2.alloc _)).mono ?_
    rintro e w2 ⟨v, rfl, hown, hx2⟩
    obtain ⟨a', cap', rfl⟩ := own_slice hown
    have kb1 := HB.out.1.chg (((Chg.refl _).alloc _).trans hx2) (fun h => h)
    have kb2 := (Blk.new (w.alloc (.cells #[.int .i64 k, .string l, .slice a m cap, .int .i64 mn, .int .i64 mx] 28)) #[.int .i64 0, .string ⟨#[]⟩, .slice none 0 0, .int .i64 0, .int .i64 0] 28).chg hx2 (fun h => h)
    simp only [World.size_alloc] at kb2
    have hxx := (HB.out.2.alloc _).trans hx2
    have HW := Lib.hid (And.intro hown (And.intro hx2 (And.intro hxx (And.intro kb1 kb2))))
    have hm' := (Cells.of_own hown).1
    have hmax' := (Cells.of_own hown).2.1
    unfold maxLen at hmax'
    clear hown hx2 hxx kb1 kb2
    go_wp2_with fail
    go_loopg [11] m (fun gk l11 wr => ∃ (i : Nat) (es : List (List Value)), i ≤ m ∧ Ext w wr ∧ Blk wr w.heap.size #[.int .i64 k, .string l, .slice a m cap, .int .i64 mn, .int .i64 mx] 28 ∧ Blk wr (w.heap.size + 1) #[.int .i64 0, .string ⟨#[]⟩, .slice none 0 0, .int .i64 0, .int .i64 0] 28 ∧ es.length = i ∧ Trees (SV (SP (SP S w.heap.size) (w.heap.size + 1)) (.slice a' m cap')) wr (kids.take i) es ∧ wr.ownsRow (w.heap.size + 2) 28 5 (.slice a' m cap') m (es ++ css.drop i).flatten ∧ l11 = .int .i64 i ∧ gk = m - i)
    case atStart => exact ⟨0, [], Nat.zero_le _, HW.out.2.2.1, HW.out.2.2.2.1, HW.out.2.2.2.2, rfl, Trees.nil, ownsRow_base HW.out.1 (by simp), rfl, rfl⟩
    case round =>
      obtain ⟨i, es, hi, hx, kb1, kb2, hes, hts, hown, rfl, rfl⟩ := hrel
      by_cases hin : i < m
      · have hin' : (i : Int) < m := by omega
        obtain ⟨u, hu⟩ : ∃ u, kids[i]? = some u := ⟨_, List.getElem?_eq_getElem (by rw [HM.out]; exact hin)⟩
        obtain ⟨c, hci, htc, hdr⟩ := HK.out.2.1.drop_at hu
        obtain ⟨k6, l6, a6, n6, cap6, mn6, mx6, rfl⟩ := htc.form
        obtain ⟨g, cap2, e, hcell⟩ := own_form hown (by omega)
        cases e
        have h5 : ∀ c ∈ es ++ css.drop i, c.length = 5 := by
          intro c hc
          rcases List.mem_append.1 hc with h | h
          · exact hts.trcs.get.1 c h
          · exact HK.out.2.1.get.1 c (List.mem_of_mem_drop h)
        have hat : (es ++ css.drop i)[i]? = some [.int .i64 k6, .string l6, .slice a6 n6 cap6, .int .i64 mn6, .int .i64 mx6] := by
          rw [List.getElem?_append_right (by omega), hdr, hes, Nat.sub_self]; rfl
        have c0 := hcell _ _ (flat_get 5 _ i 0 _ _ h5 hat rfl)
        have c1 := hcell _ _ (flat_get 5 _ i 1 _ _ h5 hat rfl)
        have c2 := hcell _ _ (flat_get 5 _ i 2 _ _ h5 hat rfl)
        have c3 := hcell _ _ (flat_get 5 _ i 3 _ _ h5 hat rfl)
        have c4 := hcell _ _ (flat_get 5 _ i 4 _ _ h5 hat rfl)
        rw [Addr.add_lit, Nat.zero_add] at c0 c1 c2 c3 c4
        rw [Nat.add_zero] at c0
        have HX := Lib.hid (And.intro hx (And.intro kb1 (And.intro kb2 (And.intro hes (And.intro hts (And.intro hown h5))))))
        clear hx kb1 kb2 hts hown h5 hcell hat
        have HC := Lib.hid (HI.out u (List.mem_of_getElem? hu) (SV (SP (SP S w.heap.size) (w.heap.size + 1)) (.slice (some ⟨g, 0, none⟩) m cap')) (wr.alloc (.cells #[.int .i64 k6, .string l6, .slice a6 n6 cap6, .int .i64 mn6, .int .i64 mx6] 28)) _ (by
          rintro b (((h | rfl) | rfl) | h)
          · exact Nat.lt_of_lt_of_le (HK.out.2.2.2 b h) (HX.out.1.alloc _).size
          · have := HX.out.2.1.lt; simp; omega
          · have := HX.out.2.2.1.lt; simp; omega
          · have := (HX.out.2.2.2.2.2.1.lt b h).2; simp; omega) (htc.ext (HX.out.1.alloc _)))
        have hu' := hu
        clear htc hu hci
        go_wp2_with fail
        refine HC.out.mono ?_
        rintro e w3 ⟨cs3, rfl, ht3, hx3⟩
        obtain ⟨k7, l7, a7, n7, cap7, mn7, mx7, rfl⟩ := ht3.form
        have hx4 : Ext wr w3 := ((Chg.refl wr).alloc _).trans hx3
        have hown3 := own_low HX.out.2.2.2.2.2.1 hx4 (fun _ _ h => h)
        obtain ⟨hg, cur, hcur, hsz⟩ := own_blk hown3
        clear c0 c1 c2 c3 c4
        obtain ⟨⟨_, x0⟩, y0, ⟨_, x1⟩, y1, ⟨_, x2⟩, y2, ⟨_, x3⟩, y3, ⟨_, x4⟩, y4, ⟨_, z1⟩, z2, ⟨_, z3⟩, z4, ⟨_, z5⟩, z6, ⟨_, z7⟩, z8⟩ := blkN_facts (o := i * 5) hcur (by omega) (.int .i64 k7) (.string l7) (.slice a7 n7 cap7) (.int .i64 mn7) (.int .i64 mx7)
        have hown4 := own_set (own_set (own_set (own_set (own_set hown3 (i * 5) (.int .i64 k7)) (i * 5 + 1) (.string l7)) (i * 5 + 2) (.slice a7 n7 cap7)) (i * 5 + 3) (.int .i64 mn7)) (i * 5 + 4) (.int .i64 mx7)
        rw [flat_set _ _ _ _ _ _ i HX.out.2.2.2.2.2.2 (by rw [List.length_append, hdr, List.length_cons]; omega)] at hown4
        have hes2 : (es ++ css.drop i).set i [.int .i64 k7, .string l7, .slice a7 n7 cap7, .int .i64 mn7, .int .i64 mx7] = (es ++ [[.int .i64 k7, .string l7, .slice a7 n7 cap7, .int .i64 mn7, .int .i64 mx7]]) ++ css.drop (i + 1) := by
          rw [List.set_append_right _ _ (by omega), hes, Nat.sub_self, hdr, List.set_cons_zero, List.append_assoc]; rfl
        rw [hes2] at hown4
        have HO := Lib.hid (And.intro hown4 (And.intro hx4 (And.intro ht3 (And.intro hg hu'))))
        clear hown3 hown4 hx3 hx4 ht3 hes2 hdr hcur hsz hu' hg
        go_wp2_with fail
        go_roundg (m - (i + 1))
        case measure => omega
        case rel =>
          obtain ⟨o1, o2, o3, o4, o5⟩ := HO.out
          refine ⟨i + 1, es ++ [[.int .i64 k7, .string l7, .slice a7 n7 cap7, .int .i64 mn7, .int .i64 mx7]], by omega, Ext.put (HX.out.1.trans o2) put5at (by omega), (HX.out.2.1.chg o2 (fun h => h)).chg put5at (by omega), (HX.out.2.2.1.chg o2 (fun h => h)).chg put5at (by omega), by simp [hes], ?_, o1, rfl, rfl⟩
          have hk : ∀ c0 c1 c2 c3 c4, Chg (SV (SP (SP S w.heap.size) (w.heap.size + 1)) (.slice (some ⟨g, 0, none⟩) m cap')) w3 (((((w3.setCell ⟨g, i * 5, none⟩ c0).setCell ⟨g, i * 5 + 1, none⟩ c1).setCell ⟨g, i * 5 + 2, none⟩ c2).setCell ⟨g, i * 5 + 3, none⟩ c3).setCell ⟨g, i * 5 + 4, none⟩ c4) := fun _ _ _ _ _ => Chg.mono put5at (fun b _ hb => Or.inr (by subst hb; rfl))
          rw [List.take_add_one, o5]
          exact Trees.append ((HX.out.2.2.2.2.1.ext o2).chg (hk _ _ _ _ _)) (Trees.cons (o3.chg (hk _ _ _ _ _)) Trees.nil)
      · obtain rfl : i = m := by omega
        have kb3 : Blk (wr.setCell ⟨w.heap.size, 2, none⟩ (.slice a' i cap')) w.heap.size #[.int .i64 k, .string l, .slice a' i cap', .int .i64 mn, .int .i64 mx] 28 := kb1.set 2 _
        have kb4 := kb2.chg (set_chg (p := w.heap.size) (j := 2) (c := .slice a' i cap') (Chg.refl _)) (by omega)
        obtain ⟨-, -, -, -, a2, b2, -, -, -, -⟩ := blk5_base kb1
        obtain ⟨d0, -, d1, -, d2, -, d3, -, d4, -⟩ := blk5_base kb3
        obtain ⟨g0, f0, g1, f1, g2, f2, g3, f3, g4, f4⟩ := blk5_base kb4
        obtain ⟨y3, z3, y4, z4, q0, q1, q2, q3, q4⟩ := blk5_facts kb4 (.int .i64 k) (.string l) (.slice a' i cap') (.int .i64 mn) (.int .i64 mx)
        have HS5 := Lib.hid (blk5_step kb4 (.int .i64 k) (.string l) (.slice a' i cap') (.int .i64 mn) (.int .i64 mx)).2.2.2.2.2
        have htk : kids.take i = kids := by rw [← HM.out, List.take_length]
        rw [htk] at hts
        have hd : css.drop i = [] := by rw [← HM.out, ← HK.out.2.2.1]; exact drop_end css
        rw [hd, List.append_nil] at hown
        have HX := Lib.hid (And.intro hx (And.intro hts hown))
        clear hx hts hown kb1 kb2 kb3 kb4 hd
        go_wp2_with fail
        try simp only [Exit.inBlock, Exit.then]
        refine bodyPost_ret (results_cell_row rfl _ _ (w.heap.size + 1) 28 #[.int .i64 k, .string l, .slice a' i cap', .int .i64 mn, .int .i64 mx] (0, 0) _ rfl HS5.out Tryz.underlying28 rfl (by kernel_rfl)) rfl ?_
        have p1 : Chg (fun b => b = w.heap.size) wr (wr.setCell ⟨w.heap.size, 2, none⟩ (.slice a' i cap')) := set_chg (Chg.refl _)
        refine ⟨_, rfl, own_tree HM.out HX.out.2.1 HX.out.2.2 (Chg.trans (p1.mono fun _ _ h => .inl (.inr h)) (Chg.mono put5 fun _ _ h => .inr h)) (fun b h => by have := HK.out.2.2.2 b h; omega) (by omega) (by omega), Ext.put (Ext.put HX.out.1 p1 (Nat.le_refl _)) put5 (by omega)⟩
end Go.Proofs.YtkhllknahjmciaaGreat

/-! Plain paths (chapter 9): so many times. -/
namespace Go.Proofs.YtkhllknahjmciaaGreat
open Go.RowKit
set_option linter.unusedVariables false
set_option linter.unusedSimpArgs false

/-- From none to so many and one more. -/
def tailT (k : Tr) : Nat → Tr
  | 0 => mkMaybe k
  | n + 1 => mkMaybe (mkTwo 4 k (tailT k n))
def mkRep (k : Tr) (least : Nat) (most : Int) : Tr :=
  mkRow 4 (List.replicate least k ++ (if most = -1 then [mkStar k] else if (least : Int) < most then [tailT k (most - least - 1).toNat] else []))
theorem Trees.replicate {S : Nat → Prop} {w : World} {t : Tr} {c : List Value} (h : Tree S w t c) : ∀ n, Trees S w (List.replicate n t) (List.replicate n c)
  | 0 => Trees.nil
  | n + 1 => Trees.cons h (Trees.replicate h n)
theorem SV.bound {S : Nat → Prop} {w w' : World} {B n : Nat} {v : Value} {e : TypeId} {z : Nat} {xs : List Value} (hS : ∀ b, S b → b < w.heap.size) (h : w'.ownsRow B e z v n xs) (hx : Ext w w') : ∀ b, SV S v b → b < w'.heap.size := by
  rintro b (k | k)
  · exact Nat.lt_of_lt_of_le (hS b k) hx.size
  · exact (h.lt b k).2
theorem Tree.sv {S : Nat → Prop} {w w' : World} {t : Tr} {cs : List Value} {B n : Nat} {v : Value} {e : TypeId} {z : Nat} {xs : List Value} (h : Tree S w t cs) (hB : w.heap.size ≤ B) (ho : w'.ownsRow B e z v n xs) (hx : Ext w w') : Tree (SV S v) w' t cs :=
  (h.mono fun b hb hs => hs.resolve_right (fun h => by have := (ho.lt b h).1; omega)).ext hx
section
variable {w wr w' : World} {B n : Nat} {v : Value} {e : TypeId} {z : Nat} {xs : List Value} {o : Obj}
theorem grow_chg (g : (wr.alloc o).grownBy w' v.ownBlock) : Chg (fun b => v.ownBlock = some b) wr w' :=
  ((Chg.refl _).alloc o).trans ((Chg.of_grown g).mono fun b _ h => h.symm)
theorem Ext.own (h : Ext w wr) (ho : wr.ownsRow B e z v n xs) (hB : w.heap.size ≤ B) (k : Chg (fun b => v.ownBlock = some b) wr w') : Ext w w' := by
  have h' : Chg (fun b => v.ownBlock = some b) w wr := h.mono fun _ _ h => h.elim
  exact (h'.trans k).mono fun b hb h => by have := (ho.lt b h).1; omega
theorem Blk.own {p ty : Nat} {cs : Array Value} (h : Blk wr p cs ty) (ho : wr.ownsRow B e z v n xs) (hB : p < B) (k : Chg (fun b => v.ownBlock = some b) wr w') : Blk w' p cs ty :=
  h.chg k fun h => by have := (ho.lt p h).1; omega
theorem Tree.grow {S : Nat → Prop} {t : Tr} {cs : List Value} (h : Tree (SV S v) wr t cs) (k : Chg (fun b => v.ownBlock = some b) wr w') : Tree S w' t cs :=
  (h.chg (k.mono fun _ _ h => .inr h)).mono fun _ _ h => .inl h
end
theorem row_own (S : Nat → Prop) (k : Int) (ts : List Tr) (w : World) (v : Value) (B n : Nat) (ds : List (List Value)) (hn : ts.length = n) (hS : ∀ b, S b → b < w.heap.size) (ho : w.ownsRow B 28 5 v n ds.flatten) (ht : Trees S w ts ds) :
    Calls Tryz.prog 235 #[.int .i64 k, v] w (Makes S w (mkRow k ts)) := by
  obtain ⟨a, cap, rfl⟩ := own_slice ho
  exact row_any S k ts w a n cap ds hn hS (Cells.of_own ho) ht
set_option maxRecDepth 100000 in
set_option maxHeartbeats 1000000 in
theorem rep_any (S : Nat → Prop) (t : Tr) (least : Nat) (most : Int) (w : World) (cs : List Value) (hl : least ≤ 8) (hm : most = -1 ∨ ((least : Int) ≤ most ∧ most ≤ 8)) (hS : ∀ b, S b → b < w.heap.size) (ht : Tree S w t cs) :
    Calls Tryz.prog 239 #[.agg cs.toArray, .int .i64 least, .int .i64 most] w (Makes S w (mkRep t least most)) := by
  obtain ⟨k1, l1, a1, n1, cap1, mn1, mx1, rfl⟩ := ht.form
  obtain ⟨i0, hi0, hii⟩ := Option.map_eq_some_iff.1 info_path
  obtain ⟨hz0, hz1, hz2⟩ : i0.zero = some (.agg #[.int .i64 0, .string ⟨#[]⟩, .slice none 0 0, .int .i64 0, .int .i64 0]) ∧ i0.size = 5 ∧ i0.bytes = 64 := by
    have := hii; simp at this; exact this
  have HI := Lib.hid (And.intro hi0 (And.intro hz0 (And.intro hz1 hz2)))
  clear hi0 hii hz0 hz1 hz2
  have HK := Lib.hid (And.intro hS ht)
  obtain ⟨T, hT⟩ : ∃ T, mkRep t least most = T := ⟨_, rfl⟩
  have HT := Lib.hid hT
  rw [hT]
  clear hS ht hT
  go_enter Tryz.func239, Tryz.ntmps239
  go_wp2_with fail
  go_loopg [7, 10] least (fun gk l7 l10 wr => ∃ (i : Nat), i ≤ least ∧ Ext w wr ∧ Blk wr w.heap.size #[.int .i64 k1, .string l1, .slice a1 n1 cap1, .int .i64 mn1, .int .i64 mx1] 28 ∧ Blk wr (w.heap.size + 1) #[.int .i64 0, .string ⟨#[]⟩, .slice none 0 0, .int .i64 0, .int .i64 0] 28 ∧ wr.ownsRow (w.heap.size + 2) 28 5 l7 i (List.replicate i [.int .i64 k1, .string l1, .slice a1 n1 cap1, .int .i64 mn1, .int .i64 mx1]).flatten ∧ l10 = .int .i64 i ∧ gk = least - i)
  case atStart =>
    have b5 := Blk.new (w.alloc (.cells #[.int .i64 k1, .string l1, .slice a1 n1 cap1, .int .i64 mn1, .int .i64 mx1] 28)) #[.int .i64 0, .string ⟨#[]⟩, .slice none 0 0, .int .i64 0, .int .i64 0] 28
    simp only [World.size_alloc] at b5
    exact ⟨0, Nat.zero_le _, ((Chg.refl w).alloc _).alloc _, (Blk.new w _ _).chg ((Chg.refl (S := fun _ => False) _).alloc _) (fun h => h), b5, World.ownsRow_nil _ _ _ _, rfl, rfl⟩
  case round =>
    obtain ⟨i, hi, hx, kb1, kb2, hown, rfl, rfl⟩ := hrel
    by_cases hin : i < least
    · have hin' : (i : Int) < least := by omega
      obtain ⟨g0, f0, g1, f1, g2, f2, g3, f3, g4, f4⟩ := blk5_base kb1
      have hsz := kb2.lt
      have HX := Lib.hid (And.intro hx (And.intro kb1 (And.intro kb2 hown)))
      clear hx kb1 kb2 hown
      go_wp2_with (at_builtin; refine wpList_append_st _ rfl (.tmp 12) (.tmp 14) 26 rfl (w.heap.size + 2) 28 i0 (.agg #[.int .i64 0, .string ⟨#[]⟩, .slice none 0 0, .int .i64 0, .int .i64 0]) 5 64 Tryz.underlying26 HI.out.1 HI.out.2.1 HI.out.2.2.1 HI.out.2.2.2 rfl (by decide) u7 i _ rfl (own_low HX.out.2.2.2 ((Chg.refl _).alloc _) (fun _ _ h => h)) ⟨wr.heap.size, 0, none⟩ 1 1 [.int .i64 k1, .string l1, .slice a1 n1 cap1, .int .i64 mn1, .int .i64 mx1] rfl rfl (by exact fun j u hj => news wr _ _ j u hj) (by simp [Value.oneCell']) (by unfold maxLen; omega) (by omega) (by simp; omega) ?_; intro v' w' u1 u2 u3; have HF := Lib.hid (And.intro u1 (And.intro u2 u3)); clear u1 u2 u3)
      go_roundg (least - (i + 1))
      case measure => omega
      case rel =>
        obtain ⟨v1, v2, v3⟩ := HF.out
        have hg := grow_chg v2
        refine ⟨i + 1, by omega, Ext.own HX.out.1 HX.out.2.2.2 (by omega) hg, Blk.own HX.out.2.1 HX.out.2.2.2 (by omega) hg, Blk.own HX.out.2.2.1 HX.out.2.2.2 (by omega) hg, ?_, rfl, rfl⟩
        rw [List.replicate_succ', List.flatten_append]
        simpa using v1
    · obtain rfl : i = least := by omega
      obtain ⟨g0, f0, g1, f1, g2, f2, g3, f3, g4, f4⟩ := blk5_base kb1
      have hsz := kb2.lt
      have HX := Lib.hid (And.intro hx (And.intro kb1 (And.intro kb2 hown)))
      have HS1 := Lib.hid (SP.bound HK.out.1 kb2.lt hx)
      clear hx kb1 kb2 hown
      by_cases hm1 : most = -1
      · have e1 : (most == -1) = true := by simpa using hm1
        have HC := Lib.hid (star_any (SV (SP S (w.heap.size + 1)) u7) t wr _ (SV.bound HS1.out HX.out.2.2.2 (Chg.refl _)) (((HK.out.2.sp (p := w.heap.size + 1) (by omega) (Chg.refl _)).sv (by omega) HX.out.2.2.2 HX.out.1)))
        rw [show mkRep t i most = mkRow 4 (List.replicate i t ++ [mkStar t]) by rw [mkRep, if_pos hm1]] at HT
        clear hm hm1
        go_wp2_with fail
        refine HC.out.mono ?_
        rintro e w2 ⟨cs2, rfl, ht2, hx2⟩
        obtain ⟨k3, l3, a3, n3, cap3, mn3, mx3, rfl⟩ := ht2.form
        have hsz2 := hx2.size
        have HY := Lib.hid (And.intro (own_low HX.out.2.2.2 hx2 (fun _ _ h => h)) (And.intro ht2 hx2))
        clear ht2 hx2
        go_wp2_with (at_builtin; refine wpList_append_st _ rfl (.tmp 19) (.tmp 22) 26 rfl (w.heap.size + 2) 28 i0 (.agg #[.int .i64 0, .string ⟨#[]⟩, .slice none 0 0, .int .i64 0, .int .i64 0]) 5 64 Tryz.underlying26 HI.out.1 HI.out.2.1 HI.out.2.2.1 HI.out.2.2.2 rfl (by decide) u7 i _ rfl (own_low HY.out.1 ((Chg.refl _).alloc _) (fun _ _ h => h)) ⟨w2.heap.size, 0, none⟩ 1 1 [.int .i64 k3, .string l3, .slice a3 n3 cap3, .int .i64 mn3, .int .i64 mx3] rfl rfl (by exact fun j u hj => news w2 _ _ j u hj) (by simp [Value.oneCell']) (by unfold maxLen; omega) (by omega) (by simp; omega) ?_; intro v' w' u1 u2 u3; have HF := Lib.hid (And.intro u1 (And.intro u2 u3)); clear u1 u2 u3)
        obtain ⟨r1, r2, r3⟩ := HF.out
        have hg := grow_chg r2
        have hxx := Ext.own (HX.out.1.trans HY.out.2.2) HY.out.1 (by omega) hg
        have kbb := Blk.own (HX.out.2.2.1.chg HY.out.2.2 (fun h => h)) HY.out.1 (by omega) hg
        have HR : Calls Tryz.prog 235 #[.int .i64 4, v'] w' (Makes (SP S (w.heap.size + 1)) w' T) := by
          rw [← HT.out]
          exact row_own _ 4 _ w' v' (w.heap.size + 2) (i + 1) (List.replicate i [.int .i64 k1, .string l1, .slice a1 n1 cap1, .int .i64 mn1, .int .i64 mx1] ++ [[.int .i64 k3, .string l3, .slice a3 n3 cap3, .int .i64 mn3, .int .i64 mx3]]) (by simp) (SP.bound HK.out.1 kbb.lt hxx) (by simpa using r1) (Trees.append (Trees.replicate (HK.out.2.sp (by omega) hxx) i) (Trees.cons (HY.out.2.1.grow hg) Trees.nil))
        have HW := Lib.hid (And.intro hxx kbb)
        clear r1 r2 r3 hg hxx kbb
        refine HR.mono ?_
        clear HR
        rintro e w5 ⟨cs5, rfl, ht5, hx5⟩
        obtain ⟨k7, l7, a7, n7, cap7, mn7, mx7, rfl⟩ := ht5.form
        have kb5 := (HW.out.2).chg hx5 (fun h => h)
        obtain ⟨g0, f0, g1, f1, g2, f2, g3, f3, g4, f4⟩ := blk5_base kb5
        obtain ⟨y3, z3, y4, z4, q0, q1, q2, q3, q4⟩ := blk5_facts kb5 (.int .i64 k7) (.string l7) (.slice a7 n7 cap7) (.int .i64 mn7) (.int .i64 mx7)
        have HS5 := Lib.hid (blk5_step kb5 (.int .i64 k7) (.string l7) (.slice a7 n7 cap7) (.int .i64 mn7) (.int .i64 mx7)).2.2.2.2.2
        have HZ := Lib.hid (And.intro ht5 hx5)
        clear ht5 hx5 kb5
        go_wp2_with fail
        try simp only [Exit.inBlock, Exit.then]
        refine bodyPost_ret (results_cell_row rfl _ _ (w.heap.size + 1) 28 #[.int .i64 k7, .string l7, .slice a7 n7 cap7, .int .i64 mn7, .int .i64 mx7] (0, 0) _ rfl HS5.out Tryz.underlying28 rfl (by kernel_rfl)) rfl ?_
        exact ⟨_, rfl, (HZ.out.1.put put5).off, Ext.put (HW.out.1.trans HZ.out.2) put5 (by omega)⟩
      · have e1 : (most == -1) = false := by simpa using hm1
        have hm2 : (i : Int) ≤ most ∧ most ≤ 8 := by omega
        rw [mkRep, if_neg hm1] at HT
        by_cases hl2 : (i : Int) < most
        · have e2 : decide ((i : Int) < most) = true := by simpa using hl2
          rw [if_pos hl2] at HT
          obtain ⟨c, hc⟩ : ∃ c : Nat, (most - i - 1).toNat = c := ⟨_, rfl⟩
          rw [hc] at HT
          have hc' : most = i + 1 + c := by omega
          have HC := Lib.hid (maybe_any (SV (SP S (w.heap.size + 1)) u7) t wr _ (SV.bound HS1.out HX.out.2.2.2 (Chg.refl _)) (((HK.out.2.sp (p := w.heap.size + 1) (by omega) (Chg.refl _)).sv (by omega) HX.out.2.2.2 HX.out.1)))
          clear hm hm1 hc
          go_wp2_with fail
          refine HC.out.mono ?_
          rintro e w2 ⟨cs2, rfl, ht2, hx2⟩
          obtain ⟨k3, l3, a3, n3, cap3, mn3, mx3, rfl⟩ := ht2.form
          have hsz2 := hx2.size
          have HY := Lib.hid (And.intro (own_low HX.out.2.2.2 hx2 (fun _ _ h => h)) (And.intro ht2 hx2))
          clear ht2 hx2
          have HS2 := Lib.hid (And.intro (SV.bound HS1.out HX.out.2.2.2 (Chg.refl _)) (((HK.out.2.sp (p := w.heap.size + 1) (by omega) (Chg.refl _)).sv (by omega) HX.out.2.2.2 HX.out.1)))
          go_wp2_with fail
          go_loopg [34] c (fun gk l34 wx => ∃ (j : Nat) (cs : List Value), j ≤ c ∧ Ext w2 wx ∧ Blk wx w2.heap.size cs.toArray 28 ∧ Tree (SP (SV (SP S (w.heap.size + 1)) u7) w2.heap.size) wx (tailT t j) cs ∧ l34 = .int .i64 j ∧ gk = c - j)
          case atStart => exact ⟨0, [.int .i64 k3, .string l3, .slice a3 n3 cap3, .int .i64 mn3, .int .i64 mx3], Nat.zero_le _, (Chg.refl w2).alloc _, Blk.new _ _ _, HY.out.2.1.sp (Nat.le_refl _) ((Chg.refl w2).alloc _), rfl, rfl⟩
          case round =>
            clear g0 f0 g1 f1 g2 f2 g3 f3 g4 f4
            obtain ⟨j, cs, hj, hx, kd, htj, rfl, rfl⟩ := hrel
            obtain ⟨k3, l3, a3, n3, cap3, mn3, mx3, rfl⟩ := htj.form
            have kd' : Blk wr w2.heap.size #[.int .i64 k3, .string l3, .slice a3 n3 cap3, .int .i64 mn3, .int .i64 mx3] 28 := kd
            obtain ⟨x0, -, x1, -, x2, -, x3, -, x4, -⟩ := blk5_base kd'
            have kb1 := HX.out.2.1.chg (HY.out.2.2.trans hx) (fun h => h)
            obtain ⟨q0, -, q1, -, q2, -, q3, -, q4, -⟩ := blk5_base kb1
            have hszx := hx.size
            by_cases hjc : j < c
            · have hjc' : (j : Int) < most - i - 1 := by omega
              have hb : ∀ b, SP (SV (SP S (w.heap.size + 1)) u7) w2.heap.size b → b < wr.heap.size := SP.bound HS2.out.1 kd'.lt (HY.out.2.2.trans hx)
              have HC2 := Lib.hid (two_any _ 4 t (tailT t j) wr _ _ hb ((HS2.out.2.ext HY.out.2.2).sp (Nat.le_refl _) hx) htj)
              have HV := Lib.hid (And.intro hx (And.intro kd' hb))
              clear hx kd kd' kb1 htj hb
              go_wp2_with fail
              refine HC2.out.mono ?_
              rintro e w3 ⟨cs3, rfl, ht3, hx3⟩
              obtain ⟨k4, l4, a4, n4, cap4, mn4, mx4, rfl⟩ := ht3.form
              clear q0 q1 q2 q3 q4 x0 x1 x2 x3 x4
              go_wp2_with fail
              refine (maybe_any _ _ w3 _ (fun b hb => Nat.lt_of_lt_of_le (HV.out.2.2 b hb) hx3.size) ht3).mono ?_
              rintro e w4 ⟨cs4, rfl, ht4, hx4⟩
              obtain ⟨k7, l7, a7, n7, cap7, mn7, mx7, rfl⟩ := ht4.form
              have kx := hx3.trans hx4
              have kb := HV.out.2.1.chg kx (fun h => h)
              obtain ⟨g0, f0, g1, f1, g2, f2, g3, f3, g4, f4⟩ := blk5_base kb
              obtain ⟨y3, z3, y4, z4, q0, q1, q2, q3, q4⟩ := blk5_facts kb (.int .i64 k7) (.string l7) (.slice a7 n7 cap7) (.int .i64 mn7) (.int .i64 mx7)
              have HS5 := Lib.hid (blk5_step kb (.int .i64 k7) (.string l7) (.slice a7 n7 cap7) (.int .i64 mn7) (.int .i64 mx7)).2.2.2.2.2
              have HT2 := Lib.hid (And.intro ht4 kx)
              clear ht3 hx3 ht4 hx4 kx kb
              go_wp2_with fail
              go_roundg (c - (j + 1))
              case measure => omega
              case rel => exact ⟨j + 1, _, by omega, Ext.put (HV.out.1.trans HT2.out.2) put5 (Nat.le_refl _), HS5.out, HT2.out.1.put put5, rfl, rfl⟩
            · obtain rfl : j = c := by omega
              have hjc' : ¬ (j : Int) < most - i - 1 := by omega
              have hjc2 : decide ((j : Int) < most - i - 1) = false := by simp; omega
              have HY2 := Lib.hid (And.intro (own_low HY.out.1 hx (fun _ _ h => h)) (And.intro htj.off (HY.out.2.2.trans hx)))
              clear HY hx kd kd' kb1 htj
              have HY := HY2
              clear HY2
              go_wp2_with (at_builtin; refine wpList_append_st _ rfl (.tmp 41) (.tmp 43) 26 rfl (w.heap.size + 2) 28 i0 (.agg #[.int .i64 0, .string ⟨#[]⟩, .slice none 0 0, .int .i64 0, .int .i64 0]) 5 64 Tryz.underlying26 HI.out.1 HI.out.2.1 HI.out.2.2.1 HI.out.2.2.2 rfl (by decide) u7 i _ rfl (own_low HY.out.1 ((Chg.refl _).alloc _) (fun _ _ h => h)) ⟨wr.heap.size, 0, none⟩ 1 1 [.int .i64 k3, .string l3, .slice a3 n3 cap3, .int .i64 mn3, .int .i64 mx3] rfl rfl (by exact fun j u hj => news wr _ _ j u hj) (by simp [Value.oneCell']) (by unfold maxLen; omega) (by omega) (by simp; omega) ?_; intro v' w' u1 u2 u3; have HF := Lib.hid (And.intro u1 (And.intro u2 u3)); clear u1 u2 u3)
              obtain ⟨r1, r2, r3⟩ := HF.out
              have hg := grow_chg r2
              have hxx := Ext.own (HX.out.1.trans HY.out.2.2) HY.out.1 (by omega) hg
              have kbb := Blk.own (HX.out.2.2.1.chg HY.out.2.2 (fun h => h)) HY.out.1 (by omega) hg
              have HR : Calls Tryz.prog 235 #[.int .i64 4, v'] w' (Makes (SP S (w.heap.size + 1)) w' T) := by
                rw [← HT.out]
                exact row_own _ 4 _ w' v' (w.heap.size + 2) (i + 1) (List.replicate i [.int .i64 k1, .string l1, .slice a1 n1 cap1, .int .i64 mn1, .int .i64 mx1] ++ [[.int .i64 k3, .string l3, .slice a3 n3 cap3, .int .i64 mn3, .int .i64 mx3]]) (by simp) (SP.bound HK.out.1 kbb.lt hxx) (by simpa using r1) (Trees.append (Trees.replicate (HK.out.2.sp (by omega) hxx) i) (Trees.cons (HY.out.2.1.grow hg) Trees.nil))
              have HW := Lib.hid (And.intro hxx kbb)
              clear r1 r2 r3 hg hxx kbb
              refine HR.mono ?_
              clear HR
              rintro e w5 ⟨cs5, rfl, ht5, hx5⟩
              obtain ⟨k7, l7, a7, n7, cap7, mn7, mx7, rfl⟩ := ht5.form
              have kb5 := (HW.out.2).chg hx5 (fun h => h)
              obtain ⟨g0, f0, g1, f1, g2, f2, g3, f3, g4, f4⟩ := blk5_base kb5
              obtain ⟨y3, z3, y4, z4, q0, q1, q2, q3, q4⟩ := blk5_facts kb5 (.int .i64 k7) (.string l7) (.slice a7 n7 cap7) (.int .i64 mn7) (.int .i64 mx7)
              have HS5 := Lib.hid (blk5_step kb5 (.int .i64 k7) (.string l7) (.slice a7 n7 cap7) (.int .i64 mn7) (.int .i64 mx7)).2.2.2.2.2
              have HZ := Lib.hid (And.intro ht5 hx5)
              clear ht5 hx5 kb5
              go_wp2_with fail
              try simp only [Exit.inBlock, Exit.then]
              refine bodyPost_ret (results_cell_row rfl _ _ (w.heap.size + 1) 28 #[.int .i64 k7, .string l7, .slice a7 n7 cap7, .int .i64 mn7, .int .i64 mx7] (0, 0) _ rfl HS5.out Tryz.underlying28 rfl (by kernel_rfl)) rfl ?_
              exact ⟨_, rfl, (HZ.out.1.put put5).off, Ext.put (HW.out.1.trans HZ.out.2) put5 (by omega)⟩
        · have e2 : decide ((i : Int) < most) = false := by simpa using hl2
          rw [if_neg hl2, List.append_nil] at HT
          have HR : Calls Tryz.prog 235 #[.int .i64 4, u7] wr (Makes (SP S (w.heap.size + 1)) wr T) := by
            rw [← HT.out]
            exact row_own _ 4 _ wr u7 _ _ _ (by simp) HS1.out HX.out.2.2.2 (Trees.replicate (HK.out.2.sp (by omega) HX.out.1) i)
          have HR2 := Lib.hid HR
          clear hm hm1 HR hl2
          go_wp2_with fail
          refine HR2.out.mono ?_
          rintro e w5 ⟨cs5, rfl, ht5, hx5⟩
          obtain ⟨k7, l7, a7, n7, cap7, mn7, mx7, rfl⟩ := ht5.form
          have kb5 := (HX.out.2.2.1).chg hx5 (fun h => h)
          obtain ⟨g0, f0, g1, f1, g2, f2, g3, f3, g4, f4⟩ := blk5_base kb5
          obtain ⟨y3, z3, y4, z4, q0, q1, q2, q3, q4⟩ := blk5_facts kb5 (.int .i64 k7) (.string l7) (.slice a7 n7 cap7) (.int .i64 mn7) (.int .i64 mx7)
          have HS5 := Lib.hid (blk5_step kb5 (.int .i64 k7) (.string l7) (.slice a7 n7 cap7) (.int .i64 mn7) (.int .i64 mx7)).2.2.2.2.2
          have HZ := Lib.hid (And.intro ht5 hx5)
          clear ht5 hx5 kb5
          go_wp2_with fail
          try simp only [Exit.inBlock, Exit.then]
          refine bodyPost_ret (results_cell_row rfl _ _ (w.heap.size + 1) 28 #[.int .i64 k7, .string l7, .slice a7 n7 cap7, .int .i64 mn7, .int .i64 mx7] (0, 0) _ rfl HS5.out Tryz.underlying28 rfl (by kernel_rfl)) rfl ?_
          exact ⟨_, rfl, (HZ.out.1.put put5).off, Ext.put (HX.out.1.trans HZ.out.2) put5 (by omega)⟩
end Go.Proofs.YtkhllknahjmciaaGreat
