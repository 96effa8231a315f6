/-
  A graph that may be, made again. Rows copied; a node in memory of its own.
-/
import Derived.Test.YtkhllknahjmciaaGreatM14
/-! A graph that may be, made again. -/
namespace Go.Proofs.YtkhllknahjmciaaGreat
open Go.RowKit
set_option linter.unusedVariables false
set_option linter.unusedSimpArgs false

theorem GSt.made (w : World) : GSt (w.alloc (.cells #[.slice none 0 0, .slice none 0 0, .int .i64 0] 190)) w.heap.size [] [] 0 (.slice none 0 0) (.slice none 0 0) :=
  ⟨Blk.new _ _ _, ⟨[], World.ownsRow_nil _ _ _ _, rfl⟩, World.ownsRow_nil _ _ _ _⟩
theorem GSt.nvlt {w : World} {p : Nat} {ns : List Nd} {es : List Eg} {gv : Int} {nv ev : Value} (h : GSt w p ns es gv nv ev) : nv.ownBlock ≠ some w.heap.size ∧ ev.ownBlock ≠ some w.heap.size := by
  obtain ⟨css, h1, -⟩ := h.nodes
  exact ⟨fun e => by have := (h1.lt _ e).2; omega, fun e => by have := (h.edges.lt _ e).2; omega⟩
theorem blk_of_heap {w w' : World} {b t : Nat} {cs : Array Value} (h : Blk w b cs t) (k : w'.heap[b]? = w.heap[b]?) : Blk w' b cs t := h.of k
theorem New_any (w : World) : Calls Tryz.prog 123 #[] w fun e w' => e = .returned (.pointer (some ⟨w.heap.size, 0, none⟩)) ∧ w' = w.alloc (.cells #[.slice none 0 0, .slice none 0 0, .int .i64 0] 190) := by
  go_enter Tryz.func123, Tryz.ntmps123
  go_wp2_with fail
  go_ret
  exact ⟨rfl, rfl⟩
def AgainPost (w : World) (g : Gr) (e : Ending) (w' : World) : Prop :=
  ∃ p nv ev, e = .returned (.pointer (some ⟨p, 0, none⟩)) ∧ GSt w' p g.nodes g.edges (g.next - 1) nv ev ∧ Ext w w' ∧ w.heap.size ≤ p
set_option maxRecDepth 100000 in
set_option maxHeartbeats 4000000 in
theorem again_any (g : Gr) (w : World) (cs : List Value) (h : GrC w g cs) (hm : MayG g) :
    Calls Tryz.prog 79 #[.agg cs.toArray] w (AgainPost w g) := by
  obtain ⟨na, nc, ea, ec, rfl, hn, he⟩ := h
  obtain ⟨N, E, nx⟩ := g
  dsimp only at hn he ⊢
  have hm1 := hm.nlen
  have hm2 := hm.elen
  have hm3 := hm.next
  dsimp only at hm1 hm2 hm3
  have hb := Blk.new w #[.slice na N.length nc, .slice ea E.length ec, .int .i64 nx] 25
  have hw1 : Ext w (w.alloc (.cells #[.slice na N.length nc, .slice ea E.length ec, .int .i64 nx] 25)) := (Chg.refl w).alloc _
  unfold EsC at he
  have hec := he.1
  obtain ⟨m, hmm⟩ : ∃ m, N.length = m := ⟨_, rfl⟩
  obtain ⟨n, hnn⟩ : ∃ n, E.length = n := ⟨_, rfl⟩
  rw [hmm] at hb hw1 hm1 ⊢
  rw [hnn] at hb hw1 hm2 he hec ⊢
  obtain ⟨W1, hW1⟩ : ∃ W1, w.alloc (.cells #[.slice na m nc, .slice ea n ec, .int .i64 nx] 25) = W1 := ⟨_, rfl⟩
  have hsz1 : W1.heap.size = w.heap.size + 1 := by rw [← hW1]; simp
  rw [hW1] at hb hw1
  have HW := Lib.hid hW1
  have HS := Lib.hid hsz1
  have HB := Lib.hid (And.intro hb hw1)
  have HH := Lib.hid (And.intro (hn.ext hw1) (And.intro (Cells.ext he hw1) (And.intro hm (And.intro hmm hnn))))
  have HG := Lib.hid (GSt.made W1)
  have hx0 : Ext W1 (W1.alloc (.cells #[.slice none 0 0, .slice none 0 0, .int .i64 0] 190)) := (Chg.refl W1).alloc _
  obtain ⟨b0, -, b1, -, b2, -⟩ := blk3_base (hb.chg hx0 (fun h => h))
  have HX := Lib.hid hx0
  clear hb hw1 hn he hm hmm hnn hx0 hW1 hsz1
  go_enter Tryz.func79, Tryz.ntmps79
  go_wp2_with fail
  rw [HW.out]
  refine (New_any W1).mono ?_
  rintro e w2 ⟨rfl, rfl⟩
  go_wp2_with fail
  go_loopg [18] m (fun g l18 wr => ∃ (i : Nat) (nv : Value), i ≤ m ∧ GSt wr W1.heap.size (N.take i) [] 0 nv (.slice none 0 0) ∧ Ext W1 wr ∧ l18 = .int .i64 i ∧ g = m - i)
  case atStart => exact ⟨0, .slice none 0 0, Nat.zero_le _, HG.out, HX.out, rfl, rfl⟩
  case round =>
    clear b0 b1 b2
    obtain ⟨i, nv, hi, hg, hx, rfl, rfl⟩ := hrel
    obtain ⟨wo, hwo⟩ : ∃ wo : World, wo = wr := ⟨_, rfl⟩
    subst hwo
    obtain ⟨b0, -, b1, -, b2, -⟩ := blk3_base (HB.out.1.chg hx (fun h => h))
    by_cases hin : i < m
    · have hin' : (i : Int) < m := by omega
      obtain ⟨⟨d, L, P⟩, hs⟩ : ∃ s, N[i]? = some s := ⟨_, List.getElem?_eq_getElem (by rw [HH.out.2.2.2.1]; exact hin)⟩
      have hmem := List.mem_of_getElem? hs
      obtain ⟨x, la, lc, pa, pc, rfl, c0, c1, c2, hsl, hsp⟩ := nd_at HH.out.1 hs
      obtain ⟨c0, c1, c2⟩ := nd_ext hx c0 c1 c2
      dsimp only at c0 c1 c2 hsl hsp
      have hid := HH.out.2.2.1.id _ hmem
      have hlab := HH.out.2.2.1.labels _ hmem
      have hpro := HH.out.2.2.1.props _ hmem
      dsimp only at hid hlab hpro
      obtain ⟨sl, hsl'⟩ : ∃ k, L.length = k := ⟨_, rfl⟩
      obtain ⟨sp, hsp'⟩ : ∃ k, P.length = k := ⟨_, rfl⟩
      rw [hsl'] at c1 hsl hlab
      rw [hsp'] at c2 hsp hpro
      have hlen : (N.take i).length = i := by rw [List.length_take, HH.out.2.2.2.1]; omega
      have hca : Ext wo (wo.alloc (.cells #[.int .i64 d, .slice la sl lc, .slice pa sp pc] 109)) := (Chg.refl wo).alloc _
      have kb := Blk.new wo #[.int .i64 d, .slice la sl lc, .slice pa sp pc] 109
      have hAdd := AddNode_any _ W1.heap.size (N.take i) [] 0 nv (.slice none 0 0) d (hg.ext hca) hid.1 hid.2 (by rw [hlen]; omega) (fun t ht => ahead_of HH.out.2.2.1.rise hs t ht)
      have HA := Lib.hid hAdd
      have hgp := hg.box.lt
      obtain ⟨hnv1, hnv2⟩ := hg.nvlt
      obtain ⟨y0, -, y1, -, y2, -⟩ := blk3_base kb
      have HN := Lib.hid (And.intro hsl' (And.intro hsp' hlen))
      have HL := Lib.hid (And.intro hlab (And.intro hpro hs))
      have HC := Lib.hid (And.intro hsl (And.intro hsp (And.intro kb (And.intro hnv1 (hx.trans hca)))))
      have hl8 := hlab.1
      have hp8 := hpro.1
      have hlc := hsl.1
      have hpc := hsp.1
      clear hg hx hs hmem hsl hsp hid hlab hpro hsl' hsp' hlen hca kb hAdd hnv1 hnv2
      go_wp2_with fail
      refine HA.out.mono ?_
      rintro e w3 ⟨nv3, rfl, hg3, hh3, hk3⟩
      have hk := hk3 wo.heap.size (by simp) (by simp) (by omega) HC.out.2.2.2.1 (by simp [Value.ownBlock])
      rw [World.size_alloc] at hg3
      have kb3 := HC.out.2.2.1.of hk.1
      have hx3 : Ext W1 w3 := hh3.ext HC.out.2.2.2.2 (Nat.le_refl _)
      have HR := Lib.hid (And.intro hg3 (And.intro kb3 (And.intro hx3 hk.2.1)))
      obtain ⟨c0', -, c1', -, c2', -⟩ := blk3_base kb3
      have HA2 := Lib.hid hk.2.1
      clear hg3 hh3 hk3 hk kb3 hx3 HA b0 b1 b2 c0 c1 c2 y0 y1 y2
      go_wp2_with fail
      go_loopg [30] sl (fun g l30 wx => ∃ (j : Nat), j ≤ sl ∧ GCu wx W1.heap.size (wo.heap.size + 1) (N.take i) ⟨d, L.take j, []⟩ [] 0 nv3 (.slice none 0 0) ∧ Blk wx wo.heap.size #[.int .i64 d, .slice la sl lc, .slice pa sp pc] 109 ∧ Ext W1 wx ∧ l30 = .int .i64 j ∧ g = sl - j)
      case atStart => exact ⟨0, Nat.zero_le _, HR.out.1, HR.out.2.1, HR.out.2.2.1, rfl, rfl⟩
      case round =>
        clear c0' c1' c2'
        obtain ⟨j, hj, hg, kb, hx, rfl, rfl⟩ := hrel
        obtain ⟨y0, -, y1, -, y2, -⟩ := blk3_base kb
        by_cases hjn : j < sl
        · have hjn' : (j : Int) < sl := by omega
          obtain ⟨s, hs⟩ : ∃ s, L[j]? = some s := ⟨_, List.getElem?_eq_getElem (by rw [HN.out.1]; exact hjn)⟩
          obtain ⟨y, rfl, z0⟩ := str_at (HC.out.1.ext hx) hs
          have HLb := Lib.hid (Label_any wr W1.heap.size (wo.heap.size + 1) (N.take i) d (L.take j) [] [] 0 nv3 (.slice none 0 0) s hg (by rw [HN.out.2.2]; omega) (rise_take HH.out.2.2.1.rise HL.out.2.2 _ _) (HL.out.1.2.1 s (List.mem_of_getElem? hs)) (by rw [List.length_take]; omega) (ahead_of HL.out.1.2.2 hs))
          have HX2 := Lib.hid (And.intro hx (And.intro kb (take_succ' hs)))
          have hlt2 := kb.lt
          clear hg kb hx hs
          go_wp2_with fail
          refine HLb.out.mono ?_
          rintro e w4 ⟨rfl, hg4, hh4, hk4⟩
          have hk := hk4 wo.heap.size hlt2 (by omega) (by omega) HR.out.2.2.2 (by simp [Value.ownBlock])
          rw [← HX2.out.2.2] at hg4
          have HX4 := Lib.hid (And.intro hg4 (And.intro (HX2.out.2.1.of hk.1) (hh4.ext HX2.out.1 (Nat.le_refl _))))
          clear hg4 hh4 hk4 hk HLb
          go_wp2_with fail
          go_roundg (sl - (j + 1))
          case measure => omega
          case rel => exact ⟨j + 1, by omega, HX4.out.1, HX4.out.2.1, HX4.out.2.2, rfl, rfl⟩
        · obtain rfl : j = sl := by omega
          have hLt : L.take j = L := List.take_of_length_le (by rw [HN.out.1]; exact Nat.le_refl _)
          rw [hLt] at hg
          have HR2 := Lib.hid (And.intro hg (And.intro kb hx))
          clear hg kb hx hLt HR
          go_wp2_with fail
          go_loopg [44] sp (fun g l44 wx => ∃ (k : Nat), k ≤ sp ∧ GCu wx W1.heap.size (wo.heap.size + 1) (N.take i) ⟨d, L, P.take k⟩ [] 0 nv3 (.slice none 0 0) ∧ Blk wx wo.heap.size #[.int .i64 d, .slice la j lc, .slice pa sp pc] 109 ∧ Ext W1 wx ∧ l44 = .int .i64 k ∧ g = sp - k)
          case atStart => exact ⟨0, Nat.zero_le _, HR2.out.1, HR2.out.2.1, HR2.out.2.2, rfl, rfl⟩
          case round =>
            clear y0 y1 y2 HR2
            obtain ⟨k, hk, hg, kb, hx, rfl, rfl⟩ := hrel
            obtain ⟨y0, -, y1, -, y2, -⟩ := blk3_base kb
            by_cases hkn : k < sp
            · have hkn' : (k : Int) < sp := by omega
              obtain ⟨⟨s, v⟩, hs⟩ : ∃ s, P[k]? = some s := ⟨_, List.getElem?_eq_getElem (by rw [HN.out.2.1]; exact hkn)⟩
              obtain ⟨y, rfl, z0, z1⟩ := prop_at (HC.out.2.1.ext hx) hs
              dsimp only at z0 z1
              have hpk := HL.out.2.1.2.1 (s, v) (List.mem_of_getElem? hs)
              dsimp only at hpk
              have hca : Ext wr (wr.alloc (.cells #[.string s, .string v] 142)) := (Chg.refl wr).alloc _
              have HSt := Lib.hid (Set_any _ W1.heap.size (wo.heap.size + 1) (N.take i) d L (P.take k) [] 0 nv3 (.slice none 0 0) s v (hg.ext hca) (by rw [HN.out.2.2]; omega) (rise_take HH.out.2.2.1.rise HL.out.2.2 _ _) hpk.1 hpk.2 (by rw [List.length_take]; omega) (fun q hq => ahead_of HL.out.2.1.2.2 hs q hq))
              have kb2 := kb.chg hca (fun h => h)
              have kp := Blk.new wr #[.string s, .string v] 142
              obtain ⟨y0', -, y1', -, y2', -⟩ := blk3_base kb2
              have p0 : (wr.alloc (.cells #[.string s, .string v] 142)).cell? ⟨wr.heap.size, 0, none⟩ = some (.string s) := kp.cell 0 _ rfl
              have p1 : (wr.alloc (.cells #[.string s, .string v] 142)).cell? ⟨wr.heap.size, 1, none⟩ = some (.string v) := kp.cell 1 _ rfl
              have HX2 := Lib.hid (And.intro (hx.trans hca) (And.intro kb2 (take_succ' hs)))
              have hlt2 := kb2.lt
              clear hg kb kb2 kp hx hs hca hpk
              go_wp2_with fail
              refine HSt.out.mono ?_
              rintro e w4 ⟨rfl, hg4, hh4, hk4⟩
              have hk := hk4 wo.heap.size hlt2 (by omega) (by omega) HA2.out (by simp [Value.ownBlock])
              rw [← HX2.out.2.2] at hg4
              have HX4 := Lib.hid (And.intro hg4 (And.intro (HX2.out.2.1.of hk.1) (hh4.ext HX2.out.1 (Nat.le_refl _))))
              clear hg4 hh4 hk4 hk HSt p0 p1 y0' y1' y2'
              go_wp2_with fail
              go_roundg (sp - (k + 1))
              case measure => omega
              case rel => exact ⟨k + 1, by omega, HX4.out.1, HX4.out.2.1, HX4.out.2.2, rfl, rfl⟩
            · obtain rfl : k = sp := by omega
              have hPt : P.take k = P := List.take_of_length_le (by rw [HN.out.2.1]; exact Nat.le_refl _)
              rw [hPt] at hg
              have hd := hg.done
              rw [← take_succ' HL.out.2.2] at hd
              have HD := Lib.hid (And.intro hd hx)
              clear hg kb hx hPt hd
              go_wp2_with fail
              go_roundg (m - (i + 1))
              case measure => omega
              case rel => exact ⟨i + 1, nv3, by omega, HD.out.1, HD.out.2, rfl, rfl⟩
    · obtain rfl : i = m := by omega
      have hNt : N.take i = N := List.take_of_length_le (by rw [HH.out.2.2.2.1]; exact Nat.le_refl _)
      rw [hNt] at hg
      have HR := Lib.hid (And.intro hg hx)
      clear hg hx hNt
      go_wp2_with fail
      go_loopg [62] n (fun g l62 wx => ∃ (j : Nat) (gv : Int) (ev : Value), j ≤ n ∧ 0 ≤ gv ∧ gv < nx ∧ (∀ e ∈ E.drop j, gv < e.tok) ∧ GSt wx W1.heap.size N (E.take j) gv nv ev ∧ Ext W1 wx ∧ l62 = .int .i64 j ∧ g = n - j)
      case atStart => exact ⟨0, 0, .slice none 0 0, Nat.zero_le _, Int.le_refl _, (by have := HH.out.2.2.1.next.1; dsimp only at this; omega), (fun e he => by have := (HH.out.2.2.1.tok e (by simpa using he)).1; omega), HR.out.1, HR.out.2, rfl, rfl⟩
      case round =>
        clear b0 b1 b2 HR
        obtain ⟨j, gv, ev, hj, hg0, hgn, hgt, hg, hx, rfl, rfl⟩ := hrel
        obtain ⟨b0, -, b1, -, b2, -⟩ := blk3_base (HB.out.1.chg hx (fun h => h))
        by_cases hjn : j < n
        · have hjn' : (j : Int) < n := by omega
          obtain ⟨⟨tk, fr, lb, to⟩, hs⟩ : ∃ s, E[j]? = some s := ⟨_, List.getElem?_eq_getElem (by rw [HH.out.2.2.2.2]; exact hjn)⟩
          have hmem := List.mem_of_getElem? hs
          obtain ⟨y, rfl, c0, c1, c2, c3⟩ := eg_at' (HH.out.2.1.ext hx) HH.out.2.2.2.2 hs
          dsimp only at c0 c1 c2 c3
          have htok := HH.out.2.2.1.tok _ hmem
          dsimp only at htok
          obtain ⟨ht1, ht2, ht3, ⟨i1, s1, hi1, hd1⟩, ⟨i2, s2, hi2, hd2⟩⟩ := htok
          have hgt1 := hgt ⟨tk, fr, lb, to⟩ (by rw [List.drop_eq_getElem_cons (List.getElem?_eq_some_iff.1 hs).1, (List.getElem?_eq_some_iff.1 hs).2]; simp)
          dsimp only at hgt1
          have hord : E.Pairwise (fun a b => a.tok < b.tok) := HH.out.2.2.1.order
          have hnext : ∀ e ∈ E.drop (j + 1), tk < e.tok := by
            intro e he
            obtain ⟨k, hk, rfl⟩ := List.getElem_of_mem he
            rw [List.getElem_drop]
            obtain ⟨hjl, hje⟩ := List.getElem?_eq_some_iff.1 hs
            have := List.pairwise_iff_getElem.1 hord j (j + 1 + k) hjl (by rw [List.length_drop] at hk; omega) (by omega)
            rw [hje] at this
            exact this
          have hca : Ext wr (wr.alloc (.cells #[.int .i64 tk, .int .i64 fr, .string lb, .int .i64 to] 72)) := (Chg.refl wr).alloc _
          obtain ⟨v0, v1, v2, v3⟩ := four_ext (Chg.refl _) (Blk.new wr #[.int .i64 tk, .int .i64 fr, .string lb, .int .i64 to] 72)
          have hgA := hg.ext hca
          obtain ⟨q0, r0, q1, r1, q2, r2⟩ := blk3_base hgA.box
          have d1 : decide (tk ≤ gv) = false := by simp; omega
          have d2 : decide ((1099511627776 : Int) < tk) = false := by simp; omega
          have hlenE : (E.take j).length = j := by rw [List.length_take, HH.out.2.2.2.2]; omega
          have hpl := hg.box.lt
          have HG2 := Lib.hid (And.intro hgA (And.intro (hx.trans hca) (And.intro hnext (take_succ' hs))))
          have HAd := Lib.hid (fun W (hW : GSt W W1.heap.size N (E.take j) (tk - 1) nv ev) => Add_any W W1.heap.size N (E.take j) (tk - 1) nv ev fr to lb hW (by rw [HH.out.2.2.2.1]; omega) (rise_of HH.out.2.2.1.rise) i1 i2 s1 s2 hi1 hi2 hd1 hd2 ht3 (by rw [hlenE]; omega) (by omega) (by omega))
          have hbe := Blk.new wr #[.int .i64 tk, .int .i64 fr, .string lb, .int .i64 to] 72
          have HBE := Lib.hid hbe
          clear hg hx hs hmem hi1 hi2 hd1 hd2 ht3 hord hnext hca hgA hlenE hgt hbe
          go_wp2_with fail
          go_quiet (fail)
          go_wp2_with fail
          obtain ⟨hgi, hhi⟩ := (HG2.out.1.ext ((Chg.refl (S := fun _ => False) _).drewN nq)).given (tk - 1)
          refine (HAd.out _ hgi).mono ?_
          rintro e w4 ⟨ev4, rfl, hg4, hh4, hk4⟩
          rw [show tk - 1 + 1 = tk by omega, ← HG2.out.2.2.2] at hg4
          have HX4 := Lib.hid (And.intro hg4 (hh4.ext (hhi.ext (HG2.out.2.1.drewN nq) (Nat.le_refl _)) (Nat.le_refl _)))
          have HN4 := Lib.hid HG2.out.2.2.1
          clear hg4 hh4 hk4 HAd hgi hhi HG2 v0 v1 v2 v3 q0 r0 q1 r1 q2 r2 c0 c1 c2 c3
          go_wp2_with fail
          go_roundg (n - (j + 1))
          case measure => omega
          case rel => exact ⟨j + 1, tk, ev4, by omega, by omega, ht2, HN4.out, HX4.out.1, HX4.out.2, rfl, rfl⟩
        · obtain rfl : j = n := by omega
          have hEt : E.take j = E := List.take_of_length_le (by rw [HH.out.2.2.2.2]; exact Nat.le_refl _)
          rw [hEt] at hg
          obtain ⟨q0, r0, q1, r1, q2, r2⟩ := blk3_base hg.box
          have d1 : decide (nx ≤ gv) = false := by simp; omega
          have d2 : decide ((1099511627777 : Int) < nx) = false := by have := HH.out.2.2.1.next.2; dsimp only at this; simp; omega
          have h1 : 1 ≤ nx := HH.out.2.2.1.next.1
          have h2 : nx ≤ 1099511627777 := HH.out.2.2.1.next.2
          have HG2 := Lib.hid (And.intro hg hx)
          clear hg hx hgt hEt
          go_wp2_with fail
          go_quiet (fail)
          go_wp2_with fail
          go_ret
          obtain ⟨hgi, hhi⟩ := (HG2.out.1.ext ((Chg.refl (S := fun _ => False) _).drewN nq)).given (nx - 1)
          exact ⟨_, nv, ev, rfl, hgi, HB.out.2.trans (hhi.ext (HG2.out.2.drewN nq) (Nat.le_refl _)), by rw [HS.out]; omega⟩
end Go.Proofs.YtkhllknahjmciaaGreat

/-! Rows copied; a node in memory of its own. -/
namespace Go.Proofs.YtkhllknahjmciaaGreat
open Go.RowKit
set_option linter.unusedVariables false
set_option linter.unusedSimpArgs false

set_option maxRecDepth 100000 in
set_option maxHeartbeats 1000000 in
theorem cloneEg_any (xs : List Value) (w : World) (a : Option Addr) (m cap : Nat) (hl : xs.length = m * 4) (hc : Cells w a m cap xs) (h1 : ∀ u ∈ xs, u.oneCell' = true) (hb : m ≤ 1000) :
    Calls Tryz.prog 131 #[.slice a m cap] w fun e w' => ∃ v', e = .returned v' ∧ w'.ownsRow w.heap.size 72 4 v' m xs ∧ Ext w w' := by
  have q22 := fun (w : World) (a : Option Addr) (n c n' c' : Nat) => Lib.run_eql_slice_nil (P := Tryz.prog) w 23 _ a n c n' c' Tryz.underlying23
  cases a with
  | none =>
    have h0 : m = 0 := by
      rcases Nat.eq_zero_or_pos m with h | h
      · exact h
      · obtain ⟨u, hu⟩ : ∃ u, xs[0]? = some u := ⟨_, List.getElem?_eq_getElem (by omega)⟩
        obtain ⟨x, e, -⟩ := hc.at 0 u hu
        cases e
    subst h0
    obtain rfl := List.length_eq_zero_iff.1 (by simpa using hl)
    clear hc hl h1
    go_enter Tryz.func131, Tryz.ntmps131
    go_wp2_with fail
    go_ret
    exact ⟨_, rfl, World.ownsRow_nil _ _ _ _, Chg.refl _⟩
  | some x =>
    obtain ⟨i0, hi0, hii⟩ := Option.map_eq_some_iff.1 info_eg
    obtain ⟨hz0, hz1, hz2⟩ : i0.zero = some (.agg #[.int .i64 0, .int .i64 0, .string ⟨#[]⟩, .int .i64 0]) ∧ i0.size = 4 ∧ i0.bytes = 40 := by
      have := hii; simp at this; exact this
    have HI := Lib.hid (And.intro hi0 (And.intro hz0 (And.intro hz1 hz2)))
    have HC := Lib.hid (And.intro hc (And.intro hl h1))
    clear hi0 hii hz0 hz1 hz2 hc hl h1
    go_enter Tryz.func131, Tryz.ntmps131
    go_wp2_with (at_builtin; refine wpList_append_st _ rfl (.tmp 5) (.tmp 6) 23 rfl w.heap.size 72 i0 (.agg #[.int .i64 0, .int .i64 0, .string ⟨#[]⟩, .int .i64 0]) 4 40 Tryz.underlying23 HI.out.1 HI.out.2.1 HI.out.2.2.1 HI.out.2.2.2 rfl (by decide) _ 0 [] rfl (World.ownsRow_made w #[] 0 (Nat.le_refl _) (Nat.zero_le _) rfl) x m cap xs rfl HC.out.2.1 (fun j u hj => by obtain ⟨y, e, hy⟩ := (HC.out.1.ext ((Chg.refl w).alloc _)).at j u hj; cases e; exact hy) HC.out.2.2 (by unfold maxLen; omega) (by omega) (by simp) ?_; intro v' w' u1 u2 u3; have HF := Lib.hid (And.intro u1 (And.intro u2 u3)); clear u1 u2 u3)
    go_wp2_with fail
    go_ret
    obtain ⟨u1, u2, u3⟩ := HF.out
    refine ⟨v', rfl, by simpa using u1, ?_⟩
    exact Ext.put (p := w.heap.size) ((Chg.refl w).alloc _) ((Chg.of_grown u2).mono fun b hb e => by have e2 : some b = some w.heap.size := e; simpa using e2) (Nat.le_refl _)
set_option maxRecDepth 100000 in
set_option maxHeartbeats 1000000 in
theorem cloneStr_any (xs : List Value) (w : World) (a : Option Addr) (m cap : Nat) (hl : xs.length = m * 1) (hc : Cells w a m cap xs) (h1 : ∀ u ∈ xs, u.oneCell' = true) (hb : m ≤ 1000) :
    Calls Tryz.prog 182 #[.slice a m cap] w fun e w' => ∃ v', e = .returned v' ∧ w'.ownsRow w.heap.size 9 1 v' m xs ∧ Ext w w' := by
  have q22 := fun (w : World) (a : Option Addr) (n c n' c' : Nat) => Lib.run_eql_slice_nil (P := Tryz.prog) w 106 _ a n c n' c' Tryz.underlying106
  cases a with
  | none =>
    have h0 : m = 0 := by
      rcases Nat.eq_zero_or_pos m with h | h
      · exact h
      · obtain ⟨u, hu⟩ : ∃ u, xs[0]? = some u := ⟨_, List.getElem?_eq_getElem (by omega)⟩
        obtain ⟨x, e, -⟩ := hc.at 0 u hu
        cases e
    subst h0
    obtain rfl := List.length_eq_zero_iff.1 (by simpa using hl)
    clear hc hl h1
    go_enter Tryz.func182, Tryz.ntmps182
    go_wp2_with fail
    go_ret
    exact ⟨_, rfl, World.ownsRow_nil _ _ _ _, Chg.refl _⟩
  | some x =>
    obtain ⟨i0, hi0, hii⟩ := Option.map_eq_some_iff.1 info_str
    obtain ⟨hz0, hz1, hz2⟩ : i0.zero = some (.string ⟨#[]⟩) ∧ i0.size = 1 ∧ i0.bytes = 16 := by
      have := hii; simp at this; exact this
    have HI := Lib.hid (And.intro hi0 (And.intro hz0 (And.intro hz1 hz2)))
    have HC := Lib.hid (And.intro hc (And.intro hl h1))
    clear hi0 hii hz0 hz1 hz2 hc hl h1
    go_enter Tryz.func182, Tryz.ntmps182
    go_wp2_with (at_builtin; refine wpList_append_st _ rfl (.tmp 5) (.tmp 6) 106 rfl w.heap.size 9 i0 (.string ⟨#[]⟩) 1 16 Tryz.underlying106 HI.out.1 HI.out.2.1 HI.out.2.2.1 HI.out.2.2.2 rfl (by decide) _ 0 [] rfl (World.ownsRow_made w #[] 0 (Nat.le_refl _) (Nat.zero_le _) rfl) x m cap xs rfl HC.out.2.1 (fun j u hj => by obtain ⟨y, e, hy⟩ := (HC.out.1.ext ((Chg.refl w).alloc _)).at j u hj; cases e; exact hy) HC.out.2.2 (by unfold maxLen; omega) (by omega) (by simp) ?_; intro v' w' u1 u2 u3; have HF := Lib.hid (And.intro u1 (And.intro u2 u3)); clear u1 u2 u3)
    go_wp2_with fail
    go_ret
    obtain ⟨u1, u2, u3⟩ := HF.out
    refine ⟨v', rfl, by simpa using u1, ?_⟩
    exact Ext.put (p := w.heap.size) ((Chg.refl w).alloc _) ((Chg.of_grown u2).mono fun b hb e => by have e2 : some b = some w.heap.size := e; simpa using e2) (Nat.le_refl _)
set_option maxRecDepth 100000 in
set_option maxHeartbeats 1000000 in
theorem cloneProp_any (xs : List Value) (w : World) (a : Option Addr) (m cap : Nat) (hl : xs.length = m * 2) (hc : Cells w a m cap xs) (h1 : ∀ u ∈ xs, u.oneCell' = true) (hb : m ≤ 1000) :
    Calls Tryz.prog 183 #[.slice a m cap] w fun e w' => ∃ v', e = .returned v' ∧ w'.ownsRow w.heap.size 142 2 v' m xs ∧ Ext w w' := by
  have q22 := fun (w : World) (a : Option Addr) (n c n' c' : Nat) => Lib.run_eql_slice_nil (P := Tryz.prog) w 107 _ a n c n' c' Tryz.underlying107
  cases a with
  | none =>
    have h0 : m = 0 := by
      rcases Nat.eq_zero_or_pos m with h | h
      · exact h
      · obtain ⟨u, hu⟩ : ∃ u, xs[0]? = some u := ⟨_, List.getElem?_eq_getElem (by omega)⟩
        obtain ⟨x, e, -⟩ := hc.at 0 u hu
        cases e
    subst h0
    obtain rfl := List.length_eq_zero_iff.1 (by simpa using hl)
    clear hc hl h1
    go_enter Tryz.func183, Tryz.ntmps183
    go_wp2_with fail
    go_ret
    exact ⟨_, rfl, World.ownsRow_nil _ _ _ _, Chg.refl _⟩
  | some x =>
    obtain ⟨i0, hi0, hii⟩ := Option.map_eq_some_iff.1 info_prop
    obtain ⟨hz0, hz1, hz2⟩ : i0.zero = some (.agg #[.string ⟨#[]⟩, .string ⟨#[]⟩]) ∧ i0.size = 2 ∧ i0.bytes = 32 := by
      have := hii; simp at this; exact this
    have HI := Lib.hid (And.intro hi0 (And.intro hz0 (And.intro hz1 hz2)))
    have HC := Lib.hid (And.intro hc (And.intro hl h1))
    clear hi0 hii hz0 hz1 hz2 hc hl h1
    go_enter Tryz.func183, Tryz.ntmps183
    go_wp2_with (at_builtin; refine wpList_append_st _ rfl (.tmp 5) (.tmp 6) 107 rfl w.heap.size 142 i0 (.agg #[.string ⟨#[]⟩, .string ⟨#[]⟩]) 2 32 Tryz.underlying107 HI.out.1 HI.out.2.1 HI.out.2.2.1 HI.out.2.2.2 rfl (by decide) _ 0 [] rfl (World.ownsRow_made w #[] 0 (Nat.le_refl _) (Nat.zero_le _) rfl) x m cap xs rfl HC.out.2.1 (fun j u hj => by obtain ⟨y, e, hy⟩ := (HC.out.1.ext ((Chg.refl w).alloc _)).at j u hj; cases e; exact hy) HC.out.2.2 (by unfold maxLen; omega) (by omega) (by simp) ?_; intro v' w' u1 u2 u3; have HF := Lib.hid (And.intro u1 (And.intro u2 u3)); clear u1 u2 u3)
    go_wp2_with fail
    go_ret
    obtain ⟨u1, u2, u3⟩ := HF.out
    refine ⟨v', rfl, by simpa using u1, ?_⟩
    exact Ext.put (p := w.heap.size) ((Chg.refl w).alloc _) ((Chg.of_grown u2).mono fun b hb e => by have e2 : some b = some w.heap.size := e; simpa using e2) (Nat.le_refl _)
theorem one_str : ∀ ss : List ByteArray, ∀ u ∈ strCells ss, u.oneCell' = true
  | [], u, h => by cases h
  | s :: ss, u, h => by
    rcases List.mem_cons.1 h with rfl | h
    · rfl
    · exact one_str ss u h
theorem one_prop : ∀ ss : List (ByteArray × ByteArray), ∀ u ∈ propCells ss, u.oneCell' = true
  | [], u, h => by cases h
  | s :: ss, u, h => by
    rcases List.mem_cons.1 h with rfl | h
    · rfl
    · rcases List.mem_cons.1 h with rfl | h
      · rfl
      · exact one_prop ss u h
theorem one_eg : ∀ ss : List Eg, ∀ u ∈ egCells ss, u.oneCell' = true
  | [], u, h => by cases h
  | s :: ss, u, h => by
    rcases List.mem_append.1 h with h | h
    · simp [Eg.cells] at h
      rcases h with rfl | rfl | rfl | rfl <;> rfl
    · exact one_eg ss u h
theorem blk3_own {w : World} {p t : Nat} {a0 a1 a2 c1 c2 : Value} (h : Blk w p ((#[a0, a1, a2].setIfInBounds 1 c1).setIfInBounds 2 c2) t) :
    w.cell? ⟨p, 0, none⟩ = some a0 ∧ w.frozen? ⟨p, 0, none⟩ = false ∧ w.cell? ⟨p, 1, none⟩ = some c1 ∧ w.frozen? ⟨p, 1, none⟩ = false ∧ w.cell? ⟨p, 2, none⟩ = some c2 ∧ w.frozen? ⟨p, 2, none⟩ = false :=
  ⟨h.cell 0 _ rfl, h.frozen 0, h.cell 1 _ rfl, h.frozen 1, h.cell 2 _ rfl, h.frozen 2⟩
theorem blk3_facts {w : World} {p t : Nat} {a0 a1 a2 : Value} (h : Blk w p #[a0, a1, a2] t) (c0 c1 c2 : Value) :
    (((w.setCell ⟨p, 0, none⟩ c0).setCell ⟨p, 1, none⟩ c1).setCell ⟨p, 2, none⟩ c2).cell? ⟨p, 0, none⟩ = some c0 ∧
    (((w.setCell ⟨p, 0, none⟩ c0).setCell ⟨p, 1, none⟩ c1).setCell ⟨p, 2, none⟩ c2).cell? ⟨p, 1, none⟩ = some c1 ∧
    (((w.setCell ⟨p, 0, none⟩ c0).setCell ⟨p, 1, none⟩ c1).setCell ⟨p, 2, none⟩ c2).cell? ⟨p, 2, none⟩ = some c2 := by
  have h3 := ((h.set 0 c0).set 1 c1).set 2 c2
  exact ⟨h3.cell 0 _ rfl, h3.cell 1 _ rfl, h3.cell 2 _ rfl⟩
set_option maxRecDepth 100000 in
set_option maxHeartbeats 1000000 in
theorem gown_any (t : Nd) (w : World) (cs : List Value) (h : NdC w t cs) (h1 : t.labels.length ≤ 8) (h2 : t.props.length ≤ 8) :
    Calls Tryz.prog 132 #[.agg cs.toArray] w fun e w' => ∃ cs', e = .returned (.agg cs'.toArray) ∧ NdO w' w.heap.size w'.heap.size t cs' ∧ Ext w w' := by
  obtain ⟨la, lc, pa, pc, rfl, hl, hp⟩ := h
  have hb := Blk.new w #[.int .i64 t.id, .slice la t.labels.length lc, .slice pa t.props.length pc] 109
  have hw1 : Ext w (w.alloc (.cells #[.int .i64 t.id, .slice la t.labels.length lc, .slice pa t.props.length pc] 109)) := (Chg.refl w).alloc _
  have HL := Lib.hid (fun W (hW : Ext w W) => cloneStr_any _ W la _ lc (by rw [strCells_len]; simp) (hl.ext hW) (one_str _) (by omega))
  have HP := Lib.hid (fun W (hW : Ext w W) => cloneProp_any _ W pa _ pc (by rw [propCells_len]) (hp.ext hW) (one_prop _) (by omega))
  have HB := Lib.hid (And.intro hb hw1)
  obtain ⟨b0, -, b1, -, b2, -⟩ := blk3_base hb
  clear hb hw1 hl hp
  go_enter Tryz.func132, Tryz.ntmps132
  go_wp2_with fail
  have hb2 := Blk.new (w.alloc (.cells #[.int .i64 t.id, .slice la t.labels.length lc, .slice pa t.props.length pc] 109)) #[.int .i64 0, .slice none 0 0, .slice none 0 0] 109
  simp only [World.size_alloc] at hb2
  obtain ⟨W0, hW0⟩ : ∃ W0, (w.alloc (.cells #[.int .i64 t.id, .slice la t.labels.length lc, .slice pa t.props.length pc] 109)).alloc (.cells #[.int .i64 0, .slice none 0 0, .slice none 0 0] 109) = W0 := ⟨_, rfl⟩
  have hx0 : Ext w W0 := by rw [← hW0]; exact HB.out.2.alloc _
  have hb0 : Blk W0 w.heap.size #[.int .i64 t.id, .slice la t.labels.length lc, .slice pa t.props.length pc] 109 := by rw [← hW0]; exact HB.out.1.chg ((Chg.refl (S := fun _ => False) _).alloc _) (fun h => h)
  rw [hW0] at hb2 ⊢
  clear b0 b1 b2
  obtain ⟨b0, f0, b1, f1, b2, f2⟩ := blk3_base hb0
  have HX := Lib.hid (And.intro hx0 (And.intro hb0 hb2))
  have HS : Hid (W0.heap.size = w.heap.size + 2) := Lib.hid (by rw [← hW0]; simp)
  clear hx0 hb0 hb2 hW0
  go_region_with (first | (go_at_call 182; refine (HL.out _ (HX.out.1.drew)).mono ?_; rintro e w2 ⟨v2, rfl, u1, u2⟩; obtain ⟨a2, cap2, rfl⟩ := own_slice u1; have c2 := one_ext ((Chg.refl (S := fun _ => False) W0).drew.trans u2) b2; have HU := Lib.hid (And.intro u1 ((Chg.refl (S := fun _ => False) W0).drew.trans u2)); have HW2 := Lib.hid ((Chg.refl (S := fun _ => False) W0).drew.trans u2).size; clear u1 u2) | (go_at_call 183; refine (HP.out _ (HX.out.1.trans HU.out.2)).mono ?_; rintro e w3 ⟨v3, rfl, u1, u2⟩; obtain ⟨a3, cap3, rfl⟩ := own_slice u1; have HV := Lib.hid (And.intro u1 (HU.out.2.trans u2)); have HV2 := Lib.hid u2; obtain ⟨y0, z0, y1, z1, y2, z2⟩ := blk3_base (HX.out.2.1.chg (HU.out.2.trans u2) (fun h => h)); clear u1 u2 c2))
  all_goals
    have kb := ((HX.out.2.1.chg HV.out.2 (fun h => h)).set 1 (.slice a2 t.labels.length cap2)).set 2 (.slice a3 t.props.length cap3)
    have kq := (HX.out.2.2.chg HV.out.2 (fun h => h)).chg (set_chg (p := w.heap.size) (j := 2) (c := .slice a3 t.props.length cap3) (set_chg (p := w.heap.size) (j := 1) (c := .slice a2 t.labels.length cap2) (Chg.refl _))) (by omega)
    obtain ⟨d0, e0, d1, e1, d2, e2⟩ := blk3_own kb
    obtain ⟨r0, s0, r1, s1, r2, s2⟩ := blk3_base kq
    obtain ⟨q0, q1, q2⟩ := blk3_facts kq (.int .i64 t.id) (.slice a2 t.labels.length cap2) (.slice a3 t.props.length cap3)
    clear kb kq
    go_wp2_with fail
    refine bodyPost_ret (by simp [results, Tryz.results132, go_sem, q0, q1, q2]; try rfl) rfl ?_
    refine ⟨[.int .i64 t.id, .slice a2 t.labels.length cap2, .slice a3 t.props.length cap3], rfl, ?_, ?_⟩
    · have CH := (((((Chg.refl (S := fun b => b = w.heap.size ∨ b = w.heap.size + 1) w3).setCell ⟨w.heap.size, 1, none⟩ (.slice a2 t.labels.length cap2) (fun _ => .inl rfl)).setCell ⟨w.heap.size, 2, none⟩ (.slice a3 t.props.length cap3) (fun _ => .inl rfl)).setCell ⟨w.heap.size + 1, 0, none⟩ (.int .i64 t.id) (fun _ => .inr rfl)).setCell ⟨w.heap.size + 1, 1, none⟩ (.slice a2 t.labels.length cap2) (fun _ => .inr rfl)).setCell ⟨w.heap.size + 1, 2, none⟩ (.slice a3 t.props.length cap3) (fun _ => .inr rfl)
      have hz : W0.heap.size = w.heap.size + 2 := HS.out
      have hz2 := HW2.out
      have hz1 : W0.drew.heap.size = w.heap.size + 2 := hz
      have o1 := own_low (own_low HU.out.1 HV2.out (fun _ _ h => h)) CH (by intro g hg e; omega)
      have o2 := own_low HV.out.1 CH (by intro g hg e; omega)
      exact ⟨_, _, rfl, ownsRow_base o1 (by omega), ownsRow_base o2 (by omega), fun g hg => (o1.lt g hg).2, fun g hg => (o2.lt g hg).2⟩
    · exact (((((HX.out.1.trans HV.out.2).setCell _ _ (by simp)).setCell _ _ (by simp)).setCell _ _ (by simp)).setCell _ _ (by simp)).setCell _ _ (by simp)
end Go.Proofs.YtkhllknahjmciaaGreat
