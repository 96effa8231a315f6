/-
  Plain paths (chapter 9): all kinds. Plain paths (chapter 9): of one that may be. Machines (chapter 16): one state more, one move more. Plain paths as a type of their own; a path's plain one is one.
-/
import Derived.Test.YtkhllknahjmciaaGreatM06
import Derived.StillTailTactics
import Derived.Deep.RegionHeld3
/-! Plain paths (chapter 9): all kinds. -/
namespace Go.Proofs.YtkhllknahjmciaaGreat
open Go.RowKit
set_option linter.unusedVariables false
set_option linter.unusedSimpArgs false

def headT : List Tr → Tr
  | [] => mkEps
  | t :: _ => t
def plainK (k : Int) (l : ByteArray) (mn mx : Int) (ts : List Tr) : Tr :=
  if k = 2 ∨ k = 3 then .node k l [] 0 0
  else if k = 4 ∨ k = 5 then mkRow k ts
  else if k = 6 then mkStar (headT ts)
  else if k = 7 then mkTwo 4 (headT ts) (mkStar (headT ts))
  else if k = 8 then mkMaybe (headT ts)
  else if k = 9 then mkRep (headT ts) mn.toNat mx
  else mkEps
mutual
/-- A path's plain one. -/
def plainT : Tr → Tr
  | .node k l kids mn mx => plainK k l mn mx (plainsT kids)
def plainsT : List Tr → List Tr
  | [] => []
  | t :: ts => plainT t :: plainsT ts
end
theorem plainsT_len : ∀ ts : List Tr, (plainsT ts).length = ts.length
  | [] => by rw [plainsT]
  | t :: ts => by rw [plainsT, List.length_cons, List.length_cons, plainsT_len ts]
theorem plainsT_app : ∀ ts us : List Tr, plainsT (ts ++ us) = plainsT ts ++ plainsT us
  | [], us => by rw [plainsT]; rfl
  | t :: ts, us => by rw [List.cons_append, plainsT, plainsT, plainsT_app ts us]; rfl
section
variable {S : Nat → Prop} {wr w' : World} {v v' : Value} {ts : List Tr} {ds : List (List Value)} {t : Tr} {cs : List Value}
theorem Trees.regrow (h : Trees (SV S v) wr ts ds) (k : Chg (fun b => v.ownBlock = some b) wr w') (r : ∀ g, v'.ownBlock = some g → v.ownBlock = some g ∨ wr.heap.size ≤ g) : Trees (SV S v') w' ts ds := by
  have h1 : Trees (SV (SV S v) v') wr ts ds := h.mono fun b hb hs => hs.elim id fun h => (r b h).elim .inr fun h => by omega
  exact (h1.chg (k.mono fun _ _ h => .inl (.inr h))).mono fun b _ hs => hs.elim (fun h => .inl (.inl h)) .inr
theorem Tree.regrow (h : Tree (SV S v) wr t cs) (k : Chg (fun b => v.ownBlock = some b) wr w') (r : ∀ g, v'.ownBlock = some g → v.ownBlock = some g ∨ wr.heap.size ≤ g) : Tree (SV S v') w' t cs := by
  have h1 : Tree (SV (SV S v) v') wr t cs := h.mono fun b hb hs => hs.elim id fun h => (r b h).elim .inr fun h => by omega
  exact (h1.chg (k.mono fun _ _ h => .inl (.inr h))).mono fun b _ hs => hs.elim (fun h => .inl (.inl h)) .inr
end
set_option maxRecDepth 100000 in
set_option maxHeartbeats 10000000 in
theorem plain_any (t : Tr) (S : Nat → Prop) (w : World) (cs : List Value) (hs : Slim t) (hv : rchecks t = 0) (hS : ∀ b, S b → b < w.heap.size) (h : TrC w t cs) :
    Calls Tryz.prog 190 #[.agg cs.toArray] w (Makes S w (plainT t)) := by
  induction t using Tr.ind generalizing w cs S with
  | node k l kids mn mx ih =>
    obtain ⟨hlen, hsk⟩ : kids.length ≤ 1000 ∧ ∀ u ∈ kids, Slim u := by cases hs with | node h hk => exact ⟨h, hk⟩
    obtain ⟨v1, v2, v3, v4⟩ := valid_parts hv
    obtain ⟨n1, n2, n3, n4, n5⟩ := kind_of_kids v1
    have HN := Lib.hid (And.intro v3 (And.intro n3 n5))
    obtain ⟨T, hT⟩ : ∃ T, plainT (.node k l kids mn mx) = T := ⟨_, rfl⟩
    rw [hT]
    rw [plainT] at hT
    have HT := Lib.hid hT
    obtain ⟨a, cap, css, rfl, hc, ht⟩ := TrC_node.1 h
    have hb := Blk.new w #[.int .i64 k, .string l, .slice a kids.length cap, .int .i64 mn, .int .i64 mx] 28
    have hw1 : Ext w (w.alloc (.cells #[.int .i64 k, .string l, .slice a kids.length cap, .int .i64 mn, .int .i64 mx] 28)) := (Chg.refl w).alloc _
    have hcap := hc.1
    have hmax := hc.2.1
    unfold maxLen at hmax
    have HIH := Lib.hid (fun u hu S w cs => ih u hu S w cs (hsk u hu) (v4 u hu))
    clear ih hsk hs h hv v1 v2 v3 v4 n3 n4 n5 hT
    obtain ⟨i0, hi0, hii⟩ := Option.map_eq_some_iff.1 info_path
    obtain ⟨hz0, hz1, hz2⟩ : i0.zero = some (.agg #[.int .i64 0, .string ⟨#[]⟩, .slice none 0 0, .int .i64 0, .int .i64 0]) ∧ i0.size = 5 ∧ i0.bytes = 64 := by
      have := hii; simp at this; exact this
    have HI := Lib.hid (And.intro hi0 (And.intro hz0 (And.intro hz1 hz2)))
    clear hi0 hii hz0 hz1 hz2
    have HK := Lib.hid (And.intro hc (And.intro ht hS))
    have HB := Lib.hid (And.intro hb hw1)
    clear hc ht hb hw1 hS
    obtain ⟨m, hm⟩ : ∃ m, kids.length = m := ⟨_, rfl⟩
    rw [hm] at HB hcap hlen
    have HM := Lib.hid hm
    rw [hm]
    clear hm
    go_enter Tryz.func190, Tryz.ntmps190
    go_wp2_with fail
    go_loopg [3, 9] m (fun gk l3 l9 wr => ∃ (i : Nat) (ds : List (List Value)), i ≤ m ∧ Ext w wr ∧ Blk wr w.heap.size #[.int .i64 k, .string l, .slice a m cap, .int .i64 mn, .int .i64 mx] 28 ∧ Blk wr (w.heap.size + 1) #[.int .i64 0, .string ⟨#[]⟩, .slice none 0 0, .int .i64 0, .int .i64 0] 28 ∧ wr.ownsRow (w.heap.size + 2) 28 5 l3 i ds.flatten ∧ Trees (SV (SP S (w.heap.size + 1)) l3) wr (plainsT (kids.take i)) ds ∧ l9 = .int .i64 i ∧ gk = m - i)
    case atStart =>
      have b5 := Blk.new (w.alloc (.cells #[.int .i64 k, .string l, .slice a m cap, .int .i64 mn, .int .i64 mx] 28)) #[.int .i64 0, .string ⟨#[]⟩, .slice none 0 0, .int .i64 0, .int .i64 0] 28
      simp only [World.size_alloc] at b5
      exact ⟨0, [], Nat.zero_le _, HB.out.2.alloc _, HB.out.1.chg ((Chg.refl (S := fun _ => False) _).alloc _) (fun h => h), b5, World.ownsRow_nil _ _ _ _, by rw [List.take_zero, plainsT]; exact Trees.nil, rfl, rfl⟩
    case round =>
      obtain ⟨i, ds, hi, hx, kb1, kb2, hown, hts, rfl, rfl⟩ := hrel
      have hsz := kb2.lt
      by_cases hin : i < m
      · have hin' : (i : Int) < m := by omega
        obtain ⟨u, hu⟩ : ∃ u, kids[i]? = some u := ⟨_, List.getElem?_eq_getElem (by rw [HM.out]; exact hin)⟩
        obtain ⟨x, ku, lu, au, nu, cu, mnu, mxu, rfl, htu, c0, c1, c2, c3, c4⟩ := kid_at (HK.out.1.ext hx) (HK.out.2.1.ext hx _ _) hu
        have hb : ∀ b, SV (SP S (w.heap.size + 1)) u3 b → b < wr.heap.size := SV.bound (SP.bound HK.out.2.2 hsz hx) hown (Chg.refl _)
        have HC := Lib.hid (HIH.out u (List.mem_of_getElem? hu) (SV (SP S (w.heap.size + 1)) u3) (wr.alloc (.cells #[.int .i64 ku, .string lu, .slice au nu cu, .int .i64 mnu, .int .i64 mxu] 28)) _ (fun b h => by have := hb b h; simp; omega) (htu.ext ((Chg.refl _).alloc _)))
        have HX := Lib.hid (And.intro hx (And.intro kb1 (And.intro kb2 (And.intro hown (And.intro hts hu)))))
        clear hx kb1 kb2 hown hts hu hb htu
        go_wp2_with fail
        refine HC.out.mono ?_
        rintro e w2 ⟨cs2, rfl, ht2, hx2⟩
        obtain ⟨k3, l3, a3, n3, cap3, mn3, mx3, rfl⟩ := ht2.form
        have kx : Ext wr w2 := ((Chg.refl wr).alloc _).trans hx2
        have hsz2 := kx.size
        have HY := Lib.hid (And.intro (own_low HX.out.2.2.2.1 kx (fun _ _ h => h)) (And.intro ht2 kx))
        clear c0 c1 c2 c3 c4 ht2 hx2 kx
        go_wp2_with (at_builtin; refine wpList_append_st _ rfl (.tmp 13) (.tmp 16) 26 rfl (w.heap.size + 2) 28 i0 (.agg #[.int .i64 0, .string ⟨#[]⟩, .slice none 0 0, .int .i64 0, .int .i64 0]) 5 64 Tryz.underlying26 HI.out.1 HI.out.2.1 HI.out.2.2.1 HI.out.2.2.2 rfl (by decide) u3 i _ rfl (own_low HY.out.1 ((Chg.refl _).alloc _) (fun _ _ h => h)) ⟨w2.heap.size, 0, none⟩ 1 1 [.int .i64 k3, .string l3, .slice a3 n3 cap3, .int .i64 mn3, .int .i64 mx3] rfl rfl (by exact fun j u hj => news w2 _ _ j u hj) (by simp [Value.oneCell']) (by unfold maxLen; omega) (by omega) (by simp; omega) ?_; intro v' w' u1 u2 u3; have HF := Lib.hid (And.intro u1 (And.intro u2 u3)); clear u1 u2 u3)
        go_roundg (m - (i + 1))
        case measure => omega
        case rel =>
          obtain ⟨r1, r2, r3⟩ := HF.out
          have r3' : ∀ g, v'.ownBlock = some g → u3.ownBlock = some g ∨ w2.heap.size ≤ g := fun g hg => (r3 g hg).imp id (fun h => by simp at h; omega)
          have hg := grow_chg r2
          refine ⟨i + 1, ds ++ [[.int .i64 k3, .string l3, .slice a3 n3 cap3, .int .i64 mn3, .int .i64 mx3]], by omega, Ext.own (HX.out.1.trans HY.out.2.2) HY.out.1 (by omega) hg, Blk.own (HX.out.2.1.chg HY.out.2.2 (fun h => h)) HY.out.1 (by omega) hg, Blk.own (HX.out.2.2.1.chg HY.out.2.2 (fun h => h)) HY.out.1 (by omega) hg, by simpa using r1, ?_, rfl, rfl⟩
          rw [List.take_add_one, HX.out.2.2.2.2.2, plainsT_app]
          refine Trees.append ((HX.out.2.2.2.2.1.ext HY.out.2.2).regrow hg r3') ?_
          show Trees _ _ (plainsT [u]) _
          rw [plainsT, plainsT]
          exact Trees.cons (HY.out.2.1.regrow hg r3') Trees.nil
      · obtain rfl : i = m := by omega
        have htk : kids.take i = kids := by rw [← HM.out, List.take_length]
        rw [htk] at hts
        have hxs : ¬ (i : Int) < i := by omega
        have hbS := SP.bound HK.out.2.2 hsz hx
        obtain ⟨g0, f0, g1, f1, g2, f2, g3, f3, g4, f4⟩ := blk5_base kb1
        by_cases h23 : k = 2 ∨ k = 3
        · have dd : ((k == 2) = true) ∨ ((k == 2) = false ∧ (k == 3) = true) := by
            rcases h23 with rfl | rfl
            · left; rfl
            · right; exact ⟨rfl, rfl⟩
          unfold plainK at HT
          rw [if_pos h23] at HT
          obtain ⟨g0, f0, g1, f1, g2, f2, g3, f3, g4, f4⟩ := blk5_base kb2
          obtain ⟨y3, z3, y4, z4, q0, q1, q2, q3, q4⟩ := blk5_facts kb2 (.int .i64 k) (.string l) (.slice none 0 0) (.int .i64 0) (.int .i64 0)
          have HS5 := Lib.hid (blk5_step kb2 (.int .i64 k) (.string l) (.slice none 0 0) (.int .i64 0) (.int .i64 0)).2.2.2.2.2
          have HX := Lib.hid hx
          clear hx hown hts kb1 kb2 h23
          rcases dd with d2 | ⟨d2, d3⟩
          all_goals
            go_wp2_with fail
            try simp only [Exit.inBlock, Exit.then]
            refine bodyPost_ret (results_cell_row rfl _ _ (w.heap.size + 1) 28 #[.int .i64 k, .string l, .slice none 0 0, .int .i64 0, .int .i64 0] (0, 0) _ rfl HS5.out Tryz.underlying28 rfl (by kernel_rfl)) rfl ?_
            exact ⟨_, rfl, by rw [← HT.out]; exact Tree.leaf, Ext.put HX.out put5 (by omega)⟩
        have d2 : (k == 2) = false := by simp; omega
        have d3 : (k == 3) = false := by simp; omega
        by_cases h45 : k = 4 ∨ k = 5
        · have dd : ((k == 4) = true) ∨ ((k == 4) = false ∧ (k == 5) = true) := by
            rcases h45 with rfl | rfl
            · left; rfl
            · right; exact ⟨rfl, rfl⟩
          unfold plainK at HT
          rw [if_neg h23, if_pos h45] at HT
          have HR : Calls Tryz.prog 235 #[.int .i64 k, u3] wr (Makes (SP S (w.heap.size + 1)) wr T) := by
            rw [← HT.out]
            exact row_own _ k _ wr u3 _ _ ds (by rw [plainsT_len, HM.out]) hbS hown (hts.mono fun _ _ h => .inl h)
          have HR2 := Lib.hid HR
          have HX := Lib.hid (And.intro hx kb2)
          clear hx hown hts kb1 kb2 h23 h45 HR
          rcases dd with d4 | ⟨d4, d5⟩
          all_goals
            go_wp2_with fail
            refine HR2.out.mono ?_
            rintro e w5 ⟨cs5, rfl, ht5, hx5⟩
            obtain ⟨k7, l7, a7, n7, cap7, mn7, mx7, rfl⟩ := ht5.form
            have kb5 := (HX.out.2).chg hx5 (fun h => h)
            obtain ⟨g0, f0, g1, f1, g2, f2, g3, f3, g4, f4⟩ := blk5_base kb5
            obtain ⟨y3, z3, y4, z4, q0, q1, q2, q3, q4⟩ := blk5_facts kb5 (.int .i64 k7) (.string l7) (.slice a7 n7 cap7) (.int .i64 mn7) (.int .i64 mx7)
            have HS5 := Lib.hid (blk5_step kb5 (.int .i64 k7) (.string l7) (.slice a7 n7 cap7) (.int .i64 mn7) (.int .i64 mx7)).2.2.2.2.2
            have HZ := Lib.hid (And.intro ht5 hx5)
            clear ht5 hx5 kb5
            go_wp2_with fail
            try simp only [Exit.inBlock, Exit.then]
            refine bodyPost_ret (results_cell_row rfl _ _ (w.heap.size + 1) 28 #[.int .i64 k7, .string l7, .slice a7 n7 cap7, .int .i64 mn7, .int .i64 mx7] (0, 0) _ rfl HS5.out Tryz.underlying28 rfl (by kernel_rfl)) rfl ?_
            exact ⟨_, rfl, (HZ.out.1.put put5).off, Ext.put (HX.out.1.trans HZ.out.2) put5 (by omega)⟩
        have d4 : (k == 4) = false := by simp; omega
        have d5 : (k == 5) = false := by simp; omega
        by_cases h1 : k = 1
        · have d6 : (k == 6) = false := by simp; omega
          have d7 : (k == 7) = false := by simp; omega
          have d8 : (k == 8) = false := by simp; omega
          have d9 : (k == 9) = false := by simp; omega
          unfold plainK at HT
          rw [if_neg h23, if_neg h45, if_neg (by omega), if_neg (by omega), if_neg (by omega), if_neg (by omega)] at HT
          obtain ⟨g0, f0, g1, f1, g2, f2, g3, f3, g4, f4⟩ := blk5_base kb2
          obtain ⟨y3, z3, y4, z4, q0, q1, q2, q3, q4⟩ := blk5_facts kb2 (.int .i64 1) (.string ⟨#[]⟩) (.slice none 0 0) (.int .i64 0) (.int .i64 0)
          have HS5 := Lib.hid (blk5_step kb2 (.int .i64 1) (.string ⟨#[]⟩) (.slice none 0 0) (.int .i64 0) (.int .i64 0)).2.2.2.2.2
          have HX := Lib.hid hx
          clear hx hown hts kb1 kb2 h23 h45 h1
          go_wp2_with fail
          try simp only [Exit.inBlock, Exit.then]
          refine bodyPost_ret (results_cell_row rfl _ _ (w.heap.size + 1) 28 #[.int .i64 1, .string ⟨#[]⟩, .slice none 0 0, .int .i64 0, .int .i64 0] (0, 0) _ rfl HS5.out Tryz.underlying28 rfl (by kernel_rfl)) rfl ?_
          exact ⟨_, rfl, by rw [← HT.out]; exact Tree.leaf, Ext.put HX.out put5 (by omega)⟩
        have hone : i = 1 := by rw [← HM.out]; exact HN.out.2.2 (by omega)
        obtain ⟨X, hX⟩ : ∃ X, plainsT kids = [X] := List.length_eq_one_iff.1 (by rw [plainsT_len, HM.out]; exact hone)
        obtain ⟨cX, hcX⟩ : ∃ c, ds = [c] := List.length_eq_one_iff.1 (by rw [hts.length, plainsT_len, HM.out]; exact hone)
        subst hcX
        rw [hX] at hts HT
        obtain ⟨_, ec, htX⟩ := hts.get (i := 0) rfl
        cases ec
        obtain ⟨k6, l6, a6, n6, cap6, mn6, mx6, rfl⟩ := htX.form
        obtain ⟨g, cap2, rfl, hcell⟩ := own_form hown (by omega)
        have c0 := hcell 0 _ rfl
        have c1 := hcell 1 _ rfl
        have c2 := hcell 2 _ rfl
        have c3 := hcell 3 _ rfl
        have c4 := hcell 4 _ rfl
        rw [Addr.add_lit] at c0 c1 c2 c3 c4
        simp only [Nat.zero_add] at c0 c1 c2 c3 c4
        have hcap' := (Cells.of_own hown).1
        have htY : Tree (SP S (w.heap.size + 1)) wr X [.int .i64 k6, .string l6, .slice a6 n6 cap6, .int .i64 mn6, .int .i64 mx6] := htX.mono fun _ _ h => .inl h
        have hpos : (0 : Int) < (i : Int) := by omega
        unfold plainK at HT
        rw [if_neg h23, if_neg h45] at HT
        by_cases h6 : k = 6
        · have d6 : (k == 6) = true := by simpa using h6
          rw [if_pos h6] at HT
          have HR2 := Lib.hid (star_any _ X wr _ hbS htY)
          rw [show mkStar X = T from HT.out] at HR2
          have HX := Lib.hid (And.intro hx kb2)
          clear hx hown hts htX htY kb1 kb2 h23 h45 h1 h6 hcell
          go_wp2_with fail
          refine HR2.out.mono ?_
          clear c0 c1 c2 c3 c4
          rintro e w5 ⟨cs5, rfl, ht5, hx5⟩
          obtain ⟨k7, l7, a7, n7, cap7, mn7, mx7, rfl⟩ := ht5.form
          have kb5 := (HX.out.2).chg hx5 (fun h => h)
          obtain ⟨g0, f0, g1, f1, g2, f2, g3, f3, g4, f4⟩ := blk5_base kb5
          obtain ⟨y3, z3, y4, z4, q0, q1, q2, q3, q4⟩ := blk5_facts kb5 (.int .i64 k7) (.string l7) (.slice a7 n7 cap7) (.int .i64 mn7) (.int .i64 mx7)
          have HS5 := Lib.hid (blk5_step kb5 (.int .i64 k7) (.string l7) (.slice a7 n7 cap7) (.int .i64 mn7) (.int .i64 mx7)).2.2.2.2.2
          have HZ := Lib.hid (And.intro ht5 hx5)
          clear ht5 hx5 kb5
          go_wp2_with fail
          try simp only [Exit.inBlock, Exit.then]
          refine bodyPost_ret (results_cell_row rfl _ _ (w.heap.size + 1) 28 #[.int .i64 k7, .string l7, .slice a7 n7 cap7, .int .i64 mn7, .int .i64 mx7] (0, 0) _ rfl HS5.out Tryz.underlying28 rfl (by kernel_rfl)) rfl ?_
          exact ⟨_, rfl, (HZ.out.1.put put5).off, Ext.put (HX.out.1.trans HZ.out.2) put5 (by omega)⟩
        have d6 : (k == 6) = false := by simp; omega
        by_cases h8 : k = 8
        · have d7 : (k == 7) = false := by simp; omega
          have d8 : (k == 8) = true := by simpa using h8
          rw [if_neg h6, if_neg (by omega), if_pos h8] at HT
          have HR2 := Lib.hid (maybe_any _ X wr _ hbS htY)
          rw [show mkMaybe X = T from HT.out] at HR2
          have HX := Lib.hid (And.intro hx kb2)
          clear hx hown hts htX htY kb1 kb2 h23 h45 h1 h6 h8 hcell
          go_wp2_with fail
          refine HR2.out.mono ?_
          clear c0 c1 c2 c3 c4
          rintro e w5 ⟨cs5, rfl, ht5, hx5⟩
          obtain ⟨k7, l7, a7, n7, cap7, mn7, mx7, rfl⟩ := ht5.form
          have kb5 := (HX.out.2).chg hx5 (fun h => h)
          obtain ⟨g0, f0, g1, f1, g2, f2, g3, f3, g4, f4⟩ := blk5_base kb5
          obtain ⟨y3, z3, y4, z4, q0, q1, q2, q3, q4⟩ := blk5_facts kb5 (.int .i64 k7) (.string l7) (.slice a7 n7 cap7) (.int .i64 mn7) (.int .i64 mx7)
          have HS5 := Lib.hid (blk5_step kb5 (.int .i64 k7) (.string l7) (.slice a7 n7 cap7) (.int .i64 mn7) (.int .i64 mx7)).2.2.2.2.2
          have HZ := Lib.hid (And.intro ht5 hx5)
          clear ht5 hx5 kb5
          go_wp2_with fail
          try simp only [Exit.inBlock, Exit.then]
          refine bodyPost_ret (results_cell_row rfl _ _ (w.heap.size + 1) 28 #[.int .i64 k7, .string l7, .slice a7 n7 cap7, .int .i64 mn7, .int .i64 mx7] (0, 0) _ rfl HS5.out Tryz.underlying28 rfl (by kernel_rfl)) rfl ?_
          exact ⟨_, rfl, (HZ.out.1.put put5).off, Ext.put (HX.out.1.trans HZ.out.2) put5 (by omega)⟩
        by_cases h9 : k = 9
        · have d7 : (k == 7) = false := by simp; omega
          have d8 : (k == 8) = false := by simp; omega
          have d9 : (k == 9) = true := by simpa using h9
          rw [if_neg h6, if_neg (by omega), if_neg h8, if_pos h9] at HT
          have hbad := HN.out.1 h9
          unfold repBad at hbad
          have HR2 := Lib.hid (rep_any _ X mn.toNat mx wr.drew _ (by omega) (by omega) hbS (htY.ext (Chg.refl wr).drew))
          rw [show mkRep X mn.toNat mx = T from HT.out, show ((mn.toNat : Nat) : Int) = mn by omega] at HR2
          have HX := Lib.hid (And.intro hx kb2)
          clear hx hown hts htX htY kb1 kb2 h23 h45 h1 h6 h8 h9 hcell hbad
          go_wp2_with fail
          refine wp_region_still_tail 7 (by kernel_rfl) (by kernel_rfl) ?_
          simp only [List.take_succ_cons, List.take_zero, List.drop_succ_cons, List.drop_zero]
          change wpStill _ _ wr.drew _ _ _
          repeat still_step
          refine wpStill_nil ?_
          change wpList _ _ _ _ _ wr.drew
          go_wp2_with fail
          refine HR2.out.mono ?_
          clear c0 c1 c2 c3 c4
          rintro e w5 ⟨cs5, rfl, ht5, hx5⟩
          obtain ⟨k7, l7, a7, n7, cap7, mn7, mx7, rfl⟩ := ht5.form
          have kb5 := (HX.out.2.chg (Chg.refl (S := fun _ => False) wr).drew (fun h => h)).chg hx5 (fun h => h)
          obtain ⟨g0, f0, g1, f1, g2, f2, g3, f3, g4, f4⟩ := blk5_base kb5
          obtain ⟨y3, z3, y4, z4, q0, q1, q2, q3, q4⟩ := blk5_facts kb5 (.int .i64 k7) (.string l7) (.slice a7 n7 cap7) (.int .i64 mn7) (.int .i64 mx7)
          have HS5 := Lib.hid (blk5_step kb5 (.int .i64 k7) (.string l7) (.slice a7 n7 cap7) (.int .i64 mn7) (.int .i64 mx7)).2.2.2.2.2
          have HZ := Lib.hid (And.intro ht5 hx5)
          clear ht5 hx5 kb5
          go_wp2_with fail
          try simp only [Exit.inBlock, Exit.then]
          refine bodyPost_ret (results_cell_row rfl _ _ (w.heap.size + 1) 28 #[.int .i64 k7, .string l7, .slice a7 n7 cap7, .int .i64 mn7, .int .i64 mx7] (0, 0) _ rfl HS5.out Tryz.underlying28 rfl (by kernel_rfl)) rfl ?_
          exact ⟨_, rfl, (HZ.out.1.put put5).off, Ext.put (HX.out.1.drew.trans HZ.out.2) put5 (by omega)⟩
        · have d7 : (k == 7) = true := by simp; omega
          rw [if_neg h6, if_pos (by omega)] at HT
          have hgne : ¬ g = w.heap.size + 1 := by have := (own_blk hown).1; omega
          have HSt := Lib.hid (star_any _ X wr.drew _ hbS (htY.ext (Chg.refl wr).drew))
          have HTw := Lib.hid (fun W cs (hW : Ext wr W) (ht : Tree (SP S (w.heap.size + 1)) W (mkStar X) cs) => two_any _ 4 X (mkStar X) W _ _ (fun b hb => Nat.lt_of_lt_of_le (hbS b hb) hW.size) (htY.ext hW) ht)
          rw [show mkTwo 4 X (mkStar X) = T from HT.out] at HTw
          have HCs := Lib.hid (fun W (hW : Ext wr W) => And.intro ((hW.cell (lt_of_cell c0) (fun h => h)).trans c0) (And.intro ((hW.cell (lt_of_cell c1) (fun h => h)).trans c1) (And.intro ((hW.cell (lt_of_cell c2) (fun h => h)).trans c2) (And.intro ((hW.cell (lt_of_cell c3) (fun h => h)).trans c3) ((hW.cell (lt_of_cell c4) (fun h => h)).trans c4)))))
          have HX := Lib.hid (And.intro hx kb2)
          clear hx hown hts htX htY kb1 kb2 h23 h45 h1 h6 h8 h9 hcell
          go_wp2_with fail
          go_region_held3 (fun v => v.cell? ⟨g, 0, none⟩ = some (.int .i64 k6) ∧ v.cell? ⟨g, 1, none⟩ = some (.string l6) ∧ v.cell? ⟨g, 2, none⟩ = some (.slice a6 n6 cap6) ∧ v.cell? ⟨g, 3, none⟩ = some (.int .i64 mn6) ∧ v.cell? ⟨g, 4, none⟩ = some (.int .i64 mx6)) (first | with_reducible exact ⟨(HP5.out.cell (lt_of_cell s0) hgne).trans s0, (HP5.out.cell (lt_of_cell s1) hgne).trans s1, (HP5.out.cell (lt_of_cell s2) hgne).trans s2, (HP5.out.cell (lt_of_cell s3) hgne).trans s3, (HP5.out.cell (lt_of_cell s4) hgne).trans s4⟩ | with_reducible exact ⟨s0, s1, s2, s3, s4⟩ | with_reducible exact HCs.out _ (Chg.refl (S := fun _ => False) wr).drew) (first | (go_at_call 236; refine HSt.out.mono ?_; rintro e w2 ⟨cs2, rfl, ht2, hx2⟩; obtain ⟨k3, l3, a3, n3, cap3, mn3, mx3, rfl⟩ := ht2.form; have hx3 := (Chg.refl (S := fun _ => False) wr).drew.trans hx2; obtain ⟨s0, s1, s2, s3, s4⟩ := HCs.out _ hx3) | (go_at_call 237; refine (HTw.out w2 _ hx3 ht2).mono ?_; rintro e w5 ⟨cs5, rfl, ht5, hx5⟩; obtain ⟨k7, l7, a7, n7, cap7, mn7, mx7, rfl⟩ := ht5.form; have kb5 := HX.out.2.chg (hx3.trans hx5) (fun h => h); obtain ⟨g0, f0, g1, f1, g2, f2, g3, f3, g4, f4⟩ := blk5_base kb5; obtain ⟨y3, z3, y4, z4, q0, q1, q2, q3, q4⟩ := blk5_facts kb5 (.int .i64 k7) (.string l7) (.slice a7 n7 cap7) (.int .i64 mn7) (.int .i64 mx7); have HS5 := Lib.hid (blk5_step kb5 (.int .i64 k7) (.string l7) (.slice a7 n7 cap7) (.int .i64 mn7) (.int .i64 mx7)).2.2.2.2.2; have HZ := Lib.hid (And.intro ht5 (hx3.trans hx5)); clear s0 s1 s2 s3 s4; obtain ⟨s0, s1, s2, s3, s4⟩ := HCs.out _ (hx3.trans hx5); have HP5 := Lib.hid (put5 (w := w5) (p := w.heap.size + 1) (c0 := .int .i64 k7) (c1 := .string l7) (c2 := .slice a7 n7 cap7) (c3 := .int .i64 mn7) (c4 := .int .i64 mx7)); clear ht5 hx5 kb5))
          all_goals
            go_wp2_with fail
            try simp only [Exit.inBlock, Exit.then]
            refine bodyPost_ret (results_cell_row rfl _ _ (w.heap.size + 1) 28 #[.int .i64 k7, .string l7, .slice a7 n7 cap7, .int .i64 mn7, .int .i64 mx7] (0, 0) _ rfl HS5.out Tryz.underlying28 rfl (by kernel_rfl)) rfl ?_
            exact ⟨_, rfl, (HZ.out.1.put put5).off, Ext.put (HX.out.1.trans HZ.out.2) put5 (by omega)⟩
end Go.Proofs.YtkhllknahjmciaaGreat

/-! Plain paths (chapter 9): of one that may be. -/
namespace Go.Proofs.YtkhllknahjmciaaGreat
open Go.RowKit
set_option linter.unusedVariables false
set_option linter.unusedSimpArgs false

theorem slim_of_small (t : Tr) : ∀ at', rchecks t = 0 → rsize t at' ≤ 60 → Slim t := by
  induction t using Tr.ind with
  | node k l kids mn mx ih =>
    intro at' hv hs
    obtain ⟨s0, s1, s2, s3, s4, s5⟩ := small_parts hv hs
    exact Slim.node (by omega) fun u hu => ih u hu (at' + 1) ((valid_parts hv).2.2.2 u hu) (s5 u hu)
theorem slim_leaf {k mn mx : Int} {l : ByteArray} : Slim (.node k l [] mn mx) := Slim.node (by simp) (by simp)
theorem slim_two {k : Int} {a b : Tr} (ha : Slim a) (hb : Slim b) : Slim (mkTwo k a b) := Slim.node (by simp) fun u hu => by
  rcases List.mem_cons.1 hu with rfl | hu
  · exact ha
  · rcases List.mem_cons.1 hu with rfl | hu
    · exact hb
    · simp at hu
theorem slim_star {a : Tr} (ha : Slim a) : Slim (mkStar a) := Slim.node (by simp) fun u hu => by
  rcases List.mem_cons.1 hu with rfl | hu
  · exact ha
  · simp at hu
theorem slim_maybe {a : Tr} (ha : Slim a) : Slim (mkMaybe a) := slim_two slim_leaf ha
theorem slim_row {k : Int} : ∀ {ts : List Tr}, (∀ u ∈ ts, Slim u) → Slim (mkRow k ts)
  | [], _ => slim_leaf
  | [t], h => h t (by simp)
  | t :: u :: ts, h => slim_two (h t (by simp)) (slim_row fun v hv => h v (List.mem_cons_of_mem _ hv))
theorem slim_tail {k : Tr} (hk : Slim k) : ∀ n, Slim (tailT k n)
  | 0 => slim_maybe hk
  | n + 1 => slim_maybe (slim_two hk (slim_tail hk n))
theorem slim_rep {k : Tr} (hk : Slim k) (least : Nat) (most : Int) : Slim (mkRep k least most) := by
  refine slim_row fun u hu => ?_
  rcases List.mem_append.1 hu with hu | hu
  · rw [(List.mem_replicate.1 hu).2]; exact hk
  · split at hu
    · rw [List.mem_singleton.1 hu]; exact slim_star hk
    · split at hu
      · rw [List.mem_singleton.1 hu]; exact slim_tail hk _
      · simp at hu
theorem mem_plainsT : ∀ {ts : List Tr} {u : Tr}, u ∈ plainsT ts → ∃ t ∈ ts, u = plainT t
  | [], u, h => by rw [plainsT] at h; simp at h
  | t :: ts, u, h => by
    rw [plainsT] at h
    rcases List.mem_cons.1 h with rfl | h
    · exact ⟨t, by simp, rfl⟩
    · obtain ⟨v, hv, e⟩ := mem_plainsT h
      exact ⟨v, by simp [hv], e⟩
theorem slim_plain (t : Tr) : Slim (plainT t) := by
  induction t using Tr.ind with
  | node k l kids mn mx ih =>
    rw [plainT]
    have hk : ∀ u ∈ plainsT kids, Slim u := fun u hu => by
      obtain ⟨t, ht, rfl⟩ := mem_plainsT hu
      exact ih t ht
    have hh : Slim (headT (plainsT kids)) := by
      cases h : plainsT kids with
      | nil => exact slim_leaf
      | cons t ts => rw [h] at hk; exact hk t (by simp)
    unfold plainK
    split
    · exact slim_leaf
    · split
      · exact slim_row hk
      · split
        · exact slim_star hh
        · split
          · exact slim_two hh (slim_star hh)
          · split
            · exact slim_maybe hh
            · split
              · exact slim_rep hh _ _
              · exact slim_leaf
set_option maxRecDepth 100000 in
set_option maxHeartbeats 1000000 in
theorem Plain_any (t : Tr) (S : Nat → Prop) (w : World) (cs : List Value) (hv : rcheck t = 0) (hS : ∀ b, S b → b < w.heap.size) (h : TrC w t cs) :
    Calls Tryz.prog 140 #[.agg cs.toArray] w fun e w' => ∃ cs, e = .returned (.tuple #[.agg cs.toArray, .int .i64 0]) ∧ Tree S w' (plainT t) cs ∧ Ext w w' := by
  obtain ⟨v1, v2, v3, v4⟩ := rcheck_zero hv
  obtain ⟨k, l, a, n, cap, mn, mx, rfl⟩ := h.form
  have hb := Blk.new w #[.int .i64 k, .string l, .slice a n cap, .int .i64 mn, .int .i64 mx] 28
  have hw1 : Ext w (w.alloc (.cells #[.int .i64 k, .string l, .slice a n cap, .int .i64 mn, .int .i64 mx] 28)) := (Chg.refl w).alloc _
  have HB := Lib.hid (And.intro hb hw1)
  have HS := Lib.hid (fun W (hW : Ext w W) => And.intro (pCheck_any t W _ (TrC.ext hW _ _ h) hv) (plain_any t (fun _ => False) W _ (slim_of_small t 0 v3 v4) v3 (fun _ h => h.elim) (TrC.ext hW _ _ h)))
  have HK := Lib.hid hS
  clear hb hw1 h hv hS v1 v2 v3 v4
  go_enter Tryz.func140, Tryz.ntmps140
  go_wp2_with fail
  refine (HS.out _ (HB.out.2.alloc _)).1.mono ?_
  rintro e w2 ⟨rfl, hx⟩
  have kb1 := HB.out.1.chg (((Chg.refl _).alloc _).trans hx) (fun h => h)
  have kb2 := (Blk.new (w.alloc (.cells #[.int .i64 k, .string l, .slice a n cap, .int .i64 mn, .int .i64 mx] 28)) #[.int .i64 0, .string ⟨#[]⟩, .slice none 0 0, .int .i64 0, .int .i64 0] 28).chg hx (fun h => h)
  simp only [World.size_alloc] at kb2
  obtain ⟨g0, f0, g1, f1, g2, f2, g3, f3, g4, f4⟩ := blk5_base kb1
  have HX := Lib.hid (And.intro ((HB.out.2.alloc _).trans hx) kb2)
  clear hx kb1 kb2
  go_wp2_with fail
  refine (HS.out _ HX.out.1).2.mono ?_
  rintro e w3 ⟨cs3, rfl, ht3, hx3⟩
  obtain ⟨k3, l3, a3, n3, cap3, mn3, mx3, rfl⟩ := ht3.form
  have HX3 := Lib.hid (And.intro (HX.out.1.trans hx3) (HX.out.2.chg hx3 (fun h => h)))
  have HO := Lib.hid (own_any (plainT t) (SP S (w.heap.size + 1)) w3 _ (slim_plain t) (SP.bound HK.out HX3.out.2.lt HX3.out.1) ht3.trc)
  clear ht3 hx3
  go_wp2_with fail
  refine HO.out.mono ?_
  rintro e w5 ⟨cs5, rfl, ht5, hx5⟩
  obtain ⟨k7, l7, a7, n7, cap7, mn7, mx7, rfl⟩ := ht5.form
  have kb5 := HX3.out.2.chg hx5 (fun h => h)
  clear g0 f0 g1 f1 g2 f2 g3 f3 g4 f4
  obtain ⟨g0, f0, g1, f1, g2, f2, g3, f3, g4, f4⟩ := blk5_base kb5
  obtain ⟨y3, z3, y4, z4, q0, q1, q2, q3, q4⟩ := blk5_facts kb5 (.int .i64 k7) (.string l7) (.slice a7 n7 cap7) (.int .i64 mn7) (.int .i64 mx7)
  have HS5 := Lib.hid (blk5_step kb5 (.int .i64 k7) (.string l7) (.slice a7 n7 cap7) (.int .i64 mn7) (.int .i64 mx7)).2.2.2.2.2
  have HZ := Lib.hid (And.intro ht5 hx5)
  clear ht5 hx5 kb5
  go_wp2_with fail
  refine bodyPost_ret (by simp [results, Tryz.results140, go_sem, q0, q1, q2, q3, q4]; try rfl) rfl ?_
  exact ⟨[.int .i64 k7, .string l7, .slice a7 n7 cap7, .int .i64 mn7, .int .i64 mx7], rfl, (HZ.out.1.put put5).off, Ext.put (HX3.out.1.trans HZ.out.2) put5 (by omega)⟩
end Go.Proofs.YtkhllknahjmciaaGreat

/-! Machines (chapter 16): one state more, one move more. -/
namespace Go.Proofs.YtkhllknahjmciaaGreat
open Go.RowKit
set_option linter.unusedVariables false
set_option linter.unusedSimpArgs false

/-- A move. -/
structure Mv where
  f : Int
  t : Int
  eps : Bool
  l : ByteArray
  back : Bool
def Mv.cells (m : Mv) : List Value := [.int .i64 m.f, .int .i64 m.t, .bool m.eps, .string m.l, .bool m.back]
def mvCells : List Mv → List Value
  | [] => []
  | m :: ms => m.cells ++ mvCells ms
theorem mvCells_app : ∀ a b : List Mv, mvCells (a ++ b) = mvCells a ++ mvCells b
  | [], b => rfl
  | m :: a, b => by rw [List.cons_append, mvCells, mvCells, mvCells_app a b, List.append_assoc]
/-- The machine in the making: its block p, its moves in v. -/
def NSt (w : World) (p : Nat) (n : Int) (a b : Int) (ms : List Mv) (v : Value) : Prop :=
  Blk w p #[.int .i64 n, .int .i64 a, .int .i64 b, v] 158 ∧ w.ownsRow (p + 1) 211 5 v ms.length (mvCells ms)
/-- Only the machine's two blocks have turned. -/
def MF (w : World) (p : Nat) (v : Value) (w' : World) (v' : Value) : Prop :=
  Chg (fun b => b = p ∨ v.ownBlock = some b) w w' ∧ ∀ g, v'.ownBlock = some g → v.ownBlock = some g ∨ w.heap.size ≤ g
theorem MF.refl (w : World) (p : Nat) (v : Value) : MF w p v w v := ⟨Chg.refl w, fun g h => .inl h⟩
theorem MF.trans {w w1 w2 : World} {p : Nat} {v v1 v2 : Value} (h : MF w p v w1 v1) (k : MF w1 p v1 w2 v2) : MF w p v w2 v2 := by
  refine ⟨⟨k.1.os.trans h.1.os, k.1.tape.trans h.1.tape, k.1.output.trans h.1.output, Nat.le_trans h.1.size k.1.size, fun b hb hn => ?_⟩, fun g hg => ?_⟩
  · rw [k.1.block b (Nat.lt_of_lt_of_le hb h.1.size) (fun hs => hs.elim (fun e => hn (.inl e)) (fun e => (h.2 b e).elim (fun e => hn (.inr e)) (fun e => by omega)))]
    exact h.1.block b hb hn
  · have hz := h.1.size
    rcases k.2 g hg with h1 | h1
    · exact h.2 g h1
    · exact .inr (by omega)
theorem MF.ext {w w1 w2 : World} {p : Nat} {v v2 : Value} (h : Ext w w1) (k : MF w1 p v w2 v2) : MF w p v w2 v2 :=
  MF.trans ⟨h.mono fun _ _ h => h.elim, fun g h => .inl h⟩ k
theorem NSt.ext {w w' : World} {p : Nat} {n a b : Int} {ms : List Mv} {v : Value} (h : NSt w p n a b ms v) (k : Ext w w') : NSt w' p n a b ms v :=
  ⟨h.1.chg k (fun h => h), own_low h.2 k (fun _ _ h => h)⟩
set_option maxRecDepth 100000 in
set_option maxHeartbeats 1000000 in
theorem state_any (w : World) (p : Nat) (n a b : Int) (ms : List Mv) (v : Value) (h : NSt w p n a b ms v) (hn : 0 ≤ n ∧ n ≤ 1000000) :
    Calls Tryz.prog 204 #[.pointer (some ⟨p, 0, none⟩)] w fun e w' => e = .returned (.int .i64 n) ∧ NSt w' p (n + 1) a b ms v ∧ MF w p v w' v := by
  obtain ⟨hb, ho⟩ := h
  obtain ⟨hn0, hn1⟩ := hn
  have c0 := hb.cell 0 _ rfl
  have f0 := hb.frozen 0
  have c1 := (hb.set 0 (.int .i64 (n + 1))).cell 0 _ rfl
  have HB := Lib.hid (And.intro hb ho)
  clear hb ho
  go_enter Tryz.func204, Tryz.ntmps204
  go_wp2_with fail
  go_ret
  exact ⟨rfl, ⟨HB.out.1.set 0 _, own_low HB.out.2 (set_chg (p := p) (Chg.refl _)) (by intro g hg e; omega)⟩, (set_chg (p := p) (Chg.refl _)).mono fun b _ e => .inl e, fun g h => .inl h⟩
theorem info_move : (Tryz.prog.info? 211).map (fun i => (i.zero, i.size, i.bytes)) = some (some (.agg #[.int .i64 0, .int .i64 0, .bool false, .string ⟨#[]⟩, .bool false]), 5, 48) := by kernel_rfl
/-- The machine, one move more. -/
theorem NSt.grow {w w2 w' : World} {p : Nat} {n a b : Int} {ms : List Mv} {v v' : Value} {o : Obj} {m : Mv} (h : NSt w p n a b ms v) (hx : Ext w w2)
    (r1 : w'.ownsRow (p + 1) 211 5 v' (ms.length + 1) (mvCells ms ++ m.cells)) (r2 : (w2.alloc o).grownBy w' v.ownBlock) (r3 : ∀ g, v'.ownBlock = some g → v.ownBlock = some g ∨ (w2.alloc o).heap.size ≤ g) :
    NSt (w'.setCell ⟨p, 3, none⟩ v') p n a b (ms ++ [m]) v' ∧ MF w p v (w'.setCell ⟨p, 3, none⟩ v') v' := by
  obtain ⟨hb, ho⟩ := h
  have hg := grow_chg r2
  have ho2 := own_low ho hx (fun _ _ h => h)
  have hb' : Blk w' p #[.int .i64 n, .int .i64 a, .int .i64 b, v] 158 := Blk.own (hb.chg hx (fun h => h)) ho2 (by omega) hg
  refine ⟨⟨hb'.set 3 _, ?_⟩, MF.ext hx ⟨?_, fun g h => (r3 g h).imp id (fun h => by simp at h; omega)⟩⟩
  · have := own_low r1 (set_chg (p := p) (j := 3) (c := v') (Chg.refl _)) (by intro g hg e; omega)
    rw [mvCells_app]
    simpa [mvCells] using this
  · exact Chg.trans (hg.mono fun b _ h => .inr h) ((set_chg (p := p) (Chg.refl _)).mono fun b _ e => .inl e)
set_option maxRecDepth 100000 in
set_option maxHeartbeats 1000000 in
theorem eps_any (w : World) (p : Nat) (n a b f t : Int) (ms : List Mv) (v : Value) (h : NSt w p n a b ms v) (hm : ms.length ≤ 100000) :
    Calls Tryz.prog 203 #[.pointer (some ⟨p, 0, none⟩), .int .i64 f, .int .i64 t] w fun e w' => ∃ v', e = .returned (.tuple #[]) ∧ NSt w' p n a b (ms ++ [⟨f, t, true, ⟨#[]⟩, false⟩]) v' ∧ MF w p v w' v' := by
  obtain ⟨hb, ho⟩ := h
  have c3 := hb.cell 3 _ rfl
  have f3 := hb.frozen 3
  have HB := Lib.hid (And.intro hb ho)
  have hlt := hb.lt
  obtain ⟨i0, hi0, hii⟩ := Option.map_eq_some_iff.1 info_move
  obtain ⟨hz0, hz1, hz2⟩ : i0.zero = some (.agg #[.int .i64 0, .int .i64 0, .bool false, .string ⟨#[]⟩, .bool false]) ∧ i0.size = 5 ∧ i0.bytes = 48 := by
    have := hii; simp at this; exact this
  have HI := Lib.hid (And.intro hi0 (And.intro hz0 (And.intro hz1 hz2)))
  clear hi0 hii hz0 hz1 hz2
  clear hb ho
  go_enter Tryz.func203, Tryz.ntmps203
  go_wp2_with (at_builtin; refine wpList_append_st _ rfl (.tmp 10) (.tmp 14) 156 rfl (p + 1) 211 i0 (.agg #[.int .i64 0, .int .i64 0, .bool false, .string ⟨#[]⟩, .bool false]) 5 48 Tryz.underlying156 HI.out.1 HI.out.2.1 HI.out.2.2.1 HI.out.2.2.2 rfl (by decide) v ms.length _ rfl (own_low HB.out.2 ((Chg.refl _).alloc _) (fun _ _ h => h)) ⟨w.heap.size, 0, none⟩ 1 1 (Mv.cells ⟨f, t, true, ⟨#[]⟩, false⟩) rfl rfl (by exact fun j u hj => news w _ _ j u hj) (by simp [Mv.cells, Value.oneCell']) (by unfold maxLen; omega) (by omega) (by simp; omega) ?_; intro v' w' u1 u2 u3; obtain ⟨a', cap', rfl⟩ := own_slice u1; have HF := Lib.hid (And.intro u1 (And.intro u2 u3)); have kb := Blk.own HB.out.1 HB.out.2 (by omega) (grow_chg u2); have y3 := kb.cell 3 _ rfl; have z3 := kb.frozen 3; clear u1 u2 u3 kb)
  go_returns
  obtain ⟨k1, k2⟩ := NSt.grow HB.out (Chg.refl w) HF.out.1 HF.out.2.1 HF.out.2.2
  exact ⟨_, rfl, k1, k2⟩
end Go.Proofs.YtkhllknahjmciaaGreat

/-! Plain paths as a type of their own; a path's plain one is one. -/
namespace Go.Proofs.YtkhllknahjmciaaGreat
open Go.RowKit
set_option linter.unusedVariables false
set_option linter.unusedSimpArgs false

inductive Pl where
  | eps
  | fwd (l : ByteArray)
  | back (l : ByteArray)
  | seq (a b : Pl)
  | alt (a b : Pl)
  | star (a : Pl)
def Pl.tr : Pl → Tr
  | .eps => mkEps
  | .fwd l => .node 2 l [] 0 0
  | .back l => .node 3 l [] 0 0
  | .seq a b => mkTwo 4 a.tr b.tr
  | .alt a b => mkTwo 5 a.tr b.tr
  | .star a => mkStar a.tr
def Pl.two (k : Int) (a b : Pl) : Pl := if k = 4 then .seq a b else .alt a b
def Pl.row (k : Int) : List Pl → Pl
  | [] => .eps
  | [t] => t
  | t :: u :: ts => Pl.two k t (Pl.row k (u :: ts))
def Pl.maybe (a : Pl) : Pl := .alt .eps a
def Pl.tail (k : Pl) : Nat → Pl
  | 0 => k.maybe
  | n + 1 => (Pl.seq k (Pl.tail k n)).maybe
def Pl.rep (k : Pl) (least : Nat) (most : Int) : Pl :=
  Pl.row 4 (List.replicate least k ++ (if most = -1 then [.star k] else if (least : Int) < most then [Pl.tail k (most - least - 1).toNat] else []))
theorem two_tr {k : Int} (h : k = 4 ∨ k = 5) (a b : Pl) : (Pl.two k a b).tr = mkTwo k a.tr b.tr := by
  rcases h with rfl | rfl
  · rfl
  · rfl
theorem row_tr {k : Int} (h : k = 4 ∨ k = 5) : ∀ ts : List Pl, (Pl.row k ts).tr = mkRow k (ts.map Pl.tr)
  | [] => rfl
  | [t] => rfl
  | t :: u :: ts => by
    rw [Pl.row, two_tr h, row_tr h (u :: ts)]; rfl
theorem maybe_tr (a : Pl) : a.maybe.tr = mkMaybe a.tr := rfl
theorem tail_tr (k : Pl) : ∀ n, (k.tail n).tr = tailT k.tr n
  | 0 => rfl
  | n + 1 => by rw [Pl.tail, maybe_tr, Pl.tr, tail_tr k n]; rfl
theorem rep_tr (k : Pl) (least : Nat) (most : Int) : (k.rep least most).tr = mkRep k.tr least most := by
  rw [Pl.rep, row_tr (.inl rfl), mkRep, List.map_append, List.map_replicate]
  congr 2
  split
  · rfl
  · split
    · rw [List.map_cons, List.map_nil, tail_tr]
    · rfl
def headP : List Pl → Pl
  | [] => .eps
  | t :: _ => t
def plainPK (k : Int) (l : ByteArray) (mn mx : Int) (ts : List Pl) : Pl :=
  if k = 2 then .fwd l else if k = 3 then .back l
  else if k = 4 ∨ k = 5 then Pl.row k ts
  else if k = 6 then .star (headP ts)
  else if k = 7 then .seq (headP ts) (.star (headP ts))
  else if k = 8 then (headP ts).maybe
  else if k = 9 then (headP ts).rep mn.toNat mx
  else .eps
mutual
def plainP : Tr → Pl
  | .node k l kids mn mx => plainPK k l mn mx (plainsP kids)
def plainsP : List Tr → List Pl
  | [] => []
  | t :: ts => plainP t :: plainsP ts
end
theorem headP_tr (ts : List Pl) : (headP ts).tr = headT (ts.map Pl.tr) := by cases ts <;> rfl
theorem plainPK_tr (k : Int) (l : ByteArray) (mn mx : Int) (ts : List Pl) : (plainPK k l mn mx ts).tr = plainK k l mn mx (ts.map Pl.tr) := by
  unfold plainPK plainK
  by_cases h2 : k = 2
  · rw [if_pos h2, if_pos (.inl h2), h2]; rfl
  · rw [if_neg h2]
    by_cases h3 : k = 3
    · rw [if_pos h3, if_pos (.inr h3), h3]; rfl
    · rw [if_neg h3, if_neg (show ¬ (k = 2 ∨ k = 3) by omega)]
      by_cases h45 : k = 4 ∨ k = 5
      · rw [if_pos h45, if_pos h45]; exact row_tr h45 ts
      · rw [if_neg h45, if_neg h45]
        by_cases h6 : k = 6
        · rw [if_pos h6, if_pos h6, ← headP_tr]; rfl
        · rw [if_neg h6, if_neg h6]
          by_cases h7 : k = 7
          · rw [if_pos h7, if_pos h7, ← headP_tr]; rfl
          · rw [if_neg h7, if_neg h7]
            by_cases h8 : k = 8
            · rw [if_pos h8, if_pos h8, ← headP_tr]; rfl
            · rw [if_neg h8, if_neg h8]
              by_cases h9 : k = 9
              · rw [if_pos h9, if_pos h9, rep_tr, headP_tr]
              · rw [if_neg h9, if_neg h9]; rfl
theorem plainP_tr (t : Tr) : (plainP t).tr = plainT t := by
  refine Tr.rec (motive_1 := fun t => (plainP t).tr = plainT t) (motive_2 := fun ts => (plainsP ts).map Pl.tr = plainsT ts) ?_ ?_ ?_ t
  · intro k l kids mn mx ih
    rw [plainP, plainPK_tr, ih, plainT]
  · rw [plainsP, plainsT]; rfl
  · intro t ts h1 h2
    rw [plainsP, plainsT, List.map_cons, h1, h2]
end Go.Proofs.YtkhllknahjmciaaGreat
