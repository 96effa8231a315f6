/-
  The trees of the law BailPlays in memory; kid, weight, ints, Sum.
-/
import Derived.Test.YtdiklblnilmpoaaPlayA
import Derived.Test.YtdiklblnilmpoaaPlayP
import Derived.Deep.Cut
namespace Go.Proofs.Ytdiklblnilmpoaa
open Go.RowKit Pl
set_option linter.unusedVariables false

/-- The four cells of a node. -/
def Four (w : World) (p : Addr) (k c n : Int) (v : Value) : Prop :=
  w.cell? p = some (.int .i64 k) ∧ w.cell? ⟨p.block, p.off + 1, none⟩ = some (.int .i64 c) ∧ w.cell? ⟨p.block, p.off + 2, none⟩ = some (.int .i64 n) ∧ w.cell? ⟨p.block, p.off + 3, none⟩ = some v
theorem Four.ext {w w' : World} {p : Addr} {k c n : Int} {v : Value} (h : Four w p k c n v) (e : Ext w w') : Four w' p k c n v := by
  obtain ⟨h0, h1, h2, h3⟩ := h
  have hb := lt_of_cell h0
  have hk := e.block p.block hb (fun h => h)
  exact ⟨(World.cell?_of_block hk).trans h0, (World.cell?_of_block (a := ⟨p.block, p.off + 1, none⟩) hk).trans h1, (World.cell?_of_block (a := ⟨p.block, p.off + 2, none⟩) hk).trans h2, (World.cell?_of_block (a := ⟨p.block, p.off + 3, none⟩) hk).trans h3⟩
/-- How many kids a node has. -/
def nk : Tr → Nat | .node _ _ _ kids => kids.length
/-- A node's values in memory, but for its kids. -/
structure Nd where
  k : Int
  c : Int
  n : Int
  a : Option Addr
  cap : Nat
instance : Inhabited Nd := ⟨⟨0, 0, 0, none, 0⟩⟩
def Nd.val (d : Nd) (t : Tr) : Value := .agg #[.int .i64 d.k, .int .i64 d.c, .int .i64 d.n, .slice d.a (nk t) d.cap]
/-- A node and all that it leads to, as they lie in the world W. -/
inductive NodeAt (W : World) : Nd → Tr → Prop
  | mk (k c n : Int) (a : Option Addr) (cap : Nat) (kids : List Tr) (f : Nat → Nd)
    (hmax : kids.length ≤ 9223372036854775807)
    (cells : ∀ j t, kids[j]? = some t → ∃ x, a = some x ∧ Four W (x.add (j * 4)) (f j).k (f j).c (f j).n (.slice (f j).a (nk t) (f j).cap))
    (sub : ∀ j t, kids[j]? = some t → NodeAt W (f j) t) :
    NodeAt W ⟨k, c, n, a, cap⟩ (.node k c n kids)
theorem NodeAt.zero (W : World) : NodeAt W ⟨0, 0, 0, none, 0⟩ Pl.zero :=
  .mk 0 0 0 none 0 [] (fun _ => default) (by simp) (fun j t hj => by simp at hj) (fun j t hj => by simp at hj)
theorem kid_yes (x : Addr) (len cap j : Nat) (k c n k' c' n' : Int) (sa : Option Addr) (sl sc : Nat) (w : World) (hj : j < len) (hlen : len ≤ 9223372036854775807) (h : Four w (x.add (j * 4)) k' c' n' (.slice sa sl sc)) :
    Calls Try.prog 43 #[.agg #[.int .i64 k, .int .i64 c, .int .i64 n, .slice (some x) len cap], .int .i64 j] w fun e w' => e = .returned (.agg #[.int .i64 k', .int .i64 c', .int .i64 n', .slice sa sl sc]) ∧ Ext w w' := by
  have hj1 : 0 ≤ (j : Int) := by omega
  have hj2 : (j : Int) < (len : Int) := by omega
  have H := Lib.hid h
  clear h
  go_enter Try.func43, Try.ntmps43
  go_upto_region 1 with (fail)
  refine wp_world (fun w2 => Ext w w2 ∧ Blk w2 w.heap.size #[.int .i64 k, .int .i64 c, .int .i64 n, .slice (some x) len cap] 45 ∧ Blk w2 (w.heap.size + 1) #[.int .i64 0, .int .i64 0, .int .i64 0, .slice none 0 0] 45) ⟨((Chg.refl w).alloc _).alloc _, (Blk.new _ _ _).chg (S := fun _ => False) ((Chg.refl _).alloc _) (fun h => h), by have := Blk.new (w.alloc (.cells #[.int .i64 k, .int .i64 c, .int .i64 n, .slice (some x) len cap] 45)) #[.int .i64 0, .int .i64 0, .int .i64 0, .slice none 0 0] 45; rwa [World.size_alloc] at this⟩ ?_
  rintro w2 ⟨e2, n2, n4⟩
  obtain ⟨h0, h1, h2, h3⟩ := H.out.ext e2
  have c23 := n2.cell 3 _ rfl
  have c40 := n4.cell 0 _ rfl
  have c41 := n4.cell 1 _ rfl
  have c42 := n4.cell 2 _ rfl
  have c43 := n4.cell 3 _ rfl
  have f40 := n4.frozen 0
  have f41 := n4.frozen 1
  have f42 := n4.frozen 2
  have f43 := n4.frozen 3
  have HE := Lib.hid e2
  clear e2 n2 n4
  go_wp2
  refine bodyPost_ret (v := .agg #[.int .i64 k', .int .i64 c', .int .i64 n', .slice sa sl sc]) (by simp [results, Try.results43, go_sem, c40, c41, c42, c43]) rfl ⟨rfl, ?_⟩
  repeat (first | exact HE.out | refine Chg.setCell ?_ _ _ (fun h => absurd h (by simp)))
theorem kid_no (x : Option Addr) (len cap j : Nat) (k c n : Int) (w : World) (hj : ¬ j < len) :
    Calls Try.prog 43 #[.agg #[.int .i64 k, .int .i64 c, .int .i64 n, .slice x len cap], .int .i64 j] w fun e w' => e = .returned (.agg #[.int .i64 0, .int .i64 0, .int .i64 0, .slice none 0 0]) ∧ Ext w w' := by
  have hj2 : ¬ (j : Int) < (len : Int) := by omega
  go_enter Try.func43, Try.ntmps43
  go_upto_region 1 with (fail)
  refine wp_world (fun w2 => Ext w w2 ∧ Blk w2 w.heap.size #[.int .i64 k, .int .i64 c, .int .i64 n, .slice x len cap] 45 ∧ Blk w2 (w.heap.size + 1) #[.int .i64 0, .int .i64 0, .int .i64 0, .slice none 0 0] 45) ⟨((Chg.refl w).alloc _).alloc _, (Blk.new _ _ _).chg (S := fun _ => False) ((Chg.refl _).alloc _) (fun h => h), by have := Blk.new (w.alloc (.cells #[.int .i64 k, .int .i64 c, .int .i64 n, .slice x len cap] 45)) #[.int .i64 0, .int .i64 0, .int .i64 0, .slice none 0 0] 45; rwa [World.size_alloc] at this⟩ ?_
  rintro w2 ⟨e2, n2, n4⟩
  have c23 := n2.cell 3 _ rfl
  have c40 := n4.cell 0 _ rfl
  have c41 := n4.cell 1 _ rfl
  have c42 := n4.cell 2 _ rfl
  have c43 := n4.cell 3 _ rfl
  have f40 := n4.frozen 0
  have f41 := n4.frozen 1
  have f42 := n4.frozen 2
  have f43 := n4.frozen 3
  have HE := Lib.hid e2
  clear e2 n2 n4
  go_wp2
  refine bodyPost_ret (v := .agg #[.int .i64 0, .int .i64 0, .int .i64 0, .slice none 0 0]) (by simp [results, Try.results43, go_sem, c40, c41, c42, c43]) rfl ⟨rfl, ?_⟩
  repeat (first | exact HE.out | refine Chg.setCell ?_ _ _ (fun h => absurd h (by simp)))
/-- kid(n, j): the kid of that number, or nothing. -/
theorem kid_any {W : World} {d : Nd} {k c n : Int} {kids : List Tr} (h : NodeAt W d (.node k c n kids)) (j : Nat) (w : World) (hw : Ext W w) :
    Calls Try.prog 43 #[d.val (.node k c n kids), .int .i64 j] w fun e w' => ∃ d', e = .returned (d'.val (Pl.kid kids j)) ∧ NodeAt W d' (Pl.kid kids j) ∧ Ext w w' := by
  cases h with
  | mk _ _ _ a cap _ f hmax cells sub =>
    by_cases hj : j < kids.length
    · obtain ⟨t, ht⟩ : ∃ t, kids[j]? = some t := ⟨_, List.getElem?_eq_getElem hj⟩
      have hk : Pl.kid kids j = t := by simp [Pl.kid, List.getD_eq_getElem?_getD, ht]
      obtain ⟨x, rfl, h4⟩ := cells j t ht
      rw [hk]
      refine (kid_yes x kids.length cap j k c n _ _ _ _ _ _ w hj hmax (h4.ext hw)).mono ?_
      rintro e w' ⟨rfl, he⟩
      exact ⟨f j, rfl, sub j t ht, he⟩
    · have hk : Pl.kid kids j = Pl.zero := by simp [Pl.kid, List.getD_eq_getElem?_getD, List.getElem?_eq_none (Nat.le_of_not_lt hj)]
      rw [hk]
      refine (kid_no a kids.length cap j k c n w hj).mono ?_
      rintro e w' ⟨rfl, he⟩
      exact ⟨⟨0, 0, 0, none, 0⟩, rfl, NodeAt.zero W, he⟩
end Go.Proofs.Ytdiklblnilmpoaa
