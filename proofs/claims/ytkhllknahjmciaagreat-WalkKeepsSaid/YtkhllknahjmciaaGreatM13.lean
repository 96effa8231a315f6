/-
  One more, behind all. A graph in the making: what it holds, and what is not its own. A graph in the making: a node more. A graph in the making: a label more.
-/
import Derived.Test.YtkhllknahjmciaaGreatM12
/-! One more, behind all. -/
namespace Go.Proofs.YtkhllknahjmciaaGreat
open Go.RowKit
set_option linter.unusedVariables false
set_option linter.unusedSimpArgs false

theorem info_nd : (Tryz.prog.info? 109).map (fun i => (i.zero, i.size, i.bytes)) = some (some (.agg #[.int .i64 0, .slice none 0 0, .slice none 0 0]), 3, 56) := by kernel_rfl
theorem info_prop : (Tryz.prog.info? 142).map (fun i => (i.zero, i.size, i.bytes)) = some (some (.agg #[.string ⟨#[]⟩, .string ⟨#[]⟩]), 2, 32) := by kernel_rfl
theorem info_str : (Tryz.prog.info? 9).map (fun i => (i.zero, i.size, i.bytes)) = some (some (.string ⟨#[]⟩), 1, 16) := by kernel_rfl
theorem info_eg : (Tryz.prog.info? 72).map (fun i => (i.zero, i.size, i.bytes)) = some (some (.agg #[.int .i64 0, .int .i64 0, .string ⟨#[]⟩, .int .i64 0]), 4, 40) := by kernel_rfl
def Grew (w : World) (base : Nat) (t size : Nat) (v : Value) (n : Nat) (xs : List Value) (e : Ending) (w' : World) : Prop :=
  ∃ v', e = .returned v' ∧ w'.ownsRow base t size v' n xs ∧ w.grownBy w' v.ownBlock ∧ ∀ g, v'.ownBlock = some g → v.ownBlock = some g ∨ w.heap.size ≤ g
set_option maxRecDepth 100000 in
set_option maxHeartbeats 1000000 in
theorem insNode_any (w : World) (base : Nat) (v : Value) (n : Nat) (xs : List Value) (hown : w.ownsRow base 109 3 v n xs) (ad : Addr) (news : List Value) (hl : news.length = 3) (hnews : ∀ j u, news[j]? = some u → w.cell? (ad.add j) = some u) (h1 : ∀ u ∈ news, u.oneCell' = true) (hn : n ≤ 1000) (hbase : base ≤ w.heap.size) :
    Calls Tryz.prog 172 #[v, .int .i64 n, .slice (some ad) 1 1] w (Grew w base 109 3 v (n + 1) (xs ++ news)) := by
  obtain ⟨i0, hi0, hii⟩ := Option.map_eq_some_iff.1 info_nd
  obtain ⟨hz0, hz1, hz2⟩ : i0.zero = some (.agg #[.int .i64 0, .slice none 0 0, .slice none 0 0]) ∧ i0.size = 3 ∧ i0.bytes = 56 := by
    have := hii; simp at this; exact this
  have HI := Lib.hid (And.intro hi0 (And.intro hz0 (And.intro hz1 hz2)))
  clear hi0 hii hz0 hz1 hz2
  have HO := Lib.hid hown
  have HN := Lib.hid (And.intro hl (And.intro hnews h1))
  have hcap : (v = .slice none 0 0 ∧ n = 0) ∨ ∃ g cap, v = .slice (some ⟨g, 0, none⟩) n cap ∧ n ≤ cap ∧ cap ≤ maxLen := by
    rcases hown.2 with ⟨h2, h3⟩ | ⟨g, cap, cur, h2, -, -, h5, h6, -⟩
    · exact .inl ⟨h2, by have := hown.1; rw [h3] at this; simp at this; omega⟩
    · exact .inr ⟨g, cap, h2, h5, h6⟩
  clear hown hl hnews h1
  rcases hcap with ⟨rfl, rfl⟩ | ⟨g, cap, rfl, hc1, hc2⟩
  · go_enter Tryz.func172, Tryz.ntmps172
    go_wp2_with (at_builtin; refine wpList_append_st _ rfl (.tmp 23) (.tmp 24) 22 rfl base 109 i0 (.agg #[.int .i64 0, .slice none 0 0, .slice none 0 0]) 3 56 Tryz.underlying22 HI.out.1 HI.out.2.1 HI.out.2.2.1 HI.out.2.2.2 rfl (by decide) (.slice none 0 0) (0) _ rfl HO.out ad 1 1 news rfl HN.out.1 HN.out.2.1 HN.out.2.2 (by unfold maxLen; omega) (by omega) hbase ?_; intro v' w' u1 u2 u3; have HF := Lib.hid (And.intro u1 (And.intro u2 u3)); clear u1 u2 u3)
    go_ret
    exact ⟨v', rfl, HF.out.1, HF.out.2.1, HF.out.2.2⟩
  · unfold maxLen at hc2
    by_cases hc : cap = n
    · subst hc
      go_enter Tryz.func172, Tryz.ntmps172
      go_wp2_with (at_builtin; refine wpList_append_st _ rfl (.tmp 23) (.tmp 24) 22 rfl base 109 i0 (.agg #[.int .i64 0, .slice none 0 0, .slice none 0 0]) 3 56 Tryz.underlying22 HI.out.1 HI.out.2.1 HI.out.2.2.1 HI.out.2.2.2 rfl (by decide) (.slice (some ⟨g, 0, none⟩) cap cap) (cap) _ rfl HO.out ad 1 1 news rfl HN.out.1 HN.out.2.1 HN.out.2.2 (by unfold maxLen; omega) (by omega) hbase ?_; intro v' w' u1 u2 u3; have HF := Lib.hid (And.intro u1 (And.intro u2 u3)); clear u1 u2 u3)
      go_ret
      exact ⟨v', rfl, HF.out.1, HF.out.2.1, HF.out.2.2⟩
    · have hc' : n < cap := by omega
      go_enter Tryz.func172, Tryz.ntmps172
      go_wp2_with (at_builtin; refine wpList_append_st _ rfl (.tmp 23) (.tmp 24) 22 rfl base 109 i0 (.agg #[.int .i64 0, .slice none 0 0, .slice none 0 0]) 3 56 Tryz.underlying22 HI.out.1 HI.out.2.1 HI.out.2.2.1 HI.out.2.2.2 rfl (by decide) (.slice (some ⟨g, 0, none⟩) n cap) (n) _ rfl HO.out ad 1 1 news rfl HN.out.1 HN.out.2.1 HN.out.2.2 (by unfold maxLen; omega) (by omega) hbase ?_; intro v' w' u1 u2 u3; have HF := Lib.hid (And.intro u1 (And.intro u2 u3)); clear u1 u2 u3)
      go_ret
      exact ⟨v', rfl, HF.out.1, HF.out.2.1, HF.out.2.2⟩
set_option maxRecDepth 100000 in
set_option maxHeartbeats 1000000 in
theorem insProp_any (w : World) (base : Nat) (v : Value) (n : Nat) (xs : List Value) (hown : w.ownsRow base 142 2 v n xs) (ad : Addr) (news : List Value) (hl : news.length = 2) (hnews : ∀ j u, news[j]? = some u → w.cell? (ad.add j) = some u) (h1 : ∀ u ∈ news, u.oneCell' = true) (hn : n ≤ 1000) (hbase : base ≤ w.heap.size) :
    Calls Tryz.prog 178 #[v, .int .i64 n, .slice (some ad) 1 1] w (Grew w base 142 2 v (n + 1) (xs ++ news)) := by
  obtain ⟨i0, hi0, hii⟩ := Option.map_eq_some_iff.1 info_prop
  obtain ⟨hz0, hz1, hz2⟩ : i0.zero = some (.agg #[.string ⟨#[]⟩, .string ⟨#[]⟩]) ∧ i0.size = 2 ∧ i0.bytes = 32 := by
    have := hii; simp at this; exact this
  have HI := Lib.hid (And.intro hi0 (And.intro hz0 (And.intro hz1 hz2)))
  clear hi0 hii hz0 hz1 hz2
  have HO := Lib.hid hown
  have HN := Lib.hid (And.intro hl (And.intro hnews h1))
  have hcap : (v = .slice none 0 0 ∧ n = 0) ∨ ∃ g cap, v = .slice (some ⟨g, 0, none⟩) n cap ∧ n ≤ cap ∧ cap ≤ maxLen := by
    rcases hown.2 with ⟨h2, h3⟩ | ⟨g, cap, cur, h2, -, -, h5, h6, -⟩
    · exact .inl ⟨h2, by have := hown.1; rw [h3] at this; simp at this; omega⟩
    · exact .inr ⟨g, cap, h2, h5, h6⟩
  clear hown hl hnews h1
  rcases hcap with ⟨rfl, rfl⟩ | ⟨g, cap, rfl, hc1, hc2⟩
  · go_enter Tryz.func178, Tryz.ntmps178
    go_wp2_with (at_builtin; refine wpList_append_st _ rfl (.tmp 23) (.tmp 24) 107 rfl base 142 i0 (.agg #[.string ⟨#[]⟩, .string ⟨#[]⟩]) 2 32 Tryz.underlying107 HI.out.1 HI.out.2.1 HI.out.2.2.1 HI.out.2.2.2 rfl (by decide) (.slice none 0 0) (0) _ rfl HO.out ad 1 1 news rfl HN.out.1 HN.out.2.1 HN.out.2.2 (by unfold maxLen; omega) (by omega) hbase ?_; intro v' w' u1 u2 u3; have HF := Lib.hid (And.intro u1 (And.intro u2 u3)); clear u1 u2 u3)
    go_ret
    exact ⟨v', rfl, HF.out.1, HF.out.2.1, HF.out.2.2⟩
  · unfold maxLen at hc2
    by_cases hc : cap = n
    · subst hc
      go_enter Tryz.func178, Tryz.ntmps178
      go_wp2_with (at_builtin; refine wpList_append_st _ rfl (.tmp 23) (.tmp 24) 107 rfl base 142 i0 (.agg #[.string ⟨#[]⟩, .string ⟨#[]⟩]) 2 32 Tryz.underlying107 HI.out.1 HI.out.2.1 HI.out.2.2.1 HI.out.2.2.2 rfl (by decide) (.slice (some ⟨g, 0, none⟩) cap cap) (cap) _ rfl HO.out ad 1 1 news rfl HN.out.1 HN.out.2.1 HN.out.2.2 (by unfold maxLen; omega) (by omega) hbase ?_; intro v' w' u1 u2 u3; have HF := Lib.hid (And.intro u1 (And.intro u2 u3)); clear u1 u2 u3)
      go_ret
      exact ⟨v', rfl, HF.out.1, HF.out.2.1, HF.out.2.2⟩
    · have hc' : n < cap := by omega
      go_enter Tryz.func178, Tryz.ntmps178
      go_wp2_with (at_builtin; refine wpList_append_st _ rfl (.tmp 23) (.tmp 24) 107 rfl base 142 i0 (.agg #[.string ⟨#[]⟩, .string ⟨#[]⟩]) 2 32 Tryz.underlying107 HI.out.1 HI.out.2.1 HI.out.2.2.1 HI.out.2.2.2 rfl (by decide) (.slice (some ⟨g, 0, none⟩) n cap) (n) _ rfl HO.out ad 1 1 news rfl HN.out.1 HN.out.2.1 HN.out.2.2 (by unfold maxLen; omega) (by omega) hbase ?_; intro v' w' u1 u2 u3; have HF := Lib.hid (And.intro u1 (And.intro u2 u3)); clear u1 u2 u3)
      go_ret
      exact ⟨v', rfl, HF.out.1, HF.out.2.1, HF.out.2.2⟩
set_option maxRecDepth 100000 in
set_option maxHeartbeats 1000000 in
theorem insStr_any (w : World) (base : Nat) (v : Value) (n : Nat) (xs : List Value) (hown : w.ownsRow base 9 1 v n xs) (ad : Addr) (news : List Value) (hl : news.length = 1) (hnews : ∀ j u, news[j]? = some u → w.cell? (ad.add j) = some u) (h1 : ∀ u ∈ news, u.oneCell' = true) (hn : n ≤ 1000) (hbase : base ≤ w.heap.size) :
    Calls Tryz.prog 175 #[v, .int .i64 n, .slice (some ad) 1 1] w (Grew w base 9 1 v (n + 1) (xs ++ news)) := by
  obtain ⟨i0, hi0, hii⟩ := Option.map_eq_some_iff.1 info_str
  obtain ⟨hz0, hz1, hz2⟩ : i0.zero = some (.string ⟨#[]⟩) ∧ i0.size = 1 ∧ i0.bytes = 16 := by
    have := hii; simp at this; exact this
  have HI := Lib.hid (And.intro hi0 (And.intro hz0 (And.intro hz1 hz2)))
  clear hi0 hii hz0 hz1 hz2
  have HO := Lib.hid hown
  have HN := Lib.hid (And.intro hl (And.intro hnews h1))
  have hcap : (v = .slice none 0 0 ∧ n = 0) ∨ ∃ g cap, v = .slice (some ⟨g, 0, none⟩) n cap ∧ n ≤ cap ∧ cap ≤ maxLen := by
    rcases hown.2 with ⟨h2, h3⟩ | ⟨g, cap, cur, h2, -, -, h5, h6, -⟩
    · exact .inl ⟨h2, by have := hown.1; rw [h3] at this; simp at this; omega⟩
    · exact .inr ⟨g, cap, h2, h5, h6⟩
  clear hown hl hnews h1
  rcases hcap with ⟨rfl, rfl⟩ | ⟨g, cap, rfl, hc1, hc2⟩
  · go_enter Tryz.func175, Tryz.ntmps175
    go_wp2_with (at_builtin; refine wpList_append_st _ rfl (.tmp 23) (.tmp 24) 106 rfl base 9 i0 (.string ⟨#[]⟩) 1 16 Tryz.underlying106 HI.out.1 HI.out.2.1 HI.out.2.2.1 HI.out.2.2.2 rfl (by decide) (.slice none 0 0) (0) _ rfl HO.out ad 1 1 news rfl HN.out.1 HN.out.2.1 HN.out.2.2 (by unfold maxLen; omega) (by omega) hbase ?_; intro v' w' u1 u2 u3; have HF := Lib.hid (And.intro u1 (And.intro u2 u3)); clear u1 u2 u3)
    go_ret
    exact ⟨v', rfl, HF.out.1, HF.out.2.1, HF.out.2.2⟩
  · unfold maxLen at hc2
    by_cases hc : cap = n
    · subst hc
      go_enter Tryz.func175, Tryz.ntmps175
      go_wp2_with (at_builtin; refine wpList_append_st _ rfl (.tmp 23) (.tmp 24) 106 rfl base 9 i0 (.string ⟨#[]⟩) 1 16 Tryz.underlying106 HI.out.1 HI.out.2.1 HI.out.2.2.1 HI.out.2.2.2 rfl (by decide) (.slice (some ⟨g, 0, none⟩) cap cap) (cap) _ rfl HO.out ad 1 1 news rfl HN.out.1 HN.out.2.1 HN.out.2.2 (by unfold maxLen; omega) (by omega) hbase ?_; intro v' w' u1 u2 u3; have HF := Lib.hid (And.intro u1 (And.intro u2 u3)); clear u1 u2 u3)
      go_ret
      exact ⟨v', rfl, HF.out.1, HF.out.2.1, HF.out.2.2⟩
    · have hc' : n < cap := by omega
      go_enter Tryz.func175, Tryz.ntmps175
      go_wp2_with (at_builtin; refine wpList_append_st _ rfl (.tmp 23) (.tmp 24) 106 rfl base 9 i0 (.string ⟨#[]⟩) 1 16 Tryz.underlying106 HI.out.1 HI.out.2.1 HI.out.2.2.1 HI.out.2.2.2 rfl (by decide) (.slice (some ⟨g, 0, none⟩) n cap) (n) _ rfl HO.out ad 1 1 news rfl HN.out.1 HN.out.2.1 HN.out.2.2 (by unfold maxLen; omega) (by omega) hbase ?_; intro v' w' u1 u2 u3; have HF := Lib.hid (And.intro u1 (And.intro u2 u3)); clear u1 u2 u3)
      go_ret
      exact ⟨v', rfl, HF.out.1, HF.out.2.1, HF.out.2.2⟩
end Go.Proofs.YtkhllknahjmciaaGreat

/-! A graph in the making: what it holds, and what is not its own. -/
namespace Go.Proofs.YtkhllknahjmciaaGreat
open Go.RowKit
set_option linter.unusedVariables false
set_option linter.unusedSimpArgs false

section
variable {w w' : World} {b1 b2 e1 e2 z1 z2 n1 n2 : Nat} {v1 v2 : Value} {x1 x2 : List Value}
theorem own_type (h : w.ownsRow b1 e1 z1 v1 n1 x1) {g : Nat} (hg : v1.ownBlock = some g) : ∃ cur, Blk w g cur e1 := by
  rcases h.2 with ⟨rfl, _⟩ | ⟨g', cap, cur, rfl, _, h2, _⟩
  · cases hg
  · have : g' = g := by simpa [Value.ownBlock] using hg
    subst this
    exact ⟨cur, h2⟩
theorem blk_type {g t s : Nat} {a b : Array Value} (h : Blk w g a t) (k : Blk w g b s) : t = s := by
  unfold Blk at h k
  rw [h] at k
  injection k with k
  injection k
/-- Rows of two kinds are apart. -/
theorem own_apart (h : w.ownsRow b1 e1 z1 v1 n1 x1) (k : w.ownsRow b2 e2 z2 v2 n2 x2) (hne : e1 ≠ e2) {g : Nat} (hg : v1.ownBlock = some g) : v2.ownBlock ≠ some g := fun hg2 => by
  obtain ⟨c1, k1⟩ := own_type h hg
  obtain ⟨c2, k2⟩ := own_type k hg2
  exact hne (blk_type k1 k2)
/-- Another row has grown. -/
theorem own_other (h : w.ownsRow b1 e1 z1 v1 n1 x1) (k : w.ownsRow b2 e2 z2 v2 n2 x2) (hne : e1 ≠ e2) (c : Chg (fun b => v2.ownBlock = some b) w w') : w'.ownsRow b1 e1 z1 v1 n1 x1 :=
  own_chg h c fun _ hg => own_apart h k hne hg
theorem own_under (h : w.ownsRow b1 e1 z1 v1 n1 x1) {B : Nat} {P : Nat → Prop} (hB : ∀ g, v1.ownBlock = some g → g < B) (hP : ∀ g, P g → B ≤ g) (c : Chg P w w') : w'.ownsRow b1 e1 z1 v1 n1 x1 :=
  own_chg h c fun g hg hp => by have := hB g hg; have := hP g hp; omega
end
/-- A node's cells, and rows of its own that lie below B. -/
def NdO (w : World) (base B : Nat) (t : Nd) (c : List Value) : Prop :=
  ∃ lv pv, c = [.int .i64 t.id, lv, pv] ∧ w.ownsRow base 9 1 lv t.labels.length (strCells t.labels) ∧ w.ownsRow base 142 2 pv t.props.length (propCells t.props) ∧
    (∀ g, lv.ownBlock = some g → g < B) ∧ ∀ g, pv.ownBlock = some g → g < B
def NdOs (w : World) (base B : Nat) : List Nd → List (List Value) → Prop
  | [], css => css = []
  | t :: ts, css => ∃ c cs, css = c :: cs ∧ NdO w base B t c ∧ NdOs w base B ts cs
theorem NdO.mono {w : World} {base B B' : Nat} {t : Nd} {c : List Value} (h : NdO w base B t c) (hB : B ≤ B') : NdO w base B' t c := by
  obtain ⟨lv, pv, h1, h2, h3, h4, h5⟩ := h
  exact ⟨lv, pv, h1, h2, h3, fun g hg => Nat.lt_of_lt_of_le (h4 g hg) hB, fun g hg => Nat.lt_of_lt_of_le (h5 g hg) hB⟩
theorem NdOs.mono {w : World} {base B B' : Nat} (hB : B ≤ B') : ∀ {ts : List Nd} {css : List (List Value)}, NdOs w base B ts css → NdOs w base B' ts css
  | [], _, h => h
  | t :: ts, css, h => by
    obtain ⟨c, cs, h1, h2, h3⟩ := h
    exact ⟨c, cs, h1, h2.mono hB, NdOs.mono hB h3⟩
/-- What turns is no row of texts or properties, or lies from B on. -/
def Apart (w : World) (B : Nat) (S : Nat → Prop) : Prop := ∀ b, b < w.heap.size → S b → B ≤ b ∨ ∃ cs t, Blk w b cs t ∧ t ≠ 9 ∧ t ≠ 142
theorem NdO.chg {S : Nat → Prop} {w w' : World} {base B : Nat} {t : Nd} {c : List Value} (h : NdO w base B t c) (k : Chg S w w') (hS : Apart w B S) : NdO w' base B t c := by
  obtain ⟨lv, pv, h1, h2, h3, h4, h5⟩ := h
  refine ⟨lv, pv, h1, own_chg h2 k fun g hg hs => ?_, own_chg h3 k fun g hg hs => ?_, h4, h5⟩
  · obtain ⟨cur, kb⟩ := own_type h2 hg
    rcases hS g kb.lt hs with h | ⟨cs, t, kc, hn, _⟩
    · have := h4 g hg; omega
    · exact hn (blk_type kc kb)
  · obtain ⟨cur, kb⟩ := own_type h3 hg
    rcases hS g kb.lt hs with h | ⟨cs, t, kc, _, hn⟩
    · have := h5 g hg; omega
    · exact hn (blk_type kc kb)
theorem NdOs.chg {S : Nat → Prop} {w w' : World} {base B : Nat} (k : Chg S w w') (hS : Apart w B S) : ∀ {ts : List Nd} {css : List (List Value)}, NdOs w base B ts css → NdOs w' base B ts css
  | [], _, h => h
  | t :: ts, css, h => by
    obtain ⟨c, cs, h1, h2, h3⟩ := h
    exact ⟨c, cs, h1, h2.chg k hS, NdOs.chg k hS h3⟩
theorem NdO.ndC {w : World} {base B : Nat} {t : Nd} {c : List Value} (h : NdO w base B t c) : NdC w t c := by
  obtain ⟨lv, pv, h1, h2, h3, -⟩ := h
  obtain ⟨la, lc, rfl⟩ := own_slice h2
  obtain ⟨pa, pc, rfl⟩ := own_slice h3
  exact ⟨la, lc, pa, pc, h1, Cells.of_own h2, Cells.of_own h3⟩
theorem NdOs.ndCs {w : World} {base B : Nat} : ∀ {ts : List Nd} {css : List (List Value)}, NdOs w base B ts css → NdCs w ts css
  | [], _, h => h
  | t :: ts, css, h => by
    obtain ⟨c, cs, h1, h2, h3⟩ := h
    exact ⟨c, cs, h1, h2.ndC, h3.ndCs⟩
theorem NdOs.snoc {w : World} {base B : Nat} {t : Nd} {c : List Value} : ∀ {ts : List Nd} {css : List (List Value)}, NdOs w base B ts css → NdO w base B t c → NdOs w base B (ts ++ [t]) (css ++ [c])
  | [], css, h, k => by
    obtain rfl : css = [] := h
    exact ⟨c, [], rfl, k, rfl⟩
  | s :: ts, css, h, k => by
    obtain ⟨d, cs, rfl, h2, h3⟩ := h
    exact ⟨d, cs ++ [c], rfl, h2, h3.snoc k⟩
theorem NdCs.snoc {w : World} {t : Nd} {c : List Value} : ∀ {ts : List Nd} {css : List (List Value)}, NdCs w ts css → NdC w t c → NdCs w (ts ++ [t]) (css ++ [c])
  | [], css, h, k => by
    obtain rfl : css = [] := h
    exact ⟨c, [], rfl, k, rfl⟩
  | s :: ts, css, h, k => by
    obtain ⟨d, cs, rfl, h2, h3⟩ := h
    exact ⟨d, cs ++ [c], rfl, h2, NdCs.snoc h3 k⟩
/-- A graph in the making, between two nodes. -/
structure GSt (w : World) (p : Nat) (ns : List Nd) (es : List Eg) (gv : Int) (nv ev : Value) : Prop where
  box : Blk w p #[nv, ev, .int .i64 gv] 190
  nodes : ∃ css, w.ownsRow (p + 1) 109 3 nv ns.length css.flatten ∧ NdOs w (p + 1) w.heap.size ns css
  edges : w.ownsRow (p + 1) 72 4 ev es.length (egCells es)
/-- .. with a last node in the making, whose rows lie from B on. -/
structure GCu (w : World) (p B : Nat) (ns : List Nd) (c : Nd) (es : List Eg) (gv : Int) (nv ev : Value) : Prop where
  box : Blk w p #[nv, ev, .int .i64 gv] 190
  nodes : ∃ css lv pv, w.ownsRow (p + 1) 109 3 nv (ns.length + 1) (css.flatten ++ [.int .i64 c.id, lv, pv]) ∧ NdOs w (p + 1) B ns css ∧ w.ownsRow B 9 1 lv c.labels.length (strCells c.labels) ∧ w.ownsRow B 142 2 pv c.props.length (propCells c.props)
  edges : w.ownsRow (p + 1) 72 4 ev es.length (egCells es)
  low : p + 1 ≤ B
  high : B ≤ w.heap.size
theorem GSt.ext {w w' : World} {p : Nat} {ns : List Nd} {es : List Eg} {gv : Int} {nv ev : Value} (h : GSt w p ns es gv nv ev) (k : Ext w w') : GSt w' p ns es gv nv ev := by
  obtain ⟨css, h1, h2⟩ := h.nodes
  exact ⟨h.box.chg k (fun h => h), ⟨css, own_low h1 k (fun _ _ h => h), (NdOs.chg k (fun _ _ h => h.elim) h2).mono k.size⟩, own_low h.edges k (fun _ _ h => h)⟩
theorem GCu.ext {w w' : World} {p B : Nat} {ns : List Nd} {c : Nd} {es : List Eg} {gv : Int} {nv ev : Value} (h : GCu w p B ns c es gv nv ev) (k : Ext w w') : GCu w' p B ns c es gv nv ev := by
  obtain ⟨css, lv, pv, h1, h2, h3, h4⟩ := h.nodes
  exact ⟨h.box.chg k (fun h => h), ⟨css, lv, pv, own_low h1 k (fun _ _ h => h), NdOs.chg k (fun _ _ h => h.elim) h2, own_low h3 k (fun _ _ h => h), own_low h4 k (fun _ _ h => h)⟩, own_low h.edges k (fun _ _ h => h), h.low, Nat.le_trans h.high k.size⟩
theorem flat3 : ∀ {ts : List Nd} {css : List (List Value)} {w : World}, NdCs w ts css → css.length = ts.length
  | [], css, w, h => by obtain rfl : css = [] := h; rfl
  | t :: ts, css, w, h => by
    obtain ⟨c, cs, rfl, h2, h3⟩ := h
    rw [List.length_cons, List.length_cons, flat3 h3]
/-- It reads as nodes. -/
theorem GSt.ns {w : World} {p : Nat} {ns : List Nd} {es : List Eg} {gv : Int} {nv ev : Value} (h : GSt w p ns es gv nv ev) : ∃ na nc, nv = .slice na ns.length nc ∧ NsC w ns na nc := by
  obtain ⟨css, h1, h2⟩ := h.nodes
  obtain ⟨na, nc, rfl⟩ := own_slice h1
  exact ⟨na, nc, rfl, css, Cells.of_own h1, h2.ndCs⟩
theorem GCu.ns {w : World} {p B : Nat} {ns : List Nd} {c : Nd} {es : List Eg} {gv : Int} {nv ev : Value} (h : GCu w p B ns c es gv nv ev) : ∃ na nc, nv = .slice na (ns ++ [c]).length nc ∧ NsC w (ns ++ [c]) na nc := by
  obtain ⟨css, lv, pv, h1, h2, h3, h4⟩ := h.nodes
  obtain ⟨na, nc, rfl⟩ := own_slice h1
  obtain ⟨la, lc, rfl⟩ := own_slice h3
  obtain ⟨pa, pc, rfl⟩ := own_slice h4
  refine ⟨na, nc, by simp, css ++ [[.int .i64 c.id, .slice la c.labels.length lc, .slice pa c.props.length pc]], ?_, NdCs.snoc h2.ndCs ⟨la, lc, pa, pc, rfl, Cells.of_own h3, Cells.of_own h4⟩⟩
  have := Cells.of_own h1
  simpa using this
theorem GCu.done {w : World} {p B : Nat} {ns : List Nd} {c : Nd} {es : List Eg} {gv : Int} {nv ev : Value} (h : GCu w p B ns c es gv nv ev) : GSt w p (ns ++ [c]) es gv nv ev := by
  obtain ⟨css, lv, pv, h1, h2, h3, h4⟩ := h.nodes
  refine ⟨h.box, ⟨css ++ [[.int .i64 c.id, lv, pv]], by simpa using h1, (h2.mono h.high).snoc ⟨lv, pv, rfl, ownsRow_base h3 h.low, ownsRow_base h4 h.low, fun g hg => (ownsRow_block h3 g hg).2, fun g hg => (ownsRow_block h4 g hg).2⟩⟩, h.edges⟩
/-- Only what lies from p on has turned. -/
abbrev Hi (p : Nat) (w w' : World) : Prop := Chg (fun b => p ≤ b) w w'
theorem Hi.of_ext {p : Nat} {w w' : World} (h : Ext w w') : Hi p w w' := h.mono fun _ _ h => h.elim
theorem Hi.ext {p : Nat} {w0 w w' : World} (h : Hi p w w') (k : Ext w0 w) (hp : w0.heap.size ≤ p) : Ext w0 w' :=
  ⟨h.os.trans k.os, h.tape.trans k.tape, h.output.trans k.output, Nat.le_trans k.size h.size, fun j hj _ => (h.block j (Nat.lt_of_lt_of_le hj k.size) (by omega)).trans (k.block j hj (fun h => h))⟩
/-- A block that is not the graph's own stands, and is not its own behind it. -/
def Keeps (p B : Nat) (w w' : World) (nv nv' ev ev' : Value) : Prop := ∀ c, c < w.heap.size → c < B → c ≠ p → nv.ownBlock ≠ some c → ev.ownBlock ≠ some c → w'.heap[c]? = w.heap[c]? ∧ nv'.ownBlock ≠ some c ∧ ev'.ownBlock ≠ some c
theorem keeps3 {w w2 w3 w4 : World} {v : Value} {q c : Nat} (hx : Ext w w2) (hg : Chg (fun b => v.ownBlock = some b) w2 w3) (hs : Chg (fun b => b = q) w3 w4) (hc : c < w.heap.size) (h1 : v.ownBlock ≠ some c) (h2 : c ≠ q) : w4.heap[c]? = w.heap[c]? := by
  have a1 := hx.size
  have a2 := hg.size
  exact ((hs.block c (by omega) h2).trans (hg.block c (by omega) h1)).trans (hx.block c hc (fun h => h))
end Go.Proofs.YtkhllknahjmciaaGreat

/-! A graph in the making: a node more. -/
namespace Go.Proofs.YtkhllknahjmciaaGreat
open Go.RowKit
set_option linter.unusedVariables false
set_option linter.unusedSimpArgs false

theorem named_any (s : ByteArray) (w : World) (h : nameOk s = true) :
    Calls Tryz.prog 173 #[.string s] w fun e w' => e = .returned (.bool true) ∧ w' = w := by
  unfold nameOk at h
  simp only [Bool.and_eq_true, decide_eq_true_eq] at h
  have e1 : decide ((0 : Int) < s.size) = true := by simp; omega
  have e2 : decide (0 < s.size) = true := by simp; omega
  have e3 : decide ((s.size : Int) ≤ 20) = true := by simp; omega
  have e4 : decide (s.size ≤ 20) = true := by simp; omega
  clear h
  go_enter Tryz.func173, Tryz.ntmps173
  go_wp2_with fail
  go_ret
  exact ⟨rfl, rfl⟩
theorem find_any (ns : List Nd) (id : Int) (k : Nat) (w : World) (p : Nat) (na : Option Addr) (nc : Nat) (hc : w.cell? ⟨p, 0, none⟩ = some (.slice na ns.length nc)) (h : NsC w ns na nc) (hk : k ≤ ns.length) (hn0 : ns.length ≤ 1000)
    (h1 : ∀ j t, ns[j]? = some t → j < k → t.id < id) (h2 : ∀ j t, ns[j]? = some t → k ≤ j → id ≤ t.id) :
    Calls Tryz.prog 171 #[.pointer (some ⟨p, 0, none⟩), .int .i64 id] w fun e w' => e = .returned (.tuple #[.int .i64 k, .bool (hitN ns[k]? id)]) ∧ Ext w w' := by
  have HC := Lib.hid (bsNode_any ns id k w na nc h hk hn0 h1 h2)
  obtain ⟨B, hB⟩ : ∃ B, (hitN ns[k]? id) = B := ⟨_, rfl⟩
  rw [hB] at HC ⊢
  generalize ns.length = n at HC hc
  clear h h1 h2 hB hk hn0
  go_enter Tryz.func171, Tryz.ntmps171
  go_wp2_with fail
  refine HC.out.mono ?_
  rintro e w2 ⟨rfl, hx⟩
  go_wp2_with fail
  go_ret2
  exact ⟨rfl, hx⟩
/-- All nodes' numbers rise. -/
def Rise (ns : List Nd) : Prop := ∀ (i j : Nat) (s t : Nd), ns[i]? = some s → ns[j]? = some t → i < j → s.id < t.id
theorem find_new (ns : List Nd) (id : Int) (w : World) (p : Nat) (na : Option Addr) (nc : Nat) (hc : w.cell? ⟨p, 0, none⟩ = some (.slice na ns.length nc)) (h : NsC w ns na nc) (hn0 : ns.length ≤ 1000) (hlt : ∀ t ∈ ns, t.id < id) :
    Calls Tryz.prog 171 #[.pointer (some ⟨p, 0, none⟩), .int .i64 id] w fun e w' => e = .returned (.tuple #[.int .i64 ns.length, .bool false]) ∧ Ext w w' := by
  have := find_any ns id ns.length w p na nc hc h (Nat.le_refl _) hn0 (fun j t ht _ => hlt t (List.mem_of_getElem? ht)) (fun j t ht hj => by have := (List.getElem?_eq_some_iff.1 ht).1; omega)
  rw [List.getElem?_eq_none (Nat.le_refl _)] at this
  exact this
theorem find_old (ns : List Nd) (k : Nat) (t : Nd) (w : World) (p : Nat) (na : Option Addr) (nc : Nat) (hc : w.cell? ⟨p, 0, none⟩ = some (.slice na ns.length nc)) (h : NsC w ns na nc) (hn0 : ns.length ≤ 1000) (hr : Rise ns) (hk : ns[k]? = some t) :
    Calls Tryz.prog 171 #[.pointer (some ⟨p, 0, none⟩), .int .i64 t.id] w fun e w' => e = .returned (.tuple #[.int .i64 k, .bool true]) ∧ Ext w w' := by
  have := find_any ns t.id k w p na nc hc h (Nat.le_of_lt (List.getElem?_eq_some_iff.1 hk).1) hn0 (fun j s hs hj => hr j k s t hs hk hj) (fun j s hs hj => by
    rcases Nat.lt_or_ge k j with h' | h'
    · exact Int.le_of_lt (hr k j t s hk hs h')
    · obtain rfl : j = k := by omega
      rw [hk] at hs; cases hs; exact Int.le_refl _)
  rw [hk] at this
  simpa [hitN] using this
def AddPost (w : World) (p : Nat) (ns : List Nd) (c : Nd) (es : List Eg) (gv : Int) (nv ev : Value) (e : Ending) (w' : World) : Prop :=
  ∃ nv', e = .returned (.int .i64 0) ∧ GCu w' p w.heap.size ns c es gv nv' ev ∧ Hi p w w' ∧ Keeps p w.heap.size w w' nv nv' ev ev
set_option maxRecDepth 100000 in
set_option maxHeartbeats 1000000 in
theorem AddNode_any (w : World) (p : Nat) (ns : List Nd) (es : List Eg) (gv : Int) (nv ev : Value) (id : Int) (h : GSt w p ns es gv nv ev) (h1 : 1 ≤ id) (h2 : id ≤ 1000) (hn : ns.length < 12) (hlt : ∀ t ∈ ns, t.id < id) :
    Calls Tryz.prog 124 #[.pointer (some ⟨p, 0, none⟩), .int .i64 id] w (AddPost w p ns ⟨id, [], []⟩ es gv nv ev) := by
  obtain ⟨na, nc, rfl, hc⟩ := h.ns
  obtain ⟨b0, f0, b1, f1, b2, f2⟩ := blk3_base h.box
  have HF := Lib.hid (find_new ns id w p na nc b0 hc (by omega) hlt)
  have HH := Lib.hid h
  obtain ⟨css, hrow, hnd⟩ := h.nodes
  have d1 : decide (id < 1) = false := by simp; omega
  have d2 : decide ((1000 : Int) < id) = false := by simp; omega
  obtain ⟨n, hn'⟩ : ∃ n, ns.length = n := ⟨_, rfl⟩
  have HN := Lib.hid hn'
  rw [hn'] at HF hn b0 hrow
  have HR := Lib.hid (And.intro hrow hnd)
  have d3 : decide ((12 : Int) ≤ n) = false := by simp; omega
  have d4 : decide (12 ≤ n) = false := by simp; omega
  have hpl : p < w.heap.size := h.box.lt
  clear h hc hlt hn' b0 f0 b1 f1 b2 f2 hrow hnd
  go_enter Tryz.func124, Tryz.ntmps124
  go_wp2_with fail
  refine HF.out.mono ?_
  rintro e w2 ⟨rfl, hx⟩
  obtain ⟨b0, f0, b1, f1, b2, f2⟩ := blk3_base (HH.out.box.chg hx (fun h => h))
  have HX := Lib.hid hx
  have hsz := hx.size
  have hown := own_low HR.out.1 hx (fun _ _ h => h)
  rw [HN.out] at b0
  have HI := Lib.hid (insNode_any (w2.alloc (.cells #[.int .i64 id, .slice none 0 0, .slice none 0 0] 109)) (p + 1) _ n _ (hown.alloc _) ⟨w2.heap.size, 0, none⟩ [.int .i64 id, .slice none 0 0, .slice none 0 0] rfl (fun j u hj => news w2 _ _ j u hj) (by simp [Value.oneCell']) (by omega) (by simp; omega))
  have HO := Lib.hid hown
  clear hx hown
  go_wp2_with fail
  refine HI.out.mono ?_
  rintro e w3 ⟨v', rfl, u1, u2, u3⟩
  obtain ⟨a', cap', rfl⟩ := own_slice u1
  have hg := grow_chg u2
  have kp := Blk.own (HH.out.box.chg HX.out (fun h => h)) HO.out (by omega) hg
  obtain ⟨y0, z0, -⟩ := blk3_base kp
  have HG := Lib.hid (And.intro u1 (And.intro hg (And.intro kp u3)))
  clear u1 u2 u3 hg kp b0 f0 b1 f1 b2 f2 HI
  go_wp2_with fail
  go_ret
  obtain ⟨u1, hg, kp, u3⟩ := HG.out
  have hsp := set_chg (p := p) (j := 0) (c := .slice a' (n + 1) cap') (Chg.refl w3)
  have hlow : ∀ g, p + 1 ≤ g → ¬ g = p := by intro g hg e; omega
  refine ⟨_, rfl, ⟨kp.set 0 _, ⟨css, .slice none 0 0, .slice none 0 0, ?_, ?_, World.ownsRow_nil _ _ _ _, World.ownsRow_nil _ _ _ _⟩, ?_, by omega, ?_⟩, ?_, ?_⟩
  · rw [HN.out]; exact own_low u1 hsp hlow
  · have h2 := NdOs.chg HX.out (fun _ _ h => h.elim) HR.out.2
    have h3 := NdOs.chg hg (fun b hb hS => by
      obtain ⟨cur, kb⟩ := own_type HO.out hS
      exact .inr ⟨cur, _, kb, by decide, by decide⟩) h2
    exact NdOs.chg hsp (fun b hb hS => .inr ⟨_, _, hS ▸ kp, by decide, by decide⟩) h3
  · have h2 := own_low HH.out.edges HX.out (fun _ _ h => h)
    exact own_low (own_other h2 HO.out (by decide) hg) hsp hlow
  · have := hg.size
    simp [World.setCell]; omega
  · refine ((Hi.of_ext HX.out).trans (hg.mono fun b _ hb => ?_)).trans (hsp.mono fun b _ hb => ?_)
    · have := (HO.out.lt b hb).1; show p ≤ b; omega
    · show p ≤ b; omega
  · intro c hc _ h1 h2 h3
    rw [HN.out] at h2
    refine ⟨keeps3 HX.out hg hsp hc h2 h1, fun e => ?_, h3⟩
    rcases u3 c e with h | h
    · exact h2 h
    · simp at h; omega
end Go.Proofs.YtkhllknahjmciaaGreat

/-! A graph in the making: a label more. -/
namespace Go.Proofs.YtkhllknahjmciaaGreat
open Go.RowKit
set_option linter.unusedVariables false
set_option linter.unusedSimpArgs false

theorem css_len {w : World} {base B : Nat} {ns : List Nd} {css : List (List Value)} (h : NdOs w base B ns css) : css.flatten.length = ns.length * 3 := by
  have h1 := flat3 h.ndCs
  have h2 := (NdCs.get h.ndCs).1
  rw [List.length_flatten, ← h1]
  clear h h1
  induction css with
  | nil => rfl
  | cons c cs ih =>
    rw [List.map_cons, List.sum_cons, h2 c (by simp), ih (fun d hd => h2 d (by simp [hd])), List.length_cons]
    omega
theorem snoc_at (xs : List Value) (a b c : Value) (m : Nat) (h : xs.length = m) : (xs ++ [a, b, c])[m]? = some a ∧ (xs ++ [a, b, c])[m + 1]? = some b ∧ (xs ++ [a, b, c])[m + 2]? = some c := by
  subst h
  refine ⟨?_, ?_, ?_⟩
  · rw [List.getElem?_append_right (by omega)]; simp
  · rw [List.getElem?_append_right (by omega)]; simp
  · rw [List.getElem?_append_right (by omega)]; simp
theorem snoc_set (xs : List Value) (a b c u : Value) (m : Nat) (h : xs.length = m) : (xs ++ [a, b, c]).set (m + 1) u = xs ++ [a, u, c] ∧ (xs ++ [a, b, c]).set (m + 2) u = xs ++ [a, b, u] := by
  subst h
  refine ⟨?_, ?_⟩
  · rw [List.set_append_right _ _ (by omega)]; simp
  · rw [List.set_append_right _ _ (by omega)]; simp
theorem GCu.at {w : World} {p B : Nat} {ns : List Nd} {c : Nd} {es : List Eg} {gv : Int} {nv ev : Value} (h : GCu w p B ns c es gv nv ev) :
    ∃ g nc css lv pv, nv = .slice (some ⟨g, 0, none⟩) (ns.length + 1) nc ∧ p + 1 ≤ g ∧ w.ownsRow (p + 1) 109 3 (.slice (some ⟨g, 0, none⟩) (ns.length + 1) nc) (ns.length + 1) (css.flatten ++ [.int .i64 c.id, lv, pv]) ∧ NdOs w (p + 1) B ns css ∧
      w.ownsRow B 9 1 lv c.labels.length (strCells c.labels) ∧ w.ownsRow B 142 2 pv c.props.length (propCells c.props) ∧ css.flatten.length = ns.length * 3 ∧
      w.cell? ⟨g, ns.length * 3, none⟩ = some (.int .i64 c.id) ∧ w.cell? ⟨g, ns.length * 3 + 1, none⟩ = some lv ∧ w.cell? ⟨g, ns.length * 3 + 2, none⟩ = some pv := by
  obtain ⟨css, lv, pv, h1, h2, h3, h4⟩ := h.nodes
  have hl := css_len h2
  obtain ⟨g, nc, rfl, hcell⟩ := own_form h1 (by omega)
  have e : ∀ j, (⟨g, 0, none⟩ : Addr).add j = ⟨g, j, none⟩ := fun j => by unfold Addr.add; split <;> simp_all
  obtain ⟨k0, k1, k2⟩ := snoc_at css.flatten (.int .i64 c.id) lv pv _ hl
  have c0 := hcell _ _ k0
  have c1 := hcell _ _ k1
  have c2 := hcell _ _ k2
  rw [e] at c0 c1 c2
  exact ⟨g, nc, css, lv, pv, rfl, (h1.lt g rfl).1, h1, h2, h3, h4, hl, c0, c1, c2⟩
theorem strCells_app : ∀ (a b : List ByteArray), strCells (a ++ b) = strCells a ++ strCells b
  | [], b => rfl
  | s :: a, b => by rw [List.cons_append, strCells, strCells, strCells_app a b]; rfl
theorem propCells_app : ∀ (a b : List (ByteArray × ByteArray)), propCells (a ++ b) = propCells a ++ propCells b
  | [], b => rfl
  | s :: a, b => by rw [List.cons_append, propCells, propCells, propCells_app a b]; rfl
def LabPost (w : World) (p B : Nat) (ns : List Nd) (c : Nd) (es : List Eg) (gv : Int) (nv ev : Value) (e : Ending) (w' : World) : Prop :=
  e = .returned (.int .i64 0) ∧ GCu w' p B ns c es gv nv ev ∧ Hi p w w' ∧ Keeps p B w w' nv nv ev ev
/-- A label's row has grown, and its cell is laid anew. -/
theorem GCu.label {w w' : World} {p B g nc : Nat} {ns : List Nd} {id : Int} {L : List ByteArray} {P : List (ByteArray × ByteArray)} {es : List Eg} {gv : Int} {ev lv pv v' : Value} {css : List (List Value)} {s : ByteArray} (h : GCu w p B ns ⟨id, L, P⟩ es gv (.slice (some ⟨g, 0, none⟩) (ns.length + 1) nc) ev)
    (hrow : w.ownsRow (p + 1) 109 3 (.slice (some ⟨g, 0, none⟩) (ns.length + 1) nc) (ns.length + 1) (css.flatten ++ [.int .i64 id, lv, pv])) (hnd : NdOs w (p + 1) B ns css) (hl : w.ownsRow B 9 1 lv L.length (strCells L)) (hp : w.ownsRow B 142 2 pv P.length (propCells P))
    (u1 : w'.ownsRow B 9 1 v' (L.length + 1) (strCells L ++ [.string s])) (hg : Chg (fun b => lv.ownBlock = some b) w w') :
    GCu (w'.setCell ⟨g, ns.length * 3 + 1, none⟩ v') p B ns ⟨id, L ++ [s], P⟩ es gv (.slice (some ⟨g, 0, none⟩) (ns.length + 1) nc) ev ∧ Hi p w (w'.setCell ⟨g, ns.length * 3 + 1, none⟩ v') := by
  have hlow := h.low
  have hhigh := h.high
  have hrow' := own_other hrow hl (by decide) hg
  have hgp : p + 1 ≤ g := (hrow.lt g rfl).1
  obtain ⟨k1, k2⟩ := hrow'.stored (ns.length * 3 + 1) v'
  have hs : Chg (fun b => b = g) w' (w'.setCell ⟨g, ns.length * 3 + 1, none⟩ v') := set_chg (Chg.refl _)
  obtain ⟨curg, kg⟩ := own_type hrow' (g := g) rfl
  have hkp : Blk w' p _ _ := h.box.chg hg (fun e => by have := (hl.lt p e).1; omega)
  refine ⟨⟨hkp.chg hs (by omega), ⟨css, v', pv, ?_, ?_, ?_, ?_⟩, ?_, hlow, ?_⟩, ?_⟩
  · rw [(snoc_set css.flatten (.int .i64 id) lv pv v' _ (css_len hnd)).1] at k1
    exact k1
  · have h3 := NdOs.chg hg (fun b hb hS => .inl (hl.lt b hS).1) hnd
    exact NdOs.chg hs (fun b hb hS => .inr ⟨_, _, hS ▸ kg, by decide, by decide⟩) h3
  · rw [strCells_app, List.length_append]
    exact own_chg u1 hs fun b hb e => own_apart u1 hrow' (by decide) hb (e ▸ rfl)
  · have h3 := own_other hp hl (by decide) hg
    exact own_chg h3 hs fun b hb e => own_apart h3 hrow' (by decide) hb (e ▸ rfl)
  · have h3 := own_other h.edges hl (by decide) hg
    exact own_chg h3 hs fun b hb e => own_apart h3 hrow' (by decide) hb (e ▸ rfl)
  · have := hg.size
    simp [World.setCell]; omega
  · exact (hg.mono fun b _ hb => by have := (hl.lt b hb).1; show p ≤ b; omega).trans (hs.mono fun b _ hb => by show p ≤ b; omega)
theorem label_facts {w w' : World} {p B g nc m n k z : Nat} {id : Int} {lv nv ev gv lv' : Value} {pv : Value} {css : List (List Value)} {xs : List Value}
    (hrow : w.ownsRow (p + 1) 109 3 (.slice (some ⟨g, 0, none⟩) k nc) k (css.flatten ++ [.int .i64 id, lv', pv])) (hl : w.ownsRow B 9 z lv m xs) (hb : Blk w p #[nv, ev, gv] 190) (hgp : p + 1 ≤ g) (hlo : p + 1 ≤ B)
    (hcl : css.flatten.length = n * 3) (hk : k = n + 1) (hg : Chg (fun b => lv.ownBlock = some b) w.drew w') (v' : Value) :
    w'.cell? ⟨p, 0, none⟩ = some nv ∧ w'.cell? ⟨g, n * 3 + 1, none⟩ = some lv' ∧ w'.frozen? ⟨g, n * 3 + 1, none⟩ = false ∧ (w'.setCell ⟨g, n * 3 + 1, none⟩ v').cell? ⟨p, 0, none⟩ = some nv ∧
      w'.cell? ⟨g, n * 3 + 2, none⟩ = some pv ∧ w'.frozen? ⟨g, n * 3 + 2, none⟩ = false ∧ (w'.setCell ⟨g, n * 3 + 2, none⟩ v').cell? ⟨p, 0, none⟩ = some nv := by
  have hrow0 : w.drew.ownsRow (p + 1) 109 3 (.slice (some ⟨g, 0, none⟩) k nc) k (css.flatten ++ [.int .i64 id, lv', pv]) := hrow
  have hl0 : w.drew.ownsRow B 9 z lv m xs := hl
  have hb0 : Blk w.drew p #[nv, ev, gv] 190 := hb
  have hrow' := own_other hrow0 hl0 (by decide) hg
  have hb' := hb0.chg hg fun e => by have := (hl.lt p e).1; omega
  obtain ⟨k0, k1, k2⟩ := snoc_at css.flatten (.int .i64 id) lv' pv _ hcl
  exact ⟨hb'.cell 0 _ rfl, (hrow'.cellAt (n * 3 + 1) (by omega)).trans k1, hrow'.frozenAt _, (hb'.chg (set_chg (p := g) (Chg.refl _)) (by omega)).cell 0 _ rfl, (hrow'.cellAt (n * 3 + 2) (by omega)).trans k2, hrow'.frozenAt _, (hb'.chg (set_chg (p := g) (Chg.refl _)) (by omega)).cell 0 _ rfl⟩
set_option maxRecDepth 100000 in
set_option maxHeartbeats 1000000 in
theorem Label_any (w : World) (p B : Nat) (ns : List Nd) (id : Int) (L : List ByteArray) (P : List (ByteArray × ByteArray)) (es : List Eg) (gv : Int) (nv ev : Value) (s : ByteArray) (h : GCu w p B ns ⟨id, L, P⟩ es gv nv ev) (hn : ns.length < 12) (hr : Rise (ns ++ [⟨id, L, P⟩])) (hs : nameOk s = true) (hL : L.length < 8) (hlt : ∀ q ∈ L, ltS q s = true) :
    Calls Tryz.prog 125 #[.pointer (some ⟨p, 0, none⟩), .int .i64 id, .string s] w (LabPost w p B ns ⟨id, L ++ [s], P⟩ es gv nv ev) := by
  obtain ⟨na, nc', hnv, hc⟩ := h.ns
  obtain ⟨b0, f0, b1, f1, b2, f2⟩ := blk3_base h.box
  have hk : (ns ++ [(⟨id, L, P⟩ : Nd)])[ns.length]? = some ⟨id, L, P⟩ := by rw [List.getElem?_append_right (Nat.le_refl _)]; simp
  have HF := Lib.hid (find_old (ns ++ [⟨id, L, P⟩]) ns.length ⟨id, L, P⟩ w p na nc' (by rw [← hnv]; exact b0) hc (by simp; omega) hr hk)
  obtain ⟨g, nc, css, lv, pv, rfl, hgp, hrow, hnd, hl, hp, hcl, c0, c1, c2⟩ := h.at
  obtain ⟨la, lc, rfl⟩ := own_slice hl
  have HH := Lib.hid (And.intro h (And.intro hrow (And.intro hnd (And.intro hl hp))))
  have HB := Lib.hid (And.intro hs hlt)
  obtain ⟨n, hn'⟩ : ∃ n, ns.length = n := ⟨_, rfl⟩
  obtain ⟨m, hm'⟩ : ∃ n, L.length = n := ⟨_, rfl⟩
  obtain ⟨k, hk1⟩ : ∃ k, n + 1 = k := ⟨_, rfl⟩
  have HN := Lib.hid (And.intro hn' (And.intro hm' hk1))
  have i1 : (0 : Int) ≤ (n : Int) := by omega
  have i2 : (n : Int) < (k : Int) := by omega
  dsimp only at hl
  rw [hn'] at HF hn b0 c0 c1 c2
  rw [hk1] at b0
  rw [hm'] at c1 hL
  have hlo := h.low
  have hhi := h.high
  have hpl : p < w.heap.size := h.box.lt
  have d3 : decide ((8 : Int) ≤ m) = false := by simp; omega
  have d4 : decide (8 ≤ m) = false := by simp; omega
  have HL := Lib.hid (show css.flatten.length = n * 3 by rw [hcl, hn'])
  clear h hc hlt hn' hm' b0 f0 b1 f1 b2 f2 c0 c1 c2 hrow hnd hl hp hs hr hk hnv hcl hk1
  go_enter Tryz.func125, Tryz.ntmps125
  go_wp2_with fail
  refine HF.out.mono ?_
  rintro e w2 ⟨rfl, hx⟩
  have H2 := HH.out.1.ext hx
  obtain ⟨b0, f0, b1, f1, b2, f2⟩ := blk3_base H2.box
  have hrow2 := own_low HH.out.2.1 hx (fun _ _ h => h)
  have hl2 := own_low HH.out.2.2.2.1 hx (fun _ _ h => h)
  have hp2 := own_low HH.out.2.2.2.2 hx (fun _ _ h => h)
  have hnd2 := NdOs.chg hx (fun _ _ h => h.elim) HH.out.2.2.1
  obtain ⟨k0, k1, k2⟩ := snoc_at css.flatten (.int .i64 id) (.slice la L.length lc) pv _ (css_len hnd2)
  have c1 := (hrow2.cellAt (ns.length * 3 + 1) (by omega)).trans k1
  have HR := Lib.hid (And.intro hrow2 (And.intro hl2 (And.intro hp2 (And.intro hnd2 (And.intro H2 hx)))))
  have HBS := Lib.hid (bsStr_any L s L.length w2 la lc (Cells.of_own hl2) rfl (by rw [HN.out.2.1]; omega) HB.out.2)
  rw [HN.out.1] at b0 c1
  rw [HN.out.2.2] at b0
  rw [HN.out.2.1] at c1 HBS
  have hsz := hx.size
  clear hx hrow2 hl2 hp2 hnd2 H2 k0 k1 k2
  go_wp2_with fail
  refine (named_any s _ HB.out.1).mono ?_
  rintro e w9 ⟨rfl, h9⟩
  subst w9
  go_wp2_with fail
  refine HBS.out.mono ?_
  rintro e w9 ⟨rfl, h9⟩
  subst w9
  go_wp2_with fail
  have hown := HR.out.2.1
  rw [HN.out.2.1] at hown
  have HI := Lib.hid (insStr_any (w2.alloc (.cells #[.string s] 9)).drew B (.slice la m lc) m (strCells L) ((hown.alloc _)) ⟨w2.heap.size, 0, none⟩ [.string s] rfl (fun j u hj => news w2.drew [.string s] 9 j u hj) (by simp [Value.oneCell']) (by omega) (by simp; omega))
  have HO := Lib.hid hown
  clear hown
  have HCs := Lib.hid (fun W (hW : Ext w2 W) => one_ext hW b0)
  have HK := Lib.hid (fun (W : World) (v' : Value) (hg : Chg (fun b => (Value.slice la m lc).ownBlock = some b) w2.drew W) => label_facts (n := n) HR.out.1 HO.out HR.out.2.2.2.2.1.box hgp hlo HL.out (by rw [HN.out.1]) hg v')
  simp only [HN.out.1, HN.out.2.1, HN.out.2.2] at HK
  go_region_held3 (fun v => v.cell? ⟨p, 0, none⟩ = some (.slice (some ⟨g, 0, none⟩) k nc)) (first | with_reducible exact HCs.out _ (Chg.refl (S := fun _ => False) w2).drew | with_reducible exact HCs.out _ ((Chg.refl (S := fun _ => False) w2).alloc _).drew | with_reducible exact HQ.out.1 | with_reducible exact HQ.out.2) ((go_at_call 175; refine HI.out.mono ?_; rintro e w3 ⟨v', rfl, u1, u2, u3⟩; obtain ⟨a', cap', rfl⟩ := own_slice u1; have hg := grow_chg (wr := w2.drew) u2; obtain ⟨y0, y1, z1, y2, -⟩ := HK.out w3 (.slice a' (m + 1) cap') hg; have HQ := Lib.hid (And.intro y0 y2); have HG := Lib.hid (And.intro u1 hg); clear u1 u2 u3 hg y0 y2))
  go_wp2_with fail
  go_ret
  obtain ⟨u1, hg⟩ := HG.out
  have := GCu.label (w := w2.drew) (s := s) (v' := .slice a' (m + 1) cap') (HR.out.2.2.2.2.1.ext (Chg.refl _).drew) HR.out.1 (NdOs.chg (S := fun _ => False) (Chg.refl _).drew (fun _ _ h => h.elim) HR.out.2.2.2.1) HR.out.2.1 HR.out.2.2.1 (by rw [HN.out.2.1]; exact u1) (by rw [HN.out.2.1]; exact hg)
  simp only [HN.out.1] at this
  refine ⟨rfl, by rw [HN.out.1, HN.out.2.2]; rw [HN.out.2.2] at this; exact this.1, (Hi.of_ext HR.out.2.2.2.2.2.drew).trans this.2, ?_⟩
  intro c hc hcB h1 h2 h3
  refine ⟨keeps3 HR.out.2.2.2.2.2.drew hg (set_chg (p := g) (Chg.refl _)) hc (fun e => ?_) (fun e => h2 (by rw [e]; rfl)), h2, h3⟩
  have := (HO.out.lt c e).1
  omega
end Go.Proofs.YtkhllknahjmciaaGreat
