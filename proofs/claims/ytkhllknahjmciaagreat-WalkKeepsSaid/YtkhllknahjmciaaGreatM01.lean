/-
  Worlds, rows and cells: the words of all proofs of this seat. Paths as trees, and how they lie in memory. The document's own answer on paths (chapter 7): how deep, how great. The document's own answer on paths (chapter 7): sizes, names, kinds of kids.
-/
import Derived.Test.YtkhllknahjmciaaGreatChecked
import Derived.WalkKit
import Derived.WalkSmall
import Derived.WalkLawsBesides
import Derived.Lib.Hide
import Derived.BigQuiet
import Derived.Deep.QuietTactic
import Derived.Deep.LoopGhost
import Derived.Deep.RegionHeld3
import Derived.StillTailTactics
import Derived.ArgAppend
import Derived.Handy
/-! Worlds, rows and cells: the words of all proofs of this seat. -/
namespace Go.Proofs.YtkhllknahjmciaaGreat
open Go.RowKit
set_option linter.unusedVariables false

/-! ### Worlds: what has changed -/

/-- Of what was there only blocks of S may have turned. -/
structure Chg (S : Nat → Prop) (w w' : World) : Prop where
  os : w'.os = w.os
  tape : w'.tape = w.tape
  output : w'.output = w.output
  size : w.heap.size ≤ w'.heap.size
  block : ∀ k, k < w.heap.size → ¬ S k → w'.heap[k]? = w.heap[k]?
/-- Nothing that was there has turned. -/
abbrev Ext (w w' : World) : Prop := Chg (fun _ => False) w w'
theorem Chg.refl {S : Nat → Prop} (w : World) : Chg S w w := ⟨rfl, rfl, rfl, Nat.le_refl _, fun _ _ _ => rfl⟩
theorem Chg.mono {S T : Nat → Prop} {a b : World} (h : Chg S a b) (hd : ∀ k, k < a.heap.size → S k → T k) : Chg T a b :=
  ⟨h.os, h.tape, h.output, h.size, fun k hk he => h.block k hk fun hD => he (hd k hk hD)⟩
theorem Chg.trans {S : Nat → Prop} {a b c : World} (h : Chg S a b) (k : Chg S b c) : Chg S a c :=
  ⟨k.os.trans h.os, k.tape.trans h.tape, k.output.trans h.output, Nat.le_trans h.size k.size, fun i hi hd => (k.block i (Nat.lt_of_lt_of_le hi h.size) hd).trans (h.block i hi hd)⟩
theorem Chg.drew {S : Nat → Prop} {a b : World} (h : Chg S a b) : Chg S a b.drew := ⟨h.os, h.tape, h.output, h.size, h.block⟩
theorem Chg.drewN {S : Nat → Prop} {a b : World} (h : Chg S a b) (n : Nat) : Chg S a (b.drewN n) := ⟨h.os, h.tape, h.output, h.size, h.block⟩
theorem Chg.alloc {S : Nat → Prop} {a b : World} (h : Chg S a b) (o : Obj) : Chg S a (b.alloc o) :=
  h.trans ⟨rfl, rfl, rfl, by simp, fun k hk _ => Below.heap_alloc _ _ _ hk⟩
theorem Chg.setCell {S : Nat → Prop} {a b : World} (h : Chg S a b) (p : Addr) (u : Value) (hp : p.block < a.heap.size → S p.block) : Chg S a (b.setCell p u) :=
  ⟨h.os, h.tape, h.output, by simpa [World.setCell] using h.size, fun k hk hd => by
    rw [Below.heap_setCell _ _ _ _ (by rintro rfl; exact hd (hp hk))]; exact h.block k hk hd⟩
theorem Chg.below {B : Nat} {a b : World} (h : Chg (B ≤ ·) a b) (hB : B ≤ a.heap.size) : Below B a b :=
  ⟨h.os, h.tape, h.output, h.size, fun k hk => h.block k (by omega) (by omega)⟩
theorem Ext.below {a b : World} (h : Ext a b) : Below a.heap.size a b := ⟨h.os, h.tape, h.output, h.size, fun k hk => h.block k hk (fun h => h)⟩
theorem Ext.of_below {a b : World} (h : Below a.heap.size a b) : Ext a b := ⟨h.os, h.tape, h.output, h.size, fun k hk _ => h.block k hk⟩
theorem Chg.cell {S : Nat → Prop} {a b : World} (h : Chg S a b) {p : Addr} (hp : p.block < a.heap.size) (hd : ¬ S p.block) : b.cell? p = a.cell? p := World.cell?_of_block (w := a) (h.block p.block hp hd)
theorem Chg.frozen {S : Nat → Prop} {a b : World} (h : Chg S a b) {p : Addr} (hp : p.block < a.heap.size) (hd : ¬ S p.block) : b.frozen? p = a.frozen? p := World.frozen?_of_block (w := a) (h.block p.block hp hd)

theorem lt_of_cell {w : World} {p : Addr} {v : Value} (h : w.cell? p = some v) : p.block < w.heap.size := by
  unfold World.cell? at h
  rcases Nat.lt_or_ge p.block w.heap.size with h1 | h1
  · exact h1
  · rw [Array.getElem?_eq_none h1] at h; cases h

theorem addr_block (x : Addr) (i : Nat) : (x.add i).block = x.block := by unfold Addr.add; split <;> rfl
/-! ### Blocks of cells -/
def Blk (w : World) (b : Nat) (cs : Array Value) (t : Nat) : Prop := w.heap[b]? = some (.cells cs t (0, 0))
section
variable {w w' : World} {b t : Nat} {cs : Array Value}
theorem Blk.cell (h : Blk w b cs t) (j : Nat) (v : Value) (hj : cs[j]? = some v) : w.cell? ⟨b, j, none⟩ = some v := by
  unfold Blk at h; simp [World.cell?, h, hj]
theorem Blk.lt (h : Blk w b cs t) : b < w.heap.size := (Array.getElem?_eq_some_iff.1 h).1
theorem Blk.frozen (h : Blk w b cs t) (j : Nat) : w.frozen? ⟨b, j, none⟩ = false := by
  unfold Blk at h; simp [World.frozen?, h]
theorem Blk.of (h : Blk w b cs t) (k : w'.heap[b]? = w.heap[b]?) : Blk w' b cs t := by unfold Blk at *; rw [k]; exact h
theorem Blk.new (w : World) (cs : Array Value) (t : Nat) : Blk (w.alloc (.cells cs t)) w.heap.size cs t := by
  show (w.heap.push _)[w.heap.size]? = _; simp
theorem Blk.chg {S : Nat → Prop} (h : Blk w b cs t) (k : Chg S w w') (hd : ¬ S b) : Blk w' b cs t := h.of (k.block b h.lt hd)
theorem Blk.set (h : Blk w b cs t) (j : Nat) (u : Value) : Blk (w.setCell ⟨b, j, none⟩ u) b (cs.setIfInBounds j u) t := by
  unfold Blk at *
  simp [World.setCell, Array.getElem?_modify, h]
theorem Blk.drewN (h : Blk w b cs t) (n : Nat) : Blk (w.drewN n) b cs t := h
end

/-- A slice of n elements whose cells hold these values. -/
def Cells (w : World) (a : Option Addr) (n cap : Nat) (xs : List Value) : Prop :=
  n ≤ cap ∧ cap ≤ maxLen ∧ ∀ j u, xs[j]? = some u → ∃ x, a = some x ∧ w.cell? (x.add j) = some u
theorem Cells.chg {S : Nat → Prop} {w w' : World} {a : Option Addr} {n cap : Nat} {xs : List Value} (h : Cells w a n cap xs) (k : Chg S w w') (hS : ∀ b, b < w.heap.size → ¬ S b) : Cells w' a n cap xs :=
  ⟨h.1, h.2.1, fun j u hu => by
    obtain ⟨x, h1, h2⟩ := h.2.2 j u hu
    exact ⟨x, h1, by rw [k.cell (lt_of_cell h2) (hS _ (lt_of_cell h2))]; exact h2⟩⟩
theorem Cells.of_own {w : World} {base : Nat} {e : TypeId} {size : Nat} {a : Option Addr} {n cap : Nat} {xs : List Value} (h : w.ownsRow base e size (.slice a n cap) n xs) : Cells w a n cap xs := by
  rcases h.2 with ⟨h1, rfl⟩ | ⟨g, cap', cur, h1, h2, h3, h4, h5, h6⟩
  · cases h1
    have := h.1
    refine ⟨Nat.le_refl _, by unfold maxLen; omega, fun j u hu => ?_⟩
    have h0 : xs = [] := by simpa using this
    rw [h0] at hu; simp at hu
  · cases h1
    exact ⟨h4, h5, fun j u hu => ⟨_, rfl, h.cells rfl j u hu⟩⟩
theorem ownsRow_cell {w : World} {base : Nat} {e : TypeId} {size : Nat} {g n cap : Nat} {xs : List Value} (h : w.ownsRow base e size (.slice (some ⟨g, 0, none⟩) n cap) n xs) (j : Nat) (u : Value) (hj : xs[j]? = some u) : w.cell? ((⟨g, 0, none⟩ : Addr).add j) = some u := by
  exact h.cells rfl j u hj
theorem ownsRow_base {w : World} {base B : Nat} {e : TypeId} {size : Nat} {v : Value} {n : Nat} {xs : List Value} (h : w.ownsRow base e size v n xs) (hB : B ≤ base) : w.ownsRow B e size v n xs := by
  refine ⟨h.1, ?_⟩
  rcases h.2 with h | ⟨g, cap, cur, h1, h2, h3⟩
  · exact .inl h
  · exact .inr ⟨g, cap, cur, h1, Nat.le_trans hB h2, h3⟩
theorem ownsRow_block {w : World} {base : Nat} {e : TypeId} {size : Nat} {v : Value} {n : Nat} {xs : List Value} (h : w.ownsRow base e size v n xs) (g : Nat) (hg : v.ownBlock = some g) : base ≤ g ∧ g < w.heap.size := by
  rcases h.2 with ⟨rfl, _⟩ | ⟨g', cap, cur, rfl, h2, h3, _⟩
  · cases hg
  · simp [Value.ownBlock] at hg
    subst hg
    exact ⟨h2, (Array.getElem?_eq_some_iff.1 h3).1⟩
theorem run_append_st {P : Program} (w : World) (base : Nat) (t ty e : TypeId) (i : TypeInfo) (z : Value) (size bytes : Nat) (ht : P.underlying t = some (.slice e)) (hi : P.info? e = some i) (hz : i.zero = some z)
    (hsize : i.size = size) (hby : i.bytes = bytes) (hzs : z.cells.size = size) (hsz : 0 < size)
    (v : Value) (n : Nat) (xs : List Value) (hown : w.ownsRow base e size v n xs)
    (ad : Addr) (m c : Nat) (news : List Value) (hl : news.length = m * size) (hnews : ∀ j u, news[j]? = some u → w.cell? (ad.add j) = some u) (h1 : ∀ u ∈ news, u.oneCell' = true)
    (h63 : n + m ≤ maxLen) (hbytes : (n + m) * bytes ≤ 140737488355328) (hbase : base ≤ w.heap.size) :
    ∃ v' w', (Builtin.append_ #[t, t] ty #[v, .slice (some ad) m c]).run P w = .ok v' w' ∧ w'.ownsRow base e size v' (n + m) (xs ++ news) ∧ w.grownBy w' v.ownBlock ∧ ∀ g, v'.ownBlock = some g → v.ownBlock = some g ∨ w.heap.size ≤ g := by
  have gany : ∀ w' : World, w.grownBy w' none → ∀ r, w.grownBy w' r := fun w' k r => ⟨k.os, k.tape, k.output, k.size, fun j hj _ => k.block j hj (by simp)⟩
  rcases hown.2 with ⟨rfl, rfl⟩ | ⟨g, cap, cur, rfl, hg0, hg, hnc, hcm, hcs, htk⟩
  · obtain ⟨v', w', hrun, r1, r2, _⟩ := run_append_own (P := P) (w := w) w.heap.size t ty e i z size bytes ht hi hz hsize hby hzs hsz (.slice none 0 0) 0 [] (World.ownsRow_nil _ _ _ _) ad m c news hl hnews h1 h63 hbytes (Nat.le_refl _)
    obtain rfl : xs = [] := by have := hown.1; simp at this; exact this
    exact ⟨v', w', hrun, ownsRow_base r1 hbase, r2, fun g hg => .inr (ownsRow_block r1 g hg).1⟩
  · by_cases hr : n + m ≤ cap
    · obtain ⟨w', hrun, r1, r2⟩ := run_append_fits (P := P) w base t ty e i size ht hi hsize g n cap xs hown ad m c news hl hnews h1 hr
      exact ⟨_, w', hrun, r1, r2, fun g' hg' => .inl hg'⟩
    · obtain ⟨v', w', hrun, r1, r2⟩ := run_append_arg_grows (P := P) w t ty e i z size bytes ht hi hz hsize hby hzs hsz ⟨g, 0, none⟩ n cap xs hown.1 (fun j u hj => hown.cells rfl j u hj) ad m c news hl hnews (by omega) h63 hbytes
      exact ⟨v', w', hrun, ownsRow_base r1 hbase, gany w' r2 _, fun g hg => .inr (ownsRow_block r1 g hg).1⟩
theorem wp_append_st {P : Program} {o : Oper} {a : Act} {w : World} {K : Act → World → Prop} {Q : Exit → Act → World → Prop}
    (s x : Operand) (t : TypeId)
    (ho : o.op = .call { callee := .builtin .append, args := #[s, x], argTypes := #[t, t] })
    (base : Nat) (e : TypeId) (i : TypeInfo) (z : Value) (size bytes : Nat) (ht : P.underlying t = some (.slice e)) (hi : P.info? e = some i) (hz : i.zero = some z)
    (hsize : i.size = size) (hby : i.bytes = bytes) (hzs : z.cells.size = size) (hsz : 0 < size)
    (v : Value) (n : Nat) (xs : List Value) (hs : a.eval s = v) (hown : w.ownsRow base e size v n xs)
    (ad : Addr) (m c : Nat) (news : List Value) (hx : a.eval x = .slice (some ad) m c) (hl : news.length = m * size) (hnews : ∀ j u, news[j]? = some u → w.cell? (ad.add j) = some u) (h1 : ∀ u ∈ news, u.oneCell' = true)
    (h63 : n + m ≤ maxLen) (hbytes : (n + m) * bytes ≤ 140737488355328) (hbase : base ≤ w.heap.size)
    (h : ∀ v' w', w'.ownsRow base e size v' (n + m) (xs ++ news) → w.grownBy w' v.ownBlock → (∀ g, v'.ownBlock = some g → v.ownBlock = some g ∨ w.heap.size ≤ g) → K (a.put o.dst v') w') : o.wp P a w K Q := by
  obtain ⟨v', w', hrun, r1, r2, r3⟩ := run_append_st (P := P) w base t o.type e i z size bytes ht hi hz hsize hby hzs hsz v n xs hown ad m c news hl hnews h1 h63 hbytes hbase
  unfold Oper.wp
  simp [execOp, ho, resolve, invoke, builtin, hs, hx, hrun, Result.andThen]
  exact h v' w' r1 r2 r3
/-- An append onto a slice of the call's own: the array is the old one, or one that is new. -/
theorem wpList_append_st {P : Program} (w : World) {ops : Array Oper} {rest : List Oper} {o : Oper} {a : Act} {Q : Exit → Act → World → Prop} (hgd : o.guard = none) (s x : Operand) (t : TypeId)
    (ho : o.op = .call { callee := .builtin .append, args := #[s, x], argTypes := #[t, t] })
    (base : Nat) (e : TypeId) (i : TypeInfo) (z : Value) (size bytes : Nat) (ht : P.underlying t = some (.slice e)) (hi : P.info? e = some i) (hz : i.zero = some z)
    (hsize : i.size = size) (hby : i.bytes = bytes) (hzs : z.cells.size = size) (hsz : 0 < size)
    (v : Value) (n : Nat) (xs : List Value) (hs : a.eval s = v) (hown : w.ownsRow base e size v n xs)
    (ad : Addr) (m c : Nat) (news : List Value) (hx : a.eval x = .slice (some ad) m c) (hl : news.length = m * size) (hnews : ∀ j u, news[j]? = some u → w.cell? (ad.add j) = some u) (h1 : ∀ u ∈ news, u.oneCell' = true)
    (h63 : n + m ≤ maxLen) (hbytes : (n + m) * bytes ≤ 140737488355328) (hbase : base ≤ w.heap.size)
    (h : ∀ v' w', w'.ownsRow base e size v' (n + m) (xs ++ news) → w.grownBy w' v.ownBlock → (∀ g, v'.ownBlock = some g → v.ownBlock = some g ∨ w.heap.size ≤ g) → wpList P ops Q rest (a.put o.dst v') w') : wpList P ops Q (o :: rest) a w :=
  wpList_plain hgd fun _ hK => wp_append_st s x t ho base e i z size bytes ht hi hz hsize hby hzs hsz v n xs hs hown ad m c news hx hl hnews h1 h63 hbytes hbase fun v' w' h2 h3 h4 => hK _ _ (h v' w' h2 h3 h4)
/-- The same as one step of a region that draws its order. -/
theorem step_append_st {P : Program} {ops : Array Oper} {o : Oper} {a : Act} {w : World} {K : Act → World → Prop} {Q : Exit → Act → World → Prop} {E : Prop}
    (hgd : o.guard = none) (s x : Operand) (t : TypeId)
    (ho : o.op = .call { callee := .builtin .append, args := #[s, x], argTypes := #[t, t] })
    (base : Nat) (e : TypeId) (i : TypeInfo) (z : Value) (size bytes : Nat) (ht : P.underlying t = some (.slice e)) (hi : P.info? e = some i) (hz : i.zero = some z)
    (hsize : i.size = size) (hby : i.bytes = bytes) (hzs : z.cells.size = size) (hsz : 0 < size)
    (v : Value) (n : Nat) (xs : List Value) (hs : a.eval s = v) (hown : w.ownsRow base e size v n xs)
    (ad : Addr) (m c : Nat) (news : List Value) (hx : a.eval x = .slice (some ad) m c) (hl : news.length = m * size) (hnews : ∀ j u, news[j]? = some u → w.cell? (ad.add j) = some u) (h1 : ∀ u ∈ news, u.oneCell' = true)
    (h63 : n + m ≤ maxLen) (hbytes : (n + m) * bytes ≤ 140737488355328) (hbase : base ≤ w.heap.size)
    (h : ∀ v' w', w'.ownsRow base e size v' (n + m) (xs ++ news) → w.grownBy w' v.ownBlock → (∀ g, v'.ownBlock = some g → v.ownBlock = some g ∨ w.heap.size ≤ g) → K (a.put o.dst v') w') :
    if Region.wanted o (yielded ops a.tmps) = true then Oper.wp P o a w K Q else E := by
  have hw : Region.wanted o (yielded ops a.tmps) = true := by simp [Region.wanted, hgd]
  rw [if_pos hw]
  exact wp_append_st s x t ho base e i z size bytes ht hi hz hsize hby hzs hsz v n xs hs hown ad m c news hx hl hnews h1 h63 hbytes hbase h
/-! ### Rows of the call's own -/
section
variable {w w' : World} {base : Nat} {e : TypeId} {size : Nat} {v : Value} {n : Nat} {xs : List Value}
theorem own_chg {S : Nat → Prop} (h : w.ownsRow base e size v n xs) (k : Chg S w w') (hS : ∀ g, v.ownBlock = some g → ¬ S g) : w'.ownsRow base e size v n xs := by
  refine ⟨h.1, ?_⟩
  rcases h.2 with h | ⟨g, cap, cur, rfl, h1, h2, h3⟩
  · exact .inl h
  · refine .inr ⟨g, cap, cur, rfl, h1, ?_, h3⟩
    rw [k.block g (Array.getElem?_eq_some_iff.1 h2).1 (hS g rfl)]
    exact h2
/-- Only blocks of S have turned, none of this row's. -/
theorem own_low {S : Nat → Prop} (h : w.ownsRow base e size v n xs) (k : Chg S w w') (hS : ∀ g, base ≤ g → ¬ S g) : w'.ownsRow base e size v n xs :=
  own_chg h k fun g hg => hS g (h.lt g hg).1
theorem Chg.of_grown {row : Option Nat} (h : w.grownBy w' row) : Chg (fun k => some k = row) w w' :=
  ⟨h.os, h.tape, h.output, h.size, fun k hk he => h.block k hk he⟩
/-- What is handed in as a slice of the call's own: its form. -/
theorem own_slice (h : w.ownsRow base e size v n xs) : ∃ a cap, v = .slice a n cap := by
  rcases h.2 with ⟨rfl, rfl⟩ | ⟨g, cap, cur, rfl, _⟩
  · exact ⟨none, 0, rfl⟩
  · exact ⟨_, cap, rfl⟩
end
theorem own_form {w : World} {B : Nat} {e : TypeId} {size n : Nat} {v : Value} {xs : List Value} (h : w.ownsRow B e size v n xs) (hn : 0 < n) : ∃ g cap, v = .slice (some ⟨g, 0, none⟩) n cap ∧ ∀ j u, xs[j]? = some u → w.cell? ((⟨g, 0, none⟩ : Addr).add j) = some u := by
  rcases h.2 with ⟨rfl, h0⟩ | ⟨g, cap, cur, rfl, h1, h2⟩
  · omega
  · exact ⟨g, cap, rfl, fun j u hu => h.cells rfl j u hu⟩
/-- The world behind an append onto a row of the call's own, made behind B. -/
theorem ext_grow {w w2 w' : World} {o : Obj} {e : TypeId} {size n : Nat} {v : Value} {xs : List Value} (h : Ext w w2) (hown : w2.ownsRow w.heap.size e size v n xs) (g : (w2.alloc o).grownBy w' v.ownBlock) : Ext w w' := by
  have h' : Chg (fun k => w.heap.size ≤ k) w w2 := h.mono (fun _ _ h => h.elim)
  refine Chg.mono (S := fun k => w.heap.size ≤ k) ?_ (fun k hk h => absurd h (by omega))
  refine (h'.alloc o).trans ⟨g.os, g.tape, g.output, g.size, fun k hk he => g.block k hk fun hs => ?_⟩
  exact he (hown.lt k hs.symm).1
theorem ext_grow0 {w w2 w' : World} {e : TypeId} {size n : Nat} {v : Value} {xs : List Value} (h : Ext w w2) (hown : w2.ownsRow w.heap.size e size v n xs) (g : w2.grownBy w' v.ownBlock) : Ext w w' := by
  have h' : Chg (fun k => w.heap.size ≤ k) w w2 := h.mono (fun _ _ h => h.elim)
  refine Chg.mono (S := fun k => w.heap.size ≤ k) ?_ (fun k hk h => absurd h (by omega))
  refine h'.trans ⟨g.os, g.tape, g.output, g.size, fun k hk he => g.block k hk fun hs => ?_⟩
  exact he (hown.lt k hs.symm).1
theorem add_add (x : Addr) (p j : Nat) : (x.add p).add j = x.add (p + j) := by
  by_cases hp : p = 0
  · subst hp; by_cases hj : j = 0 <;> simp [Addr.add, hj]
  · by_cases hj : j = 0 <;> simp [Addr.add, hj, hp, Nat.add_assoc]
theorem blk5_step {w : World} {p t : Nat} {a0 a1 a2 a3 a4 : Value} (h : Blk w p #[a0, a1, a2, a3, a4] t) (c0 c1 c2 c3 c4 : Value) :
    Blk w p #[a0, a1, a2, a3, a4] t ∧
    Blk (w.setCell ⟨p, 0, none⟩ c0) p #[c0, a1, a2, a3, a4] t ∧
    Blk ((w.setCell ⟨p, 0, none⟩ c0).setCell ⟨p, 1, none⟩ c1) p #[c0, c1, a2, a3, a4] t ∧
    Blk (((w.setCell ⟨p, 0, none⟩ c0).setCell ⟨p, 1, none⟩ c1).setCell ⟨p, 2, none⟩ c2) p #[c0, c1, c2, a3, a4] t ∧
    Blk ((((w.setCell ⟨p, 0, none⟩ c0).setCell ⟨p, 1, none⟩ c1).setCell ⟨p, 2, none⟩ c2).setCell ⟨p, 3, none⟩ c3) p #[c0, c1, c2, c3, a4] t ∧
    Blk (((((w.setCell ⟨p, 0, none⟩ c0).setCell ⟨p, 1, none⟩ c1).setCell ⟨p, 2, none⟩ c2).setCell ⟨p, 3, none⟩ c3).setCell ⟨p, 4, none⟩ c4) p #[c0, c1, c2, c3, c4] t := by
  have h0 := h
  have h1 : Blk (w.setCell ⟨p, 0, none⟩ c0) p #[c0, a1, a2, a3, a4] t := h0.set 0 c0
  have h2 : Blk ((w.setCell ⟨p, 0, none⟩ c0).setCell ⟨p, 1, none⟩ c1) p #[c0, c1, a2, a3, a4] t := h1.set 1 c1
  have h3 : Blk (((w.setCell ⟨p, 0, none⟩ c0).setCell ⟨p, 1, none⟩ c1).setCell ⟨p, 2, none⟩ c2) p #[c0, c1, c2, a3, a4] t := h2.set 2 c2
  have h4 : Blk ((((w.setCell ⟨p, 0, none⟩ c0).setCell ⟨p, 1, none⟩ c1).setCell ⟨p, 2, none⟩ c2).setCell ⟨p, 3, none⟩ c3) p #[c0, c1, c2, c3, a4] t := h3.set 3 c3
  have h5 : Blk (((((w.setCell ⟨p, 0, none⟩ c0).setCell ⟨p, 1, none⟩ c1).setCell ⟨p, 2, none⟩ c2).setCell ⟨p, 3, none⟩ c3).setCell ⟨p, 4, none⟩ c4) p #[c0, c1, c2, c3, c4] t := h4.set 4 c4
  exact ⟨h0, h1, h2, h3, h4, h5⟩
theorem blk5_facts {w : World} {p t : Nat} {a0 a1 a2 a3 a4 : Value} (h : Blk w p #[a0, a1, a2, a3, a4] t) (c0 c1 c2 c3 c4 : Value) :
    (((w.setCell ⟨p, 0, none⟩ c0).setCell ⟨p, 1, none⟩ c1).setCell ⟨p, 2, none⟩ c2).cell? ⟨p, 3, none⟩ = some a3 ∧
    (((w.setCell ⟨p, 0, none⟩ c0).setCell ⟨p, 1, none⟩ c1).setCell ⟨p, 2, none⟩ c2).frozen? ⟨p, 3, none⟩ = false ∧
    ((((w.setCell ⟨p, 0, none⟩ c0).setCell ⟨p, 1, none⟩ c1).setCell ⟨p, 2, none⟩ c2).setCell ⟨p, 3, none⟩ c3).cell? ⟨p, 4, none⟩ = some a4 ∧
    ((((w.setCell ⟨p, 0, none⟩ c0).setCell ⟨p, 1, none⟩ c1).setCell ⟨p, 2, none⟩ c2).setCell ⟨p, 3, none⟩ c3).frozen? ⟨p, 4, none⟩ = false ∧
    (((((w.setCell ⟨p, 0, none⟩ c0).setCell ⟨p, 1, none⟩ c1).setCell ⟨p, 2, none⟩ c2).setCell ⟨p, 3, none⟩ c3).setCell ⟨p, 4, none⟩ c4).cell? ⟨p, 0, none⟩ = some c0 ∧
    (((((w.setCell ⟨p, 0, none⟩ c0).setCell ⟨p, 1, none⟩ c1).setCell ⟨p, 2, none⟩ c2).setCell ⟨p, 3, none⟩ c3).setCell ⟨p, 4, none⟩ c4).cell? ⟨p, 1, none⟩ = some c1 ∧
    (((((w.setCell ⟨p, 0, none⟩ c0).setCell ⟨p, 1, none⟩ c1).setCell ⟨p, 2, none⟩ c2).setCell ⟨p, 3, none⟩ c3).setCell ⟨p, 4, none⟩ c4).cell? ⟨p, 2, none⟩ = some c2 ∧
    (((((w.setCell ⟨p, 0, none⟩ c0).setCell ⟨p, 1, none⟩ c1).setCell ⟨p, 2, none⟩ c2).setCell ⟨p, 3, none⟩ c3).setCell ⟨p, 4, none⟩ c4).cell? ⟨p, 3, none⟩ = some c3 ∧
    (((((w.setCell ⟨p, 0, none⟩ c0).setCell ⟨p, 1, none⟩ c1).setCell ⟨p, 2, none⟩ c2).setCell ⟨p, 3, none⟩ c3).setCell ⟨p, 4, none⟩ c4).cell? ⟨p, 4, none⟩ = some c4 := by
  obtain ⟨h0, h1, h2, h3, h4, h5⟩ := blk5_step h c0 c1 c2 c3 c4
  exact ⟨h3.cell 3 _ rfl, h3.frozen 3, h4.cell 4 _ rfl, h4.frozen 4, h5.cell 0 _ rfl, h5.cell 1 _ rfl, h5.cell 2 _ rfl, h5.cell 3 _ rfl, h5.cell 4 _ rfl⟩
theorem blk5_base {w : World} {p t : Nat} {a0 a1 a2 a3 a4 : Value} (h : Blk w p #[a0, a1, a2, a3, a4] t) :
    w.cell? ⟨p, 0, none⟩ = some a0 ∧ w.frozen? ⟨p, 0, none⟩ = false ∧ w.cell? ⟨p, 1, none⟩ = some a1 ∧ w.frozen? ⟨p, 1, none⟩ = false ∧ w.cell? ⟨p, 2, none⟩ = some a2 ∧ w.frozen? ⟨p, 2, none⟩ = false ∧ w.cell? ⟨p, 3, none⟩ = some a3 ∧ w.frozen? ⟨p, 3, none⟩ = false ∧ w.cell? ⟨p, 4, none⟩ = some a4 ∧ w.frozen? ⟨p, 4, none⟩ = false :=
  ⟨h.cell 0 _ rfl, h.frozen 0, h.cell 1 _ rfl, h.frozen 1, h.cell 2 _ rfl, h.frozen 2, h.cell 3 _ rfl, h.frozen 3, h.cell 4 _ rfl, h.frozen 4⟩
/-- A store of a double (the kit's laws name the other kinds). -/
theorem run_store_f (a : Addr) (b : Nat) (w : World) : (store a (.float .f64 b) .plain).run Tryz.prog w = stored Tryz.prog w a (.float .f64 b) .plain := run_store _ w a _ _ rfl
theorem set_chg {p j : Nat} {W w' : World} {c : Value} (h : Chg (fun k => k = p) W w') : Chg (fun k => k = p) W (w'.setCell ⟨p, j, none⟩ c) := h.setCell _ _ (fun _ => rfl)
/-! ### What has just been made -/
theorem add_zero (x : Addr) : x.add 0 = x := by simp [Addr.add]
theorem news (w : World) (l : List Value) (t : Nat) (j : Nat) (u : Value) (h : l[j]? = some u) : (w.alloc (.cells l.toArray t)).cell? ((⟨w.heap.size, 0, none⟩ : Addr).add j) = some u := by
  have hb : Blk (w.alloc (.cells l.toArray t)) w.heap.size l.toArray t := Blk.new _ _ _
  by_cases hj : j = 0
  · subst hj
    rw [add_zero]
    exact hb.cell 0 u (by simpa using h)
  · have e : (⟨w.heap.size, 0, none⟩ : Addr).add j = ⟨w.heap.size, j, none⟩ := by simp [Addr.add, hj]
    rw [e]
    exact hb.cell j u (by simpa using h)
theorem Cells.nil (w : World) : Cells w none 0 0 [] := ⟨Nat.le_refl _, by unfold maxLen; omega, fun j u hu => by simp at hu⟩
theorem Cells.ext {w w' : World} {a : Option Addr} {n cap : Nat} {xs : List Value} (h : Cells w a n cap xs) (k : Ext w w') : Cells w' a n cap xs := h.chg k (fun _ _ h => h)
theorem Cells.at {w : World} {a : Option Addr} {n cap : Nat} {xs : List Value} (h : Cells w a n cap xs) (j : Nat) (u : Value) (hj : xs[j]? = some u) : ∃ x, a = some x ∧ w.cell? (x.add j) = some u := h.2.2 j u hj
/-- An element of k cells begins with its first one. -/
theorem add_off (x : Addr) (p j : Nat) (hj : 0 < j) : x.add (p + j) = { block := (x.add p).block, off := (x.add p).off + j } := by
  by_cases hp : p = 0
  · subst hp
    simp [Addr.add]; omega
  · have h2 : ¬ p + j = 0 := by omega
    simp [Addr.add, hp, Nat.add_assoc]
end Go.Proofs.YtkhllknahjmciaaGreat

/-! Paths as trees, and how they lie in memory. -/
namespace Go.Proofs.YtkhllknahjmciaaGreat
open Go.RowKit
set_option linter.unusedVariables false

/-- A path. -/
inductive Tr where
  | node (kind : Int) (label : ByteArray) (kids : List Tr) (mn mx : Int)
theorem Tr.ind {P : Tr → Prop} (node : ∀ k l kids mn mx, (∀ t ∈ kids, P t) → P (.node k l kids mn mx)) : ∀ t, P t := by
  intro t
  refine Tr.rec (motive_1 := P) (motive_2 := fun ts => ∀ t ∈ ts, P t) (fun k l kids mn mx ih => node k l kids mn mx ih) (by simp) (fun t ts ih1 ih2 u hu => ?_) t
  rcases List.mem_cons.1 hu with rfl | h
  · exact ih1
  · exact ih2 u h
mutual
/-- The five cells that read as a path. -/
def TrC (w : World) : Tr → List Value → Prop
  | .node k l kids mn mx, cs => ∃ a cap css, cs = [.int .i64 k, .string l, .slice a kids.length cap, .int .i64 mn, .int .i64 mx] ∧ Cells w a kids.length cap (List.flatten css) ∧ TrCs w kids css
def TrCs (w : World) : List Tr → List (List Value) → Prop
  | [], css => css = []
  | t :: ts, css => ∃ c cs, css = c :: cs ∧ TrC w t c ∧ TrCs w ts cs
end
theorem TrCs_nil {w : World} {css : List (List Value)} : TrCs w [] css ↔ css = [] := by unfold TrCs; exact Iff.rfl
theorem TrCs_cons {w : World} {t : Tr} {ts : List Tr} {css : List (List Value)} : TrCs w (t :: ts) css ↔ ∃ c cs, css = c :: cs ∧ TrC w t c ∧ TrCs w ts cs := by
  constructor
  · intro h; unfold TrCs at h; exact h
  · intro h; unfold TrCs; exact h
theorem TrC_node {w : World} {k : Int} {l : ByteArray} {kids : List Tr} {mn mx : Int} {cs : List Value} : TrC w (.node k l kids mn mx) cs ↔ ∃ a cap css, cs = [.int .i64 k, .string l, .slice a kids.length cap, .int .i64 mn, .int .i64 mx] ∧ Cells w a kids.length cap (List.flatten css) ∧ TrCs w kids css := by
  constructor
  · intro h; unfold TrC at h; exact h
  · intro h; unfold TrC; exact h
theorem TrC.ext {w w' : World} (k : Ext w w') (t : Tr) : ∀ cs, TrC w t cs → TrC w' t cs := by
  refine Tr.rec (motive_1 := fun t => ∀ cs, TrC w t cs → TrC w' t cs) (motive_2 := fun ts => ∀ css, TrCs w ts css → TrCs w' ts css) ?_ ?_ ?_ t
  · intro kd l kids mn mx ih cs h
    obtain ⟨a, cap, css, h1, h2, h3⟩ := TrC_node.1 h
    exact TrC_node.2 ⟨a, cap, css, h1, h2.ext k, ih css h3⟩
  · intro css h
    exact TrCs_nil.2 (TrCs_nil.1 h)
  · intro t ts ih1 ih2 css h
    obtain ⟨c, cs, h1, h2, h3⟩ := TrCs_cons.1 h
    exact TrCs_cons.2 ⟨c, cs, h1, ih1 c h2, ih2 cs h3⟩
theorem TrCs.ext {w w' : World} (k : Ext w w') : ∀ (ts : List Tr) (css : List (List Value)), TrCs w ts css → TrCs w' ts css
  | [], css, h => TrCs_nil.2 (TrCs_nil.1 h)
  | t :: ts, css, h => by
    obtain ⟨c, cs, h1, h2, h3⟩ := TrCs_cons.1 h
    exact TrCs_cons.2 ⟨c, cs, h1, TrC.ext k t c h2, TrCs.ext k ts cs h3⟩
theorem TrC.five {w : World} {t : Tr} {cs : List Value} (h : TrC w t cs) : cs.length = 5 := by
  obtain ⟨k, l, kids, mn, mx⟩ := t
  obtain ⟨a, cap, css, rfl, -⟩ := TrC_node.1 h
  rfl
theorem TrC.form {w : World} {t : Tr} {cs : List Value} (h : TrC w t cs) : ∃ k l a n cap mn mx, cs = [.int .i64 k, .string l, .slice a n cap, .int .i64 mn, .int .i64 mx] := by
  obtain ⟨k, l, kids, mn, mx⟩ := t
  obtain ⟨a, cap, css, rfl, -⟩ := TrC_node.1 h
  exact ⟨k, l, a, _, cap, mn, mx, rfl⟩
theorem flat_get (n : Nat) : ∀ (css : List (List Value)) (i j : Nat) (c : List Value) (u : Value), (∀ c ∈ css, c.length = n) → css[i]? = some c → c[j]? = some u → css.flatten[i * n + j]? = some u
  | [], i, j, c, u, _, h, _ => by simp at h
  | d :: ds, 0, j, c, u, hl, h, hj => by
    have e : d = c := by simpa using h
    subst e
    rw [List.flatten_cons, Nat.zero_mul, Nat.zero_add, List.getElem?_append_left (by exact (List.getElem?_eq_some_iff.1 hj).1)]
    exact hj
  | d :: ds, i + 1, j, c, u, hl, h, hj => by
    have hd : d.length = n := hl d (by simp)
    rw [List.flatten_cons, List.getElem?_append_right (by rw [hd, Nat.succ_mul]; omega), hd, show (i + 1) * n + j - n = i * n + j by rw [Nat.succ_mul]; omega]
    exact flat_get n ds i j c u (fun c hc => hl c (by simp [hc])) (by simpa using h) hj
theorem TrCs.get {w : World} : ∀ {ts : List Tr} {css : List (List Value)}, TrCs w ts css → (∀ c ∈ css, c.length = 5) ∧ ∀ (i : Nat) (t : Tr), ts[i]? = some t → ∃ c, css[i]? = some c ∧ TrC w t c
  | [], css, h => by
    obtain rfl := TrCs_nil.1 h
    exact ⟨by simp, fun i t hi => by simp at hi⟩
  | t :: ts, css, h => by
    obtain ⟨c, cs, rfl, h2, h3⟩ := TrCs_cons.1 h
    obtain ⟨h4, h5⟩ := TrCs.get h3
    refine ⟨fun d hd => ?_, fun i u hi => ?_⟩
    · rcases List.mem_cons.1 hd with rfl | hd
      · exact h2.five
      · exact h4 d hd
    · cases i with
      | zero => obtain rfl : t = u := by simpa using hi
                exact ⟨c, rfl, h2⟩
      | succ i => simpa using h5 i u (by simpa using hi)
/-- The kid in its place. -/
theorem kid_at {w : World} {a : Option Addr} {n cap : Nat} {css : List (List Value)} {kids : List Tr} (hc : Cells w a n cap (List.flatten css)) (ht : TrCs w kids css) {i : Nat} {t : Tr} (hi : kids[i]? = some t) :
    ∃ x k l a' n' cap' mn mx, a = some x ∧ TrC w t [.int .i64 k, .string l, .slice a' n' cap', .int .i64 mn, .int .i64 mx] ∧ w.cell? (x.add (i * 5)) = some (.int .i64 k) ∧ w.cell? { block := (x.add (i * 5)).block, off := (x.add (i * 5)).off + 1 } = some (.string l) ∧ w.cell? { block := (x.add (i * 5)).block, off := (x.add (i * 5)).off + 2 } = some (.slice a' n' cap') ∧ w.cell? { block := (x.add (i * 5)).block, off := (x.add (i * 5)).off + 3 } = some (.int .i64 mn) ∧ w.cell? { block := (x.add (i * 5)).block, off := (x.add (i * 5)).off + 4 } = some (.int .i64 mx) := by
  obtain ⟨h5, hg⟩ := ht.get
  obtain ⟨c, hc1, hc2⟩ := hg i t hi
  obtain ⟨k, l, a', n', cap', mn, mx, rfl⟩ := hc2.form
  have key : ∀ j u, ([Value.int .i64 k, .string l, .slice a' n' cap', .int .i64 mn, .int .i64 mx] : List Value)[j]? = some u → ∃ x, a = some x ∧ w.cell? (x.add (i * 5 + j)) = some u := fun j u hu => hc.at _ u (flat_get 5 css i j _ u h5 hc1 hu)
  obtain ⟨x, rfl, k0⟩ := key 0 _ rfl
  obtain ⟨x1, e1, k1⟩ := key 1 _ rfl
  obtain ⟨x2, e2, k2⟩ := key 2 _ rfl
  obtain ⟨x3, e3, k3⟩ := key 3 _ rfl
  obtain ⟨x4, e4, k4⟩ := key 4 _ rfl
  cases e1; cases e2; cases e3; cases e4
  rw [add_off _ _ _ (by decide)] at k1 k2 k3 k4
  exact ⟨x, k, l, a', n', cap', mn, mx, rfl, hc2, k0, k1, k2, k3, k4⟩
end Go.Proofs.YtkhllknahjmciaaGreat

/-! The document's own answer on paths (chapter 7): how deep, how great. -/
namespace Go.Proofs.YtkhllknahjmciaaGreat
open Go.RowKit
set_option linter.unusedVariables false

mutual
def rdeep : Tr → Int → Int
  | .node _ _ kids _ _, at' => rdeeps kids at' at'
def rdeeps : List Tr → Int → Int → Int
  | [], _, n => n
  | t :: ts, at', n => if n ≤ 40 then (if 40 ≤ at' then 41 else rdeeps ts at' (max n (rdeep t (at' + 1)))) else n
end
theorem rdeeps_drop {kids : List Tr} {i : Nat} {t : Tr} (h : kids[i]? = some t) (at' n : Int) : rdeeps (kids.drop i) at' n = if n ≤ 40 then (if 40 ≤ at' then 41 else rdeeps (kids.drop (i + 1)) at' (max n (rdeep t (at' + 1)))) else n := by
  obtain ⟨hi, rfl⟩ := List.getElem?_eq_some_iff.1 h
  rw [List.drop_eq_getElem_cons hi, rdeeps]
theorem drop_end {α : Type} (l : List α) : l.drop l.length = [] := by simp
set_option maxRecDepth 100000 in
set_option maxHeartbeats 1000000 in
theorem rdeep_any (t : Tr) (w : World) (cs : List Value) (at' : Int) (h : TrC w t cs) (h0 : 0 ≤ at') (h1 : at' ≤ 100) :
    Calls Tryz.prog 114 #[.agg cs.toArray, .int .i64 at'] w fun e w' => e = .returned (.int .i64 (rdeep t at')) ∧ Ext w w' := by
  induction t using Tr.ind generalizing w cs at' with
  | node k l kids mn mx ih =>
    obtain ⟨a, cap, css, rfl, hc, ht⟩ := TrC_node.1 h
    have hb := Blk.new w #[.int .i64 k, .string l, .slice a kids.length cap, .int .i64 mn, .int .i64 mx] 28
    have hw1 : Ext w (w.alloc (.cells #[.int .i64 k, .string l, .slice a kids.length cap, .int .i64 mn, .int .i64 mx] 28)) := (Chg.refl w).alloc _
    have hcap := hc.1
    have hmax := hc.2.1
    unfold maxLen at hmax
    obtain ⟨R, hR⟩ : ∃ R, rdeep (.node k l kids mn mx) at' = R := ⟨_, rfl⟩
    rw [hR]
    rw [rdeep] at hR
    have HK := Lib.hid (And.intro hc (And.intro ht (And.intro ih hR)))
    have HB := Lib.hid (And.intro hb hw1)
    clear hc ht ih hb hw1 hR h
    obtain ⟨m, hm⟩ : ∃ m, kids.length = m := ⟨_, rfl⟩
    rw [hm] at HB hcap ⊢
    have HM := Lib.hid hm
    clear hm
    go_enter Tryz.func114, Tryz.ntmps114
    go_wp2_with fail
    go_loopg [5, 6] m (fun g l5 l6 wr => ∃ (i : Nat) (n : Int), i ≤ m ∧ Ext (w.alloc (.cells #[.int .i64 k, .string l, .slice a m cap, .int .i64 mn, .int .i64 mx] 28)) wr ∧ rdeeps (kids.drop i) at' n = R ∧ l5 = .int .i64 n ∧ l6 = .int .i64 i ∧ g = m - i)
    case atStart => exact ⟨0, at', Nat.zero_le _, Chg.refl _, HK.out.2.2.2, rfl, rfl, rfl⟩
    case round =>
      obtain ⟨i, n, hi, hx, hr, rfl, rfl, rfl⟩ := hrel
      have HX := Lib.hid hx
      have k2 := (HB.out.1.chg hx (fun h => h)).cell 2 _ rfl
      by_cases hin : i < m
      · have hin' : (i : Int) < m := by omega
        obtain ⟨u, hu⟩ : ∃ u, kids[i]? = some u := ⟨_, List.getElem?_eq_getElem (by rw [HM.out]; exact hin)⟩
        rw [rdeeps_drop hu] at hr
        by_cases hn : n ≤ 40
        · have hn' : decide (n ≤ 40) = true := by simpa using hn
          rw [if_pos hn] at hr
          by_cases h40 : 40 ≤ at'
          · have h40' : decide (40 ≤ at') = true := by simpa using h40
            rw [if_pos h40] at hr
            have HR := Lib.hid hr
            clear hx hr hu
            go_wp2_with fail
            go_ret
            rw [← HR.out]
            exact ⟨rfl, HB.out.2.trans HX.out⟩
          · have h40' : decide (40 ≤ at') = false := by simpa using h40
            rw [if_neg h40] at hr
            obtain ⟨x, ku, lu, au, nu, cu, mnu, mxu, rfl, htu, c0, c1, c2, c3, c4⟩ := kid_at (HK.out.1.ext (HB.out.2.trans hx)) (HK.out.2.1.ext (HB.out.2.trans hx) _ _) hu
            have hi5 : (0 : Int) ≤ at' + 1 := by omega
            have HC := Lib.hid (HK.out.2.2.1 u (List.mem_of_getElem? hu) wr _ (at' + 1) htu (by omega) (by omega))
            obtain ⟨d, hd⟩ : ∃ d, rdeep u (at' + 1) = d := ⟨_, rfl⟩
            rw [hd] at HC hr
            have HR := Lib.hid hr
            clear hx hr hu htu hd
            go_wp2_with fail
            refine HC.out.mono ?_
            rintro e w2 ⟨rfl, hx2⟩
            have HX2 := Lib.hid hx2
            clear hx2
            go_wp2_with fail
            all_goals
              go_roundg (m - (i + 1))
              case measure => omega
              case rel => exact ⟨i + 1, max n d, by omega, HX.out.trans HX2.out, HR.out, congrArg (Value.int .i64) (by omega), rfl, rfl⟩
        · have hn' : decide (n ≤ 40) = false := by simpa using hn
          rw [if_neg hn] at hr
          have HR := Lib.hid hr
          clear hx hr hu
          go_wp2_with fail
          go_ret
          rw [← HR.out]
          exact ⟨rfl, HB.out.2.trans HX.out⟩
      · obtain rfl : i = m := by omega
        rw [← HM.out, drop_end] at hr
        have HR := Lib.hid hr
        clear hx hr
        go_wp2_with fail
        go_ret
        rw [← HR.out]
        exact ⟨rfl, HB.out.2.trans HX.out⟩
end Go.Proofs.YtkhllknahjmciaaGreat

/-! The document's own answer on paths (chapter 7): sizes, names, kinds of kids. -/
namespace Go.Proofs.YtkhllknahjmciaaGreat
open Go.RowKit
set_option linter.unusedVariables false
set_option linter.unusedSimpArgs false

theorem rDeep_any (t : Tr) (w : World) (cs : List Value) (h : TrC w t cs) :
    Calls Tryz.prog 62 #[.agg cs.toArray] w fun e w' => e = .returned (.int .i64 (rdeep t 1)) ∧ Ext w w' := by
  obtain ⟨k, l, a, n, cap, mn, mx, rfl⟩ := h.form
  have hw1 : Ext w (w.alloc (.cells #[.int .i64 k, .string l, .slice a n cap, .int .i64 mn, .int .i64 mx] 28)) := (Chg.refl w).alloc _
  have HC := Lib.hid (rdeep_any t _ _ 1 (h.ext hw1) (by omega) (by omega))
  have HX := Lib.hid hw1
  clear hw1 h
  go_enter Tryz.func62, Tryz.ntmps62
  go_wp2_with fail
  refine HC.out.mono ?_
  rintro e w2 ⟨rfl, hx⟩
  go_wp2_with fail
  go_ret
  exact ⟨rfl, HX.out.trans hx⟩
/-- Held at a limit. -/
def rsum (a b : Int) : Int := min (a + b) 1099511627776
theorem rsum_any (a b : Int) (h : 0 ≤ a ∧ a ≤ 4398046511104 ∧ 0 ≤ b ∧ b ≤ 4398046511104) (w : World) :
    Calls Tryz.prog 115 #[.int .i64 a, .int .i64 b] w fun e w' => e = .returned (.int .i64 (rsum a b)) ∧ w' = w := by
  obtain ⟨h0, h1, h2, h3⟩ := h
  go_enter Tryz.func115, Tryz.ntmps115
  go_wp2_with fail
  all_goals
    go_ret
    exact ⟨congrArg (fun n => Ending.returned (.int .i64 n)) (by unfold rsum; omega), rfl⟩
theorem rsum_le (a b : Int) (h : 0 ≤ a ∧ 0 ≤ b) : 0 ≤ rsum a b ∧ rsum a b ≤ 1099511627776 := by unfold rsum; omega
theorem rname_any (s : ByteArray) (w : World) :
    Calls Tryz.prog 118 #[.string s] w fun e w' => e = .returned (.bool (decide (1 ≤ s.size) && decide (s.size ≤ 20))) ∧ w' = w := by
  by_cases h1 : 1 ≤ s.size
  · by_cases h2 : s.size ≤ 20
    · have e1 : decide ((1 : Int) ≤ s.size) = true := by simp; omega
      have e2 : decide ((s.size : Int) ≤ 20) = true := by simp; omega
      rw [decide_eq_true h1, decide_eq_true h2]
      go_enter Tryz.func118, Tryz.ntmps118
      go_wp2_with fail
      go_ret
      exact ⟨rfl, rfl⟩
    · have e1 : decide ((1 : Int) ≤ s.size) = true := by simp; omega
      have e2 : decide ((s.size : Int) ≤ 20) = false := by simp; omega
      rw [decide_eq_true h1, decide_eq_false h2]
      go_enter Tryz.func118, Tryz.ntmps118
      go_wp2_with fail
      go_ret
      exact ⟨rfl, rfl⟩
  · have e1 : decide ((1 : Int) ≤ s.size) = false := by simp; omega
    rw [decide_eq_false h1]
    go_enter Tryz.func118, Tryz.ntmps118
    go_wp2_with fail
    go_ret
    exact ⟨rfl, rfl⟩
end Go.Proofs.YtkhllknahjmciaaGreat
