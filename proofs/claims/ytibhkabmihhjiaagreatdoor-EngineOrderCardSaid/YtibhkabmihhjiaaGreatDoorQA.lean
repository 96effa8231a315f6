/-
  Worlds, rows and cells: the words of all proofs of this seat.
-/
import Derived.Test.YtibhkabmihhjiaaGreatDoorChecked
import Derived.WalkKit
import Derived.WalkSmall
import Derived.WalkLawsBesides
import Derived.Lib.Hide
import Derived.BigQuiet
import Derived.Deep.QuietTactic
import Derived.Deep.LoopGhost
import Derived.Deep.RegionHeld3
import Derived.StillTailTactics
import Derived.ArgAppend
import Derived.Handy
namespace Go.Proofs.YtibhkabmihhjiaaGreatDoor
open Go.RowKit
set_option linter.unusedVariables false

/-! ### Worlds: what has changed -/

/-- Of what was there only blocks of S may have turned. -/
structure Chg (S : Nat → Prop) (w w' : World) : Prop where
  os : w'.os = w.os
  tape : w'.tape = w.tape
  output : w'.output = w.output
  size : w.heap.size ≤ w'.heap.size
  block : ∀ k, k < w.heap.size → ¬ S k → w'.heap[k]? = w.heap[k]?
/-- Nothing that was there has turned. -/
abbrev Ext (w w' : World) : Prop := Chg (fun _ => False) w w'
theorem Chg.refl {S : Nat → Prop} (w : World) : Chg S w w := ⟨rfl, rfl, rfl, Nat.le_refl _, fun _ _ _ => rfl⟩
theorem Chg.mono {S T : Nat → Prop} {a b : World} (h : Chg S a b) (hd : ∀ k, k < a.heap.size → S k → T k) : Chg T a b :=
  ⟨h.os, h.tape, h.output, h.size, fun k hk he => h.block k hk fun hD => he (hd k hk hD)⟩
theorem Chg.trans {S : Nat → Prop} {a b c : World} (h : Chg S a b) (k : Chg S b c) : Chg S a c :=
  ⟨k.os.trans h.os, k.tape.trans h.tape, k.output.trans h.output, Nat.le_trans h.size k.size, fun i hi hd => (k.block i (Nat.lt_of_lt_of_le hi h.size) hd).trans (h.block i hi hd)⟩
theorem Chg.drew {S : Nat → Prop} {a b : World} (h : Chg S a b) : Chg S a b.drew := ⟨h.os, h.tape, h.output, h.size, h.block⟩
theorem Chg.drewN {S : Nat → Prop} {a b : World} (h : Chg S a b) (n : Nat) : Chg S a (b.drewN n) := ⟨h.os, h.tape, h.output, h.size, h.block⟩
theorem Chg.alloc {S : Nat → Prop} {a b : World} (h : Chg S a b) (o : Obj) : Chg S a (b.alloc o) :=
  h.trans ⟨rfl, rfl, rfl, by simp, fun k hk _ => Below.heap_alloc _ _ _ hk⟩
theorem Chg.setCell {S : Nat → Prop} {a b : World} (h : Chg S a b) (p : Addr) (u : Value) (hp : p.block < a.heap.size → S p.block) : Chg S a (b.setCell p u) :=
  ⟨h.os, h.tape, h.output, by simpa [World.setCell] using h.size, fun k hk hd => by
    rw [Below.heap_setCell _ _ _ _ (by rintro rfl; exact hd (hp hk))]; exact h.block k hk hd⟩
theorem Chg.below {B : Nat} {a b : World} (h : Chg (B ≤ ·) a b) (hB : B ≤ a.heap.size) : Below B a b :=
  ⟨h.os, h.tape, h.output, h.size, fun k hk => h.block k (by omega) (by omega)⟩
theorem Ext.below {a b : World} (h : Ext a b) : Below a.heap.size a b := ⟨h.os, h.tape, h.output, h.size, fun k hk => h.block k hk (fun h => h)⟩
theorem Ext.of_below {a b : World} (h : Below a.heap.size a b) : Ext a b := ⟨h.os, h.tape, h.output, h.size, fun k hk _ => h.block k hk⟩
theorem Chg.cell {S : Nat → Prop} {a b : World} (h : Chg S a b) {p : Addr} (hp : p.block < a.heap.size) (hd : ¬ S p.block) : b.cell? p = a.cell? p := World.cell?_of_block (w := a) (h.block p.block hp hd)
theorem Chg.frozen {S : Nat → Prop} {a b : World} (h : Chg S a b) {p : Addr} (hp : p.block < a.heap.size) (hd : ¬ S p.block) : b.frozen? p = a.frozen? p := World.frozen?_of_block (w := a) (h.block p.block hp hd)

theorem lt_of_cell {w : World} {p : Addr} {v : Value} (h : w.cell? p = some v) : p.block < w.heap.size := by
  unfold World.cell? at h
  rcases Nat.lt_or_ge p.block w.heap.size with h1 | h1
  · exact h1
  · rw [Array.getElem?_eq_none h1] at h; cases h

theorem addr_block (x : Addr) (i : Nat) : (x.add i).block = x.block := by unfold Addr.add; split <;> rfl
/-! ### Blocks of cells -/
def Blk (w : World) (b : Nat) (cs : Array Value) (t : Nat) : Prop := w.heap[b]? = some (.cells cs t (0, 0))
section
variable {w w' : World} {b t : Nat} {cs : Array Value}
theorem Blk.cell (h : Blk w b cs t) (j : Nat) (v : Value) (hj : cs[j]? = some v) : w.cell? ⟨b, j, none⟩ = some v := by
  unfold Blk at h; simp [World.cell?, h, hj]
theorem Blk.lt (h : Blk w b cs t) : b < w.heap.size := (Array.getElem?_eq_some_iff.1 h).1
theorem Blk.frozen (h : Blk w b cs t) (j : Nat) : w.frozen? ⟨b, j, none⟩ = false := by
  unfold Blk at h; simp [World.frozen?, h]
theorem Blk.of (h : Blk w b cs t) (k : w'.heap[b]? = w.heap[b]?) : Blk w' b cs t := by unfold Blk at *; rw [k]; exact h
theorem Blk.new (w : World) (cs : Array Value) (t : Nat) : Blk (w.alloc (.cells cs t)) w.heap.size cs t := by
  show (w.heap.push _)[w.heap.size]? = _; simp
theorem Blk.chg {S : Nat → Prop} (h : Blk w b cs t) (k : Chg S w w') (hd : ¬ S b) : Blk w' b cs t := h.of (k.block b h.lt hd)
theorem Blk.set (h : Blk w b cs t) (j : Nat) (u : Value) : Blk (w.setCell ⟨b, j, none⟩ u) b (cs.setIfInBounds j u) t := by
  unfold Blk at *
  simp [World.setCell, Array.getElem?_modify, h]
theorem Blk.drewN (h : Blk w b cs t) (n : Nat) : Blk (w.drewN n) b cs t := h
end

/-- A slice of n elements whose cells hold these values. -/
def Cells (w : World) (a : Option Addr) (n cap : Nat) (xs : List Value) : Prop :=
  n ≤ cap ∧ cap ≤ maxLen ∧ ∀ j u, xs[j]? = some u → ∃ x, a = some x ∧ w.cell? (x.add j) = some u
theorem Cells.chg {S : Nat → Prop} {w w' : World} {a : Option Addr} {n cap : Nat} {xs : List Value} (h : Cells w a n cap xs) (k : Chg S w w') (hS : ∀ b, b < w.heap.size → ¬ S b) : Cells w' a n cap xs :=
  ⟨h.1, h.2.1, fun j u hu => by
    obtain ⟨x, h1, h2⟩ := h.2.2 j u hu
    exact ⟨x, h1, by rw [k.cell (lt_of_cell h2) (hS _ (lt_of_cell h2))]; exact h2⟩⟩
theorem Cells.of_own {w : World} {base : Nat} {e : TypeId} {size : Nat} {a : Option Addr} {n cap : Nat} {xs : List Value} (h : w.ownsRow base e size (.slice a n cap) n xs) : Cells w a n cap xs := by
  rcases h.2 with ⟨h1, rfl⟩ | ⟨g, cap', cur, h1, h2, h3, h4, h5, h6⟩
  · cases h1
    have := h.1
    refine ⟨Nat.le_refl _, by unfold maxLen; omega, fun j u hu => ?_⟩
    have h0 : xs = [] := by simpa using this
    rw [h0] at hu; simp at hu
  · cases h1
    exact ⟨h4, h5, fun j u hu => ⟨_, rfl, h.cells rfl j u hu⟩⟩
theorem ownsRow_cell {w : World} {base : Nat} {e : TypeId} {size : Nat} {g n cap : Nat} {xs : List Value} (h : w.ownsRow base e size (.slice (some ⟨g, 0, none⟩) n cap) n xs) (j : Nat) (u : Value) (hj : xs[j]? = some u) : w.cell? ((⟨g, 0, none⟩ : Addr).add j) = some u := by
  exact h.cells rfl j u hj
theorem ownsRow_base {w : World} {base B : Nat} {e : TypeId} {size : Nat} {v : Value} {n : Nat} {xs : List Value} (h : w.ownsRow base e size v n xs) (hB : B ≤ base) : w.ownsRow B e size v n xs := by
  refine ⟨h.1, ?_⟩
  rcases h.2 with h | ⟨g, cap, cur, h1, h2, h3⟩
  · exact .inl h
  · exact .inr ⟨g, cap, cur, h1, Nat.le_trans hB h2, h3⟩
theorem ownsRow_block {w : World} {base : Nat} {e : TypeId} {size : Nat} {v : Value} {n : Nat} {xs : List Value} (h : w.ownsRow base e size v n xs) (g : Nat) (hg : v.ownBlock = some g) : base ≤ g ∧ g < w.heap.size := by
  rcases h.2 with ⟨rfl, _⟩ | ⟨g', cap, cur, rfl, h2, h3, _⟩
  · cases hg
  · simp [Value.ownBlock] at hg
    subst hg
    exact ⟨h2, (Array.getElem?_eq_some_iff.1 h3).1⟩
theorem run_append_st {P : Program} (w : World) (base : Nat) (t ty e : TypeId) (i : TypeInfo) (z : Value) (size bytes : Nat) (ht : P.underlying t = some (.slice e)) (hi : P.info? e = some i) (hz : i.zero = some z)
    (hsize : i.size = size) (hby : i.bytes = bytes) (hzs : z.cells.size = size) (hsz : 0 < size)
    (v : Value) (n : Nat) (xs : List Value) (hown : w.ownsRow base e size v n xs)
    (ad : Addr) (m c : Nat) (news : List Value) (hl : news.length = m * size) (hnews : ∀ j u, news[j]? = some u → w.cell? (ad.add j) = some u) (h1 : ∀ u ∈ news, u.oneCell' = true)
    (h63 : n + m ≤ maxLen) (hbytes : (n + m) * bytes ≤ 140737488355328) (hbase : base ≤ w.heap.size) :
    ∃ v' w', (Builtin.append_ #[t, t] ty #[v, .slice (some ad) m c]).run P w = .ok v' w' ∧ w'.ownsRow base e size v' (n + m) (xs ++ news) ∧ w.grownBy w' v.ownBlock ∧ ∀ g, v'.ownBlock = some g → v.ownBlock = some g ∨ w.heap.size ≤ g := by
  have gany : ∀ w' : World, w.grownBy w' none → ∀ r, w.grownBy w' r := fun w' k r => ⟨k.os, k.tape, k.output, k.size, fun j hj _ => k.block j hj (by simp)⟩
  rcases hown.2 with ⟨rfl, rfl⟩ | ⟨g, cap, cur, rfl, hg0, hg, hnc, hcm, hcs, htk⟩
  · obtain ⟨v', w', hrun, r1, r2, _⟩ := run_append_own (P := P) (w := w) w.heap.size t ty e i z size bytes ht hi hz hsize hby hzs hsz (.slice none 0 0) 0 [] (World.ownsRow_nil _ _ _ _) ad m c news hl hnews h1 h63 hbytes (Nat.le_refl _)
    obtain rfl : xs = [] := by have := hown.1; simp at this; exact this
    exact ⟨v', w', hrun, ownsRow_base r1 hbase, r2, fun g hg => .inr (ownsRow_block r1 g hg).1⟩
  · by_cases hr : n + m ≤ cap
    · obtain ⟨w', hrun, r1, r2⟩ := run_append_fits (P := P) w base t ty e i size ht hi hsize g n cap xs hown ad m c news hl hnews h1 hr
      exact ⟨_, w', hrun, r1, r2, fun g' hg' => .inl hg'⟩
    · obtain ⟨v', w', hrun, r1, r2⟩ := run_append_arg_grows (P := P) w t ty e i z size bytes ht hi hz hsize hby hzs hsz ⟨g, 0, none⟩ n cap xs hown.1 (fun j u hj => hown.cells rfl j u hj) ad m c news hl hnews (by omega) h63 hbytes
      exact ⟨v', w', hrun, ownsRow_base r1 hbase, gany w' r2 _, fun g hg => .inr (ownsRow_block r1 g hg).1⟩
theorem wp_append_st {P : Program} {o : Oper} {a : Act} {w : World} {K : Act → World → Prop} {Q : Exit → Act → World → Prop}
    (s x : Operand) (t : TypeId)
    (ho : o.op = .call { callee := .builtin .append, args := #[s, x], argTypes := #[t, t] })
    (base : Nat) (e : TypeId) (i : TypeInfo) (z : Value) (size bytes : Nat) (ht : P.underlying t = some (.slice e)) (hi : P.info? e = some i) (hz : i.zero = some z)
    (hsize : i.size = size) (hby : i.bytes = bytes) (hzs : z.cells.size = size) (hsz : 0 < size)
    (v : Value) (n : Nat) (xs : List Value) (hs : a.eval s = v) (hown : w.ownsRow base e size v n xs)
    (ad : Addr) (m c : Nat) (news : List Value) (hx : a.eval x = .slice (some ad) m c) (hl : news.length = m * size) (hnews : ∀ j u, news[j]? = some u → w.cell? (ad.add j) = some u) (h1 : ∀ u ∈ news, u.oneCell' = true)
    (h63 : n + m ≤ maxLen) (hbytes : (n + m) * bytes ≤ 140737488355328) (hbase : base ≤ w.heap.size)
    (h : ∀ v' w', w'.ownsRow base e size v' (n + m) (xs ++ news) → w.grownBy w' v.ownBlock → (∀ g, v'.ownBlock = some g → v.ownBlock = some g ∨ w.heap.size ≤ g) → K (a.put o.dst v') w') : o.wp P a w K Q := by
  obtain ⟨v', w', hrun, r1, r2, r3⟩ := run_append_st (P := P) w base t o.type e i z size bytes ht hi hz hsize hby hzs hsz v n xs hown ad m c news hl hnews h1 h63 hbytes hbase
  unfold Oper.wp
  simp [execOp, ho, resolve, invoke, builtin, hs, hx, hrun, Result.andThen]
  exact h v' w' r1 r2 r3
/-- An append onto a slice of the call's own: the array is the old one, or one that is new. -/
theorem wpList_append_st {P : Program} (w : World) {ops : Array Oper} {rest : List Oper} {o : Oper} {a : Act} {Q : Exit → Act → World → Prop} (hgd : o.guard = none) (s x : Operand) (t : TypeId)
    (ho : o.op = .call { callee := .builtin .append, args := #[s, x], argTypes := #[t, t] })
    (base : Nat) (e : TypeId) (i : TypeInfo) (z : Value) (size bytes : Nat) (ht : P.underlying t = some (.slice e)) (hi : P.info? e = some i) (hz : i.zero = some z)
    (hsize : i.size = size) (hby : i.bytes = bytes) (hzs : z.cells.size = size) (hsz : 0 < size)
    (v : Value) (n : Nat) (xs : List Value) (hs : a.eval s = v) (hown : w.ownsRow base e size v n xs)
    (ad : Addr) (m c : Nat) (news : List Value) (hx : a.eval x = .slice (some ad) m c) (hl : news.length = m * size) (hnews : ∀ j u, news[j]? = some u → w.cell? (ad.add j) = some u) (h1 : ∀ u ∈ news, u.oneCell' = true)
    (h63 : n + m ≤ maxLen) (hbytes : (n + m) * bytes ≤ 140737488355328) (hbase : base ≤ w.heap.size)
    (h : ∀ v' w', w'.ownsRow base e size v' (n + m) (xs ++ news) → w.grownBy w' v.ownBlock → (∀ g, v'.ownBlock = some g → v.ownBlock = some g ∨ w.heap.size ≤ g) → wpList P ops Q rest (a.put o.dst v') w') : wpList P ops Q (o :: rest) a w :=
  wpList_plain hgd fun _ hK => wp_append_st s x t ho base e i z size bytes ht hi hz hsize hby hzs hsz v n xs hs hown ad m c news hx hl hnews h1 h63 hbytes hbase fun v' w' h2 h3 h4 => hK _ _ (h v' w' h2 h3 h4)
/-- The same as one step of a region that draws its order. -/
theorem step_append_st {P : Program} {ops : Array Oper} {o : Oper} {a : Act} {w : World} {K : Act → World → Prop} {Q : Exit → Act → World → Prop} {E : Prop}
    (hgd : o.guard = none) (s x : Operand) (t : TypeId)
    (ho : o.op = .call { callee := .builtin .append, args := #[s, x], argTypes := #[t, t] })
    (base : Nat) (e : TypeId) (i : TypeInfo) (z : Value) (size bytes : Nat) (ht : P.underlying t = some (.slice e)) (hi : P.info? e = some i) (hz : i.zero = some z)
    (hsize : i.size = size) (hby : i.bytes = bytes) (hzs : z.cells.size = size) (hsz : 0 < size)
    (v : Value) (n : Nat) (xs : List Value) (hs : a.eval s = v) (hown : w.ownsRow base e size v n xs)
    (ad : Addr) (m c : Nat) (news : List Value) (hx : a.eval x = .slice (some ad) m c) (hl : news.length = m * size) (hnews : ∀ j u, news[j]? = some u → w.cell? (ad.add j) = some u) (h1 : ∀ u ∈ news, u.oneCell' = true)
    (h63 : n + m ≤ maxLen) (hbytes : (n + m) * bytes ≤ 140737488355328) (hbase : base ≤ w.heap.size)
    (h : ∀ v' w', w'.ownsRow base e size v' (n + m) (xs ++ news) → w.grownBy w' v.ownBlock → (∀ g, v'.ownBlock = some g → v.ownBlock = some g ∨ w.heap.size ≤ g) → K (a.put o.dst v') w') :
    if Region.wanted o (yielded ops a.tmps) = true then Oper.wp P o a w K Q else E := by
  have hw : Region.wanted o (yielded ops a.tmps) = true := by simp [Region.wanted, hgd]
  rw [if_pos hw]
  exact wp_append_st s x t ho base e i z size bytes ht hi hz hsize hby hzs hsz v n xs hs hown ad m c news hx hl hnews h1 h63 hbytes hbase h
/-! ### Rows of the call's own -/
section
variable {w w' : World} {base : Nat} {e : TypeId} {size : Nat} {v : Value} {n : Nat} {xs : List Value}
theorem own_chg {S : Nat → Prop} (h : w.ownsRow base e size v n xs) (k : Chg S w w') (hS : ∀ g, v.ownBlock = some g → ¬ S g) : w'.ownsRow base e size v n xs := by
  refine ⟨h.1, ?_⟩
  rcases h.2 with h | ⟨g, cap, cur, rfl, h1, h2, h3⟩
  · exact .inl h
  · refine .inr ⟨g, cap, cur, rfl, h1, ?_, h3⟩
    rw [k.block g (Array.getElem?_eq_some_iff.1 h2).1 (hS g rfl)]
    exact h2
/-- Only blocks of S have turned, none of this row's. -/
theorem own_low {S : Nat → Prop} (h : w.ownsRow base e size v n xs) (k : Chg S w w') (hS : ∀ g, base ≤ g → ¬ S g) : w'.ownsRow base e size v n xs :=
  own_chg h k fun g hg => hS g (h.lt g hg).1
theorem Chg.of_grown {row : Option Nat} (h : w.grownBy w' row) : Chg (fun k => some k = row) w w' :=
  ⟨h.os, h.tape, h.output, h.size, fun k hk he => h.block k hk he⟩
/-- What is handed in as a slice of the call's own: its form. -/
theorem own_slice (h : w.ownsRow base e size v n xs) : ∃ a cap, v = .slice a n cap := by
  rcases h.2 with ⟨rfl, rfl⟩ | ⟨g, cap, cur, rfl, _⟩
  · exact ⟨none, 0, rfl⟩
  · exact ⟨_, cap, rfl⟩
end
theorem own_form {w : World} {B : Nat} {e : TypeId} {size n : Nat} {v : Value} {xs : List Value} (h : w.ownsRow B e size v n xs) (hn : 0 < n) : ∃ g cap, v = .slice (some ⟨g, 0, none⟩) n cap ∧ ∀ j u, xs[j]? = some u → w.cell? ((⟨g, 0, none⟩ : Addr).add j) = some u := by
  rcases h.2 with ⟨rfl, h0⟩ | ⟨g, cap, cur, rfl, h1, h2⟩
  · omega
  · exact ⟨g, cap, rfl, fun j u hu => h.cells rfl j u hu⟩
/-- The world behind an append onto a row of the call's own, made behind B. -/
theorem ext_grow {w w2 w' : World} {o : Obj} {e : TypeId} {size n : Nat} {v : Value} {xs : List Value} (h : Ext w w2) (hown : w2.ownsRow w.heap.size e size v n xs) (g : (w2.alloc o).grownBy w' v.ownBlock) : Ext w w' := by
  have h' : Chg (fun k => w.heap.size ≤ k) w w2 := h.mono (fun _ _ h => h.elim)
  refine Chg.mono (S := fun k => w.heap.size ≤ k) ?_ (fun k hk h => absurd h (by omega))
  refine (h'.alloc o).trans ⟨g.os, g.tape, g.output, g.size, fun k hk he => g.block k hk fun hs => ?_⟩
  exact he (hown.lt k hs.symm).1
theorem ext_grow0 {w w2 w' : World} {e : TypeId} {size n : Nat} {v : Value} {xs : List Value} (h : Ext w w2) (hown : w2.ownsRow w.heap.size e size v n xs) (g : w2.grownBy w' v.ownBlock) : Ext w w' := by
  have h' : Chg (fun k => w.heap.size ≤ k) w w2 := h.mono (fun _ _ h => h.elim)
  refine Chg.mono (S := fun k => w.heap.size ≤ k) ?_ (fun k hk h => absurd h (by omega))
  refine h'.trans ⟨g.os, g.tape, g.output, g.size, fun k hk he => g.block k hk fun hs => ?_⟩
  exact he (hown.lt k hs.symm).1
theorem add_add (x : Addr) (p j : Nat) : (x.add p).add j = x.add (p + j) := by
  by_cases hp : p = 0
  · subst hp; by_cases hj : j = 0 <;> simp [Addr.add, hj]
  · by_cases hj : j = 0 <;> simp [Addr.add, hj, hp, Nat.add_assoc]
theorem blk5_step {w : World} {p t : Nat} {a0 a1 a2 a3 a4 : Value} (h : Blk w p #[a0, a1, a2, a3, a4] t) (c0 c1 c2 c3 c4 : Value) :
    Blk w p #[a0, a1, a2, a3, a4] t ∧
    Blk (w.setCell ⟨p, 0, none⟩ c0) p #[c0, a1, a2, a3, a4] t ∧
    Blk ((w.setCell ⟨p, 0, none⟩ c0).setCell ⟨p, 1, none⟩ c1) p #[c0, c1, a2, a3, a4] t ∧
    Blk (((w.setCell ⟨p, 0, none⟩ c0).setCell ⟨p, 1, none⟩ c1).setCell ⟨p, 2, none⟩ c2) p #[c0, c1, c2, a3, a4] t ∧
    Blk ((((w.setCell ⟨p, 0, none⟩ c0).setCell ⟨p, 1, none⟩ c1).setCell ⟨p, 2, none⟩ c2).setCell ⟨p, 3, none⟩ c3) p #[c0, c1, c2, c3, a4] t ∧
    Blk (((((w.setCell ⟨p, 0, none⟩ c0).setCell ⟨p, 1, none⟩ c1).setCell ⟨p, 2, none⟩ c2).setCell ⟨p, 3, none⟩ c3).setCell ⟨p, 4, none⟩ c4) p #[c0, c1, c2, c3, c4] t := by
  have h0 := h
  have h1 : Blk (w.setCell ⟨p, 0, none⟩ c0) p #[c0, a1, a2, a3, a4] t := h0.set 0 c0
  have h2 : Blk ((w.setCell ⟨p, 0, none⟩ c0).setCell ⟨p, 1, none⟩ c1) p #[c0, c1, a2, a3, a4] t := h1.set 1 c1
  have h3 : Blk (((w.setCell ⟨p, 0, none⟩ c0).setCell ⟨p, 1, none⟩ c1).setCell ⟨p, 2, none⟩ c2) p #[c0, c1, c2, a3, a4] t := h2.set 2 c2
  have h4 : Blk ((((w.setCell ⟨p, 0, none⟩ c0).setCell ⟨p, 1, none⟩ c1).setCell ⟨p, 2, none⟩ c2).setCell ⟨p, 3, none⟩ c3) p #[c0, c1, c2, c3, a4] t := h3.set 3 c3
  have h5 : Blk (((((w.setCell ⟨p, 0, none⟩ c0).setCell ⟨p, 1, none⟩ c1).setCell ⟨p, 2, none⟩ c2).setCell ⟨p, 3, none⟩ c3).setCell ⟨p, 4, none⟩ c4) p #[c0, c1, c2, c3, c4] t := h4.set 4 c4
  exact ⟨h0, h1, h2, h3, h4, h5⟩
theorem blk5_facts {w : World} {p t : Nat} {a0 a1 a2 a3 a4 : Value} (h : Blk w p #[a0, a1, a2, a3, a4] t) (c0 c1 c2 c3 c4 : Value) :
    (((w.setCell ⟨p, 0, none⟩ c0).setCell ⟨p, 1, none⟩ c1).setCell ⟨p, 2, none⟩ c2).cell? ⟨p, 3, none⟩ = some a3 ∧
    (((w.setCell ⟨p, 0, none⟩ c0).setCell ⟨p, 1, none⟩ c1).setCell ⟨p, 2, none⟩ c2).frozen? ⟨p, 3, none⟩ = false ∧
    ((((w.setCell ⟨p, 0, none⟩ c0).setCell ⟨p, 1, none⟩ c1).setCell ⟨p, 2, none⟩ c2).setCell ⟨p, 3, none⟩ c3).cell? ⟨p, 4, none⟩ = some a4 ∧
    ((((w.setCell ⟨p, 0, none⟩ c0).setCell ⟨p, 1, none⟩ c1).setCell ⟨p, 2, none⟩ c2).setCell ⟨p, 3, none⟩ c3).frozen? ⟨p, 4, none⟩ = false ∧
    (((((w.setCell ⟨p, 0, none⟩ c0).setCell ⟨p, 1, none⟩ c1).setCell ⟨p, 2, none⟩ c2).setCell ⟨p, 3, none⟩ c3).setCell ⟨p, 4, none⟩ c4).cell? ⟨p, 0, none⟩ = some c0 ∧
    (((((w.setCell ⟨p, 0, none⟩ c0).setCell ⟨p, 1, none⟩ c1).setCell ⟨p, 2, none⟩ c2).setCell ⟨p, 3, none⟩ c3).setCell ⟨p, 4, none⟩ c4).cell? ⟨p, 1, none⟩ = some c1 ∧
    (((((w.setCell ⟨p, 0, none⟩ c0).setCell ⟨p, 1, none⟩ c1).setCell ⟨p, 2, none⟩ c2).setCell ⟨p, 3, none⟩ c3).setCell ⟨p, 4, none⟩ c4).cell? ⟨p, 2, none⟩ = some c2 ∧
    (((((w.setCell ⟨p, 0, none⟩ c0).setCell ⟨p, 1, none⟩ c1).setCell ⟨p, 2, none⟩ c2).setCell ⟨p, 3, none⟩ c3).setCell ⟨p, 4, none⟩ c4).cell? ⟨p, 3, none⟩ = some c3 ∧
    (((((w.setCell ⟨p, 0, none⟩ c0).setCell ⟨p, 1, none⟩ c1).setCell ⟨p, 2, none⟩ c2).setCell ⟨p, 3, none⟩ c3).setCell ⟨p, 4, none⟩ c4).cell? ⟨p, 4, none⟩ = some c4 := by
  obtain ⟨h0, h1, h2, h3, h4, h5⟩ := blk5_step h c0 c1 c2 c3 c4
  exact ⟨h3.cell 3 _ rfl, h3.frozen 3, h4.cell 4 _ rfl, h4.frozen 4, h5.cell 0 _ rfl, h5.cell 1 _ rfl, h5.cell 2 _ rfl, h5.cell 3 _ rfl, h5.cell 4 _ rfl⟩
theorem blk5_base {w : World} {p t : Nat} {a0 a1 a2 a3 a4 : Value} (h : Blk w p #[a0, a1, a2, a3, a4] t) :
    w.cell? ⟨p, 0, none⟩ = some a0 ∧ w.frozen? ⟨p, 0, none⟩ = false ∧ w.cell? ⟨p, 1, none⟩ = some a1 ∧ w.frozen? ⟨p, 1, none⟩ = false ∧ w.cell? ⟨p, 2, none⟩ = some a2 ∧ w.frozen? ⟨p, 2, none⟩ = false ∧ w.cell? ⟨p, 3, none⟩ = some a3 ∧ w.frozen? ⟨p, 3, none⟩ = false ∧ w.cell? ⟨p, 4, none⟩ = some a4 ∧ w.frozen? ⟨p, 4, none⟩ = false :=
  ⟨h.cell 0 _ rfl, h.frozen 0, h.cell 1 _ rfl, h.frozen 1, h.cell 2 _ rfl, h.frozen 2, h.cell 3 _ rfl, h.frozen 3, h.cell 4 _ rfl, h.frozen 4⟩
/-- A store of a double (the kit's laws name the other kinds). -/
theorem run_store_f (a : Addr) (b : Nat) (w : World) : (store a (.float .f64 b) .plain).run Tryz.prog w = stored Tryz.prog w a (.float .f64 b) .plain := run_store _ w a _ _ rfl
theorem set_chg {p j : Nat} {W w' : World} {c : Value} (h : Chg (fun k => k = p) W w') : Chg (fun k => k = p) W (w'.setCell ⟨p, j, none⟩ c) := h.setCell _ _ (fun _ => rfl)
/-! ### What has just been made -/
theorem add_zero (x : Addr) : x.add 0 = x := by simp [Addr.add]
theorem news (w : World) (l : List Value) (t : Nat) (j : Nat) (u : Value) (h : l[j]? = some u) : (w.alloc (.cells l.toArray t)).cell? ((⟨w.heap.size, 0, none⟩ : Addr).add j) = some u := by
  have hb : Blk (w.alloc (.cells l.toArray t)) w.heap.size l.toArray t := Blk.new _ _ _
  by_cases hj : j = 0
  · subst hj
    rw [add_zero]
    exact hb.cell 0 u (by simpa using h)
  · have e : (⟨w.heap.size, 0, none⟩ : Addr).add j = ⟨w.heap.size, j, none⟩ := by simp [Addr.add, hj]
    rw [e]
    exact hb.cell j u (by simpa using h)
theorem Cells.nil (w : World) : Cells w none 0 0 [] := ⟨Nat.le_refl _, by unfold maxLen; omega, fun j u hu => by simp at hu⟩
theorem Cells.ext {w w' : World} {a : Option Addr} {n cap : Nat} {xs : List Value} (h : Cells w a n cap xs) (k : Ext w w') : Cells w' a n cap xs := h.chg k (fun _ _ h => h)
theorem Cells.at {w : World} {a : Option Addr} {n cap : Nat} {xs : List Value} (h : Cells w a n cap xs) (j : Nat) (u : Value) (hj : xs[j]? = some u) : ∃ x, a = some x ∧ w.cell? (x.add j) = some u := h.2.2 j u hj
/-- An element of k cells begins with its first one. -/
theorem add_off (x : Addr) (p j : Nat) (hj : 0 < j) : x.add (p + j) = { block := (x.add p).block, off := (x.add p).off + j } := by
  by_cases hp : p = 0
  · subst hp
    simp [Addr.add]; omega
  · have h2 : ¬ p + j = 0 := by omega
    simp [Addr.add, hp, Nat.add_assoc]
end Go.Proofs.YtibhkabmihhjiaaGreatDoor
