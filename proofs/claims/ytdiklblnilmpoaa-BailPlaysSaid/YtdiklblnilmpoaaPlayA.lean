/-
  The trees of the law BailPlays, and what is noted.
-/
import Derived.Test.YtdiklblnilmpoaaBailF
import Derived.Test.YtdiklblnilmpoaaOwn
import Derived.Deep.LoopGhost
import Derived.Laws.EntriesVeiled
import Derived.Deep.RegionLaw
namespace Go.Proofs.Ytdiklblnilmpoaa
open Go.RowKit
set_option linter.unusedVariables false

/-- What is noted: a block of two cells, the list 'notes' and x; the list's array has been made since B. -/
def Nts (B b T : Nat) (x : Value) (w : World) (l : List Int) : Prop :=
  ∃ v, w.heap[b]? = some (.cells #[v, x] T (0, 0)) ∧ w.ownsRow B 3 1 v l.length (l.map (Value.int .i64)) ∧ b < B
/-- The state's blocks: that block, the list's array, and one more. -/
def NtsD (b : Nat) (S : Nat → Prop) : World → Nat → Prop := fun w k => k = b ∨ S k ∨ ∃ a n c, w.cell? ⟨b, 0, none⟩ = some (.slice (some a) n c) ∧ k = a.block
theorem ntsD_loc (b : Nat) (S : Nat → Prop) : Loc (NtsD b S) := by
  intro w w' h k hk
  have hb : w'.cell? ⟨b, 0, none⟩ = w.cell? ⟨b, 0, none⟩ := World.cell?_of_block (w := w) (h b (.inl rfl))
  rcases hk with rfl | hs | ⟨a, n, c, hc, rfl⟩
  · exact .inl rfl
  · exact .inr (.inl hs)
  · exact .inr (.inr ⟨a, n, c, by rw [← hb]; exact hc, rfl⟩)
theorem Nts.cell {B b T : Nat} {x : Value} {w : World} {l : List Int} (h : Nts B b T x w l) : ∃ v, w.cell? ⟨b, 0, none⟩ = some v ∧ w.cell? ⟨b, 1, none⟩ = some x ∧ w.frozen? ⟨b, 0, none⟩ = false ∧ w.frozen? ⟨b, 1, none⟩ = false ∧ b < w.heap.size := by
  obtain ⟨v, hh, _⟩ := h
  exact ⟨v, by simp [World.cell?, hh], by simp [World.cell?, hh], by simp [World.frozen?, hh], by simp [World.frozen?, hh], (Array.getElem?_eq_some_iff.1 hh).1⟩
theorem Nts.there {B b T : Nat} {x : Value} {w : World} {l : List Int} {S : Nat → Prop} (h : Nts B b T x w l) (hS : ∀ k, S k → k < w.heap.size) : There (NtsD b S) w := by
  obtain ⟨v, hh, ⟨_, ho⟩, _⟩ := h
  have hc : w.cell? ⟨b, 0, none⟩ = some v := by simp [World.cell?, hh]
  rintro k (rfl | hs | ⟨a, n, c, hc', rfl⟩)
  · exact (Array.getElem?_eq_some_iff.1 hh).1
  · exact hS k hs
  · rw [hc] at hc'
    rcases ho with ⟨rfl, _⟩ | ⟨g, cap, cur, rfl, _, hg, _⟩
    · simp at hc'
    · simp at hc'
      obtain ⟨rfl, _⟩ := hc'
      exact (Array.getElem?_eq_some_iff.1 hg).1
theorem Nts.notD {B b T : Nat} {x : Value} {w : World} {l : List Int} {S : Nat → Prop} (h : Nts B b T x w l) {k : Nat} (hk : k ≠ b) (hS : ¬ S k) (hB : k < B) : ¬ NtsD b S w k := by
  obtain ⟨v, hh, ⟨_, ho⟩, _⟩ := h
  have hcv : w.cell? ⟨b, 0, none⟩ = some v := by simp [World.cell?, hh]
  rintro (rfl | hs | ⟨a, n, c, hc, rfl⟩)
  · exact hk rfl
  · exact hS hs
  · rw [hcv] at hc
    rcases ho with ⟨rfl, _⟩ | ⟨g, cap, cur, rfl, hg0, hg, _⟩
    · simp at hc
    · simp at hc
      obtain ⟨rfl, _⟩ := hc
      simp at hB; omega
theorem Nts.of {B b T : Nat} {x : Value} {w w' : World} {l : List Int} {S : Nat → Prop} (h : Nts B b T x w l) (k : ∀ k, NtsD b S w k → w'.heap[k]? = w.heap[k]?) : Nts B b T x w' l := by
  obtain ⟨v, hh, ⟨h1, ho⟩, hB⟩ := h
  have hcv : w.cell? ⟨b, 0, none⟩ = some v := by simp [World.cell?, hh]
  refine ⟨v, by rw [k b (.inl rfl)]; exact hh, ⟨h1, ?_⟩, hB⟩
  rcases ho with ho | ⟨g, cap, cur, rfl, hg0, hg, rest⟩
  · exact .inl ho
  · exact .inr ⟨g, cap, cur, rfl, hg0, by rw [k g (.inr (.inr ⟨_, _, _, hcv, rfl⟩))]; exact hg, rest⟩
theorem Nts.aft {B b T : Nat} {x : Value} {w w2 w' : World} {l : List Int} {S : Nat → Prop} (h : Nts B b T x w2 l) (hS : ∀ k, S k → k < w2.heap.size) (k : Aft (NtsD b S) w w2 w') : Nts B b T x w' l :=
  h.of fun i hi => k.2.block i (h.there hS i hi) fun hn => hn.2 hi
theorem Nts.ext {B b T : Nat} {x : Value} {w w' : World} {l : List Int} (h : Nts B b T x w l) (k : Ext w w') : Nts B b T x w' l :=
  h.of (S := fun _ => False) fun i hi => k.block i (h.there (fun _ h => h.elim) i hi) fun h => h
/-- Behind an append of news to the list: what the walk must know, and what the store comes to. -/
theorem nts_grow {B b T n : Nat} {x v v' : Value} {w wA w' : World} {l l' : List Int} {xs : List Value} {S : Nat → Prop} (hh : w.heap[b]? = some (.cells #[v, x] T (0, 0))) (hown : w.ownsRow B 3 1 v l.length (l.map (Value.int .i64))) (hb : b < B)
    (e : Ext w wA) (r1 : w'.ownsRow B 3 1 v' n xs) (hn : n = l'.length) (hxs : xs = l'.map (Value.int .i64)) (r2 : wA.grownBy w' v.ownBlock) (r3 : ∀ g, v'.ownBlock = some g → v.ownBlock = some g ∨ wA.heap.size ≤ g) (hS : ∀ k, S k → k < w.heap.size) :
    ∃ a c, v' = .slice a n c ∧ w'.cell? ⟨b, 0, none⟩ = some v ∧ w'.frozen? ⟨b, 0, none⟩ = false ∧ b < w'.heap.size ∧ w.heap.size ≤ w'.heap.size ∧ Hid (∀ k, k < w.heap.size → ¬ NtsD b (fun _ => False) w k → w'.heap[k]? = w.heap[k]?) ∧ Hid (Nts B b T x (w'.setCell ⟨b, 0, none⟩ v') l' ∧ Keep (NtsD b S) w (w'.setCell ⟨b, 0, none⟩ v')) := by
  subst hn hxs
  have hbl : b < w.heap.size := (Array.getElem?_eq_some_iff.1 hh).1
  have hcv : w.cell? ⟨b, 0, none⟩ = some v := by simp [World.cell?, hh]
  have hgB0 : ∀ k, v.ownBlock = some k → B ≤ k ∧ NtsD b (fun _ => False) w k := by
    intro k hk
    rcases hown.2 with ⟨rfl, _⟩ | ⟨g, cap, cur, rfl, hg0, _⟩
    · simp [Value.ownBlock] at hk
    · simp [Value.ownBlock] at hk
      subst hk
      exact ⟨hg0, .inr (.inr ⟨_, _, _, hcv, rfl⟩)⟩
  have hgB : ∀ k, v.ownBlock = some k → B ≤ k ∧ NtsD b S w k := fun k hk => ⟨(hgB0 k hk).1, by
    rcases (hgB0 k hk).2 with h | h | h
    · exact .inl h
    · exact h.elim
    · exact .inr (.inr h)⟩
  have hne : some b ≠ v.ownBlock := fun h => by have := (hgB b h.symm).1; omega
  have hes := e.size
  have hbk : w'.heap[b]? = some (.cells #[v, x] T (0, 0)) := by rw [r2.block b (by omega) hne, e.block b hbl (fun h => h)]; exact hh
  obtain ⟨a, c, rfl⟩ : ∃ a c, v' = .slice a l'.length c := by
    rcases r1.2 with ⟨h, h0⟩ | ⟨g, cap, cur, h, _⟩
    · exact ⟨_, _, by rw [h0]; exact h⟩
    · exact ⟨_, _, h⟩
  have hsz : w.heap.size ≤ w'.heap.size := Nat.le_trans hes r2.size
  have hset : (w'.setCell ⟨b, 0, none⟩ (.slice a l'.length c)).heap[b]? = some (.cells #[.slice a l'.length c, x] T (0, 0)) := by
    simp [World.setCell, Array.getElem?_modify, hbk]
  have hN : Nts B b T x (w'.setCell ⟨b, 0, none⟩ (.slice a l'.length c)) l' := ⟨_, hset, ownsRow_setCell_below (a := ⟨b, 0, none⟩) r1 hb _, hb⟩
  refine ⟨a, c, rfl, by simp [World.cell?, hbk], by simp [World.frozen?, hbk], (Array.getElem?_eq_some_iff.1 hbk).1, hsz, fun k hk hd => (r2.block k (by omega) (fun h => hd (hgB0 k h.symm).2)).trans (e.block k hk (fun h => h)), hN, ?_⟩
  refine ⟨r2.os.trans e.os, r2.tape.trans e.tape, r2.output.trans e.output, by simpa [World.setCell] using hsz, fun k hk hd => ?_, fun k hk hd => ?_, fun _ => hN.there (fun k hk => Nat.lt_of_lt_of_le (hS k hk) (by simpa [World.setCell] using hsz))⟩
  · rw [Below.heap_setCell _ _ _ _ (show k ≠ b from fun h => hd (.inl h)), r2.block k (by omega) (fun h => hd (hgB k h.symm).2)]
    exact e.block k hk (fun h => h)
  · rcases hd with rfl | hs | ⟨a', n', c', hc, rfl⟩
    · exact .inl rfl
    · exact .inr (.inl hs)
    · have hc2 : (w'.setCell ⟨b, 0, none⟩ (.slice a l'.length c)).cell? ⟨b, 0, none⟩ = some (.slice a l'.length c) := by simp [World.cell?, hset]
      rw [hc2] at hc
      simp only [Option.some.injEq, Value.slice.injEq] at hc
      obtain ⟨rfl, rfl, rfl⟩ := hc
      rcases r1.2 with ⟨h, _⟩ | ⟨g, cap, cur, h, _⟩
      · cases h
      · simp only [Value.slice.injEq, Option.some.injEq] at h
        obtain ⟨rfl, _, rfl⟩ := h
        rcases r3 g rfl with h | h
        · exact (hgB g h).2
        · simp only at hk; omega
theorem Keep.drewN {D : World → Nat → Prop} {a b : World} (h : Keep D a b) (hl : Loc D) (n : Nat) : Keep D a (b.drewN n) :=
  ⟨h.os, h.tape, h.output, h.size, h.block, fun k hk hd => h.steal k hk (hl b (b.drewN n) (fun _ _ => rfl) k hd), fun ht k hd => h.lt ht k (hl b (b.drewN n) (fun _ _ => rfl) k hd)⟩
theorem Keep.drew {D : World → Nat → Prop} {a b : World} (h : Keep D a b) (hl : Loc D) : Keep D a b.drew := h.drewN hl 1
theorem info_int : (Try.prog.info? 3).map (fun i => (i.zero, i.size, i.bytes)) = some (some (.int .i64 0), 1, 8) := by kernel_rfl

/-- The world, forgotten but for what is needed. -/
theorem wp_world {P : Program} {c : Code} {Q : Exit → Act → World → Prop} {a : Act} {w : World} (R : World → Prop) (hw : R w) (h : ∀ w2, R w2 → c.wp P Q a w2) : c.wp P Q a w := h w hw
/-- A block of cells, not frozen. -/
def Blk (w : World) (b : Nat) (cs : Array Value) (t : Nat) : Prop := w.heap[b]? = some (.cells cs t (0, 0))
theorem Blk.cell {w : World} {b t : Nat} {cs : Array Value} (h : Blk w b cs t) (j : Nat) (v : Value) (hj : cs[j]? = some v) : w.cell? ⟨b, j, none⟩ = some v := by
  unfold Blk at h; simp [World.cell?, h, hj]
theorem Blk.lt {w : World} {b t : Nat} {cs : Array Value} (h : Blk w b cs t) : b < w.heap.size := (Array.getElem?_eq_some_iff.1 h).1
theorem Blk.frozen {w : World} {b t : Nat} {cs : Array Value} (h : Blk w b cs t) (j : Nat) : w.frozen? ⟨b, j, none⟩ = false := by
  unfold Blk at h; simp [World.frozen?, h]
theorem Blk.of {w w' : World} {b t : Nat} {cs : Array Value} (h : Blk w b cs t) (k : w'.heap[b]? = w.heap[b]?) : Blk w' b cs t := by unfold Blk at *; rw [k]; exact h
theorem Blk.new (w : World) (cs : Array Value) (t : Nat) : Blk (w.alloc (.cells cs t)) w.heap.size cs t := by
  show (w.heap.push _)[w.heap.size]? = _; simp
theorem Blk.chg {S : Nat → Prop} {w w' : World} {b t : Nat} {cs : Array Value} (h : Blk w b cs t) (k : Chg S w w') (hd : ¬ S b) : Blk w' b cs t := h.of (k.block b h.lt hd)
theorem Blk.keep {D : World → Nat → Prop} {w w' : World} {b t : Nat} {cs : Array Value} (h : Blk w b cs t) (k : Keep D w w') (hd : ¬ D w b) : Blk w' b cs t := h.of (k.block b h.lt hd)
theorem news1 (w : World) (x : Value) (t : Nat) : ∀ j u, [x][j]? = some u → (w.alloc (.cells #[x] t)).cell? ((⟨w.heap.size, 0, none⟩ : Addr).add j) = some u := by
  intro j u hj
  match j, hj with
  | 0, hj => simp at hj; subst hj; simp [Addr.add]
  | j + 1, hj => simp at hj
theorem Nts.notD_type {B b T n t : Nat} {x : Value} {w : World} {l : List Int} {S : Nat → Prop} {cs : Array Value} (h : Nts B b T x w l) (hb : Blk w n cs t) (ht : t ≠ 3) (hn : n ≠ b) (hS : ¬ S n) : ¬ NtsD b S w n := by
  obtain ⟨v, hh, ⟨_, ho⟩, _⟩ := h
  have hcv : w.cell? ⟨b, 0, none⟩ = some v := by simp [World.cell?, hh]
  rintro (rfl | hs | ⟨a, n', c, hc, rfl⟩)
  · exact hn rfl
  · exact hS hs
  · rw [hcv] at hc
    rcases ho with ⟨rfl, _⟩ | ⟨g, cap, cur, rfl, hg0, hg, _⟩
    · simp at hc
    · simp at hc
      obtain ⟨rfl, _⟩ := hc
      unfold Blk at hb
      simp only at hb
      rw [hg] at hb
      simp only [Option.some.injEq, Obj.cells.injEq] at hb
      exact ht hb.2.1.symm
end Go.Proofs.Ytdiklblnilmpoaa
