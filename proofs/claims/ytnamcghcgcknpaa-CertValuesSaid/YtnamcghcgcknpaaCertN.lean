/-
  The reader of certs (chapter 24): a cert.
-/
import Derived.Test.YtnamcghcgcknpaaCertI
import Derived.Test.YtnamcghcgcknpaaMayB
import Derived.Deep.RegionHeld3
namespace Go.Proofs.Ytnamcghcgcknpaa
open Go.RowKit
set_option linter.unusedVariables false

/-- The cert's own box, written over as the walk goes. -/
def Cb (w w' : World) (rb : Nat) (cs : Array Value) : Prop := Chg (fun k => k = rb ∨ w.heap.size ≤ k) w w' ∧ Blk w' w.heap.size cs 33
section
variable {w w1 w' : World} {rb : Nat} {cs : Array Value}
theorem Cb.set (h : Cb w w' rb cs) (j : Nat) (u : Value) : Cb w (w'.setCell ⟨w.heap.size, j, none⟩ u) rb (cs.setIfInBounds j u) :=
  ⟨h.1.setCell _ _ (fun _ => .inr (Nat.le_refl _)), h.2.set j u⟩
theorem Cb.call (h : Cb w w1 rb cs) (hlt : rb < w.heap.size) (k : Chg (fun k => k = rb) w1 w') : Cb w w' rb cs :=
  ⟨h.1.trans (k.mono fun _ _ h => .inl h), h.2.chg k (by intro h; have h' : w.heap.size = rb := h; omega)⟩
theorem Cb.low (h : Cb w w' rb cs) : Chg (fun k => k = rb) w w' := h.1.mono fun k hk h => h.elim id fun h => absurd h (by omega)
theorem Cb.ext (h : Cb w w1 rb cs) (k : Ext w1 w') : Cb w w' rb cs := ⟨h.1.trans (k.mono fun _ _ h => h.elim), h.2.chg k (fun h => h)⟩
theorem Cb.drew (h : Cb w w1 rb cs) : Cb w w1.drew rb cs := ⟨h.1.drew, h.2⟩
theorem Cb.size (h : Cb w w1 rb cs) : w.heap.size < w1.heap.size := h.2.lt
theorem Cb.grow {w2 : World} {o : Obj} {e : TypeId} {size n : Nat} {v : Value} {xs : List Value} (h : Cb w w2 rb cs) (hown : w2.ownsRow (w.heap.size + 1) e size v n xs) (g : (w2.alloc o).grownBy w' v.ownBlock) : Cb w w' rb cs :=
  ⟨chg_grow h.1 (ownsRow_base hown (by omega)) g, (h.2.chg (S := fun _ => False) ((Chg.refl _).alloc o) (fun h => h)).chg (Chg.of_grown g) fun hs => by have := (hown.lt _ hs.symm).1; omega⟩
end
theorem own_box {w W : World} {e : TypeId} {size n j : Nat} {v u : Value} {xs : List Value} (h : W.ownsRow (w.heap.size + 1) e size v n xs) : (W.setCell ⟨w.heap.size, j, none⟩ u).ownsRow (w.heap.size + 1) e size v n xs :=
  own_low h (set_chg (Chg.refl _) : Chg (fun k => k = w.heap.size) W _) fun g hg h => by have h' : g = w.heap.size := h; omega
theorem own_rd {w W W' : World} {rb : Nat} {e : TypeId} {size n : Nat} {v : Value} {xs : List Value} (h : W.ownsRow (w.heap.size + 1) e size v n xs) (hlt : rb < w.heap.size) (k : Chg (fun k => k = rb) W W') : W'.ownsRow (w.heap.size + 1) e size v n xs :=
  own_low h k fun g hg h => by have h' : g = rb := h; omega
def natCells (l : List Nat) : List Value := l.map fun (n : Nat) => Value.int .i64 (n : Int)
theorem natCells_app (l : List Nat) (k : Nat) : natCells l ++ [.int .i64 (k : Int)] = natCells (l ++ [k]) := by simp [natCells]
theorem info_int : (Try.prog.info? 3).map (fun i => (i.zero, i.size, i.bytes)) = some (some (.int .i64 0), 1, 8) := by kernel_rfl
theorem info_row : (Try.prog.info? 54).map (fun i => (i.zero, i.size, i.bytes)) = some (some (.slice none 0 0), 1, 24) := by kernel_rfl
theorem newsV (w : World) (d : Value) (t : Nat) (j : Nat) (u : Value) (h : [d][j]? = some u) :
    (w.alloc (.cells #[d] t)).cell? ((⟨w.heap.size, 0, none⟩ : Addr).add j) = some u := by
  match j, h with
  | 0, h => simpa [go_sem] using h
/-- The walks' rows: each is the call's own, and none is the block bl. -/
def SRows (w : World) (B : Nat) (bl : Option Nat) : List Value → List (List (Nat × Bool)) → Prop
  | [], [] => True
  | u :: us, l :: ls => (w.ownsRow B 56 2 u l.length (stepCells l) ∧ ∀ g, u.ownBlock = some g → bl ≠ some g) ∧ SRows w B bl us ls
  | _, _ => False
theorem SRows.chg {w w' : World} {B : Nat} {bl bl' : Option Nat} {S : Nat → Prop} (k : Chg S w w') (hS : ∀ g, B ≤ g → g < w.heap.size → bl ≠ some g → ¬ S g ∧ bl' ≠ some g) : ∀ {us : List Value} {ls : List (List (Nat × Bool))}, SRows w B bl us ls → SRows w' B bl' us ls
  | [], [], _ => trivial
  | u :: us, l :: ls, h => by
    obtain ⟨⟨h1, h2⟩, h3⟩ := h
    have hl := h1.lt
    exact ⟨⟨own_chg h1 k fun g hg => (hS g (hl g hg).1 (hl g hg).2 (h2 g hg)).1, fun g hg => (hS g (hl g hg).1 (hl g hg).2 (h2 g hg)).2⟩, SRows.chg k hS h3⟩
  | [], _ :: _, h => h.elim
  | _ :: _, [], h => h.elim
theorem SRows.snoc {w : World} {B : Nat} {bl : Option Nat} {u : Value} {l : List (Nat × Bool)} (hu : w.ownsRow B 56 2 u l.length (stepCells l)) (hb : ∀ g, u.ownBlock = some g → bl ≠ some g) : ∀ {us : List Value} {ls : List (List (Nat × Bool))}, SRows w B bl us ls → SRows w B bl (us ++ [u]) (ls ++ [l])
  | [], [], _ => ⟨⟨hu, hb⟩, trivial⟩
  | v :: us, m :: ls, h => ⟨h.1, SRows.snoc hu hb h.2⟩
  | [], _ :: _, h => h.elim
  | _ :: _, [], h => h.elim
theorem stepCells_I (l : List (Nat × Bool)) : stepCells l = stepsI (l.map intStep) := by
  induction l with
  | nil => rfl
  | cons s l ih =>
    have e1 : stepCells (s :: l) = [.int .i64 (s.1 : Int), .bool s.2] ++ stepCells l := rfl
    have e2 : stepsI ((s :: l).map intStep) = [.int .i64 (s.1 : Int), .bool s.2] ++ stepsI (l.map intStep) := rfl
    rw [e1, e2, ih]
theorem SRows.rows {w : World} {B : Nat} {bl : Option Nat} : ∀ {us : List Value} {ls : List (List (Nat × Bool))}, SRows w B bl us ls → WalkRows w us (ls.map fun l => l.map intStep)
  | [], [], _ => trivial
  | u :: us, l :: ls, h => by
    obtain ⟨⟨h1, h2⟩, h3⟩ := h
    obtain ⟨a, cap, rfl⟩ := own_slice h1
    refine ⟨⟨a, cap, by rw [List.length_map], ?_⟩, SRows.rows h3⟩
    have := Cells.of_own h1
    rw [stepCells_I] at this
    rwa [List.length_map]
  | [], _ :: _, h => h.elim
  | _ :: _, [], h => h.elim
theorem SRows.len {w : World} {B : Nat} {bl : Option Nat} : ∀ {us : List Value} {ls : List (List (Nat × Bool))}, SRows w B bl us ls → us.length = ls.length
  | [], [], _ => rfl
  | u :: us, l :: ls, h => by simp [SRows.len h.2]
  | [], _ :: _, h => h.elim
  | _ :: _, [], h => h.elim
/-- The cert's cells, ahead of its claim. -/
def cc (conj v1 v2 : Value) : Array Value := #[conj, v1, v2, .int .i64 0, .bool false, .slice none 0 0, .int .i64 0, .float .f64 0]
/-- The nodes' loop: i are read. -/
def NodSt (w wr : World) (rb : Nat) (a : Option Addr) (len cap : Nat) (bs : List Nat) (conj : Int) (r0 : List Nat) (n i : Nat) : Prop :=
  i ≤ n ∧ ∃ v l rest, Cb w wr rb #[.int .i64 conj, v, .slice none 0 0, .int .i64 0, .bool false, .slice none 0 0, .int .i64 0, .float .f64 0] ∧ Rd wr rb a len cap bs rest ∧ l.length = i ∧ dNums n r0 = preL l (dNums (n - i) rest) ∧ wr.ownsRow (w.heap.size + 1) 3 1 v i (natCells l)
theorem nod_next {w w2 w' : World} {rb : Nat} {a : Option Addr} {len cap : Nat} {bs : List Nat} {conj : Int} {r0 rest r1 l : List Nat} {n i k : Nat} {v : Value} {sa : Option Addr} {sc : Nat} {o : Obj} (hlt : rb < w.heap.size) (hi : i < n)
    (hcb : Cb w w2 rb #[.int .i64 conj, v, .slice none 0 0, .int .i64 0, .bool false, .slice none 0 0, .int .i64 0, .float .f64 0]) (hrd : Rd w2 rb a len cap bs r1) (hl : l.length = i) (hd : dNums n r0 = preL l (dNums (n - i) rest)) (hk : dNum 0 0 rest = some (k, r1))
    (hown : w2.ownsRow (w.heap.size + 1) 3 1 v i (natCells l)) (u1 : w'.ownsRow (w.heap.size + 1) 3 1 (.slice sa (i + 1) sc) (i + 1) (natCells l ++ [.int .i64 (k : Int)])) (u2 : (w2.alloc o).grownBy w' v.ownBlock) :
    Cb w w' rb #[.int .i64 conj, v, .slice none 0 0, .int .i64 0, .bool false, .slice none 0 0, .int .i64 0, .float .f64 0] ∧ NodSt w (w'.setCell ⟨w.heap.size, 1, none⟩ (.slice sa (i + 1) sc)) rb a len cap bs conj r0 n (i + 1) := by
  have h1 := hcb.grow hown u2
  have h2 : Rd w' rb a len cap bs r1 := rd_grow hrd (by omega) hown u2
  refine ⟨h1, by omega, _, l ++ [k], r1, h1.set 1 _, h2.box hlt 1 _, by simp [hl], ?_, own_box (by rw [natCells_app] at u1; exact u1)⟩
  rw [hd, show n - i = n - (i + 1) + 1 by omega, preL_some hk]
/-- The walks' loop: i are read. -/
def WlkSt (w wr : World) (rb : Nat) (a : Option Addr) (len cap : Nat) (bs : List Nat) (conj : Int) (v1 : Value) (n : Nat) (l : List Nat) (r0 : List Nat) (m i : Nat) : Prop :=
  i ≤ m ∧ ∃ v us ls rest, Cb w wr rb #[.int .i64 conj, v1, v, .int .i64 0, .bool false, .slice none 0 0, .int .i64 0, .float .f64 0] ∧ Rd wr rb a len cap bs rest ∧ ls.length = i ∧ dWalks m r0 = preL ls (dWalks (m - i) rest) ∧ wr.ownsRow (w.heap.size + 1) 54 1 v i us ∧ wr.ownsRow (w.heap.size + 1) 3 1 v1 n (natCells l) ∧ (∀ g, v1.ownBlock = some g → v.ownBlock ≠ some g) ∧ SRows wr (w.heap.size + 1) v.ownBlock us ls
theorem preW_none {k : Nat} {l : List (List (Nat × Bool))} {bs : List Nat} (h : dWalk bs = none) : preL l (dWalks (k + 1) bs) = none := by
  simp only [dWalks, h]; rfl
theorem preW_some {k : Nat} {n : List (Nat × Bool)} {l : List (List (Nat × Bool))} {bs r : List Nat} (h : dWalk bs = some (n, r)) : preL l (dWalks (k + 1) bs) = preL (l ++ [n]) (dWalks k r) := by
  simp only [dWalks, h]
  cases dWalks k r with
  | none => rfl
  | some p => simp [preL]
theorem wlk_next {w w2 w' : World} {rb : Nat} {a : Option Addr} {len cap : Nat} {bs : List Nat} {conj : Int} {r0 rest r1 l : List Nat} {n m i : Nat} {k : List (Nat × Bool)} {v v1 u : Value} {us : List Value} {ls : List (List (Nat × Bool))} {sa : Option Addr} {sc : Nat} {o : Obj} (hlt : rb < w.heap.size) (hi : i < m)
    (hcb : Cb w w2 rb #[.int .i64 conj, v1, v, .int .i64 0, .bool false, .slice none 0 0, .int .i64 0, .float .f64 0]) (hrd : Rd w2 rb a len cap bs r1) (hl : ls.length = i) (hd : dWalks m r0 = preL ls (dWalks (m - i) rest)) (hk : dWalk rest = some (k, r1))
    (hown : w2.ownsRow (w.heap.size + 1) 54 1 v i us) (ho1 : w2.ownsRow (w.heap.size + 1) 3 1 v1 n (natCells l)) (hap : ∀ g, v1.ownBlock = some g → v.ownBlock ≠ some g) (hsr : SRows w2 (w.heap.size + 1) v.ownBlock us ls)
    (hu : w2.ownsRow (w.heap.size + 1) 56 2 u k.length (stepCells k)) (hub : ∀ g, u.ownBlock = some g → v.ownBlock ≠ some g)
    (u1 : w'.ownsRow (w.heap.size + 1) 54 1 (.slice sa (i + 1) sc) (i + 1) (us ++ [u])) (u2 : (w2.alloc o).grownBy w' v.ownBlock) (u3 : ∀ g, (Value.slice sa (i + 1) sc).ownBlock = some g → v.ownBlock = some g ∨ (w2.alloc o).heap.size ≤ g) :
    Cb w w' rb #[.int .i64 conj, v1, v, .int .i64 0, .bool false, .slice none 0 0, .int .i64 0, .float .f64 0] ∧ WlkSt w (w'.setCell ⟨w.heap.size, 2, none⟩ (.slice sa (i + 1) sc)) rb a len cap bs conj v1 n l r0 m (i + 1) := by
  have h1 := hcb.grow hown u2
  have h2 : Rd w' rb a len cap bs r1 := rd_grow hrd (by omega) hown u2
  have hbl : ∀ g, g < w2.heap.size → v.ownBlock ≠ some g → (Value.slice sa (i + 1) sc).ownBlock ≠ some g := fun g hg hv hs => by
    rcases u3 g hs with h | h
    · exact hv h
    · rw [World.size_alloc] at h; omega
  have hc : Chg (fun k => some k = v.ownBlock) w2 w' := ⟨u2.os, u2.tape, u2.output, Nat.le_trans (by rw [World.size_alloc]; omega) u2.size, fun k hk he => (u2.block k (by rw [World.size_alloc]; omega) he).trans (((Chg.refl (S := fun _ => False) w2).alloc o).block k hk (fun h => h))⟩
  have hc2 : Chg (fun k => k = w.heap.size) w' (w'.setCell ⟨w.heap.size, 2, none⟩ (.slice sa (i + 1) sc)) := set_chg (Chg.refl _)
  have hsr1 : SRows w' (w.heap.size + 1) (Value.slice sa (i + 1) sc).ownBlock us ls := hsr.chg hc fun g hg1 hg2 hg3 => ⟨fun h => hg3 h.symm, hbl g hg2 hg3⟩
  have hu1 := own_chg hu hc (fun g hg h => hub g hg h.symm)
  have hsr2 := hsr1.snoc hu1 (fun g hg => hbl g (hu.lt g hg).2 (hub g hg))
  refine ⟨h1, by omega, _, us ++ [u], ls ++ [k], r1, h1.set 2 _, h2.box hlt 2 _, by simp [hl], ?_, own_box u1, own_box (own_chg ho1 hc fun g hg h => hap g hg h.symm), fun g hg => hbl g (ho1.lt g hg).2 (hap g hg), hsr2.chg hc2 fun g hg1 hg2 hg3 => ⟨fun h => by have h' : g = w.heap.size := h; omega, hg3⟩⟩
  rw [hd, show m - i = m - (i + 1) + 1 by omega, preW_some hk]
end Go.Proofs.Ytnamcghcgcknpaa
