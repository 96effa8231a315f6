/-
  Numbers without an end (chapter 3): bytes as a number.
-/
import Derived.Test.YtnamcghcgcknpaaCertF
namespace Go.Proofs.Ytnamcghcgcknpaa
open Go.RowKit
set_option linter.unusedVariables false

def byteCells (l : List Nat) : List Value := l.map fun (d : Nat) => Value.int .u8 (d : Int)
theorem byte_cell {w : World} {a : Option Addr} {n cap : Nat} {l : List Nat} (h : Cells w a n cap (byteCells l)) {m : Nat} (hm : m < l.length) : ∃ x, a = some x ∧ w.cell? (x.add m) = some (.int .u8 ((l.getD m 0 : Nat) : Int)) := by
  have : (byteCells l)[m]? = some (.int .u8 ((l.getD m 0 : Nat) : Int)) := by
    simp [byteCells, hm]
  exact h.2.2 m _ this
theorem inf_nat (w : World) : Calls Try.prog 68 #[] w fun e w' => e = .returned (.agg #[.bool true, .slice none 0 0]) ∧ Ext w w' := by
  go_enter Try.func68, Try.ntmps68
  go_wp2_with fail
  go_returns
  exact ⟨rfl, by repeat (first | exact Chg.refl _ | refine Chg.drew ?_ | refine Chg.alloc ?_ _ | refine Chg.setCell ?_ _ _ ?_)⟩

/-! ### Blocks of cells -/
def Blk (w : World) (b : Nat) (cs : Array Value) (t : Nat) : Prop := w.heap[b]? = some (.cells cs t (0, 0))
section
variable {w w' : World} {b t : Nat} {cs : Array Value}
theorem Blk.cell (h : Blk w b cs t) (j : Nat) (v : Value) (hj : cs[j]? = some v) : w.cell? ⟨b, j, none⟩ = some v := by
  unfold Blk at h; simp [World.cell?, h, hj]
theorem Blk.lt (h : Blk w b cs t) : b < w.heap.size := (Array.getElem?_eq_some_iff.1 h).1
theorem Blk.frozen (h : Blk w b cs t) (j : Nat) : w.frozen? ⟨b, j, none⟩ = false := by
  unfold Blk at h; simp [World.frozen?, h]
theorem Blk.of (h : Blk w b cs t) (k : w'.heap[b]? = w.heap[b]?) : Blk w' b cs t := by unfold Blk at *; rw [k]; exact h
theorem Blk.new (w : World) (cs : Array Value) (t : Nat) : Blk (w.alloc (.cells cs t)) w.heap.size cs t := by
  show (w.heap.push _)[w.heap.size]? = _; simp
theorem Blk.chg {S : Nat → Prop} (h : Blk w b cs t) (k : Chg S w w') (hd : ¬ S b) : Blk w' b cs t := h.of (k.block b h.lt hd)
theorem Blk.set (h : Blk w b cs t) (j : Nat) (u : Value) : Blk (w.setCell ⟨b, j, none⟩ u) b (cs.setIfInBounds j u) t := by
  unfold Blk at *
  simp [World.setCell, Array.getElem?_modify, h]
theorem Blk.drewN (h : Blk w b cs t) (n : Nat) : Blk (w.drewN n) b cs t := h
end

/-! ### Digits -/
theorem dWords_short (k : Nat) : ∀ r : List Nat, r.length < 4 * k → dWords k r = none := by
  induction k with
  | zero => intro r h; omega
  | succ k ih =>
    intro r h
    match r, h with
    | a :: b :: c :: d :: t, h => simp only [dWords]; rw [ih t (by simp at h; omega)]
    | [], _ => rfl
    | [_], _ => rfl
    | [_, _], _ => rfl
    | [_, _, _], _ => rfl
theorem dWords_step {k b0 b1 b2 b3 : Nat} {l t : List Nat} : preL l (dWords (k + 1) (b0 :: b1 :: b2 :: b3 :: t)) = preL (l ++ [b0 + b1 * 256 + b2 * 65536 + b3 * 16777216]) (dWords k t) := by
  simp only [dWords]
  cases dWords k t with
  | none => rfl
  | some p => simp [preL]
theorem drop_four (r : List Nat) (q : Nat) (h : q + 3 < r.length) : r.drop q = r.getD q 0 :: r.getD (q + 1) 0 :: r.getD (q + 2) 0 :: r.getD (q + 3) 0 :: r.drop (q + 4) := by
  rw [List.drop_eq_getElem_cons (show q < r.length by omega), List.drop_eq_getElem_cons (show q + 1 < r.length by omega), List.drop_eq_getElem_cons (show q + 1 + 1 < r.length by omega), List.drop_eq_getElem_cons (show q + 1 + 1 + 1 < r.length by omega)]
  simp [List.getD_eq_getElem?_getD, show q < r.length by omega, show q + 1 < r.length by omega, show q + 2 < r.length by omega, h]
theorem or_u32_add {a b s : Nat} (n : Nat) (hn : n ≤ 32) (ha : a < 2 ^ n) (hb : b * 2 ^ n < 4294967296) (hs : s = a + b * 2 ^ n) : bits .or .u32 (a : Int) ((b * 2 ^ n : Nat) : Int) = (s : Int) := by
  have hp : 2 ^ n ≤ 2 ^ 32 := Nat.pow_le_pow_right (by omega) hn
  rw [u32_or_nat a (b * 2 ^ n) (by omega) (by omega), hs, Nat.or_comm, ← Nat.shiftLeft_eq, ← Nat.shiftLeft_add_eq_or_of_lt ha, Nat.add_comm]
/-- What Unbytes hands back. -/
def unb (w : World) (bs : List Nat) (e : Ending) (w' : World) : Prop :=
  match dNat bs with
  | none => e = .returned (.tuple #[.agg #[.bool false, .slice none 0 0], .int .i64 0, .int .i64 13])
  | some ((inf, l), r) => ∃ v, e = .returned (.tuple #[.agg #[.bool inf, v], .int .i64 ((bs.length - r.length : Nat) : Int), .int .i64 0]) ∧ w'.ownsRow w.heap.size 77 1 v l.length (wordCells l)
theorem unb_none {w w' : World} {bs : List Nat} {e : Ending} (h : dNat bs = none) (he : e = .returned (.tuple #[.agg #[.bool false, .slice none 0 0], .int .i64 0, .int .i64 13])) : unb w bs e w' := by
  unfold unb; rw [h]; exact he
theorem info_u32 : (Try.prog.info? 77).map (fun i => (i.zero, i.size, i.bytes)) = some (some (.int .u32 0), 1, 4) := by kernel_rfl
theorem news32 (w : World) (d : Int) (t : Nat) (j : Nat) (u : Value) (h : [Value.int .u32 d][j]? = some u) :
    (w.alloc (.cells #[.int .u32 d] t)).cell? ((⟨w.heap.size, 0, none⟩ : Addr).add j) = some u := by
  match j, h with
  | 0, h => simpa [go_sem] using h
/-- The loop's state: i digits are read. -/
def UnbSt (w wr : World) (r : List Nat) (k i : Nat) : Prop :=
  Ext w wr ∧ i ≤ k ∧ ∃ v l, Blk wr w.heap.size #[.bool false, v] 28 ∧ l.length = i ∧ dWords k r = preL l (dWords (k - i) (r.drop (4 * i))) ∧ wr.ownsRow (w.heap.size + 1) 77 1 v i (wordCells l) ∧ ∀ d ∈ l, d < 4294967296
/-- Behind the append: the reads hold, the box stands, the row has grown. -/
def UnbG (w : World) (v : Value) (i d : Nat) (xs : List Value) (b : Value) (S : World → Prop) (w' : World) : Prop :=
  Ext w w' ∧ Blk w' w.heap.size #[.bool false, b] 28 ∧ w'.ownsRow (w.heap.size + 1) 77 1 v (i + 1) (xs ++ [.int .u32 (d : Int)]) ∧ S w'
theorem unb_grow {w wr w' : World} {v v' : Value} {i d q q1 q2 q3 b0 b1 b2 b3 : Nat} {xs : List Value} {x : Addr} {o : Obj} (HE : Ext w wr.drew) (hpl : w.heap.size < wr.heap.size) (hb : Blk wr w.heap.size #[.bool false, v] 28) (hown : wr.ownsRow (w.heap.size + 1) 77 1 v i xs)
    (u1 : w'.ownsRow (w.heap.size + 1) 77 1 v' (i + 1) (xs ++ [.int .u32 (d : Int)])) (u2 : (wr.drew.alloc o).grownBy w' v.ownBlock)
    (hx : x.block < w.heap.size)
    (hc : wr.cell? (x.add q) = some (.int .u8 (b0 : Int)) ∧ wr.cell? (x.add q1) = some (.int .u8 (b1 : Int)) ∧ wr.cell? (x.add q2) = some (.int .u8 (b2 : Int)) ∧ wr.cell? (x.add q3) = some (.int .u8 (b3 : Int))) :
    UnbG w v' i d xs v (fun w' => x.block < w.heap.size ∧ w'.cell? (x.add q) = some (.int .u8 (b0 : Int)) ∧ w'.cell? (x.add q1) = some (.int .u8 (b1 : Int)) ∧ w'.cell? (x.add q2) = some (.int .u8 (b2 : Int)) ∧ w'.cell? (x.add q3) = some (.int .u8 (b3 : Int))) w' := by
  have hlow : ∀ k, k ≤ w.heap.size → w'.heap[k]? = wr.heap[k]? := fun k hk => by
    rw [u2.block k (by simp only [World.size_alloc, World.size_drew]; omega) (fun hs => by have := (hown.lt k hs.symm).1; omega)]
    exact ((Chg.refl (S := fun _ => False) wr).drew.alloc o).block k (by omega) (fun h => h)
  have hcell : ∀ j u, wr.cell? (x.add j) = some u → w'.cell? (x.add j) = some u := fun j u h => by
    rw [World.cell?_of_block (hlow _ (by rw [addr_block]; omega))]; exact h
  refine ⟨⟨u2.os.trans HE.os, u2.tape.trans HE.tape, u2.output.trans HE.output, Nat.le_trans HE.size (Nat.le_trans (by simp only [World.size_alloc]; omega) u2.size), fun k hk _ => (hlow k (by omega)).trans (HE.block k hk (fun h => h))⟩, hb.of (hlow _ (Nat.le_refl _)), u1, hx, hcell _ _ hc.1, hcell _ _ hc.2.1, hcell _ _ hc.2.2.1, hcell _ _ hc.2.2.2⟩
theorem unb_store {w w' : World} {v v0 : Value} {i d q q1 q2 q3 b0 b1 b2 b3 : Nat} {xs : List Value} {x : Addr}
    (h : UnbG w v i d xs v0 (fun w' => x.block < w.heap.size ∧ w'.cell? (x.add q) = some (.int .u8 (b0 : Int)) ∧ w'.cell? (x.add q1) = some (.int .u8 (b1 : Int)) ∧ w'.cell? (x.add q2) = some (.int .u8 (b2 : Int)) ∧ w'.cell? (x.add q3) = some (.int .u8 (b3 : Int))) w') :
    UnbG w v i d xs v (fun w' => x.block < w.heap.size ∧ w'.cell? (x.add q) = some (.int .u8 (b0 : Int)) ∧ w'.cell? (x.add q1) = some (.int .u8 (b1 : Int)) ∧ w'.cell? (x.add q2) = some (.int .u8 (b2 : Int)) ∧ w'.cell? (x.add q3) = some (.int .u8 (b3 : Int))) (w'.setCell ⟨w.heap.size, 1, none⟩ v) := by
  obtain ⟨h1, h2, h3, hx, c0, c1, c2, c3⟩ := h
  have hc : Chg (fun k => k = w.heap.size) w' (w'.setCell ⟨w.heap.size, 1, none⟩ v) := (Chg.refl _).setCell _ _ (fun _ => rfl)
  have hcell : ∀ j u, w'.cell? (x.add j) = some u → (w'.setCell ⟨w.heap.size, 1, none⟩ v).cell? (x.add j) = some u := fun j u h => by
    rw [hc.cell (lt_of_cell h) (by rw [addr_block]; show ¬ (_ = _); omega)]; exact h
  refine ⟨?_, h2.set 1 v, own_low h3 hc (fun g hg h => by have h' : g = w.heap.size := h; omega), hx, hcell _ _ c0, hcell _ _ c1, hcell _ _ c2, hcell _ _ c3⟩
  have h1' : Chg (fun k => w.heap.size ≤ k) w w' := h1.mono (fun _ _ h => h.elim)
  have h2' : Chg (fun k => w.heap.size ≤ k) w (w'.setCell ⟨w.heap.size, 1, none⟩ v) := h1'.setCell _ _ (fun _ => Nat.le_refl _)
  exact h2'.mono (fun k hk h => absurd h (by omega))
theorem unb_next {w W : World} {k i q q1 q2 q3 b0 b1 b2 b3 d1 d2 d3 : Nat} {r l : List Nat} {v0 v' : Value} {S : World → Prop} {wr : World}
    (hst : l.length = i ∧ dWords k r = preL l (dWords (k - i) (r.drop (4 * i))) ∧ wr.ownsRow (w.heap.size + 1) 77 1 v0 i (wordCells l) ∧ ∀ d ∈ l, d < 4294967296) (hik : i < k) (hq : 1 + 4 * i = q) (h3 : q + 1 = q1 ∧ q + 2 = q2 ∧ q + 3 = q3)
    (hb : (k :: r).getD q 0 = b0 ∧ (k :: r).getD q1 0 = b1 ∧ (k :: r).getD q2 0 = b2 ∧ (k :: r).getD q3 0 = b3) (hd : b0 + b1 * 256 = d1 ∧ d1 + b2 * 65536 = d2 ∧ d2 + b3 * 16777216 = d3) (hlt : d3 < 4294967296) (hlen : q + 3 < (k :: r).length)
    (G : UnbG w v' i d3 (wordCells l) v' S W) : UnbSt w W r k (i + 1) := by
  obtain ⟨hl, hdw, -, h32⟩ := hst
  obtain ⟨rfl, rfl, rfl⟩ := h3
  obtain ⟨rfl, rfl, rfl, rfl⟩ := hb
  obtain ⟨rfl, rfl, rfl⟩ := hd
  obtain ⟨g1, g2, g3, -⟩ := G
  refine ⟨g1, by omega, v', l ++ [(k :: r).getD q 0 + (k :: r).getD (q + 1) 0 * 256 + (k :: r).getD (q + 2) 0 * 65536 + (k :: r).getD (q + 3) 0 * 16777216], g2, by simp [hl], ?_, ?_, ?_⟩
  · have e1 : r.drop (4 * i) = (k :: r).drop q := by rw [← hq, Nat.add_comm, List.drop_succ_cons]
    have e2 : r.drop (4 * (i + 1)) = (k :: r).drop (q + 4) := by rw [← hq, show 1 + 4 * i + 4 = 4 * (i + 1) + 1 by omega, List.drop_succ_cons]
    rw [hdw, e1, drop_four _ q hlen, show k - i = k - (i + 1) + 1 by omega, dWords_step, ← e2]
  · have : wordCells (l ++ [(k :: r).getD q 0 + (k :: r).getD (q + 1) 0 * 256 + (k :: r).getD (q + 2) 0 * 65536 + (k :: r).getD (q + 3) 0 * 16777216]) = wordCells l ++ [.int .u32 (((k :: r).getD q 0 + (k :: r).getD (q + 1) 0 * 256 + (k :: r).getD (q + 2) 0 * 65536 + (k :: r).getD (q + 3) 0 * 16777216 : Nat) : Int)] := by
      simp [wordCells]
    rw [this]
    exact g3
  · intro d hd
    rcases List.mem_append.1 hd with hd | hd
    · exact h32 d hd
    · simp only [List.mem_singleton] at hd
      rw [hd]; exact hlt
theorem unb_end {w wr W : World} {k : Nat} {r l : List Nat} {v : Value} (h255 : ¬ k = 255) (h64 : ¬ 64 < k) (hr : 4 * k ≤ r.length)
    (hst : l.length = k ∧ dWords k r = preL l (dWords (k - k) (r.drop (4 * k))) ∧ wr.ownsRow (w.heap.size + 1) 77 1 v k (wordCells l) ∧ ∀ d ∈ l, d < 4294967296) (hc : Chg (fun b => b = w.heap.size) wr W) (hwh : whole l = true) :
    unb w (k :: r) (.returned (.tuple #[.agg #[.bool false, v], .int .i64 (1 + 4 * (k : Int)), .int .i64 0])) W := by
  obtain ⟨hl, hdw, hown, -⟩ := hst
  rw [Nat.sub_self] at hdw
  have hN : dNat (k :: r) = some ((false, l), r.drop (4 * k)) := by
    rw [dNat, if_neg h255, if_neg h64, hdw]
    simp [preL, dWords, hwh]
  unfold unb
  rw [hN]
  refine ⟨v, ?_, ?_⟩
  · have : (((k :: r).length - (r.drop (4 * k)).length : Nat) : Int) = 1 + 4 * (k : Int) := by
      rw [List.length_cons, List.length_drop]; omega
    rw [this]
  · rw [hl]
    exact ownsRow_base (own_low hown hc (fun g hg h => by have h' : g = w.heap.size := h; omega)) (by omega)
theorem unb_bad {w wr W : World} {k : Nat} {r l : List Nat} {v : Value} (h255 : ¬ k = 255) (h64 : ¬ 64 < k)
    (hst : l.length = k ∧ dWords k r = preL l (dWords (k - k) (r.drop (4 * k))) ∧ wr.ownsRow (w.heap.size + 1) 77 1 v k (wordCells l) ∧ ∀ d ∈ l, d < 4294967296) (hwh : whole l = false) :
    unb w (k :: r) (.returned (.tuple #[.agg #[.bool false, .slice none 0 0], .int .i64 0, .int .i64 13])) W := by
  obtain ⟨hl, hdw, hown, -⟩ := hst
  rw [Nat.sub_self] at hdw
  refine unb_none ?_ rfl
  rw [dNat, if_neg h255, if_neg h64, hdw]
  simp [preL, dWords, hwh]
end Go.Proofs.Ytnamcghcgcknpaa
