/-
  The reader of certs (chapter 24): a value with a number.
-/
import Derived.Test.YtnamcghcgcknpaaCertI
import Derived.Deep.RegionHeld3
namespace Go.Proofs.Ytnamcghcgcknpaa
open Go.RowKit
set_option linter.unusedVariables false

theorem add_add (x : Addr) (p j : Nat) : (x.add p).add j = x.add (p + j) := by
  by_cases hp : p = 0
  · subst hp; by_cases hj : j = 0 <;> simp [Addr.add, hj]
  · by_cases hj : j = 0 <;> simp [Addr.add, hj, hp, Nat.add_assoc]
theorem rd_suffix {W : World} {rb : Nat} {a : Option Addr} {len cap p : Nat} {bs r : List Nat} (h : Rd W rb a len cap bs r) (hp : len - r.length = p) :
    Cells W (if cap = p then a else Option.map (fun x => x.add p) a) r.length (cap - p) (byteCells r) ∧ r.length = len - p ∧ ∀ b ∈ r, b < 256 := by
  have hle := h.le
  have hcap := h.cap1
  have hm := h.capm
  obtain ⟨pre, hpre⟩ := h.suf
  have hpl : pre.length = p := by
    have := h.hl
    rw [hpre] at this
    simp at this
    omega
  refine ⟨⟨by omega, by omega, fun j u hu => ?_⟩, by omega, fun b hb => h.byte b (by rw [hpre]; simp [hb])⟩
  have hj : j < r.length := by
    rcases Nat.lt_or_ge j r.length with h | h
    · exact h
    · rw [List.getElem?_eq_none (by simpa [byteCells] using h)] at hu; cases hu
  obtain ⟨x, rfl, h1, h2⟩ := h.cells (p + j) (by omega)
  rw [if_neg (by omega)]
  refine ⟨x.add p, rfl, ?_⟩
  rw [add_add, h2]
  have hu2 : u = .int .u8 ((r.getD j 0 : Nat) : Int) := by
    have : (byteCells r)[j]? = some (.int .u8 ((r.getD j 0 : Nat) : Int)) := by simp [byteCells, hj]
    rw [this] at hu; exact (Option.some.inj hu).symm
  rw [hu2, hpre]
  have : (pre ++ r).getD (p + j) 0 = r.getD j 0 := by
    rw [List.getD_eq_getElem?_getD, List.getElem?_append_right (by omega), show p + j - pre.length = j by omega, ← List.getD_eq_getElem?_getD]
  rw [this]
/-- What the call of Unbytes leaves, whatever was made ahead of it. -/
def UnbP (W0 : World) (rb : Nat) (a : Option Addr) (len cap p : Nat) (r : List Nat) (e : Ending) (w2 : World) : Prop :=
  Ext W0 w2 ∧ w2.cell? ⟨rb, 0, none⟩ = some (.slice a len cap) ∧ w2.cell? ⟨rb, 1, none⟩ = some (.int .i64 (p : Int)) ∧ ∃ W, W0.heap.size ≤ W.heap.size ∧ unb W r e w2
theorem unbP_call {W0 : World} {rb : Nat} {a : Option Addr} {len cap p : Nat} {bs r : List Nat} (h : Rd W0 rb a len cap bs r) (hp : len - r.length = p) (W : World) (hW : Ext W0 W) :
    Calls Try.prog 57 #[.slice (if cap = p then a else Option.map (fun x => x.add p) a) (len - p) (cap - p)] W (fun e w2 => UnbP W0 rb a len cap p r e w2 ∧ Ext W w2) := by
  have hR := h.ext hW
  have hsuf := rd_suffix hR hp
  have hU := unbytes_any hsuf.1 hsuf.2.2
  rw [hsuf.2.1] at hU
  refine hU.mono ?_
  rintro e w2 ⟨hx, hu⟩
  have h0 := (hR.ext hx).c0
  have h1 := (hR.ext hx).c1
  rw [hp] at h1
  exact ⟨⟨hW.trans hx, h0, h1, W, hW.size, hu⟩, hx⟩
theorem far2 {w2 : World} {b rb j : Nat} {v u1 u2 : Value} (h : w2.cell? ⟨rb, j, none⟩ = some v) (hne : rb < b) : ((w2.setCell ⟨b, 0, none⟩ u1).setCell ⟨b, 1, none⟩ u2).cell? ⟨rb, j, none⟩ = some v := by
  rw [World.cell?_setCell_far _ _ _ _ (by simp only; omega), World.cell?_setCell_far _ _ _ _ (by simp only; omega)]
  exact h
theorem nat_box {w1 w2 : World} {p : Nat} {u : Value} (h : Ext ((w1.setCell ⟨p, 0, none⟩ u).drew.alloc (Obj.cells #[.bool false, .slice none 0 0] 28)) w2) :
    w2.cell? ⟨w1.heap.size, 0, none⟩ = some (.bool false) ∧ w2.cell? ⟨w1.heap.size, 1, none⟩ = some (.slice none 0 0) ∧ w2.frozen? ⟨w1.heap.size, 0, none⟩ = false ∧ w2.frozen? ⟨w1.heap.size, 1, none⟩ = false := by
  have hsz : (w1.setCell ⟨p, 0, none⟩ u).drew.heap.size = w1.heap.size := by simp only [World.size_drew, World.size_setCell]
  have hb : Blk w2 (w1.setCell ⟨p, 0, none⟩ u).drew.heap.size #[.bool false, .slice none 0 0] 28 := (Blk.new _ _ _).chg h (fun h => h)
  rw [hsz] at hb
  exact ⟨hb.cell 0 _ rfl, hb.cell 1 _ rfl, hb.frozen 0, hb.frozen 1⟩
/-- The reader goes on to a later place. -/
theorem rd_to {W : World} {rb : Nat} {a : Option Addr} {len cap : Nat} {bs r pre t : List Nat} (h : Rd W rb a len cap bs r) (hr : r = pre ++ t) : Rd (W.setCell ⟨rb, 1, none⟩ (.int .i64 ((len - t.length : Nat) : Int))) rb a len cap bs t := by
  refine ⟨?_, ?_, h.hl, h.hlen, fun i hi => ?_, h.byte, h.cap1, h.capm⟩
  · obtain ⟨t, h1⟩ := h.blk
    exact ⟨t, by simp [World.setCell, Array.getElem?_modify, h1]⟩
  · obtain ⟨q, h1⟩ := h.suf
    exact ⟨q ++ pre, by rw [h1, hr]; simp⟩
  · obtain ⟨x, h1, h2, h3⟩ := h.cells i hi
    refine ⟨x, h1, h2, ?_⟩
    rw [← h3]
    apply World.cell?_setCell_far
    rw [addr_block]; simp only; omega
theorem Vb.drew {w w1 : World} {rb : Nat} {cs : Array Value} (h : Vb w w1 rb cs) : Vb w w1.drew rb cs := ⟨h.1.drew, h.2⟩
theorem nat_box2 {w1 w2 : World} {p : Nat} {u : Value} (h : Ext ((w1.setCell ⟨p, 0, none⟩ u).drew.alloc (Obj.cells #[.bool false, .slice none 0 0] 28)) w2) (c0 c1 : Value) :
    Blk ((w2.setCell ⟨w1.heap.size, 0, none⟩ c0).setCell ⟨w1.heap.size, 1, none⟩ c1) w1.heap.size #[c0, c1] 28 := by
  have hsz : (w1.setCell ⟨p, 0, none⟩ u).drew.heap.size = w1.heap.size := by simp only [World.size_drew, World.size_setCell]
  have hb : Blk w2 (w1.setCell ⟨p, 0, none⟩ u).drew.heap.size #[.bool false, .slice none 0 0] 28 := (Blk.new _ _ _).chg h (fun h => h)
  rw [hsz] at hb
  exact (hb.set 0 c0).set 1 c1
theorem nat_box3 {w1 w2 : World} {p B : Nat} {u : Value} (h : Ext ((w1.setCell ⟨p, 0, none⟩ u).drew.alloc (Obj.cells #[.bool false, .slice none 0 0] 28)) w2) {v : Value} {n : Nat} {xs : List Value} (ho : w2.ownsRow B 77 1 v n xs) : ∀ g, v.ownBlock = some g → ¬ g = w1.heap.size := by
  have hsz : (w1.setCell ⟨p, 0, none⟩ u).drew.heap.size = w1.heap.size := by simp only [World.size_drew, World.size_setCell]
  have hb : Blk w2 (w1.setCell ⟨p, 0, none⟩ u).drew.heap.size #[.bool false, .slice none 0 0] 28 := (Blk.new _ _ _).chg h (fun h => h)
  rw [hsz] at hb
  intro g hg he
  subst he
  rcases ho.2 with ⟨rfl, _⟩ | ⟨g', cap, cur, rfl, h1, h2, h3⟩
  · cases hg
  · simp [Value.ownBlock] at hg
    subst hg
    unfold Blk at hb
    rw [hb] at h2
    simp at h2
theorem eNat_len (a : Bool × List Nat) : 0 < (eNat a).length := by
  unfold eNat; split <;> simp
/-- The steps behind the number: it is stored, and the reader goes on. -/
theorem nat_steps {w W : World} {rb : Nat} {a : Option Addr} {len cap p nn : Nat} {bs r t l : List Nat} {inf : Bool} {e : Bool × List Nat} {va : Option Addr} {vc : Nat} {c0 c1 c2 c3 c4 : Value} (hlt : rb < w.heap.size) (hB : Vb w W rb #[c0, c1, c2, c3, c4]) (hR : Rd W rb a len cap bs r) (hr : r = eNat e ++ t) (hpn : (p : Int) + (nn : Int) = ((len - t.length : Nat) : Int))
    (ho : W.ownsRow (w.heap.size + 1) 77 1 (.slice va l.length vc) l.length (wordCells l)) :
    Vb w (((W.setCell ⟨w.heap.size, 1, none⟩ (.bool inf)).setCell ⟨w.heap.size, 2, none⟩ (.slice va l.length vc)).setCell ⟨rb, 1, none⟩ (.int .i64 ((p : Int) + (nn : Int)))) rb #[c0, .bool inf, .slice va l.length vc, c3, c4] ∧
    Rd (((W.setCell ⟨w.heap.size, 1, none⟩ (.bool inf)).setCell ⟨w.heap.size, 2, none⟩ (.slice va l.length vc)).setCell ⟨rb, 1, none⟩ (.int .i64 ((p : Int) + (nn : Int)))) rb a len cap bs t ∧
    (((W.setCell ⟨w.heap.size, 1, none⟩ (.bool inf)).setCell ⟨w.heap.size, 2, none⟩ (.slice va l.length vc)).setCell ⟨rb, 1, none⟩ (.int .i64 ((p : Int) + (nn : Int)))).ownsRow (w.heap.size + 1) 77 1 (.slice va l.length vc) l.length (wordCells l) ∧
    (W.setCell ⟨w.heap.size, 1, none⟩ (.bool inf)).cell? ⟨w.heap.size, 2, none⟩ = some c2 ∧
    ((W.setCell ⟨w.heap.size, 1, none⟩ (.bool inf)).setCell ⟨w.heap.size, 2, none⟩ (.slice va l.length vc)).cell? ⟨rb, 1, none⟩ = some (.int .i64 ((len - r.length : Nat) : Int)) ∧
    ((W.setCell ⟨w.heap.size, 1, none⟩ (.bool inf)).setCell ⟨w.heap.size, 2, none⟩ (.slice va l.length vc)).frozen? ⟨rb, 1, none⟩ = false := by
  have hb1 := (hB.set 1 (.bool inf))
  have hb2 := (hb1.set 2 (.slice va l.length vc))
  have hr2 := (hR.box hlt 1 (.bool inf)).box hlt 2 (.slice va l.length vc)
  have hc : Chg (fun k => k = rb) ((W.setCell ⟨w.heap.size, 1, none⟩ (.bool inf)).setCell ⟨w.heap.size, 2, none⟩ (.slice va l.length vc)) (((W.setCell ⟨w.heap.size, 1, none⟩ (.bool inf)).setCell ⟨w.heap.size, 2, none⟩ (.slice va l.length vc)).setCell ⟨rb, 1, none⟩ (.int .i64 ((p : Int) + (nn : Int)))) := (Chg.refl _).setCell _ _ (fun _ => rfl)
  refine ⟨hb2.call hlt hc, ?_, ?_, ?_, hr2.c1, hr2.f1⟩
  · rw [hpn]; exact rd_to hr2 hr
  · refine own_low (own_low ho (set_chg (set_chg (Chg.refl _)) : Chg (fun k => k = w.heap.size) W _) (fun g hg h => by have h' : g = w.heap.size := h; omega)) hc (fun g hg h => by have h' : g = rb := h; omega)
  · exact hb1.2.cell 2 _ rfl
end Go.Proofs.Ytnamcghcgcknpaa
