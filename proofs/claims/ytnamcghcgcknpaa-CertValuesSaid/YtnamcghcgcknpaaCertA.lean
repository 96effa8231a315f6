/-
  The reader of certs (chapter 24): bad and byte.
-/
import Derived.Test.YtnamcghcgcknpaaCertQ
import Derived.Test.YtnamcghcgcknpaaBailB
import Derived.Deep.LoopGhost
import Derived.Deep.RegionHeld3
import Derived.StillTailTactics
namespace Go.Proofs.Ytnamcghcgcknpaa
open Go.RowKit
set_option linter.unusedVariables false

/-- The reader stands ahead of 'rest' in the bytes 'bs'. -/
structure Rd (w : World) (rb : Nat) (a : Option Addr) (len cap : Nat) (bs rest : List Nat) : Prop where
  blk : ∃ t, w.heap[rb]? = some (.cells #[.slice a len cap, .int .i64 ((len - rest.length : Nat) : Int)] t (0, 0))
  suf : ∃ pre, bs = pre ++ rest
  hl : bs.length = len
  hlen : len < 4611686018427387904
  cells : ∀ i, i < len → ∃ x, a = some x ∧ x.block < rb ∧ w.cell? (x.add i) = some (.int .u8 (bs.getD i 0))
  byte : ∀ b ∈ bs, b < 256
  cap1 : len ≤ cap
  capm : cap ≤ maxLen
theorem addr_block (x : Addr) (i : Nat) : (x.add i).block = x.block := by unfold Addr.add; split <;> rfl
section
variable {w w' : World} {rb : Nat} {a : Option Addr} {len cap : Nat} {bs rest : List Nat}
theorem Rd.lt (h : Rd w rb a len cap bs rest) : rb < w.heap.size := by
  obtain ⟨t, h⟩ := h.blk
  exact (Array.getElem?_eq_some_iff.1 h).1
theorem Rd.c0 (h : Rd w rb a len cap bs rest) : w.cell? ⟨rb, 0, none⟩ = some (.slice a len cap) := by
  obtain ⟨t, h⟩ := h.blk; simp [World.cell?, h]
theorem Rd.c1 (h : Rd w rb a len cap bs rest) : w.cell? ⟨rb, 1, none⟩ = some (.int .i64 ((len - rest.length : Nat) : Int)) := by
  obtain ⟨t, h⟩ := h.blk; simp [World.cell?, h]
theorem Rd.f1 (h : Rd w rb a len cap bs rest) : w.frozen? ⟨rb, 1, none⟩ = false := by
  obtain ⟨t, h⟩ := h.blk; simp [World.frozen?, h]
theorem Rd.le (h : Rd w rb a len cap bs rest) : rest.length ≤ len := by
  obtain ⟨pre, h1⟩ := h.suf
  rw [← h.hl, h1]; simp
/-- Nothing of the reader has turned. -/
theorem Rd.chg {S : Nat → Prop} (h : Rd w rb a len cap bs rest) (k : Chg S w w') (hS : ∀ b, b ≤ rb → ¬ S b) : Rd w' rb a len cap bs rest := by
  refine ⟨?_, h.suf, h.hl, h.hlen, fun i hi => ?_, h.byte, h.cap1, h.capm⟩
  · obtain ⟨t, h1⟩ := h.blk
    exact ⟨t, by rw [k.block rb h.lt (hS rb (Nat.le_refl _))]; exact h1⟩
  · obtain ⟨x, h1, h2, h3⟩ := h.cells i hi
    refine ⟨x, h1, h2, ?_⟩
    rw [← h3]
    apply k.cell
    · exact lt_of_cell h3
    · exact hS _ (by rw [addr_block]; omega)
/-- The reader goes on by one byte. -/
theorem Rd.step {c : Nat} (h : Rd w rb a len cap bs (c :: rest)) : Rd (w.setCell ⟨rb, 1, none⟩ (.int .i64 ((len - rest.length : Nat) : Int))) rb a len cap bs rest := by
  have hle := h.le
  refine ⟨?_, ?_, h.hl, h.hlen, fun i hi => ?_, h.byte, h.cap1, h.capm⟩
  · obtain ⟨t, h1⟩ := h.blk
    exact ⟨t, by simp [World.setCell, Array.getElem?_modify, h1]⟩
  · obtain ⟨pre, h1⟩ := h.suf
    exact ⟨pre ++ [c], by rw [h1]; simp⟩
  · obtain ⟨x, h1, h2, h3⟩ := h.cells i hi
    refine ⟨x, h1, h2, ?_⟩
    rw [← h3]
    apply World.cell?_setCell_far
    intro he
    rw [addr_block] at he
    simp only at he
    omega
theorem Rd.heap (h : Rd w rb a len cap bs rest) (k : w'.heap = w.heap) : Rd w' rb a len cap bs rest := by
  obtain ⟨h1, h2, h3, h4, h5, h6, h7, h8⟩ := h
  exact ⟨by rw [k]; exact h1, h2, h3, h4, fun i hi => by
    obtain ⟨x, e1, e2, e3⟩ := h5 i hi
    exact ⟨x, e1, e2, by rw [← e3]; simp [World.cell?, k]⟩, h6, h7, h8⟩
/-- The byte ahead. -/
theorem Rd.head {c : Nat} (h : Rd w rb a len cap bs (c :: rest)) : c < 256 ∧ ∃ x, a = some x ∧ x.block < rb ∧ w.cell? (x.add (len - (rest.length + 1))) = some (.int .u8 c) := by
  obtain ⟨pre, h1⟩ := h.suf
  have hle := h.le
  simp only [List.length_cons] at hle
  have hp : pre.length = len - (rest.length + 1) := by
    have := h.hl
    rw [h1] at this
    simp at this
    omega
  refine ⟨h.byte c (by rw [h1]; simp), ?_⟩
  obtain ⟨x, h2, h3, h4⟩ := h.cells (len - (rest.length + 1)) (by omega)
  refine ⟨x, h2, h3, ?_⟩
  rw [h4, ← hp, h1]
  simp
end
/-- It left as bad. -/
def Gone (B : Nat) (e : Ending) (w' : World) : Prop := ∃ p, Ends (fun _ k => k < B) (.bail 13 p) e w'
theorem Gone.mono {B B' : Nat} {e : Ending} {w' : World} (h : Gone B e w') (hb : B' ≤ B) : Gone B' e w' := by
  obtain ⟨p, ch, b, h1, h2, h3, h4, h5⟩ := h
  exact ⟨p, ch, b, h1, h2, h3, h4, fun h => h5 (Nat.lt_of_lt_of_le h hb)⟩
/-- What a reader's method comes to: it left, or hands a value back, and the reader has gone on. -/
def Got {α : Type} (w : World) (rb : Nat) (a : Option Addr) (len cap : Nat) (bs : List Nat) (o : Option (α × List Nat)) (V : α → Value → World → Prop) (e : Ending) (w' : World) : Prop :=
  Chg (fun k => k = rb) w w' ∧ match o with
    | none => Gone w.heap.size e w'
    | some (x, r) => ∃ v, e = .returned v ∧ V x v w' ∧ Rd w' rb a len cap bs r

theorem bad_any {w : World} {rb : Nat} {p : Int} (h1 : w.cell? ⟨rb, 1, none⟩ = some (.int .i64 p)) :
    Calls Try.prog 44 #[.pointer (some ⟨rb, 0, none⟩)] w fun e w' => Ext w w' ∧ Gone w.heap.size e w' := by
  go_enter Try.func44, Try.ntmps44
  go_wp2_with fail
  refine (out_fin (D := fun _ k => k < w.heap.size) 13 p w (loc_const _) (fun k hk => hk)).mono ?_
  rintro e w' ⟨hk, he, hx⟩
  have hfin : Ext w w' ∧ Gone w.heap.size e w' := ⟨hx, p, he⟩
  obtain ⟨ch, b, rfl, _⟩ := he
  exact ⟨rfl, hfin⟩
theorem byte_any {w : World} {rb : Nat} {a : Option Addr} {len cap : Nat} {bs rest : List Nat} (h : Rd w rb a len cap bs rest) :
    Calls Try.prog 43 #[.pointer (some ⟨rb, 0, none⟩)] w (Got w rb a len cap bs (dLev rest) fun c v w' => v = .int .u8 c ∧ c < 256) := by
  have k0 := h.c0
  have k1 := h.c1
  have f1 := h.f1
  have hle := h.le
  have hlen := h.hlen
  have H := Lib.hid h
  clear h
  cases rest with
  | nil =>
    have hl : ((len - ([] : List Nat).length : Nat) : Int) = (len : Int) := by simp
    rw [hl] at k1
    go_enter Try.func43, Try.ntmps43
    go_wp2_with fail
    go_quiet (fail)
    go_wp2_with fail
    refine (bad_any (p := (len : Int)) ?_).mono ?_
    · exact k1
    rintro e w' ⟨hx, hg⟩
    have hfin : Got w rb a len cap bs (dLev []) (fun c v w' => v = .int .u8 c ∧ c < 256) e w' := ⟨((Chg.refl w).drewN _).trans (hx.mono (fun _ _ h => h.elim)), hg⟩
    obtain ⟨p, ch, b, rfl, _⟩ := hg
    exact ⟨rfl, hfin⟩
  | cons c rest =>
    obtain ⟨hc, x, rfl, hx, hcell⟩ := H.out.head
    simp only [List.length_cons] at k1 hle
    obtain ⟨p, hp⟩ : ∃ p : Nat, len - (rest.length + 1) = p := ⟨_, rfl⟩
    rw [hp] at k1 hcell
    have hp1 : (p : Int) < (len : Int) := by omega
    have hp0 : 0 ≤ (p : Int) := by omega
    have hst : ((len - rest.length : Nat) : Int) = (p : Int) + 1 := by omega
    have hfar : ∀ n, ((w.drewN n).setCell ⟨rb, 1, none⟩ (.int .i64 ((p : Int) + 1))).cell? (x.add p) = some (.int .u8 c) := fun n => by
      rw [World.cell?_setCell_far _ _ _ _ (by rw [addr_block]; simp only; omega)]
      exact hcell
    have HP := Lib.hid (And.intro hp hst)
    have HX := Lib.hid hx
    clear hp hst hx hcell
    go_enter Try.func43, Try.ntmps43
    go_wp2_with fail
    go_quiet (fail)
    go_wp2_with fail
    go_quiet (fail)
    go_wp2_with fail
    go_ret
    have hs := H.out.step
    rw [HP.out.2] at hs
    exact ⟨(((Chg.refl (S := fun k => k = rb) w).drewN _).setCell ⟨rb, 1, none⟩ _ (fun _ => rfl)).drewN _, _, rfl, ⟨rfl, hc⟩, hs.heap rfl⟩
end Go.Proofs.Ytnamcghcgcknpaa
