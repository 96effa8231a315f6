/-
  Structs that are stored back into their own box: what the box then holds.
-/
import Derived.Test.YtnamcghcgcknpaaCertG
namespace Go.Proofs.Ytnamcghcgcknpaa
open Go.RowKit

theorem blk5_step {w : World} {p t : Nat} {a0 a1 a2 a3 a4 : Value} (h : Blk w p #[a0, a1, a2, a3, a4] t) (c0 c1 c2 c3 c4 : Value) :
    Blk w p #[a0, a1, a2, a3, a4] t ∧
    Blk (w.setCell ⟨p, 0, none⟩ c0) p #[c0, a1, a2, a3, a4] t ∧
    Blk ((w.setCell ⟨p, 0, none⟩ c0).setCell ⟨p, 1, none⟩ c1) p #[c0, c1, a2, a3, a4] t ∧
    Blk (((w.setCell ⟨p, 0, none⟩ c0).setCell ⟨p, 1, none⟩ c1).setCell ⟨p, 2, none⟩ c2) p #[c0, c1, c2, a3, a4] t ∧
    Blk ((((w.setCell ⟨p, 0, none⟩ c0).setCell ⟨p, 1, none⟩ c1).setCell ⟨p, 2, none⟩ c2).setCell ⟨p, 3, none⟩ c3) p #[c0, c1, c2, c3, a4] t ∧
    Blk (((((w.setCell ⟨p, 0, none⟩ c0).setCell ⟨p, 1, none⟩ c1).setCell ⟨p, 2, none⟩ c2).setCell ⟨p, 3, none⟩ c3).setCell ⟨p, 4, none⟩ c4) p #[c0, c1, c2, c3, c4] t := by
  have h0 := h
  have h1 : Blk (w.setCell ⟨p, 0, none⟩ c0) p #[c0, a1, a2, a3, a4] t := h0.set 0 c0
  have h2 : Blk ((w.setCell ⟨p, 0, none⟩ c0).setCell ⟨p, 1, none⟩ c1) p #[c0, c1, a2, a3, a4] t := h1.set 1 c1
  have h3 : Blk (((w.setCell ⟨p, 0, none⟩ c0).setCell ⟨p, 1, none⟩ c1).setCell ⟨p, 2, none⟩ c2) p #[c0, c1, c2, a3, a4] t := h2.set 2 c2
  have h4 : Blk ((((w.setCell ⟨p, 0, none⟩ c0).setCell ⟨p, 1, none⟩ c1).setCell ⟨p, 2, none⟩ c2).setCell ⟨p, 3, none⟩ c3) p #[c0, c1, c2, c3, a4] t := h3.set 3 c3
  have h5 : Blk (((((w.setCell ⟨p, 0, none⟩ c0).setCell ⟨p, 1, none⟩ c1).setCell ⟨p, 2, none⟩ c2).setCell ⟨p, 3, none⟩ c3).setCell ⟨p, 4, none⟩ c4) p #[c0, c1, c2, c3, c4] t := h4.set 4 c4
  exact ⟨h0, h1, h2, h3, h4, h5⟩
theorem blk5_facts {w : World} {p t : Nat} {a0 a1 a2 a3 a4 : Value} (h : Blk w p #[a0, a1, a2, a3, a4] t) (c0 c1 c2 c3 c4 : Value) :
    (((w.setCell ⟨p, 0, none⟩ c0).setCell ⟨p, 1, none⟩ c1).setCell ⟨p, 2, none⟩ c2).cell? ⟨p, 3, none⟩ = some a3 ∧
    (((w.setCell ⟨p, 0, none⟩ c0).setCell ⟨p, 1, none⟩ c1).setCell ⟨p, 2, none⟩ c2).frozen? ⟨p, 3, none⟩ = false ∧
    ((((w.setCell ⟨p, 0, none⟩ c0).setCell ⟨p, 1, none⟩ c1).setCell ⟨p, 2, none⟩ c2).setCell ⟨p, 3, none⟩ c3).cell? ⟨p, 4, none⟩ = some a4 ∧
    ((((w.setCell ⟨p, 0, none⟩ c0).setCell ⟨p, 1, none⟩ c1).setCell ⟨p, 2, none⟩ c2).setCell ⟨p, 3, none⟩ c3).frozen? ⟨p, 4, none⟩ = false ∧
    (((((w.setCell ⟨p, 0, none⟩ c0).setCell ⟨p, 1, none⟩ c1).setCell ⟨p, 2, none⟩ c2).setCell ⟨p, 3, none⟩ c3).setCell ⟨p, 4, none⟩ c4).cell? ⟨p, 0, none⟩ = some c0 ∧
    (((((w.setCell ⟨p, 0, none⟩ c0).setCell ⟨p, 1, none⟩ c1).setCell ⟨p, 2, none⟩ c2).setCell ⟨p, 3, none⟩ c3).setCell ⟨p, 4, none⟩ c4).cell? ⟨p, 1, none⟩ = some c1 ∧
    (((((w.setCell ⟨p, 0, none⟩ c0).setCell ⟨p, 1, none⟩ c1).setCell ⟨p, 2, none⟩ c2).setCell ⟨p, 3, none⟩ c3).setCell ⟨p, 4, none⟩ c4).cell? ⟨p, 2, none⟩ = some c2 ∧
    (((((w.setCell ⟨p, 0, none⟩ c0).setCell ⟨p, 1, none⟩ c1).setCell ⟨p, 2, none⟩ c2).setCell ⟨p, 3, none⟩ c3).setCell ⟨p, 4, none⟩ c4).cell? ⟨p, 3, none⟩ = some c3 ∧
    (((((w.setCell ⟨p, 0, none⟩ c0).setCell ⟨p, 1, none⟩ c1).setCell ⟨p, 2, none⟩ c2).setCell ⟨p, 3, none⟩ c3).setCell ⟨p, 4, none⟩ c4).cell? ⟨p, 4, none⟩ = some c4 := by
  obtain ⟨h0, h1, h2, h3, h4, h5⟩ := blk5_step h c0 c1 c2 c3 c4
  exact ⟨h3.cell 3 _ rfl, h3.frozen 3, h4.cell 4 _ rfl, h4.frozen 4, h5.cell 0 _ rfl, h5.cell 1 _ rfl, h5.cell 2 _ rfl, h5.cell 3 _ rfl, h5.cell 4 _ rfl⟩
theorem blk5_base {w : World} {p t : Nat} {a0 a1 a2 a3 a4 : Value} (h : Blk w p #[a0, a1, a2, a3, a4] t) :
    w.cell? ⟨p, 0, none⟩ = some a0 ∧ w.frozen? ⟨p, 0, none⟩ = false ∧ w.cell? ⟨p, 1, none⟩ = some a1 ∧ w.frozen? ⟨p, 1, none⟩ = false ∧ w.cell? ⟨p, 2, none⟩ = some a2 ∧ w.frozen? ⟨p, 2, none⟩ = false ∧ w.cell? ⟨p, 3, none⟩ = some a3 ∧ w.frozen? ⟨p, 3, none⟩ = false ∧ w.cell? ⟨p, 4, none⟩ = some a4 ∧ w.frozen? ⟨p, 4, none⟩ = false :=
  ⟨h.cell 0 _ rfl, h.frozen 0, h.cell 1 _ rfl, h.frozen 1, h.cell 2 _ rfl, h.frozen 2, h.cell 3 _ rfl, h.frozen 3, h.cell 4 _ rfl, h.frozen 4⟩
theorem blk8_step {w : World} {p t : Nat} {a0 a1 a2 a3 a4 a5 a6 a7 : Value} (h : Blk w p #[a0, a1, a2, a3, a4, a5, a6, a7] t) (c0 c1 c2 c3 c4 c5 c6 c7 : Value) :
    Blk w p #[a0, a1, a2, a3, a4, a5, a6, a7] t ∧
    Blk (w.setCell ⟨p, 0, none⟩ c0) p #[c0, a1, a2, a3, a4, a5, a6, a7] t ∧
    Blk ((w.setCell ⟨p, 0, none⟩ c0).setCell ⟨p, 1, none⟩ c1) p #[c0, c1, a2, a3, a4, a5, a6, a7] t ∧
    Blk (((w.setCell ⟨p, 0, none⟩ c0).setCell ⟨p, 1, none⟩ c1).setCell ⟨p, 2, none⟩ c2) p #[c0, c1, c2, a3, a4, a5, a6, a7] t ∧
    Blk ((((w.setCell ⟨p, 0, none⟩ c0).setCell ⟨p, 1, none⟩ c1).setCell ⟨p, 2, none⟩ c2).setCell ⟨p, 3, none⟩ c3) p #[c0, c1, c2, c3, a4, a5, a6, a7] t ∧
    Blk (((((w.setCell ⟨p, 0, none⟩ c0).setCell ⟨p, 1, none⟩ c1).setCell ⟨p, 2, none⟩ c2).setCell ⟨p, 3, none⟩ c3).setCell ⟨p, 4, none⟩ c4) p #[c0, c1, c2, c3, c4, a5, a6, a7] t ∧
    Blk ((((((w.setCell ⟨p, 0, none⟩ c0).setCell ⟨p, 1, none⟩ c1).setCell ⟨p, 2, none⟩ c2).setCell ⟨p, 3, none⟩ c3).setCell ⟨p, 4, none⟩ c4).setCell ⟨p, 5, none⟩ c5) p #[c0, c1, c2, c3, c4, c5, a6, a7] t ∧
    Blk (((((((w.setCell ⟨p, 0, none⟩ c0).setCell ⟨p, 1, none⟩ c1).setCell ⟨p, 2, none⟩ c2).setCell ⟨p, 3, none⟩ c3).setCell ⟨p, 4, none⟩ c4).setCell ⟨p, 5, none⟩ c5).setCell ⟨p, 6, none⟩ c6) p #[c0, c1, c2, c3, c4, c5, c6, a7] t ∧
    Blk ((((((((w.setCell ⟨p, 0, none⟩ c0).setCell ⟨p, 1, none⟩ c1).setCell ⟨p, 2, none⟩ c2).setCell ⟨p, 3, none⟩ c3).setCell ⟨p, 4, none⟩ c4).setCell ⟨p, 5, none⟩ c5).setCell ⟨p, 6, none⟩ c6).setCell ⟨p, 7, none⟩ c7) p #[c0, c1, c2, c3, c4, c5, c6, c7] t := by
  have h0 := h
  have h1 : Blk (w.setCell ⟨p, 0, none⟩ c0) p #[c0, a1, a2, a3, a4, a5, a6, a7] t := h0.set 0 c0
  have h2 : Blk ((w.setCell ⟨p, 0, none⟩ c0).setCell ⟨p, 1, none⟩ c1) p #[c0, c1, a2, a3, a4, a5, a6, a7] t := h1.set 1 c1
  have h3 : Blk (((w.setCell ⟨p, 0, none⟩ c0).setCell ⟨p, 1, none⟩ c1).setCell ⟨p, 2, none⟩ c2) p #[c0, c1, c2, a3, a4, a5, a6, a7] t := h2.set 2 c2
  have h4 : Blk ((((w.setCell ⟨p, 0, none⟩ c0).setCell ⟨p, 1, none⟩ c1).setCell ⟨p, 2, none⟩ c2).setCell ⟨p, 3, none⟩ c3) p #[c0, c1, c2, c3, a4, a5, a6, a7] t := h3.set 3 c3
  have h5 : Blk (((((w.setCell ⟨p, 0, none⟩ c0).setCell ⟨p, 1, none⟩ c1).setCell ⟨p, 2, none⟩ c2).setCell ⟨p, 3, none⟩ c3).setCell ⟨p, 4, none⟩ c4) p #[c0, c1, c2, c3, c4, a5, a6, a7] t := h4.set 4 c4
  have h6 : Blk ((((((w.setCell ⟨p, 0, none⟩ c0).setCell ⟨p, 1, none⟩ c1).setCell ⟨p, 2, none⟩ c2).setCell ⟨p, 3, none⟩ c3).setCell ⟨p, 4, none⟩ c4).setCell ⟨p, 5, none⟩ c5) p #[c0, c1, c2, c3, c4, c5, a6, a7] t := h5.set 5 c5
  have h7 : Blk (((((((w.setCell ⟨p, 0, none⟩ c0).setCell ⟨p, 1, none⟩ c1).setCell ⟨p, 2, none⟩ c2).setCell ⟨p, 3, none⟩ c3).setCell ⟨p, 4, none⟩ c4).setCell ⟨p, 5, none⟩ c5).setCell ⟨p, 6, none⟩ c6) p #[c0, c1, c2, c3, c4, c5, c6, a7] t := h6.set 6 c6
  have h8 : Blk ((((((((w.setCell ⟨p, 0, none⟩ c0).setCell ⟨p, 1, none⟩ c1).setCell ⟨p, 2, none⟩ c2).setCell ⟨p, 3, none⟩ c3).setCell ⟨p, 4, none⟩ c4).setCell ⟨p, 5, none⟩ c5).setCell ⟨p, 6, none⟩ c6).setCell ⟨p, 7, none⟩ c7) p #[c0, c1, c2, c3, c4, c5, c6, c7] t := h7.set 7 c7
  exact ⟨h0, h1, h2, h3, h4, h5, h6, h7, h8⟩
theorem blk8_facts {w : World} {p t : Nat} {a0 a1 a2 a3 a4 a5 a6 a7 : Value} (h : Blk w p #[a0, a1, a2, a3, a4, a5, a6, a7] t) (c0 c1 c2 c3 c4 c5 c6 c7 : Value) :
    (((w.setCell ⟨p, 0, none⟩ c0).setCell ⟨p, 1, none⟩ c1).setCell ⟨p, 2, none⟩ c2).cell? ⟨p, 3, none⟩ = some a3 ∧
    (((w.setCell ⟨p, 0, none⟩ c0).setCell ⟨p, 1, none⟩ c1).setCell ⟨p, 2, none⟩ c2).frozen? ⟨p, 3, none⟩ = false ∧
    ((((w.setCell ⟨p, 0, none⟩ c0).setCell ⟨p, 1, none⟩ c1).setCell ⟨p, 2, none⟩ c2).setCell ⟨p, 3, none⟩ c3).cell? ⟨p, 4, none⟩ = some a4 ∧
    ((((w.setCell ⟨p, 0, none⟩ c0).setCell ⟨p, 1, none⟩ c1).setCell ⟨p, 2, none⟩ c2).setCell ⟨p, 3, none⟩ c3).frozen? ⟨p, 4, none⟩ = false ∧
    (((((w.setCell ⟨p, 0, none⟩ c0).setCell ⟨p, 1, none⟩ c1).setCell ⟨p, 2, none⟩ c2).setCell ⟨p, 3, none⟩ c3).setCell ⟨p, 4, none⟩ c4).cell? ⟨p, 5, none⟩ = some a5 ∧
    (((((w.setCell ⟨p, 0, none⟩ c0).setCell ⟨p, 1, none⟩ c1).setCell ⟨p, 2, none⟩ c2).setCell ⟨p, 3, none⟩ c3).setCell ⟨p, 4, none⟩ c4).frozen? ⟨p, 5, none⟩ = false ∧
    ((((((w.setCell ⟨p, 0, none⟩ c0).setCell ⟨p, 1, none⟩ c1).setCell ⟨p, 2, none⟩ c2).setCell ⟨p, 3, none⟩ c3).setCell ⟨p, 4, none⟩ c4).setCell ⟨p, 5, none⟩ c5).cell? ⟨p, 6, none⟩ = some a6 ∧
    ((((((w.setCell ⟨p, 0, none⟩ c0).setCell ⟨p, 1, none⟩ c1).setCell ⟨p, 2, none⟩ c2).setCell ⟨p, 3, none⟩ c3).setCell ⟨p, 4, none⟩ c4).setCell ⟨p, 5, none⟩ c5).frozen? ⟨p, 6, none⟩ = false ∧
    (((((((w.setCell ⟨p, 0, none⟩ c0).setCell ⟨p, 1, none⟩ c1).setCell ⟨p, 2, none⟩ c2).setCell ⟨p, 3, none⟩ c3).setCell ⟨p, 4, none⟩ c4).setCell ⟨p, 5, none⟩ c5).setCell ⟨p, 6, none⟩ c6).cell? ⟨p, 7, none⟩ = some a7 ∧
    (((((((w.setCell ⟨p, 0, none⟩ c0).setCell ⟨p, 1, none⟩ c1).setCell ⟨p, 2, none⟩ c2).setCell ⟨p, 3, none⟩ c3).setCell ⟨p, 4, none⟩ c4).setCell ⟨p, 5, none⟩ c5).setCell ⟨p, 6, none⟩ c6).frozen? ⟨p, 7, none⟩ = false ∧
    ((((((((w.setCell ⟨p, 0, none⟩ c0).setCell ⟨p, 1, none⟩ c1).setCell ⟨p, 2, none⟩ c2).setCell ⟨p, 3, none⟩ c3).setCell ⟨p, 4, none⟩ c4).setCell ⟨p, 5, none⟩ c5).setCell ⟨p, 6, none⟩ c6).setCell ⟨p, 7, none⟩ c7).cell? ⟨p, 0, none⟩ = some c0 ∧
    ((((((((w.setCell ⟨p, 0, none⟩ c0).setCell ⟨p, 1, none⟩ c1).setCell ⟨p, 2, none⟩ c2).setCell ⟨p, 3, none⟩ c3).setCell ⟨p, 4, none⟩ c4).setCell ⟨p, 5, none⟩ c5).setCell ⟨p, 6, none⟩ c6).setCell ⟨p, 7, none⟩ c7).cell? ⟨p, 1, none⟩ = some c1 ∧
    ((((((((w.setCell ⟨p, 0, none⟩ c0).setCell ⟨p, 1, none⟩ c1).setCell ⟨p, 2, none⟩ c2).setCell ⟨p, 3, none⟩ c3).setCell ⟨p, 4, none⟩ c4).setCell ⟨p, 5, none⟩ c5).setCell ⟨p, 6, none⟩ c6).setCell ⟨p, 7, none⟩ c7).cell? ⟨p, 2, none⟩ = some c2 ∧
    ((((((((w.setCell ⟨p, 0, none⟩ c0).setCell ⟨p, 1, none⟩ c1).setCell ⟨p, 2, none⟩ c2).setCell ⟨p, 3, none⟩ c3).setCell ⟨p, 4, none⟩ c4).setCell ⟨p, 5, none⟩ c5).setCell ⟨p, 6, none⟩ c6).setCell ⟨p, 7, none⟩ c7).cell? ⟨p, 3, none⟩ = some c3 ∧
    ((((((((w.setCell ⟨p, 0, none⟩ c0).setCell ⟨p, 1, none⟩ c1).setCell ⟨p, 2, none⟩ c2).setCell ⟨p, 3, none⟩ c3).setCell ⟨p, 4, none⟩ c4).setCell ⟨p, 5, none⟩ c5).setCell ⟨p, 6, none⟩ c6).setCell ⟨p, 7, none⟩ c7).cell? ⟨p, 4, none⟩ = some c4 ∧
    ((((((((w.setCell ⟨p, 0, none⟩ c0).setCell ⟨p, 1, none⟩ c1).setCell ⟨p, 2, none⟩ c2).setCell ⟨p, 3, none⟩ c3).setCell ⟨p, 4, none⟩ c4).setCell ⟨p, 5, none⟩ c5).setCell ⟨p, 6, none⟩ c6).setCell ⟨p, 7, none⟩ c7).cell? ⟨p, 5, none⟩ = some c5 ∧
    ((((((((w.setCell ⟨p, 0, none⟩ c0).setCell ⟨p, 1, none⟩ c1).setCell ⟨p, 2, none⟩ c2).setCell ⟨p, 3, none⟩ c3).setCell ⟨p, 4, none⟩ c4).setCell ⟨p, 5, none⟩ c5).setCell ⟨p, 6, none⟩ c6).setCell ⟨p, 7, none⟩ c7).cell? ⟨p, 6, none⟩ = some c6 ∧
    ((((((((w.setCell ⟨p, 0, none⟩ c0).setCell ⟨p, 1, none⟩ c1).setCell ⟨p, 2, none⟩ c2).setCell ⟨p, 3, none⟩ c3).setCell ⟨p, 4, none⟩ c4).setCell ⟨p, 5, none⟩ c5).setCell ⟨p, 6, none⟩ c6).setCell ⟨p, 7, none⟩ c7).cell? ⟨p, 7, none⟩ = some c7 := by
  obtain ⟨h0, h1, h2, h3, h4, h5, h6, h7, h8⟩ := blk8_step h c0 c1 c2 c3 c4 c5 c6 c7
  exact ⟨h3.cell 3 _ rfl, h3.frozen 3, h4.cell 4 _ rfl, h4.frozen 4, h5.cell 5 _ rfl, h5.frozen 5, h6.cell 6 _ rfl, h6.frozen 6, h7.cell 7 _ rfl, h7.frozen 7, h8.cell 0 _ rfl, h8.cell 1 _ rfl, h8.cell 2 _ rfl, h8.cell 3 _ rfl, h8.cell 4 _ rfl, h8.cell 5 _ rfl, h8.cell 6 _ rfl, h8.cell 7 _ rfl⟩
theorem blk8_base {w : World} {p t : Nat} {a0 a1 a2 a3 a4 a5 a6 a7 : Value} (h : Blk w p #[a0, a1, a2, a3, a4, a5, a6, a7] t) :
    w.cell? ⟨p, 0, none⟩ = some a0 ∧ w.frozen? ⟨p, 0, none⟩ = false ∧ w.cell? ⟨p, 1, none⟩ = some a1 ∧ w.frozen? ⟨p, 1, none⟩ = false ∧ w.cell? ⟨p, 2, none⟩ = some a2 ∧ w.frozen? ⟨p, 2, none⟩ = false ∧ w.cell? ⟨p, 3, none⟩ = some a3 ∧ w.frozen? ⟨p, 3, none⟩ = false ∧ w.cell? ⟨p, 4, none⟩ = some a4 ∧ w.frozen? ⟨p, 4, none⟩ = false ∧ w.cell? ⟨p, 5, none⟩ = some a5 ∧ w.frozen? ⟨p, 5, none⟩ = false ∧ w.cell? ⟨p, 6, none⟩ = some a6 ∧ w.frozen? ⟨p, 6, none⟩ = false ∧ w.cell? ⟨p, 7, none⟩ = some a7 ∧ w.frozen? ⟨p, 7, none⟩ = false :=
  ⟨h.cell 0 _ rfl, h.frozen 0, h.cell 1 _ rfl, h.frozen 1, h.cell 2 _ rfl, h.frozen 2, h.cell 3 _ rfl, h.frozen 3, h.cell 4 _ rfl, h.frozen 4, h.cell 5 _ rfl, h.frozen 5, h.cell 6 _ rfl, h.frozen 6, h.cell 7 _ rfl, h.frozen 7⟩
end Go.Proofs.Ytnamcghcgcknpaa
