/-
  The reader of certs (chapter 24): a value with a number, refused at the end.
-/
import Derived.Test.YtnamcghcgcknpaaCertK
namespace Go.Proofs.Ytnamcghcgcknpaa
open Go.RowKit
set_option linter.unusedVariables false

set_option maxRecDepth 100000 in
set_option maxHeartbeats 4000000 in
theorem value_nat_pos {w : World} {rb : Nat} {a : Option Addr} {len cap : Nat} {bs r : List Nat} {s : Nat} (h : Rd w rb a len cap bs (s :: r)) (h13 : s = 1 ∨ s = 3) (hN : dNat r = none) (hcp0 : cap = len - r.length) :
    Calls Try.prog 31 #[.pointer (some ⟨rb, 0, none⟩)] w (Got w rb a len cap bs (dVal (s :: r)) (ValV w)) := by
  have hlt := h.lt
  have HC0 := Lib.hid hcp0
  clear hcp0
  have hbox0 : Vb w (w.alloc (Obj.cells #[.int .i64 0, .bool false, .slice none 0 0, .int .i64 0, .float .f64 0] 31)) rb #[.int .i64 0, .bool false, .slice none 0 0, .int .i64 0, .float .f64 0] := ⟨(Chg.refl w).alloc _, Blk.new _ _ _⟩
  have hrd0 : Rd (w.alloc (Obj.cells #[.int .i64 0, .bool false, .slice none 0 0, .int .i64 0, .float .f64 0] 31)) rb a len cap bs (s :: r) := h.chg (S := fun _ => False) ((Chg.refl w).alloc _) (fun _ _ h => h)
  have HB0 := Lib.hid hbox0
  have HR0 := Lib.hid hrd0
  have HD := Lib.hid (dVal_nat (r := r) h13)
  clear hbox0 hrd0 h
  obtain ⟨D, hD⟩ : ∃ D, D = dVal (s :: r) := ⟨_, rfl⟩
  rw [← hD] at HD ⊢
  clear hD
  have hsl : (((s : Int) == 1) = true) ∨ (((s : Int) == 1) = false ∧ ((s : Int) == 3) = true) := by rcases h13 with rfl | rfl <;> decide
  clear h13
  have hsf := run_store_f
  go_enter Try.func31, Try.ntmps31
  go_wp2_with fail
  refine (byte_any HR0.out).mono ?_
  rintro e w1 ⟨hc, hg⟩
  obtain ⟨v, rfl, ⟨rfl, hs⟩, hrd⟩ := hg
  have HB1 : Hid (Vb w (w1.setCell ⟨w.heap.size, 0, none⟩ (.int .i64 (s : Int))) rb #[.int .i64 (s : Int), .bool false, .slice none 0 0, .int .i64 0, .float .f64 0]) := Lib.hid ((HB0.out.call hlt hc).set 0 (.int .i64 (s : Int)))
  have HR1 := Lib.hid (hrd.box hlt 0 (.int .i64 (s : Int)))
  have hsz1 := hc.size
  have k0 := (HB0.out.call hlt hc).2.cell 0 _ rfl
  have f0 := (HB0.out.call hlt hc).2.frozen 0
  have k1 := HB1.out.2.cell 0 _ rfl
  clear hc hrd
  have hle := HR1.out.le
  have hlen := HR1.out.hlen
  have r0 := HR1.out.c0
  have r1 := HR1.out.c1
  obtain ⟨p, hp⟩ : ∃ p : Nat, len - r.length = p := ⟨_, rfl⟩
  rw [hp] at r1
  have hpl : p ≤ len := by omega
  have hpl' : (p : Int) ≤ (len : Int) := by omega
  have hp0 : 0 ≤ (p : Int) := by omega
  have hU := fun W hW => unbP_call (HR1.out.heap (w' := (w1.setCell ⟨w.heap.size, 0, none⟩ (.int .i64 (s : Int))).drew) rfl) hp W hW
  have HP := Lib.hid hp
  clear hp
  obtain ⟨A2, hA2, hcp⟩ : ∃ A2, (if cap = p then a else Option.map (fun x => x.add p) a) = A2 ∧ ((cap = p ∧ a = A2) ∨ (¬ cap = p ∧ Option.map (fun x => x.add p) a = A2)) := by
    by_cases h : cap = p
    · exact ⟨a, if_pos h, .inl ⟨h, rfl⟩⟩
    · exact ⟨_, if_neg h, .inr ⟨h, rfl⟩⟩
  rw [hA2] at hU
  clear hA2
  have hbr : rb < w1.heap.size := by simp only [World.size_alloc] at hsz1; omega
  have HU : Hid (∀ W, Ext (w1.setCell ⟨w.heap.size, 0, none⟩ (.int .i64 (s : Int))).drew W → Calls Try.prog 57 #[.slice A2 (len - p) (cap - p)] W fun e w2 => e = .returned (.tuple #[.agg #[.bool false, .slice none 0 0], .int .i64 0, .int .i64 13]) ∧ Ext (w1.setCell ⟨w.heap.size, 0, none⟩ (.int .i64 (s : Int))).drew w2 ∧ w2.cell? ⟨rb, 0, none⟩ = some (.slice a len cap) ∧ w2.cell? ⟨rb, 1, none⟩ = some (.int .i64 (p : Int)) ∧ Ext W w2) := Lib.hid (fun W hW => (hU W hW).mono (by
    rintro e w2 ⟨⟨h1, h2, h3, W', _, hu⟩, h4⟩
    unfold unb at hu; rw [hN] at hu; exact ⟨hu, h1, h2, h3, h4⟩))
  have HD2 : Hid (D = none) := Lib.hid (by rw [HD.out, hN])
  clear hU hN
  have hnew : w1.heap.size < (w1.setCell ⟨w.heap.size, 0, none⟩ (.int .i64 (s : Int))).drew.heap.size → False := fun h => by simp only [World.size_drew, World.size_setCell] at h; omega
  rcases hcp.symm with ⟨hcp, -⟩ | ⟨hcp, rfl⟩
  · exact absurd (HC0.out.trans HP.out) hcp
  have hcl := HR1.out.cap1
  have e1 : len = p := by omega
  have e2 : len = cap := by omega
  clear hcp
  subst e1
  subst e2
  simp only [Nat.sub_self] at HU
  rcases hsl with hs2 | ⟨hs2, hs4⟩
  all_goals
    go_wp2_with fail
    go_region_held3 (fun v => v.cell? ⟨rb, 0, none⟩ = some (.slice a len len) ∧ v.cell? ⟨rb, 1, none⟩ = some (.int .i64 (len : Int))) (first | exact ⟨r0, r1⟩ | exact ⟨s0, s1⟩ | exact ⟨far2 s0 hbr, far2 s1 hbr⟩ | go_keep) (first | (go_at_call 57; refine (HU.out _ (Chg.refl _)).mono ?_; rintro e w2 ⟨rfl, hx2, s0, s1, hx3⟩; clear hx3) | (go_at_call 57; refine (HU.out _ ((Chg.refl _).alloc _)).mono ?_; rintro e w2 ⟨rfl, hx2, s0, s1, hx3⟩; have kb := nat_box hx3; obtain ⟨n0, n1, m0, m1⟩ := kb; clear hx3))
    all_goals
      go_wp2_with fail
      refine (bad_any (p := (len : Int)) (by first | exact far2 s1 hbr | exact (((Chg.refl (S := fun _ => False) _).alloc _).cell (lt_of_cell s1) (fun h => h)).trans s1)).mono ?_
      rintro e w4 ⟨hx4, hg⟩
      have hE : Ext (w1.setCell ⟨w.heap.size, 0, none⟩ (.int .i64 (s : Int))).drew w4 := by
        first
          | exact (hx2.alloc _).trans hx4
          | exact ((hx2.setCell _ _ hnew).setCell _ _ hnew).trans hx4
      have hfin : Got w rb a len len bs D (ValV w) e w4 := Got.gone D HD2.out ((HB1.out.drew.ext hE).low) hg (by have := hx2.size; have := HB1.out.drew.1.size; (try simp only [World.size_alloc, World.size_setCell] at *); omega)
      obtain ⟨p, ch, b, rfl, _⟩ := hg
      exact ⟨rfl, hfin⟩
end Go.Proofs.Ytnamcghcgcknpaa
