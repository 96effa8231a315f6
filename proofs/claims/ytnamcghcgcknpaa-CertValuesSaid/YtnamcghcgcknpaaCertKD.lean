/-
  The reader of certs (chapter 24): a value with a number, taken.
-/
import Derived.Test.YtnamcghcgcknpaaCertK
namespace Go.Proofs.Ytnamcghcgcknpaa
open Go.RowKit
set_option linter.unusedVariables false

set_option maxRecDepth 100000 in
set_option maxHeartbeats 8000000 in
theorem value_nat_some3 {w : World} {rb : Nat} {a : Option Addr} {len cap : Nat} {bs r : List Nat} {s : Nat} (h : Rd w rb a len cap bs (s :: r)) (h13 : s = 1 ∨ s = 3) {inf : Bool} {l t : List Nat} (hN : dNat r = some ((inf, l), t)) (he : s = 3) :
    Calls Try.prog 31 #[.pointer (some ⟨rb, 0, none⟩)] w (Got w rb a len cap bs (dVal (s :: r)) (ValV w)) := by
  have hlt := h.lt
  have hby : ∀ b ∈ r, b < 256 := fun b hb => h.byte b (by obtain ⟨pre, hpre⟩ := h.suf; rw [hpre]; simp [hb])
  have hbox0 : Vb w (w.alloc (Obj.cells #[.int .i64 0, .bool false, .slice none 0 0, .int .i64 0, .float .f64 0] 31)) rb #[.int .i64 0, .bool false, .slice none 0 0, .int .i64 0, .float .f64 0] := ⟨(Chg.refl w).alloc _, Blk.new _ _ _⟩
  have hrd0 : Rd (w.alloc (Obj.cells #[.int .i64 0, .bool false, .slice none 0 0, .int .i64 0, .float .f64 0] 31)) rb a len cap bs (s :: r) := h.chg (S := fun _ => False) ((Chg.refl w).alloc _) (fun _ _ h => h)
  have HB0 := Lib.hid hbox0
  have HR0 := Lib.hid hrd0
  have HD := Lib.hid (dVal_nat (r := r) h13)
  clear hbox0 hrd0 h
  obtain ⟨D, hD⟩ : ∃ D, D = dVal (s :: r) := ⟨_, rfl⟩
  rw [← hD] at HD ⊢
  clear hD
  have hs2 : ((s : Int) == 1) = false := by subst he; rfl
  have hs4 : ((s : Int) == 3) = true := by subst he; rfl
  clear he
  clear h13
  have hsf := run_store_f
  go_enter Try.func31, Try.ntmps31
  go_wp2_with fail
  refine (byte_any HR0.out).mono ?_
  rintro e w1 ⟨hc, hg⟩
  obtain ⟨v, rfl, ⟨rfl, hs⟩, hrd⟩ := hg
  have HB1 : Hid (Vb w (w1.setCell ⟨w.heap.size, 0, none⟩ (.int .i64 (s : Int))) rb #[.int .i64 (s : Int), .bool false, .slice none 0 0, .int .i64 0, .float .f64 0]) := Lib.hid ((HB0.out.call hlt hc).set 0 (.int .i64 (s : Int)))
  have HR1 := Lib.hid (hrd.box hlt 0 (.int .i64 (s : Int)))
  have hsz1 := hc.size
  have k0 := (HB0.out.call hlt hc).2.cell 0 _ rfl
  have f0 := (HB0.out.call hlt hc).2.frozen 0
  have k1 := HB1.out.2.cell 0 _ rfl
  clear hc hrd
  have hle := HR1.out.le
  have hlen := HR1.out.hlen
  have r0 := HR1.out.c0
  have r1 := HR1.out.c1
  obtain ⟨p, hp⟩ : ∃ p : Nat, len - r.length = p := ⟨_, rfl⟩
  rw [hp] at r1
  have hpl : p ≤ len := by omega
  have hpl' : (p : Int) ≤ (len : Int) := by omega
  have hp0 : 0 ≤ (p : Int) := by omega
  have hU := fun W hW => unbP_call (HR1.out.heap (w' := (w1.setCell ⟨w.heap.size, 0, none⟩ (.int .i64 (s : Int))).drew) rfl) hp W hW
  have HP := Lib.hid hp
  clear hp
  obtain ⟨A2, hA2, hcp⟩ : ∃ A2, (if cap = p then a else Option.map (fun x => x.add p) a) = A2 ∧ ((cap = p ∧ a = A2) ∨ (¬ cap = p ∧ Option.map (fun x => x.add p) a = A2)) := by
    by_cases h : cap = p
    · exact ⟨a, if_pos h, .inl ⟨h, rfl⟩⟩
    · exact ⟨_, if_neg h, .inr ⟨h, rfl⟩⟩
  rw [hA2] at hU
  clear hA2
  have hbr : rb < w1.heap.size := by simp only [World.size_alloc] at hsz1; omega
  obtain ⟨hr, hln64, hl32, -, -⟩ := dNat_inv hby hN
  have HU : Hid (∀ W, Ext (w1.setCell ⟨w.heap.size, 0, none⟩ (.int .i64 (s : Int))).drew W → Calls Try.prog 57 #[.slice A2 (len - p) (cap - p)] W fun e w2 => ∃ va vc, e = .returned (.tuple #[.agg #[.bool inf, .slice va l.length vc], .int .i64 ((r.length - t.length : Nat) : Int), .int .i64 0]) ∧ Ext (w1.setCell ⟨w.heap.size, 0, none⟩ (.int .i64 (s : Int))).drew w2 ∧ w2.cell? ⟨rb, 0, none⟩ = some (.slice a len cap) ∧ w2.cell? ⟨rb, 1, none⟩ = some (.int .i64 (p : Int)) ∧ Ext W w2 ∧ w2.ownsRow (w.heap.size + 1) 77 1 (.slice va l.length vc) l.length (wordCells l)) := Lib.hid (fun W hW => (hU W hW).mono (by
    rintro e w2 ⟨⟨h1, h2, h3, W', hsW, hu⟩, h4⟩
    unfold unb at hu; rw [hN] at hu
    obtain ⟨v, he, ho⟩ := hu
    obtain ⟨va, vc, rfl⟩ := own_slice ho
    have hsz0 : w.heap.size + 1 ≤ (w1.setCell ⟨w.heap.size, 0, none⟩ (.int .i64 (s : Int))).drew.heap.size := by simp only [World.size_drew, World.size_setCell]; simp only [World.size_alloc] at hsz1; omega
    exact ⟨va, vc, he, h1, h2, h3, h4, ownsRow_base ho (by omega)⟩))
  have hD2 : D = if mayV ⟨s, inf, l, 0, 0⟩ = 0 then some (⟨s, inf, l, 0, 0⟩, t) else none := by rw [HD.out, hN]
  obtain ⟨nn, hnn⟩ : ∃ nn : Nat, r.length - t.length = nn := ⟨_, rfl⟩
  have hrt : t.length ≤ r.length := by rw [hr]; simp
  rw [hnn] at HU
  have hpn : (p : Int) + (nn : Int) = ((len - t.length : Nat) : Int) := by have := HP.out; omega
  have HR := Lib.hid (And.intro hr (And.intro hln64 hl32))
  have HPN := Lib.hid hpn
  have hnn0 : 0 ≤ (nn : Int) := by omega
  have hpnl : (p : Int) + (nn : Int) ≤ 9223372036854775807 := by omega
  have HD2 := Lib.hid hD2
  clear hU hN hr hD2 hnn hpn hl32 hln64 hby
  have hnew : w1.heap.size < (w1.setCell ⟨w.heap.size, 0, none⟩ (.int .i64 (s : Int))).drew.heap.size → False := fun h => by simp only [World.size_drew, World.size_setCell] at h; omega
  rcases hcp with ⟨hcp, -⟩ | ⟨hcp, rfl⟩
  · have hcl := HR1.out.cap1
    have h0 : r.length = 0 := by have := HP.out; omega
    have h1 : r = [] := by simpa using h0
    have h2 := HR.out.1
    rw [h1] at h2
    have h3 := eNat_len (inf, l)
    have h4 := congrArg List.length h2
    simp at h4
    omega
  go_wp2_with fail
  go_region_held3 (fun v => v.cell? ⟨rb, 0, none⟩ = some (.slice a len cap) ∧ v.cell? ⟨rb, 1, none⟩ = some (.int .i64 (p : Int))) (first | exact ⟨r0, r1⟩ | exact ⟨s0, s1⟩ | exact ⟨far2 s0 hbr, far2 s1 hbr⟩ | go_keep) (first | (go_at_call 57; refine (HU.out _ (Chg.refl _)).mono ?_; rintro e w2 ⟨va, vc, rfl, hx2, s0, s1, hx3, hown⟩; clear hx3) | (go_at_call 57; refine (HU.out _ ((Chg.refl _).alloc _)).mono ?_; rintro e w2 ⟨va, vc, rfl, hx2, s0, s1, hx3, hown⟩; have kb := nat_box hx3; obtain ⟨n0, n1, m0, m1⟩ := kb; have HKB := Lib.hid (nat_box2 hx3 (.bool inf) (.slice va l.length vc)); have HOB := Lib.hid (nat_box3 hx3 hown); clear hx3))
  · have hE : Ext (w1.setCell ⟨w.heap.size, 0, none⟩ (.int .i64 (s : Int))).drew (w2.alloc (Obj.cells #[.bool inf, .slice va l.length vc] 28)) := hx2.alloc _
    have hvb := HB1.out.drew.ext hE
    have hrd := (HR1.out.heap (w' := (w1.setCell ⟨w.heap.size, 0, none⟩ (.int .i64 (s : Int))).drew) rfl).ext hE
    have HOW : Hid ((w2.alloc (Obj.cells #[.bool inf, .slice va l.length vc] 28)).ownsRow (w.heap.size + 1) 77 1 (.slice va l.length vc) l.length (wordCells l)) := Lib.hid (hown.alloc _)
    have hbx : Blk (w2.alloc (Obj.cells #[.bool inf, .slice va l.length vc] 28)) w2.heap.size #[.bool inf, .slice va l.length vc] 28 := Blk.new _ _ _
    have HS := Lib.hid (nat_steps (inf := inf) hlt hvb hrd HR.out.1 HPN.out HOW.out)
    have x0 := hbx.cell 0 _ rfl
    have x1 := hbx.cell 1 _ rfl
    obtain ⟨g0, f0, g1, f1, g2, f2, g3, f3, g4, f4⟩ := blk5_base hvb.2
    have o2 := HS.out.2.2.2.1
    have o1 := HS.out.2.2.2.2.1
    rw [HP.out] at o1
    have ofr := HS.out.2.2.2.2.2
    have HM0 := may_any (w := ((((w2.alloc (Obj.cells #[.bool inf, .slice va l.length vc] 28)).setCell ⟨w.heap.size, 1, none⟩ (.bool inf)).setCell ⟨w.heap.size, 2, none⟩ (.slice va l.length vc)).setCell ⟨rb, 1, none⟩ (.int .i64 ((p : Int) + (nn : Int))))) (v := ⟨s, inf, l, 0, 0⟩) (a := va) (cap := vc) (Cells.of_own HS.out.2.2.1) (by simp)
    obtain ⟨mv, hmv0⟩ : ∃ mv, mayV ⟨s, inf, l, 0, 0⟩ = mv := ⟨_, rfl⟩
    rw [hmv0] at HM0
    have hD3 := HD2.out
    rw [hmv0] at hD3
    have HM := Lib.hid HM0
    have HD3 := Lib.hid hD3
    obtain ⟨j0, i0, j1, i1, j2, i2, j3, i3, j4, i4⟩ := blk5_base HS.out.1.2
    clear hE hvb hrd hbx HM0 hD3 hmv0 hown hx2
    by_cases hmv : mv = 0
    · subst hmv
      have HD4 : Hid (D = some (⟨s, inf, l, 0, 0⟩, t)) := Lib.hid HD3.out
      go_wp2_with (go_at_call 24; refine HM.out.mono ?_; rintro e w' ⟨rfl, hx⟩; have kb := HS.out.1.2.chg hx (fun h => h); clear g0 f0 g1 f1 g2 f2 g3 f3 g4 f4; obtain ⟨g0, f0, g1, f1, g2, f2, g3, f3, g4, f4⟩ := blk5_base kb; obtain ⟨y3, z3, y4, z4, q0, q1, q2, q3, q4⟩ := blk5_facts kb (.int .i64 (s : Int)) (.bool inf) (.slice va l.length vc) (.int .i64 0) (.float .f64 0); have HXX := Lib.hid hx; clear kb hx)
      (try simp only [Exit.inBlock, Exit.then])
      refine bodyPost_ret (by simp [results, Try.results31, go_sem, q0, q1, q2, q3, q4]; try rfl) rfl ?_
      exact val_done (v := ⟨s, inf, l, 0, 0⟩) hlt (HS.out.1.ext HXX.out) (HS.out.2.1.ext HXX.out) (own_low HS.out.2.2.1 HXX.out (fun _ _ h => h)) (by simp) D HD4.out _ _ _ _ _
    · have hmv' : (mv == 0) = false := by simpa using hmv
      have HD4 : Hid (D = none) := Lib.hid (by rw [HD3.out, if_neg hmv])
      go_wp2_with (go_at_call 24; refine HM.out.mono ?_; rintro e w' ⟨rfl, hx⟩; have HXX := Lib.hid hx; clear hx)
      refine (bad_any (HS.out.2.1.ext HXX.out).c1).mono ?_
      rintro e w4 ⟨hx4, hg⟩
      have hfin : Got w rb a len cap bs D (ValV w) e w4 := Got.gone D HD4.out ((HS.out.1.ext HXX.out).ext hx4).low hg (by have := (HS.out.1.ext HXX.out).1.size; omega)
      obtain ⟨p, ch, b, rfl, _⟩ := hg
      exact ⟨rfl, hfin⟩
  · have hE : Ext (w1.setCell ⟨w.heap.size, 0, none⟩ (.int .i64 (s : Int))).drew ((w2.setCell ⟨w1.heap.size, 0, none⟩ (.bool inf)).setCell ⟨w1.heap.size, 1, none⟩ (.slice va l.length vc)) := (hx2.setCell _ _ hnew).setCell _ _ hnew
    have hvb := HB1.out.drew.ext hE
    have hrd := (HR1.out.heap (w' := (w1.setCell ⟨w.heap.size, 0, none⟩ (.int .i64 (s : Int))).drew) rfl).ext hE
    have HOW : Hid (((w2.setCell ⟨w1.heap.size, 0, none⟩ (.bool inf)).setCell ⟨w1.heap.size, 1, none⟩ (.slice va l.length vc)).ownsRow (w.heap.size + 1) 77 1 (.slice va l.length vc) l.length (wordCells l)) := Lib.hid (own_chg hown (Chg.setCell (S := fun k => k = w1.heap.size) (Chg.setCell (S := fun k => k = w1.heap.size) (Chg.refl _) ⟨w1.heap.size, 0, none⟩ _ (fun _ => rfl)) ⟨w1.heap.size, 1, none⟩ _ (fun _ => rfl)) HOB.out)
    have hbx : Blk ((w2.setCell ⟨w1.heap.size, 0, none⟩ (.bool inf)).setCell ⟨w1.heap.size, 1, none⟩ (.slice va l.length vc)) w1.heap.size #[.bool inf, .slice va l.length vc] 28 := HKB.out
    have HS := Lib.hid (nat_steps (inf := inf) hlt hvb hrd HR.out.1 HPN.out HOW.out)
    have x0 := hbx.cell 0 _ rfl
    have x1 := hbx.cell 1 _ rfl
    obtain ⟨g0, f0, g1, f1, g2, f2, g3, f3, g4, f4⟩ := blk5_base hvb.2
    have o2 := HS.out.2.2.2.1
    have o1 := HS.out.2.2.2.2.1
    rw [HP.out] at o1
    have ofr := HS.out.2.2.2.2.2
    have HM0 := may_any (w := (((((w2.setCell ⟨w1.heap.size, 0, none⟩ (.bool inf)).setCell ⟨w1.heap.size, 1, none⟩ (.slice va l.length vc)).setCell ⟨w.heap.size, 1, none⟩ (.bool inf)).setCell ⟨w.heap.size, 2, none⟩ (.slice va l.length vc)).setCell ⟨rb, 1, none⟩ (.int .i64 ((p : Int) + (nn : Int))))) (v := ⟨s, inf, l, 0, 0⟩) (a := va) (cap := vc) (Cells.of_own HS.out.2.2.1) (by simp)
    obtain ⟨mv, hmv0⟩ : ∃ mv, mayV ⟨s, inf, l, 0, 0⟩ = mv := ⟨_, rfl⟩
    rw [hmv0] at HM0
    have hD3 := HD2.out
    rw [hmv0] at hD3
    have HM := Lib.hid HM0
    have HD3 := Lib.hid hD3
    obtain ⟨j0, i0, j1, i1, j2, i2, j3, i3, j4, i4⟩ := blk5_base HS.out.1.2
    clear hE hvb hrd hbx HM0 hD3 hmv0 hown hx2
    by_cases hmv : mv = 0
    · subst hmv
      have HD4 : Hid (D = some (⟨s, inf, l, 0, 0⟩, t)) := Lib.hid HD3.out
      go_wp2_with (go_at_call 24; refine HM.out.mono ?_; rintro e w' ⟨rfl, hx⟩; have kb := HS.out.1.2.chg hx (fun h => h); clear g0 f0 g1 f1 g2 f2 g3 f3 g4 f4; obtain ⟨g0, f0, g1, f1, g2, f2, g3, f3, g4, f4⟩ := blk5_base kb; obtain ⟨y3, z3, y4, z4, q0, q1, q2, q3, q4⟩ := blk5_facts kb (.int .i64 (s : Int)) (.bool inf) (.slice va l.length vc) (.int .i64 0) (.float .f64 0); have HXX := Lib.hid hx; clear kb hx)
      (try simp only [Exit.inBlock, Exit.then])
      refine bodyPost_ret (by simp [results, Try.results31, go_sem, q0, q1, q2, q3, q4]; try rfl) rfl ?_
      exact val_done (v := ⟨s, inf, l, 0, 0⟩) hlt (HS.out.1.ext HXX.out) (HS.out.2.1.ext HXX.out) (own_low HS.out.2.2.1 HXX.out (fun _ _ h => h)) (by simp) D HD4.out _ _ _ _ _
    · have hmv' : (mv == 0) = false := by simpa using hmv
      have HD4 : Hid (D = none) := Lib.hid (by rw [HD3.out, if_neg hmv])
      go_wp2_with (go_at_call 24; refine HM.out.mono ?_; rintro e w' ⟨rfl, hx⟩; have HXX := Lib.hid hx; clear hx)
      refine (bad_any (HS.out.2.1.ext HXX.out).c1).mono ?_
      rintro e w4 ⟨hx4, hg⟩
      have hfin : Got w rb a len cap bs D (ValV w) e w4 := Got.gone D HD4.out ((HS.out.1.ext HXX.out).ext hx4).low hg (by have := (HS.out.1.ext HXX.out).1.size; omega)
      obtain ⟨p, ch, b, rfl, _⟩ := hg
      exact ⟨rfl, hfin⟩
end Go.Proofs.Ytnamcghcgcknpaa
