/-
  The reader of certs (chapter 24): a value.
-/
import Derived.Test.YtnamcghcgcknpaaCertH
import Derived.Test.YtnamcghcgcknpaaCertJ
namespace Go.Proofs.Ytnamcghcgcknpaa
open Go.RowKit
set_option linter.unusedVariables false

/-- What a value's reading hands back. -/
def ValV (w : World) (v : Val) (val : Value) (w' : World) : Prop :=
  ∃ a cap, val = valV v a cap ∧ w'.ownsRow w.heap.size 77 1 (.slice a v.w.length cap) v.w.length (wordCells v.w) ∧ v.x < 18446744073709551616
/-- The value's own box, written over as the walk goes. -/
def Vb (w w' : World) (rb : Nat) (cs : Array Value) : Prop := Chg (fun k => k = rb ∨ w.heap.size ≤ k) w w' ∧ Blk w' w.heap.size cs 31
theorem Vb.set {w w' : World} {rb : Nat} {cs : Array Value} (h : Vb w w' rb cs) (j : Nat) (u : Value) : Vb w (w'.setCell ⟨w.heap.size, j, none⟩ u) rb (cs.setIfInBounds j u) :=
  ⟨h.1.setCell _ _ (fun _ => .inr (Nat.le_refl _)), h.2.set j u⟩
theorem Vb.call {w w1 w' : World} {rb : Nat} {cs : Array Value} (h : Vb w w1 rb cs) (hlt : rb < w.heap.size) (k : Chg (fun k => k = rb) w1 w') : Vb w w' rb cs :=
  ⟨h.1.trans (k.mono fun _ _ h => .inl h), h.2.chg k (by intro h; have h' : w.heap.size = rb := h; omega)⟩
theorem Vb.low {w w' : World} {rb : Nat} {cs : Array Value} (h : Vb w w' rb cs) : Chg (fun k => k = rb) w w' := h.1.mono fun k hk h => h.elim id fun h => absurd h (by omega)
theorem Rd.box {w w' : World} {rb : Nat} {a : Option Addr} {len cap : Nat} {bs rest : List Nat} (h : Rd w' rb a len cap bs rest) (hlt : rb < w.heap.size) (j : Nat) (u : Value) : Rd (w'.setCell ⟨w.heap.size, j, none⟩ u) rb a len cap bs rest :=
  h.chg (S := fun k => k = w.heap.size) ((Chg.refl _).setCell _ _ (fun _ => rfl)) fun b hb h => by have h' : b = w.heap.size := h; omega
/-- A store of a double (the kit's laws name the other kinds). -/
theorem run_store_f (a : Addr) (b : Nat) (w : World) : (store a (.float .f64 b) .plain).run Try.prog w = stored Try.prog w a (.float .f64 b) .plain := run_store _ w a _ _ rfl
theorem dVal_lev {s : Nat} {r : List Nat} (h : s = 2 ∨ s = 4) : dVal (s :: r) = match dLev r with | none => none | some (l, t) => if mayV ⟨s, false, [], l, 0⟩ = 0 then some (⟨s, false, [], l, 0⟩, t) else none := by
  unfold dVal
  rw [dVal0, if_neg (by omega), if_pos h]
  cases dLev r <;> rfl
theorem dVal_nat {s : Nat} {r : List Nat} (h : s = 1 ∨ s = 3) : dVal (s :: r) = match dNat r with | none => none | some (a, t) => if mayV ⟨s, a.1, a.2, 0, 0⟩ = 0 then some (⟨s, a.1, a.2, 0, 0⟩, t) else none := by
  unfold dVal
  rw [dVal0, if_pos h]
  cases dNat r <;> rfl
theorem dVal_flo {s : Nat} {r : List Nat} (h : ¬ (s = 1 ∨ s = 3)) (h' : ¬ (s = 2 ∨ s = 4)) : dVal (s :: r) = match dOct 0 8 r with | none => none | some (b, t) => if fb (fo b) = b then (if mayV ⟨s, false, [], 0, fo b⟩ = 0 then some (⟨s, false, [], 0, fo b⟩, t) else none) else none := by
  unfold dVal
  rw [dVal0, if_neg h, if_neg h']
  cases dOct 0 8 r with
  | none => rfl
  | some p =>
    obtain ⟨b, t⟩ := p
    by_cases hb : fb (fo b) = b
    · simp only [if_pos hb]
    · simp only [if_neg hb]
theorem set_chg {p j : Nat} {W w' : World} {c : Value} (h : Chg (fun k => k = p) W w') : Chg (fun k => k = p) W (w'.setCell ⟨p, j, none⟩ c) := h.setCell _ _ (fun _ => rfl)
theorem val_done {w W : World} {rb : Nat} {a : Option Addr} {len cap : Nat} {bs t : List Nat} {v : Val} {av : Option Addr} {capv : Nat} {cs : Array Value} (hlt : rb < w.heap.size) (hB : Vb w W rb cs) (hR : Rd W rb a len cap bs t)
    (hown : W.ownsRow (w.heap.size + 1) 77 1 (.slice av v.w.length capv) v.w.length (wordCells v.w)) (hx : v.x < 18446744073709551616) (D : Option (Val × List Nat)) (hD : D = some (v, t)) (c0 c1 c2 c3 c4 : Value) :
    Got w rb a len cap bs D (ValV w) (.returned (valV v av capv)) (((((W.setCell ⟨w.heap.size, 0, none⟩ c0).setCell ⟨w.heap.size, 1, none⟩ c1).setCell ⟨w.heap.size, 2, none⟩ c2).setCell ⟨w.heap.size, 3, none⟩ c3).setCell ⟨w.heap.size, 4, none⟩ c4) := by
  subst hD
  have hc : Chg (fun k => k = w.heap.size) W (((((W.setCell ⟨w.heap.size, 0, none⟩ c0).setCell ⟨w.heap.size, 1, none⟩ c1).setCell ⟨w.heap.size, 2, none⟩ c2).setCell ⟨w.heap.size, 3, none⟩ c3).setCell ⟨w.heap.size, 4, none⟩ c4) :=
    set_chg (set_chg (set_chg (set_chg (set_chg (Chg.refl _)))))
  refine ⟨?_, _, rfl, ⟨av, capv, rfl, ownsRow_base (own_low hown hc (fun g hg h => by have h' : g = w.heap.size := h; omega)) (by omega), hx⟩, hR.chg hc (fun b hb h => by have h' : b = w.heap.size := h; omega)⟩
  have h1 : Chg (fun k => k = rb ∨ w.heap.size ≤ k) w _ := hB.1.trans (hc.mono fun k _ h => .inr (by have h' : k = w.heap.size := h; omega))
  exact h1.mono fun k hk h => h.elim id fun h => absurd h (by omega)
theorem Vb.ext {w w1 w' : World} {rb : Nat} {cs : Array Value} (h : Vb w w1 rb cs) (k : Ext w1 w') : Vb w w' rb cs :=
  ⟨h.1.trans (k.mono fun _ _ h => h.elim), h.2.chg k (fun h => h)⟩
theorem Rd.ext {w w' : World} {rb : Nat} {a : Option Addr} {len cap : Nat} {bs rest : List Nat} (h : Rd w rb a len cap bs rest) (k : Ext w w') : Rd w' rb a len cap bs rest := h.chg k fun _ _ h => h
set_option maxRecDepth 100000 in
set_option maxHeartbeats 1000000 in
theorem value_lev {w : World} {rb : Nat} {a : Option Addr} {len cap : Nat} {bs r : List Nat} {s : Nat} (h : Rd w rb a len cap bs (s :: r)) (h24 : s = 2 ∨ s = 4) :
    Calls Try.prog 31 #[.pointer (some ⟨rb, 0, none⟩)] w (Got w rb a len cap bs (dVal (s :: r)) (ValV w)) := by
  have hlt := h.lt
  have hbox0 : Vb w (w.alloc (Obj.cells #[.int .i64 0, .bool false, .slice none 0 0, .int .i64 0, .float .f64 0] 31)) rb #[.int .i64 0, .bool false, .slice none 0 0, .int .i64 0, .float .f64 0] := ⟨(Chg.refl w).alloc _, Blk.new _ _ _⟩
  have hrd0 : Rd (w.alloc (Obj.cells #[.int .i64 0, .bool false, .slice none 0 0, .int .i64 0, .float .f64 0] 31)) rb a len cap bs (s :: r) := h.chg (S := fun _ => False) ((Chg.refl w).alloc _) (fun _ _ h => h)
  have HB0 := Lib.hid hbox0
  have HR0 := Lib.hid hrd0
  have HD := Lib.hid (dVal_lev (r := r) h24)
  clear hbox0 hrd0 h
  obtain ⟨D, hD⟩ : ∃ D, D = dVal (s :: r) := ⟨_, rfl⟩
  rw [← hD] at HD ⊢
  clear hD
  have hs1 : ((s : Int) == 1) = false := by rcases h24 with rfl | rfl <;> rfl
  have hs3 : ((s : Int) == 3) = false := by rcases h24 with rfl | rfl <;> rfl
  have hsl : (((s : Int) == 2) = true) ∨ (((s : Int) == 2) = false ∧ ((s : Int) == 4) = true) := by rcases h24 with rfl | rfl <;> decide
  clear h24
  have hsf := run_store_f
  go_enter Try.func31, Try.ntmps31
  go_wp2_with fail
  refine (byte_any HR0.out).mono ?_
  rintro e w1 ⟨hc, hg⟩
  obtain ⟨v, rfl, ⟨rfl, hs⟩, hrd⟩ := hg
  have HB1 : Hid (Vb w (w1.setCell ⟨w.heap.size, 0, none⟩ (.int .i64 (s : Int))) rb #[.int .i64 (s : Int), .bool false, .slice none 0 0, .int .i64 0, .float .f64 0]) := Lib.hid ((HB0.out.call hlt hc).set 0 (.int .i64 (s : Int)))
  have HR1 := Lib.hid (hrd.box hlt 0 (.int .i64 (s : Int)))
  have hsz1 := hc.size
  have k0 := (HB0.out.call hlt hc).2.cell 0 _ rfl
  have f0 := (HB0.out.call hlt hc).2.frozen 0
  have k1 := HB1.out.2.cell 0 _ rfl
  clear hc hrd
  rcases hsl with hs2 | ⟨hs2, hs4⟩
  all_goals
    go_wp2_with fail
    refine (byte_any HR1.out).mono ?_
    rintro e w2 ⟨hc2, hg⟩
    cases r with
    | nil =>
      have hfin : Got w rb a len cap bs D (ValV w) e w2 := Got.gone D HD.out (HB1.out.call hlt hc2).low hg (Nat.le_trans (by omega) (HB1.out.1.size))
      obtain ⟨p, ch, b, rfl, _⟩ := hg
      exact ⟨rfl, hfin⟩
    | cons l r =>
      obtain ⟨v, rfl, ⟨rfl, hl⟩, hrd⟩ := hg
      have HB2 : Hid (Vb w (w2.setCell ⟨w.heap.size, 3, none⟩ (.int .i64 (l : Int))) rb #[.int .i64 (s : Int), .bool false, .slice none 0 0, .int .i64 (l : Int), .float .f64 0]) := Lib.hid ((HB1.out.call hlt hc2).set 3 (.int .i64 (l : Int)))
      have HR2 := Lib.hid (hrd.box hlt 3 (.int .i64 (l : Int)))
      have kk3 := (HB1.out.call hlt hc2).2.cell 3 _ rfl
      have ff3 := (HB1.out.call hlt hc2).2.frozen 3
      have j0 := HB2.out.2.cell 0 _ rfl
      have j1 := HB2.out.2.cell 1 _ rfl
      have j2 := HB2.out.2.cell 2 _ rfl
      have j3 := HB2.out.2.cell 3 _ rfl
      have j4 := HB2.out.2.cell 4 _ rfl
      have HM := Lib.hid (may_any (w := w2.setCell ⟨w.heap.size, 3, none⟩ (.int .i64 (l : Int))) (v := ⟨s, false, [], l, 0⟩) (a := none) (cap := 0) ⟨Nat.le_refl _, by unfold maxLen; omega, fun j u hu => by simp [wordCells] at hu⟩ (by simp))
      have hD2 := HD.out
      simp only [dLev] at hD2
      generalize mayV ⟨s, false, [], l, 0⟩ = mv at HM hD2
      have HD2 := Lib.hid hD2
      clear hc2 hrd k0 f0 k1 hD2
      by_cases hmv : mv = 0
      · subst hmv
        have HD3 : Hid (D = some (⟨s, false, [], l, 0⟩, r)) := Lib.hid HD2.out
        go_wp2_with (go_at_call 24; refine HM.out.mono ?_; rintro e w' ⟨rfl, hx⟩; have kb := HB2.out.2.chg hx (fun h => h); obtain ⟨g0, f0, g1, f1, g2, f2, g3, f3, g4, f4⟩ := blk5_base kb; obtain ⟨y3, z3, y4, z4, q0, q1, q2, q3, q4⟩ := blk5_facts kb (.int .i64 (s : Int)) (.bool false) (.slice none 0 0) (.int .i64 (l : Int)) (.float .f64 0); have HXX := Lib.hid hx; clear kb hx)
        (try simp only [Exit.inBlock, Exit.then])
        refine bodyPost_ret (by simp [results, Try.results31, go_sem, q0, q1, q2, q3, q4]; try rfl) rfl ?_
        exact val_done (v := ⟨s, false, [], l, 0⟩) hlt (HB2.out.ext HXX.out) (HR2.out.ext HXX.out) (World.ownsRow_nil _ _ _ _) (by simp) D HD3.out _ _ _ _ _
      · have hmv' : (mv == 0) = false := by simpa using hmv
        have HD3 : Hid (D = none) := Lib.hid (by rw [HD2.out, if_neg hmv])
        go_wp2_with (go_at_call 24; refine HM.out.mono ?_; rintro e w' ⟨rfl, hx⟩; have HXX := Lib.hid hx; clear hx)
        refine (bad_any (HR2.out.ext HXX.out).c1).mono ?_
        rintro e w4 ⟨hx4, hg⟩
        have hfin : Got w rb a len cap bs D (ValV w) e w4 := Got.gone D HD3.out ((HB2.out.ext HXX.out).ext hx4).low hg (Nat.le_trans (by omega) (HB2.out.ext HXX.out).1.size)
        obtain ⟨p, ch, b, rfl, _⟩ := hg
        exact ⟨rfl, hfin⟩
end Go.Proofs.Ytnamcghcgcknpaa
