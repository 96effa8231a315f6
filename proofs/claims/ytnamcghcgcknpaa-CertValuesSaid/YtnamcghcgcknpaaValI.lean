/-
  The document's own answer on bytes as a value (chapter 24): the walk of Unvalue.
-/
import Derived.Test.YtnamcghcgcknpaaValH
import Derived.Test.YtnamcghcgcknpaaLawA
namespace Go.Proofs.Ytnamcghcgcknpaa
open Go.RowKit
set_option linter.unusedVariables false
set_option linter.unusedSimpArgs false

theorem fo_fb (b : Nat) : fo b = fb b := by
  by_cases h : 9218868437227405312 < b % 9223372036854775808
  · rw [fo, if_pos h, fb, if_pos]
    have hs : FloatKind.f64.format.signWeight = 9223372036854775808 := by decide
    have hi : FloatKind.f64.format.infRung = 9218868437227405312 := by decide
    have hbin : FloatKind.f64.format.binade = 4503599627370496 := by decide
    have hr : ∃ s t, FloatKind.f64.format.read b = .nan s t := by
      unfold Ieee.Format.read
      simp only [hs, hi, hbin]
      rw [if_neg (by omega), if_neg (by omega), if_neg (by omega)]
      exact ⟨_, _, rfl⟩
    obtain ⟨s, t, hr⟩ := hr
    unfold Ieee.Format.order
    rw [hr]
    simp [Ieee.Datum.order]
  · rw [fo, if_neg h, fb, ord_self (by omega)]; rfl
theorem fb_fb (b : Nat) : fb (fb b) = fb b := by
  have h := fo_fb b
  by_cases hb : (FloatKind.f64.format.order b b != some Ordering.eq) = true
  · rw [fb.eq_1 b, if_pos hb]; decide
  · have : fb b = b := by rw [fb, if_neg hb]
    rw [this, this]
theorem cells_tail {w : World} {x : Addr} {cap n c : Nat} {l : List Nat} (h : Cells w (some x) (n + 1) cap (byteCells (c :: l))) (hc : 1 ≤ cap) : Cells w (some (x.add 1)) n (cap - 1) (byteCells l) := by
  refine ⟨by have := h.1; omega, Nat.le_trans (Nat.sub_le _ _) h.2.1, fun j u hu => ⟨x.add 1, rfl, ?_⟩⟩
  obtain ⟨y, hy, hcell⟩ := h.2.2 (j + 1) u (by simpa [byteCells] using hu)
  cases hy
  rw [add_add, Nat.add_comm]
  exact hcell
theorem box_chg {w W W' : World} (h : Ext w W) (hc : Chg (fun k => k = w.heap.size) W W') : Ext w W' :=
  ((h.mono (T := fun k => k = w.heap.size) (fun _ _ h => h.elim)).trans hc).mono (fun k hk h => by have h' : k = w.heap.size := h; omega)
theorem box_chg2 {w W W' : World} (h : Ext w W) (hc : Chg (fun k => k = w.heap.size + 1) W W') : Ext w W' :=
  ((h.mono (T := fun k => k = w.heap.size + 1) (fun _ _ h => h.elim)).trans hc).mono (fun k hk h => by have h' : k = w.heap.size + 1 := h; omega)
theorem toList_ne {s t : ByteArray} (h : s ≠ t) : ¬ s.toList = t.toList := by
  rw [ByteArray.toList_eq, ByteArray.toList_eq]
  intro e
  refine h ?_
  obtain ⟨s⟩ := s
  obtain ⟨t⟩ := t
  exact congrArg ByteArray.mk (Array.toList_inj.1 e)
theorem str_nself (s : ByteArray) (w : World) : (binOp .neq 9 (.string s) (.string s)).run Try.prog w = .ok (.bool false) w := by
  simp [go_sem]
/-- Where there is no value. -/
theorem unv_bad {w : World} {bs : List Nat} (h : dVal bs = none) : ∀ (e : Ending) (W : World), e = .returned (.tuple #[nilV, .int .i64 0, .int .i64 13]) → Ext w W → Unv w bs e W := by
  intro e W he hx
  unfold Unv; rw [h]; exact ⟨hx, he⟩
theorem unv_good {w : World} {bs t : List Nat} {v : Val} {n : Int} (h : dVal bs = some (v, t)) (hn : n = ((bs.length - t.length : Nat) : Int)) : ∀ (a : Option Addr) (cap : Nat) (e : Ending) (W : World), e = .returned (.tuple #[valV v a cap, .int .i64 n, .int .i64 0]) → Ext w W → W.ownsRow w.heap.size 77 1 (.slice a v.w.length cap) v.w.length (wordCells v.w) → v.x < 18446744073709551616 → Unv w bs e W := by
  intro a cap e W he hx ho hvx
  unfold Unv; rw [h]; exact ⟨hx, _, by rw [← hn]; exact he, a, cap, rfl, ho, hvx⟩
set_option maxRecDepth 100000 in
set_option maxHeartbeats 1000000 in
theorem runv_short {w : World} {a : Option Addr} {cap n : Nat} {bs : List Nat} (hD : dVal bs = none) (hcap : n ≤ cap) (h2 : n < 2) :
    Calls Try.prog 14 #[.slice a n cap] w (Unv w bs) := by
  have HU0 := Lib.hid (unv_bad (w := w) hD)
  generalize Unv w bs = U at HU0 ⊢
  have h2' : decide ((n : Int) < 2) = true := by simp; omega
  have hsf := run_store_f
  clear hD h2
  go_enter Try.func14, Try.ntmps14
  go_wp2_with fail
  go_returns
  exact HU0.out _ _ rfl (by repeat (first | exact Chg.refl _ | refine Chg.drew ?_ | refine Chg.alloc ?_ _ | (refine Chg.setCell ?_ _ _ (by intro h; simp at h))))
set_option maxRecDepth 100000 in
set_option maxHeartbeats 2000000 in
theorem runv_lev {w : World} {x : Addr} {cap m s c : Nat} {t : List Nat} (h : Cells w (some x) m cap (byteCells (s :: c :: t))) (hb : ∀ b ∈ s :: c :: t, b < 256) (hm : t.length + 2 = m) (h24 : s = 2 ∨ s = 4) :
    Calls Try.prog 14 #[.slice (some x) m cap] w (Unv w (s :: c :: t)) := by
  have hcap := h.1
  have hmax := h.2.1
  unfold maxLen at hmax
  have hs := hb s (by simp)
  have hc := hb c (by simp)
  have c0 : w.cell? x = some (.int .u8 (s : Int)) := by
    obtain ⟨y, hy, hcc⟩ := h.2.2 0 (.int .u8 (s : Int)) (by simp [byteCells])
    cases hy
    have e : x.add 0 = x := by
      obtain ⟨b, o, i⟩ := x
      cases i <;> simp [Addr.add]
    rwa [e] at hcc
  have c1 : w.cell? (x.add 1) = some (.int .u8 (c : Int)) := by
    obtain ⟨y, hy, hcc⟩ := h.2.2 1 (.int .u8 (c : Int)) (by simp [byteCells])
    cases hy
    exact hcc
  have hw1 : Ext w (w.alloc (Obj.cells #[.int .i64 0, .bool false, .slice none 0 0, .int .i64 0, .float .f64 0] 31)) := (Chg.refl w).alloc _
  have d0 := (hw1.cell (lt_of_cell c0) (fun h => h)).trans c0
  have hD : dVal (s :: c :: t) = if mayV ⟨s, false, [], c, 0⟩ = 0 then some (⟨s, false, [], c, 0⟩, t) else none := dVal_lev h24
  have h2' : decide ((m : Int) < 2) = false := by simp; omega
  have hsl : (((s : Int) == 1) = false) ∧ (((s : Int) == 3) = false) ∧ ((((s : Int) == 2) = true) ∨ (((s : Int) == 2) = false ∧ ((s : Int) == 4) = true)) := by
    rcases h24 with h | h
    · subst h; decide
    · subst h; decide
  obtain ⟨n1, n3, hsl⟩ := hsl
  have hcode : codeV ⟨s, false, [], c, 0⟩ = mayV ⟨s, false, [], c, 0⟩ := by
    unfold codeV
    by_cases hm0 : mayV ⟨s, false, [], c, 0⟩ = 0
    · rw [if_pos hm0, if_neg (by simp), hm0]
    · rw [if_neg hm0]
  have hby : eVal ⟨s, false, [], c, 0⟩ = [s, c] := by
    unfold eVal
    simp only
    rw [if_neg (by omega), if_pos (by omega)]
    simp
  have HV := Lib.hid (fun W => rncV_any (w := W) (v := ⟨s, false, [], c, 0⟩) (a := none) (cap := 0) ⟨Nat.le_refl _, by unfold maxLen; omega, fun j u hu => by simp [wordCells] at hu⟩ (show (0 : Nat) < 18446744073709551616 by omega) (by intro d hd; simp at hd))
  rw [hcode, hby] at HV
  have HCL := Lib.hid h
  have HBB := Lib.hid (And.intro hb (And.intro hm hs))
  have HC1 : Hid (∀ W, Ext w W → W.cell? (x.add 1) = some (.int .u8 (c : Int))) := Lib.hid (fun W hW => (hW.cell (lt_of_cell c1) (fun h => h)).trans c1)
  have hi1 : (1 : Int) < m := by omega
  have hi0 : (0 : Int) < m := by omega
  have hi2 : (2 : Int) ≤ cap := by omega
  unfold valV at HV
  simp only [List.length_nil] at HV
  have HD := Lib.hid hD
  have hsf := run_store_f
  have hW2 : Ext w ((w.alloc (Obj.cells #[.int .i64 0, .bool false, .slice none 0 0, .int .i64 0, .float .f64 0] 31)).alloc (Obj.cells #[.int .i64 s, .bool false, .slice none 0 0, .int .i64 0, .float .f64 0] 31)) := hw1.alloc _
  have e1 := HC1.out _ hW2
  rw [show x.add 1 = { block := x.block, off := x.off + 1 } by simp [Addr.add]] at e1
  have hs' : (s : Int) < 256 := by omega
  have hc' : (c : Int) < 256 := by omega
  clear hcode hby c1 c0 h hD hb hm hc hs h24 hw1
  have HW2 := Lib.hid hW2
  have HP0 : Hid (Blk ((w.alloc (Obj.cells #[.int .i64 0, .bool false, .slice none 0 0, .int .i64 0, .float .f64 0] 31)).alloc (Obj.cells #[.int .i64 s, .bool false, .slice none 0 0, .int .i64 c, .float .f64 0] 31)) w.heap.size #[.int .i64 0, .bool false, .slice none 0 0, .int .i64 0, .float .f64 0] 31) := Lib.hid ((Blk.new w _ _).chg (S := fun _ => False) ((Chg.refl _).alloc _) (fun h => h))
  have HP1 : Hid (Blk ((w.alloc (Obj.cells #[.int .i64 0, .bool false, .slice none 0 0, .int .i64 0, .float .f64 0] 31)).alloc (Obj.cells #[.int .i64 s, .bool false, .slice none 0 0, .int .i64 c, .float .f64 0] 31)) (w.heap.size + 1) #[.int .i64 s, .bool false, .slice none 0 0, .int .i64 c, .float .f64 0] 31) := Lib.hid (by
    have := Blk.new (w.alloc (Obj.cells #[.int .i64 0, .bool false, .slice none 0 0, .int .i64 0, .float .f64 0] 31)) #[.int .i64 s, .bool false, .slice none 0 0, .int .i64 c, .float .f64 0] 31
    rwa [World.size_alloc] at this)
  have HX3 : Hid (Ext w ((w.alloc (Obj.cells #[.int .i64 0, .bool false, .slice none 0 0, .int .i64 0, .float .f64 0] 31)).alloc (Obj.cells #[.int .i64 s, .bool false, .slice none 0 0, .int .i64 c, .float .f64 0] 31))) := Lib.hid (((Chg.refl w).alloc _).alloc _)
  obtain ⟨M, hM⟩ : ∃ M, mayV ⟨s, false, [], c, 0⟩ = M := ⟨_, rfl⟩
  rw [hM] at HV HD
  clear hM
  by_cases hM0 : M = 0
  · subst hM0
    have HU1 := Lib.hid (unv_good (w := w) (n := 2) (HD.out.trans (if_pos rfl)) (by simp only [List.length_cons]; omega))
    generalize Unv w (s :: c :: t) = U at HU1 ⊢
    rcases hsl with hs2 | ⟨hs2, hs4⟩
    all_goals
      go_enter Try.func14, Try.ntmps14
      go_wp2_with fail
      refine (HV.out _).mono ?_
      rintro e w3 ⟨hx3, hw⟩
      rcases hw with ⟨-, v, rfl, hown⟩ | ⟨hne, -⟩
      case inr => exact absurd rfl hne
      obtain ⟨g, cap', rfl, hnews⟩ := own_form hown (by simp)
      have hX := HX3.out.trans hx3
      have hv1 : ∀ W, Ext w3 W → (convert 22 9 (.slice (some ⟨g, 0, none⟩) 2 cap')).run Try.prog W = .ok (.string (strOf [s, c])) W := fun W hW =>
        conv_str (fun j u hu => (hW.cell (lt_of_cell (hnews j u hu)) (fun h => h)).trans (hnews j u hu)) (fun b hb => HBB.out.1 b (by simp at hb; simp; omega)) rfl
      have hv2 : ∀ W, Ext w3 W → (convert 22 9 (.slice (some x) 2 cap)).run Try.prog W = .ok (.string (strOf [s, c])) W := fun W hW =>
        conv_str (fun j u hu => by
          obtain ⟨y, hy, hcy⟩ := HCL.out.2.2 j u (by
            rw [show byteCells (s :: c :: t) = byteCells [s, c] ++ byteCells t from rfl, List.getElem?_append_left (by exact (List.getElem?_eq_some_iff.1 hu).1)]
            exact hu)
          cases hy
          exact ((hX.trans hW).cell (lt_of_cell hcy) (fun h => h)).trans hcy) (fun b hb => HBB.out.1 b (by simp at hb; simp; omega)) rfl
      have hv1' := fun q => hv1 (w3.drewN q) ((Chg.refl w3).drewN q)
      have hv2' := fun q => hv2 (w3.drewN q) ((Chg.refl w3).drewN q)
      obtain ⟨S, hS⟩ : ∃ S, strOf [s, c] = S := ⟨_, rfl⟩
      rw [hS] at hv1' hv2'
      have hq := str_nself S
      have kp := HP0.out.chg hx3 (fun h => h)
      have kq := HP1.out.chg hx3 (fun h => h)
      have HXX := Lib.hid hX
      simp only [List.length_cons, List.length_nil]
      clear hx3 hown hnews hS hv1 hv2 hX
      go_wp2_with fail
      go_quiet (fail)
      have kp4 := kp.drewN nq
      have kq4 := kq.drewN nq
      have HX4 := Lib.hid (HXX.out.drewN nq)
      clear hv1' hv2' hq kp kq
      generalize w3.drewN nq = w4 at *
      obtain ⟨a0, b0, a1, b1, a2, b2, a3, b3, a4, b4⟩ := blk5_base kq4
      obtain ⟨g0, f0, g1, f1, g2, f2, g3, f3, g4, f4⟩ := blk5_base kp4
      obtain ⟨y3, z3, y4, z4, q0, q1, q2, q3, q4⟩ := blk5_facts kp4 (.int .i64 s) (.bool false) (.slice none 0 0) (.int .i64 c) (.float .f64 0)
      go_wp2_with fail
      (try simp only [Exit.inBlock, Exit.then])
      refine bodyPost_ret (by simp [results, Try.results14, go_sem, q0, q1, q2, q3, q4]; try rfl) rfl ?_
      exact HU1.out none 0 _ _ rfl (box_chg HX4.out (set_chg (j := 4) (c := .float .f64 0) (set_chg (j := 3) (c := .int .i64 c) (set_chg (j := 2) (c := .slice none 0 0) (set_chg (j := 1) (c := .bool false) (set_chg (j := 0) (c := .int .i64 s) (Chg.refl _))))))) (World.ownsRow_nil _ _ _ _) (show (0 : Nat) < _ by omega)
  · have HU0 := Lib.hid (unv_bad (w := w) (HD.out.trans (if_neg hM0)))
    generalize Unv w (s :: c :: t) = U at HU0 ⊢
    have HM0 := Lib.hid hM0
    have eM : (M == 0) = false := by simpa using hM0
    have eM' : (M != 0) = true := by simpa using hM0
    clear hM0
    rcases hsl with hs2 | ⟨hs2, hs4⟩
    all_goals
      go_enter Try.func14, Try.ntmps14
      go_wp2_with fail
      refine (HV.out _).mono ?_
      rintro e w3 ⟨hx3, hw⟩
      rcases hw with ⟨h0, -⟩ | ⟨-, rfl⟩
      · exact absurd h0 HM0.out
      have kp := HP0.out.chg hx3 (fun h => h)
      have HXX := Lib.hid (HX3.out.trans hx3)
      clear hx3
      go_wp2_with fail
      go_quiet (fail)
      have kp4 := kp.drewN nq
      have HX4 := Lib.hid (HXX.out.drewN nq)
      clear kp
      generalize w3.drewN nq = w4 at *
      obtain ⟨g0, f0, g1, f1, g2, f2, g3, f3, g4, f4⟩ := blk5_base kp4
      obtain ⟨y3, z3, y4, z4, q0, q1, q2, q3, q4⟩ := blk5_facts kp4 (.int .i64 0) (.bool false) (.slice none 0 0) (.int .i64 0) (.float .f64 0)
      go_wp2_with fail
      (try simp only [Exit.inBlock, Exit.then])
      refine bodyPost_ret (by simp [results, Try.results14, go_sem, q0, q1, q2, q3, q4]; try rfl) rfl ?_
      exact HU0.out _ _ rfl (box_chg HX4.out (set_chg (j := 4) (c := .float .f64 0) (set_chg (j := 3) (c := .int .i64 0) (set_chg (j := 2) (c := .slice none 0 0) (set_chg (j := 1) (c := .bool false) (set_chg (j := 0) (c := .int .i64 0) (Chg.refl _)))))))
set_option maxRecDepth 100000 in
set_option maxHeartbeats 2000000 in
theorem runv_nat {w : World} {x : Addr} {cap m s : Nat} {r : List Nat} (h : Cells w (some x) m cap (byteCells (s :: r))) (hb : ∀ b ∈ s :: r, b < 256) (hm : r.length + 1 = m) (h2 : 2 ≤ m) (h13 : s = 1 ∨ s = 3) :
    Calls Try.prog 14 #[.slice (some x) m cap] w (Unv w (s :: r)) := by
  have hcap := h.1
  have hmax := h.2.1
  unfold maxLen at hmax
  have hs' : (s : Int) < 256 := by rcases h13 with h | h <;> omega
  have c0 : w.cell? x = some (.int .u8 (s : Int)) := by
    obtain ⟨y, hy, hcc⟩ := h.2.2 0 (.int .u8 (s : Int)) (by simp [byteCells])
    cases hy
    have e : x.add 0 = x := by
      obtain ⟨b, o, i⟩ := x
      cases i <;> simp [Addr.add]
    rwa [e] at hcc
  have hw1 : Ext w (w.alloc (Obj.cells #[.int .i64 0, .bool false, .slice none 0 0, .int .i64 0, .float .f64 0] 31)) := (Chg.refl w).alloc _
  have d0 := (hw1.cell (lt_of_cell c0) (fun h => h)).trans c0
  have h2' : decide ((m : Int) < 2) = false := by simp; omega
  have hsl : (((s : Int) == 1) = true) ∨ (((s : Int) == 1) = false ∧ ((s : Int) == 3) = true) := by
    rcases h13 with h | h
    · subst h; decide
    · subst h; decide
  have hi0 : (0 : Int) < m := by omega
  have hi1 : (1 : Int) ≤ m := by omega
  have hW2 : Ext w ((w.alloc (Obj.cells #[.int .i64 0, .bool false, .slice none 0 0, .int .i64 0, .float .f64 0] 31)).alloc (Obj.cells #[.int .i64 s, .bool false, .slice none 0 0, .int .i64 0, .float .f64 0] 31)) := hw1.alloc _
  have hP0 : Blk ((w.alloc (Obj.cells #[.int .i64 0, .bool false, .slice none 0 0, .int .i64 0, .float .f64 0] 31)).alloc (Obj.cells #[.int .i64 s, .bool false, .slice none 0 0, .int .i64 0, .float .f64 0] 31)) w.heap.size #[.int .i64 0, .bool false, .slice none 0 0, .int .i64 0, .float .f64 0] 31 := (Blk.new w _ _).chg (S := fun _ => False) ((Chg.refl _).alloc _) (fun h => h)
  have hP1 : Blk ((w.alloc (Obj.cells #[.int .i64 0, .bool false, .slice none 0 0, .int .i64 0, .float .f64 0] 31)).alloc (Obj.cells #[.int .i64 s, .bool false, .slice none 0 0, .int .i64 0, .float .f64 0] 31)) (w.heap.size + 1) #[.int .i64 s, .bool false, .slice none 0 0, .int .i64 0, .float .f64 0] 31 := by
    have := Blk.new (w.alloc (Obj.cells #[.int .i64 0, .bool false, .slice none 0 0, .int .i64 0, .float .f64 0] 31)) #[.int .i64 s, .bool false, .slice none 0 0, .int .i64 0, .float .f64 0] 31
    rwa [World.size_alloc] at this
  have hsz2 : ((w.alloc (Obj.cells #[.int .i64 0, .bool false, .slice none 0 0, .int .i64 0, .float .f64 0] 31)).alloc (Obj.cells #[.int .i64 s, .bool false, .slice none 0 0, .int .i64 0, .float .f64 0] 31)).heap.size = w.heap.size + 2 := by simp only [World.size_alloc]
  have hrl : r.length = m - 1 := by omega
  have hct : Cells ((w.alloc (Obj.cells #[.int .i64 0, .bool false, .slice none 0 0, .int .i64 0, .float .f64 0] 31)).alloc (Obj.cells #[.int .i64 s, .bool false, .slice none 0 0, .int .i64 0, .float .f64 0] 31)) (some (x.add 1)) r.length (cap - 1) (byteCells r) := by
    refine cells_tail (c := s) ?_ (by omega)
    rw [hm]; exact h.chg (S := fun _ => False) hW2 (fun _ _ h => h)
  have hR := runbytes_any hct (fun b hbr => hb b (List.mem_cons_of_mem _ hbr))
  rw [hrl, show x.add 1 = { block := x.block, off := x.off + 1 } by simp [Addr.add]] at hR
  have HR := Lib.hid hR
  have HW := Lib.hid (And.intro hW2 (And.intro hP0 (And.intro hP1 hsz2)))
  have HCL := Lib.hid (And.intro h (And.intro hb (And.intro hm hrl)))
  have hDn := dVal_nat (s := s) (r := r) h13
  have H13 := Lib.hid h13
  have hsf := run_store_f
  clear h hb hm hW2 hP0 hP1 hsz2 hct hR hw1 c0 hrl h13
  cases hdn : dNat r with
  | none =>
    have HU0 := Lib.hid (unv_bad (w := w) (bs := s :: r) (by rw [hDn, hdn]))
    generalize Unv w (s :: r) = U at HU0 ⊢
    have HDN := Lib.hid hdn
    clear hDn hdn
    rcases hsl with hs2 | ⟨hs2, hs4⟩
    all_goals
      go_enter Try.func14, Try.ntmps14
      go_wp2_with fail
      refine HR.out.mono ?_
      rintro e w3 ⟨hx3, hu⟩
      unfold unb at hu
      rw [HDN.out] at hu
      simp only at hu
      subst hu
      have kp := HW.out.2.1.chg (hx3.alloc (Obj.cells #[.bool false, .slice none 0 0] 28)) (fun h => h)
      have HXX := Lib.hid (HW.out.1.trans (hx3.alloc (Obj.cells #[.bool false, .slice none 0 0] 28)))
      clear hx3
      obtain ⟨g0, f0, g1, f1, g2, f2, g3, f3, g4, f4⟩ := blk5_base kp
      obtain ⟨y3, z3, y4, z4, q0, q1, q2, q3, q4⟩ := blk5_facts kp (.int .i64 0) (.bool false) (.slice none 0 0) (.int .i64 0) (.float .f64 0)
      go_wp2_with fail
      (try simp only [Exit.inBlock, Exit.then])
      refine bodyPost_ret (by simp [results, Try.results14, go_sem, q0, q1, q2, q3, q4]; try rfl) rfl ?_
      exact HU0.out _ _ rfl (box_chg HXX.out (set_chg (j := 4) (c := .float .f64 0) (set_chg (j := 3) (c := .int .i64 0) (set_chg (j := 2) (c := .slice none 0 0) (set_chg (j := 1) (c := .bool false) (set_chg (j := 0) (c := .int .i64 0) (Chg.refl _)))))))
  | some q =>
    obtain ⟨⟨inf, l⟩, t⟩ := q
    obtain ⟨e1, e2, e3, e4, e5⟩ := dNat_inv (fun b hbr => HCL.out.2.1 b (List.mem_cons_of_mem _ hbr)) hdn
    have hmay : mayV ⟨s, inf, l, 0, 0⟩ = 0 := by
      have hmn : mayNat inf l = true := by
        cases inf with
        | true => rw [show l = [] from e4 rfl]; rfl
        | false => exact e5 rfl
      have h13 := H13.out
      rw [may_eq]
      simp only
      rw [if_pos (by omega), if_pos (by omega), if_pos hmn]
    have hcode : codeV ⟨s, inf, l, 0, 0⟩ = 0 := by
      rw [codeV, if_pos hmay, if_neg (fun h => absurd h.2.2 (by simpa using e2))]
    have hby : eVal ⟨s, inf, l, 0, 0⟩ = s :: eNat (inf, l) := by
      have h13 := H13.out
      unfold eVal
      simp only
      rw [if_pos (by omega)]
      simp
    have hdv : dVal (s :: r) = some (⟨s, inf, l, 0, 0⟩, t) := by rw [hDn, hdn]; simp only; rw [if_pos hmay]
    have hlen : (s :: r).length - t.length = 1 + (r.length - t.length) ∧ (s :: eNat (inf, l)).length = 1 + (r.length - t.length) := by
      rw [e1]; simp only [List.length_cons, List.length_append]; omega
    have HU1 := Lib.hid (unv_good (w := w) (n := 1 + ((r.length - t.length : Nat) : Int)) hdv (by rw [hlen.1]; push_cast; rfl))
    have HV := Lib.hid (fun W a cap hcl => rncV_any (w := W) (v := ⟨s, inf, l, 0, 0⟩) (a := a) (cap := cap) hcl (show (0 : Nat) < 18446744073709551616 by omega) e3)
    rw [hcode, hby] at HV
    unfold valV at HV
    simp only at HV
    obtain ⟨kk, hkk⟩ : ∃ kk, r.length - t.length = kk := ⟨_, rfl⟩
    rw [hkk] at HU1 hlen
    have hkm : kk + 1 ≤ m := by have := HCL.out.2.2.1; omega
    have HL := Lib.hid (And.intro hkk (And.intro hlen.2 e1))
    generalize Unv w (s :: r) = U at HU1 ⊢
    have HDN := Lib.hid hdn
    clear hDn hdn e1 e2 e3 e4 e5 hmay hcode hby hdv hlen hkk
    have hkc : 1 + (kk : Int) ≤ cap := by omega
    have hk0 : 0 ≤ 1 + (kk : Int) := by omega
    have hkn : (1 + (kk : Int)).toNat = 1 + kk := by omega
    rcases hsl with hs2 | ⟨hs2, hs4⟩
    all_goals
      go_enter Try.func14, Try.ntmps14
      go_wp2_with fail
      refine HR.out.mono ?_
      rintro e w3 ⟨hx3, hu⟩
      unfold unb at hu
      rw [HDN.out] at hu
      simp only at hu
      obtain ⟨v, rfl, hown⟩ := hu
      obtain ⟨a1, cap1, rfl⟩ := own_slice hown
      rw [HL.out.1]
      have kqa := HW.out.2.2.1.chg (hx3.alloc (Obj.cells #[.bool inf, .slice a1 l.length cap1] 28)) (fun h => h)
      obtain ⟨a0, b0, a1', b1, a2, b2, a3, b3, a4, b4⟩ := blk5_base kqa
      have k1 := (kqa.set 1 (.bool inf)).cell 2 _ rfl
      have k2 := (kqa.set 1 (.bool inf)).frozen 2
      have kqc := (kqa.set 1 (.bool inf)).set 2 (.slice a1 l.length cap1)
      have c0 := kqc.cell 0 _ rfl
      have c1 := kqc.cell 1 _ rfl
      have c2 := kqc.cell 2 _ rfl
      have c3 := kqc.cell 3 _ rfl
      have c4 := kqc.cell 4 _ rfl
      have hq : Chg (fun k => k = w.heap.size + 1) (w3.alloc (Obj.cells #[.bool inf, .slice a1 l.length cap1] 28)) (((w3.alloc (Obj.cells #[.bool inf, .slice a1 l.length cap1] 28)).setCell ⟨w.heap.size + 1, 1, none⟩ (.bool inf)).setCell ⟨w.heap.size + 1, 2, none⟩ (.slice a1 l.length cap1)) := set_chg (set_chg (Chg.refl _))
      have kp := (HW.out.2.1.chg (hx3.alloc (Obj.cells #[.bool inf, .slice a1 l.length cap1] 28)) (fun h => h)).chg hq (by intro h; have h' : w.heap.size = w.heap.size + 1 := h; omega)
      have hX := box_chg2 (HW.out.1.trans (hx3.alloc (Obj.cells #[.bool inf, .slice a1 l.length cap1] 28))) hq
      have hoA : (((w3.alloc (Obj.cells #[.bool inf, .slice a1 l.length cap1] 28)).setCell ⟨w.heap.size + 1, 1, none⟩ (.bool inf)).setCell ⟨w.heap.size + 1, 2, none⟩ (.slice a1 l.length cap1)).ownsRow (w.heap.size + 2) 77 1 (.slice a1 l.length cap1) l.length (wordCells l) := by
        have h1 := hown.alloc (Obj.cells #[.bool inf, .slice a1 l.length cap1] 28)
        rw [HW.out.2.2.2] at h1
        exact own_low h1 hq (fun g hg h => by have h' : g = w.heap.size + 1 := h; omega)
      have HF := Lib.hid (And.intro kp (And.intro kqc (And.intro hX hoA)))
      have HB4 := Lib.hid (HV.out _ a1 cap1 (Cells.of_own hoA))
      clear kqa kqc hq kp hX hoA hown hx3
      go_wp2_with fail
      refine HB4.out.mono ?_
      rintro e w5 ⟨hx5, hw⟩
      rcases hw with ⟨-, v, rfl, hown5⟩ | ⟨hne, -⟩
      case inr => exact absurd rfl hne
      obtain ⟨g, cap', rfl, hnews⟩ := own_form hown5 (by simp)
      rw [HL.out.2.1]
      have hv1 : ∀ W, Ext w5 W → (convert 22 9 (.slice (some ⟨g, 0, none⟩) (1 + kk) cap')).run Try.prog W = .ok (.string (strOf (s :: eNat (inf, l)))) W := fun W hW =>
        conv_str (fun j u hu => (hW.cell (lt_of_cell (hnews j u hu)) (fun h => h)).trans (hnews j u hu)) (fun b hbm => HCL.out.2.1 b (by rw [HL.out.2.2]; simp only [List.mem_cons, List.mem_append] at hbm ⊢; rcases hbm with h | h <;> simp [h])) HL.out.2.1
      have hv2 : ∀ W, Ext w5 W → (convert 22 9 (.slice (some x) (1 + kk) cap)).run Try.prog W = .ok (.string (strOf (s :: eNat (inf, l)))) W := fun W hW =>
        conv_str (fun j u hu => by
          obtain ⟨y, hy, hcy⟩ := HCL.out.1.2.2 j u (by
            rw [HL.out.2.2, ← List.cons_append, bcells_app, List.getElem?_append_left (by exact (List.getElem?_eq_some_iff.1 hu).1)]
            exact hu)
          cases hy
          exact (((HF.out.2.2.1.trans hx5).trans hW).cell (lt_of_cell hcy) (fun h => h)).trans hcy) (fun b hbm => HCL.out.2.1 b (by rw [HL.out.2.2]; simp only [List.mem_cons, List.mem_append] at hbm ⊢; rcases hbm with h | h <;> simp [h])) HL.out.2.1
      have hv1' := fun q => hv1 (w5.drewN q) ((Chg.refl w5).drewN q)
      have hv2' := fun q => hv2 (w5.drewN q) ((Chg.refl w5).drewN q)
      obtain ⟨S, hS⟩ : ∃ S, strOf (s :: eNat (inf, l)) = S := ⟨_, rfl⟩
      rw [hS] at hv1' hv2'
      have hq := str_nself S
      have kp := HF.out.1.chg hx5 (fun h => h)
      have kq := HF.out.2.1.chg hx5 (fun h => h)
      have HXX := Lib.hid (HF.out.2.2.1.trans hx5)
      have HOO := Lib.hid (own_chg HF.out.2.2.2 hx5 (fun _ _ h => h))
      clear hx5 hown5 hnews hS hv1 hv2 a0 b0 a1' b1 a2 b2 a3 b3 a4 b4 k1 k2 c0 c1 c2 c3 c4
      go_wp2_with fail
      go_quiet (fail)
      have kp4 := kp.drewN nq
      have kq4 := kq.drewN nq
      have HX4 := Lib.hid (HXX.out.drewN nq)
      have HO4 := Lib.hid (own_chg HOO.out ((Chg.refl (S := fun _ => False) w5).drewN nq) (fun _ _ h => h))
      clear hv1' hv2' hq kp kq
      generalize w5.drewN nq = w6 at *
      obtain ⟨a0, b0, a1', b1, a2, b2, a3, b3, a4, b4⟩ := blk5_base kq4
      obtain ⟨g0, f0, g1, f1, g2, f2, g3, f3, g4, f4⟩ := blk5_base kp4
      obtain ⟨y3, z3, y4, z4, q0, q1, q2, q3, q4⟩ := blk5_facts kp4 (.int .i64 s) (.bool inf) (.slice a1 l.length cap1) (.int .i64 0) (.float .f64 0)
      go_wp2_with fail
      (try simp only [Exit.inBlock, Exit.then])
      refine bodyPost_ret (by simp [results, Try.results14, go_sem, q0, q1, q2, q3, q4]; try rfl) rfl ?_
      exact HU1.out a1 cap1 _ _ rfl (box_chg HX4.out (set_chg (j := 4) (c := .float .f64 0) (set_chg (j := 3) (c := .int .i64 0) (set_chg (j := 2) (c := .slice a1 l.length cap1) (set_chg (j := 1) (c := .bool inf) (set_chg (j := 0) (c := .int .i64 s) (Chg.refl _))))))) (ownsRow_base (own_low HO4.out (set_chg (j := 4) (c := .float .f64 0) (set_chg (j := 3) (c := .int .i64 0) (set_chg (j := 2) (c := .slice a1 l.length cap1) (set_chg (j := 1) (c := .bool inf) (set_chg (j := 0) (c := .int .i64 s) (Chg.refl _)))))) (fun g hg h => by have h' : g = w.heap.size := h; omega)) (by omega)) (show (0 : Nat) < _ by omega)
end Go.Proofs.Ytnamcghcgcknpaa
