/-
  Which certs are looked at (chapter 24): small.
-/
import Derived.Test.YtnamcghcgcknpaaSameD
namespace Go.Proofs.Ytnamcghcgcknpaa
open Go.RowKit
set_option linter.unusedVariables false

theorem sum_big {w : World} {z : Int} {a : Option Addr} {cap : Nat} {l : List Int} (h : Cells w a l.length cap (l.map (Value.int .i64))) (hz : 1099511627776 < z) (hl : 0 < l.length) :
    Calls Try.prog 35 #[.int .i64 z, .slice a l.length cap] w fun e w' => (∃ y, e = .returned (.int .i64 y) ∧ 0 ≤ y ∧ y ≤ 1099511627776) ∧ w' = w := by
  have hc := h.1
  have hm := h.2.1
  unfold maxLen at hm
  obtain ⟨n, hn⟩ : ∃ n, l.length = n := ⟨_, rfl⟩
  rw [hn] at hc hl ⊢
  clear hn h
  have hl' : (0 : Int) < n := by omega
  go_enter Try.func35, Try.ntmps35
  go_wp2_with fail
  go_loopg [0, 5] 1 (fun g l0 l5 wr => wr = w ∧ l0 = .int .i64 z ∧ l5 = .int .i64 0 ∧ g = 1)
  case atStart => exact ⟨rfl, rfl, rfl, rfl⟩
  case round =>
    obtain ⟨rfl, rfl, rfl, rfl⟩ := hrel
    go_wp2_with fail
    go_ret
    exact ⟨⟨_, rfl, by omega, by omega⟩, rfl⟩
/-- The sum of at least two numbers, whatever they are, from 0 on. -/
theorem sum_all {w : World} {z : Int} {a : Option Addr} {cap : Nat} {l : List Int} (h : Cells w a l.length cap (l.map (Value.int .i64))) (hz : 0 ≤ z) (hl : 0 < l.length) (hl2 : ∀ y ∈ l, 0 ≤ y) :
    Calls Try.prog 35 #[.int .i64 z, .slice a l.length cap] w fun e w' => (∃ y, e = .returned (.int .i64 y) ∧ 0 ≤ y ∧ y ≤ 1099511627776) ∧ w' = w := by
  by_cases hb : z ≤ 1099511627776
  · exact sum_any h ⟨hz, hb⟩ hl2
  · exact sum_big h (by omega) hl
theorem cells1 (w : World) (x : Int) (t : Nat) : Cells (w.alloc (.cells #[.int .i64 x] t)) (some ⟨w.heap.size, 0, none⟩) 1 1 ([x].map (Value.int .i64)) :=
  ⟨Nat.le_refl _, by unfold maxLen; omega, fun j u hu => ⟨_, rfl, by
    match j, hu with
    | 0, hu => simpa [go_sem] using hu⟩⟩
theorem cells2 (w : World) (x y : Int) (t : Nat) : Cells (w.alloc (.cells #[.int .i64 x, .int .i64 y] t)) (some ⟨w.heap.size, 0, none⟩) 2 2 ([x, y].map (Value.int .i64)) :=
  ⟨Nat.le_refl _, by unfold maxLen; omega, fun j u hu => ⟨_, rfl, by
    match j, hu with
    | 0, hu => simpa [go_sem] using hu
    | 1, hu => simpa [go_sem] using hu⟩⟩
/-- Some truth came back. -/
def Bo (e : Ending) : Prop := ∃ b, e = .returned (.bool b)
set_option maxRecDepth 100000 in
set_option maxHeartbeats 1600000 in
theorem small_any {w : World} {c : Crt} {a1 a2 a3 : Option Addr} {p1 p2 p3 : Nat} {us : List Value} (h : CrtV w c a1 p1 a2 p2 a3 p3 us) :
    Calls Try.prog 16 #[crtV c a1 p1 a2 p2 a3 p3] w fun e w' => Bo e ∧ Ext w w' := by
  have hc1 := h.nodes.1
  have hc2 := h.walks.1
  have hc3 := h.words.1
  have hm1 := h.nodes.2.1
  have hm2 := h.walks.2.1
  have hm3 := h.words.2.1
  unfold maxLen at hm1 hm2 hm3
  have H := Lib.hid h
  unfold crtV
  obtain ⟨cj, ns, ws, ⟨s, inf, l, lev, x⟩⟩ := c
  simp only at hc1 hc2 hc3 ⊢
  obtain ⟨n, hn⟩ : ∃ n, ns.length = n := ⟨_, rfl⟩
  obtain ⟨m, hm⟩ : ∃ n, ws.length = n := ⟨_, rfl⟩
  obtain ⟨k, hk⟩ : ∃ n, l.length = n := ⟨_, rfl⟩
  rw [hn] at hc1
  rw [hm] at hc2
  rw [hk] at hc3
  rw [hn, hm, hk]
  have HM := Lib.hid hm
  clear hn hm hk h
  have hb : Ext w (w.alloc (Obj.cells #[.int .i64 cj, .slice a1 n p1, .slice a2 m p2, .int .i64 s, .bool inf, .slice a3 k p3, .int .i64 lev, .float .f64 x] 33)) := (Chg.refl w).alloc _
  have hbk := Blk.new w #[.int .i64 cj, .slice a1 n p1, .slice a2 m p2, .int .i64 s, .bool inf, .slice a3 k p3, .int .i64 lev, .float .f64 x] 33
  have hS := sum_all (z := (n : Int)) (l := [(m : Int), (k : Int)]) (cells2 (w.alloc (Obj.cells #[.int .i64 cj, .slice a1 n p1, .slice a2 m p2, .int .i64 s, .bool inf, .slice a3 k p3, .int .i64 lev, .float .f64 x] 33)) (m : Int) (k : Int) 3) (by omega) (by simp) (by intro y hy; simp at hy; omega)
  simp only [List.length_cons, List.length_nil, World.size_alloc] at hS
  have HS := Lib.hid hS
  have HX := Lib.hid hb
  have HK := Lib.hid hbk
  clear hb hbk hS
  go_enter Try.func16, Try.ntmps16
  go_wp2_with fail
  refine HS.out.mono ?_
  rintro e w2 ⟨⟨y, rfl, hy0, hy1⟩, rfl⟩
  have HX2 := Lib.hid (HX.out.alloc (.cells #[.int .i64 (m : Int), .int .i64 (k : Int)] 3))
  have HK2 := Lib.hid (HK.out.chg (S := fun _ => False) ((Chg.refl _).alloc (.cells #[.int .i64 (m : Int), .int .i64 (k : Int)] 3)) (fun h => h))
  clear HX HK HS
  go_wp2_with fail
  go_loopg [3, 4] (m + 1) (fun g l3 l4 wr => ∃ (i : Nat) (y : Int), Ext w wr ∧ Blk wr w.heap.size #[.int .i64 cj, .slice a1 n p1, .slice a2 m p2, .int .i64 s, .bool inf, .slice a3 k p3, .int .i64 lev, .float .f64 x] 33 ∧ i ≤ m ∧ 0 ≤ y ∧ y ≤ 1099511627776 ∧ l3 = .int .i64 y ∧ l4 = .int .i64 i ∧ g = m + 1 - i)
  case atStart => exact ⟨0, y, HX2.out, HK2.out, Nat.zero_le _, hy0, hy1, rfl, rfl, rfl⟩
  case round =>
    obtain ⟨i, y, hex, hbk, hi, hy0, hy1, rfl, rfl, rfl⟩ := hrel
    have c2 := hbk.cell 2 _ rfl
    have HE := Lib.hid hex
    have HK3 := Lib.hid hbk
    clear hbk hex
    by_cases hin : i < m
    · have hin' : (i : Int) < m := by omega
      by_cases hy5 : y < 5000
      · obtain ⟨z, hz⟩ : ∃ z, ws[i]? = some z := ⟨_, List.getElem?_eq_getElem (by rw [HM.out]; exact hin)⟩
        obtain ⟨b1, q1, hu1, hcu1⟩ := H.out.rows.get.2 i z hz
        obtain ⟨xa, rfl, c0⟩ := H.out.walks.2.2 i _ hu1
        have d0 := (HE.out.cell (lt_of_cell c0) (fun h => h)).trans c0
        have hq := hcu1.1
        have hq2 := hcu1.2.1
        unfold maxLen at hq2
        clear c0 hz hu1 hcu1
        generalize z.length = q at d0 hq
        have hS := sum_all (z := y) (l := [(q : Int)]) (cells1 wr (q : Int) 3) hy0 (by simp) (by intro y hy; simp at hy; omega)
        simp only [List.length_cons, List.length_nil] at hS
        have HS := Lib.hid hS
        clear hS
        go_wp2_with fail
        refine HS.out.mono ?_
        rintro e w3 ⟨⟨y2, rfl, hy20, hy21⟩, rfl⟩
        go_wp2_with fail
        go_roundg (m + 1 - (i + 1))
        case measure => omega
        case rel => exact ⟨i + 1, y2, HE.out.alloc _, HK3.out.chg (S := fun _ => False) ((Chg.refl _).alloc _) (fun h => h), by omega, hy20, hy21, rfl, rfl, rfl⟩
      · go_wp2_with fail
        go_ret
        exact ⟨⟨_, rfl⟩, HE.out⟩
    · have e0 : m = i := by omega
      subst e0
      have hin' : ¬ (m : Int) < m := by omega
      go_wp2_with fail
      go_ret
      exact ⟨⟨_, rfl⟩, HE.out⟩
end Go.Proofs.Ytnamcghcgcknpaa
