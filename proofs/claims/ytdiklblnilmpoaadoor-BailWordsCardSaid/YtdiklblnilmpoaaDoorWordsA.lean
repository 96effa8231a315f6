/-
  decimal: the digits of a number of at most four.
-/
import Derived.Test.YtdiklblnilmpoaaDoorBailF
import Derived.Deep.LoopGhost
import Derived.Deep.QuietTactic
import Derived.Lib.ItoaNum
import Derived.Laws.IdiomStrings
namespace Go.Proofs.YtdiklblnilmpoaaDoor
open Go.RowKit
set_option linter.unusedVariables false

/-- A block of cells. -/
def Blk (w : World) (b : Nat) (cs : Array Value) (t : Nat) : Prop := w.heap[b]? = some (.cells cs t (0, 0))
theorem Blk.cell {w : World} {b t : Nat} {cs : Array Value} (h : Blk w b cs t) (j : Nat) (v : Value) (hj : cs[j]? = some v) : w.cell? ⟨b, j, none⟩ = some v := by
  unfold Blk at h; simp [World.cell?, h, hj]
theorem Blk.lt {w : World} {b t : Nat} {cs : Array Value} (h : Blk w b cs t) : b < w.heap.size := (Array.getElem?_eq_some_iff.1 h).1
theorem Blk.frozen {w : World} {b t : Nat} {cs : Array Value} (h : Blk w b cs t) (j : Nat) : w.frozen? ⟨b, j, none⟩ = false := by
  unfold Blk at h; simp [World.frozen?, h]
theorem Blk.of {w w' : World} {b t : Nat} {cs : Array Value} (h : Blk w b cs t) (k : w'.heap[b]? = w.heap[b]?) : Blk w' b cs t := by unfold Blk at *; rw [k]; exact h
theorem Blk.new (w : World) (cs : Array Value) (t : Nat) : Blk (w.alloc (.cells cs t)) w.heap.size cs t := by
  show (w.heap.push _)[w.heap.size]? = _; simp
theorem Blk.chg {S : Nat → Prop} {w w' : World} {b t : Nat} {cs : Array Value} (h : Blk w b cs t) (k : Chg S w w') (hd : ¬ S b) : Blk w' b cs t := h.of (k.block b h.lt hd)
theorem Blk.keep {D : World → Nat → Prop} {w w' : World} {b t : Nat} {cs : Array Value} (h : Blk w b cs t) (k : Keep D w w') (hd : ¬ D w b) : Blk w' b cs t := h.of (k.block b h.lt hd)
/-- What is still to be written of the digits D: m; what is written: l. -/
def Dec (D : List UInt8) (m : Nat) (l : List UInt8) : Prop := (0 < m ∧ Lib.decDigits m ++ l = D) ∨ (m = 0 ∧ l = [] ∧ D = [48]) ∨ (m = 0 ∧ l = D ∧ l ≠ [])
theorem Dec.start (N : Nat) : Dec (Lib.decDigits N) N [] := by
  rcases Nat.eq_zero_or_pos N with rfl | h
  · exact .inr (.inl ⟨rfl, rfl, by rw [Lib.decDigits]; rfl⟩)
  · exact .inl ⟨h, by simp⟩
theorem Dec.step {D l : List UInt8} {m : Nat} (h : Dec D m l) (hm : 0 < m ∨ l = []) : Dec D (m / 10) (UInt8.ofNat (48 + m % 10) :: l) := by
  rcases h with ⟨h0, h1⟩ | ⟨rfl, rfl, rfl⟩ | ⟨rfl, rfl, h2⟩
  · rw [Lib.decDigits] at h1
    by_cases h10 : m < 10
    · rw [dif_pos h10] at h1
      refine .inr (.inr ⟨by omega, ?_, by simp⟩)
      rw [← h1, show m % 10 = m from by omega]
      rfl
    · rw [dif_neg h10] at h1
      refine .inl ⟨by omega, ?_⟩
      rw [← h1]
      simp
  · exact .inr (.inr ⟨rfl, rfl, by simp⟩)
  · rcases hm with h | h
    · omega
    · exact absurd h h2
theorem digit_back (w : World) (m : Nat) (t : Nat) :
    (convert 42 9 (.slice (some ⟨w.heap.size, 0, none⟩) 1 1)).run Tryd.prog (w.alloc (.cells #[.int .u8 (48 + (m : Int) % 10)] t)) = .ok (.string ⟨[UInt8.ofNat (48 + m % 10)].toArray⟩) (w.alloc (.cells #[.int .u8 (48 + (m : Int) % 10)] t)) := by
  refine run_convert_bytes_back (P := Tryd.prog) (w.alloc (.cells #[.int .u8 (48 + (m : Int) % 10)] t)) 42 9 5 ⟨w.heap.size, 0, none⟩ 1 [UInt8.ofNat (48 + m % 10)] Tryd.underlying42 Tryd.underlying5 Tryd.underlying9 ?_
  intro j hj
  obtain rfl : j = 0 := by simpa using hj
  have hx : (UInt8.ofNat (48 + m % 10)).toNat = 48 + m % 10 := by
    rw [UInt8.toNat_ofNat']
    exact Nat.mod_eq_of_lt (by omega)
  have hb := (Blk.new w #[.int .u8 (48 + (m : Int) % 10)] t).cell 0 _ rfl
  simp only [List.getElem_cons_zero, hx]
  simp only [Addr.add]
  exact hb
def emp (l : List UInt8) : Nat := if l = [] then 1 else 0
theorem str_cons (m : Nat) (l : List UInt8) : (ByteArray.mk #[48 + UInt8.ofNat (m % 10)] ++ ByteArray.mk l.toArray) = ByteArray.mk (UInt8.ofNat (48 + m % 10) :: l).toArray := by
  apply ByteArray.ext
  simp
theorem str_neg (l : List UInt8) : ByteArray.mk #[45] ++ ByteArray.mk l.toArray = ByteArray.mk (45 :: l).toArray := by
  apply ByteArray.ext
  simp
theorem decimal_loop (n : Int) (N : Nat) (w : World) (hN : N ≤ 1000) (hn : n = N ∧ Lib.itoa n = Lib.decDigits N ∨ n = -N ∧ 0 < N ∧ Lib.itoa n = 45 :: Lib.decDigits N) :
    Calls Tryd.prog 9 #[.int .i64 n] w fun e w' => e = .returned (.string ⟨(Lib.itoa n).toArray⟩) ∧ Ext w w' := by
  rcases hn with ⟨rfl, hi⟩ | ⟨rfl, hp, hi⟩
  · rw [hi]
    have h0 : ¬ (N : Int) < 0 := by omega
    have HD := Lib.hid (Dec.start N)
    obtain ⟨D, hD⟩ : ∃ D, Lib.decDigits N = D := ⟨_, rfl⟩
    rw [hD] at HD ⊢
    clear hD hi
    go_enter Tryd.func9, Tryd.ntmps9
    go_wp2_with fail
    go_loopg [3, 4] (N + emp []) (fun gg l3 l4 wr => ∃ (m : Nat) (l : List UInt8), l.length + m ≤ 1000 ∧ Hid (Dec D m l) ∧ Ext w wr ∧ l3 = .string ⟨l.toArray⟩ ∧ l4 = .int .i64 m ∧ gg = m + emp l)
    case atStart => exact ⟨N, [], by simpa using hN, HD, Chg.refl w, rfl, rfl, rfl⟩
    case round =>
      obtain ⟨m, l, hm, hdec, he, rfl, rfl, rfl⟩ := hrel
      have HE := Lib.hid he
      clear he
      by_cases hm0 : 0 < m
      · have h1 : (0 : Int) < (m : Int) := by omega
        have h2 : (0 : Int) ≤ (m : Int) := by omega
        have h3 : (m : Int) ≤ 1000 := by omega
        have h4 : l.length ≤ 1000 := by omega
        have hcv := digit_back wr m 5
        go_wp2_with fail
        go_roundg (m / 10 + emp (UInt8.ofNat (48 + m % 10) :: l))
        case measure => have : emp (UInt8.ofNat (48 + m % 10) :: l) = 0 := by simp [emp]
                        omega
        case rel => exact ⟨m / 10, UInt8.ofNat (48 + m % 10) :: l, by simp only [List.length_cons]; omega, Lib.hid (hdec.out.step (.inl hm0)), HE.out.alloc _, congrArg Value.string (str_cons m l), by go_num, rfl⟩
      · have h1 : ¬ (0 : Int) < (m : Int) := by omega
        obtain rfl : m = 0 := by omega
        by_cases hl0 : l = []
        · subst hl0
          have hcv := digit_back wr 0 5
          simp at hcv
          go_wp2_with fail
          go_roundg 0
          case measure => simp [emp]
          case rel => exact ⟨0, [48], by simp, Lib.hid (hdec.out.step (.inr rfl)), HE.out.alloc _, congrArg Value.string (str_cons 0 []), rfl, by simp [emp]⟩
        · have hd : l = D := by
            rcases hdec.out with ⟨h, _⟩ | ⟨_, h, _⟩ | ⟨_, h, _⟩
            · omega
            · exact absurd h hl0
            · exact h
          have hie : l.isEmpty = false := by simpa using hl0
          subst hd
          go_wp2_with fail
          go_ret
          exact ⟨rfl, HE.out⟩
  · rw [hi]
    have h0 : (-(N : Int)) < 0 := by omega
    have h00 : (N : Int) ≤ 1000 := by omega
    have HD := Lib.hid (Dec.start N)
    obtain ⟨D, hD⟩ : ∃ D, Lib.decDigits N = D := ⟨_, rfl⟩
    rw [hD] at HD ⊢
    clear hD hi
    go_enter Tryd.func9, Tryd.ntmps9
    go_wp2_with fail
    go_loopg [3, 4] (N + emp []) (fun gg l3 l4 wr => ∃ (m : Nat) (l : List UInt8), l.length + m ≤ 1000 ∧ Hid (Dec D m l) ∧ Ext w wr ∧ l3 = .string ⟨l.toArray⟩ ∧ l4 = .int .i64 m ∧ gg = m + emp l)
    case atStart => exact ⟨N, [], by simpa using hN, HD, Chg.refl w, rfl, rfl, rfl⟩
    case round =>
      obtain ⟨m, l, hm, hdec, he, rfl, rfl, rfl⟩ := hrel
      have HE := Lib.hid he
      clear he
      by_cases hm0 : 0 < m
      · have h1 : (0 : Int) < (m : Int) := by omega
        have h2 : (0 : Int) ≤ (m : Int) := by omega
        have h3 : (m : Int) ≤ 1000 := by omega
        have h4 : l.length ≤ 1000 := by omega
        have hcv := digit_back wr m 5
        go_wp2_with fail
        go_roundg (m / 10 + emp (UInt8.ofNat (48 + m % 10) :: l))
        case measure => have : emp (UInt8.ofNat (48 + m % 10) :: l) = 0 := by simp [emp]
                        omega
        case rel => exact ⟨m / 10, UInt8.ofNat (48 + m % 10) :: l, by simp only [List.length_cons]; omega, Lib.hid (hdec.out.step (.inl hm0)), HE.out.alloc _, congrArg Value.string (str_cons m l), by go_num, rfl⟩
      · have h1 : ¬ (0 : Int) < (m : Int) := by omega
        obtain rfl : m = 0 := by omega
        by_cases hl0 : l = []
        · subst hl0
          have hcv := digit_back wr 0 5
          simp at hcv
          go_wp2_with fail
          go_roundg 0
          case measure => simp [emp]
          case rel => exact ⟨0, [48], by simp, Lib.hid (hdec.out.step (.inr rfl)), HE.out.alloc _, congrArg Value.string (str_cons 0 []), rfl, by simp [emp]⟩
        · have hd : l = D := by
            rcases hdec.out with ⟨h, _⟩ | ⟨_, h, _⟩ | ⟨_, h, _⟩
            · omega
            · exact absurd h hl0
            · exact h
          have hie : l.isEmpty = false := by simpa using hl0
          subst hd
          go_wp2_with fail
          go_ret
          exact ⟨congrArg (fun s => Ending.returned (Value.string s)) (str_neg l), HE.out⟩
theorem decimal_any (n : Int) (w : World) (h0 : -1000 ≤ n) (h1 : n ≤ 1000) :
    Calls Tryd.prog 9 #[.int .i64 n] w fun e w' => e = .returned (.string ⟨(Lib.itoa n).toArray⟩) ∧ Ext w w' := by
  by_cases hneg : n < 0
  · refine decimal_loop n n.natAbs w (by omega) (.inr ⟨by omega, by omega, ?_⟩)
    rw [Lib.itoa, if_pos hneg]
  · refine decimal_loop n n.toNat w (by omega) (.inl ⟨by omega, ?_⟩)
    rw [Lib.itoa, if_neg hneg]
end Go.Proofs.YtdiklblnilmpoaaDoor
