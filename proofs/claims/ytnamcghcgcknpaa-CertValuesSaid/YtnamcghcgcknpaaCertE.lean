/-
  Numbers without an end and values (chapters 3, 4): what may be.
-/
import Derived.Test.YtnamcghcgcknpaaCertD
import Derived.Handy
namespace Go.Proofs.Ytnamcghcgcknpaa
open Go.RowKit
set_option linter.unusedVariables false

/-- A slice of n elements whose cells hold these values. -/
def Cells (w : World) (a : Option Addr) (n cap : Nat) (xs : List Value) : Prop :=
  n ≤ cap ∧ cap ≤ maxLen ∧ ∀ j u, xs[j]? = some u → ∃ x, a = some x ∧ w.cell? (x.add j) = some u
theorem Cells.chg {S : Nat → Prop} {w w' : World} {a : Option Addr} {n cap : Nat} {xs : List Value} (h : Cells w a n cap xs) (k : Chg S w w') (hS : ∀ b, b < w.heap.size → ¬ S b) : Cells w' a n cap xs :=
  ⟨h.1, h.2.1, fun j u hu => by
    obtain ⟨x, h1, h2⟩ := h.2.2 j u hu
    exact ⟨x, h1, by rw [k.cell (lt_of_cell h2) (hS _ (lt_of_cell h2))]; exact h2⟩⟩
theorem Cells.of_own {w : World} {base : Nat} {e : TypeId} {size : Nat} {a : Option Addr} {n cap : Nat} {xs : List Value} (h : w.ownsRow base e size (.slice a n cap) n xs) : Cells w a n cap xs := by
  rcases h.2 with ⟨h1, rfl⟩ | ⟨g, cap', cur, h1, h2, h3, h4, h5, h6⟩
  · cases h1
    have := h.1
    refine ⟨Nat.le_refl _, by unfold maxLen; omega, fun j u hu => ?_⟩
    have h0 : xs = [] := by simpa using this
    rw [h0] at hu; simp at hu
  · cases h1
    exact ⟨h4, h5, fun j u hu => ⟨_, rfl, h.cells rfl j u hu⟩⟩
def wordCells (l : List Nat) : List Value := l.map fun (d : Nat) => Value.int .u32 (d : Int)
/-- How many digits stay, of the first m. -/
def wl (l : List Nat) : Nat → Nat
  | 0 => 0
  | m + 1 => if l.getD m 0 = 0 then wl l m else m + 1
theorem wl_le (l : List Nat) : ∀ m, wl l m ≤ m := by
  intro m
  induction m with
  | zero => simp [wl]
  | succ m ih => rw [wl]; split <;> omega
theorem whole_wl (l : List Nat) : whole l = (wl l l.length == l.length) := by
  unfold whole
  rcases List.eq_nil_or_concat l with rfl | ⟨l', d, rfl⟩
  · rfl
  · have hl : (l' ++ [d]).length = l'.length + 1 := by simp
    rw [List.concat_eq_append, hl, wl]
    have := wl_le (l' ++ [d]) l'.length
    simp only [List.getLast?_append, List.getLast?_singleton]
    by_cases h : d = 0
    · subst h
      simp
      omega
    · simp [h]
theorem word_cell {w : World} {a : Option Addr} {n cap : Nat} {l : List Nat} (h : Cells w a n cap (wordCells l)) {m : Nat} (hm : m < l.length) : ∃ x, a = some x ∧ w.cell? (x.add m) = some (.int .u32 ((l.getD m 0 : Nat) : Int)) := by
  have : (wordCells l)[m]? = some (.int .u32 ((l.getD m 0 : Nat) : Int)) := by
    simp [wordCells, hm]
  exact h.2.2 m _ this
theorem whole_any {w : World} {a : Option Addr} {cap : Nat} {l : List Nat} (h : Cells w a l.length cap (wordCells l)) :
    Calls Try.prog 65 #[.slice a l.length cap] w fun e w' => e = .returned (.slice a (wl l l.length) cap) ∧ w' = w := by
  have hcap := h.1
  have hmax := h.2.1
  unfold maxLen at hmax
  have H := Lib.hid h
  clear h
  obtain ⟨n, hn⟩ : ∃ n, l.length = n := ⟨_, rfl⟩
  obtain ⟨z, hz⟩ : ∃ z, wl l n = z := ⟨_, rfl⟩
  rw [hn] at hcap H ⊢
  rw [hz]
  have HZ := Lib.hid (And.intro hn hz)
  clear hn hz
  go_enter Try.func65, Try.ntmps65
  go_wp2_with fail
  go_loopg [0] n (fun g l0 wr => ∃ m, wr = w ∧ m ≤ n ∧ l0 = .slice a m cap ∧ wl l m = z ∧ g = m)
  case atStart => exact ⟨n, rfl, Nat.le_refl _, rfl, HZ.out.2, rfl⟩
  case round =>
    obtain ⟨m, rfl, hm, rfl, hzm, hg⟩ := hrel
    have HM := Lib.hid hzm
    clear hzm
    cases m with
    | zero =>
      have hz0 : Hid (z = 0) := Lib.hid (by have := HM.out; simpa [wl] using this.symm)
      go_wp2_with fail
      go_ret
      rw [hz0.out]
      exact ⟨rfl, rfl⟩
    | succ m =>
      obtain ⟨x, rfl, hx⟩ := word_cell H.out (m := m) (by rw [HZ.out.1]; omega)
      obtain ⟨d, hd⟩ : ∃ d, l.getD m 0 = d := ⟨_, rfl⟩
      rw [hd] at hx
      have hmz := HM.out
      rw [wl, hd] at hmz
      by_cases h0 : d = 0
      · subst h0
        have HMZ : Hid (wl l m = z) := Lib.hid (by simpa using hmz)
        clear hmz hd
        go_wp2_with fail
        go_roundg m
        case measure => omega
        case rel => exact ⟨m, rfl, by omega, rfl, HMZ.out, rfl⟩
      · have HMZ : Hid (m + 1 = z) := Lib.hid (by simpa [h0] using hmz)
        have h0' : ¬ (d : Int) = 0 := by omega
        clear hmz hd
        go_wp2_with fail
        go_ret
        rw [← HMZ.out]
        exact ⟨rfl, rfl⟩
theorem natMay_any {w : World} {a : Option Addr} {cap : Nat} {l : List Nat} (inf : Bool) (h : Cells w a l.length cap (wordCells l)) :
    Calls Try.prog 51 #[.agg #[.bool inf, .slice a l.length cap]] w fun e w' => e = .returned (.bool (mayNat inf l)) ∧ Ext w w' := by
  have hcap := h.1
  have hmax := h.2.1
  unfold maxLen at hmax
  have H := Lib.hid h
  have hb : Ext w (w.alloc (Obj.cells #[.bool inf, .slice a l.length cap] 28)) := (Chg.refl w).alloc _
  have HB := Lib.hid (fun n => whole_any (h.chg (S := fun _ => False) (hb.drewN n) (fun _ _ h => h)))
  have HX := Lib.hid hb
  clear h hb
  cases inf with
  | true =>
    rw [mayNat]
    obtain ⟨n, hn⟩ : ∃ n, l.length = n := ⟨_, rfl⟩
    rw [hn] at hcap HX ⊢
    clear hn H HB
    simp only [if_true]
    have heq : (n == 0) = ((n : Int) == 0) := by rw [Bool.eq_iff_iff, beq_iff_eq, beq_iff_eq]; omega
    rw [heq]
    clear heq
    go_enter Try.func51, Try.ntmps51
    go_wp2_with fail
    go_ret
    exact ⟨rfl, HX.out⟩
  | false =>
    rw [mayNat, whole_wl]
    have hle := wl_le l l.length
    generalize wl l l.length = z at HB hle ⊢
    obtain ⟨n, hn⟩ : ∃ n, l.length = n := ⟨_, rfl⟩
    rw [hn] at hcap HX HB hle ⊢
    clear hn H
    simp only [Bool.false_eq_true, if_false]
    have heq : (z == n) = ((z : Int) == (n : Int)) := by rw [Bool.eq_iff_iff, beq_iff_eq, beq_iff_eq]; omega
    rw [heq]
    clear heq
    go_enter Try.func51, Try.ntmps51
    go_wp2_with fail
    go_quiet ((go_at_call 65; exact Calls.quiet_of_same ((HB.out _).mono fun e w' ⟨h1, h2⟩ => ⟨h1, h2⟩)))
    go_wp2_with fail
    go_ret
    exact ⟨rfl, HX.out.drewN _⟩
theorem known_any (s : Int) (w : World) (b : Bool) (hb : decide (1 ≤ s ∧ s ≤ 6) = b) : Calls Try.prog 49 #[.int .i64 s] w fun e w' => e = .returned (.bool b) ∧ w' = w := by
  by_cases h1 : 1 ≤ s
  · by_cases h2 : s ≤ 6
    · obtain rfl : b = true := by rw [← hb]; simp [h1, h2]
      clear hb
      go_enter Try.func49, Try.ntmps49
      go_wp2_with fail
      go_ret
      exact ⟨rfl, rfl⟩
    · obtain rfl : b = false := by rw [← hb]; simp [h2]
      clear hb
      go_enter Try.func49, Try.ntmps49
      go_wp2_with fail
      go_ret
      exact ⟨rfl, rfl⟩
  · obtain rfl : b = false := by rw [← hb]; simp [h1]
    clear hb
    go_enter Try.func49, Try.ntmps49
    go_wp2_with fail
    go_ret
    exact ⟨rfl, rfl⟩
theorem isNat_any (s : Int) (w : World) (b : Bool) (hb : decide (s = 1 ∨ s = 3) = b) : Calls Try.prog 50 #[.int .i64 s] w fun e w' => e = .returned (.bool b) ∧ w' = w := by
  by_cases h1 : s = 1
  · subst h1
    obtain rfl : b = true := by rw [← hb]; rfl
    clear hb
    go_enter Try.func50, Try.ntmps50
    go_wp2_with fail
    go_ret
    exact ⟨rfl, rfl⟩
  · by_cases h2 : s = 3
    · subst h2
      obtain rfl : b = true := by rw [← hb]; rfl
      clear hb
      go_enter Try.func50, Try.ntmps50
      go_wp2_with fail
      go_ret
      exact ⟨rfl, rfl⟩
    · obtain rfl : b = false := by rw [← hb]; simp [h1, h2]
      clear hb
      have e1 : (s == 1) = false := by simpa using h1
      have e2 : (s == 3) = false := by simpa using h2
      go_enter Try.func50, Try.ntmps50
      go_wp2_with fail
      go_ret
      exact ⟨rfl, rfl⟩
theorem isLevel_any (s : Int) (w : World) (b : Bool) (hb : decide (s = 2 ∨ s = 4) = b) : Calls Try.prog 52 #[.int .i64 s] w fun e w' => e = .returned (.bool b) ∧ w' = w := by
  by_cases h1 : s = 2
  · subst h1
    obtain rfl : b = true := by rw [← hb]; rfl
    clear hb
    go_enter Try.func52, Try.ntmps52
    go_wp2_with fail
    go_ret
    exact ⟨rfl, rfl⟩
  · by_cases h2 : s = 4
    · subst h2
      obtain rfl : b = true := by rw [← hb]; rfl
      clear hb
      go_enter Try.func52, Try.ntmps52
      go_wp2_with fail
      go_ret
      exact ⟨rfl, rfl⟩
    · obtain rfl : b = false := by rw [← hb]; simp [h1, h2]
      clear hb
      have e1 : (s == 2) = false := by simpa using h1
      have e2 : (s == 4) = false := by simpa using h2
      go_enter Try.func52, Try.ntmps52
      go_wp2_with fail
      go_ret
      exact ⟨rfl, rfl⟩
theorem top_any (s : Int) (w : World) : Calls Try.prog 53 #[.int .i64 s] w fun e w' => e = .returned (.int .i64 (if s = 2 then 1 else 7)) ∧ w' = w := by
  by_cases h1 : s = 2
  · subst h1
    rw [if_pos rfl]
    go_enter Try.func53, Try.ntmps53
    go_wp2_with fail
    go_ret
    exact ⟨rfl, rfl⟩
  · rw [if_neg h1]
    have e1 : (s == 2) = false := by simpa using h1
    go_enter Try.func53, Try.ntmps53
    go_wp2_with fail
    go_ret
    exact ⟨rfl, rfl⟩
/-- A value as it is handed on. -/
def valV (v : Val) (a : Option Addr) (cap : Nat) : Value := .agg #[.int .i64 v.sem, .bool v.inf, .slice a v.w.length cap, .int .i64 v.level, .float .f64 v.x]
def valCells (v : Val) (a : Option Addr) (cap : Nat) : List Value := [.int .i64 v.sem, .bool v.inf, .slice a v.w.length cap, .int .i64 v.level, .float .f64 v.x]
end Go.Proofs.Ytnamcghcgcknpaa
