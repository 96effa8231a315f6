/-
  Writing a number (chapter 24).
-/
import Derived.Test.YtnamcghcgcknpaaCertG
namespace Go.Proofs.Ytnamcghcgcknpaa
open Go.RowKit
set_option linter.unusedVariables false

theorem info_u8 : (Try.prog.info? 5).map (fun i => (i.zero, i.size, i.bytes)) = some (some (.int .u8 0), 1, 1) := by kernel_rfl
set_option maxRecDepth 100000 in
theorem or128 : ∀ x : Nat, x < 256 → x ||| 128 = x % 128 + 128 := by decide
theorem or_128 (n : Nat) : bits .or .u8 ((n : Int) % 256) 128 = ((n % 128 + 128 : Nat) : Int) := by
  have h1 : (n : Int) % 256 = ((n % 256 : Nat) : Int) := by omega
  have h2 := u8_or_nat (n % 256) 128 (by omega) (by omega)
  rw [h1, show (128 : Int) = ((128 : Nat) : Int) from rfl, h2, or128 _ (by omega)]
  congr 1
  omega
theorem bcells_app (a b : List Nat) : byteCells (a ++ b) = byteCells a ++ byteCells b := by simp [byteCells]
theorem bcells_length (a : List Nat) : (byteCells a).length = a.length := by simp [byteCells]
theorem bcells_one (a : List Nat) : ∀ u ∈ byteCells a, u.oneCell' = true := by
  intro u hu
  obtain ⟨d, _, rfl⟩ := List.mem_map.1 hu
  rfl
theorem eNum_len (n : Nat) : 0 < (eNum n).length := by
  rw [eNum]; split <;> simp
theorem news8 (w : World) (d : Int) (t : Nat) (j : Nat) (u : Value) (h : [Value.int .u8 d][j]? = some u) :
    (w.alloc (.cells #[.int .u8 d] t)).cell? ((⟨w.heap.size, 0, none⟩ : Addr).add j) = some u := by
  match j, h with
  | 0, h => simpa [go_sem] using h
/-- The world behind an append onto a row of the call's own, made behind B. -/
theorem ext_grow {w w2 w' : World} {o : Obj} {e : TypeId} {size n : Nat} {v : Value} {xs : List Value} (h : Ext w w2) (hown : w2.ownsRow w.heap.size e size v n xs) (g : (w2.alloc o).grownBy w' v.ownBlock) : Ext w w' := by
  have h' : Chg (fun k => w.heap.size ≤ k) w w2 := h.mono (fun _ _ h => h.elim)
  refine Chg.mono (S := fun k => w.heap.size ≤ k) ?_ (fun k hk h => absurd h (by omega))
  refine (h'.alloc o).trans ⟨g.os, g.tape, g.output, g.size, fun k hk he => g.block k hk fun hs => ?_⟩
  exact he (hown.lt k hs.symm).1
theorem ext_grow0 {w w2 w' : World} {e : TypeId} {size n : Nat} {v : Value} {xs : List Value} (h : Ext w w2) (hown : w2.ownsRow w.heap.size e size v n xs) (g : w2.grownBy w' v.ownBlock) : Ext w w' := by
  have h' : Chg (fun k => w.heap.size ≤ k) w w2 := h.mono (fun _ _ h => h.elim)
  refine Chg.mono (S := fun k => w.heap.size ≤ k) ?_ (fun k hk h => absurd h (by omega))
  refine h'.trans ⟨g.os, g.tape, g.output, g.size, fun k hk he => g.block k hk fun hs => ?_⟩
  exact he (hown.lt k hs.symm).1
theorem pow_down {m i : Nat} (h : ¬ m < 128) (hi : i ≤ 8) (hm : m < 128 ^ (9 - i)) : i + 1 ≤ 8 ∧ m / 128 < 128 ^ (9 - (i + 1)) := by
  rw [pow_step i hi] at hm
  refine ⟨?_, by omega⟩
  rcases Nat.lt_or_ge i 8 with h1 | h1
  · omega
  · obtain rfl : i = 8 := by omega
    simp at hm; omega
set_option maxRecDepth 100000 in
theorem enum_any (n : Nat) (hn : n < 9223372036854775808) (w : World) :
    Calls Try.prog 23 #[.int .i64 n] w fun e w' => Ext w w' ∧ ∃ v, e = .returned v ∧ w'.ownsRow w.heap.size 5 1 v (eNum n).length (byteCells (eNum n)) := by
  obtain ⟨i0, hi0, hii⟩ := Option.map_eq_some_iff.1 info_u8
  obtain ⟨hz0, hz1, hz2⟩ : i0.zero = some (.int .u8 0) ∧ i0.size = 1 ∧ i0.bytes = 1 := by
    have := hii; simp at this; exact this
  have HI := Lib.hid (And.intro hi0 (And.intro hz0 (And.intro hz1 hz2)))
  clear hi0 hii hz0 hz1 hz2
  obtain ⟨L, hL⟩ : ∃ L, L = eNum n := ⟨_, rfl⟩
  rw [← hL]
  have HL := Lib.hid hL
  clear hL
  go_enter Try.func23, Try.ntmps23
  go_wp2_with fail
  go_loopg [0, 2] (n + 1) (fun g l0 l2 wr => ∃ (m : Nat) (v : Value) (l : List Nat), Ext w wr ∧ v = l2 ∧ l0 = .int .i64 m ∧ g = m + 1 ∧ m < 9223372036854775808 ∧ l ++ eNum m = L ∧ l.length ≤ 8 ∧ m < 128 ^ (9 - l.length) ∧ wr.ownsRow w.heap.size 5 1 v l.length (byteCells l))
  case atStart => exact ⟨n, _, [], Chg.refl w, rfl, rfl, rfl, hn, HL.out.symm, by simp, by simpa using hn, World.ownsRow_nil _ _ _ _⟩
  case round =>
    obtain ⟨m, v, l, hex, rfl, rfl, rfl, hm, hl, hl8, hpw, hown⟩ := hrel
    have HP := Lib.hid hpw
    clear hpw
    have HE := Lib.hid hex
    have HW := Lib.hid (And.intro hl hown)
    have hsz := hex.size
    clear hl hown hex
    by_cases h : m < 128
    · have h' : ¬ (128 : Int) ≤ m := by omega
      have hmod : (m : Int) % 256 = m := by omega
      go_wp2_with (at_builtin; refine wpList_append_st _ rfl (.tmp 13) (.tmp 16) 22 rfl w.heap.size 5 i0 (.int .u8 0) 1 1 Try.underlying22 HI.out.1 HI.out.2.1 HI.out.2.2.1 HI.out.2.2.2 rfl (by decide) v l.length _ rfl (by exact (HW.out.2.alloc _)) ⟨wr.heap.size, 0, none⟩ 1 1 [.int .u8 (m : Int)] rfl rfl (by exact news8 _ _ _) (by simp [Value.oneCell']) (by unfold maxLen; omega) (by omega) (by simp; omega) ?_; intro v' w' u1 u2 u3; have HF := Lib.hid (And.intro u1 u2); clear u1 u2 u3)
      go_ret
      have hl2 := HW.out.1
      rw [eNum_small h] at hl2
      have hb2 : byteCells l ++ [Value.int .u8 (m : Int)] = byteCells L := by rw [← hl2, bcells_app]; rfl
      have hlen2 : l.length + 1 = L.length := by rw [← hl2]; simp
      refine ⟨ext_grow HE.out HW.out.2 HF.out.2, _, rfl, ?_⟩
      have := HF.out.1
      rw [hb2, hlen2] at this
      exact this
    · have h' : (128 : Int) ≤ m := by omega
      have ho := or_128 m
      have hd : m / 128 < m := by omega
      have hP := pow_down h hl8 HP.out
      obtain ⟨z, hz⟩ : ∃ z, m % 128 + 128 = z := ⟨_, rfl⟩
      rw [hz] at ho
      have HZ := Lib.hid hz
      clear hz
      go_wp2_with (at_builtin; refine wpList_append_st _ rfl (.tmp 7) (.tmp 11) 22 rfl w.heap.size 5 i0 (.int .u8 0) 1 1 Try.underlying22 HI.out.1 HI.out.2.1 HI.out.2.2.1 HI.out.2.2.2 rfl (by decide) v l.length _ rfl (by exact (HW.out.2.alloc _)) ⟨wr.heap.size, 0, none⟩ 1 1 [.int .u8 (z : Int)] rfl rfl (by exact news8 _ _ _) (by simp [Value.oneCell']) (by unfold maxLen; omega) (by omega) (by simp; omega) ?_; intro v' w' u1 u2 u3; have HF := Lib.hid (And.intro u1 u2); clear u1 u2 u3)
      go_roundg (m / 128 + 1)
      case measure => omega
      case rel =>
        have hl2 := HW.out.1
        rw [eNum_big h, HZ.out] at hl2
        have hb2 : byteCells l ++ [Value.int .u8 (z : Int)] = byteCells (l ++ [z]) := by rw [bcells_app]; rfl
        have := HF.out.1
        rw [hb2, show l.length + 1 = (l ++ [z]).length by simp] at this
        exact ⟨m / 128, v', l ++ [z], ext_grow HE.out HW.out.2 HF.out.2, rfl, rfl, rfl, by omega, by rw [← hl2]; simp, by simp; omega, by simpa using hP.2, this⟩
end Go.Proofs.Ytnamcghcgcknpaa
