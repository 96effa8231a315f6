/-
  Writing a value (chapter 24).
-/
import Derived.Test.YtnamcghcgcknpaaEncB
import Derived.Test.YtnamcghcgcknpaaMayB
namespace Go.Proofs.Ytnamcghcgcknpaa
open Go.RowKit
set_option linter.unusedVariables false

theorem own_form {w : World} {B : Nat} {e : TypeId} {size n : Nat} {v : Value} {xs : List Value} (h : w.ownsRow B e size v n xs) (hn : 0 < n) : ∃ g cap, v = .slice (some ⟨g, 0, none⟩) n cap ∧ ∀ j u, xs[j]? = some u → w.cell? ((⟨g, 0, none⟩ : Addr).add j) = some u := by
  rcases h.2 with ⟨rfl, h0⟩ | ⟨g, cap, cur, rfl, h1, h2⟩
  · omega
  · exact ⟨g, cap, rfl, fun j u hu => h.cells rfl j u hu⟩
theorem eNat_le (a : Bool × List Nat) (h : a.2.length ≤ 64) : (eNat a).length ≤ 257 := by
  unfold eNat; split
  · simp
  · simp [eWords_length]; omega
/-- What the value's call is told. -/
theorem mayV_zero {s : Int} {inf : Bool} {l : List Nat} {lev : Int} {x : Nat} (h : mayV ⟨s, inf, l, lev, x⟩ = 0) : 1 ≤ s ∧ s ≤ 6 ∧ (s = 1 ∨ s = 3 → mayNat inf l = true) ∧ (s = 2 ∨ s = 4 → 0 ≤ lev ∧ lev ≤ 7) := by
  have hm : mayV ⟨s, inf, l, lev, x⟩ = if 1 ≤ s ∧ s ≤ 6 then
    if s = 1 ∨ s = 3 then (if mayNat inf l then 0 else 16)
    else if s = 2 ∨ s = 4 then (if 0 ≤ lev ∧ lev ≤ (if s = 2 then 1 else 7) then 0 else 16)
    else if fd s x then 0 else 16 else 9 := rfl
  rw [hm] at h
  by_cases hk : 1 ≤ s ∧ s ≤ 6
  · rw [if_pos hk] at h
    refine ⟨hk.1, hk.2, fun hn => ?_, fun hl => ?_⟩
    · rw [if_pos hn] at h
      cases hN : mayNat inf l with
      | true => rfl
      | false => rw [hN] at h; exact absurd h (by decide)
    · rw [if_neg (by omega), if_pos hl] at h
      by_cases h2 : 0 ≤ lev ∧ lev ≤ (if s = 2 then 1 else 7)
      · refine ⟨h2.1, ?_⟩
        have h3 := h2.2
        split at h3 <;> omega
      · rw [if_neg h2] at h; exact absurd h (by decide)
  · rw [if_neg hk] at h; exact absurd h (by decide)
set_option maxRecDepth 100000 in
set_option maxHeartbeats 400000 in
theorem encV_bad {w : World} {v : Val} {a : Option Addr} {cap : Nat} (h : Cells w a v.w.length cap (wordCells v.w)) (hx : v.x < 18446744073709551616) (hm : mayV v ≠ 0) :
    Calls Try.prog 11 #[valV v a cap] w (Wrote w (codeV v) (eVal v)) := by
  have hc : codeV v = mayV v := by unfold codeV; rw [if_neg hm]
  rw [hc]
  obtain ⟨L, hL⟩ : ∃ L, eVal v = L := ⟨_, rfl⟩
  rw [hL]
  clear hL hc
  obtain ⟨s, inf, l, lev, x⟩ := v
  unfold valV
  simp only at h hx ⊢
  have hb : Ext w (w.alloc (Obj.cells #[.int .i64 s, .bool inf, .slice a l.length cap, .int .i64 lev, .float .f64 x] 31)) := (Chg.refl w).alloc _
  have HM0 := may_any (v := ⟨s, inf, l, lev, x⟩) (h.chg (S := fun _ => False) hb (fun _ _ h => h)) hx
  obtain ⟨mv, hmv⟩ : ∃ mv, mayV ⟨s, inf, l, lev, x⟩ = mv := ⟨_, rfl⟩
  rw [hmv] at HM0 hm ⊢
  unfold valV at HM0
  simp only at HM0
  have HM := Lib.hid HM0
  have HX := Lib.hid hb
  have hmv' : (mv == 0) = false := by simpa using hm
  have HNZ := Lib.hid hm
  clear h hb HM0 hmv hm
  generalize l.length = n at HM HX ⊢
  go_enter Try.func11, Try.ntmps11
  go_wp2_with (go_at_call 24; refine HM.out.mono ?_; rintro e w' ⟨rfl, hx⟩)
  go_returns
  exact ⟨HX.out.trans hx, .inr ⟨HNZ.out, rfl⟩⟩
end Go.Proofs.Ytnamcghcgcknpaa
