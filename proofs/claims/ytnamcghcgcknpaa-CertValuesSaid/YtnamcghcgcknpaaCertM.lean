/-
  The reader of certs (chapter 24): a value, whichever.
-/
import Derived.Test.YtnamcghcgcknpaaCertKA
import Derived.Test.YtnamcghcgcknpaaCertKB
import Derived.Test.YtnamcghcgcknpaaCertKC
import Derived.Test.YtnamcghcgcknpaaCertKD
import Derived.Test.YtnamcghcgcknpaaCertL
namespace Go.Proofs.Ytnamcghcgcknpaa
open Go.RowKit
set_option linter.unusedVariables false

set_option maxRecDepth 100000 in
theorem value_nil {w : World} {rb : Nat} {a : Option Addr} {len cap : Nat} {bs : List Nat} (h : Rd w rb a len cap bs []) :
    Calls Try.prog 31 #[.pointer (some ⟨rb, 0, none⟩)] w (Got w rb a len cap bs (dVal []) (ValV w)) := by
  have hrd0 : Rd (w.alloc (Obj.cells #[.int .i64 0, .bool false, .slice none 0 0, .int .i64 0, .float .f64 0] 31)) rb a len cap bs [] := h.chg (S := fun _ => False) ((Chg.refl w).alloc _) (fun _ _ h => h)
  have HR0 := Lib.hid hrd0
  have hlt := h.lt
  clear hrd0 h
  have hD : dVal [] = none := rfl
  rw [hD]
  go_enter Try.func31, Try.ntmps31
  go_wp2_with fail
  refine (byte_any HR0.out).mono ?_
  rintro e w1 ⟨hc, hg⟩
  have hfin : Got w rb a len cap bs none (ValV w) e w1 := Got.gone none rfl ((((Chg.refl w).alloc _).trans hc)) hg (by simp only [World.size_alloc]; omega)
  obtain ⟨p, ch, b, rfl, _⟩ := hg
  exact ⟨rfl, hfin⟩
theorem value_any {w : World} {rb : Nat} {a : Option Addr} {len cap : Nat} {bs rest : List Nat} (h : Rd w rb a len cap bs rest) :
    Calls Try.prog 31 #[.pointer (some ⟨rb, 0, none⟩)] w (Got w rb a len cap bs (dVal rest) (ValV w)) := by
  match rest, h with
  | [], h => exact value_nil h
  | s :: r, h =>
    by_cases h13 : s = 1 ∨ s = 3
    · cases hN : dNat r with
      | none =>
        by_cases hcp : cap = len - r.length
        · exact value_nat_pos h h13 hN hcp
        · exact value_nat_neg h h13 hN hcp
      | some q =>
        obtain ⟨⟨inf, l⟩, t⟩ := q
        rcases h13 with he | he
        · exact value_nat_some1 h (.inl he) hN he
        · exact value_nat_some3 h (.inr he) hN he
    · by_cases h24 : s = 2 ∨ s = 4
      · exact value_lev h h24
      · exact value_flo h h13 h24
end Go.Proofs.Ytnamcghcgcknpaa
