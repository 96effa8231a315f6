/-
  The law CertBack (chapter 24): what was written is read as it was; one byte more or less, and it is none.
-/
import Derived.Test.YtnamcghcgcknpaaLawB
import Derived.Test.YtnamcghcgcknpaaLawC
namespace Go.Proofs.Ytnamcghcgcknpaa
open Go.RowKit
set_option linter.unusedVariables false

theorem eNum_byte (n : Nat) : ∀ b ∈ eNum n, b < 256 := by
  induction n using Nat.strongRecOn with
  | ind n ih =>
    intro b hb
    by_cases h : n < 128
    · rw [eNum_small h] at hb
      simp only [List.mem_singleton] at hb
      omega
    · rw [eNum_big h] at hb
      rcases List.mem_cons.1 hb with h1 | h1
      · omega
      · exact ih _ (by omega) b h1
theorem eNums_byte (l : List Nat) : ∀ b ∈ eNums l, b < 256 := by
  induction l with
  | nil => intro b hb; simp [eNums] at hb
  | cons n l ih =>
    intro b hb
    rcases List.mem_append.1 hb with h | h
    · exact eNum_byte n b h
    · exact ih b h
theorem eWalks_byte (l : List (List (Nat × Bool))) : ∀ b ∈ eWalks l, b < 256 := by
  induction l with
  | nil => intro b hb; simp [eWalks] at hb
  | cons n l ih =>
    intro b hb
    rcases List.mem_append.1 hb with h | h
    · rcases List.mem_append.1 h with h | h
      · exact eNum_byte _ b h
      · exact eNums_byte _ b h
    · exact ih b h
theorem eWords_byte (l : List Nat) : ∀ b ∈ eWords l, b < 256 := by
  induction l with
  | nil => intro b hb; simp [eWords] at hb
  | cons n l ih =>
    intro b hb
    rcases List.mem_append.1 hb with h | h
    · simp only [eWord, List.mem_cons, List.not_mem_nil, or_false] at h
      omega
    · exact ih b h
theorem eVal_byte {v : Val} (h : codeV v = 0) : ∀ b ∈ eVal v, b < 256 := by
  obtain ⟨hm, h64⟩ := code_zero h
  obtain ⟨h1, h6, hn, hl, hf⟩ := may_parts hm
  intro b hb
  unfold eVal at hb
  rcases List.mem_cons.1 hb with h | h
  · omega
  · by_cases h13 : v.sem = 1 ∨ v.sem = 3
    · rw [if_pos h13] at h
      unfold eNat at h
      split at h
      · simp only [List.mem_singleton] at h; omega
      · rename_i hinf
        rcases List.mem_cons.1 h with h | h
        · have := (h64 h13).resolve_left hinf
          simp only at h
          omega
        · exact eWords_byte _ b h
    · rw [if_neg h13] at h
      by_cases h24 : v.sem = 2 ∨ v.sem = 4
      · rw [if_pos h24] at h
        have := hl h24
        simp only [List.mem_singleton] at h
        omega
      · rw [if_neg h24] at h
        simp only [eOct, List.mem_cons, List.not_mem_nil, or_false] at h
        omega
theorem code_parts {c : Crt} (h : codeC c = 0) : mayC c = true ∧ codeV c.claim = 0 := by
  cases hm : mayC c with
  | true => rw [codeC, hm] at h; exact ⟨rfl, h⟩
  | false => rw [codeC, hm] at h; simp at h
theorem eCrt_byte {c : Crt} (h : codeC c = 0) : ∀ b ∈ eCrt c, b < 256 := by
  obtain ⟨hm, hv⟩ := code_parts h
  obtain ⟨⟨h1, h2, h3, h4⟩, -, -⟩ := mayC_parts hm
  intro b hb
  unfold eCrt at hb
  rcases List.mem_cons.1 hb with h | hb
  · omega
  · rcases List.mem_cons.1 hb with h | hb
    · omega
    · rcases List.mem_cons.1 hb with h | hb
      · omega
      · rcases List.mem_append.1 hb with h | hb
        · exact eNums_byte _ b h
        · rcases List.mem_cons.1 hb with h | hb
          · omega
          · rcases List.mem_append.1 hb with h | h
            · exact eWalks_byte _ b h
            · exact eVal_byte hv b h
theorem eCrt_le {c : Crt} (h : codeC c = 0) : (eCrt c).length ≤ 300000 := by
  obtain ⟨hm, hv⟩ := code_parts h
  have h1 := pre1_le hm c.walks.length
  have h2 := eVal_le hv
  rw [← pre_end, List.length_append]
  omega
theorem back_read {c : Crt} (h : codeC c = 0) (h32 : ∀ d ∈ c.claim.w, d < 4294967296) (hx : c.claim.x < 18446744073709551616) :
    dCrtR (eCrt c) = some (normC c, []) ∧ (∀ y, dCrtR (eCrt c ++ [y]) = none) ∧ ∀ bs y, bs ++ [y] = eCrt c → dCrtR bs = none := by
  obtain ⟨hm, h0⟩ := dCrt0_eCrt c [] h h32 hx
  rw [List.append_nil] at h0
  refine ⟨?_, fun y => ?_, fun bs y hb => ?_⟩
  · unfold dCrtR
    rw [h0]
    simp [mayC_norm, hm]
  · obtain ⟨-, h1⟩ := dCrt0_eCrt c [y] h h32 hx
    unfold dCrtR
    rw [h1]
  · unfold dCrtR
    cases hd : dCrt0 bs with
    | none => rfl
    | some p =>
      obtain ⟨d, r⟩ := p
      have := dCrt0_app [y] hd
      rw [hb, h0] at this
      simp at this
theorem nilC_cells (w : World) : True := trivial
theorem Cells.take {w : World} {a : Option Addr} {n cap : Nat} {bs : List Nat} {y : Nat} (h : Cells w a n cap (byteCells (bs ++ [y]))) (hn : n = bs.length + 1) : Cells w a bs.length cap (byteCells bs) := by
  refine ⟨by have := h.1; omega, h.2.1, fun j u hu => h.2.2 j u ?_⟩
  have hj : j < bs.length := by
    rcases Nat.lt_or_ge j bs.length with h | h
    · exact h
    · rw [List.getElem?_eq_none (by simpa [byteCells] using h)] at hu; cases hu
  rw [bcells_app, List.getElem?_append_left (by simpa [byteCells] using hj)]
  exact hu
end Go.Proofs.Ytnamcghcgcknpaa
