/-
  Certs as bytes (chapter 24), in plain words: what was written is read as it was; one byte more or less, and it is none.
-/
import Derived.Test.YtnamcghcgcknpaaCertQ
namespace Go.Proofs.Ytnamcghcgcknpaa
open Go.RowKit
set_option linter.unusedVariables false

/-- What stands from another number on is a number. -/
theorem geq_real {x y : Nat} (h : geq x y = true) : x % 9223372036854775808 ≤ 9218868437227405312 ∧ FloatKind.f64.format.order x x = some .eq := by
  have hs : FloatKind.f64.format.signWeight = 9223372036854775808 := by decide
  have hi : FloatKind.f64.format.infRung = 9218868437227405312 := by decide
  cases hr : FloatKind.f64.format.read x with
  | nan s t =>
    unfold geq Ieee.Format.order at h
    rw [hr] at h
    simp [Ieee.Datum.order] at h
  | infinity s =>
    refine ⟨?_, by unfold Ieee.Format.order; rw [hr]; simp [Ieee.Datum.order]⟩
    unfold Ieee.Format.read at hr
    simp only [hs, hi] at hr
    split at hr
    · cases hr
    · split at hr
      · cases hr
      · split at hr
        · omega
        · cases hr
  | number s m e =>
    refine ⟨?_, by unfold Ieee.Format.order; rw [hr]; simp [Ieee.Datum.order]⟩
    unfold Ieee.Format.read at hr
    simp only [hs, hi] at hr
    have hbin : FloatKind.f64.format.binade = 4503599627370496 := by decide
    split at hr
    · rename_i h1
      rw [hbin] at h1
      omega
    · split at hr
      · rename_i h2
        omega
      · split at hr
        · cases hr
        · cases hr
theorem fd_real {s : Int} {x : Nat} (h : fd s x = true) : fb x = x ∧ fo x = x := by
  unfold fd at h
  by_cases hg : (geq x 0 && leq x (if s = 5 then 4607182418800017408 else 9218868437227405312)) = true
  · rw [Bool.and_eq_true] at hg
    obtain ⟨h1, h2⟩ := geq_real hg.1
    refine ⟨?_, by rw [fo, if_neg (by omega)]⟩
    rw [fb, h2]
    rfl
  · rw [if_neg hg] at h; cases h
/-- A value, but for what its semiring does not look at. -/
def normV (v : Val) : Val :=
  if v.sem = 1 ∨ v.sem = 3 then ⟨v.sem, v.inf, v.w, 0, 0⟩ else if v.sem = 2 ∨ v.sem = 4 then ⟨v.sem, false, [], v.level, 0⟩ else ⟨v.sem, false, [], 0, v.x⟩
theorem may_eq (v : Val) : mayV v = if 1 ≤ v.sem ∧ v.sem ≤ 6 then
    if v.sem = 1 ∨ v.sem = 3 then (if mayNat v.inf v.w then 0 else 16)
    else if v.sem = 2 ∨ v.sem = 4 then (if 0 ≤ v.level ∧ v.level ≤ (if v.sem = 2 then 1 else 7) then 0 else 16)
    else if fd v.sem v.x then 0 else 16 else 9 := rfl
theorem mayV_norm (v : Val) : mayV (normV v) = mayV v := by
  rw [may_eq, may_eq]
  unfold normV
  by_cases h13 : v.sem = 1 ∨ v.sem = 3
  · rw [if_pos h13]
    simp only [h13, if_true]
  · rw [if_neg h13]
    by_cases h24 : v.sem = 2 ∨ v.sem = 4
    · rw [if_pos h24]
      simp only [h13, h24, if_true, if_false]
    · rw [if_neg h24]
      simp only [h13, h24, if_false]
theorem code_zero {v : Val} (h : codeV v = 0) : mayV v = 0 ∧ ((v.sem = 1 ∨ v.sem = 3) → v.inf = true ∨ v.w.length ≤ 64) := by
  unfold codeV at h
  by_cases hm : mayV v = 0
  · rw [if_pos hm] at h
    refine ⟨hm, fun h13 => ?_⟩
    by_cases hc : (v.sem = 1 ∨ v.sem = 3) ∧ v.inf = false ∧ 64 < v.w.length
    · rw [if_pos hc] at h; exact absurd h (by decide)
    · cases hi : v.inf with
      | true => exact .inl rfl
      | false => exact .inr (Nat.not_lt.1 fun h4 => hc ⟨h13, hi, h4⟩)
  · rw [if_neg hm] at h; exact absurd h hm
theorem may_parts {v : Val} (h : mayV v = 0) : 1 ≤ v.sem ∧ v.sem ≤ 6 ∧ ((v.sem = 1 ∨ v.sem = 3) → mayNat v.inf v.w = true) ∧ ((v.sem = 2 ∨ v.sem = 4) → 0 ≤ v.level ∧ v.level ≤ 7) ∧ (¬ (v.sem = 1 ∨ v.sem = 3) → ¬ (v.sem = 2 ∨ v.sem = 4) → fd v.sem v.x = true) := by
  rw [may_eq] at h
  by_cases hk : 1 ≤ v.sem ∧ v.sem ≤ 6
  · rw [if_pos hk] at h
    refine ⟨hk.1, hk.2, fun hn => ?_, fun hl => ?_, fun hn hl => ?_⟩
    · rw [if_pos hn] at h
      cases hN : mayNat v.inf v.w with
      | true => rfl
      | false => rw [hN] at h; exact absurd h (by decide)
    · rw [if_neg (by omega), if_pos hl] at h
      by_cases h2 : 0 ≤ v.level ∧ v.level ≤ (if v.sem = 2 then 1 else 7)
      · refine ⟨h2.1, ?_⟩
        have h3 := h2.2
        split at h3 <;> omega
      · rw [if_neg h2] at h; exact absurd h (by decide)
    · rw [if_neg hn, if_neg hl] at h
      cases hf : fd v.sem v.x with
      | true => rfl
      | false => rw [hf] at h; exact absurd h (by decide)
  · rw [if_neg hk] at h; exact absurd h (by decide)
/-- What was written as a value is read as it was. -/
theorem dVal_eVal (v : Val) (r : List Nat) (hc : codeV v = 0) (h32 : ∀ d ∈ v.w, d < 4294967296) (hx : v.x < 18446744073709551616) : dVal (eVal v ++ r) = some (normV v, r) := by
  obtain ⟨hm, h64⟩ := code_zero hc
  obtain ⟨h1, h6, hn, hl, hf⟩ := may_parts hm
  have hmn := mayV_norm v
  rw [hm] at hmn
  unfold dVal
  have key : dVal0 (eVal v ++ r) = some (normV v, r) := by
    rw [eVal, List.cons_append]
    have ht : ((v.sem.toNat : Nat) : Int) = v.sem := by omega
    by_cases h13 : v.sem = 1 ∨ v.sem = 3
    · have h13' : v.sem.toNat = 1 ∨ v.sem.toNat = 3 := by omega
      rw [if_pos h13, dVal0, if_pos h13', normV, if_pos h13]
      have hmn' := hn h13
      rw [eNat_inv (v.inf, v.w) r]
      · simp only [ht]
      · rcases h64 h13 with h | h
        · simp only [mayNat, h, if_true] at hmn'
          have : v.w = [] := by simpa using hmn'
          simp [this]
        · exact h
      · exact h32
      · intro h
        simp only at h
        simp only [mayNat, h, if_true] at hmn'
        simpa using hmn'
      · intro h
        simp only at h
        simpa [mayNat, h] using hmn'
    · have h13' : ¬ (v.sem.toNat = 1 ∨ v.sem.toNat = 3) := by omega
      rw [if_neg h13, dVal0, if_neg h13', normV, if_neg h13]
      by_cases h24 : v.sem = 2 ∨ v.sem = 4
      · have h24' : v.sem.toNat = 2 ∨ v.sem.toNat = 4 := by omega
        rw [if_pos h24, if_pos h24', if_pos h24]
        have hl2 := hl h24
        simp only [List.cons_append, List.nil_append, dLev, ht]
        rw [show ((v.level.toNat : Nat) : Int) = v.level by omega]
      · have h24' : ¬ (v.sem.toNat = 2 ∨ v.sem.toNat = 4) := by omega
        rw [if_neg h24, if_neg h24', if_neg h24]
        obtain ⟨e1, e2⟩ := fd_real (hf h13 h24)
        rw [e1, eOct_inv v.x r hx]
        simp only [e2, e1, if_true, ht]
  rw [key]
  simp only [hmn, if_true]
def normC (c : Crt) : Crt := ⟨c.conj, c.nodes, c.walks, normV c.claim⟩
theorem mayC_norm (c : Crt) : mayC (normC c) = mayC c := rfl
theorem mayC_parts {c : Crt} (h : mayC c = true) : (0 ≤ c.conj ∧ c.conj ≤ 255 ∧ c.nodes.length ≤ 5 ∧ c.walks.length ≤ 6) ∧ (∀ z ∈ c.nodes, 1 ≤ z ∧ z ≤ 1000) ∧ ∀ w ∈ c.walks, w.length ≤ 2000 ∧ ∀ s ∈ w, 1 ≤ s.1 ∧ s.1 ≤ 1099511627776 := by
  unfold mayC at h
  rw [Bool.and_eq_true, Bool.and_eq_true] at h
  obtain ⟨⟨h1, h2⟩, h3⟩ := h
  refine ⟨of_decide_eq_true h1, fun z hz => of_decide_eq_true (List.all_eq_true.1 h2 z hz), fun w hw => ?_⟩
  have := List.all_eq_true.1 h3 w hw
  rw [Bool.and_eq_true] at this
  exact ⟨of_decide_eq_true this.1, fun s hs => of_decide_eq_true (List.all_eq_true.1 this.2 s hs)⟩
theorem map_id_of {α β : Type} {f : α → β} {g : β → α} {l : List α} (h : ∀ x ∈ l, g (f x) = x) : (l.map f).map g = l := by
  induction l with
  | nil => rfl
  | cons x l ih => simp only [List.map_cons, h x (List.mem_cons_self ..), ih fun y hy => h y (List.mem_cons_of_mem _ hy)]
/-- What was written as a cert is read as it was. -/
theorem dCrt0_eCrt (c : Crt) (r : List Nat) (hc : codeC c = 0) (h32 : ∀ d ∈ c.claim.w, d < 4294967296) (hx : c.claim.x < 18446744073709551616) : mayC c = true ∧ dCrt0 (eCrt c ++ r) = some (normC c, r) := by
  have hm : mayC c = true := by
    cases h : mayC c with
    | true => rfl
    | false => rw [codeC, h] at hc; simp at hc
  rw [codeC, hm] at hc
  simp only [if_true] at hc
  obtain ⟨⟨h1, h2, h3, h4⟩, h5, h6⟩ := mayC_parts hm
  refine ⟨hm, ?_⟩
  rw [eCrt]
  simp only [List.cons_append, List.append_assoc]
  rw [dCrt0, if_pos rfl]
  have e1 := eNums_inv (c.nodes.map Int.toNat) (c.walks.length :: (eWalks (c.walks.map fun w => w.map natStep) ++ (eVal c.claim ++ r))) (fun n hn => by
    obtain ⟨z, hz, rfl⟩ := List.mem_map.1 hn
    have := h5 z hz
    omega)
  rw [List.length_map] at e1
  rw [e1]
  have e2 := eWalks_inv (c.walks.map fun w => w.map natStep) (eVal c.claim ++ r) (fun w hw => by
    obtain ⟨z, hz, rfl⟩ := List.mem_map.1 hw
    have := h6 z hz
    refine ⟨by simpa using this.1, fun s hs => ?_⟩
    obtain ⟨y, hy, rfl⟩ := List.mem_map.1 hs
    have h7 := this.2 y hy
    obtain ⟨t, b⟩ := y
    simp only at h7
    cases b <;> simp [ofStep, natStep] <;> omega)
  rw [List.length_map] at e2
  simp only [e2, dVal_eVal c.claim r hc h32 hx]
  have e3 : (c.nodes.map Int.toNat).map Int.ofNat = c.nodes := map_id_of fun z hz => by have := h5 z hz; simp; omega
  have e4 : (c.walks.map fun w => w.map natStep).map (fun w => w.map intStep) = c.walks := map_id_of fun w hw => map_id_of fun s hs => by
    have := (h6 w hw).2 s hs
    obtain ⟨t, b⟩ := s
    simp only at this
    simp [natStep, intStep]; omega
  rw [e3, e4, show ((c.conj.toNat : Nat) : Int) = c.conj by omega]
  rfl
theorem dCrt0_less {bs : List Nat} {y : Nat} {c : Crt} (h : dCrt0 (bs ++ [y]) = some (c, [])) : ∀ d, dCrt0 bs = some (d, []) → False := by
  intro d hd
  have := dCrt0_app [y] hd
  rw [h] at this
  simp at this
theorem eCrt_six (c : Crt) (hc : codeC c = 0) : 6 ≤ (eCrt c).length := by
  have hm : mayC c = true := by
    cases h : mayC c with
    | true => rfl
    | false => rw [codeC, h] at hc; simp at hc
  rw [eCrt]
  have : 2 ≤ (eVal c.claim).length := by
    unfold eVal
    rw [List.length_cons]
    split
    · unfold eNat; split <;> simp
    · split
      · simp
      · simp [eOct]
  simp only [List.length_cons, List.length_append]
  omega
end Go.Proofs.Ytnamcghcgcknpaa
