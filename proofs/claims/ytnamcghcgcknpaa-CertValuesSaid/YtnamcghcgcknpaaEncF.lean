/-
  Writing a cert (chapter 24).
-/
import Derived.Test.YtnamcghcgcknpaaEncE
namespace Go.Proofs.Ytnamcghcgcknpaa
open Go.RowKit
set_option linter.unusedVariables false

theorem eNum_short (n : Nat) : ∀ k : Nat, 0 < k → n < 128 ^ k → (eNum n).length ≤ k := by
  induction n using Nat.strongRecOn with
  | ind n ih =>
    intro k hk hn
    by_cases h : n < 128
    · rw [eNum_small h]; simp; omega
    · rw [eNum_big h, List.length_cons]
      match k, hk, hn with
      | 1, _, hn => simp at hn; omega
      | k + 2, _, hn =>
        have := ih (n / 128) (by omega) (k + 1) (by omega) (by rw [show k + 2 = (k + 1) + 1 by rfl, Nat.pow_succ] at hn; omega)
        omega
theorem eNum_nine {n : Nat} (h : n < 9223372036854775808) : (eNum n).length ≤ 9 := eNum_short n 9 (by omega) (by simpa using h)
theorem eNums_le (l : List Nat) (h : ∀ n ∈ l, n < 9223372036854775808) : (eNums l).length ≤ 9 * l.length := by
  induction l with
  | nil => simp [eNums]
  | cons n l ih =>
    have h1 := eNum_nine (h n (List.mem_cons_self ..))
    have h2 := ih (fun m hm => h m (List.mem_cons_of_mem _ hm))
    simp only [eNums, List.length_append, List.length_cons]; omega
theorem eWalk_le (l : List (Nat × Bool)) (h0 : l.length ≤ 2000) (h : ∀ s ∈ l, ofStep s < 9223372036854775808) : (eWalk l).length ≤ 18009 := by
  have h1 := eNums_le (l.map ofStep) (fun n hn => by obtain ⟨s, hs, rfl⟩ := List.mem_map.1 hn; exact h s hs)
  have h2 := eNum_nine (show l.length < 9223372036854775808 by omega)
  rw [List.length_map] at h1
  simp only [eWalk, List.length_append]; omega
theorem eWalks_le (l : List (List (Nat × Bool))) (h : ∀ w ∈ l, w.length ≤ 2000 ∧ ∀ s ∈ w, ofStep s < 9223372036854775808) : (eWalks l).length ≤ 18009 * l.length := by
  induction l with
  | nil => simp [eWalks]
  | cons n l ih =>
    have h0 := h n (List.mem_cons_self ..)
    have h1 := eWalk_le n h0.1 h0.2
    have h2 := ih (fun m hm => h m (List.mem_cons_of_mem _ hm))
    simp only [eWalks, List.length_append, List.length_cons]; omega
theorem eWalks_app (a b : List (List (Nat × Bool))) : eWalks (a ++ b) = eWalks a ++ eWalks b := by
  induction a with
  | nil => rfl
  | cons n l ih => simp [eWalks, ih]
theorem mayC_facts {c : Crt} (h : mayC c = true) : (0 ≤ c.conj ∧ c.conj ≤ 255 ∧ c.nodes.length ≤ 5 ∧ c.walks.length ≤ 6) ∧ (∀ z ∈ c.nodes, 1 ≤ z ∧ z ≤ 1000) ∧ ∀ w ∈ c.walks, w.length ≤ 2000 ∧ ∀ s ∈ w, 1 ≤ s.1 ∧ s.1 ≤ 1099511627776 := by
  rw [mayC_eq, Bool.and_eq_true, Bool.and_eq_true] at h
  obtain ⟨⟨h1, h2⟩, h3⟩ := h
  refine ⟨of_decide_eq_true h1, fun z hz => of_decide_eq_true (List.all_eq_true.1 h2 z hz), fun w hw => ?_⟩
  have := List.all_eq_true.1 h3 w hw
  rw [okW, Bool.and_eq_true] at this
  exact ⟨of_decide_eq_true this.1, fun s hs => of_decide_eq_true (List.all_eq_true.1 this.2 s hs)⟩
theorem news3 (w : World) (a b c : Int) (t : Nat) (j : Nat) (u : Value) (h : [Value.int .u8 a, .int .u8 b, .int .u8 c][j]? = some u) :
    (w.alloc (.cells #[.int .u8 a, .int .u8 b, .int .u8 c] t)).cell? ((⟨w.heap.size, 0, none⟩ : Addr).add j) = some u := by
  match j, h with
  | 0, h => simpa [go_sem] using h
  | 1, h => simpa [go_sem] using h
  | 2, h => simpa [go_sem] using h
/-- What is written up to here: L; the claim's bytes lie ready. -/
structure OutSt (w wr : World) (cs : Array Value) (v : Value) (L : List Nat) (cv : Value) (C : List Nat) : Prop where
  ext : Ext w wr
  box : Blk wr w.heap.size cs 33
  own : wr.ownsRow (w.heap.size + 1) 5 1 v L.length (byteCells L)
  claim : wr.ownsRow (w.heap.size + 1) 5 1 cv C.length (byteCells C)
  apart : ∀ g, cv.ownBlock = some g → v.ownBlock ≠ some g
theorem OutSt.more {w wr w2 : World} {cs : Array Value} {v cv : Value} {L C : List Nat} (h : OutSt w wr cs v L cv C) (k : Ext wr w2) : OutSt w w2 cs v L cv C :=
  ⟨h.ext.trans k, h.box.chg k (fun h => h), own_low h.own k (fun _ _ h => h), own_low h.claim k (fun _ _ h => h), h.apart⟩
theorem OutSt.grow {w w2 w' : World} {cs : Array Value} {v cv v' : Value} {L C M : List Nat} (h : OutSt w w2 cs v L cv C) (u1 : w'.ownsRow (w.heap.size + 1) 5 1 v' (L.length + M.length) (byteCells L ++ byteCells M)) (u2 : w2.grownBy w' v.ownBlock) (u3 : ∀ g, v'.ownBlock = some g → v.ownBlock = some g ∨ w2.heap.size ≤ g) : OutSt w w' cs v' (L ++ M) cv C := by
  have hc := Chg.of_grown u2
  refine ⟨ext_grow0 h.ext (ownsRow_base h.own (by omega)) u2, h.box.chg hc (fun hs => by have := (h.own.lt _ hs.symm).1; omega), ?_, own_chg h.claim hc (fun g hg hs => h.apart g hg hs.symm), fun g hg hv => ?_⟩
  · rw [List.length_append, bcells_app]; exact u1
  · rcases u3 g hv with h1 | h1
    · exact h.apart g hg h1
    · have := (h.claim.lt g hg).2; omega
theorem eVal_le {v : Val} (h : codeV v = 0) : (eVal v).length ≤ 300 := by
  unfold eVal
  rw [List.length_cons]
  by_cases h13 : v.sem = 1 ∨ v.sem = 3
  · rw [if_pos h13]
    unfold codeV at h
    by_cases hm : mayV v = 0
    · rw [if_pos hm] at h
      have hle : v.inf = true ∨ v.w.length ≤ 64 := by
        by_cases hc : (v.sem = 1 ∨ v.sem = 3) ∧ v.inf = false ∧ 64 < v.w.length
        · rw [if_pos hc] at h; exact absurd h (by decide)
        · cases hi : v.inf with
          | true => exact .inl rfl
          | false => exact .inr (Nat.not_lt.1 fun h4 => hc ⟨h13, hi, h4⟩)
      rcases hle with hi | hl
      · simp [eNat, hi]
      · have := eNat_le (v.inf, v.w) hl
        omega
    · rw [if_neg hm] at h; exact absurd h hm
  · rw [if_neg h13]
    split
    · simp
    · simp [eOct]
def natW (w : List (Int × Bool)) : List (Nat × Bool) := w.map natStep
/-- Ahead of the walks; behind i of them. -/
def pre0 (c : Crt) (i : Nat) : List Nat := 67 :: c.conj.toNat :: c.nodes.length :: eNums ((c.nodes.take i).map Int.toNat)
def pre1 (c : Crt) (i : Nat) : List Nat := 67 :: c.conj.toNat :: c.nodes.length :: (eNums (c.nodes.map Int.toNat) ++ (c.walks.length :: eWalks ((c.walks.take i).map natW)))
def pre2 (c : Crt) (i : Nat) (w : List (Int × Bool)) (j : Nat) : List Nat := pre1 c i ++ (eNum w.length ++ eNums ((w.take j).map fun s => ofStep (natStep s)))
theorem pre0_step {c : Crt} {i : Nat} {z : Int} (h : c.nodes[i]? = some z) : pre0 c (i + 1) = pre0 c i ++ eNum z.toNat := by
  simp only [pre0, take_snoc h, List.map_append, eNums_app, List.cons_append]
  simp [eNums]
theorem pre1_zero (c : Crt) : pre1 c 0 = pre0 c c.nodes.length ++ [c.walks.length] := by
  simp [pre0, pre1, eWalks]
theorem pre2_zero (c : Crt) (i : Nat) (w : List (Int × Bool)) : pre2 c i w 0 = pre1 c i ++ eNum w.length := by
  simp [pre2, eNums]
theorem pre2_step {c : Crt} {i j : Nat} {w : List (Int × Bool)} {s : Int × Bool} (h : w[j]? = some s) : pre2 c i w (j + 1) = pre2 c i w j ++ eNum (ofStep (natStep s)) := by
  simp only [pre2, take_snoc h, List.map_append, eNums_app, List.append_assoc]
  simp [eNums]
theorem pre1_step {c : Crt} {i : Nat} {w : List (Int × Bool)} (h : c.walks[i]? = some w) : pre1 c (i + 1) = pre2 c i w w.length := by
  simp only [pre1, pre2, take_snoc h, List.map_append, eWalks_app, List.take_length, List.cons_append, List.append_assoc]
  simp [eWalks, eWalk, natW, Function.comp_def]
theorem pre_end (c : Crt) : pre1 c c.walks.length ++ eVal c.claim = eCrt c := by
  simp only [pre1, eCrt, List.take_length, List.cons_append, List.append_assoc]
  rfl
theorem natStep_lt {s : Int × Bool} (h : 1 ≤ s.1 ∧ s.1 ≤ 1099511627776) : ofStep (natStep s) < 9223372036854775808 := by
  obtain ⟨t, b⟩ := s
  simp only at h
  cases b <;> simp [ofStep, natStep] <;> omega
theorem pre0_le {c : Crt} (h : mayC c = true) (i : Nat) : (pre0 c i).length ≤ 100 := by
  obtain ⟨h1, h2, -⟩ := mayC_facts h
  have := eNums_le ((c.nodes.take i).map Int.toNat) (fun n hn => by
    obtain ⟨z, hz, rfl⟩ := List.mem_map.1 hn
    have := h2 z (List.mem_of_mem_take hz)
    omega)
  simp only [List.length_map, List.length_take] at this
  simp only [pre0, List.length_cons]
  omega
theorem pre1_le {c : Crt} (h : mayC c = true) (i : Nat) : (pre1 c i).length ≤ 200000 := by
  obtain ⟨h1, h2, h3⟩ := mayC_facts h
  have e1 := eNums_le (c.nodes.map Int.toNat) (fun n hn => by
    obtain ⟨z, hz, rfl⟩ := List.mem_map.1 hn
    have := h2 z hz
    omega)
  have e2 := eWalks_le ((c.walks.take i).map natW) (fun w hw => by
    obtain ⟨z, hz, rfl⟩ := List.mem_map.1 hw
    have := h3 z (List.mem_of_mem_take hz)
    refine ⟨by simpa [natW] using this.1, fun s hs => ?_⟩
    obtain ⟨y, hy, rfl⟩ := List.mem_map.1 hs
    exact natStep_lt (this.2 y hy))
  simp only [List.length_map, List.length_take] at e1 e2
  simp only [pre1, List.length_cons, List.length_append]
  omega
theorem pre2_le {c : Crt} (h : mayC c = true) (i : Nat) {w : List (Int × Bool)} (hw : w ∈ c.walks) (j : Nat) : (pre2 c i w j).length ≤ 300000 := by
  obtain ⟨h1, h2, h3⟩ := mayC_facts h
  have h4 := h3 w hw
  have e0 := pre1_le h i
  have e1 := eNums_le ((w.take j).map fun s => ofStep (natStep s)) (fun n hn => by
    obtain ⟨z, hz, rfl⟩ := List.mem_map.1 hn
    exact natStep_lt (h4.2 z (List.mem_of_mem_take hz)))
  have e2 := eNum_nine (show w.length < 9223372036854775808 by omega)
  simp only [List.length_map, List.length_take] at e1
  simp only [pre2, List.length_append]
  omega
end Go.Proofs.Ytnamcghcgcknpaa
