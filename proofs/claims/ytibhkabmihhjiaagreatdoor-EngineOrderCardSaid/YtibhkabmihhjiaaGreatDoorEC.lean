/-
  The reckoner's loads and stores are the world's.
-/
import Derived.Test.YtibhkabmihhjiaaGreatDoorEB
import Derived.Deep.MidRow
namespace Go.Proofs.YtibhkabmihhjiaaGreatDoor
open Go Go.RowKit
set_option linter.unusedVariables false
set_option linter.unusedSimpArgs false
namespace Ev
variable {P : Program}
/-! ### Frames -/
structure ActR (ρ : Pl) (n : Nat) (a : Env) (A : Act) : Prop where
  tmp : ∀ t v, a.get t = some v → ∃ v', A.tmps[t]? = some v' ∧ Rel ρ v v'
  defers : A.defers = []
  size : n ≤ A.tmps.size
theorem ActR.mono {ρ ρ' : Pl} (hl : ρ.le ρ') {n : Nat} {a : Env} {A : Act} (h : ActR ρ n a A) : ActR ρ' n a A :=
  ⟨fun t v ht => by obtain ⟨v', h1, h2⟩ := h.tmp t v ht; exact ⟨v', h1, h2.mono hl⟩, h.defers, h.size⟩
theorem evO_rel {ρ : Pl} {n : Nat} {a : Env} {A : Act} (h : ActR ρ n a A) {x : Operand} {v : Value} (hv : evO a x = some v) : Rel ρ v (A.eval x) := by
  cases x with
  | tmp t =>
    obtain ⟨v', h1, h2⟩ := h.tmp t v hv
    have : A.eval (.tmp t) = v' := by simp [Act.eval, h1]
    rw [this]
    exact h2
  | const c =>
    simp only [evO] at hv
    split at hv
    · next hc =>
      injection hv with hv
      subst hv
      exact Rel.const ρ hc
    · cases hv
  | global g => cases hv
  | func f =>
    simp only [evO, Option.some.injEq] at hv
    subst hv
    exact .func f .nil .nil
theorem evOs_rel {ρ : Pl} {n : Nat} {a : Env} {A : Act} (h : ActR ρ n a A) : ∀ {l : List Operand} {vs : List Value}, evOs a l = some vs → Rels ρ vs (l.map A.eval)
  | [], vs, hv => by
    simp only [evOs, Option.some.injEq] at hv
    subst hv
    exact .nil
  | o :: os, vs, hv => by
    simp only [evOs] at hv
    split at hv
    · cases hv
    · next v h1 =>
      split at hv
      · cases hv
      · next ws h2 =>
        injection hv with hv
        subst hv
        exact .cons (evO_rel h h1) (evOs_rel h h2)
theorem ActR.put {ρ : Pl} {n : Nat} {a : Env} {A : Act} (h : ActR ρ n a A) {d : Nat} (hd : d < n) {v v' : Value} (hr : Rel ρ v v') : ActR ρ n (a.set d v) (A.put (some d) v') := by
  refine ⟨fun t u ht => ?_, h.defers, by simpa [Act.put] using h.size⟩
  rw [Tr.get_set] at ht
  have hs := h.size
  by_cases e : t = d
  · subst e
    rw [if_pos rfl] at ht
    injection ht with ht
    subst ht
    exact ⟨v', by simp [Act.put, Array.getElem?_setIfInBounds]; omega, hr⟩
  · rw [if_neg e] at ht
    obtain ⟨u', h1, h2⟩ := h.tmp t u ht
    exact ⟨u', by rw [← h1]; simp only [Act.put, Array.getElem?_setIfInBounds]; rw [if_neg (fun h => e (Eq.symm h))], h2⟩
/-! ### Loads -/
theorem isRow_eq (d : TypeDesc) : d.isRow = isAggD d := by cases d <;> rfl
theorem cell_of {w : World} {c : Nat} {ca : Array Value} {e : TypeId} {fz : Nat × Nat} (h : w.heap[c]? = some (.cells ca e fz)) (o : Nat) : w.cell? ⟨c, o, none⟩ = ca[o]? := by
  simp [World.cell?, h]
theorem frozen_of {w : World} {c : Nat} {ca : Array Value} {e : TypeId} {fz : Nat × Nat} (h : w.heap[c]? = some (.cells ca e fz)) (ht : Thawed fz ca.size) {o : Nat} (ho : o < ca.size) : w.frozen? ⟨c, o, none⟩ = false := by
  unfold Thawed at ht
  simp [World.frozen?, h]
  omega
theorem take_get {α : Type} {l : List α} {n i : Nat} {x : α} (h : (l.take n)[i]? = some x) : l[i]? = some x := by
  rw [List.getElem?_take] at h
  split at h
  · exact h
  · cases h
theorem range_of {w : World} {c : Nat} {ca : Array Value} {e : TypeId} {fz : Nat × Nat} (h : w.heap[c]? = some (.cells ca e fz)) (o n : Nat) : w.rangeAt c o ((ca.toList.drop o).take n) := fun j v hv => by
  rw [cell_of h]
  have := take_get hv
  rw [List.getElem?_drop] at this
  simpa using this
/-- A load of a row of cells. -/
theorem cells_part {vs cs : List Value} {ρ : Pl} (h : Rels ρ vs (cs.take vs.length)) {o n : Nat} (hl : ((vs.drop o).take n).length = n) : Rels ρ ((vs.drop o).take n) ((cs.drop o).take n) := by
  have h1 := (h.drop o).take n
  have h2 : ((cs.take vs.length).drop o).take n = (cs.drop o).take n := by
    rw [List.drop_take, List.take_take]
    congr 1
    rw [List.length_take, List.length_drop] at hl
    omega
  rwa [h2] at h1
theorem cells_len {vs cs : List Value} (hle : vs.length ≤ cs.length) {o n : Nat} (hl : ((vs.drop o).take n).length = n) : ((cs.drop o).take n).length = n := by
  rw [List.length_take, List.length_drop] at *
  omega
theorem loadA_sound {w0 : Base} {w : World} {ρ : Pl} {σ : St} (hs : Sim w0 ρ σ w) {b c k : Nat} (hb : ρ b = some (c, k)) {t : TypeId} {o : Nat} {v : Value} (h : loadA P σ t ⟨b, o, none⟩ = some v) :
    ∃ v', (loadVar t ⟨c, o, none⟩).run P w = .ok v' w ∧ Rel ρ v v' := by
  unfold loadA at h
  have hob := hs.ob b c k hb
  cases hg : σ.heap.get b with
  | none => simp [hg] at h
  | some ob =>
    cases ob with
    | dead => simp [hg] at h
    | map es => simp [hg] at h
    | cells vs e g =>
      rw [hg] at hob
      obtain ⟨ca, fz, h1, h2, h3, h4, h5⟩ := hob
      simp only [hg] at h
      split at h
      · cases h
      · next d hd =>
        split at h
        · next ha =>
          obtain ⟨v', h6, h7⟩ := h3.get o h
          have h6 := take_get h6
          refine ⟨v', ?_, h7⟩
          have hc : w.cell? ⟨c, o, none⟩ = some v' := by rw [cell_of h1]; simpa using h6
          have hag : (isAgg t).run P w = .ok false w := by
            unfold isAgg
            rw [Sem.run_bind, run_underlying hd w]
            cases d <;> simp_all [isAggD]
          simp [loadVar, Sem.run_bind, hag, load, Sem.run, hc]
        · next ha =>
          split at h
          · cases h
          · next i hi =>
            split at h
            · next hl =>
              injection h with h
              subst h
              refine ⟨.agg ((ca.toList.drop o).take i.size).toArray, ?_, .agg ?_⟩
              · exact run_loadVar_mid w c o t _ d (range_of h1 o i.size) hd (by rw [isRow_eq]; exact ha) (by rw [hi, cells_len (by simpa using h2) hl]; rfl)
              · simpa using cells_part h3 hl
            · cases h
theorem cellsA_sound {w0 : Base} {w : World} {ρ : Pl} {σ : St} (hs : Sim w0 ρ σ w) {b c k : Nat} (hb : ρ b = some (c, k)) {o n : Nat} {sp : Option Nat} {l : List Value} (h : cellsA σ ⟨b, o, sp⟩ n = some l) :
    ∃ l' : List Value, (loadCells ⟨c, o, none⟩ n).run P w = .ok l'.toArray w ∧ Rels ρ l l' ∧ l.length = n := by
  unfold cellsA at h
  have hob := hs.ob b c k hb
  cases hg : σ.heap.get b with
  | none => simp [hg] at h
  | some ob =>
    cases ob with
    | dead => simp [hg] at h
    | map es => simp [hg] at h
    | cells vs e g =>
      rw [hg] at hob
      obtain ⟨ca, fz, h1, h2, h3, h4, h5⟩ := hob
      simp only [hg] at h
      split at h
      · next hl =>
        injection h with h
        subst h
        have hl' := cells_len (cs := ca.toList) (by simpa using h2) hl
        refine ⟨(ca.toList.drop o).take n, ?_, cells_part h3 hl, hl⟩
        have := run_loadCells_list (P := P) w ⟨c, o, none⟩ ((ca.toList.drop o).take n) (fun j v hv => by rw [Addr.add_mid]; exact range_of h1 o n j v hv)
        rw [hl'] at this
        exact this
      · cases h
/-! ### Stores -/
theorem set_take {α : Type} {l : List α} {n : Nat} {v : α} (h : n < l.length) : (l.set n v).take (n + 1) = l.take n ++ [v] := by
  rw [List.take_add_one, List.getElem?_set_self h, List.take_set_of_le (Nat.le_refl _)]
  rfl
theorem set_drop {α : Type} {l : List α} {n m : Nat} {v : α} (h : n < m) : (l.set n v).drop m = l.drop m := List.drop_set_of_lt h
theorem run_store1 {w : World} {p : Addr} {u v : Value} (hc : w.cell? p = some u) (hf : w.frozen? p = false) (ho : Ev.oneC v = true) : (store p v).run P w = .ok () (w.setCell p v) := by
  cases v <;> first | (simp [Ev.oneC] at ho; done) | simp [store, Sem.run, hc, hf]
theorem run_storeC {c o : Nat} {e : TypeId} {fz : Nat × Nat} : ∀ (vs : List Value) (i : Nat) (ca : Array Value) (w : World), w.heap[c]? = some (.cells ca e fz) → Thawed fz ca.size → o + i + vs.length ≤ ca.size → vs.all Ev.oneC = true →
    ∃ w' ca', (storeCells ⟨c, o, none⟩ vs i).run P w = .ok () w' ∧ Chg (fun x => x = c) w w' ∧ w'.heap[c]? = some (.cells ca' e fz) ∧ ca'.toList = ca.toList.take (o + i) ++ vs ++ ca.toList.drop (o + i + vs.length)
  | [], i, ca, w, h1, h2, h3, h4 => ⟨w, ca, by simp [storeCells], Chg.refl w, h1, by simp⟩
  | v :: vs, i, ca, w, h1, h2, h3, h4 => by
    simp only [List.all_cons, Bool.and_eq_true] at h4
    rw [List.length_cons] at h3
    have hb : w.cell? ⟨c, o + i, none⟩ = some ca[o + i] := by rw [cell_of h1, Array.getElem?_eq_getElem]
    have hst := run_store1 (P := P) hb (frozen_of h1 h2 (by omega)) h4.1
    have hh : (w.setCell ⟨c, o + i, none⟩ v).heap[c]? = some (.cells (ca.setIfInBounds (o + i) v) e fz) := by
      simp [World.setCell, Array.getElem?_modify, h1]
    obtain ⟨w', ca', k1, k2, k3, k4⟩ := run_storeC (c := c) (o := o) vs (i + 1) (ca.setIfInBounds (o + i) v) _ hh (by simpa using h2) (by simp; omega) h4.2
    refine ⟨w', ca', ?_, ?_, k3, ?_⟩
    · rw [storeCells, Sem.run_bind, Addr.add_mid, hst]
      exact k1
    · exact (Chg.setCell (S := fun x => x = c) (Chg.refl w) ⟨c, o + i, none⟩ v (fun _ => rfl)).trans k2
    · rw [k4]
      have e1 : (ca.setIfInBounds (o + i) v).toList = ca.toList.set (o + i) v := by simp
      have hl : o + i < ca.toList.length := by simp; omega
      rw [e1, show o + (i + 1) = o + i + 1 by omega, set_take hl, set_drop (by omega), List.length_cons, show o + i + 1 + vs.length = o + i + (vs.length + 1) by omega]
      simp
theorem splice_take {α : Type} {l x : List α} {o m : Nat} (h1 : o + x.length ≤ m) (h2 : m ≤ l.length) : (l.take o ++ x ++ l.drop (o + x.length)).take m = (l.take m).take o ++ x ++ (l.take m).drop (o + x.length) := by
  apply List.ext_getElem?
  intro i
  simp only [List.getElem?_take, List.getElem?_append, List.getElem?_drop, List.length_append, List.length_take]
  by_cases hm : i < m
  · rw [if_pos hm]
    by_cases h3 : i < o
    · rw [if_pos (by omega), if_pos (by omega), if_pos h3, if_pos (by omega), if_pos (by omega), if_pos h3, if_pos hm]
    · by_cases h4 : i < o + x.length
      · rw [if_pos (by omega), if_neg (by omega), if_pos (by omega), if_neg (by omega), show min o l.length = o by omega, show min o (min m l.length) = o by omega]
      · rw [if_neg (by omega), if_neg (by omega), show min o l.length = o by omega, show min o (min m l.length) = o by omega, if_pos (by omega)]
  · rw [if_neg hm, if_neg (by omega), if_neg (by omega)]
theorem splice_len {α : Type} {l x : List α} {o : Nat} (h1 : o + x.length ≤ l.length) : (l.take o ++ x ++ l.drop (o + x.length)).length = l.length := by
  simp only [List.length_append, List.length_take, List.length_drop]
  omega
theorem storeL_sound {w0 : Base} {w : World} {ρ : Pl} {σ σ' : St} (hs : Sim w0 ρ σ w) {b c k : Nat} (hb : ρ b = some (c, k)) {o : Nat} {sp : Option Nat} {cs cs' : List Value} (h : storeL σ ⟨b, o, sp⟩ cs = some σ') (hr : Rels ρ cs cs') :
    ∃ w', (storeCells ⟨c, o, none⟩ cs').run P w = .ok () w' ∧ Sim w0 ρ σ' w' ∧ Step ρ σ ρ σ' := by
  unfold storeL at h
  have hob := hs.ob b c k hb
  cases hg : σ.heap.get b with
  | none => simp [hg] at h
  | some ob =>
    cases ob with
    | dead => simp [hg] at h
    | map es => simp [hg] at h
    | cells vs e g =>
      rw [hg] at hob
      obtain ⟨ca, fz, h1, h2, h3, h4, h5⟩ := hob
      simp only [hg] at h
      split at h
      · next hle =>
        split at h
        · next hone =>
          injection h with h
          subst h
          have hlen := hr.length
          obtain ⟨w', ca', k1, k2, k3, k4⟩ := run_storeC (P := P) (c := c) (o := o) cs' 0 ca w h1 h4 (by omega) (hr.oneC hone)
          rw [Nat.add_zero] at k4
          have hsz : ca'.size = ca.size := by
            have := congrArg List.length k4
            rw [splice_len (by simp; omega)] at this
            simpa using this
          have hrel : Rels ρ (vs.take o ++ cs ++ vs.drop (o + cs.length)) (ca'.toList.take (vs.take o ++ cs ++ vs.drop (o + cs.length)).length) := by
            rw [splice_len hle, k4, splice_take (by omega) (by simpa using h2), ← hlen]
            exact ((h3.take o).append hr).append (h3.drop _)
          obtain ⟨m1, m2⟩ := hs.put hb (.cells (vs.take o ++ cs ++ vs.drop (o + cs.length)) e g) ⟨_, hg, by simp⟩ k2 ⟨ca', fz, k3, by rw [splice_len hle]; omega, hrel, by rw [hsz]; exact h4, by rw [hsz]; exact h5⟩
          exact ⟨w', k1, m1, m2⟩
        · cases h
      · cases h
theorem storeA_sound {w0 : Base} {w : World} {ρ : Pl} {σ σ' : St} (hs : Sim w0 ρ σ w) {b c k : Nat} (hb : ρ b = some (c, k)) {t : TypeId} {o : Nat} {v v' : Value} (h : storeA P σ t ⟨b, o, none⟩ v = some σ') (hr : Rel ρ v v') :
    ∃ w', (storeVar t ⟨c, o, none⟩ v').run P w = .ok () w' ∧ Sim w0 ρ σ' w' ∧ Step ρ σ ρ σ' := by
  unfold storeA at h
  split at h
  · cases h
  · next i hi =>
    split at h
    · next hl =>
      have hc := hr.cells
      obtain ⟨w', h1, h2, h3⟩ := storeL_sound (P := P) hs hb h hc
      refine ⟨w', ?_, h2, h3⟩
      have hsz : v'.cells.size = i.size := by
        have := hc.length
        rw [hl] at this
        simpa using this.symm
      simp [storeVar, Sem.run_bind, sizeOf, typeInfo, hi, hsz, h1]
    · cases h
end Ev
end Go.Proofs.YtibhkabmihhjiaaGreatDoor
