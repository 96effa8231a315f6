/-
  Regions that draw their order: dependencies; what is made.
-/
import Derived.Test.YtibhkabmihhjiaaGreatDoorEO
namespace Go.Proofs.YtibhkabmihhjiaaGreatDoor
open Go Go.RowKit
set_option linter.unusedVariables false
set_option linter.unusedSimpArgs false
namespace Ev
variable {P : Program}
/-! ### Dependencies -/
def maskVal (acc : List Nat) (o : Oper) : Nat := (depsOf o).foldl (fun s j => s ||| 2 ^ j ||| acc.getD j 0) 0
theorem fold_pre : ∀ (r : List Oper) (acc : List Nat), ∃ s, r.foldl maskStep acc = acc ++ s ∧ s.length = r.length
  | [], acc => ⟨[], by simp, rfl⟩
  | o :: r, acc => by
    obtain ⟨s, h1, h2⟩ := fold_pre r (maskStep acc o)
    refine ⟨maskVal acc o :: s, ?_, by simp [h2]⟩
    rw [List.foldl_cons, h1]
    simp [maskStep, maskVal]
theorem mask_at {L : List Oper} {j : Nat} {o : Oper} (h : L[j]? = some o) : (masksOf L).getD j 0 = maskVal (masksOf (L.take j)) o ∧ ∀ d, d < j → (masksOf (L.take j)).getD d 0 = (masksOf L).getD d 0 := by
  obtain ⟨hj, rfl⟩ := List.getElem?_eq_some_iff.1 h
  have e : L = L.take j ++ L[j] :: L.drop (j + 1) := by rw [← List.drop_eq_getElem_cons hj, List.take_append_drop]
  have hlen : (masksOf (L.take j)).length = j := by
    obtain ⟨s, h1, h2⟩ := fold_pre (L.take j) []
    unfold masksOf
    rw [h1]
    simp [h2]
    omega
  obtain ⟨s, h1, h2⟩ := fold_pre (L.drop (j + 1)) (masksOf (L.take j) ++ [maskVal (masksOf (L.take j)) L[j]])
  have hm : masksOf L = masksOf (L.take j) ++ [maskVal (masksOf (L.take j)) L[j]] ++ s := by
    rw [← h1]
    conv => lhs; rw [e]
    unfold masksOf
    rw [List.foldl_append, List.foldl_cons]
    rfl
  rw [hm]
  refine ⟨?_, fun d hd => ?_⟩
  · simp [List.getD, List.getElem?_append, hlen]
  · simp only [List.getD, List.append_assoc]
    rw [List.getElem?_append_left (by omega)]
theorem mask_bit (acc : List Nat) (i : Nat) : ∀ (ds : List Nat) (s : Nat), Nat.testBit (ds.foldl (fun s j => s ||| 2 ^ j ||| acc.getD j 0) s) i = true ↔ Nat.testBit s i = true ∨ ∃ d ∈ ds, i = d ∨ Nat.testBit (acc.getD d 0) i = true
  | [], s => by simp
  | d :: ds, s => by
    rw [List.foldl_cons, mask_bit acc i ds]
    simp only [Nat.testBit_or, Nat.testBit_two_pow, Bool.or_eq_true, decide_eq_true_eq, List.mem_cons, exists_eq_or_imp]
    constructor
    · rintro (((h | h) | h) | h)
      · exact .inl h
      · exact .inr (.inl (.inl h.symm))
      · exact .inr (.inl (.inr h))
      · exact .inr (.inr h)
    · rintro (h | (h | h) | h)
      · exact .inl (.inl (.inl h))
      · exact .inl (.inl (.inr h.symm))
      · exact .inl (.inr h)
      · exact .inr h
/-- i comes ahead of j. -/
def Anc (L : List Oper) (i j : Nat) : Prop := Nat.testBit ((masksOf L).getD j 0) i = true
theorem anc_dep {L : List Oper} {i j : Nat} (h : Anc L i j) (hlow : ∀ o, L[j]? = some o → ∀ d ∈ depsOf o, d < j) : ∃ o, L[j]? = some o ∧ ∃ d ∈ depsOf o, i = d ∨ Anc L i d := by
  cases hj : L[j]? with
  | none =>
    exfalso
    unfold Anc at h
    have hlen : (masksOf L).length = L.length := by
      obtain ⟨s, h1, h2⟩ := fold_pre L []
      unfold masksOf
      rw [h1]
      simpa using h2
    have : L.length ≤ j := List.getElem?_eq_none_iff.1 hj
    rw [List.getD, List.getElem?_eq_none (by omega)] at h
    simp at h
  | some o =>
    obtain ⟨h1, h2⟩ := mask_at hj
    unfold Anc at h
    rw [h1, maskVal, mask_bit] at h
    rcases h with h | ⟨d, hd, hi⟩
    · simp at h
    · refine ⟨o, rfl, d, hd, ?_⟩
      rcases hi with hi | hi
      · exact .inl hi
      · exact .inr (by unfold Anc; rw [← h2 d (hlow o hj d hd)]; exact hi)
theorem dep_anc {L : List Oper} {j : Nat} {o : Oper} (hj : L[j]? = some o) {d : Nat} (hd : d ∈ depsOf o) : Anc L d j := by
  obtain ⟨h1, h2⟩ := mask_at hj
  unfold Anc
  rw [h1, maskVal, mask_bit]
  exact .inr ⟨d, hd, .inl rfl⟩
/-- Of each of its members the set holds what that one depends on. -/
def Closed (L : List Oper) (X : Nat → Prop) : Prop := ∀ i o, X i → L[i]? = some o → ∀ d ∈ depsOf o, X d
structure RegF (n : Nat) (L : List Oper) : Prop where
  fit : ∀ (i : Nat) (o : Oper), L[i]? = some o → fits n o.dst = true
  grd : ∀ (i : Nat) (o : Oper) (g : Nat) (b : Bool), L[i]? = some o → o.guard = some (g, b) → g ∈ depsOf o
  low : ∀ (i : Nat) (o : Oper), L[i]? = some o → ∀ d ∈ depsOf o, d < i
  once : ∀ (i : Nat) (o : Oper) (t : Tmp), L[i]? = some o → o.dst = some t → writerOf t L 0 = some i
  ord : ∀ (j : Nat) (o : Oper) (t : Tmp) (i : Nat), L[j]? = some o → t ∈ tmpsOf o → writerOf t L 0 = some i → i = j ∨ Anc L i j ∨ Anc L j i
theorem anc_closed {n : Nat} {L : List Oper} (hf : RegF n L) {X : Nat → Prop} (hc : Closed L X) : ∀ (j : Nat) {i : Nat}, X j → Anc L i j → X i := by
  intro j
  induction j using Nat.strongRecOn with
  | _ j ih =>
    intro i hj ha
    obtain ⟨o, ho, d, hd, h⟩ := anc_dep ha (fun o ho => hf.low j o ho)
    have hX := hc j o hj ho d hd
    rcases h with rfl | h
    · exact hX
    · exact ih d (hf.low j o ho d hd) hX h
theorem anc_ready {n : Nat} {L : List Oper} (hf : RegF n L) {X : Nat → Prop} (hc : Closed L X) {j i : Nat} {o : Oper} (ho : L[j]? = some o) (hr : ∀ d ∈ depsOf o, X d) (ha : Anc L i j) : X i := by
  obtain ⟨o', ho', d, hd, h⟩ := anc_dep ha (fun o ho => hf.low j o ho)
  rw [ho] at ho'
  cases ho'
  rcases h with rfl | h
  · exact hr _ hd
  · exact anc_closed hf hc d (hr d hd) h
theorem writer_get {t : Nat} : ∀ {L : List Oper} {k i : Nat}, writerOf t L k = some i → k ≤ i ∧ ∃ o, L[i - k]? = some o ∧ o.dst = some t
  | [], k, i, h => by cases h
  | o :: L, k, i, h => by
    unfold writerOf at h
    cases hd : o.dst with
    | none =>
      rw [hd] at h
      obtain ⟨h1, o', h2, h3⟩ := writer_get h
      exact ⟨by omega, o', by rw [show i - k = (i - (k + 1)) + 1 by omega]; simpa using h2, h3⟩
    | some d =>
      rw [hd] at h
      simp only at h
      split at h
      · next hb =>
        injection h with h
        subst h
        have := Nat.eq_of_beq_eq_true hb
        exact ⟨Nat.le_refl _, o, by simp, by rw [hd, this]⟩
      · obtain ⟨h1, o', h2, h3⟩ := writer_get h
        exact ⟨by omega, o', by rw [show i - k = (i - (k + 1)) + 1 by omega]; simpa using h2, h3⟩
theorem writer_none {t : Nat} : ∀ {L : List Oper} {k : Nat}, writerOf t L k = none → ∀ o ∈ L, o.dst ≠ some t
  | [], k, h, o, ho => by cases ho
  | x :: L, k, h, o, ho => by
    unfold writerOf at h
    cases hd : x.dst with
    | none =>
      rw [hd] at h
      rcases List.mem_cons.1 ho with rfl | ho
      · rw [hd]; simp
      · exact writer_none h o ho
    | some d =>
      rw [hd] at h
      simp only at h
      split at h
      · cases h
      · next hb =>
        rcases List.mem_cons.1 ho with rfl | ho
        · rw [hd]
          intro e
          injection e with e
          subst e
          exact hb (Nat.beq_refl _)
        · exact writer_none h o ho
theorem once_spec {t : Nat} : ∀ {L : List Oper} {k i : Nat} {o : Oper}, onceD L = true → L[i]? = some o → o.dst = some t → writerOf t L k = some (i + k)
  | [], k, i, o, h, ho, hd => by simp at ho
  | x :: L, k, 0, o, h, ho, hd => by
    simp at ho
    subst ho
    unfold writerOf
    rw [hd]
    simp
  | x :: L, k, i + 1, o, h, ho, hd => by
    simp at ho
    simp only [onceD, Bool.and_eq_true] at h
    unfold writerOf
    cases hx : x.dst with
    | none =>
      simp only
      rw [once_spec h.2 ho hd]
      congr 1
      omega
    | some d =>
      have h1 := h.1
      rw [hx] at h1
      simp only [Option.isNone_iff_eq_none] at h1
      have hne := writer_none h1 o (List.mem_of_getElem? ho)
      simp only
      rw [if_neg (fun e => hne (by rw [hd, Nat.eq_of_beq_eq_true e])), once_spec h.2 ho hd]
      congr 1
      omega
theorem ordered_spec {ops : List Oper} {ms : List Nat} : ∀ {L : List Oper} {k j : Nat} {o : Oper}, orderedD ops ms L k = true → L[j]? = some o → ∀ t ∈ tmpsOf o, ∀ i, writerOf t ops 0 = some i → i = j + k ∨ Nat.testBit (ms.getD (j + k) 0) i = true ∨ Nat.testBit (ms.getD i 0) (j + k) = true
  | [], k, j, o, h, ho => by simp at ho
  | x :: L, k, 0, o, h, ho => by
    simp at ho
    subst ho
    intro t ht i hi
    simp only [orderedD, Bool.and_eq_true, List.all_eq_true] at h
    have := h.1 t ht
    rw [hi] at this
    simp only [Bool.or_eq_true] at this
    rw [Nat.zero_add]
    rcases this with (h1 | h1) | h1
    · exact .inl (Nat.eq_of_beq_eq_true h1)
    · exact .inr (.inl h1)
    · exact .inr (.inr h1)
  | x :: L, k, j + 1, o, h, ho => by
    simp at ho
    simp only [orderedD, Bool.and_eq_true] at h
    have := ordered_spec h.2 ho
    rw [show j + (k + 1) = j + 1 + k by omega] at this
    exact this
theorem regOk_spec {n : Nat} {L : List Oper} (h : regOk n L = true) : RegF n L := by
  unfold regOk at h
  simp only [Bool.and_eq_true, List.all_eq_true] at h
  obtain ⟨⟨⟨h1, h2⟩, h3⟩, h4⟩ := h
  refine ⟨fun i o ho => (h1 o (List.mem_of_getElem? ho)).1, fun i o g b ho hg => ?_, fun i o ho d hd => ?_, fun i o t ho hd => by simpa using once_spec (k := 0) h3 ho hd, fun j o t i ho ht hi => ?_⟩
  · have := (h1 o (List.mem_of_getElem? ho)).2
    rw [hg] at this
    simp only [List.any_eq_true] at this
    obtain ⟨j, hj, e⟩ := this
    rw [← Nat.eq_of_beq_eq_true e]
    exact hj
  · have := h2 (o, i) (List.mem_iff_getElem?.2 ⟨i, by simp [List.getElem?_zipIdx, ho]⟩) d hd
    simpa using this
  · have := ordered_spec h4 ho t ht i hi
    simpa [Anc] using this
/-! ### What an operation makes -/
def Fresh (ρ : Pl) : Ob → Obj → Prop
  | .cells vs e _, oc => ∃ ca, oc = .cells ca e ∧ Rels ρ vs ca.toList
  | .map _, oc => oc = .map #[] 0
  | .dead, _ => False
/-- An object as it is made. -/
def Clean : Ob → Prop
  | .cells _ _ g => g = 0
  | .map es => es = []
  | .dead => False
/-- An operation that makes an object of its own, whatever the world. -/
def Made (P : Program) (a : Env) (o : Oper) (b : Nat) (ob : Ob) (v : Value) : Prop :=
  ∀ {w0 : Base} {w : World} {ρ : Pl} {σ : St} {n : Nat} {A : Act}, Sim w0 ρ σ w → ActR ρ n a A → ∃ v' oc, (execOp A.eval o).run P w = .ok (.value v') (w.alloc oc) ∧ Fresh ρ ob oc ∧ ∀ ρ' : Pl, ρ' b = some (w.heap.size, 0) → Rel ρ' v v'
def makes : Op → Bool
  | .alloc _ | .box .. | .buildSlice .. | .makeSlice .. | .makeMap _ none => true
  | _ => false
theorem made_of {σ : St} {a : Env} {o : Oper} (hm : makes o.op = true) {v : Value} {σ' : St} (h : opA P σ a o.op = some (.val v σ')) : ∃ ob, σ' = σ.new ob ∧ Clean ob ∧ Made P a o σ.next ob v := by
  obtain ⟨dst, op, ty', pos, af, gd⟩ := o
  cases op <;> first | (cases hm; done) | skip
  case alloc e =>
    simp only [opA] at h
    obtain ⟨z, hz, h1⟩ := map_some h
    simp only [ptrNew, OR.val.injEq] at h1
    obtain ⟨rfl, rfl⟩ := h1
    obtain ⟨i, h1, h2, h3⟩ := zeroA_spec hz
    refine ⟨_, rfl, rfl, fun {w0 w ρ σ n A} hs ha => ⟨.pointer (some ⟨w.heap.size, 0, none⟩), .cells z.cells e, run_v ?_, ⟨_, rfl, Rel.cells (Rel.const ρ h3)⟩, fun ρ' h => .ptr 0 h⟩⟩
    simp [Instr.alloc, zeroValue, typeInfo, h1, h2, newVar, newRow]
  case box e x =>
    simp only [opA] at h
    obtain ⟨u, hu, h1⟩ := map_some h
    simp only [ptrNew, OR.val.injEq] at h1
    obtain ⟨rfl, rfl⟩ := h1
    refine ⟨_, rfl, rfl, fun {w0 w ρ σ n A} hs ha => ⟨.pointer (some ⟨w.heap.size, 0, none⟩), .cells (A.eval x).cells e, run_v ?_, ⟨_, rfl, Rel.cells (evO_rel ha hu)⟩, fun ρ' h => .ptr 0 h⟩⟩
    simp [Instr.box, newVar, newRow]
  case buildSlice t m ps =>
    simp only [opA] at h
    split at h
    · next e vs hd hvs =>
      split at h
      · next i hi =>
        split at h
        · next z hz =>
          obtain ⟨i', hi', hiz, hpc⟩ := zeroA_spec hz
          rw [hi] at hi'
          injection hi' with hi'
          subst hi'
          split at h
          · next hle =>
            split at h
            · next hzl =>
              obtain ⟨l, hl, h1⟩ := map_some h
              simp only [OR.val.injEq] at h1
              obtain ⟨rfl, rfl⟩ := h1
              refine ⟨_, rfl, rfl, fun {w0 w ρ σ n A} hs ha => ?_⟩
              have hzs : z.cells.size = i.size := by rw [← hzl, cellsL_eq]; simp
              have hzr : Rels ρ (zerosL (cellsL z) m) (madeCells z.cells (m * i.size)).toList := by
                unfold madeCells
                rw [zerosL_range _ _ _ hzs]
                exact (Rel.cells (Rel.const ρ hpc)).zeros m
              obtain ⟨ca', k1, k2⟩ := fill_sound _ _ _ _ _ (madeCells z.cells (m * i.size)) (partsA_rel ha _ _ hvs) hzr hl
              refine ⟨.slice (some ⟨w.heap.size, 0, none⟩) m m, .cells ca' e, run_v ?_, ⟨_, rfl, k2⟩, fun ρ' h => .slice 0 _ _ h⟩
              have hparts : (ps.map fun (i, x) => (i, A.eval x)).toList = ps.toList.map fun p => (p.1, A.eval p.2) := by simp
              have hbig : ¬ (16777216 < m * i.size) := by omega
              unfold madeCells at k1
              by_cases hq : m * i.size = 0
              · rw [hq] at k1
                simp only [Array.range_zero', List.map_toArray, List.map_nil, Array.map_empty] at k1
                have hr0 : (Array.map (fun x => (default : Value)) (Array.range 0)) = #[] := by apply Array.ext'; simp
                simp [Instr.buildSlice, run_underlying hd, sizeOf, typeInfo, hi, hbig, hq, hparts, hr0, k1, newRow]
              · simp [Instr.buildSlice, run_underlying hd, sizeOf, typeInfo, hi, hbig, hq, hparts, zeroValue, hiz, k1, newRow]
            · cases h
          · cases h
        · cases h
      · cases h
    · cases h
  case makeSlice t l c =>
    simp only [opA] at h
    split at h
    · next e lv cv hd hlv hcv =>
      split at h
      · next m1 m2 i h1 h2 hi =>
        split at h
        · next z hz =>
          obtain ⟨i', hi', hz', hpc⟩ := zeroA_spec hz
          rw [hi] at hi'
          injection hi' with hi'
          subst hi'
          split at h
          · next c1 =>
            split at h
            · next c2 =>
              split at h
              · next c3 =>
                split at h
                · next c4 =>
                  injection h with h
                  simp only [OR.val.injEq] at h
                  obtain ⟨rfl, rfl⟩ := h
                  refine ⟨_, rfl, rfl, fun {w0 w ρ σ n A} hs ha => ?_⟩
                  have hrl := evO_rel ha hlv
                  have hrc := evO_rel ha hcv
                  generalize hul : A.eval l = ul at hrl
                  generalize huc : A.eval c = uc at hrc
                  obtain ⟨k1, rfl⟩ := natOf_spec h1
                  obtain ⟨k2, rfl⟩ := natOf_spec h2
                  cases hrl; cases hrc
                  have hzs : z.cells.size = i.size := by rw [← c4, cellsL_eq]; simp
                  have hb : (i.bytes : Int) * (m2 : Int) ≤ 281474976710656 := by
                    have : i.bytes * m2 ≤ 1000 * 100000 := Nat.mul_le_mul c3 c2
                    have : ((i.bytes * m2 : Nat) : Int) ≤ ((1000 * 100000 : Nat) : Int) := Int.ofNat_le.2 this
                    rw [Int.natCast_mul] at this
                    omega
                  have hrun := run_make (P := P) w t e i z hd hi hz' k1 k2 (m1 : Int) (m2 : Int) (by omega) (by omega) hb (by omega)
                  refine ⟨.slice (some ⟨w.heap.size, 0, none⟩) m1 m2, .cells ((Array.range (m2 * i.size)).map (fun j => z.cells[j % z.cells.size]!)) e, run_v ?_, ⟨_, rfl, ?_⟩, fun ρ' h => .slice 0 _ _ h⟩
                  · rw [hul, huc, hrun]
                    rfl
                  · rw [zerosL_range _ _ _ hzs]
                    exact (Rel.cells (Rel.const ρ hpc)).zeros m2
                · cases h
              · cases h
            · cases h
          · cases h
        · cases h
      · cases h
    · cases h
  case makeMap t r =>
    cases r with
    | some _ => cases hm
    | none =>
      simp only [opA, Option.some.injEq, OR.val.injEq] at h
      obtain ⟨rfl, rfl⟩ := h
      refine ⟨_, rfl, rfl, fun {w0 w ρ σ n A} hs ha => ⟨.map (some w.heap.size), .map #[] 0, run_v ?_, rfl, fun ρ' h => .map h⟩⟩
      simp [Instr.makeMap]
/-- What the reckoner has made ahead is made. -/
theorem Sim.place {w0 : Base} {w : World} {ρ : Pl} {σ : St} (h : Sim w0 ρ σ w) {b : Nat} (hb : ρ b = none) (hlt : b < σ.next) {ob : Ob} (hg : σ.heap.get b = some ob) (hcl : Clean ob) {oc : Obj} (hr : Fresh ρ ob oc) :
    Sim w0 (fun x => if x = b then some (w.heap.size, 0) else ρ x) σ (w.alloc oc) ∧ ρ.le (fun x => if x = b then some (w.heap.size, 0) else ρ x) := by
  have hl : ρ.le (fun x => if x = b then some (w.heap.size, 0) else ρ x) := fun x y hx => by
    by_cases e : x = b
    · subst e; rw [hb] at hx; cases hx
    · exact (if_neg e).trans hx
  have hsz : (w.alloc oc).heap.size = w.heap.size + 1 := World.size_alloc ..
  have hold : ∀ c, c < w.heap.size → (w.alloc oc).heap[c]? = w.heap[c]? := fun c hc => Below.heap_alloc _ _ _ hc
  refine ⟨⟨h.chg.alloc _, fun x c k hx => ?_, fun x x' c k1 k2 h1 h2 a1 a2 => ?_, fun x c k hx => ?_, h.free⟩, hl⟩
  · split at hx
    · next e =>
      simp only [Option.some.injEq, Prod.mk.injEq] at hx
      have := h.chg.size
      exact ⟨by omega, fun hlt => by omega, by omega⟩
    · have := h.dom x c k hx
      exact ⟨this.1, this.2.1, by omega⟩
  · split at h1 <;> split at h2
    · omega
    · simp only [Option.some.injEq, Prod.mk.injEq] at h1
      have := (h.dom x' c k2 h2).2.2
      omega
    · simp only [Option.some.injEq, Prod.mk.injEq] at h2
      have := (h.dom x c k1 h1).2.2
      omega
    · exact h.inj x x' c k1 k2 h1 h2 a1 a2
  · split at hx
    · next e =>
      simp only [Option.some.injEq, Prod.mk.injEq] at hx
      obtain ⟨rfl, rfl⟩ := hx
      subst e
      rw [hg]
      cases ob with
      | cells vs e g =>
        obtain ⟨ca, rfl, hr⟩ := hr
        have hcl : g = 0 := hcl
        subst hcl
        have hlen := hr.length
        exact ⟨ca, (0, 0), by show (w.heap.push _)[w.heap.size]? = _; simp, by simp at hlen; omega, (hr.mono hl).self_take, Or.inl (Nat.le_refl _), fun h => absurd rfl h⟩
      | map es =>
        have hr : oc = .map #[] 0 := hr
        have hcl : es = [] := hcl
        subst hr; subst hcl
        exact ⟨#[], 0, by show (w.heap.push _)[w.heap.size]? = _; simp, trivial⟩
      | dead => exact hr.elim
    · next e =>
      rw [hold c (h.dom x c k hx).2.2]
      exact (h.ob x c k hx).mono hl
end Ev
end Go.Proofs.YtibhkabmihhjiaaGreatDoor
