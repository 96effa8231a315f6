/-
  Regions that draw their order: what the reckoner asks of them; operations that float.
-/
import Derived.Test.YtibhkabmihhjiaaGreatDoorEL
namespace Go.Proofs.YtibhkabmihhjiaaGreatDoor
open Go Go.RowKit
set_option linter.unusedVariables false
set_option linter.unusedSimpArgs false
namespace Ev
variable {P : Program}
/-! ### Values that are the same -/
theorem intEq_spec {a b : Int} (h : intEq a b = true) : a = b := by
  cases a <;> cases b <;> simp_all [intEq]
theorem addrEq_spec {a b : Addr} (h : addrEq a b = true) : a = b := by
  obtain ⟨ab, ao, asp⟩ := a
  obtain ⟨bb, bo, bsp⟩ := b
  simp only [addrEq, Bool.and_eq_true, Nat.beq_eq_true_eq] at h
  obtain ⟨⟨h1, h2⟩, h3⟩ := h
  have h1 := Nat.eq_of_beq_eq_true h1
  have h2 := Nat.eq_of_beq_eq_true h2
  subst h1; subst h2
  cases asp <;> cases bsp <;> simp_all [Nat.eq_of_beq_eq_true]
theorem bytes_same {a b : ByteArray} (h : bytesEq a.data.toList b.data.toList = true) : a = b := by
  rw [bytesEq_iff] at h
  have := eq_of_beq h
  rw [ByteArray.ext_iff]
  exact Array.ext' this
theorem allEq_spec {f : Value → Value → Bool} (hf : ∀ x y, f x y = true → x = y) : ∀ {a b : List Value}, allEq f a b = true → a = b
  | [], [], _ => rfl
  | x :: xs, y :: ys, h => by
    simp only [allEq, Bool.and_eq_true] at h
    rw [hf _ _ h.1, allEq_spec hf h.2]
  | [], _ :: _, h => by cases h
  | _ :: _, [], h => by cases h
theorem valEq_spec : ∀ (k : Nat) (x y : Value), valEq k x y = true → x = y
  | 0, _, _, h => by cases h
  | k + 1, x, y, h => by
    have ih := valEq_spec k
    unfold valEq at h
    split at h
    all_goals first
      | rfl
      | (cases h; done)
      | (simp only [beq_iff_eq] at h; subst h; rfl)
      | (simp only [Bool.and_eq_true, decide_eq_true_eq] at h; obtain ⟨h1, h2⟩ := h; have := intEq_spec h2; subst h1; subst this; rfl)
      | (simp only [Bool.and_eq_true, decide_eq_true_eq] at h; obtain ⟨h1, h2⟩ := h; have := Nat.eq_of_beq_eq_true h2; subst h1; subst this; rfl)
      | (rw [bytes_same h]; done)
      | (rw [addrEq_spec h]; done)
      | (simp only [Bool.and_eq_true] at h; obtain ⟨h1, h2⟩ := h; rw [Nat.eq_of_beq_eq_true h1, Nat.eq_of_beq_eq_true h2]; done)
      | (simp only [Bool.and_eq_true] at h; obtain ⟨⟨h1, h2⟩, h3⟩ := h; rw [addrEq_spec h1, Nat.eq_of_beq_eq_true h2, Nat.eq_of_beq_eq_true h3]; done)
      | (rw [Nat.eq_of_beq_eq_true h]; done)
      | (simp only [Bool.and_eq_true] at h; obtain ⟨h1, h2⟩ := h; rw [Nat.eq_of_beq_eq_true h1, ih _ _ h2]; done)
      | (simp only [Bool.and_eq_true] at h; obtain ⟨⟨h1, h2⟩, h3⟩ := h; rw [Nat.eq_of_beq_eq_true h1, Array.ext' (allEq_spec ih h2), Array.ext' (allEq_spec ih h3)]; done)
      | (rw [Array.ext' (allEq_spec ih h)]; done)
/-! ### What an operation looks at -/
theorem evO_congr {a b : Env} {x : Operand} (h : ∀ t, x = .tmp t → a.get t = b.get t) : evO a x = evO b x := by
  cases x with
  | tmp t => exact h t rfl
  | _ => rfl
theorem evOs_congr {a b : Env} : ∀ {l : List Operand}, (∀ x ∈ l, ∀ t, x = .tmp t → a.get t = b.get t) → evOs a l = evOs b l
  | [], _ => rfl
  | x :: l, h => by
    simp only [evOs]
    rw [evO_congr (h x (List.mem_cons_self ..)), evOs_congr fun y hy => h y (List.mem_cons_of_mem _ hy)]
theorem partsA_congr {a b : Env} : ∀ {l : List (Nat × Operand)}, (∀ x ∈ l, ∀ t, x.2 = .tmp t → a.get t = b.get t) → partsA a l = partsA b l
  | [], _ => rfl
  | (i, x) :: l, h => by
    simp only [partsA]
    rw [evO_congr (h (i, x) (List.mem_cons_self ..)), partsA_congr fun y hy => h y (List.mem_cons_of_mem _ hy)]
theorem opA_congr (σ : St) {a b : Env} {op : Op} (h : ∀ x ∈ op.operands.toList, ∀ t, x = .tmp t → a.get t = b.get t) : opA P σ a op = opA P σ b op := by
  cases op <;> simp only [Op.operands, Call.operands] at h <;> simp only [opA] <;> try rfl
  case build t ps => rw [partsA_congr (b := b) fun x hx => h x.2 (by simpa using ⟨x.1, by simpa using hx⟩)]
  case buildSlice t m ps => rw [partsA_congr (b := b) fun x hx => h x.2 (by simpa using ⟨x.1, by simpa using hx⟩)]
  case makeFunc fn fs cs => rw [evOs_congr (b := b) (l := fs.toList) fun x hx => h x (by simp at hx; simp [hx]), evOs_congr (b := b) (l := cs.toList) fun x hx => h x (by simp at hx; simp [hx])]
  case slice t x lo hi mx =>
    rw [evO_congr (b := b) (x := x) (h x (by simp)), evOs_congr (b := b) (l := lo.toList) fun y hy => h y (by simp at hy; simp [hy]), evOs_congr (b := b) (l := hi.toList) fun y hy => h y (by simp at hy; simp [hy]), evOs_congr (b := b) (l := mx.toList) fun y hy => h y (by simp at hy; simp [hy])]
  case call c =>
    rw [evOs_congr (b := b) (l := c.args.toList) fun x hx => h x (by simp at hx; simp [hx])]
    cases hc : c.callee with
    | value f => simp only; rw [evO_congr (b := b) (x := f) (h f (by simp [hc]))]
    | _ => rfl
  case makeMap t r => cases r <;> rfl
  all_goals first
    | (rw [evO_congr (b := b) (h _ (by simp))]; done)
    | (rw [evO_congr (b := b) (h _ (by simp)), evO_congr (b := b) (h _ (by simp))]; done)
    | (rw [evO_congr (b := b) (h _ (by simp)), evO_congr (b := b) (h _ (by simp)), evO_congr (b := b) (h _ (by simp))]; done)
    | skip
/-! ### Operations that ask nothing of the heap -/
def pureOp : Op → Bool
  | .move _ | .assign _ | .pick .. | .build .. | .nilCheck _ | .binOp .. | .unOp .. | .makeInterface .. | .makeFunc .. | .slice .. | .fieldAddr .. | .field .. | .indexAddr .. | .index .. | .extract .. => true
  | _ => false
set_option maxHeartbeats 1000000 in
theorem pure_indep {σ : St} {a : Env} {op : Op} (hp : pureOp op = true) {v : Value} {σ1 : St} (h : opA P σ a op = some (.val v σ1)) : σ1 = σ ∧ ∀ σ', opA P σ' a op = some (.val v σ') := by
  cases op <;> first | (cases hp; done) | skip
  all_goals
    simp only [opA] at h ⊢
    repeat' split at h
    all_goals first
      | (cases h; done)
      | (simp only [Option.map_eq_some_iff, OR.val.injEq] at h
         obtain ⟨u, h1, rfl, rfl⟩ := h
         exact ⟨rfl, fun σ' => by simp_all⟩)
      | (injection h with h
         injection h with h1 h2
         subst h1; subst h2
         exact ⟨rfl, fun σ' => by simp_all⟩)
theorem conv_indep {σ : St} {a : Env} {s d : TypeId} {x : Operand} (hx : ∀ b m c, evO a x ≠ some (.slice b m c)) {v : Value} {σ1 : St} (h : opA P σ a (.convert s d x) = some (.val v σ1)) : σ1 = σ ∧ ∀ σ', opA P σ' a (.convert s d x) = some (.val v σ') := by
  simp only [opA] at h ⊢
  repeat' split at h
  all_goals first
    | (cases h; done)
    | (exfalso; exact hx _ _ _ (by assumption))
    | (simp only [Option.map_eq_some_iff, OR.val.injEq] at h
       obtain ⟨u, h1, rfl, rfl⟩ := h
       exact ⟨rfl, fun σ' => by simp_all⟩)
    | (injection h with h
       injection h with h1 h2
       subst h1; subst h2
       exact ⟨rfl, fun σ' => by simp_all⟩)
end Ev
end Go.Proofs.YtibhkabmihhjiaaGreatDoor
