/-
  What the reckoner's values and heap stand for.
-/
import Derived.Test.YtibhkabmihhjiaaGreatDoorEA
import Derived.Test.YtibhkabmihhjiaaGreatDoorQA
namespace Go.Proofs.YtibhkabmihhjiaaGreatDoor
open Go Go.RowKit
set_option linter.unusedVariables false
set_option linter.unusedSimpArgs false
namespace Ev
/-! ### Trees -/
section
variable {d : Nat} {α : Type}
theorem Six.sel_upd (t : Six α) (f : α → α) (j k : Nat) (hj : j < 16) (hk : k < 16) : (t.upd j f).sel k = if k = j then f (t.sel k) else t.sel k := by
  have h1 : j = 0 ∨ j = 1 ∨ j = 2 ∨ j = 3 ∨ j = 4 ∨ j = 5 ∨ j = 6 ∨ j = 7 ∨ j = 8 ∨ j = 9 ∨ j = 10 ∨ j = 11 ∨ j = 12 ∨ j = 13 ∨ j = 14 ∨ j = 15 := by omega
  have h2 : k = 0 ∨ k = 1 ∨ k = 2 ∨ k = 3 ∨ k = 4 ∨ k = 5 ∨ k = 6 ∨ k = 7 ∨ k = 8 ∨ k = 9 ∨ k = 10 ∨ k = 11 ∨ k = 12 ∨ k = 13 ∨ k = 14 ∨ k = 15 := by omega
  clear hj hk
  rcases h1 with rfl | rfl | rfl | rfl | rfl | rfl | rfl | rfl | rfl | rfl | rfl | rfl | rfl | rfl | rfl | rfl <;>
  rcases h2 with rfl | rfl | rfl | rfl | rfl | rfl | rfl | rfl | rfl | rfl | rfl | rfl | rfl | rfl | rfl | rfl <;> rfl
theorem getQ_setQ : ∀ (d : Nat) (n m : Nat) (x : α) (t : QT α d), n < 16 ^ d → m < 16 ^ d → getQ α d m (setQ α d n x t) = if m = n then some x else getQ α d m t
  | 0, n, m, x, t, hn, hm => by
    have hn : n = 0 := by simpa using hn
    have hm : m = 0 := by simpa using hm
    subst hn; subst hm
    rfl
  | d + 1, n, m, x, t, hn, hm => by
    have key : ∀ t : Six (QT α d), getQ α d (m / 16) (Six.sel (Six.upd t (n % 16) (setQ α d (n / 16) x)) (m % 16)) = if m = n then some x else getQ α d (m / 16) (Six.sel t (m % 16)) := by
      intro t
      have hp : 16 ^ (d + 1) = 16 ^ d * 16 := Nat.pow_succ ..
      rw [Six.sel_upd _ _ _ _ (Nat.mod_lt _ (by omega)) (Nat.mod_lt _ (by omega))]
      by_cases h : m % 16 = n % 16
      · rw [if_pos h, getQ_setQ d (n / 16) (m / 16) x _ (by omega) (by omega)]
        by_cases h2 : m / 16 = n / 16
        · rw [if_pos h2, if_pos (by omega)]
        · rw [if_neg h2, if_neg (by omega)]
      · rw [if_neg h, if_neg (by intro e; exact h (by rw [e]))]
    exact key t
theorem getQ_empty : ∀ (d n : Nat), getQ α d n (emptyQ α d) = none
  | 0, n => rfl
  | d + 1, n => by
    have : ∀ k, Six.sel (⟨emptyQ α d, emptyQ α d, emptyQ α d, emptyQ α d, emptyQ α d, emptyQ α d, emptyQ α d, emptyQ α d, emptyQ α d, emptyQ α d, emptyQ α d, emptyQ α d, emptyQ α d, emptyQ α d, emptyQ α d, emptyQ α d⟩ : Six (QT α d)) k = emptyQ α d := by
      intro k
      rcases k with _ | _ | _ | _ | _ | _ | _ | _ | _ | _ | _ | _ | _ | _ | _ | k <;> rfl
    exact (congrArg (getQ α d (n / 16)) (this (n % 16))).trans (getQ_empty d _)
theorem Tr.get_eq (t : Tr d α) (n : Nat) : t.get n = if n < 16 ^ d then getQ α d n t.q else look t.rest n := by
  unfold Tr.get
  by_cases h : n < 16 ^ d
  · rw [if_pos h, show Nat.ble (Nat.succ n) (Nat.pow 16 d) = true from Nat.ble_eq_true_of_le h]
  · rw [if_neg h, show Nat.ble (Nat.succ n) (Nat.pow 16 d) = false from by
      cases hb : Nat.ble (Nat.succ n) (Nat.pow 16 d) with
      | false => rfl
      | true => exact absurd (Nat.le_of_ble_eq_true hb) h]
theorem Tr.set_eq (t : Tr d α) (n : Nat) (x : α) : t.set n x = if n < 16 ^ d then ⟨setQ α d n x t.q, t.rest⟩ else ⟨t.q, (n, x) :: t.rest⟩ := by
  unfold Tr.set
  by_cases h : n < 16 ^ d
  · rw [if_pos h, show Nat.ble (Nat.succ n) (Nat.pow 16 d) = true from Nat.ble_eq_true_of_le h]
  · rw [if_neg h, show Nat.ble (Nat.succ n) (Nat.pow 16 d) = false from by
      cases hb : Nat.ble (Nat.succ n) (Nat.pow 16 d) with
      | false => rfl
      | true => exact absurd (Nat.le_of_ble_eq_true hb) h]
theorem Tr.get_leaf (n : Nat) : (Tr.leaf : Tr d α).get n = none := by
  rw [Tr.get_eq]
  split
  · exact getQ_empty d n
  · rfl
theorem look_cons (l : List (Nat × α)) (n m : Nat) (x : α) : look ((n, x) :: l) m = if m = n then some x else look l m := by
  show Bool.rec (motive := fun _ => Option α) (look l m) (some x) (Nat.beq m n) = _
  by_cases h : m = n
  · subst h
    rw [if_pos rfl, Nat.beq_refl]
  · rw [if_neg h]
    cases hb : Nat.beq m n with
    | false => rfl
    | true => exact absurd (Nat.eq_of_beq_eq_true hb) h
theorem Tr.get_set (t : Tr d α) (n : Nat) (x : α) (m : Nat) : (t.set n x).get m = if m = n then some x else t.get m := by
  rw [Tr.set_eq, Tr.get_eq, Tr.get_eq]
  by_cases hm : m < 16 ^ d
  · rw [if_pos hm, if_pos hm]
    by_cases hn : n < 16 ^ d
    · rw [if_pos hn]
      exact getQ_setQ d n m x _ hn hm
    · rw [if_neg hn, if_neg (by intro e; subst e; exact hn hm)]
  · rw [if_neg hm, if_neg hm]
    by_cases hn : n < 16 ^ d
    · rw [if_pos hn, if_neg (by intro e; subst e; exact hm hn)]
    · rw [if_neg hn]
      exact look_cons _ _ _ _
theorem Tr.get_same (t : Tr d α) (n : Nat) (x : α) : (t.set n x).get n = some x := by rw [Tr.get_set, if_pos rfl]
theorem Tr.get_other (t : Tr d α) {n m : Nat} (x : α) (h : m ≠ n) : (t.set n x).get m = t.get m := by rw [Tr.get_set, if_neg h]
end
/-! ### Values -/
/-- Where the reckoner's blocks lie: a block of the world, and the room of a row that has been grown. -/
abbrev Pl := Nat → Option (Nat × Nat)
mutual
inductive Rel (ρ : Pl) : Value → Value → Prop where
  | bool (b : Bool) : Rel ρ (.bool b) (.bool b)
  | int (k : IntKind) (n : Int) : Rel ρ (.int k n) (.int k n)
  | float (k : FloatKind) (n : Nat) : Rel ρ (.float k n) (.float k n)
  | string (s : ByteArray) : Rel ρ (.string s) (.string s)
  | nilPtr : Rel ρ (.pointer none) (.pointer none)
  | ptr {b c k : Nat} (o : Nat) (h : ρ b = some (c, k)) : Rel ρ (.pointer (some ⟨b, o, none⟩)) (.pointer (some ⟨c, o, none⟩))
  | nilSlice (n m : Nat) : Rel ρ (.slice none n m) (.slice none n m)
  | slice {b c k : Nat} (o n m : Nat) (h : ρ b = some (c, k)) : Rel ρ (.slice (some ⟨b, o, none⟩) n m) (.slice (some ⟨c, o, none⟩) n m)
  | grown {b c k : Nat} (o n m m' : Nat) (h : ρ b = some (c, k)) (hm : m ≤ m') (h0 : o = 0 → m' = k) : Rel ρ (.slice (some ⟨b, o, some 0⟩) n m) (.slice (some ⟨c, o, none⟩) n m')
  | past (x : Addr) (m : Nat) : Rel ρ (.slice (some ⟨0, 0, some 1⟩) 0 0) (.slice (some x) 0 m)
  | nilMap : Rel ρ (.map none) (.map none)
  | map {b c k : Nat} (h : ρ b = some (c, k)) : Rel ρ (.map (some b)) (.map (some c))
  | nilFunc : Rel ρ .nilFunc .nilFunc
  | func (f : FuncId) {fs cs fs' cs' : Array Value} (h : Rels ρ fs.toList fs'.toList) (k : Rels ρ cs.toList cs'.toList) : Rel ρ (.func (.func f) fs cs) (.func (.func f) fs' cs')
  | yield (l : Nat) : Rel ρ (.func (.yield 0) #[] #[]) (.func (.yield l) #[] #[])
  | nilIface : Rel ρ .nilIface .nilIface
  | iface (t : TypeId) {v v' : Value} (h : Rel ρ v v') : Rel ρ (.iface t v) (.iface t v')
  | agg {cs cs' : Array Value} (h : Rels ρ cs.toList cs'.toList) : Rel ρ (.agg cs) (.agg cs')
  | tuple {cs cs' : Array Value} (h : Rels ρ cs.toList cs'.toList) : Rel ρ (.tuple cs) (.tuple cs')
inductive Rels (ρ : Pl) : List Value → List Value → Prop where
  | nil : Rels ρ [] []
  | cons {v v' : Value} {vs vs' : List Value} (h : Rel ρ v v') (k : Rels ρ vs vs') : Rels ρ (v :: vs) (v' :: vs')
end
/-- The map of blocks has only grown. -/
def Pl.le (ρ ρ' : Pl) : Prop := ∀ b x, ρ b = some x → ρ' b = some x
theorem Pl.le.refl (ρ : Pl) : ρ.le ρ := fun _ _ h => h
theorem Pl.le.trans {a b c : Pl} (h : a.le b) (k : b.le c) : a.le c := fun _ _ x => k _ _ (h _ _ x)
mutual
theorem Rel.mono {ρ ρ' : Pl} (hl : ρ.le ρ') {v v' : Value} (h : Rel ρ v v') : Rel ρ' v v' := by
  cases h with
  | bool b => exact .bool b
  | int k n => exact .int k n
  | float k n => exact .float k n
  | string s => exact .string s
  | nilPtr => exact .nilPtr
  | ptr o h => exact .ptr o (hl _ _ h)
  | nilSlice n m => exact .nilSlice n m
  | slice o n m h => exact .slice o n m (hl _ _ h)
  | grown o n m m' h hm h0 => exact .grown o n m m' (hl _ _ h) hm h0
  | past x m => exact .past x m
  | nilMap => exact .nilMap
  | map h => exact .map (hl _ _ h)
  | nilFunc => exact .nilFunc
  | func f h k => exact .func f (Rels.mono hl h) (Rels.mono hl k)
  | yield l => exact .yield l
  | nilIface => exact .nilIface
  | iface t h => exact .iface t (Rel.mono hl h)
  | agg h => exact .agg (Rels.mono hl h)
  | tuple h => exact .tuple (Rels.mono hl h)
theorem Rels.mono {ρ ρ' : Pl} (hl : ρ.le ρ') {v v' : List Value} (h : Rels ρ v v') : Rels ρ' v v' := by
  cases h with
  | nil => exact .nil
  | cons h k => exact .cons (Rel.mono hl h) (Rels.mono hl k)
end
theorem Rels.length {ρ : Pl} : ∀ {v v' : List Value}, Rels ρ v v' → v.length = v'.length
  | [], [], _ => rfl
  | _ :: _, _ :: _, .cons _ k => by rw [List.length_cons, List.length_cons, k.length]
theorem Rels.append {ρ : Pl} : ∀ {a a' b b' : List Value}, Rels ρ a a' → Rels ρ b b' → Rels ρ (a ++ b) (a' ++ b')
  | [], [], _, _, _, h => h
  | _ :: _, _ :: _, _, _, .cons h k, h2 => .cons h (k.append h2)
theorem Rels.take {ρ : Pl} : ∀ {a a' : List Value} (n : Nat), Rels ρ a a' → Rels ρ (a.take n) (a'.take n)
  | [], [], n, _ => by simp; exact .nil
  | _ :: _, _ :: _, 0, _ => by simp; exact .nil
  | _ :: _, _ :: _, n + 1, .cons h k => .cons h (k.take n)
theorem Rels.drop {ρ : Pl} : ∀ {a a' : List Value} (n : Nat), Rels ρ a a' → Rels ρ (a.drop n) (a'.drop n)
  | [], [], n, _ => by simp; exact .nil
  | _ :: _, _ :: _, 0, h => h
  | _ :: _, _ :: _, n + 1, .cons h k => k.drop n
theorem Rels.get {ρ : Pl} : ∀ {a a' : List Value} (n : Nat) {v : Value}, Rels ρ a a' → a[n]? = some v → ∃ v', a'[n]? = some v' ∧ Rel ρ v v'
  | [], [], n, v, _, h => by simp at h
  | _ :: _, _ :: _, 0, v, .cons h k, e => by
    simp at e
    subst e
    exact ⟨_, rfl, h⟩
  | _ :: _, _ :: _, n + 1, v, .cons h k, e => by
    simp at e
    obtain ⟨v', h1, h2⟩ := k.get n e
    exact ⟨v', by simpa using h1, h2⟩
theorem Rel.cells {ρ : Pl} {v v' : Value} (h : Rel ρ v v') : Rels ρ (cellsL v) v'.cells.toList := by
  cases h with
  | agg h => exact h
  | bool b => exact .cons (.bool b) .nil
  | int k n => exact .cons (.int k n) .nil
  | float k n => exact .cons (.float k n) .nil
  | string s => exact .cons (.string s) .nil
  | nilPtr => exact .cons .nilPtr .nil
  | ptr o h => exact .cons (.ptr o h) .nil
  | nilSlice n m => exact .cons (.nilSlice n m) .nil
  | slice o n m h => exact .cons (.slice o n m h) .nil
  | grown o n m m' h hm h0 => exact .cons (.grown o n m m' h hm h0) .nil
  | past x m => exact .cons (.past x m) .nil
  | nilMap => exact .cons .nilMap .nil
  | map h => exact .cons (.map h) .nil
  | nilFunc => exact .cons .nilFunc .nil
  | func f h k => exact .cons (.func f h k) .nil
  | yield l => exact .cons (.yield l) .nil
  | nilIface => exact .cons .nilIface .nil
  | iface t h => exact .cons (.iface t h) .nil
  | tuple h => exact .cons (.tuple h) .nil
theorem Rel.oneC {ρ : Pl} {v v' : Value} (h : Rel ρ v v') : Ev.oneC v' = Ev.oneC v := by cases h <;> rfl
theorem Rels.oneC {ρ : Pl} : ∀ {a a' : List Value}, Rels ρ a a' → a.all Ev.oneC = true → a'.all Ev.oneC = true
  | [], [], _, _ => rfl
  | _ :: _, _ :: _, .cons h k, e => by
    simp only [List.all_cons, Bool.and_eq_true] at e ⊢
    exact ⟨by rw [h.oneC]; exact e.1, k.oneC e.2⟩
theorem Rel.scal (ρ : Pl) {v : Value} (h : scalC v = true) : Rel ρ v v := by
  match v, h with
  | .bool b, _ => exact .bool b
  | .int k n, _ => exact .int k n
  | .float k n, _ => exact .float k n
  | .string s, _ => exact .string s
  | .pointer none, _ => exact .nilPtr
  | .slice none n m, _ => exact .nilSlice n m
  | .map none, _ => exact .nilMap
  | .nilFunc, _ => exact .nilFunc
  | .nilIface, _ => exact .nilIface
theorem Rels.scal (ρ : Pl) : ∀ {l : List Value}, l.all scalC = true → Rels ρ l l
  | [], _ => .nil
  | v :: vs, h => by
    simp only [List.all_cons, Bool.and_eq_true] at h
    exact .cons (Rel.scal ρ h.1) (Rels.scal ρ h.2)
theorem Rel.const (ρ : Pl) {v : Value} (h : plainConst v = true) : Rel ρ v v := by
  cases v with
  | agg cs =>
    refine .agg (Rels.scal ρ ?_)
    simp only [plainConst] at h
    rw [List.all_eq_true] at h ⊢
    intro x hx
    have := h x hx
    unfold scalC
    split at this <;> first | rfl | cases this
  | bool b => exact .bool b
  | int k n => exact .int k n
  | float k n => exact .float k n
  | string s => exact .string s
  | pointer a => cases a with
    | none => exact .nilPtr
    | some a => simp [plainConst] at h
  | slice a n m => cases a with
    | none => exact .nilSlice n m
    | some a => simp [plainConst] at h
  | map r => cases r with
    | none => exact .nilMap
    | some a => simp [plainConst] at h
  | nilFunc => exact .nilFunc
  | nilIface => exact .nilIface
  | complex k a b => simp [plainConst] at h
  | chan r => simp [plainConst] at h
  | func f a b => simp [plainConst] at h
  | iface t v => simp [plainConst] at h
  | tuple vs => simp [plainConst] at h
/-! ### Heaps -/
/-- No cell below n is frozen. -/
def Thawed (fz : Nat × Nat) (n : Nat) : Prop := fz.2 ≤ fz.1 ∨ n ≤ fz.1
def EntR (ρ : Pl) : List (Value × Value) → List MapEntry → Prop
  | [], [] => True
  | e :: es, m :: ms => e.1 = m.key ∧ Rel ρ e.2 m.val ∧ EntR ρ es ms
  | _, _ => False
/-- What an object of the reckoner's stands for. -/
def ObR (ρ : Pl) (k : Nat) : Option Ob → Option Obj → Prop
  | some (.cells vs e g), o => ∃ ca fz, o = some (.cells ca e fz) ∧ vs.length ≤ ca.size ∧ Rels ρ vs (ca.toList.take vs.length) ∧ Thawed fz ca.size ∧ (g ≠ 0 → ca.size = k * g)
  | some (.map es), o => ∃ ms cl, o = some (.map ms cl) ∧ EntR ρ es ms.toList
  | _, _ => True
def Alive (σ : St) (b : Nat) : Prop := ∃ o, σ.heap.get b = some o ∧ o ≠ .dead
/-- What may turn of a world that was. -/
structure Base where
  w : World
  S : Nat → Prop
structure Sim (w0 : Base) (ρ : Pl) (σ : St) (w : World) : Prop where
  chg : Chg w0.S w0.w w
  dom : ∀ b c k, ρ b = some (c, k) → b < σ.next ∧ (c < w0.w.heap.size → w0.S c) ∧ c < w.heap.size
  inj : ∀ b b' c k k', ρ b = some (c, k) → ρ b' = some (c, k') → Alive σ b → Alive σ b' → b = b'
  ob : ∀ b c k, ρ b = some (c, k) → ObR ρ k (σ.heap.get b) w.heap[c]?
  free : ∀ b, σ.next ≤ b → σ.heap.get b = none
/-- What a step may do to the map of blocks and to the reckoner's heap. -/
structure Step (ρ : Pl) (σ : St) (ρ' : Pl) (σ' : St) : Prop where
  next : σ.next ≤ σ'.next
  pl : ∀ b, b < σ.next → ρ' b = ρ b
  keep : ∀ b, b < σ.next → ρ b = none → σ'.heap.get b = σ.heap.get b
theorem Step.refl (ρ : Pl) (σ : St) : Step ρ σ ρ σ := ⟨Nat.le_refl _, fun _ _ => rfl, fun _ _ _ => rfl⟩
theorem Step.trans {ρ ρ1 ρ2 : Pl} {σ σ1 σ2 : St} (h : Step ρ σ ρ1 σ1) (k : Step ρ1 σ1 ρ2 σ2) : Step ρ σ ρ2 σ2 :=
  ⟨Nat.le_trans h.next k.next, fun b hb => (k.pl b (Nat.lt_of_lt_of_le hb h.next)).trans (h.pl b hb), fun b hb hn => (k.keep b (Nat.lt_of_lt_of_le hb h.next) ((h.pl b hb).trans hn)).trans (h.keep b hb hn)⟩
theorem Step.le {w0 : Base} {w : World} {ρ ρ' : Pl} {σ σ' : St} (h : Step ρ σ ρ' σ') (hs : Sim w0 ρ σ w) : ρ.le ρ' := fun b x hx => by
  rw [h.pl b (hs.dom b x.1 x.2 hx).1]
  exact hx
theorem EntR.mono {ρ ρ' : Pl} (hl : ρ.le ρ') : ∀ {es : List (Value × Value)} {ms : List MapEntry}, EntR ρ es ms → EntR ρ' es ms
  | [], [], _ => trivial
  | _ :: _, _ :: _, ⟨h1, h2, h3⟩ => ⟨h1, h2.mono hl, h3.mono hl⟩
  | [], _ :: _, h => h.elim
  | _ :: _, [], h => h.elim
theorem ObR.mono {ρ ρ' : Pl} (hl : ρ.le ρ') {k : Nat} {o : Option Ob} {p : Option Obj} (h : ObR ρ k o p) : ObR ρ' k o p := by
  match o, h with
  | some (.cells vs e g), ⟨ca, fz, h1, h2, h3, h4⟩ => exact ⟨ca, fz, h1, h2, h3.mono hl, h4⟩
  | some (.map es), ⟨ms, cl, h1, h2⟩ => exact ⟨ms, cl, h1, h2.mono hl⟩
  | some .dead, _ => trivial
  | none, _ => trivial
/-- A new block. -/
theorem Sim.new {w0 : Base} {w : World} {ρ : Pl} {σ : St} (h : Sim w0 ρ σ w) (o : Ob) (k : Nat) (p : Obj) (ho : ObR (fun b => if b = σ.next then some (w.heap.size, k) else ρ b) k (some o) (some p)) :
    Sim w0 (fun b => if b = σ.next then some (w.heap.size, k) else ρ b) (σ.new o) (w.alloc p) ∧ Step ρ σ (fun b => if b = σ.next then some (w.heap.size, k) else ρ b) (σ.new o) := by
  have hl : ρ.le (fun b => if b = σ.next then some (w.heap.size, k) else ρ b) := fun b x hx => by
    have := (h.dom b x.1 x.2 hx).1
    exact (if_neg (by omega)).trans hx
  have hsz : (w.alloc p).heap.size = w.heap.size + 1 := World.size_alloc ..
  have hold : ∀ c, c < w.heap.size → (w.alloc p).heap[c]? = w.heap[c]? := fun c hc => Below.heap_alloc _ _ _ hc
  refine ⟨⟨h.chg.alloc _, ?_, ?_, ?_, ?_⟩, ⟨by show σ.next ≤ σ.next + 1; omega, fun b hb => if_neg (by omega), fun b hb _ => by show (σ.heap.set σ.next o).get b = _; rw [Tr.get_other _ _ (by omega)]⟩⟩
  · intro b c k' hb
    split at hb
    · next e =>
      simp only [Option.some.injEq, Prod.mk.injEq] at hb
      have := h.chg.size
      exact ⟨by show b < σ.next + 1; omega, fun hlt => by omega, by omega⟩
    · have := h.dom b c k' hb
      exact ⟨by show b < σ.next + 1; omega, this.2.1, by omega⟩
  · intro b b' c k1 k2 h1 h2 a1 a2
    have up : ∀ x, x ≠ σ.next → Alive (σ.new o) x → Alive σ x := fun x hx ⟨q, hq, hd⟩ => ⟨q, by rw [← hq]; exact (Tr.get_other _ _ hx).symm, hd⟩
    split at h1 <;> split at h2
    · omega
    · simp only [Option.some.injEq, Prod.mk.injEq] at h1
      have := (h.dom b' c k2 h2).2.2
      omega
    · simp only [Option.some.injEq, Prod.mk.injEq] at h2
      have := (h.dom b c k1 h1).2.2
      omega
    · next e1 e2 => exact h.inj b b' c k1 k2 h1 h2 (up b e1 a1) (up b' e2 a2)
  · intro b c k' hb
    split at hb
    · next e =>
      simp only [Option.some.injEq, Prod.mk.injEq] at hb
      obtain ⟨rfl, rfl⟩ := hb
      subst e
      show ObR _ _ ((σ.heap.set σ.next o).get σ.next) _
      rw [Tr.get_same]
      have : (w.alloc p).heap[w.heap.size]? = some p := by
        show (w.heap.push _)[w.heap.size]? = _; simp
      rw [this]
      exact ho
    · next e =>
      show ObR _ _ ((σ.heap.set σ.next o).get b) _
      rw [Tr.get_other _ _ e, hold c (h.dom b c k' hb).2.2]
      exact (h.ob b c k' hb).mono hl
  · intro b hb
    show (σ.heap.set σ.next o).get b = none
    have hb' : σ.next + 1 ≤ b := hb
    rw [Tr.get_other _ _ (by omega)]
    exact h.free b (by omega)
/-- A block that the world does not know yet may be put ahead. -/
theorem Sim.fresh {w0 : Base} {w : World} {ρ : Pl} {σ : St} (h : Sim w0 ρ σ w) (o : Ob) : Sim w0 ρ (σ.new o) w := by
  have hne : ∀ b c k, ρ b = some (c, k) → b ≠ σ.next := fun b c k hb => by have := (h.dom b c k hb).1; omega
  refine ⟨h.chg, fun b c k hb => ?_, fun b b' c k1 k2 h1 h2 a1 a2 => ?_, fun b c k hb => ?_, fun b hb => ?_⟩
  · have := h.dom b c k hb
    exact ⟨by show b < σ.next + 1; omega, this.2⟩
  · have up : ∀ x, x ≠ σ.next → Alive (σ.new o) x → Alive σ x := fun x hx ⟨q, hq, hd⟩ => ⟨q, by rw [← hq]; exact (Tr.get_other _ _ hx).symm, hd⟩
    exact h.inj b b' c k1 k2 h1 h2 (up b (hne _ _ _ h1) a1) (up b' (hne _ _ _ h2) a2)
  · show ObR _ _ ((σ.heap.set σ.next o).get b) _
    rw [Tr.get_other _ _ (hne _ _ _ hb)]
    exact h.ob b c k hb
  · show (σ.heap.set σ.next o).get b = none
    have hb' : σ.next + 1 ≤ b := hb
    rw [Tr.get_other _ _ (by omega)]
    exact h.free b (by omega)
/-- A block that is known gets other contents. -/
theorem Sim.put {w0 : Base} {w w' : World} {ρ : Pl} {σ : St} (h : Sim w0 ρ σ w) {b c k : Nat} (hb : ρ b = some (c, k)) (o : Ob) (hal : Alive σ b) (hc : Chg (fun x => x = c) w w') (ho : ObR ρ k (some o) w'.heap[c]?) :
    Sim w0 ρ (σ.put b o) w' ∧ Step ρ σ ρ (σ.put b o) := by
  have hsz := hc.size
  have hd := h.dom b c k hb
  refine ⟨⟨?_, fun b' c' k' h' => ?_, fun b1 b2 c' k1 k2 h1 h2 a1 a2 => ?_, fun b' c' k' h' => ?_, fun b' hb' => ?_⟩, ⟨Nat.le_refl _, fun _ _ => rfl, fun b' hb' hn => ?_⟩⟩
  · have h1 : Chg (fun x => w0.S x ∨ x = c) w0.w w := h.chg.mono fun _ _ h => .inl h
    have h2 : Chg (fun x => w0.S x ∨ x = c) w w' := hc.mono fun _ _ h => .inr h
    exact (h1.trans h2).mono fun x hx e => e.elim id fun e => by
      subst e
      exact hd.2.1 hx
  · have := h.dom b' c' k' h'
    exact ⟨this.1, this.2.1, by omega⟩
  · have up : ∀ x, Alive (σ.put b o) x → Alive σ x := fun x ⟨q, hq, hd⟩ => by
      by_cases hx : x = b
      · subst hx; exact hal
      · exact ⟨q, by rw [← hq]; exact (Tr.get_other _ _ hx).symm, hd⟩
    exact h.inj b1 b2 c' k1 k2 h1 h2 (up _ a1) (up _ a2)
  · show ObR _ _ ((σ.heap.set b o).get b') _
    by_cases hx : b' = b
    · subst hx
      rw [Tr.get_same]
      rw [hb] at h'
      simp only [Option.some.injEq, Prod.mk.injEq] at h'
      obtain ⟨rfl, rfl⟩ := h'
      exact ho
    · rw [Tr.get_other _ _ hx]
      by_cases hcc : c' = c
      · subst hcc
        -- the old block is no object any more
        cases hg : σ.heap.get b' with
        | none => trivial
        | some q =>
          cases q with
          | dead => trivial
          | cells vs e g => exact absurd (h.inj b' b c' k' k h' hb ⟨_, hg, by simp⟩ hal) hx
          | map es => exact absurd (h.inj b' b c' k' k h' hb ⟨_, hg, by simp⟩ hal) hx
      · rw [hc.block c' (h.dom b' c' k' h').2.2 hcc]
        exact h.ob b' c' k' h'
  · show (σ.heap.set b o).get b' = none
    have hb'' : σ.next ≤ b' := hb'
    rw [Tr.get_other _ _ (by omega)]
    exact h.free b' hb'
  · show (σ.heap.set b o).get b' = _
    rw [Tr.get_other _ _ (by rintro rfl; rw [hb] at hn; cases hn)]
/-- A block's place is taken over by another one. -/
theorem Sim.retake {w0 : Base} {w w' : World} {ρ : Pl} {σ : St} (h : Sim w0 ρ σ w) {b c k : Nat} (hb : ρ b = some (c, k)) (hal : Alive σ b) (o : Ob) (hc : Chg (fun x => x = c) w w') (ho : ObR (fun x => if x = σ.next then some (c, k) else ρ x) k (some o) w'.heap[c]?) :
    Sim w0 (fun x => if x = σ.next then some (c, k) else ρ x) ((σ.put b .dead).new o) w' ∧ Step ρ σ (fun x => if x = σ.next then some (c, k) else ρ x) ((σ.put b .dead).new o) := by
  obtain ⟨s1, t1⟩ := h.put hb .dead hal hc trivial
  have hbn := (h.dom b c k hb).1
  have hl : ρ.le (fun x => if x = σ.next then some (c, k) else ρ x) := fun x y hx => by
    have := (h.dom x y.1 y.2 hx).1
    exact (if_neg (by omega)).trans hx
  have hnx : (σ.put b .dead).next = σ.next := rfl
  have hdead : ¬ Alive (σ.put b .dead) b := fun ⟨q, hq, hd⟩ => by
    have : (σ.put b .dead).heap.get b = some .dead := Tr.get_same _ _ _
    rw [this] at hq
    injection hq with hq
    exact hd hq.symm
  have back : ∀ x, x ≠ σ.next → ((σ.put b .dead).new o).heap.get x = (σ.put b .dead).heap.get x := fun x hx => Tr.get_other _ _ hx
  have up : ∀ x, x ≠ σ.next → Alive ((σ.put b .dead).new o) x → Alive (σ.put b .dead) x := fun x hx ⟨q, hq, hd⟩ => ⟨q, by rw [← hq, back x hx], hd⟩
  have up2 : ∀ x, Alive (σ.put b .dead) x → Alive σ x := fun x ⟨q, hq, hd⟩ => by
    by_cases hx : x = b
    · subst hx; exact hal
    · exact ⟨q, by rw [← hq]; exact (Tr.get_other _ _ hx).symm, hd⟩
  refine ⟨⟨s1.chg, fun x d k' hx => ?_, fun x x' d k1 k2 h1 h2 a1 a2 => ?_, fun x d k' hx => ?_, fun x hx => ?_⟩, ⟨by show σ.next ≤ σ.next + 1; omega, fun x hx => if_neg (by omega), fun x hx hn => ?_⟩⟩
  · split at hx
    · next e =>
      simp only [Option.some.injEq, Prod.mk.injEq] at hx
      obtain ⟨rfl, rfl⟩ := hx
      have := s1.dom b c k hb
      exact ⟨by show x < σ.next + 1; omega, this.2⟩
    · have := s1.dom x d k' hx
      exact ⟨by show x < σ.next + 1; have := this.1; rw [hnx] at this; omega, this.2⟩
  · split at h1 <;> split at h2
    · omega
    · next e1 e2 =>
      simp only [Option.some.injEq, Prod.mk.injEq] at h1
      obtain ⟨rfl, rfl⟩ := h1
      have hx' := h.inj x' b c k2 k h2 hb (up2 _ (up _ e2 a2)) hal
      subst hx'
      exact absurd (up _ e2 a2) hdead
    · next e1 e2 =>
      simp only [Option.some.injEq, Prod.mk.injEq] at h2
      obtain ⟨rfl, rfl⟩ := h2
      have hx' := h.inj x b c k1 k h1 hb (up2 _ (up _ e1 a1)) hal
      subst hx'
      exact absurd (up _ e1 a1) hdead
    · next e1 e2 => exact s1.inj x x' d k1 k2 h1 h2 (up x e1 a1) (up x' e2 a2)
  · split at hx
    · next e =>
      simp only [Option.some.injEq, Prod.mk.injEq] at hx
      obtain ⟨rfl, rfl⟩ := hx
      subst e
      have : ((σ.put b .dead).new o).heap.get σ.next = some o := Tr.get_same _ _ _
      rw [this]
      exact ho
    · next e =>
      rw [back x e]
      exact (s1.ob x d k' hx).mono hl
  · have hx' : σ.next + 1 ≤ x := hx
    rw [back x (by omega)]
    exact s1.free x (by rw [hnx]; omega)
  · rw [back x (by omega)]
    exact t1.keep x hx hn
theorem Sim.drew {w0 : Base} {w : World} {ρ : Pl} {σ : St} (h : Sim w0 ρ σ w) : Sim w0 ρ σ w.drew := ⟨h.chg.drew, h.dom, h.inj, h.ob, h.free⟩
/-- The blocks that are placed. -/
def Placed (ρ : Pl) (c : Nat) : Prop := ∃ b k, ρ b = some (c, k)
/-- From here on: of what is there now only the placed blocks may turn. -/
theorem Sim.rebase {w0 : Base} {w : World} {ρ : Pl} {σ : St} (h : Sim w0 ρ σ w) : Sim ⟨w, Placed ρ⟩ ρ σ w :=
  ⟨Chg.refl w, fun b c k hb => ⟨(h.dom b c k hb).1, fun _ => ⟨b, k, hb⟩, (h.dom b c k hb).2.2⟩, h.inj, h.ob, h.free⟩
theorem Sim.unbase {w0 : Base} {w w' : World} {ρ ρ' : Pl} {σ σ' : St} (h : Sim w0 ρ σ w) (k : Sim ⟨w, Placed ρ⟩ ρ' σ' w') : Sim w0 ρ' σ' w' := by
  have h2 : Chg (fun c => w0.S c ∨ Placed ρ c) w w' := k.chg.mono fun _ _ h => .inr h
  have h1 : Chg (fun c => w0.S c ∨ Placed ρ c) w0.w w := h.chg.mono fun _ _ h => .inl h
  have hp : ∀ c, c < w0.w.heap.size → Placed ρ c → w0.S c := fun c hc ⟨b, j, hb⟩ => (h.dom b c j hb).2.1 hc
  refine ⟨(h1.trans h2).mono fun c hc e => e.elim id (hp c hc), fun b c j hb => ⟨(k.dom b c j hb).1, fun hc => ?_, (k.dom b c j hb).2.2⟩, k.inj, k.ob, k.free⟩
  exact hp c hc ((k.dom b c j hb).2.1 (Nat.lt_of_lt_of_le hc h.chg.size))
/-- New blocks that are nobody's. -/
theorem Sim.ext {w0 : Base} {w w' : World} {ρ : Pl} {σ : St} (h : Sim w0 ρ σ w) (hx : Ext w w') : Sim w0 ρ σ w' := by
  have hx' : Chg w0.S w w' := hx.mono fun _ _ h => h.elim
  exact ⟨h.chg.trans hx', fun b c k hb => ⟨(h.dom b c k hb).1, (h.dom b c k hb).2.1, Nat.lt_of_lt_of_le (h.dom b c k hb).2.2 hx.size⟩, h.inj, fun b c k hb => by
    rw [hx.block c (h.dom b c k hb).2.2 (fun e => e)]
    exact h.ob b c k hb, h.free⟩
end Ev
end Go.Proofs.YtibhkabmihhjiaaGreatDoor
