/-
  The quick reckoner says what the reckoner says: trees, readings, operations.
-/
import Derived.Test.YtibhkabmihhjiaaGreatDoorFA
import Derived.Test.YtibhkabmihhjiaaGreatDoorEO
namespace Go.Proofs.YtibhkabmihhjiaaGreatDoor
open Go Go.RowKit
set_option linter.unusedVariables false
set_option linter.unusedSimpArgs false
namespace Ev
variable {P : Program}
/-! ### Trees -/
section
variable {α : Type}
theorem getAt_spec {R : Type} (d k : Nat) (hk : k < 16) (g : QT α d → Option α) (K : (Six (QT α d) → Option α) → R) : ∃ s, (∀ t, s t = g (Six.sel t k)) ∧ getAt d k g K = K s := by
  have h : k = 0 ∨ k = 1 ∨ k = 2 ∨ k = 3 ∨ k = 4 ∨ k = 5 ∨ k = 6 ∨ k = 7 ∨ k = 8 ∨ k = 9 ∨ k = 10 ∨ k = 11 ∨ k = 12 ∨ k = 13 ∨ k = 14 ∨ k = 15 := by omega
  rcases h with rfl | rfl | rfl | rfl | rfl | rfl | rfl | rfl | rfl | rfl | rfl | rfl | rfl | rfl | rfl | rfl <;> exact ⟨_, fun t => rfl, rfl⟩
theorem setAt_spec {R : Type} (d k : Nat) (hk : k < 16) (s : α → QT α d → QT α d) (K : (α → Six (QT α d) → Six (QT α d)) → R) : ∃ u, (∀ x t, u x t = Six.upd t k (s x)) ∧ setAt d k s K = K u := by
  have h : k = 0 ∨ k = 1 ∨ k = 2 ∨ k = 3 ∨ k = 4 ∨ k = 5 ∨ k = 6 ∨ k = 7 ∨ k = 8 ∨ k = 9 ∨ k = 10 ∨ k = 11 ∨ k = 12 ∨ k = 13 ∨ k = 14 ∨ k = 15 := by omega
  rcases h with rfl | rfl | rfl | rfl | rfl | rfl | rfl | rfl | rfl | rfl | rfl | rfl | rfl | rfl | rfl | rfl <;> exact ⟨_, fun x t => rfl, rfl⟩
theorem getQC_spec {R : Type} : ∀ (d n : Nat) (K : (QT α d → Option α) → R), ∃ g, (∀ t, g t = getQ α d n t) ∧ getQC d n K = K g
  | 0, n, K => ⟨_, fun t => rfl, rfl⟩
  | d + 1, n, K => by
    obtain ⟨g, h1, h2⟩ := getQC_spec d (n / 16) (fun g => getAt d (n % 16) g K)
    obtain ⟨s, h3, h4⟩ := getAt_spec d (n % 16) (Nat.mod_lt _ (by omega)) g K
    exact ⟨s, fun t => (h3 t).trans (h1 _), (show getQC (d + 1) n K = getQC d (n / 16) (fun g => getAt d (n % 16) g K) from rfl).trans (h2.trans h4)⟩
theorem setQC_spec {R : Type} : ∀ (d n : Nat) (K : (α → QT α d → QT α d) → R), ∃ s, (∀ x t, s x t = setQ α d n x t) ∧ setQC d n K = K s
  | 0, n, K => ⟨_, fun x t => rfl, rfl⟩
  | d + 1, n, K => by
    obtain ⟨g, h1, h2⟩ := setQC_spec d (n / 16) (fun s => setAt d (n % 16) s K)
    obtain ⟨s, h3, h4⟩ := setAt_spec d (n % 16) (Nat.mod_lt _ (by omega)) g K
    refine ⟨s, fun x t => (h3 x t).trans ?_, (show setQC (d + 1) n K = setQC d (n / 16) (fun s => setAt d (n % 16) s K) from rfl).trans (h2.trans h4)⟩
    have : g x = setQ α d (n / 16) x := funext fun t => h1 x t
    rw [this]
    rfl
theorem getC_spec {R : Type} (d n : Nat) (K : (Tr d α → Option α) → R) : ∃ g, (∀ t : Tr d α, g t = t.get n) ∧ getC d n K = K g := by
  unfold getC
  cases hb : Nat.ble (Nat.succ n) (Nat.pow 16 d) with
  | true =>
    obtain ⟨g, h1, h2⟩ := getQC_spec d n (fun g => K fun t => g (Tr.q t))
    refine ⟨_, fun t => ?_, h2⟩
    show g t.q = t.get n
    unfold Tr.get
    rw [hb]
    exact h1 _
  | false => exact ⟨_, fun t => rfl, rfl⟩
theorem setC_spec {R : Type} (d n : Nat) (K : (α → Tr d α → Tr d α) → R) : ∃ s, (∀ x (t : Tr d α), s x t = t.set n x) ∧ setC d n K = K s := by
  unfold setC
  cases hb : Nat.ble (Nat.succ n) (Nat.pow 16 d) with
  | true =>
    obtain ⟨g, h1, h2⟩ := setQC_spec d n (fun s => K fun x t => Tr.rec (motive := fun _ => Tr d α) (fun q r => ⟨s x q, r⟩) t)
    refine ⟨_, fun x t => ?_, h2⟩
    obtain ⟨q, r⟩ := t
    show (⟨g x q, r⟩ : Tr d α) = _
    unfold Tr.set
    rw [hb]
    exact congrArg (fun q => (⟨q, r⟩ : Tr d α)) (h1 x q)
  | false => exact ⟨_, fun x t => rfl, rfl⟩
end
theorem getOK_spec (b : Nat) : ∃ g, getOK b = .mk g ∧ ∀ h : Hp, g h = h.get b := by
  obtain ⟨g, h1, h2⟩ := getC_spec (α := Ob) 4 b Clo.mk
  exact ⟨g, h2, h1⟩
theorem setOK_spec (b : Nat) : ∃ s, setOK b = .mk s ∧ ∀ o (h : Hp), s o h = h.set b o := by
  obtain ⟨g, h1, h2⟩ := setC_spec (α := Ob) 4 b Clo.mk
  exact ⟨g, h2, h1⟩
theorem setVK_spec (b : Nat) : ∃ s, setVK b = .mk s ∧ ∀ o (h : Env), s o h = h.set b o := by
  obtain ⟨g, h1, h2⟩ := setC_spec (α := Value) 2 b Clo.mk
  exact ⟨g, h2, h1⟩
/-! ### Results -/
def Bad (r : OutF) : Prop := ∃ w, r = .no w
theorem bad_no (w : List Nat) : Bad (.no w) := ⟨w, rfl⟩
theorem onBool_c (v : Value) (K : Bool → OutF) : Bad (onBool v K) ∨ ∃ b, v = .bool b ∧ onBool v K = K b := by
  cases v <;> first | exact .inl ⟨_, rfl⟩ | exact .inr ⟨_, rfl, rfl⟩
theorem onInt_c (v : Value) (K : IntKind → Int → OutF) : Bad (onInt v K) ∨ ∃ k n, v = .int k n ∧ onInt v K = K k n := by
  cases v <;> first | exact .inl ⟨_, rfl⟩ | exact .inr ⟨_, _, rfl, rfl⟩
theorem onPtr_c (v : Value) (K : Option Addr → OutF) : Bad (onPtr v K) ∨ ∃ a, v = .pointer a ∧ onPtr v K = K a := by
  cases v <;> first | exact .inl ⟨_, rfl⟩ | exact .inr ⟨_, rfl, rfl⟩
theorem onSlice_c (v : Value) (K : Option Addr → Nat → Nat → OutF) : Bad (onSlice v K) ∨ ∃ a n m, v = .slice a n m ∧ onSlice v K = K a n m := by
  cases v <;> first | exact .inl ⟨_, rfl⟩ | exact .inr ⟨_, _, _, rfl, rfl⟩
theorem onFunc_c (v : Value) (K : Fn → Array Value → Array Value → OutF) : Bad (onFunc v K) ∨ ∃ f a b, v = .func f a b ∧ onFunc v K = K f a b := by
  cases v <;> first | exact .inl ⟨_, rfl⟩ | exact .inr ⟨_, _, _, rfl, rfl⟩
theorem onTuple_c (v : Value) (K : Array Value → OutF) : Bad (onTuple v K) ∨ ∃ vs, v = .tuple vs ∧ onTuple v K = K vs := by
  cases v <;> first | exact .inl ⟨_, rfl⟩ | exact .inr ⟨_, rfl, rfl⟩
theorem atAddr_c (v : Value) (K : Nat → Nat → OutF) : Bad (atAddr v K) ∨ ∃ b o sp, v = .pointer (some ⟨b, o, sp⟩) ∧ atAddr v K = K b o := by
  unfold atAddr
  rcases onPtr_c v _ with h | ⟨a, rfl, h⟩
  · exact .inl h
  · rw [h]
    cases a with
    | none => exact .inl ⟨_, rfl⟩
    | some p => obtain ⟨b, o, sp⟩ := p; exact .inr ⟨b, o, sp, rfl, rfl⟩
theorem nthF_c : ∀ (l : List Value) (n : Nat) (K : Value → OutF), Bad (nthF l n K) ∨ ∃ v, l[n]? = some v ∧ nthF l n K = K v
  | [], n, K => .inl ⟨_, rfl⟩
  | v :: l, 0, K => .inr ⟨v, rfl, rfl⟩
  | v :: l, n + 1, K => by
    rcases nthF_c l n K with h | ⟨u, h1, h2⟩
    · exact .inl h
    · exact .inr ⟨u, by simpa using h1, h2⟩
theorem hasF_spec : ∀ (l : List Value) (n : Nat), hasF l n = true → n < l.length
  | [], n, h => by cases h
  | v :: l, 0, h => by simp
  | v :: l, n + 1, h => by have := hasF_spec l n h; simp; omega
theorem setL_spec : ∀ (l : List Value) (n : Nat) (v : Value), n < l.length → setL l n v = l.take n ++ [v] ++ l.drop (n + 1)
  | [], n, v, h => by simp at h
  | u :: l, 0, v, h => by rfl
  | u :: l, n + 1, v, h => by
    show u :: setL l n v = _
    rw [setL_spec l n v (by simpa using h)]
    rfl
theorem dropF_spec : ∀ (n : Nat) (l : List Value), dropF n l = l.drop n
  | 0, l => rfl
  | n + 1, [] => rfl
  | n + 1, v :: l => dropF_spec n l
theorem takeF_spec : ∀ (n : Nat) (l r : List Value), takeF n l = some r → l.take n = r ∧ r.length = n
  | 0, l, r, h => by
    have h : some [] = some r := h
    injection h with h
    subst h
    exact ⟨rfl, rfl⟩
  | n + 1, [], r, h => by cases h
  | n + 1, v :: l, r, h => by
    have h : Option.rec (motive := fun _ => Option (List Value)) none (fun r => some (v :: r)) (takeF n l) = some r := h
    cases hq : takeF n l with
    | none => rw [hq] at h; cases h
    | some q =>
      rw [hq] at h
      have h : some (v :: q) = some r := h
      injection h with h
      subst h
      obtain ⟨h1, h2⟩ := takeF_spec n l q hq
      exact ⟨by rw [List.take_succ_cons, h1], by simp [h2]⟩
theorem cellsF_c (b : Nat) (σ : St) (K : List Value → TypeId → Nat → OutF) : Bad (cellsF b σ K) ∨ ∃ vs e g, σ.heap.get b = some (.cells vs e g) ∧ cellsF b σ K = K vs e g := by
  obtain ⟨n, h⟩ := σ
  obtain ⟨g, h1, h2⟩ := getOK_spec b
  have e : cellsF b ⟨n, h⟩ K = Option.rec (motive := fun _ => OutF) (.no [7330]) (fun ob => Ob.rec (motive := fun _ => OutF) K (fun _ => .no [7331]) (.no [7332]) ob) (h.get b) := by
    rw [← h2 h]
    show Option.rec (motive := fun _ => OutF) _ _ (Clo.rec (motive := fun _ => Option Ob) (fun g => g h) (getOK b)) = _
    rw [h1]
  rw [e]
  cases hg : h.get b with
  | none => exact .inl ⟨_, rfl⟩
  | some ob =>
    cases ob with
    | cells vs e g => exact .inr ⟨vs, e, g, by first | exact hg | rfl, rfl⟩
    | map es => exact .inl ⟨_, rfl⟩
    | dead => exact .inl ⟨_, rfl⟩
theorem putF_eq (b : Nat) (o : Ob) (σ : St) (K : St → OutF) : putF b o σ K = K (σ.put b o) := by
  obtain ⟨n, h⟩ := σ
  obtain ⟨g, h1, h2⟩ := setOK_spec b
  show K ⟨n, Clo.rec (motive := fun _ => Hp) (fun s => s o h) (setOK b)⟩ = K ⟨n, h.set b o⟩
  rw [h1]
  show K ⟨n, g o h⟩ = _
  rw [h2]
/-! ### Operands -/
def RdLe (x : Operand) (r : Rd) : Prop := ∀ a K, Bad (r a K) ∨ ∃ v, evO a x = some v ∧ r a K = K v
theorem opdC_le {R : Type} (x : Operand) (K : Rd → R) : ∃ r, RdLe x r ∧ opdC x K = K r := by
  cases x with
  | tmp t =>
    obtain ⟨g, h1, h2⟩ := getC_spec (α := Value) 2 t (fun g => K (rdTmp g))
    refine ⟨rdTmp g, fun a K => ?_, h2⟩
    unfold rdTmp
    rw [h1 a]
    cases hg : a.get t with
    | none => exact .inl ⟨_, rfl⟩
    | some v => exact .inr ⟨v, hg, rfl⟩
  | const v =>
    unfold opdC
    cases hp : plainConst v with
    | true => exact ⟨rdVal v, fun a K => .inr ⟨v, by simp [evO, hp], rfl⟩, if_pos hp⟩
    | false => exact ⟨rdNo, fun a K => .inl ⟨_, rfl⟩, if_neg (by rw [hp]; simp)⟩
  | func f => exact ⟨_, fun a K => .inr ⟨_, rfl, rfl⟩, rfl⟩
  | global g => exact ⟨rdNo, fun a K => .inl ⟨_, rfl⟩, rfl⟩
/-! ### Operations -/
def OpLe (P : Program) (o : Op) (run : OpRun) : Prop := ∀ σ a K, Bad (run σ a K) ∨ ∃ v σ', (opA P σ a o = some (.val v σ') ∨ (opA P σ a o = some (.skip σ') ∧ v = undefA)) ∧ run σ a K = K v σ'
theorem slow_le (o : Op) : OpLe P o (slowRun P o) := by
  intro σ a K
  unfold slowRun
  split
  · next v σ' h => exact .inr ⟨v, σ', .inl h, rfl⟩
  · next σ' h => exact .inr ⟨_, σ', .inr ⟨h, rfl⟩, rfl⟩
  · exact .inl ⟨_, rfl⟩
theorem move_le {x : Operand} {r : Rd} (hr : RdLe x r) : OpLe P (.move x) (moveR r) := by
  intro σ a K
  rcases hr a (fun v => K v σ) with h | ⟨v, hv, h⟩
  · exact .inl h
  · exact .inr ⟨v, σ, .inl (by simp [opA, hv]), h⟩
theorem assign_le {x : Operand} {r : Rd} (hr : RdLe x r) : OpLe P (.assign x) (moveR r) := by
  intro σ a K
  rcases hr a (fun v => K v σ) with h | ⟨v, hv, h⟩
  · exact .inl h
  · exact .inr ⟨v, σ, .inl (by simp [opA, hv]), h⟩
theorem load_le {t : TypeId} {x : Operand} {r : Rd} (hr : RdLe x r) {d : TypeDesc} (hd : P.underlying t = some d) (hag : isAggD d = false) : OpLe P (.load t x) (loadR r) := by
  intro σ a K
  rcases hr a (fun v => atAddr v fun b o => cellsF b σ fun vs _ _ => nthF vs o fun v => K v σ) with h | ⟨v, hv, h⟩
  · exact .inl h
  · have e : loadR r σ a K = _ := h
    rw [e]
    rcases atAddr_c v (fun b o => cellsF b σ fun vs _ _ => nthF vs o fun v => K v σ) with h | ⟨b, o, sp, rfl, h⟩
    · exact .inl h
    · rw [h]
      rcases cellsF_c b σ (fun vs _ _ => nthF vs o fun v => K v σ) with h | ⟨vs, e, g, hg, h⟩
      · exact .inl h
      · rw [h]
        rcases nthF_c vs o (fun v => K v σ) with h | ⟨u, hu, h⟩
        · exact .inl h
        · exact .inr ⟨u, σ, .inl (by simp [opA, hv, loadA, hg, hd, hag, hu]), h⟩
theorem loadAgg_le {t : TypeId} {x : Operand} {r : Rd} (hr : RdLe x r) {d : TypeDesc} (hd : P.underlying t = some d) (hag : isAggD d = true) {i : TypeInfo} (hi : P.info? t = some i) : OpLe P (.load t x) (loadAggR i.size r) := by
  intro σ a K
  rcases hr a (fun v => atAddr v fun b o => cellsF b σ fun vs _ _ => Option.rec (motive := fun _ => OutF) (.no [7342]) (fun l => K (.agg ⟨l⟩) σ) (takeF i.size (dropF o vs))) with h | ⟨v, hv, h⟩
  · exact .inl h
  · have e : loadAggR i.size r σ a K = _ := h
    rw [e]
    rcases atAddr_c v (fun b o => cellsF b σ fun vs _ _ => Option.rec (motive := fun _ => OutF) (.no [7342]) (fun l => K (.agg ⟨l⟩) σ) (takeF i.size (dropF o vs))) with h | ⟨b, o, sp, rfl, h⟩
    · exact .inl h
    · rw [h]
      rcases cellsF_c b σ (fun vs _ _ => Option.rec (motive := fun _ => OutF) (.no [7342]) (fun l => K (.agg ⟨l⟩) σ) (takeF i.size (dropF o vs))) with h | ⟨vs, e, g, hg, h⟩
      · exact .inl h
      · rw [h, dropF_spec]
        cases hq : takeF i.size (vs.drop o) with
        | none => exact .inl ⟨_, rfl⟩
        | some q =>
          obtain ⟨h1, h2⟩ := takeF_spec _ _ _ hq
          exact .inr ⟨.agg ⟨q⟩, σ, .inl (by simp [opA, hv, loadA, hg, hd, hag, hi, h1, h2]), rfl⟩
theorem oneF_eq (v : Value) : oneF v = oneC v := by cases v <;> rfl
theorem cellsL_one {v : Value} (h : oneC v = true) : cellsL v = [v] := by cases v <;> first | rfl | cases h
theorem store_le {t : TypeId} {x y : Operand} {rx ry : Rd} (hx : RdLe x rx) (hy : RdLe y ry) {i : TypeInfo} (hi : P.info? t = some i) (h1 : i.size = 1) : OpLe P (.store t x y) (storeR rx ry (slowRun P (.store t x y))) := by
  intro σ a K
  unfold storeR
  rcases hx a _ with h | ⟨v, hv, h⟩
  · exact .inl h
  · rw [h]
    rcases hy a _ with h | ⟨u, hu, h⟩
    · exact .inl h
    · rw [h, oneF_eq]
      cases ho : oneC u with
      | false => exact slow_le _ σ a K
      | true =>
        show Bad (atAddr v _) ∨ _
        rcases atAddr_c v _ with h | ⟨b, o, sp, rfl, h⟩
        · exact .inl h
        · rw [h]
          rcases cellsF_c b σ _ with h | ⟨vs, e, g, hg, h⟩
          · exact .inl h
          · rw [h]
            cases hh : hasF vs o with
            | false => exact .inl ⟨_, rfl⟩
            | true =>
              have hlt := hasF_spec vs o hh
              refine .inr ⟨undefA, σ.put b (.cells (setL vs o u) e g), .inr ⟨?_, rfl⟩, putF_eq _ _ _ _⟩
              rw [setL_spec vs o u hlt]
              simp [opA, hv, hu, storeA, hi, h1, cellsL_one ho, storeL, hg, ho, hlt]
              omega
theorem nilCheck_le {x : Operand} {r : Rd} (hr : RdLe x r) (slow : OpRun) : OpLe P (.nilCheck x) (nilCheckR r slow) := by
  intro σ a K
  unfold nilCheckR
  rcases hr a _ with h | ⟨v, hv, h⟩
  · exact .inl h
  · rw [h]
    rcases onPtr_c v _ with h | ⟨q, rfl, h⟩
    · exact .inl h
    · rw [h]
      cases q with
      | none => exact .inl ⟨_, rfl⟩
      | some p => exact .inr ⟨_, σ, .inl (by simp [opA, hv]), rfl⟩
theorem fieldAddr_le {s : TypeId} {x : Operand} {f : Nat} {r : Rd} (hr : RdLe x r) {fs : Array Field} (hs : P.underlying s = some (.struct fs)) {fl : Field} (hf : fs.toList[f]? = some fl) {n : Nat} (hn : sizeA P fl.type = some n) (h0 : n ≠ 0) : OpLe P (.fieldAddr s x f) (fieldAddrR fl.offset r) := by
  intro σ a K
  unfold fieldAddrR
  rcases hr a _ with h | ⟨v, hv, h⟩
  · exact .inl h
  · rw [h]
    rcases atAddr_c v _ with h | ⟨b, o, sp, rfl, h⟩
    · exact .inl h
    · exact .inr ⟨_, σ, .inl (by simp only [opA, hs, hv, hf, hn, if_neg h0]; rfl), h⟩
theorem natF_c (v : Value) (K : Nat → OutF) : Bad (natF v K) ∨ ∃ n, natOf v = some n ∧ natF v K = K n := by
  unfold natF
  rcases onInt_c v _ with h | ⟨k, n, rfl, h⟩
  · exact .inl h
  · rw [h]
    cases n with
    | ofNat n => exact .inr ⟨n, rfl, rfl⟩
    | negSucc n => exact .inl ⟨_, rfl⟩
theorem indexAddr_le {t : TypeId} {x ix : Operand} {rx ri : Rd} (hx : RdLe x rx) (hi : RdLe ix ri) {e : TypeId} (ht : P.underlying t = some (.slice e)) {n : Nat} (hn : sizeA P e = some n) : OpLe P (.indexAddr t x ix) (indexAddrR n rx ri) := by
  intro σ a K
  unfold indexAddrR
  rcases hx a _ with h | ⟨v, hv, h⟩
  · exact .inl h
  · rw [h]
    rcases hi a _ with h | ⟨w, hw, h⟩
    · exact .inl h
    · rw [h]
      rcases onSlice_c v _ with h | ⟨q, len, cap, rfl, h⟩
      · exact .inl h
      · rw [h]
        rcases natF_c w _ with h | ⟨i, hi, h⟩
        · exact .inl h
        · rw [h]
          cases hb : Nat.ble (Nat.succ i) len with
          | false => exact .inl ⟨_, rfl⟩
          | true =>
            have hlt : i < len := Nat.le_of_ble_eq_true hb
            cases q with
            | none => exact .inl ⟨_, rfl⟩
            | some p =>
              obtain ⟨b, o, sp⟩ := p
              exact .inr ⟨_, σ, .inl (by simp only [opA, ht, hv, hw, hi, hn, if_pos hlt]; rfl), rfl⟩
end Ev
end Go.Proofs.YtibhkabmihhjiaaGreatDoor
