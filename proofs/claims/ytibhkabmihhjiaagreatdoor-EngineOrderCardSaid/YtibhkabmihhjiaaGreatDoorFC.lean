/-
  The quick reckoner says what the reckoner says: numbers, comparisons, any operation.
-/
import Derived.Test.YtibhkabmihhjiaaGreatDoorFB
namespace Go.Proofs.YtibhkabmihhjiaaGreatDoor
open Go Go.RowKit
set_option linter.unusedVariables false
set_option linter.unusedSimpArgs false
namespace Ev
variable {P : Program}
theorem subF_eq (a b : Nat) : subF a b = (a : Int) - (b : Int) := by
  unfold subF
  cases h : Nat.ble b a with
  | true =>
    have : b ≤ a := Nat.le_of_ble_eq_true h
    show ((a - b : Nat) : Int) = _
    omega
  | false =>
    have : ¬ b ≤ a := fun e => by rw [Nat.ble_eq_true_of_le e] at h; cases h
    show Int.negSucc (b - a).pred = _
    rw [Int.negSucc_eq, Nat.pred_eq_sub_one]
    omega
theorem addI_eq (x y : Int) : addI x y = x + y := by
  cases x with
  | ofNat a =>
    cases y with
    | ofNat b => rfl
    | negSucc b =>
      show subF a (b + 1) = _
      rw [subF_eq, Int.negSucc_eq]
      show (a : Int) - _ = (a : Int) + _
      omega
  | negSucc a =>
    cases y with
    | ofNat b =>
      show subF b (a + 1) = _
      rw [subF_eq, Int.negSucc_eq]
      show (b : Int) - _ = _ + (b : Int)
      omega
    | negSucc b => rfl
theorem negI_eq (x : Int) : negI x = - x := by
  cases x with
  | ofNat n => cases n <;> rfl
  | negSucc n => rfl
theorem subI_eq (x y : Int) : subI x y = x - y := by
  unfold subI
  rw [addI_eq, negI_eq]
  rfl
theorem mulI_eq (x y : Int) : mulI x y = x * y := by
  cases x with
  | ofNat a =>
    cases y with
    | ofNat b => rfl
    | negSucc b =>
      show negI (Int.ofNat (a * (b + 1))) = _
      rw [negI_eq]
      rfl
  | negSucc a =>
    cases y with
    | ofNat b =>
      show negI (Int.ofNat ((a + 1) * b)) = _
      rw [negI_eq]
      rfl
    | negSucc b => rfl
theorem ltI_eq (x y : Int) : ltI x y = decide (x < y) := by
  cases x with
  | ofNat a =>
    cases y with
    | ofNat b =>
      show Nat.ble (a + 1) b = _
      cases h : Nat.ble (a + 1) b with
      | true =>
        have := Nat.le_of_ble_eq_true h
        symm
        simp only [decide_eq_true_eq]
        show (a : Int) < (b : Int)
        omega
      | false =>
        have : ¬ a + 1 ≤ b := fun e => by rw [Nat.ble_eq_true_of_le e] at h; cases h
        symm
        simp only [decide_eq_false_iff_not]
        show ¬ (a : Int) < (b : Int)
        omega
    | negSucc b =>
      show false = _
      symm
      simp only [decide_eq_false_iff_not]
      show ¬ (a : Int) < Int.negSucc b
      rw [Int.negSucc_eq]
      omega
  | negSucc a =>
    cases y with
    | ofNat b =>
      show true = _
      symm
      simp only [decide_eq_true_eq]
      show Int.negSucc a < (b : Int)
      rw [Int.negSucc_eq]
      omega
    | negSucc b =>
      show Nat.ble (b + 1) a = _
      rw [Int.negSucc_eq, Int.negSucc_eq]
      cases h : Nat.ble (b + 1) a with
      | true =>
        have := Nat.le_of_ble_eq_true h
        symm
        simp only [decide_eq_true_eq]
        omega
      | false =>
        have : ¬ b + 1 ≤ a := fun e => by rw [Nat.ble_eq_true_of_le e] at h; cases h
        symm
        simp only [decide_eq_false_iff_not]
        omega
theorem eqI_spec (x y : Int) : eqI x y = (x == y) := by
  have h1 : ∀ a b : Nat, Nat.beq a b = decide (a = b) := fun a b => by
    cases h : Nat.beq a b with
    | true => rw [Nat.eq_of_beq_eq_true h]; simp
    | false =>
      symm
      simp only [decide_eq_false_iff_not]
      intro e
      subst e
      rw [Nat.beq_refl] at h
      cases h
  have h2 : ∀ x y : Int, (x == y) = decide (x = y) := fun x y => by
    by_cases h : x = y
    · subst h; simp
    · simp [h]
  rw [h2]
  cases x with
  | ofNat a =>
    cases y with
    | ofNat b => show Nat.beq a b = _; rw [h1]; simp; omega
    | negSucc b => show false = _; simp
  | negSucc a =>
    cases y with
    | ofNat b => show false = _; simp
    | negSucc b => show Nat.beq a b = _; rw [h1]; simp
theorem notF_eq (b : Bool) : notF b = !b := by cases b <;> rfl
theorem boolF_eq (b : Bool) (K : KV) (σ : St) : boolF b K σ = K (.bool b) σ := by cases b <;> rfl
theorem wrap_in (r : Int) (h1 : -9223372036854775808 ≤ r) (h2 : r ≤ 9223372036854775807) : IntKind.wrap .i64 r = r := by
  unfold IntKind.wrap
  simp [IntKind.bits, IntKind.signed]
  split <;> omega
theorem wrapF_eq (r : Int) (K : KV) (σ : St) : wrapF r K σ = K (.int .i64 (IntKind.wrap .i64 r)) σ := by
  cases r with
  | ofNat n =>
    show Bool.rec (motive := fun _ => OutF) _ _ (Nat.ble n 9223372036854775807) = _
    cases h : Nat.ble n 9223372036854775807 with
    | false => rfl
    | true =>
      have := Nat.le_of_ble_eq_true h
      show K (.int .i64 (.ofNat n)) σ = _
      rw [wrap_in (Int.ofNat n) (by show _ ≤ (n : Int); omega) (by show (n : Int) ≤ _; omega)]
  | negSucc n =>
    show Bool.rec (motive := fun _ => OutF) _ _ (Nat.ble n 9223372036854775807) = _
    cases h : Nat.ble n 9223372036854775807 with
    | false => rfl
    | true =>
      have := Nat.le_of_ble_eq_true h
      show K (.int .i64 (.negSucc n)) σ = _
      rw [wrap_in (Int.negSucc n) (by rw [Int.negSucc_eq]; omega) (by rw [Int.negSucc_eq]; omega)]
theorem isI64_eq {k : IntKind} (h : isI64 k = true) : k = .i64 := by cases k <;> first | rfl | cases h
theorem ints_le {op : BinOp} {t ty : TypeId} {x y : Operand} {rx ry : Rd} (hx : RdLe x rx) (hy : RdLe y ry) {f : Int → Int → KV → St → OutF} (hf : ∀ a b K σ, ∃ v, binA P t op (.int .i64 a) (.int .i64 b) = some v ∧ f a b K σ = K v σ) : OpLe P (.binOp op t x y ty) (intsR rx ry f) := by
  intro σ a K
  unfold intsR
  rcases hx a _ with h | ⟨v, hv, h⟩
  · exact .inl h
  · rw [h]
    rcases hy a _ with h | ⟨w, hw, h⟩
    · exact .inl h
    · rw [h]
      rcases onInt_c v _ with h | ⟨k, n, rfl, h⟩
      · exact .inl h
      · rw [h]
        rcases onInt_c w _ with h | ⟨k', m, rfl, h⟩
        · exact .inl h
        · rw [h]
          cases hk : isI64 k with
          | false => exact .inl ⟨_, rfl⟩
          | true =>
            cases hk' : isI64 k' with
            | false => exact .inl ⟨_, rfl⟩
            | true =>
              obtain rfl := isI64_eq hk
              obtain rfl := isI64_eq hk'
              obtain ⟨v, h1, h2⟩ := hf n m K σ
              exact .inr ⟨v, σ, .inl (by simp only [opA, hv, hw, h1]; rfl), h2⟩
theorem ptrEq_le {op : BinOp} {t ty e : TypeId} {x y : Operand} {rx ry : Rd} (hx : RdLe x rx) (hy : RdLe y ry) (ht : P.underlying t = some (.pointer e)) {neg : Bool} (hop : (op = .eql ∧ neg = false) ∨ (op = .neq ∧ neg = true)) : OpLe P (.binOp op t x y ty) (ptrEqR neg rx ry (slowRun P (.binOp op t x y ty))) := by
  intro σ a K
  unfold ptrEqR
  rcases hx a _ with h | ⟨v, hv, h⟩
  · exact .inl h
  · rw [h]
    rcases hy a _ with h | ⟨w, hw, h⟩
    · exact .inl h
    · rw [h]
      rcases onPtr_c v _ with h | ⟨p, rfl, h⟩
      · exact .inl h
      · rw [h]
        rcases onPtr_c w _ with h | ⟨q, rfl, h⟩
        · exact .inl h
        · rw [h]
          cases p with
          | none =>
            cases q with
            | none => exact .inr ⟨.bool (notF neg), σ, .inl (by rcases hop with ⟨rfl, rfl⟩ | ⟨rfl, rfl⟩ <;> simp [opA, hv, hw, binA, eqA, ht, notF]), boolF_eq _ _ _⟩
            | some q => exact .inr ⟨.bool neg, σ, .inl (by rcases hop with ⟨rfl, rfl⟩ | ⟨rfl, rfl⟩ <;> simp [opA, hv, hw, binA, eqA, ht]), boolF_eq _ _ _⟩
          | some p =>
            cases q with
            | none => exact .inr ⟨.bool neg, σ, .inl (by rcases hop with ⟨rfl, rfl⟩ | ⟨rfl, rfl⟩ <;> simp [opA, hv, hw, binA, eqA, ht]), boolF_eq _ _ _⟩
            | some q => exact slow_le _ σ a K
theorem len_le {c : Call} {x : Operand} {t e : TypeId} {r : Rd} (hr : RdLe x r) (hc : c.callee = .builtin .len) (ha : c.args.toList = [x]) (hat : c.argTypes.toList = [t]) (ht : P.underlying t = some (.slice e)) : OpLe P (.call c) (lenR r) := by
  intro σ a K
  unfold lenR
  rcases hr a _ with h | ⟨v, hv, h⟩
  · exact .inl h
  · rw [h]
    rcases onSlice_c v _ with h | ⟨q, n, m, rfl, h⟩
    · exact .inl h
    · exact .inr ⟨_, σ, .inl (by simp only [opA, ha, evOs, hv, hc, builtinA, hat, ht]; rfl), h⟩
theorem extract_le {x : Operand} {i : Nat} {r : Rd} (hr : RdLe x r) : OpLe P (.extract x i) (extractR i r) := by
  intro σ a K
  unfold extractR
  rcases hr a _ with h | ⟨v, hv, h⟩
  · exact .inl h
  · rw [h]
    rcases onTuple_c v _ with h | ⟨vs, rfl, h⟩
    · exact .inl h
    · rw [h]
      obtain ⟨l⟩ := vs
      rcases nthF_c l i (fun v => K v σ) with h | ⟨u, hu, h⟩
      · exact .inl h
      · exact .inr ⟨u, σ, .inl (by simp [opA, hv, hu]), h⟩
theorem not_le {t : TypeId} {x : Operand} {r : Rd} (hr : RdLe x r) : OpLe P (.unOp .not t x) (notR r) := by
  intro σ a K
  unfold notR
  rcases hr a _ with h | ⟨v, hv, h⟩
  · exact .inl h
  · rw [h]
    rcases onBool_c v _ with h | ⟨b, rfl, h⟩
    · exact .inl h
    · rw [h, notF_eq]
      exact .inr ⟨.bool (!b), σ, .inl (by simp only [opA, hv]; rfl), boolF_eq _ _ _⟩
theorem opC_le {R : Type} (o : Op) (K : OpRun → R) : ∃ run, OpLe P o run ∧ opC P o K = K run := by
  have slow : ∃ run, OpLe P o run ∧ K (slowRun P o) = K run := ⟨_, slow_le o, rfl⟩
  unfold opC
  split
  · next x => obtain ⟨r, h1, h2⟩ := opdC_le x (fun r => K (moveR r)); exact ⟨_, move_le h1, h2⟩
  · next x => obtain ⟨r, h1, h2⟩ := opdC_le x (fun r => K (moveR r)); exact ⟨_, assign_le h1, h2⟩
  · next t x =>
    split
    · exact slow
    · next d hd =>
      split
      · next hag => obtain ⟨r, h1, h2⟩ := opdC_le x (fun r => K (loadR r)); exact ⟨_, load_le h1 hd hag, h2⟩
      · next hag =>
        split
        · exact slow
        · next i hi => obtain ⟨r, h1, h2⟩ := opdC_le x (fun r => K (loadAggR i.size r)); exact ⟨_, loadAgg_le h1 hd hag hi, h2⟩
  · next t x y =>
    split
    · exact slow
    · next i hi =>
      split
      · exact slow
      · next hb =>
        obtain ⟨rx, h1, h2⟩ := opdC_le x (fun rx => opdC y fun ry => K (storeR rx ry (slowRun P (.store t x y))))
        obtain ⟨ry, h3, h4⟩ := opdC_le y (fun ry => K (storeR rx ry (slowRun P (.store t x y))))
        exact ⟨_, store_le h1 h3 hi (Nat.eq_of_beq_eq_true hb), h2.trans h4⟩
  · next x => obtain ⟨r, h1, h2⟩ := opdC_le x (fun r => K (nilCheckR r (slowRun P (.nilCheck x)))); exact ⟨_, nilCheck_le h1 _, h2⟩
  · next s x f =>
    split
    · next fs hs =>
      split
      · next fl hf =>
        split
        · next n hn =>
          split
          · exact slow
          · next hb =>
            obtain ⟨r, h1, h2⟩ := opdC_le x (fun r => K (fieldAddrR fl.offset r))
            exact ⟨_, fieldAddr_le h1 hs hf hn (fun e => by rw [e] at hb; cases hb), h2⟩
        · exact slow
      · exact slow
    · exact slow
  · next t x ix =>
    split
    · next e ht =>
      split
      · next n hn =>
        obtain ⟨rx, h1, h2⟩ := opdC_le x (fun rx => opdC ix fun ri => K (indexAddrR n rx ri))
        obtain ⟨ri, h3, h4⟩ := opdC_le ix (fun ri => K (indexAddrR n rx ri))
        exact ⟨_, indexAddr_le h1 h3 ht hn, h2.trans h4⟩
      · exact slow
    · exact slow
  · next op t x y ty =>
    have two : ∀ (f : Rd → Rd → OpRun), (∀ rx ry, RdLe x rx → RdLe y ry → OpLe P (.binOp op t x y ty) (f rx ry)) → ∃ run, OpLe P (.binOp op t x y ty) run ∧ (opdC x fun rx => opdC y fun ry => K (f rx ry)) = K run := fun f hf => by
      obtain ⟨rx, h1, h2⟩ := opdC_le x (fun rx => opdC y fun ry => K (f rx ry))
      obtain ⟨ry, h3, h4⟩ := opdC_le y (fun ry => K (f rx ry))
      exact ⟨_, hf rx ry h1 h3, h2.trans h4⟩
    split
    · next ht =>
      split
      · exact two _ fun rx ry h1 h2 => ints_le h1 h2 fun a b K σ => ⟨.int .i64 (IntKind.wrap .i64 (a + b)), rfl, by rw [addI_eq, wrapF_eq]⟩
      · exact two _ fun rx ry h1 h2 => ints_le h1 h2 fun a b K σ => ⟨.int .i64 (IntKind.wrap .i64 (a - b)), rfl, by rw [subI_eq, wrapF_eq]⟩
      · exact two _ fun rx ry h1 h2 => ints_le h1 h2 fun a b K σ => ⟨.int .i64 (IntKind.wrap .i64 (a * b)), rfl, by rw [mulI_eq, wrapF_eq]⟩
      · exact two _ fun rx ry h1 h2 => ints_le h1 h2 fun a b K σ => ⟨.bool (a == b), rfl, by rw [eqI_spec, boolF_eq]⟩
      · exact two _ fun rx ry h1 h2 => ints_le h1 h2 fun a b K σ => ⟨.bool (a != b), rfl, by rw [eqI_spec, notF_eq, boolF_eq]; rfl⟩
      · exact two _ fun rx ry h1 h2 => ints_le h1 h2 fun a b K σ => ⟨.bool (decide (a < b)), rfl, by rw [ltI_eq, boolF_eq]⟩
      · exact two _ fun rx ry h1 h2 => ints_le h1 h2 fun a b K σ => ⟨.bool (decide (a > b)), rfl, by rw [ltI_eq, boolF_eq]⟩
      · exact two _ fun rx ry h1 h2 => ints_le h1 h2 fun a b K σ => ⟨.bool (decide (a ≤ b)), rfl, by rw [ltI_eq, notF_eq, boolF_eq]; congr 2; by_cases h : b < a <;> simp [h] <;> omega⟩
      · exact two _ fun rx ry h1 h2 => ints_le h1 h2 fun a b K σ => ⟨.bool (decide (a ≥ b)), rfl, by rw [ltI_eq, notF_eq, boolF_eq]; congr 2; by_cases h : a < b <;> simp [h] <;> omega⟩
      · exact slow
    · next e ht =>
      split
      · exact two _ fun rx ry h1 h2 => ptrEq_le h1 h2 ht (.inl ⟨rfl, rfl⟩)
      · exact two _ fun rx ry h1 h2 => ptrEq_le h1 h2 ht (.inr ⟨rfl, rfl⟩)
      · exact slow
    · exact slow
  · next t x => obtain ⟨r, h1, h2⟩ := opdC_le x (fun r => K (notR r)); exact ⟨_, not_le h1, h2⟩
  · next x i => obtain ⟨r, h1, h2⟩ := opdC_le x (fun r => K (extractR i r)); exact ⟨_, extract_le h1, h2⟩
  · next c =>
    split
    · next x t hc ha hat =>
      split
      · next e ht => obtain ⟨r, h1, h2⟩ := opdC_le x (fun r => K (lenR r)); exact ⟨_, len_le h1 hc ha hat ht, h2⟩
      · exact slow
    · exact slow
  · exact slow
end Ev
end Go.Proofs.YtibhkabmihhjiaaGreatDoor
