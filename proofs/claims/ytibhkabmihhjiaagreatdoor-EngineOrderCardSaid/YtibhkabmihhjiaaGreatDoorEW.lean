/-
  Calls into the library, as the reckoner does them: by what their contracts say.
-/
import Derived.Test.YtibhkabmihhjiaaGreatDoorEM
import Derived.Lib.Join
import Derived.Lib.Atoi
namespace Go.Proofs.YtibhkabmihhjiaaGreatDoor
open Go Go.RowKit
set_option linter.unusedVariables false
set_option linter.unusedSimpArgs false
namespace Ev
variable {P : Program}
/-! ### Plain values alone -/
noncomputable def plainH (f : Nat) (g : List Value → Option Value) : Hook := fun _ f' args σ =>
  match Nat.beq f' f with
  | false => none
  | true => match args.all plainConst with
    | false => none
    | true => match g args with
      | none => none
      | some v => some (.ok (.ret v, σ))
theorem plain_same {ρ : Pl} {v u : Value} (h : Rel ρ v u) (hp : plainConst v = true) : u = v := by
  cases h <;> first | rfl | (cases hp; done) | skip
  case agg cs cs' h =>
    have : ∀ {l l' : List Value}, Rels ρ l l' → l.all scalC = true → l' = l := by
      intro l
      induction l with
      | nil => intro l' h _; cases h; rfl
      | cons x l ih =>
        intro l' h hl
        cases h with
        | cons h k =>
          simp only [List.all_cons, Bool.and_eq_true] at hl
          rw [scal_same h hl.1, ih k hl.2]
    exact congrArg Value.agg (Array.ext' (this h (by simpa [plainConst, scalC] using hp)))
theorem plains_same {ρ : Pl} : ∀ {l l' : List Value}, Rels ρ l l' → l.all plainConst = true → l' = l
  | [], [], _, _ => rfl
  | _ :: _, _ :: _, .cons h k, hl => by
    simp only [List.all_cons, Bool.and_eq_true] at hl
    rw [plain_same h hl.1, plains_same k hl.2]
theorem plain_ok {f : Nat} {g : List Value → Option Value} (hf : ∃ fn, P.funcs[f]? = some fn ∧ fn.body.isSome = true) (hg : ∀ args v, g args = some v → (∀ ρ, Rel ρ v v) ∧ ∀ w, Calls P f args.toArray w fun e w' => e = .returned v ∧ Ext w w') : HookOk P (plainH f g) := by
  intro call hgood f' args σ fr σ' h
  unfold plainH at h
  split at h
  · cases h
  · next hfe =>
    have hfe : f' = f := Nat.eq_of_beq_eq_true hfe
    subst hfe
    refine ⟨hf, ?_⟩
    split at h
    · cases h
    · next hp =>
      split at h
      · cases h
      · next v hv =>
        simp only [Option.some.injEq, Rs.ok.injEq, Prod.mk.injEq] at h
        obtain ⟨rfl, rfl⟩ := h
        intro w0 ρ w cargs hs hr
        obtain ⟨cl⟩ := cargs
        have := plains_same hr hp
        subst this
        obtain ⟨h1, h2⟩ := hg _ v hv
        refine (h2 w).mono ?_
        rintro e w' ⟨rfl, hx⟩
        exact ⟨ρ, hs.ext hx, Step.refl ρ _, v, rfl, h1 ρ⟩
/-! ### strconv.Atoi -/
def atoiG : List Value → Option Value
  | [.string s] => match Nat.ble s.data.toList.length 18 with
    | true => match Lib.atoi s.data.toList with
      | some n => some (.tuple #[.int .i64 n, .nilIface])
      | none => none
    | false => none
  | _ => none
theorem atoi_ok {f : Nat} (hf : ∃ fn, P.funcs[f]? = some fn ∧ fn.body.isSome = true) (hg : ∀ (s : ByteArray) (n : Int), s.size ≤ 18 → Lib.atoi s.data.toList = some n → ∀ w, Calls P f #[.string s] w fun e w' => e = .returned (.tuple #[.int .i64 n, .nilIface]) ∧ Ext w w') : HookOk P (plainH f atoiG) := by
  refine plain_ok hf fun args v h => ?_
  unfold atoiG at h
  split at h
  · next s =>
    split at h
    · next hl =>
      split at h
      · next n hn =>
        injection h with h
        subst h
        exact ⟨fun ρ => .tuple (.cons (.int _ _) (.cons .nilIface .nil)), fun w => hg s n (by have h1 : s.data.toList.length ≤ 18 := Nat.le_of_ble_eq_true hl; rw [Array.length_toList] at h1; exact h1) hn w⟩
      · cases h
    · cases h
  · cases h
/-! ### strings.Join -/
def strsOf : List Value → Option (List ByteArray)
  | [] => some []
  | .string s :: l => match strsOf l with
    | some r => some (s :: r)
    | none => none
  | _ => none
theorem strsOf_spec {ρ : Pl} : ∀ {l l' : List Value} {xs : List ByteArray}, strsOf l = some xs → Rels ρ l l' → l' = xs.map Value.string
  | [], [], xs, h, _ => by
    simp only [strsOf, Option.some.injEq] at h
    subst h
    rfl
  | v :: l, v' :: l', xs, h, .cons h1 h2 => by
    cases v <;> first | (cases h; done) | skip
    next s =>
    simp only [strsOf] at h
    split at h
    · next r hr =>
      injection h with h
      subst h
      cases h1
      rw [strsOf_spec hr h2]
      rfl
    · cases h
noncomputable def joinH (fJ : Nat) : Hook := fun call f args σ =>
  match Nat.beq f fJ with
  | false => none
  | true => match args with
    | [.slice (some a) n c, .string sep] => match okS a.spot && Nat.ble n c with
      | false => none
      | true => match cellsA σ a n with
        | none => none
        | some l => match strsOf l with
          | none => none
          | some xs => match Nat.ble n 1000000 && Nat.ble (Lib.join (xs.map (·.data.toList)) sep.data.toList).length 1000000 with
            | true => some (.ok (.ret (.string ⟨(Lib.join (xs.map (·.data.toList)) sep.data.toList).toArray⟩), σ))
            | false => none
    | _ => none
/-- Join, however many elements. -/
def JoinGen (P : Program) (fJ : Nat) : Prop := ∀ (bk o c : Nat) (xs : List ByteArray) (sep : ByteArray) (w : World),
    (∀ (j : Nat) x, xs[j]? = some x → w.cell? ⟨bk, o + j, none⟩ = some (.string x)) → bk < w.heap.size → xs.length ≤ 140737488355328 → xs.length ≤ c →
    (Lib.join (xs.map (·.data.toList)) sep.data.toList).length ≤ 140737488355328 →
    Calls P fJ #[.slice (some ⟨bk, o, none⟩) xs.length c, .string sep] w fun e w' => e = .returned (.string ⟨(Lib.join (xs.map (·.data.toList)) sep.data.toList).toArray⟩) ∧ Below w.heap.size w w'
theorem cellsA_at {w0 : Base} {w : World} {ρ : Pl} {σ : St} (hs : Sim w0 ρ σ w) {b c k : Nat} (hb : ρ b = some (c, k)) {o m : Nat} {sp : Option Nat} {l : List Value} (h : cellsA σ ⟨b, o, sp⟩ m = some l) :
    ∃ l' : List Value, (∀ (j : Nat) v, l'[j]? = some v → w.cell? ⟨c, o + j, none⟩ = some v) ∧ Rels ρ l l' ∧ l.length = m := by
  unfold cellsA at h
  have hob := hs.ob b c k hb
  cases hg : σ.heap.get b with
  | none => simp [hg] at h
  | some ob =>
    cases ob with
    | dead => simp [hg] at h
    | map es => simp [hg] at h
    | cells vs e g =>
      rw [hg] at hob
      obtain ⟨ca, fz, h1, h2, h3, h4, h5⟩ := hob
      simp only [hg] at h
      split at h
      · next hl =>
        injection h with h
        subst h
        refine ⟨(ca.toList.drop o).take m, fun j v hv => ?_, cells_part h3 hl, hl⟩
        rw [cell_of h1]
        have := take_get hv
        rw [List.getElem?_drop] at this
        simpa using this
      · cases h
theorem join_ok {fJ : Nat} (hgen : JoinGen P fJ) (hf : ∃ fn, P.funcs[fJ]? = some fn ∧ fn.body.isSome = true) : HookOk P (joinH fJ) := by
  intro call hgood f args σ fr σ' h
  unfold joinH at h
  split at h
  · cases h
  · next hfe =>
    have hfe : f = fJ := Nat.eq_of_beq_eq_true hfe
    subst hfe
    refine ⟨hf, ?_⟩
    split at h
    · next a n c sep =>
      split at h
      · cases h
      · next hc =>
        simp only [Bool.and_eq_true] at hc
        have hnc := Nat.le_of_ble_eq_true hc.2
        split at h
        · cases h
        · next l hl =>
          split at h
          · cases h
          · next xs hxs =>
            split at h
            · next hle =>
              simp only [Bool.and_eq_true] at hle
              have hle1 := Nat.le_of_ble_eq_true hle.1
              have hle2 := Nat.le_of_ble_eq_true hle.2
              simp only [Option.some.injEq, Rs.ok.injEq, Prod.mk.injEq] at h
              obtain ⟨rfl, rfl⟩ := h
              intro w0 ρ w cargs hs hr
              obtain ⟨cl⟩ := cargs
              have key : ∀ {b k cb : Nat} (o m' : Nat) (sp : Option Nat), ρ b = some (cb, k) → cellsA σ ⟨b, o, sp⟩ n = some l → n ≤ m' →
                  Calls P f #[.slice (some ⟨cb, o, none⟩) n m', .string sep] w (FPost w0 ρ σ (.ret (.string ⟨(Lib.join (xs.map (·.data.toList)) sep.data.toList).toArray⟩)) σ) := by
                intro b k cb o m' sp hb hl hm
                obtain ⟨l', q1, q2, q3⟩ := cellsA_at hs hb hl
                have q4 := strsOf_spec hxs q2
                have hn : xs.length = n := by have := q2.length; rw [q4, List.length_map] at this; omega
                have := hgen cb o m' xs sep w (fun j x hx => q1 j (.string x) (by rw [q4, List.getElem?_map, hx]; rfl)) (hs.dom b cb k hb).2.2 (by omega) (by omega) (by omega)
                rw [hn] at this
                refine this.mono ?_
                rintro e w' ⟨rfl, hx⟩
                exact ⟨ρ, hs.ext (Ext.of_below hx), Step.refl ρ _, _, rfl, .string _⟩
              cases hr with
              | cons r1 r2 =>
              cases r2 with
              | cons r2 r3 =>
              cases r3
              cases r2
              cases r1 with
              | slice o _ _ hb => exact key o c none hb hl hnc
              | grown o _ _ m' hb hm h0 => exact key o m' (some 0) hb hl (by omega)
              | past x m => cases hc.1
            · cases h
    · cases h
end Ev
end Go.Proofs.YtibhkabmihhjiaaGreatDoor
