/-
  The reckoner's operations are the machine's: numbers and strings.
-/
import Derived.Test.YtibhkabmihhjiaaGreatDoorED
import Derived.Laws.Strings
import Derived.Laws.StructEq
namespace Go.Proofs.YtibhkabmihhjiaaGreatDoor
open Go Go.RowKit
set_option linter.unusedVariables false
set_option linter.unusedSimpArgs false
namespace Ev
variable {P : Program}
theorem bytesEq_iff : ∀ (x y : List UInt8), bytesEq x y = (x == y)
  | [], [] => rfl
  | [], _ :: _ => rfl
  | _ :: _, [] => rfl
  | a :: x, b :: y => by
    rw [bytesEq, bytesEq_iff x y]
    rw [Bool.eq_iff_iff]
    simp [UInt8.toNat_inj]
theorem bytesLt_iff : ∀ (x y : List UInt8), bytesLt x y = Op.bytesLess x y
  | _, [] => by cases ‹List UInt8› <;> simp [bytesLt, Op.bytesLess]
  | [], _ :: _ => rfl
  | a :: x, b :: y => by
    rw [bytesLt, Op.bytesLess, bytesLt_iff x y]
    have h1 : (a.toNat == b.toNat) = (a == b) := by rw [Bool.eq_iff_iff]; simp [UInt8.toNat_inj]
    rw [h1]
    rfl
theorem strOf_append (a b : ByteArray) : strOf (a.data.toList ++ b.data.toList) = .string (a ++ b) := by
  unfold strOf
  congr 1
theorem strOf_extract (a : ByteArray) (l h : Nat) : strOf ((a.data.toList.drop l).take (h - l)) = .string (a.extract l h) := by
  unfold strOf
  congr 1
  rw [ByteArray.ext_iff, ByteArray.data_extract]
  apply Array.ext'
  simp [List.extract_eq_drop_take']
theorem str_get (x : ByteArray) (i : Nat) : x[i]? = x.data.toList[i]? := by
  rw [Array.getElem?_toList]
  by_cases h : i < x.size
  · rw [getElem?_pos x i h, getElem?_pos x.data i h]; rfl
  · rw [getElem?_neg x i h, getElem?_neg x.data i h]
theorem strA_run {op : BinOp} {a b : ByteArray} {v : Value} (h : strA op a.data.toList b.data.toList = some v) : (∀ w, (Op.stringOp op a b).run P w = .ok v w) ∧ scalC v = true := by
  have e1 : (a.toList == b.toList) = bytesEq a.data.toList b.data.toList := by rw [bytesEq_iff, ByteArray.toList_eq, ByteArray.toList_eq]
  have e2 : Op.bytesLess a.toList b.toList = bytesLt a.data.toList b.data.toList := by rw [bytesLt_iff, ByteArray.toList_eq, ByteArray.toList_eq]
  have s1 : a.data.toList.length = a.size := by simp
  have s2 : b.data.toList.length = b.size := by simp
  unfold strA at h
  unfold Op.stringOp
  rw [e1, e2]
  cases op <;> simp only at h ⊢ <;> first | (cases h; done) | skip
  case add =>
    split at h
    · next hl =>
      injection h with h
      subst h
      rw [strOf_append]
      refine ⟨fun w => ?_, rfl⟩
      rw [if_neg]
      · rfl
      · rw [s1, s2] at hl
        simp only [IntKind.max, IntKind.bits, IntKind.signed]
        omega
    · cases h
  all_goals (injection h with h; subst h; exact ⟨fun w => rfl, rfl⟩)
section
variable {w0 : Base} {w : World} {ρ : Pl} {σ : St} {n : Nat} {a : Env} {A : Act}
theorem eqGuard_else (op : BinOp) (t : TypeId) (x y : Operand) {u v : Value} (hop : op ≠ .eql ∧ op ≠ .neq) (w : World) : (eqGuard op t x y u v).run P w = .ok () w := by
  cases op <;> first | (exact absurd rfl hop.1) | (exact absurd rfl hop.2) | rfl
theorem eqGuard_plain (op : BinOp) (t : TypeId) (x y : Operand) {u v : Value} (h1 : ∀ c, u ≠ .agg c) (h2 : u ≠ .nilIface ∨ v ≠ .nilIface) (w : World) : (eqGuard op t x y u v).run P w = .ok () w := by
  unfold eqGuard
  cases op <;> try rfl
  all_goals
    cases u <;> first | rfl | (exact absurd rfl (h1 _)) | (cases v <;> first | rfl | (rcases h2 with h2 | h2 <;> exact absurd rfl h2))
theorem binI_run {op : BinOp} {t : TypeId} {k k' : IntKind} {x y : Int} {v : Value} (h : binA P t op (.int k x) (.int k' y) = some v) : (∀ w, (binOp op t (.int k x) (.int k' y)).run P w = .ok v w) ∧ scalC v = true := by
  unfold binA at h
  unfold binOp
  cases op <;> simp only at h ⊢ <;> first
    | exact scal_run h
    | (split at h
       · next hk => subst hk; simp only [ne_eq, not_true_eq_false, if_false]; exact scal_run h
       · cases h)
theorem binF_run {op : BinOp} {t : TypeId} {k k' : FloatKind} {x y : Nat} {v : Value} (h : binA P t op (.float k x) (.float k' y) = some v) : (∀ w, (binOp op t (.float k x) (.float k' y)).run P w = .ok v w) ∧ scalC v = true := by
  unfold binA at h
  unfold binOp
  cases op <;> simp only at h ⊢ <;> first
    | (split at h
       · next hk => subst hk; simp only [ne_eq, not_true_eq_false, if_false]; first | exact scal_run h | cases h
       · cases h)
theorem binS_run {op : BinOp} {t : TypeId} {x y : ByteArray} {v : Value} (h : binA P t op (.string x) (.string y) = some v) : (∀ w, (binOp op t (.string x) (.string y)).run P w = .ok v w) ∧ scalC v = true := by
  obtain ⟨h1, h2⟩ := strA_run (P := P) (op := op) (a := x) (b := y) h
  refine ⟨fun w => ?_, h2⟩
  rw [← h1 w]
  cases op <;> rfl
theorem fieldEq_run {d : TypeDesc} {t : TypeId} {x y x' y' : Value} (hd : P.underlying t = some d) (hx : Rel ρ x x') (hy : Rel ρ y y') {b : Bool} (h : fieldEq d x y = some b) (k : Nat) (w : World) : isAggD d = false ∧ (Op.equalIn (k + 1) t x' y').run P w = .ok b w := by
  unfold fieldEq at h
  split at h
  · split at h
    · next hk =>
      subst hk
      injection h with h
      subst h
      cases hx; cases hy
      exact ⟨rfl, by rw [run_equalIn_int w k t _ _ _ _ hd]⟩
    · cases h
  · injection h with h
    subst h
    cases hx; cases hy
    exact ⟨rfl, by rw [run_equalIn_string w k t _ _ hd, bytesEq_iff, ByteArray.toList_eq, ByteArray.toList_eq]⟩
  · injection h with h
    subst h
    cases hx; cases hy
    exact ⟨rfl, by rw [run_equalIn_bool' w k t _ _ hd]⟩
  · cases h
theorem run_part1 {t : TypeId} {d : TypeDesc} (hd : P.underlying t = some d) (ha : isAggD d = false) {cs : Array Value} {o : Nat} {v : Value} (hv : cs.toList[o]? = some v) (w : World) : (part t cs o).run P w = .ok v w := by
  rw [Array.getElem?_toList] at hv
  have hag : (isAgg t).run P w = .ok false w := by
    unfold isAgg
    rw [Sem.run_bind, run_underlying hd w]
    cases d <;> simp_all [isAggD]
  simp [part, hag, hv]
theorem structEq_run {xs ys : List Value} {xs' ys' : Array Value} (hx : Rels ρ xs xs'.toList) (hy : Rels ρ ys ys'.toList) (k : Nat) (w : World) : ∀ (fs : List Field) (b : Bool), structEq P xs ys fs = some b → (Op.eqFields (k + 1) xs' ys' fs).run P w = .ok b w
  | [], b, h => by
    simp only [structEq, Option.some.injEq] at h
    subst h
    rfl
  | f :: fs, b, h => by
    simp only [structEq] at h
    split at h
    · cases h
    · next hn =>
      split at h
      · next d hd =>
        split at h
        · next x y hx1 hy1 =>
          obtain ⟨x', hx2, hx3⟩ := hx.get _ hx1
          obtain ⟨y', hy2, hy3⟩ := hy.get _ hy1
          split at h
          · next he =>
            obtain ⟨h1, h2⟩ := fieldEq_run hd hx3 hy3 he k w
            simp only [Op.eqFields, ne_eq, hn, not_false_eq_true, if_true]
            simp [run_part1 hd h1 hx2, run_part1 hd h1 hy2, h2, structEq_run hx hy k w fs b h]
          · next he =>
            injection h with h
            subst h
            obtain ⟨h1, h2⟩ := fieldEq_run hd hx3 hy3 he k w
            simp only [Op.eqFields, ne_eq, hn, not_false_eq_true, if_true]
            simp [run_part1 hd h1 hx2, run_part1 hd h1 hy2, h2]
          · cases h
        · cases h
      · cases h
theorem ptr_same {t e : TypeId} (hd : P.underlying t = some (.pointer e)) {i : TypeInfo} (hi : P.info? e = some i) (hz : ¬ i.size = 0) (c o1 o2 k : Nat) (w : World) :
    (Op.equalIn (k + 2) t (.pointer (some ⟨c, o1, none⟩)) (.pointer (some ⟨c, o2, none⟩))).run P w = .ok (Nat.beq o1 o2) w := by
  rw [Op.equalIn, Sem.run_bind, run_underlying hd w]
  by_cases h : o1 = o2
  · subst h
    simp [sizeOf, typeInfo, hi, hz, sameAddr]
  · have hb : Nat.beq o1 o2 = false := by
      cases hq : Nat.beq o1 o2 with
      | false => rfl
      | true => exact absurd (Nat.eq_of_beq_eq_true hq) h
    rw [hb]
    simp [sizeOf, typeInfo, hi, hz, sameAddr, h]
theorem eqA_run {t : TypeId} {u v u' v' : Value} (hu : Rel ρ u u') (hv : Rel ρ v v') {b : Bool} (h : eqA P t u v = some b) (op : BinOp) (x y : Operand) (k : Nat) (w : World) :
    (Op.equalIn (k + 2) t u' v').run P w = .ok b w ∧ (eqGuard op t x y u' v').run P w = .ok () w ∧ (binOp .eql t u' v') = (do pure (.bool (← Op.equal t u' v')) : Sem Value) ∧ (binOp .neq t u' v') = (do pure (.bool (!(← Op.equal t u' v'))) : Sem Value) := by
  unfold eqA at h
  split at h
  · cases h
  · next d hd =>
    split at h
    all_goals first
      | (cases h; done)
      | (split at h
         · cases h
         · next hbk =>
           split at h
           · cases h
           · next i hi =>
             split at h
             · cases h
             · next hz =>
               injection h with h
               subst h
               cases hu with
               | ptr o1 hb1 =>
                 cases hv with
                 | ptr o2 hb2 =>
                   have hbk := Nat.eq_of_beq_eq_true hbk
                   simp only at hbk
                   subst hbk
                   rw [hb1] at hb2
                   cases hb2
                   exact ⟨ptr_same hd hi hz _ _ _ k w, eqGuard_plain _ _ _ _ (fun c h => by cases h) (.inl Value.noConfusion) w, rfl, rfl⟩)
      | (split at h
         · cases h
         · next hg =>
           split at h
           · cases h
           · next hst =>
             cases hu with
             | agg hu =>
               cases hv with
               | agg hv =>
                 next fs _ _ _ _ =>
                 refine ⟨?_, run_eqGuard_agg w op t x y _ _ (by simpa using hg), rfl, rfl⟩
                 have hf : P.fieldsOf t = fs := by unfold Program.fieldsOf; rw [hd]
                 rw [run_equalIn_agg w (k + 1) t _ _ (by rw [hf]; exact hd) (by simpa using hst), hf]
                 exact structEq_run hu hv k w fs.toList b h)
      | (injection h with h
         subst h
         cases hu <;> cases hv <;> exact ⟨by rw [Op.equalIn, Sem.run_bind, run_underlying hd w]; rfl, eqGuard_plain _ _ _ _ (fun c h => by cases h) (by first | exact .inl Value.noConfusion | exact .inr Value.noConfusion) w, rfl, rfl⟩)
theorem equalIn_nils {t : TypeId} {ms : _} (ht : P.underlying t = some (.interface ms)) (d : Nat) (w : World) : (Op.equalIn (d + 1) t .nilIface .nilIface).run P w = .ok true w := by
  rw [Op.equalIn, Sem.run_bind, run_underlying ht w]
  rfl
theorem nilA_sound {op : BinOp} {t : TypeId} {x y : Operand} {b : Bool} (h : nilA P op t x y = some b) (w : World) : (do eqGuard op t x y .nilIface .nilIface; binOp op t .nilIface .nilIface : Sem Value).run P w = .ok (.bool b) w := by
  unfold nilA at h
  split at h
  · cases h
  · next hc =>
    split at h
    · next ms ht =>
      have he : (Op.equal t .nilIface .nilIface).run P w = .ok true w := equalIn_nils ht 9999 w
      have hg : (eqGuard op t x y .nilIface .nilIface).run P w = .ok () w := by
        unfold eqGuard
        cases x <;> cases y <;> simp [constO] at hc <;> cases op <;> simp
      rw [Sem.run_bind, hg, Result.andThen_ok]
      split at h
      · injection h with h
        subst h
        simp [binOp, he]
      · injection h with h
        subst h
        simp [binOp, he]
      · cases h
    · cases h
theorem s_binOp (hs : Sim w0 ρ σ w) (ha : ActR ρ n a A) (op : BinOp) (t : TypeId) (x y : Operand) (ty : TypeId) (o : Oper) (ho : o.op = .binOp op t x y ty) {r : OR} (h : opA P σ a (.binOp op t x y ty) = some r) : OpOk P w0 ρ σ w A o r := by
  obtain ⟨dst, op', ty', pos, af, gd⟩ := o
  subst ho
  simp only [opA] at h
  split at h
  · next hu hv =>
    have hru := evO_rel ha hu
    have hrv := evO_rel ha hv
    generalize hu' : A.eval x = u' at hru
    generalize hv' : A.eval y = v' at hrv
    cases hru
    cases hrv
    split at h
    · next b hb =>
      injection h with h
      subst h
      refine ⟨.bool b, w, ρ, run_v ?_, hs, Step.refl ρ σ, .bool b⟩
      rw [hu', hv']
      exact nilA_sound hb w
    · cases h
  · next u v _ hu hv =>
    obtain ⟨z, hz, rfl⟩ := map_some h
    have hru := evO_rel ha hu
    have hrv := evO_rel ha hv
    generalize hu' : A.eval x = u' at hru
    generalize hv' : A.eval y = v' at hrv
    suffices hh : ∃ z', (do eqGuard op t x y u' v'; binOp op t u' v' : Sem Value).run P w = .ok z' w ∧ Rel ρ z z' by
      obtain ⟨z', h1, h2⟩ := hh
      refine ⟨z', w, ρ, run_v ?_, hs, Step.refl ρ σ, h2⟩
      rw [hu', hv']
      exact h1
    have key : ∀ {z' : Value}, (∀ w, (eqGuard op t x y u' v').run P w = .ok () w) → (∀ w, (binOp op t u' v').run P w = .ok z' w) → Rel ρ z z' → ∃ z', (do eqGuard op t x y u' v'; binOp op t u' v' : Sem Value).run P w = .ok z' w ∧ Rel ρ z z' := by
      intro z' h1 h2 h3
      exact ⟨z', by simp [h1, h2], h3⟩
    clear h
    unfold binA at hz
    split at hz
    · cases hru; cases hrv
      obtain ⟨h1, h2⟩ := binI_run (P := P) (t := t) (op := op) hz
      exact key (fun w => eqGuard_plain _ _ _ _ (fun c h => by cases h) (.inl (fun h => by cases h)) w) h1 (Rel.scal ρ h2)
    · cases hru; cases hrv
      obtain ⟨h1, h2⟩ := binF_run (P := P) (t := t) (op := op) hz
      exact key (fun w => eqGuard_plain _ _ _ _ (fun c h => by cases h) (.inl (fun h => by cases h)) w) h1 (Rel.scal ρ h2)
    · cases hru; cases hrv
      obtain ⟨h1, h2⟩ := binS_run (P := P) (t := t) (op := op) hz
      exact key (fun w => eqGuard_plain _ _ _ _ (fun c h => by cases h) (.inl (fun h => by cases h)) w) h1 (Rel.scal ρ h2)
    · next n1 n2 n3 =>
      split at hz
      · obtain ⟨b, hb, rfl⟩ := map_some hz
        refine key (fun w => (eqA_run hru hrv hb _ x y 9998 w).2.1) (z' := .bool b) (fun w => ?_) (.bool b)
        obtain ⟨he, -, hq, -⟩ := eqA_run hru hrv hb .eql x y 9998 w
        have he : (Op.equal t u' v').run P w = .ok b w := he
        rw [hq]
        simp [he]
      · obtain ⟨b, hb, rfl⟩ := map_some hz
        refine key (fun w => (eqA_run hru hrv hb _ x y 9998 w).2.1) (z' := .bool !b) (fun w => ?_) (.bool !b)
        obtain ⟨he, -, -, hq⟩ := eqA_run hru hrv hb .neq x y 9998 w
        have he : (Op.equal t u' v').run P w = .ok b w := he
        rw [hq]
        simp [he]
      · cases hz
  · cases h
end
end Ev
end Go.Proofs.YtibhkabmihhjiaaGreatDoor
