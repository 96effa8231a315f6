/-
  The reckoner's operations are the machine's: places, parts, slices, calls.
-/
import Derived.Test.YtibhkabmihhjiaaGreatDoorEE
import Derived.Laws.BytesArg
namespace Go.Proofs.YtibhkabmihhjiaaGreatDoor
open Go Go.RowKit
set_option linter.unusedVariables false
set_option linter.unusedSimpArgs false
namespace Ev
variable {P : Program}
section
variable {w0 : Base} {w : World} {ρ : Pl} {σ : St} {n : Nat} {a : Env} {A : Act}
theorem s_unOp (hs : Sim w0 ρ σ w) (ha : ActR ρ n a A) (op : UnOp) (t : TypeId) (x : Operand) (o : Oper) (ho : o.op = .unOp op t x) {r : OR} (h : opA P σ a (.unOp op t x) = some r) : OpOk P w0 ρ σ w A o r := by
  obtain ⟨dst, op', ty', pos, af, gd⟩ := o
  subst ho
  simp only [opA] at h
  split at h
  · next v hv =>
    obtain ⟨z, hz, rfl⟩ := map_some h
    have hr := evO_rel ha hv
    generalize hu : A.eval x = u at hr
    obtain ⟨h1, h2⟩ := scal_run (P := P) hz
    have hvu : u = v := by
      cases hr <;> first | rfl | (exfalso; cases op <;> simp [Op.unary, scal, stuck, unsupported] at hz)
    refine ⟨z, w, ρ, run_v ?_, hs, Step.refl ρ σ, Rel.scal ρ h2⟩
    rw [hu, hvu]
    exact h1 w
  · cases h
theorem bytesOf_sound {ρ : Pl} : ∀ {l l' : List Value} {ns : List Int}, bytesOf l = some ns → Rels ρ l l' → l' = ns.map (Value.int .u8)
  | [], [], ns, h, _ => by
    simp only [bytesOf, Option.some.injEq] at h
    subst h
    rfl
  | v :: l, v' :: l', ns, h, .cons hv hl => by
    unfold bytesOf at h
    split at h
    · next heq => cases heq
    · next n l0 heq =>
      cases heq
      split at h
      · next r hr =>
        injection h with h
        subst h
        cases hv
        rw [bytesOf_sound hr hl]
        rfl
      · cases h
    · cases h
theorem strA_sound (hs : Sim w0 ρ σ w) {s d : TypeId} {ds : TypeDesc} (hds : P.underlying s = some ds) {base : Option Addr} {m cc : Nat} {u : Value} (hr : Rel ρ (.slice base m cc) u) {b : ByteArray} (h : textA P ds (P.underlying d) σ base m = some b) : (convert s d u).run P w = .ok (.string b) w := by
  unfold textA at h
  split at h
  · next e hdd =>
    split at h
    · next he =>
      have key : ∀ (a : Option Addr) (l c : Nat), (Conv.bytesToString (.slice a l c)).run P w = .ok (.string b) w → (convert s d (.slice a l c)).run P w = .ok (.string b) w := fun a l c hq => (run_convert_bytes_string w s d e a l c hds he hdd).trans hq
      have zero : ∀ (a : Option Addr) (c : Nat), (Conv.bytesToString (.slice a 0 c)).run P w = .ok (.string ⟨#[]⟩) w := by
        intro a c
        cases a with
        | none => rfl
        | some a => exact run_bytesToString w a 0 c [] (by simp [loadCells, loadCellsFrom])
      have more : ∀ {b1 o1 : Nat} {sp : Option Nat} {c1 k1 : Nat} (cc' : Nat), ρ b1 = some (c1, k1) → textB σ ⟨b1, o1, sp⟩ m = some b → (Conv.bytesToString (.slice (some ⟨c1, o1, none⟩) m cc')).run P w = .ok (.string b) w := by
        intro b1 o1 sp c1 k1 cc' hb hq
        unfold textB at hq
        split at hq
        · cases hq
        · split at hq
          · cases hq
          · next l hl =>
            split at hq
            · cases hq
            · next ns hns =>
              injection hq with hq
              subst hq
              obtain ⟨l', h1, h2, h3⟩ := cellsA_sound (P := P) hs hb hl
              have := bytesOf_sound hns h2
              subst this
              rw [run_bytesToString w _ m cc' ns h1, foldl_push_bytes]
              simp
      cases hr with
      | nilSlice n m =>
        injection h with h
        subst h
        exact key _ _ _ rfl
      | slice o n m hb =>
        refine key _ _ _ ?_
        simp only at h
        split at h
        · next hm =>
          injection h with h
          subst h; subst hm
          exact zero _ _
        · exact more _ hb h
      | grown o n m m' hb hm h0 =>
        refine key _ _ _ ?_
        simp only at h
        split at h
        · next hm =>
          injection h with h
          subst h; subst hm
          exact zero _ _
        · exact more _ hb h
      | past x m =>
        refine key _ _ _ ?_
        have h : some (ByteArray.mk #[]) = some b := h
        injection h with h
        subst h
        exact zero _ _
    · cases h
  · cases h
theorem s_convert (hs : Sim w0 ρ σ w) (ha : ActR ρ n a A) (s d : TypeId) (x : Operand) (o : Oper) (ho : o.op = .convert s d x) {r : OR} (h : opA P σ a (.convert s d x) = some r) : OpOk P w0 ρ σ w A o r := by
  obtain ⟨dst, op', ty', pos, af, gd⟩ := o
  subst ho
  simp only [opA] at h
  split at h
  · cases h
  · next ds hds =>
    split at h
    · next k m hv =>
      have hr := evO_rel ha hv
      generalize hu : A.eval x = u at hr
      cases hr
      split at h
      · next k' hd =>
        obtain ⟨z, hz, rfl⟩ := map_some h
        obtain ⟨h1, h2⟩ := scal_run (P := P) hz
        refine ⟨z, w, ρ, run_v ?_, hs, Step.refl ρ σ, Rel.scal ρ h2⟩
        rw [hu]
        unfold convert
        rw [Sem.run_bind, run_underlying hds w, Result.andThen_ok, Sem.run_bind, run_underlying hd w, Result.andThen_ok]
        cases ds <;> exact h1 w
      · next k' hd =>
        obtain ⟨z, hz, rfl⟩ := map_some h
        obtain ⟨h1, h2⟩ := scal_run (P := P) hz
        refine ⟨z, w, ρ, run_v ?_, hs, Step.refl ρ σ, Rel.scal ρ h2⟩
        rw [hu]
        unfold convert
        rw [Sem.run_bind, run_underlying hds w, Result.andThen_ok, Sem.run_bind, run_underlying hd w, Result.andThen_ok]
        cases ds <;> exact h1 w
      · cases h
    · next b hv =>
      have hr := evO_rel ha hv
      generalize hu : A.eval x = u at hr
      cases hr
      split at h
      · next hd =>
        injection h with h
        subst h
        refine ⟨.string b, w, ρ, run_v ?_, hs, Step.refl ρ σ, .string b⟩
        rw [hu]
        unfold convert
        rw [Sem.run_bind, run_underlying hds w, Result.andThen_ok, Sem.run_bind, run_underlying hd w, Result.andThen_ok]
        cases ds <;> rfl
      · cases h
    · next base m cc hv =>
      have hr := evO_rel ha hv
      generalize hu : A.eval x = u at hr
      split at h
      · next b hb =>
        injection h with h
        subst h
        refine ⟨.string b, w, ρ, run_v ?_, hs, Step.refl ρ σ, .string b⟩
        rw [hu]
        exact strA_sound hs hds hr hb
      · cases h
    · cases h
theorem s_fieldAddr (hs : Sim w0 ρ σ w) (ha : ActR ρ n a A) (s : TypeId) (x : Operand) (f : Nat) (o : Oper) (ho : o.op = .fieldAddr s x f) {r : OR} (h : opA P σ a (.fieldAddr s x f) = some r) : OpOk P w0 ρ σ w A o r := by
  obtain ⟨dst, op', ty', pos, af, gd⟩ := o
  subst ho
  simp only [opA] at h
  split at h
  · next fs p hd hv =>
    have hr := evO_rel ha hv
    generalize hu : A.eval x = u at hr
    split at h
    · next fl hf =>
      split at h
      · next m hm =>
        split at h
        · cases h
        · next hm0 =>
          injection h with h
          subst h
          obtain ⟨i, hi, rfl⟩ := map_some hm
          cases hr with
          | @ptr b c k off hb =>
            rw [Array.getElem?_toList] at hf
            refine ⟨.pointer (some ⟨c, off + fl.offset, none⟩), w, ρ, run_v ?_, hs, Step.refl ρ σ, .ptr _ hb⟩
            simp [Instr.fieldAt, run_underlying hd, hf, Instr.sureAddr, hu, fieldPlace, sizeOf, typeInfo, hi, hm0, Addr.add_mid]
      · cases h
    · cases h
  · cases h
theorem s_field (hs : Sim w0 ρ σ w) (ha : ActR ρ n a A) (s : TypeId) (x : Operand) (f : Nat) (o : Oper) (ho : o.op = .field s x f) {r : OR} (h : opA P σ a (.field s x f) = some r) : OpOk P w0 ρ σ w A o r := by
  obtain ⟨dst, op', ty', pos, af, gd⟩ := o
  subst ho
  simp only [opA] at h
  split at h
  · next fs cs hd hv =>
    have hr := evO_rel ha hv
    generalize hu : A.eval x = u at hr
    split at h
    · next fl hf =>
      rw [Array.getElem?_toList] at hf
      split at h
      · next d i hfd hfi =>
        cases hr with
        | @agg _ cs' hr =>
          split at h
          · next hag =>
            obtain ⟨v, hv, rfl⟩ := map_some h
            obtain ⟨v', h1, h2⟩ := hr.get _ hv
            refine ⟨v', w, ρ, run_v ?_, hs, Step.refl ρ σ, h2⟩
            simp [Instr.field, run_underlying hd, hf, hu, asAgg, run_part1 hfd hag h1]
          · next hag =>
            split at h
            · next hl =>
              injection h with h
              subst h
              have hpart := (hr.drop fl.offset).take i.size
              refine ⟨.agg ((cs'.toList.drop fl.offset).take i.size).toArray, w, ρ, run_v ?_, hs, Step.refl ρ σ, .agg (by simpa using hpart)⟩
              have hagr : (isAgg fl.type).run P w = .ok true w := by
                unfold isAgg
                rw [Sem.run_bind, run_underlying hfd w]
                cases d <;> simp_all [isAggD]
              have hex : cs'.extract fl.offset (fl.offset + i.size) = ((cs'.toList.drop fl.offset).take i.size).toArray := by
                apply Array.ext'
                simp [List.extract_eq_drop_take']
              simp [Instr.field, run_underlying hd, hf, hu, asAgg, part, hagr, sizeOf, typeInfo, hfi, hex]
            · cases h
      · cases h
    · cases h
  · cases h
theorem natOf_spec {v : Value} {m : Nat} (h : natOf v = some m) : ∃ k, v = .int k (m : Int) := by
  unfold natOf at h
  split at h
  · next k j => injection h with h; subst h; exact ⟨k, rfl⟩
  · cases h
theorem s_indexAddr (hs : Sim w0 ρ σ w) (ha : ActR ρ n a A) (t : TypeId) (x ix : Operand) (o : Oper) (ho : o.op = .indexAddr t x ix) {r : OR} (h : opA P σ a (.indexAddr t x ix) = some r) : OpOk P w0 ρ σ w A o r := by
  obtain ⟨dst, op', ty', pos, af, gd⟩ := o
  subst ho
  simp only [opA] at h
  split at h
  · next e p len cap iv hd hv hiv =>
    have hr := evO_rel ha hv
    have hri := evO_rel ha hiv
    generalize hu : A.eval x = u at hr
    generalize hui : A.eval ix = ui at hri
    split at h
    · next i m hi hm =>
      obtain ⟨k, rfl⟩ := natOf_spec hi
      obtain ⟨inf, hinf, rfl⟩ := map_some hm
      split at h
      · next hlt =>
        injection h with h
        subst h
        cases hri
        have hlt' : (0 : Int) ≤ (i : Int) ∧ (i : Int) < (len : Int) := ⟨by omega, by omega⟩
        cases hr with
        | @slice b c k off _ _ hb =>
          refine ⟨.pointer (some ⟨c, off + i * inf.size, none⟩), w, ρ, run_v ?_, hs, Step.refl ρ σ, .ptr _ hb⟩
          simp [Instr.indexAt, run_underlying hd, hu, hui, asIntOf, hlt, sizeOf, typeInfo, hinf, Addr.add_mid]
        | @grown b c k off _ _ m' hb hm h0 =>
          refine ⟨.pointer (some ⟨c, off + i * inf.size, none⟩), w, ρ, run_v ?_, hs, Step.refl ρ σ, .ptr _ hb⟩
          simp [Instr.indexAt, run_underlying hd, hu, hui, asIntOf, hlt, sizeOf, typeInfo, hinf, Addr.add_mid]
        | past => omega
      · cases h
    · cases h
  · next len e p iv hd hv hiv =>
    have hr := evO_rel ha hv
    have hri := evO_rel ha hiv
    generalize hu : A.eval x = u at hr
    generalize hui : A.eval ix = ui at hri
    split at h
    · next i m hi hm =>
      obtain ⟨k, rfl⟩ := natOf_spec hi
      obtain ⟨inf, hinf, rfl⟩ := map_some hm
      split at h
      · next hlt =>
        injection h with h
        subst h
        cases hri
        cases hr with
        | @ptr b c k off hb =>
          refine ⟨.pointer (some ⟨c, off + i * inf.size, none⟩), w, ρ, run_v ?_, hs, Step.refl ρ σ, .ptr _ hb⟩
          simp [Instr.indexAt, run_underlying hd, hu, hui, asIntOf, hlt, sizeOf, typeInfo, hinf, Addr.add_mid, Instr.sureAddr]
      · cases h
    · cases h
  · cases h
theorem s_index (hs : Sim w0 ρ σ w) (ha : ActR ρ n a A) (t : TypeId) (x ix : Operand) (o : Oper) (ho : o.op = .index t x ix) {r : OR} (h : opA P σ a (.index t x ix) = some r) : OpOk P w0 ρ σ w A o r := by
  obtain ⟨dst, op', ty', pos, af, gd⟩ := o
  subst ho
  simp only [opA] at h
  split at h
  · next s iv hd hv hiv =>
    have hr := evO_rel ha hv
    have hri := evO_rel ha hiv
    generalize hu : A.eval x = u at hr
    generalize hui : A.eval ix = ui at hri
    split at h
    · next i hi =>
      obtain ⟨k, rfl⟩ := natOf_spec hi
      split at h
      · next b hb =>
        injection h with h
        subst h
        cases hr; cases hri
        refine ⟨.int .u8 b.toNat, w, ρ, run_v ?_, hs, Step.refl ρ σ, .int _ _⟩
        have hb' := hb
        rw [← str_get] at hb'
        simp [Instr.index, run_underlying hd, hu, hui, asIntOf, hb']
      · cases h
    · cases h
  · cases h
theorem s_makeMap (hs : Sim w0 ρ σ w) (ha : ActR ρ n a A) (t : TypeId) (o : Oper) (ho : o.op = .makeMap t none) {r : OR} (h : opA P σ a (.makeMap t none) = some r) : OpOk P w0 ρ σ w A o r := by
  obtain ⟨dst, op', ty', pos, af, gd⟩ := o
  subst ho
  simp only [opA, Option.some.injEq] at h
  subst h
  obtain ⟨h1, h2⟩ := hs.new (.map []) 0 (.map #[] 0) ⟨#[], 0, rfl, trivial⟩
  refine ⟨.map (some w.heap.size), _, _, run_v ?_, h1, h2, .map (if_pos rfl)⟩
  simp [Instr.makeMap]
end
end Ev
end Go.Proofs.YtibhkabmihhjiaaGreatDoor
