/-
  The reckoner's operations are the machine's: maps; all of them.
-/
import Derived.Test.YtibhkabmihhjiaaGreatDoorEJ
namespace Go.Proofs.YtibhkabmihhjiaaGreatDoor
open Go Go.RowKit
set_option linter.unusedVariables false
set_option linter.unusedSimpArgs false
namespace Ev
variable {P : Program}
section
variable {w0 : Base} {w : World} {ρ : Pl} {σ : St} {n : Nat} {a : Env} {A : Act}
mutual
theorem scal_same {v v' : Value} (h : Rel ρ v v') (hs : scalC v = true) : v' = v := by
  cases h <;> first | rfl | (simp [scalC] at hs; done)
end
theorem scals_same : ∀ {l l' : List Value}, Rels ρ l l' → l.all scalC = true → l' = l
  | [], [], _, _ => rfl
  | v :: l, v' :: l', .cons h k, hs => by
    simp only [List.all_cons, Bool.and_eq_true] at hs
    rw [scal_same h hs.1, scals_same k hs.2]
theorem const_same {v v' : Value} (h : Rel ρ v v') (hc : plainConst v = true) : v' = v := by
  cases h with
  | @agg cs cs' h =>
    have hs : cs.toList.all scalC = true := by
      simp only [plainConst] at hc
      rw [List.all_eq_true] at hc ⊢
      intro x hx
      have := hc x hx
      unfold scalC
      split at this <;> first | rfl | cases this
    have := scals_same h hs
    congr 1
    exact Array.ext' this
  | bool b => rfl
  | int k n => rfl
  | float k n => rfl
  | string s => rfl
  | nilPtr => rfl
  | nilSlice n m => rfl
  | nilMap => rfl
  | nilFunc => rfl
  | nilIface => rfl
  | ptr o h => simp [plainConst] at hc
  | slice o n m h => simp [plainConst] at hc
  | grown o n m m' h hm h0 => simp [plainConst] at hc
  | past x m => simp [plainConst] at hc
  | map h => simp [plainConst] at hc
  | func f h k => simp [plainConst] at hc
  | yield l => simp [plainConst] at hc
  | iface t h => simp [plainConst] at hc
  | tuple h => simp [plainConst] at hc
theorem keyOk_spec {kt : TypeId} {x : Value} (h : keyOk P kt x = true) : plainConst x = true ∧ ∃ d, P.underlying kt = some d ∧ ((basicD d = true) ∨ ∃ fs xs, d = .struct fs ∧ x = .agg xs ∧ fieldsOk P xs.toList fs.toList = true) := by
  unfold keyOk at h
  rw [Bool.and_eq_true] at h
  refine ⟨h.1, ?_⟩
  have h2 := h.2
  split at h2
  · cases h2
  · next d hd =>
    refine ⟨d, hd, ?_⟩
    split at h2
    · next fs =>
      split at h2
      · next xs => exact .inr ⟨fs, xs, rfl, rfl, h2⟩
      · cases h2
    · exact .inl h2
/-- A key is one that may be. -/
theorem checkBasic (emp : Bool) (k : Nat) {t : TypeId} {d : TypeDesc} (hd : P.underlying t = some d) (hb : basicD d = true) (v : Value) (W : World) : (Instr.checkKey emp (k + 1) t v).run P W = .ok () W := by
  rw [Instr.checkKey, Sem.run_bind, run_underlying hd W]
  cases d <;> first | (cases hb; done) | rfl
theorem checkKey_run {kt : TypeId} {x : Value} (h : keyOk P kt x = true) (emp : Bool) (W : World) : (Instr.checkKey emp 10000 kt x).run P W = .ok () W := by
  obtain ⟨-, d, hd, hb | ⟨fs, xs, rfl, rfl, hf⟩⟩ := keyOk_spec h
  · exact checkBasic emp 9999 hd hb x W
  · show (Instr.checkKey emp (9998 + 1 + 1) kt (.agg xs)).run P W = _
    rw [Instr.checkKey, Sem.run_bind, run_underlying hd W, Result.andThen_ok]
    simp only [← Array.forIn_toList]
    clear hd h
    generalize fs.toList = l at hf
    induction l with
    | nil => simp
    | cons f l ih =>
      simp only [fieldsOk] at hf
      split at hf
      · cases hf
      · next hn =>
        split at hf
        · next d v hd hv =>
          rw [Bool.and_eq_true] at hf
          have hag : isAggD d = false := by cases d <;> first | rfl | (cases hf.1; done)
          simp only [List.forIn_cons, ne_eq, hn, not_false_eq_true, if_true, Sem.run_bind, run_part1 hd hag hv, Result.andThen_ok, checkBasic emp 9998 hd hf.1, Sem.run_pure]
          have := ih hf.2
          simp only [Sem.run_bind, Result.andThen_ok, Sem.run_pure] at this ⊢
          exact this
        · cases hf
theorem fieldEq_scal {d : TypeDesc} {x y : Value} {b : Bool} (h : fieldEq d x y = some b) : scalC x = true ∧ scalC y = true := by
  unfold fieldEq at h
  split at h
  · exact ⟨rfl, rfl⟩
  · exact ⟨rfl, rfl⟩
  · exact ⟨rfl, rfl⟩
  · cases h
theorem structEq_self {xs ys : Array Value} (k : Nat) (w : World) : ∀ (fs : List Field) (b : Bool), structEq P xs.toList ys.toList fs = some b → (Op.eqFields (k + 1) xs ys fs).run P w = .ok b w
  | [], b, h => by
    simp only [structEq, Option.some.injEq] at h
    subst h
    rfl
  | f :: fs, b, h => by
    have hnil : Rels (fun _ => none) [] [] := .nil
    simp only [structEq] at h
    split at h
    · cases h
    · next hn =>
      split at h
      · next d hd =>
        split at h
        · next x y hx1 hy1 =>
          split at h
          · next he =>
            obtain ⟨q1, q2⟩ := fieldEq_scal he
            obtain ⟨h1, h2⟩ := fieldEq_run hd (Rel.scal (fun _ => none) q1) (Rel.scal (fun _ => none) q2) he k w
            simp only [Op.eqFields, ne_eq, hn, not_false_eq_true, if_true]
            simp [run_part1 hd h1 hx1, run_part1 hd h1 hy1, h2, structEq_self k w fs b h]
          · next he =>
            injection h with h
            subst h
            obtain ⟨q1, q2⟩ := fieldEq_scal he
            obtain ⟨h1, h2⟩ := fieldEq_run hd (Rel.scal (fun _ => none) q1) (Rel.scal (fun _ => none) q2) he k w
            simp only [Op.eqFields, ne_eq, hn, not_false_eq_true, if_true]
            simp [run_part1 hd h1 hx1, run_part1 hd h1 hy1, h2]
          · cases h
        · cases h
      · cases h
/-! ### What is found -/
theorem sameNow_of {d : TypeDesc} {x y : Value} {b : Bool} (hd : basicD d = true) (h : fieldEq d x y = some b) : Instr.sameNow d x y = some b := by
  unfold fieldEq at h
  split at h
  · split at h
    · next hk => subst hk; simpa [Instr.sameNow] using h
    · cases h
  · rw [← h, bytesEq_iff]
    simp only [Instr.sameNow]
    congr 1
    rw [beq_toListBytes, ByteArray.toList_eq, ByteArray.toList_eq]
  · exact h
  · cases h
theorem findA_basic {kt : TypeId} {d : TypeDesc} (hd : P.underlying kt = some d) (hb : basicD d = true) (key : Value) : ∀ (es : List (Value × Value)) (ms : List MapEntry) (i : Nat), EntR ρ es ms → ∀ r, findA P kt key es i = some r →
    (match r with | none => Instr.findNow d key ms i = some none | some (j, e) => i ≤ j ∧ es[j - i]? = some e ∧ ∃ m, ms[j - i]? = some m ∧ m.key = e.1 ∧ Rel ρ e.2 m.val ∧ Instr.findNow d key ms i = some (some (j, m.val)))
  | [], [], i, _, r, h => by
    simp only [findA, Option.some.injEq] at h
    subst h
    rfl
  | e :: es, m :: ms, i, ⟨h1, h2, h3⟩, r, h => by
    simp only [findA] at h
    have hcmp : keyCmp P kt key e.1 = fieldEq d key e.1 := by
      unfold keyCmp
      rw [hd]
      cases d <;> first | rfl | (cases hb; done)
    rw [hcmp] at h
    split at h
    · next hq =>
      injection h with h
      subst h
      refine ⟨Nat.le_refl _, by simp, m, by simp, h1.symm, h2, ?_⟩
      rw [Instr.findNow, ← h1, sameNow_of hb hq]
    · next hq =>
      have ih := findA_basic hd hb key es ms (i + 1) h3 r h
      have e1 : Instr.findNow d key (m :: ms) i = Instr.findNow d key ms (i + 1) := by
        rw [Instr.findNow, ← h1, sameNow_of hb hq]
      cases r with
      | none => rw [e1]; exact ih
      | some p =>
        obtain ⟨j, e'⟩ := p
        obtain ⟨k1, k2, m', k3, k4, k5, k6⟩ := ih
        have hj : j - i = (j - (i + 1)) + 1 := by omega
        exact ⟨by omega, by rw [hj]; simpa using k2, m', by rw [hj]; simpa using k3, k4, k5, by rw [e1]; exact k6⟩
    · cases h
  | [], _ :: _, _, h, _, _ => h.elim
  | _ :: _, [], _, h, _, _ => h.elim
theorem findA_struct {kt : TypeId} {fs : Array Field} (hd : P.underlying kt = some (.struct fs)) (key : Value) (hc : plainConst key = true) : ∀ (es : List (Value × Value)) (ms : List MapEntry) (i : Nat), EntR ρ es ms → ∀ r, findA P kt key es i = some r →
    (match r with | none => ∀ W, (Instr.findAsking kt key ms i).run P W = .ok none W | some (j, e) => i ≤ j ∧ es[j - i]? = some e ∧ ∃ m, ms[j - i]? = some m ∧ m.key = e.1 ∧ Rel ρ e.2 m.val ∧ ∀ W, (Instr.findAsking kt key ms i).run P W = .ok (some (j, m.val)) W)
  | [], [], i, _, r, h => by
    simp only [findA, Option.some.injEq] at h
    subst h
    exact fun W => rfl
  | e :: es, m :: ms, i, ⟨h1, h2, h3⟩, r, h => by
    simp only [findA] at h
    have heq : ∀ b, keyCmp P kt key e.1 = some b → ∀ W, (Op.equal kt key m.key).run P W = .ok b W := by
      intro b hb W
      unfold keyCmp at hb
      rw [hd] at hb
      simp only at hb
      split at hb
      · next xs ys he =>
        split at hb
        · cases hb
        · next hst =>
          rw [← h1, he]
          have hf : P.fieldsOf kt = fs := by unfold Program.fieldsOf; rw [hd]
          show (Op.equalIn (9999 + 1) kt (.agg xs) (.agg ys)).run P W = _
          rw [run_equalIn_agg W 9999 kt _ _ (by rw [hf]; exact hd) (by simpa using hst), hf]
          exact structEq_self 9998 W fs.toList b hb
      · cases hb
    split at h
    · next hq =>
      injection h with h
      subst h
      refine ⟨Nat.le_refl _, by simp, m, by simp, h1.symm, h2, fun W => ?_⟩
      rw [Instr.findAsking, Sem.run_bind, heq true hq W]
      rfl
    · next hq =>
      have ih := findA_struct hd key hc es ms (i + 1) h3 r h
      have e1 : ∀ W, (Instr.findAsking kt key (m :: ms) i).run P W = (Instr.findAsking kt key ms (i + 1)).run P W := by
        intro W
        rw [Instr.findAsking, Sem.run_bind, heq false hq W]
        rfl
      cases r with
      | none => exact fun W => (e1 W).trans (ih W)
      | some p =>
        obtain ⟨j, e'⟩ := p
        obtain ⟨k1, k2, m', k3, k4, k5, k6⟩ := ih
        have hj : j - i = (j - (i + 1)) + 1 := by omega
        exact ⟨by omega, by rw [hj]; simpa using k2, m', by rw [hj]; simpa using k3, k4, k5, fun W => (e1 W).trans (k6 W)⟩
    · cases h
  | [], _ :: _, _, h, _, _ => h.elim
  | _ :: _, [], _, h, _, _ => h.elim
/-- What is found in a map. -/
theorem findA_run {kt : TypeId} {key : Value} (hk : keyOk P kt key = true) {es : List (Value × Value)} {ms : List MapEntry} (he : EntR ρ es ms) {r : Option (Nat × Value × Value)} (h : findA P kt key es 0 = some r) :
    (match r with | none => ∀ W, (Instr.findKey kt key ms).run P W = .ok none W | some (j, e) => es[j]? = some e ∧ ∃ m, ms[j]? = some m ∧ m.key = e.1 ∧ Rel ρ e.2 m.val ∧ ∀ W, (Instr.findKey kt key ms).run P W = .ok (some (j, m.val)) W) := by
  obtain ⟨hc, d, hd, hb | ⟨fs, xs, rfl, rfl, hf⟩⟩ := keyOk_spec hk
  · have := findA_basic (P := P) hd hb key es ms 0 he r h
    cases r with
    | none =>
      intro W
      simp only [Instr.findKey, Sem.run_bind, run_underlying hd, Result.andThen_ok]
      simp only at this
      rw [this]
      rfl
    | some p =>
      obtain ⟨j, e⟩ := p
      obtain ⟨-, k2, m, k3, k4, k5, k6⟩ := this
      refine ⟨k2, m, k3, k4, k5, fun W => ?_⟩
      simp only [Instr.findKey, Sem.run_bind, run_underlying hd, Result.andThen_ok]
      rw [k6]
      rfl
  · have := findA_struct (P := P) hd (.agg xs) hc es ms 0 he r h
    have hfn : ∀ W, (Instr.findKey kt (.agg xs) ms).run P W = (Instr.findAsking kt (.agg xs) ms 0).run P W := by
      intro W
      simp only [Instr.findKey, Sem.run_bind, run_underlying hd, Result.andThen_ok]
      cases ms with
      | nil => rfl
      | cons m ms => rfl
    cases r with
    | none => exact fun W => (hfn W).trans (this W)
    | some p =>
      obtain ⟨j, e⟩ := p
      obtain ⟨-, k2, m, k3, k4, k5, k6⟩ := this
      exact ⟨k2, m, k3, k4, k5, fun W => (hfn W).trans (k6 W)⟩
/-! ### Maps -/
theorem EntR.modify {ρ : Pl} (i : Nat) {key v v' : Value} (hv : Rel ρ v v') : ∀ {es : List (Value × Value)} {ms : List MapEntry} (j : Nat), EntR ρ es ms → EntR ρ (es.modify j fun e => (key, v)) (ms.modify j fun e => { e with key := key, val := v' })
  | [], [], j, _ => by cases j <;> trivial
  | e :: es, m :: ms, 0, ⟨h1, h2, h3⟩ => ⟨rfl, hv, h3⟩
  | e :: es, m :: ms, j + 1, ⟨h1, h2, h3⟩ => ⟨h1, h2, EntR.modify i hv j h3⟩
  | [], _ :: _, _, h => h.elim
  | _ :: _, [], _, h => h.elim
theorem EntR.snoc {ρ : Pl} {key v v' : Value} (hv : Rel ρ v v') (cl : Nat) : ∀ {es : List (Value × Value)} {ms : List MapEntry}, EntR ρ es ms → EntR ρ (es ++ [(key, v)]) (ms ++ [{ key := key, val := v', born := cl }])
  | [], [], _ => ⟨rfl, hv, trivial⟩
  | e :: es, m :: ms, ⟨h1, h2, h3⟩ => ⟨h1, h2, h3.snoc hv cl⟩
  | [], _ :: _, h => h.elim
  | _ :: _, [], h => h.elim
theorem run_setMap {c : Nat} {ms : Array MapEntry} {cl : Nat} (h : w.heap[c]? = some (.map ms cl)) (o : Obj) : (setObj c o).run P w = .ok () { w with heap := w.heap.setIfInBounds c o } ∧ Chg (fun x => x = c) w { w with heap := w.heap.setIfInBounds c o } ∧ ({ w with heap := w.heap.setIfInBounds c o } : World).heap[c]? = some o := by
  have hlt : c < w.heap.size := (Array.getElem?_eq_some_iff.1 h).1
  refine ⟨by simp [setObj, Sem.run, h], ⟨rfl, rfl, rfl, by simp, fun k hk hd => ?_⟩, ?_⟩
  · simp only [Array.getElem?_setIfInBounds]
    rw [if_neg (fun e => hd e.symm)]
  · simp [Array.getElem?_setIfInBounds, hlt]
theorem lookup_found {t k e : TypeId} (hd : P.underlying t = some (.map k e)) {u key v : Value} {ms : Array MapEntry} (hu : (u = .map none ∧ ms = #[]) ∨ ∃ c cl, u = .map (some c) ∧ w.heap[c]? = some (.map ms cl)) (hk : ∀ emp, (Instr.checkKey emp 10000 k key).run P w = .ok () w) {j : Nat} (hf : (Instr.findKey k key ms.toList).run P w = .ok (some (j, v)) w) (ok : Bool) :
    (Instr.lookup t u key ok).run P w = .ok (if ok then .tuple #[v, .bool true] else v) w := by
  rcases hu with ⟨rfl, rfl⟩ | ⟨c, cl, rfl, h1⟩
  · simp only [Instr.lookup, Sem.run_bind, run_underlying hd, Result.andThen_ok, Sem.run_pure, hk, hf]
  · have hget : (getObj c).run P w = .ok (.map ms cl) w := by simp [getObj, Sem.run, h1]
    simp only [Instr.lookup, Sem.run_bind, run_underlying hd, Result.andThen_ok, hget, Sem.run_pure, hk, hf]
theorem lookup_missing {t k e : TypeId} (hd : P.underlying t = some (.map k e)) {u key z : Value} {ms : Array MapEntry} (hu : (u = .map none ∧ ms = #[]) ∨ ∃ c cl, u = .map (some c) ∧ w.heap[c]? = some (.map ms cl)) (hk : ∀ emp, (Instr.checkKey emp 10000 k key).run P w = .ok () w) (hf : (Instr.findKey k key ms.toList).run P w = .ok none w) (hz : (zeroValue e).run P w = .ok z w) (ok : Bool) :
    (Instr.lookup t u key ok).run P w = .ok (if ok then .tuple #[z, .bool false] else z) w := by
  rcases hu with ⟨rfl, rfl⟩ | ⟨c, cl, rfl, h1⟩
  · simp only [Instr.lookup, Sem.run_bind, run_underlying hd, Result.andThen_ok, Sem.run_pure, hk, hf, hz]
  · have hget : (getObj c).run P w = .ok (.map ms cl) w := by simp [getObj, Sem.run, h1]
    simp only [Instr.lookup, Sem.run_bind, run_underlying hd, Result.andThen_ok, hget, Sem.run_pure, hk, hf, hz]
theorem s_lookup (hs : Sim w0 ρ σ w) (ha : ActR ρ n a A) (t : TypeId) (x ix : Operand) (ok : Bool) (o : Oper) (ho : o.op = .lookup t x ix ok) {r : OR} (h : opA P σ a (.lookup t x ix ok) = some r) : OpOk P w0 ρ σ w A o r := by
  obtain ⟨dst, op', ty', pos, af, gd⟩ := o
  subst ho
  simp only [opA] at h
  split at h
  · next k e mr key hd hv hkv =>
    have hr := evO_rel ha hv
    have hrk := evO_rel ha hkv
    generalize hu : A.eval x = u at hr
    generalize huk : A.eval ix = uk at hrk
    -- the entries, of both
    have main : ∀ (es : List (Value × Value)) (ms : Array MapEntry), EntR ρ es ms.toList → ((u = .map none ∧ ms = #[]) ∨ ∃ c cl, u = .map (some c) ∧ w.heap[c]? = some (.map ms cl)) →
        (if keyOk P k key then match findA P k key es 0 with
          | some (some (_, _, v)) => some (OR.val (if ok then .tuple #[v, .bool true] else v) σ)
          | some none => (zeroA P e).map fun z => OR.val (if ok then .tuple #[z, .bool false] else z) σ
          | none => none
         else none) = some r → OpOk P w0 ρ σ w A { dst := dst, op := .lookup t x ix ok, type := ty', pos := pos, after := af, guard := gd } r := by
      intro es ms he hent h
      split at h
      · next hk =>
        have hks := const_same hrk (keyOk_spec hk).1
        subst hks
        split at h
        · next j old v hf =>
          have := findA_run (P := P) hk he hf
          obtain ⟨k1, m, k2, k3, k4, k5⟩ := this
          injection h with h
          subst h
          refine ⟨if ok then .tuple #[m.val, .bool true] else m.val, w, ρ, run_v ?_, hs, Step.refl ρ σ, ?_⟩
          · rw [hu, huk]
            exact lookup_found hd hent (fun emp => checkKey_run hk emp w) (k5 w) ok
          · cases ok
            · exact k4
            · exact .tuple (.cons k4 (.cons (.bool true) .nil))
        · next hf =>
          have := findA_run (P := P) hk he hf
          obtain ⟨z, hz, rfl⟩ := map_some h
          obtain ⟨i, hi, hiz, hpc⟩ := zeroA_spec hz
          refine ⟨if ok then .tuple #[z, .bool false] else z, w, ρ, run_v ?_, hs, Step.refl ρ σ, ?_⟩
          · rw [hu, huk]
            exact lookup_missing hd hent (fun emp => checkKey_run hk emp w) (this w) (by simp [zeroValue, typeInfo, hi, hiz]) ok
          · cases ok
            · exact Rel.const ρ hpc
            · exact .tuple (.cons (Rel.const ρ hpc) (.cons (.bool false) .nil))
        · cases h
      · cases h
    cases mr with
    | none =>
      cases hr
      exact main [] #[] trivial (.inl ⟨rfl, rfl⟩) h
    | some b =>
      cases hr with
      | @map _ c k' hb =>
        have hob := hs.ob b c k' hb
        simp only at h
        cases hg : σ.heap.get b with
        | none => simp [hg] at h
        | some ob =>
          cases ob with
          | dead => simp [hg] at h
          | cells vs e' g => simp [hg] at h
          | map es =>
            rw [hg] at hob
            obtain ⟨ms, cl, h1, h2⟩ := hob
            simp only [hg] at h
            exact main es ms h2 (.inr ⟨_, cl, rfl, h1⟩) h
  · cases h
theorem s_mapUpdate (hs : Sim w0 ρ σ w) (ha : ActR ρ n a A) (t : TypeId) (m k x : Operand) (o : Oper) (ho : o.op = .mapUpdate t m k x) {r : OR} (h : opA P σ a (.mapUpdate t m k x) = some r) : OpOk P w0 ρ σ w A o r := by
  obtain ⟨dst, op', ty', pos, af, gd⟩ := o
  subst ho
  simp only [opA] at h
  split at h
  · next kt e b key v hd hv hkv hxv =>
    have hr := evO_rel ha hv
    have hrk := evO_rel ha hkv
    have hrx := evO_rel ha hxv
    generalize hu : A.eval m = u at hr
    generalize huk : A.eval k = uk at hrk
    generalize hux : A.eval x = ux at hrx
    cases hr with
    | @map _ c k' hb =>
      have hob := hs.ob b c k' hb
      split at h
      · next es hg =>
        rw [hg] at hob
        obtain ⟨ms, cl, h1, h2⟩ := hob
        have hal : Alive σ b := ⟨_, hg, by simp⟩
        split at h
        · next hk =>
          have hks := const_same hrk (keyOk_spec hk).1
          subst hks
          have hget : (getObj c).run P w = .ok (.map ms cl) w := by simp [getObj, Sem.run, h1]
          split at h
          · next j old v0 hf =>
            obtain ⟨k1, m0, k2, k3, k4, k5⟩ := findA_run (P := P) hk h2 hf
            split at h
            · next hsb =>
              injection h with h
              subst h
              obtain ⟨q1, q2, q3⟩ := run_setMap (P := P) h1 (.map (ms.modify j fun e => { e with key := uk, val := ux }) cl)
              obtain ⟨s1, t1⟩ := hs.put hb (.map (es.modify j fun e => (uk, v))) hal q2 ⟨_, cl, q3, by
                have := EntR.modify 0 (key := uk) hrx j h2
                simpa using this⟩
              refine ⟨_, ρ, run_u ?_, s1, t1⟩
              have hold : ((ms[j]?).map (·.key)).getD uk = old := by
                rw [← Array.getElem?_toList, k2]
                exact k3
              have hst : (Instr.keyThatStays old uk).run P w = .ok uk w := by
                simp [Instr.keyThatStays, hsb]
              simp only [Instr.mapUpdate, Sem.run_bind, run_underlying hd, Result.andThen_ok, hu, huk, hux, hget, checkKey_run hk, k5, hold, hst]
              exact q1
            · cases h
          · next hf =>
            have hfr := findA_run (P := P) hk h2 hf
            injection h with h
            subst h
            obtain ⟨q1, q2, q3⟩ := run_setMap (P := P) h1 (.map (ms.push { key := uk, val := ux, born := cl }) (cl + 1))
            obtain ⟨s1, t1⟩ := hs.put hb (.map (es ++ [(uk, v)])) hal q2 ⟨_, cl + 1, q3, by
              have := EntR.snoc (key := uk) hrx cl h2
              simpa using this⟩
            refine ⟨_, ρ, run_u ?_, s1, t1⟩
            simp only [Instr.mapUpdate, Sem.run_bind, run_underlying hd, Result.andThen_ok, hu, huk, hux, hget, checkKey_run hk, hfr]
            exact q1
          · cases h
        · cases h
      · cases h
  · cases h
/-! ### All of them -/
theorem opA_sound (hs : Sim w0 ρ σ w) (ha : ActR ρ n a A) (o : Oper) {r : OR} (h : opA P σ a o.op = some r) : OpOk P w0 ρ σ w A o r := by
  generalize hop : o.op = op at h
  cases op with
  | move x => exact s_move hs ha x o (.inl hop) h
  | assign x => exact s_move hs ha x o (.inr hop) h
  | pick c x y => exact s_pick hs ha c x y o hop h
  | alloc e => exact s_alloc hs ha e o hop h
  | box e x => exact s_box hs ha e x o hop h
  | build t ps => exact s_build hs ha t ps o hop h
  | buildSlice t m ps => exact s_buildSlice hs ha t m ps o hop h
  | load t x => exact s_load hs ha t x o hop h
  | store t x y => exact s_store hs ha t x y o hop h
  | nilCheck x => exact s_nilCheck hs ha x o hop h
  | binOp op t x y ty => exact s_binOp hs ha op t x y ty o hop h
  | unOp op t x => exact s_unOp hs ha op t x o hop h
  | convert s d x => exact s_convert hs ha s d x o hop h
  | makeInterface t x => exact s_makeIface hs ha t x o hop h
  | makeFunc fn fs cs => exact s_makeFunc hs ha fn fs cs o hop h
  | makeMap t r' => cases r' with
    | none => exact s_makeMap hs ha t o hop h
    | some y => cases h
  | makeSlice t l c => exact s_makeSlice hs ha t l c o hop h
  | slice t x lo hi mx => exact s_slice hs ha t x lo hi mx o hop h
  | fieldAddr s x f => exact s_fieldAddr hs ha s x f o hop h
  | field s x f => exact s_field hs ha s x f o hop h
  | indexAddr t x ix => exact s_indexAddr hs ha t x ix o hop h
  | index t x ix => exact s_index hs ha t x ix o hop h
  | lookup t x ix ok => exact s_lookup hs ha t x ix ok o hop h
  | mapUpdate t m k x => exact s_mapUpdate hs ha t m k x o hop h
  | extract x i => exact s_extract hs ha x i o hop h
  | call c => exact s_call hs ha c o hop h
  | panic x => exact s_panic hs ha x o hop h
  | _ => cases h
end
end Ev
end Go.Proofs.YtibhkabmihhjiaaGreatDoor
