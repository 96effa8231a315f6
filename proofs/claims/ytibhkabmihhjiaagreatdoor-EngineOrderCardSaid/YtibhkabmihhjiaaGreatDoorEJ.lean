/-
  The reckoner's operations are the machine's: built values, maps, calls; all of them.
-/
import Derived.Test.YtibhkabmihhjiaaGreatDoorEI
namespace Go.Proofs.YtibhkabmihhjiaaGreatDoor
open Go Go.RowKit
set_option linter.unusedVariables false
set_option linter.unusedSimpArgs false
namespace Ev
variable {P : Program}
/-! ### Built values -/
theorem foldl_set (off : Nat) : ∀ (l : List Value) (k : Nat) (ca : Array Value), off + k + l.length ≤ ca.size → ((l.zipIdx k).foldl (fun (cs : Array Value) (p : Value × Nat) => cs.setIfInBounds (off + p.2) p.1) ca).toList = ca.toList.take (off + k) ++ l ++ ca.toList.drop (off + k + l.length)
  | [], k, ca, h => by simp
  | v :: l, k, ca, h => by
    rw [List.length_cons] at h
    rw [List.zipIdx_cons, List.foldl_cons, foldl_set off l (k + 1) _ (by simp; omega)]
    have e1 : (ca.setIfInBounds (off + k) v).toList = ca.toList.set (off + k) v := by simp
    have hl : off + k < ca.toList.length := by simp; omega
    rw [e1, show off + (k + 1) = off + k + 1 by omega, set_take hl, set_drop (by omega), List.length_cons, show off + k + 1 + l.length = off + k + (l.length + 1) by omega]
    simp
def PartsR (ρ : Pl) : List (Nat × Value) → List (Nat × Value) → Prop
  | [], [] => True
  | p :: ps, q :: qs => p.1 = q.1 ∧ Rel ρ p.2 q.2 ∧ PartsR ρ ps qs
  | _, _ => False
theorem fill_sound {ρ : Pl} (place : Nat → Option (Nat × Nat)) : ∀ (ps qs : List (Nat × Value)) (cells l : List Value) (ca : Array Value), PartsR ρ ps qs → Rels ρ cells ca.toList → fillA place cells ps = some l → ∃ ca', Instr.fill place ca qs = some ca' ∧ Rels ρ l ca'.toList
  | [], [], cells, l, ca, _, hr, h => by
    simp only [fillA, Option.some.injEq] at h
    subst h
    exact ⟨ca, rfl, hr⟩
  | (i, v) :: ps, (j, v') :: qs, cells, l, ca, ⟨h1, h2, h3⟩, hr, h => by
    simp only at h1 h2
    subst h1
    simp only [fillA] at h
    split at h
    · cases h
    · next off size hp =>
      split at h
      · next hsz =>
        split at h
        · next hle =>
          have hc := h2.cells
          have hlen := hc.length
          have hcl := hr.length
          have hvs : v'.cells.size = size := by rw [← hsz, hlen]; simp
          have hca : ca.size = cells.length := by rw [hcl]; simp
          have hfold : (v'.cells.zipIdx.foldl (fun cs (c, j) => cs.setIfInBounds (off + j) c) ca).toList = ca.toList.take off ++ v'.cells.toList ++ ca.toList.drop (off + v'.cells.toList.length) := by
            have := foldl_set off v'.cells.toList 0 ca (by simp; omega)
            rw [Nat.add_zero] at this
            rw [← this, ← Array.foldl_toList, Array.toList_zipIdx]
          obtain ⟨ca', k1, k2⟩ := fill_sound place ps qs _ l (v'.cells.zipIdx.foldl (fun cs (c, j) => cs.setIfInBounds (off + j) c) ca) h3 (by
            rw [hfold, ← hlen, hsz]
            exact ((hr.take off).append hc).append (hr.drop _)) h
          refine ⟨ca', ?_, k2⟩
          rw [Instr.fill, hp]
          simp only
          rw [if_neg]
          · exact k1
          · simp [hvs]
            omega
        · cases h
      · cases h
  | [], _ :: _, _, _, _, h, _, _ => h.elim
  | _ :: _, [], _, _, _, h, _, _ => h.elim
section
variable {w0 : Base} {w : World} {ρ : Pl} {σ : St} {n : Nat} {a : Env} {A : Act}
theorem partsA_rel (ha : ActR ρ n a A) : ∀ (ps : List (Nat × Operand)) (vs : List (Nat × Value)), partsA a ps = some vs → PartsR ρ vs (ps.map fun p => (p.1, A.eval p.2))
  | [], vs, h => by
    simp only [partsA, Option.some.injEq] at h
    subst h
    trivial
  | (i, o) :: ps, vs, h => by
    simp only [partsA] at h
    split at h
    · cases h
    · next v hv =>
      split at h
      · cases h
      · next ws hw =>
        injection h with h
        subst h
        exact ⟨rfl, evO_rel ha hv, partsA_rel ha ps ws hw⟩
theorem places_run : ∀ (fs : List Field) (pl : List (Nat × Nat)), placesA P fs = some pl → ∀ W, (fs.mapM (fun f => do pure (f.offset, ← sizeOf f.type)) : Sem (List (Nat × Nat))).run P W = .ok pl W
  | [], pl, h, W => by
    simp only [placesA, Option.some.injEq] at h
    subst h
    rfl
  | f :: fs, pl, h, W => by
    simp only [placesA] at h
    split at h
    · cases h
    · next m hm =>
      split at h
      · cases h
      · next l hl =>
        injection h with h
        subst h
        obtain ⟨i, hi, rfl⟩ := map_some hm
        have h1 : (do pure (f.offset, ← sizeOf f.type) : Sem (Nat × Nat)).run P W = .ok (f.offset, i.size) W := by simp [sizeOf, typeInfo, hi]
        rw [List.mapM_cons, Sem.run_bind, h1, Result.andThen_ok, Sem.run_bind, places_run fs l hl W]
        rfl
theorem s_build (hs : Sim w0 ρ σ w) (ha : ActR ρ n a A) (t : TypeId) (ps : Array (Nat × Operand)) (o : Oper) (ho : o.op = .build t ps) {r : OR} (h : opA P σ a (.build t ps) = some r) : OpOk P w0 ρ σ w A o r := by
  obtain ⟨dst, op', ty', pos, af, gd⟩ := o
  subst ho
  simp only [opA] at h
  split at h
  · next z vs fs hz hvs hd =>
    obtain ⟨i, hi, hiz, hpc⟩ := zeroA_spec hz
    split at h
    · next pl hpl =>
      obtain ⟨l, hl, rfl⟩ := map_some h
      obtain ⟨ca', k1, k2⟩ := fill_sound _ _ _ _ _ z.cells (partsA_rel ha _ _ hvs) (Rel.cells (Rel.const ρ hpc)) hl
      refine ⟨.agg ca', w, ρ, run_v ?_, hs, Step.refl ρ σ, .agg (by simpa using k2)⟩
      have hm : (fs.mapM (fun f => do pure (f.offset, ← sizeOf f.type)) : Sem (Array (Nat × Nat))).run P w = .ok pl.toArray w := by
        rw [Array.mapM_eq_mapM_toList, Sem.run_map, places_run fs.toList pl hpl w]
        rfl
      have hparts : (ps.map fun (i, x) => (i, A.eval x)).toList = ps.toList.map fun p => (p.1, A.eval p.2) := by simp
      have hpe : (fun x : Nat => pl.toArray[x]?) = fun i => pl[i]? := by funext x; simp
      simp only [Instr.build, zeroValue, typeInfo, Sem.run_bind, run_program, hi, hiz, Sem.run_pure, Result.andThen_ok, run_underlying hd]
      rw [hm]
      simp only [Result.andThen_ok, hparts, hpe, k1]
      rfl
    · cases h
  · next z vs q e hz hvs hd =>
    obtain ⟨i, hi, hiz, hpc⟩ := zeroA_spec hz
    split at h
    · next m hm =>
      obtain ⟨ie, hie, rfl⟩ := map_some hm
      obtain ⟨l, hl, rfl⟩ := map_some h
      obtain ⟨ca', k1, k2⟩ := fill_sound _ _ _ _ _ z.cells (partsA_rel ha _ _ hvs) (Rel.cells (Rel.const ρ hpc)) hl
      refine ⟨.agg ca', w, ρ, run_v ?_, hs, Step.refl ρ σ, .agg (by simpa using k2)⟩
      have hparts : (ps.map fun (i, x) => (i, A.eval x)).toList = ps.toList.map fun p => (p.1, A.eval p.2) := by simp
      simp only [Instr.build, zeroValue, typeInfo, Sem.run_bind, run_program, hi, hiz, Sem.run_pure, Result.andThen_ok, run_underlying hd, sizeOf, hie, hparts, k1]
    · cases h
  · cases h
theorem s_buildSlice (hs : Sim w0 ρ σ w) (ha : ActR ρ n a A) (t : TypeId) (m : Nat) (ps : Array (Nat × Operand)) (o : Oper) (ho : o.op = .buildSlice t m ps) {r : OR} (h : opA P σ a (.buildSlice t m ps) = some r) : OpOk P w0 ρ σ w A o r := by
  obtain ⟨dst, op', ty', pos, af, gd⟩ := o
  subst ho
  simp only [opA] at h
  split at h
  · next e vs hd hvs =>
    split at h
    · next i hi =>
      split at h
      · next z hz =>
        obtain ⟨i', hi', hiz, hpc⟩ := zeroA_spec hz
        rw [hi] at hi'
        injection hi' with hi'
        subst hi'
        split at h
        · next hle =>
          split at h
          · next hzl =>
            obtain ⟨l, hl, rfl⟩ := map_some h
            have hzs : z.cells.size = i.size := by rw [← hzl, cellsL_eq]; simp
            have hzr : Rels ρ (zerosL (cellsL z) m) (madeCells z.cells (m * i.size)).toList := by
              unfold madeCells
              rw [zerosL_range _ _ _ hzs]
              exact (Rel.cells (Rel.const ρ hpc)).zeros m
            obtain ⟨ca', k1, k2⟩ := fill_sound _ _ _ _ _ (madeCells z.cells (m * i.size)) (partsA_rel ha _ _ hvs) hzr hl
            obtain ⟨ρ', q1, q2, q3, q4⟩ := new_cells hs k2 e
            refine ⟨.slice (some ⟨w.heap.size, 0, none⟩) m m, _, ρ', run_v ?_, q1, q2, .slice 0 _ _ q3⟩
            have hparts : (ps.map fun (i, x) => (i, A.eval x)).toList = ps.toList.map fun p => (p.1, A.eval p.2) := by simp
            have hbig : ¬ (16777216 < m * i.size) := by omega
            unfold madeCells at k1
            by_cases hq : m * i.size = 0
            · rw [hq] at k1
              simp only [Array.range_zero', List.map_toArray, List.map_nil, Array.map_empty] at k1
              have hr0 : (Array.map (fun x => (default : Value)) (Array.range 0)) = #[] := by apply Array.ext'; simp
              simp [Instr.buildSlice, run_underlying hd, sizeOf, typeInfo, hi, hbig, hq, hparts, hr0, k1, newRow]
            · simp [Instr.buildSlice, run_underlying hd, sizeOf, typeInfo, hi, hbig, hq, hparts, zeroValue, hiz, k1, newRow]
          · cases h
        · cases h
      · cases h
    · cases h
  · cases h
/-! ### Calls -/
theorem s_call (hs : Sim w0 ρ σ w) (ha : ActR ρ n a A) (c : Call) (o : Oper) (ho : o.op = .call c) {r : OR} (h : opA P σ a (.call c) = some r) : OpOk P w0 ρ σ w A o r := by
  obtain ⟨dst, op', ty', pos, af, gd⟩ := o
  subst ho
  simp only [opA] at h
  split at h
  · cases h
  · next args hargs =>
    have hra := evOs_rel ha hargs
    split at h
    · next f hc =>
      split at h
      · next g fs cs hf =>
        injection h with h
        subst h
        have hr := evO_rel ha hf
        generalize hu : A.eval f = u at hr
        cases hr with
        | @func _ _ _ fs' cs' h1 h2 =>
          refine ⟨(fs' ++ c.args.map A.eval) ++ cs', fun fn hfn hb hname => ?_, ?_⟩
          · have hbn : ¬ fn.body = none := by intro hq; rw [hq] at hb; cases hb
            have hnm : ¬ fn.name = "runtime.NumGoroutine" := by simpa using hname
            simp [execOp, resolve, hc, hu, Deferred.ofValue, invoke, callFunc, hfn]
            rw [if_neg hnm, if_neg hbn]
          · have : ((fs' ++ c.args.map A.eval) ++ cs').toList = fs'.toList ++ (c.args.toList.map A.eval) ++ cs'.toList := by simp
            rw [this]
            exact (h1.append hra).append h2
      · cases h
    · next b hc =>
      obtain ⟨v, σ', v', w', ρ', rfl, h2, h3, h4, h5⟩ := s_builtin (P := P) hs (cargs := c.args.map A.eval) (by simpa using hra) h ty' (c.args.map fun | .const _ => true | _ => false)
      refine ⟨v', w', ρ', ?_, h3, h4, h5⟩
      rw [Array.toArray_toList] at h2
      rw [← h2]
      simp [execOp, resolve, hc, invoke]
      rfl
    · cases h
end
end Ev
end Go.Proofs.YtibhkabmihhjiaaGreatDoor
