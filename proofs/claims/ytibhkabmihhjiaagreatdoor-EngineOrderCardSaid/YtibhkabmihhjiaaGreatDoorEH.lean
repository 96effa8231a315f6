/-
  The reckoner's operations are the machine's: rows that are made, and grow.
-/
import Derived.Test.YtibhkabmihhjiaaGreatDoorEG
import Derived.Laws.MakeOwn
import Derived.Laws.Append
namespace Go.Proofs.YtibhkabmihhjiaaGreatDoor
open Go Go.RowKit
set_option linter.unusedVariables false
set_option linter.unusedSimpArgs false
namespace Ev
variable {P : Program}
/-! ### Rows of zeros -/
theorem zerosL_len (z : List Value) : ∀ m, (zerosL z m).length = m * z.length
  | 0 => by simp [zerosL]
  | m + 1 => by rw [zerosL, List.length_append, zerosL_len z m, Nat.add_mul]; omega
theorem zerosL_get (z : List Value) : ∀ (m i : Nat), i < m * z.length → (zerosL z m)[i]? = z[i % z.length]?
  | 0, i, h => by omega
  | m + 1, i, h => by
    rw [zerosL]
    by_cases hi : i < z.length
    · rw [List.getElem?_append_left hi, Nat.mod_eq_of_lt hi]
    · rw [List.getElem?_append_right (by omega), zerosL_get z m (i - z.length) (by rw [Nat.add_mul] at h; omega)]
      rw [← Nat.mod_eq_sub_mod (by omega)]
theorem zerosL_range (z : Array Value) (m s : Nat) (hs : z.size = s) : ((Array.range (m * s)).map (fun i => z[i % z.size]!)).toList = zerosL z.toList m := by
  apply List.ext_getElem?
  intro i
  by_cases hi : i < m * s
  · rw [zerosL_get _ _ _ (by simp [hs]; exact hi)]
    have hpos : 0 < s := by
      rcases Nat.eq_zero_or_pos s with h | h
      · subst h; omega
      · exact h
    have hm : i % s < z.size := by rw [hs]; exact Nat.mod_lt _ hpos
    simp [Array.getElem?_map, Array.getElem?_range, hi, hs]
    rw [getElem!_pos z (i % s) hm]
    simp [hm]
  · rw [List.getElem?_eq_none (by simp; omega), List.getElem?_eq_none (by rw [zerosL_len]; simp [hs]; omega)]
theorem Rels.zeros {ρ : Pl} {z z' : List Value} (h : Rels ρ z z') : ∀ m, Rels ρ (zerosL z m) (zerosL z' m)
  | 0 => .nil
  | m + 1 => h.append (h.zeros m)
section
variable {w0 : Base} {w : World} {ρ : Pl} {σ : St} {n : Nat} {a : Env} {A : Act}
theorem s_makeSlice (hs : Sim w0 ρ σ w) (ha : ActR ρ n a A) (t : TypeId) (l c : Operand) (o : Oper) (ho : o.op = .makeSlice t l c) {r : OR} (h : opA P σ a (.makeSlice t l c) = some r) : OpOk P w0 ρ σ w A o r := by
  obtain ⟨dst, op', ty', pos, af, gd⟩ := o
  subst ho
  simp only [opA] at h
  split at h
  · next e lv cv hd hlv hcv =>
    have hrl := evO_rel ha hlv
    have hrc := evO_rel ha hcv
    generalize hul : A.eval l = ul at hrl
    generalize huc : A.eval c = uc at hrc
    split at h
    · next m1 m2 i h1 h2 hi =>
      obtain ⟨k1, rfl⟩ := natOf_spec h1
      obtain ⟨k2, rfl⟩ := natOf_spec h2
      cases hrl; cases hrc
      split at h
      · next z hz =>
        obtain ⟨i', hi', hz', hpc⟩ := zeroA_spec hz
        rw [hi] at hi'
        injection hi' with hi'
        subst hi'
        split at h
        · next c1 =>
          split at h
          · next c2 =>
            split at h
            · next c3 =>
              split at h
              · next c4 =>
                injection h with h
                subst h
                have hzc : Rels ρ (cellsL z) z.cells.toList := Rel.cells (Rel.const ρ hpc)
                have hzs : z.cells.size = i.size := by rw [← c4, cellsL_eq]; simp
                obtain ⟨ρ', k1', k2', k3', k4'⟩ := new_cells hs (vs := zerosL (cellsL z) m2) (ca := (Array.range (m2 * i.size)).map (fun j => z.cells[j % z.cells.size]!)) (by rw [zerosL_range _ _ _ hzs]; exact hzc.zeros m2) e
                refine ⟨.slice (some ⟨w.heap.size, 0, none⟩) m1 m2, _, ρ', run_v ?_, k1', k2', .slice 0 _ _ k3'⟩
                have hb : (i.bytes : Int) * (m2 : Int) ≤ 281474976710656 := by
                  have : i.bytes * m2 ≤ 1000 * 100000 := Nat.mul_le_mul c3 c2
                  have : ((i.bytes * m2 : Nat) : Int) ≤ ((1000 * 100000 : Nat) : Int) := Int.ofNat_le.2 this
                  rw [Int.natCast_mul] at this
                  omega
                have := run_make (P := P) w t e i z hd hi hz' k1 k2 (m1 : Int) (m2 : Int) (by omega) (by omega) hb (by omega)
                rw [hul, huc, this]
                rfl
              · cases h
            · cases h
          · cases h
        · cases h
      · cases h
    · cases h
  · cases h
/-! ### Appending, copying -/
theorem cellsA_sound' (hs : Sim w0 ρ σ w) {b c k : Nat} (hb : ρ b = some (c, k)) {o m : Nat} {sp : Option Nat} {l : List Value} (h : cellsA σ ⟨b, o, sp⟩ m = some l) :
    ∃ l' : List Value, (∀ W : World, W.heap = w.heap → (loadCells ⟨c, o, none⟩ m).run P W = .ok l'.toArray W) ∧ Rels ρ l l' ∧ l.length = m := by
  unfold cellsA at h
  have hob := hs.ob b c k hb
  cases hg : σ.heap.get b with
  | none => simp [hg] at h
  | some ob =>
    cases ob with
    | dead => simp [hg] at h
    | map es => simp [hg] at h
    | cells vs e g =>
      rw [hg] at hob
      obtain ⟨ca, fz, h1, h2, h3, h4, h5⟩ := hob
      simp only [hg] at h
      split at h
      · next hl =>
        injection h with h
        subst h
        have hl' := cells_len (cs := ca.toList) (by simpa using h2) hl
        refine ⟨(ca.toList.drop o).take m, fun W hW => ?_, cells_part h3 hl, hl⟩
        have h1' : W.heap[c]? = some (.cells ca e fz) := by rw [hW]; exact h1
        have := run_loadCells_list (P := P) W ⟨c, o, none⟩ ((ca.toList.drop o).take m) (fun j v hv => by rw [Addr.add_mid]; exact range_of h1' o m j v hv)
        rw [hl'] at this
        exact this
      · cases h
theorem lenA_run {x x' : Value} (hr : Rel ρ x x') {m : Nat} (h : lenA x = some m) (W : World) : (Builtin.lenOf x').run P W = .ok m W := by
  cases hr <;> simp only [lenA, Option.some.injEq] at h <;> first
    | (cases h; done)
    | (subst h; first | rfl | simp [Builtin.lenOf])
theorem firstA_run (hs : Sim w0 ρ σ w) {x x' : Value} (hr : Rel ρ x x') {size m : Nat} {l : List Value} (h : firstA σ size m x = some l) :
    ∃ l' : List Value, (∀ W : World, W.heap = w.heap → (Builtin.firstCells size m x').run P W = .ok l'.toArray W) ∧ Rels ρ l l' := by
  have hz : ∀ (q : Addr), m = 0 → ∀ W : World, (Builtin.firstCells size m (.slice (some q) m m)).run P W = .ok (#[] : Array Value) W := by
    intro q hm W
    subst hm
    simp [Builtin.firstCells, loadCells, loadCellsFrom]
  cases hr <;> simp only [firstA] at h <;> try (cases h; done)
  case string s =>
    injection h with h
    subst h
    refine ⟨((s.data.toList.take m).map fun b => .int .u8 b.toNat), fun W _ => ?_, Rels.scal ρ ?_⟩
    · have : (s.extract 0 m).data.map (fun b => Value.int .u8 b.toNat) = ((s.data.toList.take m).map fun b => (.int .u8 b.toNat : Value)).toArray := by
        rw [ByteArray.data_extract]
        apply Array.ext'
        simp [List.extract_eq_drop_take']
      simp only [Builtin.firstCells, this]
      rfl
    · rw [List.all_map]
      exact List.all_eq_true.2 fun b _ => rfl
  case nilSlice p q =>
    injection h with h
    subst h
    exact ⟨[], fun W _ => rfl, .nil⟩
  case slice b c k o p q hb =>
    split at h
    · next hm =>
      injection h with h
      subst h; subst hm
      exact ⟨[], fun W _ => by simp [Builtin.firstCells, loadCells, loadCellsFrom], .nil⟩
    · obtain ⟨l', h1, h2, h3⟩ := cellsA_sound' (P := P) hs hb (show cellsA σ _ (m * size) = some l from h)
      exact ⟨l', fun W hW => h1 W hW, h2⟩
  case grown b c k o p q q' hb hq h0 =>
    split at h
    · next hm =>
      injection h with h
      subst h; subst hm
      exact ⟨[], fun W _ => by simp [Builtin.firstCells, loadCells, loadCellsFrom], .nil⟩
    · obtain ⟨l', h1, h2, h3⟩ := cellsA_sound' (P := P) hs hb (show cellsA σ _ (m * size) = some l from h)
      exact ⟨l', fun W hW => h1 W hW, h2⟩
  case past y q =>
    split at h
    · next hm =>
      injection h with h
      subst h; subst hm
      exact ⟨[], fun W _ => by simp [Builtin.firstCells, loadCells, loadCellsFrom], .nil⟩
    · next hm =>
      rw [if_neg (by simp [okS])] at h
      cases h
theorem okGrow_spec {e : TypeId} {need bytes size got want : Nat} (h : okGrow P e need bytes size got want = true) : need < 1000000 ∧ bytes ≤ 1000 ∧ got = want ∧ ∃ z, zeroA P e = some z ∧ z.cells.size = size := by
  unfold okGrow at h
  simp only [Bool.and_eq_true, Nat.blt_eq, Nat.ble_eq, Nat.beq_eq_true_eq] at h
  obtain ⟨⟨⟨h1, h2⟩, h3⟩, h4⟩ := h
  refine ⟨h1, h2, Nat.eq_of_beq_eq_true h3, ?_⟩
  split at h4
  · next z hz => exact ⟨z, hz, by rw [← Nat.eq_of_beq_eq_true h4, cellsL_eq]; simp⟩
  · cases h4
/-- Append, where there is room. -/
theorem app_fits {t t2 ty e : TypeId} {d2 : TypeDesc} {i : TypeInfo} (ht : P.underlying t = some (.slice e)) (ht2 : P.underlying t2 = some d2) (hni : d2 = .string ∨ ∃ e', d2 = .slice e') (hi : P.info? e = some i)
    {base : Option Addr} {len cap m : Nat} {x' : Value} {new : List Value} {w' : World} (hx : (Builtin.lenOf x').run P w = .ok m w) (hn : (Builtin.firstCells i.size m x').run P w = .ok new.toArray w) (hc : len + m ≤ cap)
    (hst : (match base with | some q => storeCells (q.add (len * i.size)) new | none => pure ()).run P w = .ok () w') :
    (Builtin.append_ #[t, t2] ty #[.slice base len cap, x']).run P w = .ok (.slice base (len + m) cap) w' := by
  cases base with
  | none =>
    simp only [Sem.run_pure, Result.ok.injEq, true_and] at hst
    subst hst
    rcases hni with rfl | ⟨e', rfl⟩ <;> simp [Builtin.append_, run_underlying ht, run_underlying ht2, sizeOf, typeInfo, hi, hx, hc, hn]
  | some q =>
    rcases hni with rfl | ⟨e', rfl⟩ <;> simp [Builtin.append_, run_underlying ht, run_underlying ht2, sizeOf, typeInfo, hi, hx, hc, hn, hst]
/-- Append, where there is no room. -/
theorem app_grows {t t2 ty e : TypeId} {d2 : TypeDesc} {i : TypeInfo} {z : Value} (ht : P.underlying t = some (.slice e)) (ht2 : P.underlying t2 = some d2) (hni : d2 = .string ∨ ∃ e', d2 = .slice e') (hi : P.info? e = some i) (hz : i.zero = some z)
    {base : Option Addr} {len cap m : Nat} {x' : Value} {old new : List Value} (hx : ∀ W : World, W.heap = w.heap → (Builtin.lenOf x').run P W = .ok m W) (hn : ∀ W : World, W.heap = w.heap → (Builtin.firstCells i.size m x').run P W = .ok new.toArray W) (hc : cap < len + m)
    (ho : ∀ W : World, W.heap = w.heap → (Builtin.firstCells i.size len (.slice base len cap)).run P W = .ok old.toArray W) (h1 : len + m < 1000000) (h2 : i.bytes ≤ 1000) :
    (Builtin.append_ #[t, t2] ty #[.slice base len cap, x']).run P w = .ok (.slice (some ⟨w.heap.size, 0, none⟩) (len + m) (grownCap w (len + m) cap e))
      (w.drew.alloc (.cells (old.toArray ++ new.toArray ++ Builtin.zeroCells z.cells (grownCap w (len + m) cap e - (len + m))) e)) := by
  have hn0 : ¬ (len + m ≤ cap) := by omega
  have h63' : ¬ (9223372036854775807 < ((len : Int) + (m : Int))) := by omega
  have hb : (len + m) * i.bytes ≤ 1000000 * 1000 := Nat.mul_le_mul (by omega) h2
  have hfit := growslice_fits (need := len + m) (old := cap) (bytes := i.bytes) hc (by omega)
  have h48' : ¬ (281474976710656 < Builtin.nextslicecap (len + m) cap * i.bytes) := by omega
  rcases hni with rfl | ⟨e', rfl⟩ <;>
    (simp [Builtin.append_, run_underlying ht, run_underlying ht2, sizeOf, typeInfo, zeroValue, hi, hz, hx w rfl, hx w.drew rfl, hn0, h63', h48', Question.forced, hn w.drew rfl, ho w.drew rfl, newRow, grownCap]
     congr 2
     apply Array.ext'
     simp [List.append_assoc])
theorem firstA_zero {size : Nat} {x : Value} {l : List Value} (h : firstA σ size 0 x = some l) : l = [] := by
  cases x with
  | slice p q r =>
    cases p with
    | none => simp only [firstA, Option.some.injEq] at h; exact h.symm
    | some p => simp only [firstA, if_true, Option.some.injEq] at h; exact h.symm
  | string s => simp only [firstA, List.take_zero, List.map_nil, Option.some.injEq] at h; exact h.symm
  | _ => cases h
/-- A row that has been grown. -/
theorem grow_new (hs : Sim w0 ρ σ w) {e : TypeId} {size need G : Nat} {z : Value} (hz : z.cells.size = size) (hG : need ≤ G) {all all' : List Value} (hr : Rels ρ all all') (hl : all.length = need * size) :
    ∃ ρ', Sim w0 ρ' (σ.new (.cells all e size)) (w.drew.alloc (.cells (all'.toArray ++ Builtin.zeroCells z.cells (G - need)) e)) ∧ Step ρ σ ρ' (σ.new (.cells all e size)) ∧ ρ' σ.next = some (w.heap.size, G) := by
  have hl' : ρ.le (fun b => if b = σ.next then some (w.drew.heap.size, G) else ρ b) := fun b x hx => by
    have := (hs.dom b x.1 x.2 hx).1
    exact (if_neg (by omega)).trans hx
  have hlen := hr.length
  have hsz : (all'.toArray ++ Builtin.zeroCells z.cells (G - need)).size = G * size := by
    rw [Array.size_append, size_zeroCells, hz, List.size_toArray, ← hlen, hl, ← Nat.add_mul]
    congr 1
    omega
  have hsz2 : all.length ≤ G * size := by rw [hl]; exact Nat.mul_le_mul_right _ hG
  have htk : (all'.toArray ++ Builtin.zeroCells z.cells (G - need)).toList.take all.length = all' := by
    rw [Array.toList_append, hlen, List.take_append_of_le_length (Nat.le_refl _), List.take_length]
  obtain ⟨h1, h2⟩ := hs.drew.new (.cells all e size) G (.cells (all'.toArray ++ Builtin.zeroCells z.cells (G - need)) e) ⟨_, (0, 0), rfl, by rw [hsz]; exact hsz2, by rw [htk]; exact hr.mono hl', Or.inl (Nat.le_refl _), fun _ => hsz⟩
  exact ⟨_, h1, h2, if_pos rfl⟩
theorem appendA_sound (hs : Sim w0 ρ σ w) {s x s' x' : Value} (hrs : Rel ρ s s') (hrx : Rel ρ x x') {t t2 ty e : TypeId} {d2 : TypeDesc} {i : TypeInfo} (ht : P.underlying t = some (.slice e)) (ht2 : P.underlying t2 = some d2) (hni : d2 = .string ∨ ∃ e', d2 = .slice e') (hi : P.info? e = some i)
    {r : OR} (h : appendA P σ e i.size i.bytes s x = some r) :
    ∃ v σ' v' w' ρ', r = .val v σ' ∧ (Builtin.append_ #[t, t2] ty #[s', x']).run P w = .ok v' w' ∧ Sim w0 ρ' σ' w' ∧ Step ρ σ ρ' σ' ∧ Rel ρ' v v' := by
  unfold appendA at h
  split at h
  · next m base len cap hlen =>
    have hx := fun W => lenA_run (P := P) hrx hlen W
    split at h
    · cases h
    · next new hnew =>
      obtain ⟨new', hn, hnr⟩ := firstA_run (P := P) hs hrx hnew
      split at h
      · next hm0 =>
        subst hm0
        split at h
        · next hle =>
          injection h with h
          subst h
          have e0 := firstA_zero hnew
          subst e0
          cases hnr
          have key : ∀ (base' : Option Addr) (cap' : Nat), len ≤ cap' → (Builtin.append_ #[t, t2] ty #[.slice base' len cap', x']).run P w = .ok (.slice base' len cap') w := by
            intro base' cap' hc
            refine app_fits ht ht2 hni hi (hx w) (hn w rfl) (by omega) ?_
            cases base' <;> simp [storeCells]
          cases hrs with
          | nilSlice => exact ⟨_, _, _, w, ρ, rfl, key _ _ hle, hs, Step.refl ρ σ, .nilSlice _ _⟩
          | slice o _ _ hb => exact ⟨_, _, _, w, ρ, rfl, key _ _ hle, hs, Step.refl ρ σ, .slice _ _ _ hb⟩
          | grown o _ _ m' hb hm h0 => exact ⟨_, _, _, w, ρ, rfl, key _ _ (by omega), hs, Step.refl ρ σ, .grown _ _ _ _ hb hm h0⟩
          | past y m' => exact ⟨_, _, _, w, ρ, rfl, key _ _ (by omega), hs, Step.refl ρ σ, .past _ _⟩
        · cases h
      · next hm0 =>
        split at h
        · next hfit =>
          split at h
          · cases h
          · next p =>
            split at h
            · cases h
            · next hok =>
              split at h
              · cases h
              · next σ' hst =>
                injection h with h
                subst h
                cases hrs with
                | @slice b c k o _ _ hb =>
                  obtain ⟨w', h1, h2, h3⟩ := storeL_sound (P := P) hs hb hst hnr
                  refine ⟨_, _, _, w', ρ, rfl, app_fits ht ht2 hni hi (hx w) (hn w rfl) hfit (by show (storeCells ((⟨c, o, none⟩ : Addr).add (len * i.size)) new').run P w = _; rw [Addr.add_mid]; exact h1), h2, h3, .slice _ _ _ hb⟩
                | @grown b c k o _ _ m' hb hm h0 =>
                  obtain ⟨w', h1, h2, h3⟩ := storeL_sound (P := P) hs hb hst hnr
                  refine ⟨_, _, _, w', ρ, rfl, app_fits ht ht2 hni hi (hx w) (hn w rfl) (by omega) (by show (storeCells ((⟨c, o, none⟩ : Addr).add (len * i.size)) new').run P w = _; rw [Addr.add_mid]; exact h1), h2, h3, .grown _ _ _ _ hb hm h0⟩
                | past y m' => simp [okS] at hok
        · next hfit =>
          split at h
          · cases h
          · next hok =>
            rw [Bool.and_eq_true] at hok
            obtain ⟨hok, honew⟩ := hok
            obtain ⟨g1, g2, g3, z, hz, hzs⟩ := okGrow_spec hok
            obtain ⟨i', hi', hz', -⟩ := zeroA_spec hz
            rw [hi] at hi'
            injection hi' with hi'
            subst hi'
            split at h
            · split at h
              · next hl0 =>
                subst hl0
                injection h with h
                subst h
                cases hrs with
                | nilSlice =>
                  have hrun := app_grows (ty := ty) ht ht2 hni hi hz' (base := none) (len := 0) (cap := cap) (old := []) (fun W _ => hx W) hn (by omega) (fun W _ => rfl) (by omega) g2
                  have hG := grownCap_ge w (0 + m) cap e
                  obtain ⟨ρ', k1, k2, k3⟩ := grow_new hs (e := e) (need := m) (G := grownCap w (0 + m) cap e) hzs (by omega) hnr g3
                  refine ⟨_, _, _, _, ρ', rfl, hrun, ?_, k2, ?_⟩
                  · simpa using k1
                  · rw [Nat.zero_add]
                    rw [Nat.zero_add] at k3 hG
                    exact .grown _ _ _ _ k3 hG (fun _ => rfl)
              · cases h
            · next p =>
              split at h
              · cases h
              · next old hold =>
                cases hrs with
                | @slice b c k o _ _ hb =>
                  dsimp only at h
                  injection h with h
                  subst h
                  obtain ⟨old', o1, o2, o3⟩ := cellsA_sound' (P := P) hs hb hold
                  have hrun := app_grows (ty := ty) ht ht2 hni hi hz' (base := some ⟨c, o, none⟩) (len := len) (cap := cap) (old := old') (fun W _ => hx W) hn (by omega) (fun W hW => o1 W hW) (by omega) g2
                  have hG := grownCap_ge w (len + m) cap e
                  obtain ⟨ρ', k1, k2, k3⟩ := grow_new hs (e := e) (need := len + m) (G := grownCap w (len + m) cap e) hzs hG (o2.append hnr) (by rw [List.length_append, o3, g3, Nat.add_mul])
                  refine ⟨_, _, _, _, ρ', rfl, hrun, ?_, k2, .grown _ _ _ _ k3 hG (fun _ => rfl)⟩
                  have : (old' ++ new').toArray = old'.toArray ++ new'.toArray := by simp
                  rw [← this]
                  exact k1
                | past y m' => dsimp only at h; cases h
                | @grown b c k o _ _ m' hb hm h0 =>
                  dsimp only at h
                  split at h
                  · next ho =>
                    subst ho
                    obtain rfl := h0 rfl
                    split at h
                    · next vs e' g hg =>
                      split at h
                      · next hvl =>
                        split at h
                        · next hgs =>
                          subst hgs
                          split at h
                          · next hee =>
                            subst hee
                            injection h with h
                            subst h
                            have hal : Alive σ b := ⟨_, hg, by simp⟩
                            by_cases hroom : len + m ≤ m'
                            · -- there is room: the place is taken over
                              have hob := hs.ob b c m' hb
                              rw [hg] at hob
                              obtain ⟨ca, fz, q1, q2, q3, q4, q5⟩ := hob
                              have hov : old = vs := by
                                unfold cellsA at hold
                                simp only [hg] at hold
                                split at hold
                                · injection hold with hold
                                  rw [← hold, List.drop_zero, ← hvl, List.take_length]
                                · cases hold
                              subst hov
                              have hnl : new'.length = m * i.size := by rw [← hnr.length]; exact g3
                              have hfits : len * i.size + m * i.size ≤ ca.size := by
                                by_cases hz0 : i.size = 0
                                · rw [hz0]; simp
                                · rw [q5 hz0, ← Nat.add_mul]; exact Nat.mul_le_mul_right _ hroom
                              obtain ⟨w', ca', r1, r2, r3, r4⟩ := run_storeC (P := P) (c := c) (o := len * i.size) new' 0 ca w q1 q4 (by omega) (hnr.oneC honew)
                              rw [Nat.add_zero] at r4
                              have hsz : ca'.size = ca.size := by
                                have := congrArg List.length r4
                                rw [splice_len (by simp; omega)] at this
                                simpa using this
                              have hrun := app_fits (ty := ty) ht ht2 hni hi (base := some ⟨c, 0, none⟩) (hx w) (hn w rfl) hroom (by show (storeCells ((⟨c, 0, none⟩ : Addr).add (len * i.size)) new').run P w = _; rw [Addr.add_mid, Nat.zero_add]; exact r1)
                              have hlt : ρ.le (fun x => if x = σ.next then some (c, m') else ρ x) := fun x y hxy => by
                                have := (hs.dom x y.1 y.2 hxy).1
                                exact (if_neg (by omega)).trans hxy
                              have hol := q3.length
                              have htake : ca'.toList.take (old ++ new).length = ca.toList.take old.length ++ new' := by
                                rw [r4, List.length_append, hvl, g3, ← hnl]
                                rw [List.take_append_of_le_length (by simp; omega)]
                                rw [List.take_of_length_le (by simp; omega)]
                              obtain ⟨s1, t1⟩ := hs.retake hb hal (.cells (old ++ new) e' i.size) r2 ⟨ca', fz, r3, by rw [List.length_append, hvl, g3, hsz]; exact hfits, by rw [htake]; exact (q3.append hnr).mono hlt, by rw [hsz]; exact q4, by rw [hsz]; exact q5⟩
                              exact ⟨_, _, _, w', _, rfl, hrun, s1, t1, .grown _ _ _ _ (if_pos rfl) hroom (fun _ => rfl)⟩
                            · obtain ⟨old', o1, o2, o3⟩ := cellsA_sound' (P := P) hs hb hold
                              have hrun := app_grows (ty := ty) ht ht2 hni hi hz' (base := some ⟨c, 0, none⟩) (len := len) (cap := m') (old := old') (fun W _ => hx W) hn (by omega) (fun W hW => o1 W hW) (by omega) g2
                              have hG := grownCap_ge w (len + m) m' e'
                              obtain ⟨s1, t1⟩ := hs.put hb .dead hal (Chg.refl w) trivial
                              obtain ⟨ρ', k1, k2, k3⟩ := grow_new s1 (e := e') (need := len + m) (G := grownCap w (len + m) m' e') hzs hG (o2.append hnr) (by rw [List.length_append, o3, g3, Nat.add_mul])
                              refine ⟨_, _, _, _, ρ', rfl, hrun, ?_, t1.trans k2, .grown _ _ _ _ k3 hG (fun _ => rfl)⟩
                              have : (old' ++ new').toArray = old'.toArray ++ new'.toArray := by simp
                              rw [← this]
                              exact k1
                          · cases h
                        · cases h
                      · cases h
                    · cases h
                  · cases h
  · cases h
end
end Ev
end Go.Proofs.YtibhkabmihhjiaaGreatDoor
