/-
  What the laws of chapter 24 are handed, read: a cert.
-/
import Derived.Test.YtnamcghcgcknpaaMayB
import Derived.ChangeArms
import Derived.ChangeSlices
import Derived.Deep.Slices
import Derived.Lib.SmallJoins
namespace Go.Proofs.Ytnamcghcgcknpaa
open Go.RowKit Go.Deep Go.ChangeShapes
set_option linter.unusedVariables false

theorem cells_t33 : Try.prog.cellsOf 33 = 8 := by kernel_rfl
theorem cells_t31 : Try.prog.cellsOf 31 = 5 := by kernel_rfl
theorem cells_t28 : Try.prog.cellsOf 28 = 2 := by kernel_rfl
theorem cells_t56 : Try.prog.cellsOf 56 = 2 := by kernel_rfl
theorem cells_t54 : Try.prog.cellsOf 54 = 1 := by kernel_rfl
theorem cells_t25 : Try.prog.cellsOf 25 = 1 := by kernel_rfl
theorem cells_t24 : Try.prog.cellsOf 24 = 1 := by kernel_rfl
theorem cells_t26 : Try.prog.cellsOf 26 = 1 := by kernel_rfl
theorem cells_t3 : Try.prog.cellsOf 3 = 1 := by kernel_rfl
theorem cells_t4 : Try.prog.cellsOf 4 = 1 := by kernel_rfl
theorem cells_t29 : Try.prog.cellsOf 29 = 1 := by kernel_rfl
theorem cells_t77 : Try.prog.cellsOf 77 = 1 := by kernel_rfl
section
variable {H : Type} {enc : TypeId × Value → H} {W : World} {base : Nat} {sp : Nat → Bool} {hd : Bool}
set_option maxRecDepth 100000 in
theorem flo_reads {fuel : Nat} {cs : List Value} {x : DataW H × List MemPlace} (h : DataW.trod enc Try.prog W base sp hd fuel 29 cs = some x) : ∃ n, cs = [.float .f64 n] ∧ n < 18446744073709551616 := by
  cases fuel with
  | zero => simp [DataW.trod] at h
  | succ n =>
    unfold DataW.trod at h
    rw [Try.underlying29] at h
    split at h <;> try (simp_all; done)
    rename_i k k' b he
    have hk : FloatKind.f64 = k := by simpa using he
    subst hk
    by_cases hh : k' = FloatKind.f64 ∧ (Lit.float FloatKind.f64 b).wf = true
    · obtain ⟨rfl, hb⟩ := hh
      exact ⟨_, rfl, by simpa [Lit.wf] using hb⟩
    · rw [if_neg hh] at h
      cases h
theorem ints_reads {t e : TypeId} {k : IntKind} {fuel : Nat} {cs : List Value} {x : DataW H × List MemPlace} (ht : Try.prog.underlying t = some (.slice e)) (he : Try.prog.underlying e = some (.int k)) (hc : Try.prog.cellsOf e = 1) (h : DataW.trod enc Try.prog W base sp hd fuel t cs = some x) :
    ∃ (a : Option Addr) (cap : Nat) (zs : List Int), cs = [.slice a zs.length cap] ∧ Cells W a zs.length cap (zs.map (Value.int k)) ∧ ∀ z ∈ zs, (Lit.int k z).wf = true := by
  rcases open_ints ht he hc h with ⟨rfl, _⟩ | ⟨a, len, cap, zs, rfl, _, hl, hm, hz, _, hcell, hwz⟩
  · exact ⟨none, 0, [], rfl, ⟨Nat.le_refl _, by unfold maxLen; omega, fun j u hu => by simp at hu⟩, by simp⟩
  · have hlz : len ≤ zs.length := by rw [hz]; split <;> omega
    refine ⟨some a, cap, zs.take len, by rw [List.length_take, Nat.min_eq_left hlz], ?_, fun z hz => hwz z (List.mem_of_mem_take hz)⟩
    rw [List.length_take, Nat.min_eq_left hlz]
    refine ⟨hl, hm, fun j u hu => ⟨a, rfl, ?_⟩⟩
    have hj : j < len := by
      rcases Nat.lt_or_ge j len with h | h
      · exact h
      · rw [List.getElem?_eq_none (by simp; omega)] at hu; cases hu
    have hjz : j < zs.length := by omega
    have e : ((zs.take len).map (Value.int k))[j]? = some (.int k (zs.getD j 0)) := by
      simp [hj, hjz]
    rw [e] at hu
    rw [hcell j hjz, hu]
theorem steps_cells {W : World} {x : Addr} {l : List (Int × Bool)} (h : ∀ i s, l[i]? = some s → W.cell? (x.add (2 * i)) = some (.int .i64 s.1) ∧ W.cell? (x.add (2 * i + 1)) = some (.bool s.2)) (j : Nat) (u : Value) (hu : (stepsI l)[j]? = some u) : W.cell? (x.add j) = some u := by
  have hj : j < l.length * 2 := by
    rw [← stepsI_length]
    exact (List.getElem?_eq_some_iff.1 hu).1
  obtain ⟨s, hs⟩ : ∃ s, l[j / 2]? = some s := ⟨_, List.getElem?_eq_getElem (by omega)⟩
  obtain ⟨h1, h2⟩ := h _ s hs
  obtain ⟨e1, e2⟩ := stepsI_get l _ s hs
  rcases Nat.mod_two_eq_zero_or_one j with hm | hm
  · have e : 2 * (j / 2) = j := by omega
    rw [e] at h1 e1
    rw [hu] at e1
    rw [h1, e1]
  · have e : 2 * (j / 2) + 1 = j := by omega
    rw [e] at h2 e2
    rw [hu] at e2
    rw [h2, e2]
set_option maxRecDepth 100000 in
theorem steps_reads {fuel : Nat} {cs : List Value} {x : DataW H × List MemPlace} (h : DataW.trod enc Try.prog W base sp hd fuel 54 cs = some x) :
    ∃ (a : Option Addr) (cap : Nat) (l : List (Int × Bool)), cs = [.slice a l.length cap] ∧ Cells W a l.length cap (stepsI l) := by
  rcases DataW.trod_slice Try.underlying54 h with ⟨rfl, _⟩ | ⟨a, len, cap, elems, rest, q, rfl, rfl, _, hb, hle, hm, hlen2, hel, _⟩
  · exact ⟨none, 0, [], rfl, ⟨Nat.le_refl _, by unfold maxLen; omega, fun j u hu => by simp [stepsI] at hu⟩⟩
  · rw [cells_t56] at hel
    have hone : ∀ i, i < len → ∃ s : Int × Bool, W.cell? (a.add (2 * i)) = some (.int .i64 s.1) ∧ W.cell? (a.add (2 * i + 1)) = some (.bool s.2) := by
      intro i hi
      have h1 := hel i hi
      rw [List.getElem?_eq_getElem (by omega)] at h1
      obtain ⟨cs', h2, h3⟩ := Option.bind_eq_some_iff.1 h1
      obtain ⟨xs, n, _, _, hl, hxl, hf⟩ := DataW.trod_struct Try.underlying56 h3
      rw [cells_t56] at hl
      match xs, hxl, cs', hl with
      | [y0, y1], _, [v0, v1], _ =>
        have g0 := hf 0 _ rfl
        have g1 := hf 1 _ rfl
        simp [cells_t3, cells_t4] at g0 g1
        obtain ⟨t, e0, _, _⟩ := DataW.trod_int Try.underlying3 g0
        obtain ⟨b, e1, _⟩ := DataW.trod_bool Try.underlying4 g1
        simp at e0 e1
        subst e0 e1
        obtain ⟨_, _, hc⟩ := World.cells?_some h2
        have c0 := hc 0 (by omega)
        have c1 := hc 1 (by omega)
        refine ⟨(t, b), ?_, ?_⟩
        · rw [Nat.mul_comm]; simpa [Addr.add] using c0
        · rw [add_one]; simpa [Addr.add] using c1
    obtain ⟨F, hF⟩ := choose_lt hone
    have hget : ∀ j s, ((List.range len).map F)[j]? = some s → j < len ∧ s = F j := by
      intro j s hj
      by_cases hlt : j < len
      · rw [List.getElem?_map, List.getElem?_range hlt] at hj
        exact ⟨hlt, (Option.some.inj hj).symm⟩
      · rw [List.getElem?_eq_none (by simp; omega)] at hj
        cases hj
    refine ⟨some a, cap, (List.range len).map F, by simp, ?_⟩
    rw [List.length_map, List.length_range]
    refine ⟨hle, hm, fun j u hu => ⟨a, rfl, steps_cells (fun i s hs => ?_) j u hu⟩⟩
    obtain ⟨h1, rfl⟩ := hget i s hs
    exact hF i h1
set_option maxRecDepth 100000 in
theorem walks_reads {fuel : Nat} {cs : List Value} {x : DataW H × List MemPlace} (h : DataW.trod enc Try.prog W base sp hd fuel 25 cs = some x) :
    ∃ (a : Option Addr) (cap : Nat) (us : List Value) (ls : List (List (Int × Bool))), cs = [.slice a ls.length cap] ∧ Cells W a ls.length cap us ∧ WalkRows W us ls := by
  rcases DataW.trod_slice Try.underlying25 h with ⟨rfl, _⟩ | ⟨a, len, cap, elems, rest, q, rfl, rfl, _, hb, hle, hm, hlen2, hel, _⟩
  · exact ⟨none, 0, [], [], rfl, ⟨Nat.le_refl _, by unfold maxLen; omega, fun j u hu => by simp at hu⟩, trivial⟩
  · rw [cells_t54] at hel
    have hone : ∀ i, i < len → ∃ y : Value × List (Int × Bool), W.cell? (a.add i) = some y.1 ∧ ∃ a' cap', y.1 = .slice a' y.2.length cap' ∧ Cells W a' y.2.length cap' (stepsI y.2) := by
      intro i hi
      have h1 := hel i hi
      rw [List.getElem?_eq_getElem (by omega)] at h1
      obtain ⟨cs', h2, h3⟩ := Option.bind_eq_some_iff.1 h1
      obtain ⟨a', cap', l, rfl, hcl⟩ := steps_reads h3
      obtain ⟨_, _, hc⟩ := World.cells?_some h2
      have c0 := hc 0 (by omega)
      exact ⟨(_, l), by simpa [Addr.add] using c0, a', cap', rfl, hcl⟩
    have : Inhabited (Value × List (Int × Bool)) := ⟨(.nilFunc, [])⟩
    obtain ⟨F, hF⟩ := choose_lt hone
    have hrows : ∀ k, k ≤ len → WalkRows W ((List.range' (len - k) k).map fun i => (F i).1) ((List.range' (len - k) k).map fun i => (F i).2) := by
      intro k
      induction k with
      | zero => intro _; trivial
      | succ k ih =>
        intro hk
        rw [show List.range' (len - (k + 1)) (k + 1) = (len - (k + 1)) :: List.range' (len - k) k by rw [List.range'_succ, show len - (k + 1) + 1 = len - k by omega]]
        obtain ⟨_, a', cap', e1, e2⟩ := hF (len - (k + 1)) (by omega)
        exact ⟨⟨a', cap', e1, e2⟩, ih (by omega)⟩
    have hr := hrows len (Nat.le_refl _)
    rw [Nat.sub_self] at hr
    refine ⟨some a, cap, _, _, by simp, ?_, hr⟩
    rw [List.length_map, List.length_range']
    refine ⟨hle, hm, fun j u hu => ⟨a, rfl, ?_⟩⟩
    rw [List.getElem?_map] at hu
    by_cases hlt : j < len
    · rw [List.getElem?_range' hlt] at hu
      simp at hu
      rw [← hu]
      exact (hF j hlt).1
    · rw [List.getElem?_eq_none (by simp; omega)] at hu
      simp at hu
set_option maxRecDepth 100000 in
/-- A value, read. -/
theorem value_reads {fuel : Nat} {cs : List Value} {x : DataW H × List MemPlace} (h : DataW.trod enc Try.prog W base sp hd fuel 31 cs = some x) :
    ∃ (v : Val) (a : Option Addr) (cap : Nat), cs = [.int .i64 v.sem, .bool v.inf, .slice a v.w.length cap, .int .i64 v.level, .float .f64 v.x] ∧ Cells W a v.w.length cap (wordCells v.w) ∧ (∀ d ∈ v.w, d < 4294967296) ∧ v.x < 18446744073709551616 := by
  obtain ⟨xs, n, rfl, _, hl, hxl, hf⟩ := DataW.trod_struct Try.underlying31 h
  rw [cells_t31] at hl
  match xs, hxl, cs, hl with
  | [y0, y1, y2, y3], _, [v0, v1, v2, v3, v4], _ =>
    have g0 := hf 0 _ rfl
    have g1 := hf 1 _ rfl
    have g2 := hf 2 _ rfl
    have g3 := hf 3 _ rfl
    simp [cells_t3, cells_t28, cells_t29] at g0 g1 g2 g3
    obtain ⟨s, e0, _, _⟩ := DataW.trod_int Try.underlying3 g0
    obtain ⟨lv, e2, _, _⟩ := DataW.trod_int Try.underlying3 g2
    obtain ⟨f, e3, hf3⟩ := flo_reads g3
    obtain ⟨ys, m, _, _, _, hyl, hg⟩ := DataW.trod_struct Try.underlying28 g1
    match ys, hyl with
    | [z0, z1], _ =>
      have k0 := hg 0 _ rfl
      have k1 := hg 1 _ rfl
      simp [cells_t4, cells_t26] at k0 k1
      obtain ⟨b, e1, _⟩ := DataW.trod_bool Try.underlying4 k0
      obtain ⟨a, cap, zs, e4, hcl, hwz⟩ := ints_reads Try.underlying26 Try.underlying77 cells_t77 k1
      simp at e0 e1 e2 e3 e4
      subst e0 e1 e2 e3 e4
      have hz0 : ∀ z ∈ zs, 0 ≤ z ∧ z ≤ 4294967295 := fun z hz => by
        have := hwz z hz
        simp only [Lit.wf, Bool.and_eq_true, decide_eq_true_eq] at this
        exact ⟨this.1, this.2⟩
      have hwc : zs.map (Value.int .u32) = wordCells (zs.map Int.toNat) := by
        unfold wordCells
        rw [List.map_map]
        refine List.map_congr_left fun z hz => ?_
        have := hz0 z hz
        simp only [Function.comp_apply]
        rw [Int.toNat_of_nonneg this.1]
      refine ⟨⟨s, b, zs.map Int.toNat, lv, f⟩, a, cap, by simp, ?_, fun d hd => ?_, hf3⟩
      · rw [List.length_map, ← hwc]; exact hcl
      · obtain ⟨z, hz, rfl⟩ := List.mem_map.1 hd
        have := hz0 z hz
        omega
set_option maxRecDepth 100000 in
/-- A cert, read. -/
theorem crt_reads {fuel : Nat} {cs : List Value} {x : DataW H × List MemPlace} (h : DataW.trod enc Try.prog W base sp hd fuel 33 cs = some x) :
    ∃ (c : Crt) (a1 : Option Addr) (p1 : Nat) (a2 : Option Addr) (p2 : Nat) (a3 : Option Addr) (p3 : Nat) (us : List Value), Value.agg cs.toArray = crtV c a1 p1 a2 p2 a3 p3 ∧ CrtV W c a1 p1 a2 p2 a3 p3 us ∧ (∀ d ∈ c.claim.w, d < 4294967296) ∧ c.claim.x < 18446744073709551616 := by
  obtain ⟨xs, n, rfl, _, hl, hxl, hf⟩ := DataW.trod_struct Try.underlying33 h
  rw [cells_t33] at hl
  match xs, hxl, cs, hl with
  | [y0, y1, y2, y3], _, [v0, v1, v2, v3, v4, v5, v6, v7], _ =>
    have g0 := hf 0 _ rfl
    have g1 := hf 1 _ rfl
    have g2 := hf 2 _ rfl
    have g3 := hf 3 _ rfl
    simp [cells_t3, cells_t24, cells_t25, cells_t31] at g0 g1 g2 g3
    obtain ⟨cj, e0, _, _⟩ := DataW.trod_int Try.underlying3 g0
    obtain ⟨a1, p1, ns, e1, hc1, _⟩ := ints_reads Try.underlying24 Try.underlying3 cells_t3 g1
    obtain ⟨a2, p2, us, ls, e2, hc2, hr⟩ := walks_reads g2
    obtain ⟨v, a3, p3, e3, hc3, h32, hx⟩ := value_reads g3
    simp at e0 e1 e2 e3
    obtain ⟨r3, r4, r5, r6, r7⟩ := e3
    subst e0 e1 e2 r3 r4 r5 r6 r7
    exact ⟨⟨cj, ns, ls, v⟩, a1, p1, a2, p2, a3, p3, us, rfl, ⟨hc1, hc2, hr, hc3⟩, h32, hx⟩
end
end Go.Proofs.Ytnamcghcgcknpaa
