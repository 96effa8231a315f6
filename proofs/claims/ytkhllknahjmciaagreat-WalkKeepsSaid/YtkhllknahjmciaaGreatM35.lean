/-
  What the laws are handed, read: graphs and paths.
-/
import Derived.Test.YtkhllknahjmciaaGreatM34
import Derived.Deep.Slices
import Derived.Lib.SmallJoins
/-! What the laws are handed, read: graphs and paths. -/
namespace Go.Proofs.YtkhllknahjmciaaGreat
open Go.RowKit
set_option linter.unusedVariables false
set_option linter.unusedSimpArgs false

open Go.Deep
theorem list_build {τ : Type} (R : τ → List Value → Prop) (C : Nat → List Value → Prop) : ∀ len : Nat, (∀ i, i < len → ∃ t c, R t c ∧ C i c) → ∃ (ts : List τ) (css : List (List Value)), ts.length = len ∧ css.length = len ∧ (∀ (i : Nat) t, ts[i]? = some t → ∃ c, css[i]? = some c ∧ R t c) ∧ ∀ (i : Nat) c, css[i]? = some c → C i c
  | 0, _ => ⟨[], [], rfl, rfl, fun i t h => by simp at h, fun i c h => by simp at h⟩
  | n + 1, h => by
    obtain ⟨ts, css, h1, h2, h3, h4⟩ := list_build R C n fun i hi => h i (by omega)
    obtain ⟨t, c, h5, h6⟩ := h n (by omega)
    refine ⟨ts ++ [t], css ++ [c], by simp [h1], by simp [h2], fun i u hi => ?_, fun i d hi => ?_⟩
    · by_cases hlt : i < n
      · rw [List.getElem?_append_left (by omega)] at hi
        obtain ⟨d, h7, h8⟩ := h3 i u hi
        exact ⟨d, by rw [List.getElem?_append_left (by omega)]; exact h7, h8⟩
      · have hin : i = n := by
          have := (List.getElem?_eq_some_iff.1 hi).1
          simp at this
          omega
        subst hin
        rw [List.getElem?_append_right (by omega), h1, Nat.sub_self] at hi
        obtain rfl : t = u := by simpa using hi
        exact ⟨c, by rw [List.getElem?_append_right (by omega), h2, Nat.sub_self]; rfl, h5⟩
    · by_cases hlt : i < n
      · rw [List.getElem?_append_left (by omega)] at hi
        exact h4 i d hi
      · have hin : i = n := by
          have := (List.getElem?_eq_some_iff.1 hi).1
          simp at this
          omega
        subst hin
        rw [List.getElem?_append_right (by omega), h2, Nat.sub_self] at hi
        obtain rfl : c = d := by simpa using hi
        exact h6
theorem flat_inv (n : Nat) (hn : 0 < n) : ∀ (css : List (List Value)) (j : Nat) (u : Value), (∀ c ∈ css, c.length = n) → css.flatten[j]? = some u → ∃ i c r, css[i]? = some c ∧ c[r]? = some u ∧ j = i * n + r
  | [], j, u, _, h => by simp at h
  | c :: css, j, u, h5, h => by
    rw [List.flatten_cons] at h
    have hc := h5 c (List.mem_cons_self ..)
    by_cases hj : j < n
    · rw [List.getElem?_append_left (by omega)] at h
      exact ⟨0, c, j, rfl, h, by omega⟩
    · rw [List.getElem?_append_right (by omega)] at h
      obtain ⟨i, d, r, h1, h2, h3⟩ := flat_inv n hn css (j - c.length) u (fun d hd => h5 d (List.mem_cons_of_mem _ hd)) h
      exact ⟨i + 1, d, r, by simpa using h1, h2, by rw [Nat.add_mul]; omega⟩
/-- A slice's reading leads to its elements. -/
theorem row_reads {H : Type} {enc : TypeId × Value → H} {W : World} {sp : Nat → Bool} {hd : Bool} {τ : Type} {T e n fuel : Nat} {cs : List Value} {x : DataW H × List MemPlace} (hT : Tryz.prog.underlying T = some (.slice e)) (he : Tryz.prog.cellsOf e = n) (hn : 0 < n)
    (h : DataW.trod enc Tryz.prog W 0 sp hd fuel T cs = some x) (R : τ → List Value → Prop) (hR : ∀ q cs' y, q < fuel → DataW.trod enc Tryz.prog W 0 sp hd q e cs' = some y → ∃ t, R t cs') :
    ∃ (ts : List τ) (a : Option Addr) (cap : Nat) (css : List (List Value)), cs = [.slice a ts.length cap] ∧ Cells W a ts.length cap css.flatten ∧ css.length = ts.length ∧ ∀ (i : Nat) t, ts[i]? = some t → ∃ c, css[i]? = some c ∧ R t c := by
  rcases DataW.trod_slice hT h with ⟨rfl, _⟩ | ⟨a, len, cap, elems, rest, q, rfl, rfl, _, hb, hle, hm, hlen2, hel, _⟩
  · exact ⟨[], none, 0, [], rfl, Cells.nil _, rfl, fun i t hi => by simp at hi⟩
  · rw [he] at hel
    have hone : ∀ i, i < len → ∃ t c, R t c ∧ (c.length = n ∧ ∀ r, r < n → W.cell? ((a.add (i * n)).add r) = c[r]?) := by
      intro i hi
      have h1 := hel i hi
      rw [List.getElem?_eq_getElem (by omega)] at h1
      obtain ⟨cs', h2, h3⟩ := Option.bind_eq_some_iff.1 h1
      obtain ⟨t, ht⟩ := hR q cs' _ (by omega) h3
      obtain ⟨_, h4, h5⟩ := World.cells?_some h2
      exact ⟨t, cs', ht, h4, h5⟩
    obtain ⟨ts, css, k1, k2, k3, k4⟩ := list_build R (fun i c => c.length = n ∧ ∀ r, r < n → W.cell? ((a.add (i * n)).add r) = c[r]?) len hone
    have hall : ∀ c ∈ css, c.length = n := fun c hc => by
      obtain ⟨i, hi⟩ := List.getElem?_of_mem hc
      exact (k4 i c hi).1
    refine ⟨ts, some a, cap, css, by rw [k1], ⟨by rw [k1]; exact hle, hm, fun j u hj => ⟨a, rfl, ?_⟩⟩, by omega, k3⟩
    obtain ⟨i, c, r, h1, h2, rfl⟩ := flat_inv n hn css j u hall hj
    obtain ⟨h3, h4⟩ := k4 i c h1
    have hr : r < n := by rw [← h3]; exact (List.getElem?_eq_some_iff.1 h2).1
    have h5 := h4 r hr
    rw [add_add] at h5
    rw [h5]
    exact h2
theorem cells_int : Tryz.prog.cellsOf 3 = 1 := by kernel_rfl
theorem cells_str : Tryz.prog.cellsOf 9 = 1 := by kernel_rfl
theorem cells_path : Tryz.prog.cellsOf 28 = 5 := by kernel_rfl
theorem cells_paths : Tryz.prog.cellsOf 26 = 1 := by kernel_rfl
theorem trcs_of {W : World} : ∀ (ts : List Tr) (css : List (List Value)), css.length = ts.length → (∀ (i : Nat) t, ts[i]? = some t → ∃ c, css[i]? = some c ∧ TrC W t c) → TrCs W ts css
  | [], css, h, _ => TrCs_nil.2 (List.length_eq_zero_iff.1 h)
  | t :: ts, [], h, _ => by simp at h
  | t :: ts, c :: css, h, k => by
    obtain ⟨d, h1, h2⟩ := k 0 t rfl
    obtain rfl : c = d := by simpa using h1
    exact TrCs_cons.2 ⟨c, css, rfl, h2, trcs_of ts css (by simpa using h) fun i u hi => by simpa using k (i + 1) u (by simpa using hi)⟩
set_option maxRecDepth 100000 in
/-- A path's reading leads to a tree. -/
theorem path_reads {H : Type} {enc : TypeId × Value → H} {W : World} {sp : Nat → Bool} {hd : Bool} : ∀ (N fuel : Nat) (cs : List Value) (x : DataW H × List MemPlace), fuel ≤ N → DataW.trod enc Tryz.prog W 0 sp hd fuel 28 cs = some x → ∃ t, TrC W t cs := by
  intro N
  induction N with
  | zero =>
    intro fuel cs x hN h
    obtain ⟨xs, n, rfl, _⟩ := DataW.trod_struct Tryz.underlying28 h
    omega
  | succ N ih =>
    intro fuel cs x hN h
    obtain ⟨xs, n, rfl, rfl, hl, hlen, hf⟩ := DataW.trod_struct Tryz.underlying28 h
    rw [cells_path] at hl
    match xs, hlen, cs, hl with
    | [y0, y1, y2, y3, y4], _, [v0, v1, v2, v3, v4], _ =>
      have g0 := hf 0 _ rfl
      have g1 := hf 1 _ rfl
      have g2 := hf 2 _ rfl
      have g3 := hf 3 _ rfl
      have g4 := hf 4 _ rfl
      simp [cells_int, cells_str, cells_paths] at g0 g1 g2 g3 g4
      obtain ⟨k, e0, _, _⟩ := DataW.trod_int Tryz.underlying3 g0
      obtain ⟨l, e1, _, _⟩ := DataW.trod_string Tryz.underlying9 g1
      obtain ⟨mn, e3, _, _⟩ := DataW.trod_int Tryz.underlying3 g3
      obtain ⟨mx, e4, _, _⟩ := DataW.trod_int Tryz.underlying3 g4
      obtain ⟨ts, a, cap, css, e2, hc, hl2, hk⟩ := row_reads Tryz.underlying26 cells_path (by omega) g2 (fun t c => TrC W t c) (fun q cs' y hq hy => ih q cs' y (by omega) hy)
      simp at e0 e1 e2 e3 e4
      subst e0 e1 e2 e3 e4
      exact ⟨.node k l ts mn mx, TrC_node.2 ⟨a, cap, css, rfl, hc, trcs_of ts css hl2 hk⟩⟩
theorem cells_node : Tryz.prog.cellsOf 109 = 3 := by kernel_rfl
theorem cells_nodes : Tryz.prog.cellsOf 22 = 1 := by kernel_rfl
theorem cells_edge : Tryz.prog.cellsOf 72 = 4 := by kernel_rfl
theorem cells_edges : Tryz.prog.cellsOf 23 = 1 := by kernel_rfl
theorem cells_prop : Tryz.prog.cellsOf 142 = 2 := by kernel_rfl
theorem cells_props : Tryz.prog.cellsOf 107 = 1 := by kernel_rfl
theorem cells_strs : Tryz.prog.cellsOf 106 = 1 := by kernel_rfl
theorem cells_graph : Tryz.prog.cellsOf 25 = 3 := by kernel_rfl
theorem flat_of {τ : Type} (f : τ → List Value) : ∀ (ts : List τ) (css : List (List Value)), css.length = ts.length → (∀ (i : Nat) t, ts[i]? = some t → ∃ c, css[i]? = some c ∧ c = f t) → css.flatten = (ts.map f).flatten
  | [], css, h, _ => by rw [List.length_eq_zero_iff.1 h]; rfl
  | t :: ts, [], h, _ => by simp at h
  | t :: ts, c :: css, h, k => by
    obtain ⟨d, h1, h2⟩ := k 0 t rfl
    obtain rfl : c = d := by simpa using h1
    rw [List.flatten_cons, List.map_cons, List.flatten_cons, h2, flat_of f ts css (by simpa using h) fun i u hi => by simpa using k (i + 1) u (by simpa using hi)]
theorem strs_flat : ∀ ss : List ByteArray, (ss.map fun s => [Value.string s]).flatten = strCells ss
  | [] => rfl
  | s :: ss => by rw [List.map_cons, List.flatten_cons, strs_flat ss]; rfl
theorem props_flat : ∀ ss : List (ByteArray × ByteArray), (ss.map fun s => [Value.string s.1, Value.string s.2]).flatten = propCells ss
  | [] => rfl
  | s :: ss => by rw [List.map_cons, List.flatten_cons, props_flat ss]; rfl
theorem edges_flat : ∀ ss : List Eg, (ss.map Eg.cells).flatten = egCells ss
  | [] => rfl
  | s :: ss => by rw [List.map_cons, List.flatten_cons, edges_flat ss]; rfl
theorem ndcs_of {W : World} : ∀ (ts : List Nd) (css : List (List Value)), css.length = ts.length → (∀ (i : Nat) t, ts[i]? = some t → ∃ c, css[i]? = some c ∧ NdC W t c) → NdCs W ts css
  | [], css, h, _ => List.length_eq_zero_iff.1 h
  | t :: ts, [], h, _ => by simp at h
  | t :: ts, c :: css, h, k => by
    obtain ⟨d, h1, h2⟩ := k 0 t rfl
    obtain rfl : c = d := by simpa using h1
    exact ⟨c, css, rfl, h2, ndcs_of ts css (by simpa using h) fun i u hi => by simpa using k (i + 1) u (by simpa using hi)⟩
section
variable {H : Type} {enc : TypeId × Value → H} {W : World} {sp : Nat → Bool} {hd : Bool} {fuel : Nat} {cs : List Value} {x : DataW H × List MemPlace}
theorem str_reads (h : DataW.trod enc Tryz.prog W 0 sp hd fuel 9 cs = some x) : ∃ s : ByteArray, cs = [.string s] := by
  obtain ⟨l, e1, _, _⟩ := DataW.trod_string Tryz.underlying9 h
  exact ⟨l, e1⟩
set_option maxRecDepth 100000 in
theorem prop_reads (h : DataW.trod enc Tryz.prog W 0 sp hd fuel 142 cs = some x) : ∃ s : ByteArray × ByteArray, cs = [.string s.1, .string s.2] := by
  obtain ⟨xs, n, rfl, rfl, hl, hlen, hf⟩ := DataW.trod_struct Tryz.underlying142 h
  rw [cells_prop] at hl
  match xs, hlen, cs, hl with
  | [y0, y1], _, [v0, v1], _ =>
    have g0 := hf 0 _ rfl
    have g1 := hf 1 _ rfl
    simp [cells_str] at g0 g1
    obtain ⟨l0, e0, _, _⟩ := DataW.trod_string Tryz.underlying9 g0
    obtain ⟨l1, e1, _, _⟩ := DataW.trod_string Tryz.underlying9 g1
    simp at e0 e1
    subst e0 e1
    exact ⟨(l0, l1), rfl⟩
set_option maxRecDepth 100000 in
theorem edge_reads (h : DataW.trod enc Tryz.prog W 0 sp hd fuel 72 cs = some x) : ∃ e : Eg, cs = e.cells := by
  obtain ⟨xs, n, rfl, rfl, hl, hlen, hf⟩ := DataW.trod_struct Tryz.underlying72 h
  rw [cells_edge] at hl
  match xs, hlen, cs, hl with
  | [y0, y1, y2, y3], _, [v0, v1, v2, v3], _ =>
    have g0 := hf 0 _ rfl
    have g1 := hf 1 _ rfl
    have g2 := hf 2 _ rfl
    have g3 := hf 3 _ rfl
    simp [cells_str, cells_int] at g0 g1 g2 g3
    obtain ⟨l0, e0, _, _⟩ := DataW.trod_int Tryz.underlying3 g0
    obtain ⟨l1, e1, _, _⟩ := DataW.trod_int Tryz.underlying3 g1
    obtain ⟨l2, e2, _, _⟩ := DataW.trod_string Tryz.underlying9 g2
    obtain ⟨l3, e3, _, _⟩ := DataW.trod_int Tryz.underlying3 g3
    simp at e0 e1 e2 e3
    subst e0 e1 e2 e3
    exact ⟨⟨l0, l1, l2, l3⟩, rfl⟩
set_option maxRecDepth 100000 in
theorem node_reads (h : DataW.trod enc Tryz.prog W 0 sp hd fuel 109 cs = some x) : ∃ t : Nd, NdC W t cs := by
  obtain ⟨xs, n, rfl, rfl, hl, hlen, hf⟩ := DataW.trod_struct Tryz.underlying109 h
  rw [cells_node] at hl
  match xs, hlen, cs, hl with
  | [y0, y1, y2], _, [v0, v1, v2], _ =>
    have g0 := hf 0 _ rfl
    have g1 := hf 1 _ rfl
    have g2 := hf 2 _ rfl
    simp [cells_int, cells_strs, cells_props] at g0 g1 g2
    obtain ⟨l0, e0, _, _⟩ := DataW.trod_int Tryz.underlying3 g0
    obtain ⟨ss, la, lc, c1, e1, hc1, hl1, hk1⟩ := row_reads Tryz.underlying106 cells_str (by omega) g1 (fun (s : ByteArray) c => c = [Value.string s]) (fun q cs' y _ hy => str_reads hy)
    obtain ⟨ps, pa, pc, c2, e2, hc2, hl2, hk2⟩ := row_reads Tryz.underlying107 cells_prop (by omega) g2 (fun (s : ByteArray × ByteArray) c => c = [Value.string s.1, Value.string s.2]) (fun q cs' y _ hy => prop_reads hy)
    rw [flat_of _ _ _ hl1 hk1, strs_flat] at hc1
    rw [flat_of _ _ _ hl2 hk2, props_flat] at hc2
    simp at e0 e1 e2
    subst e0 e1 e2
    exact ⟨⟨l0, ss, ps⟩, la, lc, pa, pc, rfl, hc1, hc2⟩
set_option maxRecDepth 100000 in
theorem graph_reads (h : DataW.trod enc Tryz.prog W 0 sp hd fuel 25 cs = some x) : ∃ g : Gr, GrC W g cs := by
  obtain ⟨xs, n, rfl, rfl, hl, hlen, hf⟩ := DataW.trod_struct Tryz.underlying25 h
  rw [cells_graph] at hl
  match xs, hlen, cs, hl with
  | [y0, y1, y2], _, [v0, v1, v2], _ =>
    have g0 := hf 0 _ rfl
    have g1 := hf 1 _ rfl
    have g2 := hf 2 _ rfl
    simp [cells_int, cells_nodes, cells_edges] at g0 g1 g2
    obtain ⟨l2, e2, _, _⟩ := DataW.trod_int Tryz.underlying3 g2
    obtain ⟨ns, na, nc, c0, e0, hc0, hl0, hk0⟩ := row_reads Tryz.underlying22 cells_node (by omega) g0 (fun (t : Nd) c => NdC W t c) (fun q cs' y _ hy => node_reads hy)
    obtain ⟨es, ea, ec, c1, e1, hc1, hl1, hk1⟩ := row_reads Tryz.underlying23 cells_edge (by omega) g1 (fun (e : Eg) c => c = e.cells) (fun q cs' y _ hy => edge_reads hy)
    rw [flat_of _ _ _ hl1 hk1, edges_flat] at hc1
    simp at e0 e1 e2
    subst e0 e1 e2
    exact ⟨⟨ns, es, l2⟩, na, nc, ea, ec, rfl, ⟨c0, hc0, ndcs_of ns c0 hl0 hk0⟩, hc1⟩
end
end Go.Proofs.YtkhllknahjmciaaGreat
