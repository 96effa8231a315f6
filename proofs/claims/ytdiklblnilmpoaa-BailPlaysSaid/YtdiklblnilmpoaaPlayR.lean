/-
  What the law BailPlays is handed, read: a tree.
-/
import Derived.Test.YtdiklblnilmpoaaPlayB
import Derived.Deep.Slices
import Derived.Lib.SmallJoins
namespace Go.Proofs.Ytdiklblnilmpoaa
open Go.RowKit Pl Go.Deep
set_option linter.unusedVariables false

theorem cells45 : Try.prog.cellsOf 45 = 4 := by kernel_rfl
theorem cells3 : Try.prog.cellsOf 3 = 1 := by kernel_rfl
theorem cells43 : Try.prog.cellsOf 43 = 1 := by kernel_rfl
/-- A node's reading leads to a tree. -/
theorem node_reads {H : Type} {enc : TypeId × Value → H} {W : World} {sp : Nat → Bool} {hd : Bool} : ∀ (N fuel : Nat) (cs : List Value) (x : DataW H × List MemPlace), fuel ≤ N → DataW.trod enc Try.prog W 0 sp hd fuel 45 cs = some x →
    ∃ (d : Nd) (t : Tr), NodeAt W d t ∧ cs = [.int .i64 d.k, .int .i64 d.c, .int .i64 d.n, .slice d.a (nk t) d.cap] := by
  intro N
  induction N with
  | zero =>
    intro fuel cs x hN h
    obtain ⟨xs, n, rfl, _⟩ := DataW.trod_struct Try.underlying45 h
    omega
  | succ N ih =>
    intro fuel cs x hN h
    obtain ⟨xs, n, rfl, rfl, hl, hlen, hf⟩ := DataW.trod_struct Try.underlying45 h
    rw [cells45] at hl
    match xs, hlen, cs, hl with
    | [y0, y1, y2, y3], _, [v0, v1, v2, v3], _ =>
      have g0 := hf 0 _ rfl
      have g1 := hf 1 _ rfl
      have g2 := hf 2 _ rfl
      have g3 := hf 3 _ rfl
      simp [cells3, cells43] at g0 g1 g2 g3
      obtain ⟨k, e0, _, _⟩ := DataW.trod_int Try.underlying3 g0
      obtain ⟨c, e1, _, _⟩ := DataW.trod_int Try.underlying3 g1
      obtain ⟨m, e2, _, _⟩ := DataW.trod_int Try.underlying3 g2
      simp at e0 e1 e2
      subst e0 e1 e2
      rcases DataW.trod_slice Try.underlying43 g3 with ⟨e3, _⟩ | ⟨a, len, cap, elems, rest, q, rfl, e3, _, hb, hle, hm, hlen2, hel, _⟩
      · simp at e3
        subst e3
        exact ⟨⟨k, c, m, none, 0⟩, .node k c m [], .mk k c m none 0 [] (fun _ => default) (by simp) (fun j t hj => by simp at hj) (fun j t hj => by simp at hj), rfl⟩
      · simp at e3
        subst e3
        rw [cells45] at hel
        have hone : ∀ i, i < len → ∃ y : Nd × Tr, NodeAt W y.1 y.2 ∧ Four W (a.add (i * 4)) y.1.k y.1.c y.1.n (.slice y.1.a (nk y.2) y.1.cap) := by
          intro i hi
          have h1 := hel i hi
          rw [List.getElem?_eq_getElem (by omega)] at h1
          obtain ⟨cs', h2, h3⟩ := Option.bind_eq_some_iff.1 h1
          obtain ⟨d, t, hn, rfl⟩ := ih q cs' _ (by omega) h3
          obtain ⟨_, _, hc⟩ := World.cells?_some h2
          have c0 := hc 0 (by omega)
          have c1 := hc 1 (by omega)
          have c2 := hc 2 (by omega)
          have c3 := hc 3 (by omega)
          refine ⟨(d, t), hn, by simpa [Addr.add] using c0, by simpa [Addr.add] using c1, by simpa [Addr.add] using c2, by simpa [Addr.add] using c3⟩
        have : Inhabited (Nd × Tr) := ⟨(default, zero)⟩
        obtain ⟨F, hF⟩ := choose_lt hone
        have hget : ∀ j t, ((List.range len).map fun i => (F i).2)[j]? = some t → j < len ∧ t = (F j).2 := by
          intro j t hj
          by_cases hlt : j < len
          · rw [List.getElem?_map, List.getElem?_range hlt] at hj
            exact ⟨hlt, (Option.some.inj hj).symm⟩
          · rw [List.getElem?_eq_none (by simp; omega)] at hj
            cases hj
        have hmx : len ≤ 9223372036854775807 := Nat.le_trans hle (Nat.le_trans hm (by decide))
        refine ⟨⟨k, c, m, some a, cap⟩, .node k c m ((List.range len).map fun i => (F i).2), .mk k c m (some a) cap _ (fun i => (F i).1) (by simpa using hmx) ?_ ?_, by simp [nk]⟩
        · intro j t hj
          obtain ⟨h1, rfl⟩ := hget j t hj
          exact ⟨a, rfl, (hF j h1).2⟩
        · intro j t hj
          obtain ⟨h1, rfl⟩ := hget j t hj
          exact (hF j h1).1
end Go.Proofs.Ytdiklblnilmpoaa
