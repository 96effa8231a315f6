/-
  The pieces of the law BailThrough: the list of what was done, and the function values of the law.
-/
import Derived.Test.YtdiklblnilmpoaaBailF
import Derived.Test.YtdiklblnilmpoaaOwn
import Derived.Deep.LoopGhost
import Derived.Laws.EntriesVeiled
namespace Go.Proofs.Ytdiklblnilmpoaa
open Go.RowKit
set_option linter.unusedVariables false

/-- The state: the variable 'order' and its array. -/
def OrdD (bo : Nat) : World → Nat → Prop := fun w k => k = bo ∨ ∃ a n c, w.cell? ⟨bo, 0, none⟩ = some (.slice (some a) n c) ∧ k = a.block
theorem ordD_loc (bo : Nat) : Loc (OrdD bo) := by
  intro w w' h k hk
  have hb : w'.cell? ⟨bo, 0, none⟩ = w.cell? ⟨bo, 0, none⟩ := World.cell?_of_block (w := w) (h bo (.inl rfl))
  rcases hk with rfl | ⟨a, n, c, hc, rfl⟩
  · exact .inl rfl
  · exact .inr ⟨a, n, c, by rw [← hb]; exact hc, rfl⟩
/-- 'order' reads as l; its array is one that has been made since B. -/
def Ord (B : Nat) (w : World) (bo : Nat) (l : List Int) : Prop :=
  ∃ v, Box w bo v ∧ w.ownsRow B 3 1 v l.length (l.map (Value.int .i64)) ∧ bo < B
theorem Ord.there {B : Nat} {w : World} {bo : Nat} {l : List Int} (h : Ord B w bo l) : There (OrdD bo) w := by
  obtain ⟨v, hb, ⟨_, ho⟩, _⟩ := h
  rintro k (rfl | ⟨a, n, c, hc, rfl⟩)
  · exact hb.lt
  · rw [hb.cell] at hc
    rcases ho with ⟨rfl, _⟩ | ⟨g, cap, cur, rfl, _, hg, _⟩
    · simp at hc
    · simp at hc
      obtain ⟨rfl, _⟩ := hc
      exact (Array.getElem?_eq_some_iff.1 hg).1
theorem Ord.notD {B : Nat} {w : World} {bo : Nat} {l : List Int} (h : Ord B w bo l) {k : Nat} (hk : k ≠ bo) (hB : k < B) : ¬ OrdD bo w k := by
  obtain ⟨v, hb, ⟨_, ho⟩, _⟩ := h
  rintro (rfl | ⟨a, n, c, hc, rfl⟩)
  · exact hk rfl
  · rw [hb.cell] at hc
    rcases ho with ⟨rfl, _⟩ | ⟨g, cap, cur, rfl, hg0, hg, _⟩
    · simp at hc
    · simp at hc
      obtain ⟨rfl, _⟩ := hc
      simp at hB; omega
theorem Ord.of {B : Nat} {w w' : World} {bo : Nat} {l : List Int} (h : Ord B w bo l) (k : ∀ k, OrdD bo w k → w'.heap[k]? = w.heap[k]?) : Ord B w' bo l := by
  obtain ⟨v, hb, ⟨h1, ho⟩, hB⟩ := h
  refine ⟨v, hb.of (k bo (.inl rfl)), ⟨h1, ?_⟩, hB⟩
  rcases ho with ho | ⟨g, cap, cur, rfl, hg0, hg, rest⟩
  · exact .inl ho
  · exact .inr ⟨g, cap, cur, rfl, hg0, by rw [k g (.inr ⟨_, _, _, hb.cell, rfl⟩)]; exact hg, rest⟩
theorem Ord.aft {B : Nat} {w w2 w' : World} {bo : Nat} {l : List Int} (h : Ord B w2 bo l) (k : Aft (OrdD bo) w w2 w') : Ord B w' bo l :=
  h.of fun i hi => k.2.block i (h.there i hi) fun hn => hn.2 hi
theorem info_int : (Try.prog.info? 3).map (fun i => (i.zero, i.size, i.bytes)) = some (some (.int .i64 0), 1, 8) := by kernel_rfl
/-- order = append(order, i), as a function literal. -/
theorem thrui_runs (B bo bi : Nat) (i : Int) (l : List Int) (w : World) (ho : Ord B w bo l) (hi : Box w bi (.int .i64 i)) (hB : B ≤ w.heap.size) (hl : l.length ≤ 1000) :
    Runs (OrdD bo) (.func (.func 29) #[] #[.pointer (some ⟨bo, 0, none⟩), .pointer (some ⟨bi, 0, none⟩)]) w (fun o w' => o = .ret ∧ Ord B w' bo (l ++ [i])) := by
  refine Runs.of (fun args w => run_enter Try.func29 rfl rfl args w) ?_
  have hth := ho.there
  have ho' := ho
  obtain ⟨v, hb, hown, hbB⟩ := ho
  have cb := hb.cell
  have fb := hb.frozen
  have ci := hi.cell
  obtain ⟨i0, hi0, hz0, hz1, hz2⟩ := info_parts info_int
  have HO := Lib.hid hown
  have HT := Lib.hid hth
  have HP := Lib.hid ho'
  have HB := Lib.hid hb
  clear hown hth ho' hb hi
  go_enter Try.func29, Try.ntmps29
  go_wp2_with (at_builtin; refine wpList_append_st _ rfl _ _ 22 rfl B 3 i0 (.int .i64 0) 1 8 Try.underlying22 hi0 hz0 hz1 hz2 rfl (by decide) _ _ _ rfl (HO.out.alloc _) ⟨w.heap.size, 0, none⟩ 1 1 [.int .i64 i] rfl rfl ?c1 ?c2 (by omega) ?c3 ?c4 ?c5 ?_)
  case c1 =>
    intro j u hj
    match j, hj with
    | 0, hj => simp at hj; subst hj; simp [Addr.add]
    | j + 1, hj => simp at hj
  case c2 => simp [Value.oneCell']
  case c3 => unfold maxLen; omega
  case c4 => omega
  case c5 => simp; omega
  intro v' w' hown' hgrow hnew
  have HN := Lib.hid hnew
  clear hnew
  have hgB : ∀ k, v.ownBlock = some k → B ≤ k ∧ OrdD bo w k := by
    intro k hk
    rcases HO.out.2 with ⟨rfl, _⟩ | ⟨g, cap, cur, rfl, hg0, _⟩
    · simp [Value.ownBlock] at hk
    · simp [Value.ownBlock] at hk
      subst hk
      exact ⟨hg0, .inr ⟨_, _, _, cb, rfl⟩⟩
  have hne : some bo ≠ v.ownBlock := fun h => by have := (hgB bo h.symm).1; omega
  have hbl := HB.out.lt
  have hb' : Box w' bo v := (HB.out.chg (S := fun _ => False) ((Chg.refl w).alloc _) (fun h => h)).of (hgrow.block bo (by simp; omega) hne)
  have cb' := hb'.cell
  have fb' := hb'.frozen
  have hfin : Keep (OrdD bo) w (w'.setCell ⟨bo, 0, none⟩ v') ∧ Ord B (w'.setCell ⟨bo, 0, none⟩ v') bo (l ++ [i]) := by
    have hsz : w.heap.size ≤ w'.heap.size := by have := hgrow.size; simp at this; omega
    have hord : Ord B (w'.setCell ⟨bo, 0, none⟩ v') bo (l ++ [i]) := by
      refine ⟨v', hb'.set _, ?_, hbB⟩
      have := ownsRow_setCell_below (a := ⟨bo, 0, none⟩) hown' hbB v'
      simpa using this
    refine ⟨⟨hgrow.os, hgrow.tape, hgrow.output, by simpa [World.setCell] using hsz, fun k hk hd => ?_, fun k hk hd => ?_, fun _ => hord.there⟩, hord⟩
    · rw [Below.heap_setCell _ _ _ _ (show k ≠ bo from fun h => hd (.inl h))]
      rw [hgrow.block k (by simp; omega) (fun h => hd (hgB k h.symm).2)]
      exact Below.heap_alloc _ _ _ hk
    · rcases hd with rfl | ⟨a, n, c, hc, rfl⟩
      · exact .inl rfl
      · have e := (hb'.set v').cell
        rw [hc] at e
        simp only [Option.some.injEq] at e
        subst e
        rcases hown'.2 with ⟨h, _⟩ | ⟨g, cap, cur, h, hg0, hg, _⟩
        · cases h
        · simp only [Value.slice.injEq, Option.some.injEq] at h
          obtain ⟨rfl, rfl, rfl⟩ := h
          simp only at hk
          rcases HN.out g rfl with h | h
          · exact (hgB g h).2
          · omega
  obtain ⟨sa, sn, sc, rfl⟩ : ∃ a n c, v' = .slice a n c := by
    rcases hown'.2 with ⟨h, _⟩ | ⟨g, cap, cur, h, _⟩
    · exact ⟨_, _, _, h⟩
    · exact ⟨_, _, _, h⟩
  have HF := Lib.hid hfin
  clear hb' hgB hne hown' hgrow HN hfin
  go_wp2_with fail
  go_end0
  exact ⟨HF.out.1, .ret, rfl, rfl, HF.out.2⟩

theorem thru1_runs (B bo b4 b5 : Nat) (code at_ : Int) (l : List Int) (w : World) (ho : Ord B w bo l) (h4 : Box w b4 (.int .i64 code)) (h5 : Box w b5 (.int .i64 at_)) :
    Runs (OrdD bo) (.func (.func 26) #[] #[.pointer (some ⟨b4, 0, none⟩), .pointer (some ⟨b5, 0, none⟩)]) w (fun o w' => o = .bail code at_ ∧ Ord B w' bo l) := by
  refine Runs.of (fun args w => run_enter Try.func26 rfl rfl args w) ?_
  have c4 := h4.cell
  have c5 := h5.cell
  have hth := Lib.hid ho.there
  have HO := Lib.hid ho
  clear ho
  go_enter Try.func26, Try.ntmps26
  go_wp2_with fail
  refine (out_fin (D := OrdD bo) code at_ w (ordD_loc bo) hth.out).mono ?_
  rintro e w' ⟨hk, he, hx⟩
  have ho' := HO.out.of (w' := w') fun k hk => hx.block k (hth.out k hk) (fun h => h)
  obtain ⟨ch, b, rfl, rest⟩ := he
  exact ⟨rfl, hk, .bail code at_, ⟨ch, b, rfl, rest⟩, rfl, ho'⟩
/-- After(g, order = append(order, i)), as a function literal. -/
theorem thru2_runs (B bo b12 b11 : Nat) (code at_ i : Int) (fv : Value) (l l' : List Int) (w : World) (ho : Ord B w bo l) (h12 : Box w b12 fv) (h11 : Box w b11 (.int .i64 i)) (hB : B ≤ w.heap.size) (hb11 : b11 < B) (hne : b11 ≠ bo) (hl : l'.length ≤ 1000)
    (hr : Runs (OrdD bo) fv w (fun o w' => o = .bail code at_ ∧ Ord B w' bo l')) :
    Runs (OrdD bo) (.func (.func 27) #[] #[.pointer (some ⟨b12, 0, none⟩), .pointer (some ⟨bo, 0, none⟩), .pointer (some ⟨b11, 0, none⟩)]) w (fun o w' => o = .bail code at_ ∧ Ord B w' bo (l' ++ [i])) := by
  refine Runs.of (fun args w => run_enter Try.func27 rfl rfl args w) ?_
  have c12 := h12.cell
  have HA := Lib.hid (after_runs (tv := .func (.func 29) #[] #[.pointer (some ⟨bo, 0, none⟩), .pointer (some ⟨b11, 0, none⟩)]) (Ψ := fun o o' w' => o = .bail code at_ ∧ o' = .ret ∧ Ord B w' bo (l' ++ [i])) hr fun o w2 hk hΦ =>
    (thrui_runs B bo b11 i l' w2 hΦ.2 (h11.keep hk (ho.notD hne hb11)) (Nat.le_trans hB hk.size) hl).mono fun o' w3 _ h => ⟨hΦ.1, h.1, h.2⟩)
  have hmf := run_mkFunc
  clear hr ho h12 h11
  go_enter Try.func27, Try.ntmps27
  go_wp2_with fail
  refine HA.out.mono ?_
  rintro e w' ⟨hk, o, o', ⟨rfl, rfl, ho⟩, he⟩
  have he0 := he
  obtain ⟨ch, b, rfl, rest⟩ := he
  exact ⟨rfl, hk, .bail code at_, he0, rfl, ho⟩
/-- Only(other, f), its answer thrown away, as a function literal. -/
theorem thru3_runs (B bo b7 b10 : Nat) (code at_ other : Int) (fv : Value) (l l' : List Int) (w : World) (ho : Ord B w bo l) (h7 : Box w b7 (.int .i64 other)) (h10 : Box w b10 fv) (hne : ¬ code = other)
    (hr : ∀ w1, Ext w w1 → Runs (OrdD bo) fv w1 (fun o w' => o = .bail code at_ ∧ Ord B w' bo l')) :
    Runs (OrdD bo) (.func (.func 30) #[] #[.pointer (some ⟨b7, 0, none⟩), .pointer (some ⟨b10, 0, none⟩)]) w (fun o w' => o = .bail code at_ ∧ Ord B w' bo l') := by
  refine Runs.of (fun args w => run_enter Try.func30 rfl rfl args w) ?_
  have c7 := h7.cell
  have c10 := h10.cell
  have HA := Lib.hid (only_runs (code := other) (ordD_loc bo) ho.there hr)
  clear hr ho h7 h10
  go_enter Try.func30, Try.ntmps30
  go_wp2_with fail
  refine HA.out.mono ?_
  rintro e w' ⟨o, w2, hk, ⟨rfl, ho⟩, ha, he⟩
  simp only [if_neg hne] at he
  have he0 := he
  obtain ⟨ch, b, rfl, rest⟩ := he
  exact ⟨rfl, ha.1, .bail code at_, he0, rfl, ho.aft ha⟩
end Go.Proofs.Ytdiklblnilmpoaa
