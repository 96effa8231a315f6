/-
  A row of steps, turned round in its place.
-/
import Derived.Test.YtkhllknahjmciaaGreatM28
/-! A row of steps, turned round in its place. -/
namespace Go.Proofs.YtkhllknahjmciaaGreat
open Go.RowKit
set_option linter.unusedVariables false
set_option linter.unusedSimpArgs false

def stepC : List (Int × Bool) → List Value
  | [] => []
  | s :: ss => .int .i64 s.1 :: .bool s.2 :: stepC ss
theorem stepC_len : ∀ ss : List (Int × Bool), (stepC ss).length = ss.length * 2
  | [] => rfl
  | s :: ss => by rw [stepC, List.length_cons, List.length_cons, List.length_cons, stepC_len ss]; omega
theorem stepC_app : ∀ a b : List (Int × Bool), stepC (a ++ b) = stepC a ++ stepC b
  | [], b => rfl
  | s :: a, b => by rw [List.cons_append, stepC, stepC, stepC_app a b]; rfl
theorem stepC_at : ∀ {ss : List (Int × Bool)} {i : Nat} {s : Int × Bool}, ss[i]? = some s → (stepC ss)[i * 2]? = some (.int .i64 s.1) ∧ (stepC ss)[i * 2 + 1]? = some (.bool s.2)
  | [], i, s, h => by simp at h
  | t :: ts, 0, s, h => by simp at h; subst h; exact ⟨rfl, rfl⟩
  | t :: ts, i + 1, s, h => by
    have := stepC_at (ss := ts) (i := i) (by simpa using h)
    rw [show (i + 1) * 2 = i * 2 + 2 by omega, show i * 2 + 2 + 1 = (i * 2 + 1) + 2 by omega]
    exact this
theorem stepC_set : ∀ (ss : List (Int × Bool)) (i : Nat) (s : Int × Bool), ((stepC ss).set (i * 2) (.int .i64 s.1)).set (i * 2 + 1) (.bool s.2) = stepC (ss.set i s)
  | [], i, s => by simp [stepC]
  | t :: ts, 0, s => by simp [stepC]
  | t :: ts, i + 1, s => by
    rw [show (i + 1) * 2 = i * 2 + 1 + 1 by omega, stepC, List.set_cons_succ, List.set_cons_succ, List.set_cons_succ, List.set_cons_succ, List.set_cons_succ, stepC_set ts i s, stepC]
theorem own_there {W : World} {base g n cap : Nat} {e : TypeId} {xs : List Value} (h : W.ownsRow base e 2 (.slice (some ⟨g, 0, none⟩) n cap) n xs) (q : Nat) (hq : q < n * 2) : (∃ u, W.cell? ⟨g, q, none⟩ = some u) ∧ W.frozen? ⟨g, q, none⟩ = false := by
  refine ⟨?_, h.frozenAt q⟩
  rw [h.cellAt q hq]
  exact ⟨_, List.getElem?_eq_getElem (by rw [h.1]; exact hq)⟩
theorem rev_step {l m : List (Int × Bool)} {n i j : Nat} {si sj : Int × Bool} (hml : m.length = n) (hj : n - 1 - i = j) (hi : i < n) (hjn : j < n) (hij : i < j) (hm : ∀ k, k < n → m[k]? = if k < i ∨ n - i ≤ k then l[n - 1 - k]? else l[k]?) (hsi : m[i]? = some si) (hsj : m[j]? = some sj) (k : Nat) (hk : k < n) :
    ((m.set i sj).set j si)[k]? = if k < i + 1 ∨ n - (i + 1) ≤ k then l[n - 1 - k]? else l[k]? := by
  by_cases h1 : k = j
  · subst h1
    rw [List.getElem?_set_self (by rw [List.length_set]; omega), if_pos (by omega), ← hsi, hm i hi, if_neg (by omega)]
    congr 1
    omega
  · rw [List.getElem?_set_ne (fun h => h1 h.symm)]
    by_cases h2 : k = i
    · subst h2
      rw [List.getElem?_set_self (by omega), if_pos (by omega), ← hsj, hm j hjn, if_neg (by omega), hj]
    · rw [List.getElem?_set_ne (fun h => h2 h.symm), hm k hk]
      by_cases h3 : k < i ∨ n - i ≤ k
      · rw [if_pos h3, if_pos (by omega)]
      · rw [if_neg h3, if_neg (by omega)]
theorem set_row {g n cap q : Nat} {u : Value} {W W' : World} (h : Chg (fun b => (Value.slice (some ⟨g, 0, none⟩) n cap).ownBlock = some b) W W') : Chg (fun b => (Value.slice (some ⟨g, 0, none⟩) n cap).ownBlock = some b) W (W'.setCell ⟨g, q, none⟩ u) := h.setCell _ _ (fun _ => rfl)
set_option maxRecDepth 100000 in
set_option maxHeartbeats 1000000 in
theorem rev_any (l : List (Int × Bool)) (base : Nat) (v : Value) (n : Nat) (w : World) (ho : w.ownsRow base 67 2 v n (stepC l)) (hl : l.length = n) (hn : n ≤ 1000000) :
    Calls Tryz.prog 147 #[v] w fun e w' => e = .returned (.tuple #[]) ∧ w'.ownsRow base 67 2 v n (stepC l.reverse) ∧ Chg (fun b => v.ownBlock = some b) w w' := by
  obtain ⟨a, cap, rfl⟩ := own_slice ho
  have HO := Lib.hid (And.intro ho hl)
  clear ho hl
  go_enter Tryz.func147, Tryz.ntmps147
  have wn : IntKind.i64.wrap ((n : Int) - 1) = n - 1 := IntWalk.i64_in _ (by omega)
  go_wp2_with fail
  go_loopg [2, 3] n (fun g l2 l3 wr => ∃ (i : Nat) (m : List (Int × Bool)), i ≤ n ∧ m.length = n ∧ (∀ k, k < n → m[k]? = if k < i ∨ n - i ≤ k then l[n - 1 - k]? else l[k]?) ∧ Chg (fun b => (Value.slice a n cap).ownBlock = some b) w wr ∧ wr.ownsRow base 67 2 (.slice a n cap) n (stepC m) ∧ l2 = .int .i64 i ∧ l3 = .int .i64 (n - 1 - i) ∧ g = n - i)
  case atStart => exact ⟨0, l, Nat.zero_le _, HO.out.2, fun k hk => by rw [if_neg (by omega)], Chg.refl _, HO.out.1, rfl, by simp, rfl⟩
  case round =>
    clear wn
    obtain ⟨w1, rfl⟩ : ∃ x, x = wr := ⟨_, rfl⟩
    obtain ⟨i, m, hi, hml, hm, hx, ho, rfl, rfl, rfl⟩ := hrel
    by_cases hin : (i : Int) < n - 1 - i
    · obtain ⟨j, hj⟩ : ∃ j : Nat, (n : Int) - 1 - i = j := ⟨n - 1 - i, by omega⟩
      rw [hj] at hin ⊢
      have hjn : j < n := by omega
      have hin2 : i < n := by omega
      have hin3 : (i : Int) < n := by omega
      have hjn3 : (j : Int) < n := by omega
      obtain ⟨g, cap2, e, hcell⟩ := own_form ho (by omega)
      cases e
      obtain ⟨si, hsi⟩ : ∃ s, m[i]? = some s := ⟨_, List.getElem?_eq_getElem (by omega)⟩
      obtain ⟨sj, hsj⟩ : ∃ s, m[j]? = some s := ⟨_, List.getElem?_eq_getElem (by omega)⟩
      have HR := Lib.hid (And.intro hml (And.intro hm (And.intro hx (And.intro ho (And.intro hj (And.intro hsi hsj))))))
      have hc := fun q (hq : q < n * 2) => ho.cellAt q hq
      obtain ⟨i0, i1⟩ := stepC_at hsi
      obtain ⟨j0, j1⟩ := stepC_at hsj
      rw [← hc (i * 2) (by omega)] at i0
      rw [← hc (i * 2 + 1) (by omega)] at i1
      rw [← hc (j * 2) (by omega)] at j0
      rw [← hc (j * 2 + 1) (by omega)] at j1
      clear hml hm hx ho hj hsi hsj hcell hc
      have wi : IntKind.i64.wrap ((i : Int) + 1) = i + 1 := IntWalk.i64_in _ (by omega)
      have wj : IntKind.i64.wrap ((j : Int) - 1) = j - 1 := IntWalk.i64_in _ (by omega)
      go_wp2_with fail
      refine wp_region_held_drew (S := fun _ => True) (by kernel_rfl) trivial (fun hHeld => ?_)
      refine wpAnyH_take (i := 0) (v := .slice (some ⟨g, 0, none⟩) n cap) rfl (by kernel_rfl) (by kernel_rfl) (by kernel_rfl) (fun _ _ _ h => h) (Or.inl ⟨by rfl, ?_⟩) hHeld ?_
      · intro wS hSw
        go_simp
      simp only [Act.put, List.setIfInBounds_toArray, List.set_cons_zero, List.set_cons_succ]
      refine wpAnyH_take (i := 1) (v := .int .i64 i) rfl (by kernel_rfl) (by kernel_rfl) (by kernel_rfl) (fun _ _ _ h => h) (Or.inl ⟨by rfl, ?_⟩) hHeld ?_
      · intro wS hSw
        go_simp
      simp only [Act.put, List.setIfInBounds_toArray, List.set_cons_zero, List.set_cons_succ]
      refine wpAnyH_take (i := 2) (v := .slice (some ⟨g, 0, none⟩) n cap) rfl (by kernel_rfl) (by kernel_rfl) (by kernel_rfl) (fun _ _ _ h => h) (Or.inl ⟨by rfl, ?_⟩) hHeld ?_
      · intro wS hSw
        go_simp
      simp only [Act.put, List.setIfInBounds_toArray, List.set_cons_zero, List.set_cons_succ]
      refine wpAnyH_take (i := 3) (v := .int .i64 j) rfl (by kernel_rfl) (by kernel_rfl) (by kernel_rfl) (fun _ _ _ h => h) (Or.inl ⟨by rfl, ?_⟩) hHeld ?_
      · intro wS hSw
        go_simp
      simp only [Act.put, List.setIfInBounds_toArray, List.set_cons_zero, List.set_cons_succ]
      refine wpAnyH_take (i := 4) (v := .slice (some ⟨g, 0, none⟩) n cap) rfl (by kernel_rfl) (by kernel_rfl) (by kernel_rfl) (fun _ _ _ h => h) (Or.inl ⟨by rfl, ?_⟩) hHeld ?_
      · intro wS hSw
        go_simp
      simp only [Act.put, List.setIfInBounds_toArray, List.set_cons_zero, List.set_cons_succ]
      refine wpAnyH_take (i := 5) (v := .int .i64 j) rfl (by kernel_rfl) (by kernel_rfl) (by kernel_rfl) (fun _ _ _ h => h) (Or.inl ⟨by rfl, ?_⟩) hHeld ?_
      · intro wS hSw
        go_simp
      simp only [Act.put, List.setIfInBounds_toArray, List.set_cons_zero, List.set_cons_succ]
      refine wpAnyH_take (i := 6) (v := .pointer (some ⟨g, j * 2, none⟩)) rfl (by kernel_rfl) (by kernel_rfl) (by kernel_rfl) (fun _ _ _ h => h) (Or.inl ⟨by rfl, ?_⟩) hHeld ?_
      · intro wS hSw
        go_simp
      simp only [Act.put, List.setIfInBounds_toArray, List.set_cons_zero, List.set_cons_succ]
      refine wpAnyH_take (i := 8) (v := .slice (some ⟨g, 0, none⟩) n cap) rfl (by kernel_rfl) (by kernel_rfl) (by kernel_rfl) (fun _ _ _ h => h) (Or.inl ⟨by rfl, ?_⟩) hHeld ?_
      · intro wS hSw
        go_simp
      simp only [Act.put, List.setIfInBounds_toArray, List.set_cons_zero, List.set_cons_succ]
      refine wpAnyH_take (i := 9) (v := .int .i64 i) rfl (by kernel_rfl) (by kernel_rfl) (by kernel_rfl) (fun _ _ _ h => h) (Or.inl ⟨by rfl, ?_⟩) hHeld ?_
      · intro wS hSw
        go_simp
      simp only [Act.put, List.setIfInBounds_toArray, List.set_cons_zero, List.set_cons_succ]
      refine wpAnyH_take (i := 10) (v := .pointer (some ⟨g, i * 2, none⟩)) rfl (by kernel_rfl) (by kernel_rfl) (by kernel_rfl) (fun _ _ _ h => h) (Or.inl ⟨by rfl, ?_⟩) hHeld ?_
      · intro wS hSw
        go_simp
      simp only [Act.put, List.setIfInBounds_toArray, List.set_cons_zero, List.set_cons_succ]
      refine wpAnyH_ready (rs := [7, 11]) (by kernel_rfl) (by simp) ?_
      refine AllReadyH.cons (i := 7) (rs := [11]) (by rfl) ?_ (AllReadyH.cons (i := 11) (rs := []) (by rfl) ?_ AllReadyH.nil)
      · intro K hK
        go_simp
        refine hK.out _ _ trivial (fun hHeld => ?_)
        clear hK K
        refine wpAnyH_ready (rs := [11]) (by kernel_rfl) (by simp) ?_
        refine AllReadyH.cons (i := 11) (rs := []) (by rfl) ?_ AllReadyH.nil
        intro K hK
        go_simp
        refine hK.out _ _ trivial (fun hHeld => ?_)
        clear hK K
        refine wpAnyH_take (i := 12) (v := .pointer (some ⟨g, i * 2, none⟩)) rfl (by kernel_rfl) (by kernel_rfl) (by kernel_rfl) (fun _ _ _ h => h) (Or.inl ⟨by rfl, ?_⟩) hHeld ?_
        · intro wS hSw
          go_simp
        simp only [Act.put, List.setIfInBounds_toArray, List.set_cons_zero, List.set_cons_succ]
        have h1 := own_set HR.out.2.2.2.1 (i * 2) (.int .i64 sj.1)
        have h2 := own_set h1 (i * 2 + 1) (.bool sj.2)
        have h3 := own_set h2 (j * 2) (.int .i64 si.1)
        have h4 := own_set h3 (j * 2 + 1) (.bool si.2)
        obtain ⟨⟨u0, p0⟩, f0⟩ := own_there HR.out.2.2.2.1 (i * 2) (by omega)
        obtain ⟨⟨u1, p1⟩, f1⟩ := own_there h1 (i * 2 + 1) (by omega)
        obtain ⟨⟨u2, p2⟩, f2⟩ := own_there h2 (j * 2) (by omega)
        obtain ⟨⟨u3, p3⟩, f3⟩ := own_there h3 (j * 2 + 1) (by omega)
        have HQ := Lib.hid h4
        clear h1 h2 h3 h4 i0 i1 j0 j1
        refine wpAnyH_ready (rs := [13]) (by kernel_rfl) (by simp) ?_
        refine AllReadyH.cons (i := 13) (rs := []) (by rfl) ?_ AllReadyH.nil
        intro K hK
        go_simp
        refine hK.out _ _ trivial (fun hHeld => ?_)
        clear hK K p0 f0 p1 f1
        refine wpAnyH_take (i := 14) (v := .pointer (some ⟨g, j * 2, none⟩)) rfl (by kernel_rfl) (by kernel_rfl) (by kernel_rfl) (fun _ _ _ h => h) (Or.inl ⟨by rfl, ?_⟩) hHeld ?_
        · intro wS hSw
          go_simp
        simp only [Act.put, List.setIfInBounds_toArray, List.set_cons_zero, List.set_cons_succ]
        refine wpAnyH_ready (rs := [15]) (by kernel_rfl) (by simp) ?_
        refine AllReadyH.cons (i := 15) (rs := []) (by rfl) ?_ AllReadyH.nil
        intro K hK
        go_simp
        refine hK.out _ _ trivial (fun hHeld => ?_)
        clear hK K p2 f2 p3 f3
        refine wpAnyH_done (by kernel_rfl) ?_ _
        go_wp2_with fail
        go_roundg (n - (i + 1))
        case measure => omega
        case rel =>
          refine ⟨i + 1, (m.set i sj).set j si, by omega, by simp [HR.out.1], fun k hk => ?_, ?_, ?_, rfl, by have := HR.out.2.2.2.2.1; simp; omega, rfl⟩
          · exact rev_step HR.out.1 (by have := HR.out.2.2.2.2.1; omega) hin2 hjn (by omega) HR.out.2.1 HR.out.2.2.2.2.2.1 HR.out.2.2.2.2.2.2 k hk
          · exact (set_row (set_row (set_row (set_row HR.out.2.2.1)))).drew
          · rw [← stepC_set, ← stepC_set]
            exact own_low (S := fun _ => False) HQ.out (Chg.refl _).drew (fun _ _ h => h)
      · intro K hK
        go_simp
        refine hK.out _ _ trivial (fun hHeld => ?_)
        clear hK K
        refine wpAnyH_ready (rs := [7]) (by kernel_rfl) (by simp) ?_
        refine AllReadyH.cons (i := 7) (rs := []) (by rfl) ?_ AllReadyH.nil
        intro K hK
        go_simp
        refine hK.out _ _ trivial (fun hHeld => ?_)
        clear hK K
        refine wpAnyH_take (i := 12) (v := .pointer (some ⟨g, i * 2, none⟩)) rfl (by kernel_rfl) (by kernel_rfl) (by kernel_rfl) (fun _ _ _ h => h) (Or.inl ⟨by rfl, ?_⟩) hHeld ?_
        · intro wS hSw
          go_simp
        simp only [Act.put, List.setIfInBounds_toArray, List.set_cons_zero, List.set_cons_succ]
        have h1 := own_set HR.out.2.2.2.1 (i * 2) (.int .i64 sj.1)
        have h2 := own_set h1 (i * 2 + 1) (.bool sj.2)
        have h3 := own_set h2 (j * 2) (.int .i64 si.1)
        have h4 := own_set h3 (j * 2 + 1) (.bool si.2)
        obtain ⟨⟨u0, p0⟩, f0⟩ := own_there HR.out.2.2.2.1 (i * 2) (by omega)
        obtain ⟨⟨u1, p1⟩, f1⟩ := own_there h1 (i * 2 + 1) (by omega)
        obtain ⟨⟨u2, p2⟩, f2⟩ := own_there h2 (j * 2) (by omega)
        obtain ⟨⟨u3, p3⟩, f3⟩ := own_there h3 (j * 2 + 1) (by omega)
        have HQ := Lib.hid h4
        clear h1 h2 h3 h4 i0 i1 j0 j1
        refine wpAnyH_ready (rs := [13]) (by kernel_rfl) (by simp) ?_
        refine AllReadyH.cons (i := 13) (rs := []) (by rfl) ?_ AllReadyH.nil
        intro K hK
        go_simp
        refine hK.out _ _ trivial (fun hHeld => ?_)
        clear hK K p0 f0 p1 f1
        refine wpAnyH_take (i := 14) (v := .pointer (some ⟨g, j * 2, none⟩)) rfl (by kernel_rfl) (by kernel_rfl) (by kernel_rfl) (fun _ _ _ h => h) (Or.inl ⟨by rfl, ?_⟩) hHeld ?_
        · intro wS hSw
          go_simp
        simp only [Act.put, List.setIfInBounds_toArray, List.set_cons_zero, List.set_cons_succ]
        refine wpAnyH_ready (rs := [15]) (by kernel_rfl) (by simp) ?_
        refine AllReadyH.cons (i := 15) (rs := []) (by rfl) ?_ AllReadyH.nil
        intro K hK
        go_simp
        refine hK.out _ _ trivial (fun hHeld => ?_)
        clear hK K p2 f2 p3 f3
        refine wpAnyH_done (by kernel_rfl) ?_ _
        go_wp2_with fail
        go_roundg (n - (i + 1))
        case measure => omega
        case rel =>
          refine ⟨i + 1, (m.set i sj).set j si, by omega, by simp [HR.out.1], fun k hk => ?_, ?_, ?_, rfl, by have := HR.out.2.2.2.2.1; simp; omega, rfl⟩
          · exact rev_step HR.out.1 (by have := HR.out.2.2.2.2.1; omega) hin2 hjn (by omega) HR.out.2.1 HR.out.2.2.2.2.2.1 HR.out.2.2.2.2.2.2 k hk
          · exact (set_row (set_row (set_row (set_row HR.out.2.2.1)))).drew
          · rw [← stepC_set, ← stepC_set]
            exact own_low (S := fun _ => False) HQ.out (Chg.refl _).drew (fun _ _ h => h)
    · have hm' : m = l.reverse := by
        refine List.ext_getElem? fun k => ?_
        by_cases hk : k < n
        · rw [hm k hk, List.getElem?_reverse (by rw [HO.out.2]; exact hk), HO.out.2]
          by_cases hc : k < i ∨ n - i ≤ k
          · rw [if_pos hc]
          · rw [if_neg hc]
            congr 1
            omega
        · rw [List.getElem?_eq_none (by omega), List.getElem?_eq_none (by rw [List.length_reverse, HO.out.2]; omega)]
      subst hm'
      have HR := Lib.hid (And.intro hx ho)
      have hin' : decide ((i : Int) < n - 1 - i) = false := decide_eq_false hin
      clear hm hx ho
      go_wp2_with fail
      go_returns
      exact ⟨rfl, HR.out.2, HR.out.1⟩
end Go.Proofs.YtkhllknahjmciaaGreat
