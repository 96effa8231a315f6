/-
  Every tree plays, and is done, as the plain law says; the two lists compared; the literal that the law hands to Safe.
-/
import Derived.Test.YtdiklblnilmpoaaPlayE
import Derived.Test.YtdiklblnilmpoaaPlayF
import Derived.Test.YtdiklblnilmpoaaPlayG
import Derived.Test.YtdiklblnilmpoaaPlayH
import Derived.Test.YtdiklblnilmpoaaPlayI
import Derived.Test.YtdiklblnilmpoaaPlayJ
import Derived.Test.YtdiklblnilmpoaaDoesB
import Derived.Test.YtdiklblnilmpoaaDoesC
import Derived.Test.YtdiklblnilmpoaaDoesD
import Derived.Test.YtdiklblnilmpoaaDoesE
import Derived.Test.YtdiklblnilmpoaaDoesF
import Derived.Test.YtdiklblnilmpoaaDoesG
namespace Go.Proofs.Ytdiklblnilmpoaa
open Go.RowKit Pl
set_option linter.unusedVariables false

theorem kid_cases (kids : List Tr) (j : Nat) : kid kids j = zero ∨ kids[j]? = some (kid kids j) := by
  by_cases h : j < kids.length
  · exact .inr (by simp [kid, List.getD_eq_getElem?_getD, List.getElem?_eq_getElem h])
  · exact .inl (by simp [kid, List.getD_eq_getElem?_getD, List.getElem?_eq_none (Nat.le_of_not_lt h)])
theorem plays_all (N : Nat) : ∀ t, cnt t ≤ N → PlaysOK t := by
  induction N with
  | zero => intro t ht; have := cnt_pos t; omega
  | succ N ih =>
    intro t ht
    obtain ⟨k, c, n, kids⟩ := t
    have hk : ∀ j t, kids[j]? = some t → PlaysOK t := fun j t hj => ih t (by have := cntAll_get kids j t hj; simp only [cnt] at ht; omega)
    have hkid : ∀ j, PlaysOK (kid kids j) := fun j => by
      rcases kid_cases kids j with h | h
      · rw [h]; exact plays0 0 0 0 [] (by omega)
      · exact hk j _ h
    rcases (by omega : (k < 1 ∨ 9 < k) ∨ k = 1 ∨ k = 2 ∨ k = 3 ∨ k = 4 ∨ k = 5 ∨ k = 6 ∨ k = 7 ∨ k = 8 ∨ k = 9) with h | rfl | rfl | rfl | rfl | rfl | rfl | rfl | rfl | rfl
    · exact plays0 k c n kids h
    · exact plays1 c n kids
    · exact plays2 c n kids
    · exact plays3 c n kids hk
    · exact plays4 c n kids (hkid 0)
    · exact plays5 c n kids (hkid 0)
    · exact plays6 c n kids (hkid 0) (hkid 1)
    · exact plays7 c n kids (hkid 0)
    · exact plays8 c n kids
    · exact plays9 c n kids
theorem does_all (N : Nat) : ∀ t, cnt t ≤ N → DoesOK t := by
  induction N with
  | zero => intro t ht; have := cnt_pos t; omega
  | succ N ih =>
    intro t ht
    obtain ⟨k, c, n, kids⟩ := t
    have hk : ∀ j t, kids[j]? = some t → DoesOK t := fun j t hj => ih t (by have := cntAll_get kids j t hj; simp only [cnt] at ht; omega)
    have hkid : ∀ j, DoesOK (kid kids j) := fun j => by
      rcases kid_cases kids j with h | h
      · rw [h]; exact does0 0 0 0 [] (by omega)
      · exact hk j _ h
    rcases (by omega : (k < 1 ∨ 9 < k) ∨ k = 1 ∨ k = 2 ∨ k = 3 ∨ k = 4 ∨ k = 5 ∨ k = 6 ∨ k = 7 ∨ k = 8 ∨ k = 9) with h | rfl | rfl | rfl | rfl | rfl | rfl | rfl | rfl | rfl
    · exact does0 k c n kids h
    · exact does1 c n kids
    · exact does2 c n kids
    · exact does3 c n kids hk
    · exact does4 c n kids (hkid 0)
    · exact does5 c n kids (hkid 0)
    · exact does6 c n kids (hkid 0) (hkid 1)
    · exact does7 c n kids (hkid 0)
    · exact does8 c n kids
    · exact does9 c n kids
/-- What is noted, read: the list's values by their index. -/
theorem Nts.val {B b T : Nat} {x : Value} {w : World} {l : List Int} (h : Nts B b T x w l) : ∃ a c, w.cell? ⟨b, 0, none⟩ = some (.slice a l.length c) ∧ ∀ j y, l[j]? = some y → ∃ p, a = some p ∧ w.cell? (p.add j) = some (.int .i64 y) := by
  obtain ⟨v, hh, hown, _⟩ := h
  have hc : w.cell? ⟨b, 0, none⟩ = some v := by simp [World.cell?, hh]
  rcases hown.2 with ⟨rfl, h0⟩ | ⟨g, cap, cur, rfl, hrest⟩
  · have : l = [] := List.length_eq_zero_iff.1 h0
    subst this
    exact ⟨none, 0, by simpa using hc, fun j x hj => by simp at hj⟩
  · exact ⟨some ⟨g, 0, none⟩, cap, hc, fun j x hj => ⟨_, rfl, hown.cells rfl j _ (by simp [hj])⟩⟩
/-- ints, of two lists that hold the same. -/
theorem ints_same (a b : Option Addr) (ca cb n : Nat) (l : List Int) (w : World) (hn : l.length = n) (hl : n ≤ 1000)
    (ha : ∀ j x, l[j]? = some x → ∃ p, a = some p ∧ w.cell? (p.add j) = some (.int .i64 x)) (hb : ∀ j x, l[j]? = some x → ∃ p, b = some p ∧ w.cell? (p.add j) = some (.int .i64 x)) :
    Calls Try.prog 35 #[.slice a n ca, .slice b n cb] w fun e w' => e = .returned (.bool true) ∧ ∃ m, w' = w.drewN m := by
  have HA := Lib.hid ha
  have HB := Lib.hid hb
  have HN := Lib.hid hn
  clear ha hb hn
  go_enter Try.func35, Try.ntmps35
  go_wp2_with fail
  repeat (go_quiet (fail); try go_wp2_with fail)
  go_loopg [5] n (fun gg l3 wr => ∃ i m : Nat, i ≤ n ∧ wr = w.drewN m ∧ l3 = .int .i64 i ∧ gg = n - i)
  case atStart => exact ⟨0, _, Nat.zero_le _, by first | rfl | exact (World.drewN_zero _).symm, rfl, rfl⟩
  case round =>
    obtain ⟨i, m, hi, rfl, rfl, rfl⟩ := hrel
    by_cases hlt : i < n
    · have h1 : 0 ≤ (i : Int) := by omega
      have h2 : (i : Int) < (n : Int) := by omega
      obtain ⟨x, hx⟩ : ∃ x, l[i]? = some x := ⟨_, List.getElem?_eq_getElem (by rw [HN.out]; exact hlt)⟩
      obtain ⟨p, rfl, hp⟩ := HA.out i x hx
      obtain ⟨q, rfl, hq⟩ := HB.out i x hx
      clear hx
      go_wp2_with fail
      repeat (go_quiet (fail); try go_wp2_with fail)
      go_roundg (n - (i + 1))
      case measure => omega
      case rel => exact ⟨i + 1, _, by omega, rfl, by go_num, rfl⟩
    · have h2 : ¬ (i : Int) < (n : Int) := by omega
      go_wp2_with fail
      go_ret
      exact ⟨rfl, _, rfl⟩
/-- The array of what is noted has been made since B. -/
theorem Nts.ge {B b T : Nat} {x : Value} {w : World} {l : List Int} (h : Nts B b T x w l) {k : Nat} (hk : NtsD b Non w k) : k = b ∨ B ≤ k := by
  obtain ⟨v, hh, ⟨_, ho⟩, _⟩ := h
  have hcv : w.cell? ⟨b, 0, none⟩ = some v := by simp [World.cell?, hh]
  rcases hk with rfl | hs | ⟨a, n, c, hc, rfl⟩
  · exact .inl rfl
  · exact hs.elim
  · rw [hcv] at hc
    rcases ho with ⟨rfl, _⟩ | ⟨g, cap, cur, rfl, hg0, hg, _⟩
    · simp at hc
    · simp at hc
      obtain ⟨rfl, _⟩ := hc
      exact .inr hg0
set_option maxRecDepth 100000 in
theorem bailLit_runs0 (W w : World) (B bw bm n2 n3 : Nat) (k c n : Int) (a : Option Addr) (cap len : Nat) (s : St) (r : En × St)
    (hf : FrD W B bw bm n2 n3 #[.int .i64 k, .int .i64 c, .int .i64 n, .slice a len cap] w s)
    (HI : Hid (∀ w1, Ext w w1 → Calls Try.prog 34 #[.pointer (some ⟨bw, 0, none⟩), .agg #[.int .i64 k, .int .i64 c, .int .i64 n, .slice a len cap]] w1 (DoesEnd W B bw bm w1 r))) :
    Runs (WD bw bm) (.func (.func 33) #[] #[.pointer (some ⟨n2, 0, none⟩), .pointer (some ⟨n3, 0, none⟩)]) w (fun o w' => o = toFin r.1 ∧ WSt W B bw bm w' r.2) := by
  refine Runs.of (fun args w => run_enter Try.func33 rfl rfl args w) ?_
  have p0 := hf.b2.cell 0 _ rfl
  have q0 := hf.b3.cell 0 _ rfl
  have q1 := hf.b3.cell 1 _ rfl
  have q2 := hf.b3.cell 2 _ rfl
  have q3 := hf.b3.cell 3 _ rfl
  have HF := Lib.hid hf
  clear hf
  go_enter Try.func33, Try.ntmps33
  go_wp2_with fail
  refine (HI.out _ (Chg.refl w)).mono ?_
  rintro e w4 ⟨he, hs4, hk4⟩
  have hfin : Keep (WD bw bm) w w4 ∧ ∃ o, Ends (WD bw bm) o e w4 ∧ o = toFin r.1 ∧ WSt W B bw bm w4 r.2 := ⟨hk4, _, he, rfl, hs4⟩
  clear hs4 hk4
  obtain ⟨en, s'⟩ := r
  cases en with
  | ret =>
    simp only [toFin, Ends] at he
    subst he
    go_wp2_with fail
    go_end0
    exact hfin
  | bail c' a' =>
    obtain ⟨ch, b, rfl, rest⟩ := he
    exact ⟨rfl, hfin⟩
  | num x' =>
    obtain ⟨ch, rfl, rest⟩ := he
    exact ⟨rfl, hfin⟩
set_option maxRecDepth 100000 in
theorem bailLit_runs (W w : World) (B bw bm n2 n3 : Nat) (k c n : Int) (a : Option Addr) (cap : Nat) (kids : List Tr) (s : St) (hnode : NodeAt W ⟨k, c, n, a, cap⟩ (.node k c n kids))
    (hf : FrD W B bw bm n2 n3 #[.int .i64 k, .int .i64 c, .int .i64 n, .slice a kids.length cap] w s) (IH : DoesOK (.node k c n kids)) (hroom : s.notes.length + 3 * cnt (.node k c n kids) + 3 ≤ 1000) (r : En × St) (hr : play (.node k c n kids) s = r) :
    Runs (WD bw bm) (.func (.func 33) #[] #[.pointer (some ⟨n2, 0, none⟩), .pointer (some ⟨n3, 0, none⟩)]) w (fun o w' => o = toFin r.1 ∧ WSt W B bw bm w' r.2) :=
  bailLit_runs0 W w B bw bm n2 n3 k c n a cap kids.length s r hf (Lib.hid fun w1 e1 => by subst hr; exact IH W ⟨k, c, n, a, cap⟩ w1 B bw bm s hnode (hf.st.toExt e1) hroom)
end Go.Proofs.Ytdiklblnilmpoaa
