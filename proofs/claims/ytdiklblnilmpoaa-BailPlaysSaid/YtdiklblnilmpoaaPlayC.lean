/-
  Sum (of the package tansyalike), weight and ints: their contracts.
-/
import Derived.Test.YtdiklblnilmpoaaPlayB
namespace Go.Proofs.Ytdiklblnilmpoaa
open Go.RowKit Pl
set_option linter.unusedVariables false

theorem ret_int {k : IntKind} {a b : Int} (h : a = b) : Ending.returned (.int k a) = .returned (.int k b) := by rw [h]
/-- Sum, of any list. -/
def sumL : Int → List Int → Int
  | n, [] => n
  | n, m :: l => if 1099511627776 < n ∨ 1099511627776 - n < m then 1099511627776 else sumL (n + m) l
theorem sum_any (p : Addr) (l : List Int) (n c : Nat → Int) (n0 : Int) (cap : Nat) (w : World) (hn : 0 ≤ n0) (hn2 : n0 ≤ 4611686018427387904) (hl : l.length ≤ 9223372036854775807) (hc : ∀ j x, l[j]? = some x → w.cell? (p.add j) = some (.int .i64 x) ∧ 0 ≤ x ∧ x ≤ 4611686018427387904) :
    Calls Try.prog 42 #[.int .i64 n0, .slice (some p) l.length cap] w fun e w' => e = .returned (.int .i64 (sumL n0 l)) ∧ w = w' := by
  have HC := Lib.hid hc
  clear hc
  obtain ⟨L, hL⟩ : ∃ L, l.length = L := ⟨_, rfl⟩
  rw [hL] at hl ⊢
  have HLL := Lib.hid hL
  clear hL
  go_enter Try.func42, Try.ntmps42
  go_wp2_with fail
  go_loopg [0, 5] L (fun gg l0 l5 wr => ∃ (i : Nat) (v : Int), i ≤ L ∧ wr = w ∧ 0 ≤ v ∧ v ≤ 4611686018427387904 ∧ sumL v (l.drop i) = sumL n0 l ∧ l0 = .int .i64 v ∧ l5 = .int .i64 i ∧ gg = L - i)
  case atStart => exact ⟨0, n0, Nat.zero_le _, rfl, hn, hn2, by simp, rfl, rfl, rfl⟩
  case round =>
    obtain ⟨i, v, hi, rfl, hv0, hv1, hs, rfl, rfl, rfl⟩ := hrel
    by_cases hlt : i < L
    · obtain ⟨x, hx⟩ : ∃ x, l[i]? = some x := ⟨_, List.getElem?_eq_getElem (by rw [HLL.out]; exact hlt)⟩
      obtain ⟨cx, hx0, hx1⟩ := HC.out i x hx
      have hdrop : l.drop i = x :: l.drop (i + 1) := by
        rw [List.drop_eq_getElem_cons (by rw [HLL.out]; exact hlt)]
        congr 1
        rw [List.getElem?_eq_getElem (by rw [HLL.out]; exact hlt)] at hx
        exact Option.some.inj hx
      rw [hdrop] at hs
      have h1 : 0 ≤ (i : Int) := by omega
      have h2 : (i : Int) < (L : Int) := by omega
      by_cases hb : 1099511627776 < v
      · have hfin : sumL n0 l = 1099511627776 := by rw [← hs]; simp [sumL, hb]
        have HF := Lib.hid hfin
        clear hs hx hdrop hfin
        go_wp2_with fail
        go_ret
        exact ⟨ret_int HF.out.symm, rfl⟩
      · by_cases hb2 : 1099511627776 - v < x
        · have hfin : sumL n0 l = 1099511627776 := by rw [← hs]; simp [sumL, hb2]
          have HF := Lib.hid hfin
          clear hs hx hdrop hfin
          go_wp2_with fail
          go_ret
          exact ⟨ret_int HF.out.symm, rfl⟩
        · have hfin : sumL (v + x) (l.drop (i + 1)) = sumL n0 l := by rw [← hs]; simp only [sumL]; rw [if_neg (by omega)]
          have HF := Lib.hid hfin
          clear hs hx hdrop hfin
          go_wp2_with fail
          go_roundg (L - (i + 1))
          case measure => omega
          case rel => exact ⟨i + 1, v + x, by omega, rfl, by omega, by omega, HF.out, rfl, by go_num, rfl⟩
    · have h2 : ¬ (i : Int) < (L : Int) := by omega
      have hfin : sumL n0 l = v := by
        rw [← hs, List.drop_eq_nil_of_le (by rw [HLL.out]; omega)]; simp [sumL]
      have HF := Lib.hid hfin
      clear hs hfin hlt
      go_wp2_with fail
      go_ret
      exact ⟨ret_int HF.out.symm, rfl⟩
theorem sum_one (w : World) (n m : Int) (t cap : Nat) (hn : 0 ≤ n) (hn2 : n ≤ 4611686018427387904) (hm : 0 ≤ m) (hm2 : m ≤ 4611686018427387904) :
    Calls Try.prog 42 #[.int .i64 n, .slice (some ⟨w.heap.size, 0, none⟩) 1 cap] (w.alloc (.cells #[.int .i64 m] t)) fun e w' => e = .returned (.int .i64 (sum2 n m)) ∧ w.alloc (.cells #[.int .i64 m] t) = w' := by
  refine (sum_any ⟨w.heap.size, 0, none⟩ [m] (fun _ => 0) (fun _ => 0) n cap _ hn hn2 (by simp) (fun j x hj => ?_)).mono (fun e w' ⟨h1, h2⟩ => ⟨?_, h2⟩)
  · match j, hj with
    | 0, hj => simp at hj; subst hj; exact ⟨by simp [Addr.add], hm, hm2⟩
    | j + 1, hj => simp at hj
  · rw [h1]; simp [sumL, sum2]
/-- weight, of a tree. -/
theorem weight_any (N : Nat) : ∀ (t : Tr), cnt t ≤ N → ∀ (W : World) (d : Nd) (w : World) (deep : Nat), NodeAt W d t → Ext W w → deep ≤ 13 →
    Calls Try.prog 31 #[d.val t, .int .i64 deep] w fun e w' => e = .returned (.int .i64 (wt t deep)) ∧ Ext w w' := by
  induction N with
  | zero => intro t ht; have := cnt_pos t; omega
  | succ N ih =>
    intro t ht W d w deep hnode hw hd
    obtain ⟨k, c, n, kids⟩ := t
    have IH := Lib.hid ih
    clear ih
    have hnode0 := Lib.hid hnode
    cases hnode with
    | mk _ _ _ a cap _ f hmax cells sub =>
    simp only [Nd.val, nk]
    have HC := Lib.hid cells
    have HS := Lib.hid sub
    clear cells sub
    obtain ⟨L, hL⟩ : ∃ L, kids.length = L := ⟨_, rfl⟩
    rw [hL] at hmax ⊢
    by_cases hdeep : 12 < deep
    · have hfin : wt (.node k c n kids) deep = 1073741824 := by simp [wt, hdeep]
      have HF := Lib.hid hfin
      clear hfin
      have h12 : (12 : Int) < (deep : Int) := by omega
      have HW := Lib.hid hw
      clear hw hL
      go_enter Try.func31, Try.ntmps31
      go_wp2_with fail
      go_ret
      exact ⟨ret_int HF.out.symm, (Chg.refl w).alloc _⟩
    · have hfin : wt (.node k c n kids) deep = wtAll kids (deep + 1) 1 := by simp [wt, hdeep]
      have HF := Lib.hid hfin
      have HLL := Lib.hid hL
      clear hfin hL
      have h12 : ¬ (12 : Int) < (deep : Int) := by omega
      have HW := Lib.hid hw
      clear hw
      go_enter Try.func31, Try.ntmps31
      go_wp2_with fail
      go_loopg [5, 6] L (fun gg l5 l6 wr => ∃ (i : Nat) (v : Int), i ≤ L ∧ Ext w wr ∧ Blk wr w.heap.size #[.int .i64 k, .int .i64 c, .int .i64 n, .slice a L cap] 45 ∧ 0 ≤ v ∧ v ≤ 4611686018427387904 ∧ wtAll (kids.drop i) (deep + 1) v = wtAll kids (deep + 1) 1 ∧ l5 = .int .i64 v ∧ l6 = .int .i64 i ∧ gg = L - i)
      case atStart => exact ⟨0, 1, Nat.zero_le _, (Chg.refl w).alloc _, Blk.new _ _ _, by omega, by omega, by simp, rfl, rfl, rfl⟩
      case round =>
        obtain ⟨i, v, hi, he, hb, hv0, hv1, hs, rfl, rfl, rfl⟩ := hrel
        have c3 := hb.cell 3 _ rfl
        by_cases hlt : i < L
        · have h1 : 0 ≤ (i : Int) := by omega
          have h2 : (i : Int) < (L : Int) := by omega
          obtain ⟨t, htk⟩ : ∃ t, kids[i]? = some t := ⟨_, List.getElem?_eq_getElem (by rw [HLL.out]; exact hlt)⟩
          have hdrop : kids.drop i = t :: kids.drop (i + 1) := by
            rw [List.drop_eq_getElem_cons (by rw [HLL.out]; exact hlt)]
            congr 1
            rw [List.getElem?_eq_getElem (by rw [HLL.out]; exact hlt)] at htk
            exact Option.some.inj htk
          rw [hdrop] at hs
          by_cases hv : v < 1000
          · obtain ⟨x, rfl, h4⟩ := HC.out i t htk
            obtain ⟨q0, q1, q2, q3⟩ := (h4.ext HW.out).ext he
            have hcnt : cnt t ≤ N := by have := cntAll_get kids i t htk; simp only [cnt] at ht; omega
            have hcall := IH.out t hcnt W (f i) wr (deep + 1) (HS.out i t htk) (HW.out.trans he) (by omega)
            simp only [Nd.val] at hcall
            have hcast : ((deep + 1 : Nat) : Int) = (deep : Int) + 1 := by omega
            rw [hcast] at hcall
            have HK := Lib.hid hcall
            have hwp := wt_pos t (deep + 1)
            have hwle : wt t (deep + 1) ≤ 4611686018427387904 := by have := wt_le t (deep + 1); omega
            obtain ⟨m, hm⟩ : ∃ m, wt t (deep + 1) = m := ⟨_, rfl⟩
            have hs2 : wtAll (kids.drop (i + 1)) (deep + 1) (sum2 v m) = wtAll kids (deep + 1) 1 := by
              rw [← hs, ← hm]; simp [wtAll, hv]
            rw [hm] at HK hwp hwle
            have hsum : 0 ≤ sum2 v m ∧ sum2 v m ≤ 4611686018427387904 := by unfold sum2; split <;> omega
            have HR := Lib.hid hs2
            have HE := Lib.hid he
            have HB := Lib.hid hb
            have HSum := Lib.hid hsum
            clear hs hs2 hdrop htk hm h4 hcnt hcast hcall he hb hsum
            go_wp2_with fail
            refine HK.out.mono ?_
            rintro e w1 ⟨rfl, e1⟩
            have HE1 := Lib.hid (HE.out.trans e1)
            have HB1 := Lib.hid (HB.out.chg e1 (fun h => h))
            clear e1
            go_wp2_with fail
            refine (sum_one w1 v m _ _ hv0 hv1 (by omega) hwle).mono ?_
            rintro e w2 ⟨rfl, rfl⟩
            go_wp2_with fail
            go_roundg (L - (i + 1))
            case measure => omega
            case rel => exact ⟨i + 1, sum2 v m, by omega, HE1.out.alloc _, HB1.out.chg (S := fun _ => False) ((Chg.refl _).alloc _) (fun h => h), HSum.out.1, HSum.out.2, HR.out, rfl, by go_num, rfl⟩
          · have hfin : wtAll kids (deep + 1) 1 = v := by rw [← hs]; simp [wtAll, hv]
            have HV := Lib.hid hfin
            have HE := Lib.hid he
            clear hs hdrop htk hfin he hb
            go_wp2_with fail
            go_ret
            exact ⟨ret_int (HF.out.trans HV.out).symm, HE.out⟩
        · have h2 : ¬ (i : Int) < (L : Int) := by omega
          have hfin : wtAll kids (deep + 1) 1 = v := by
            rw [← hs, List.drop_eq_nil_of_le (by rw [HLL.out]; omega)]; simp [wtAll]
          have HV := Lib.hid hfin
          have HE := Lib.hid he
          clear hs hfin he hb hlt
          go_wp2_with fail
          go_ret
          exact ⟨ret_int (HF.out.trans HV.out).symm, HE.out⟩
end Go.Proofs.Ytdiklblnilmpoaa
