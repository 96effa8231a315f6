/-
  The document's own answer on bytes as a value with a double (chapter 24): the walk of Unvalue.
-/
import Derived.Test.YtnamcghcgcknpaaValI
namespace Go.Proofs.Ytnamcghcgcknpaa
open Go.RowKit
set_option linter.unusedVariables false
set_option linter.unusedSimpArgs false

theorem dOct_short : ∀ (k a : Nat) (r : List Nat), r.length < k → dOct a k r = none
  | 0, _, _, h => absurd h (by omega)
  | _ + 1, _, [], _ => rfl
  | k + 1, a, c :: r, h => dOct_short k (a * 256 + c) r (by simpa using h)
theorem eOct_inj {a b : Nat} (ha : a < 18446744073709551616) (hb : b < 18446744073709551616) (h : eOct a = eOct b) : a = b := by
  have h1 := eOct_inv a [] ha
  have h2 := eOct_inv b [] hb
  rw [h, h2] at h1
  simpa using h1.symm
theorem strOf_inj {a b : List Nat} (ha : ∀ x ∈ a, x < 256) (hb : ∀ x ∈ b, x < 256) (h : strOf a = strOf b) : a = b := by
  have h1 : (a.map UInt8.ofNat) = (b.map UInt8.ofNat) := by
    have := congrArg (fun s : ByteArray => s.data.toList) h
    simpa [strOf] using this
  have h2 := congrArg (List.map UInt8.toNat) h1
  rw [List.map_map, List.map_map] at h2
  have key : ∀ l : List Nat, (∀ x ∈ l, x < 256) → l.map (UInt8.toNat ∘ UInt8.ofNat) = l := fun l hl => by
    conv => rhs; rw [← List.map_id l]
    refine List.map_congr_left fun x hx => ?_
    simp [Nat.mod_eq_of_lt (show x < 2 ^ 8 from hl x hx)]
  rwa [key a ha, key b hb] at h2
set_option maxRecDepth 100000 in
set_option maxHeartbeats 8000000 in
theorem runv_flo {w : World} {x : Addr} {cap m s : Nat} {r : List Nat} (h : Cells w (some x) m cap (byteCells (s :: r))) (hb : ∀ b ∈ s :: r, b < 256) (hm : r.length + 1 = m) (h2 : 2 ≤ m) (h13 : ¬ (s = 1 ∨ s = 3)) (h24 : ¬ (s = 2 ∨ s = 4)) :
    Calls Try.prog 14 #[.slice (some x) m cap] w (Unv w (s :: r)) := by
  have hcap := h.1
  have hmax := h.2.1
  unfold maxLen at hmax
  have hs' : (s : Int) < 256 := by have := hb s (by simp); omega
  have c0 : w.cell? x = some (.int .u8 (s : Int)) := by
    obtain ⟨y, hy, hcc⟩ := h.2.2 0 (.int .u8 (s : Int)) (by simp [byteCells])
    cases hy
    have e : x.add 0 = x := by
      obtain ⟨b, o, i⟩ := x
      cases i <;> simp [Addr.add]
    rwa [e] at hcc
  have hw1 : Ext w (w.alloc (Obj.cells #[.int .i64 0, .bool false, .slice none 0 0, .int .i64 0, .float .f64 0] 31)) := (Chg.refl w).alloc _
  have d0 := (hw1.cell (lt_of_cell c0) (fun h => h)).trans c0
  have h2' : decide ((m : Int) < 2) = false := by simp; omega
  have n1 : ((s : Int) == 1) = false := by simp; omega
  have n2 : ((s : Int) == 2) = false := by simp; omega
  have n3 : ((s : Int) == 3) = false := by simp; omega
  have n4 : ((s : Int) == 4) = false := by simp; omega
  have hi0 : (0 : Int) < m := by omega
  have hW2 : Ext w ((w.alloc (Obj.cells #[.int .i64 0, .bool false, .slice none 0 0, .int .i64 0, .float .f64 0] 31)).alloc (Obj.cells #[.int .i64 s, .bool false, .slice none 0 0, .int .i64 0, .float .f64 0] 31)) := hw1.alloc _
  have hP0 : Blk ((w.alloc (Obj.cells #[.int .i64 0, .bool false, .slice none 0 0, .int .i64 0, .float .f64 0] 31)).alloc (Obj.cells #[.int .i64 s, .bool false, .slice none 0 0, .int .i64 0, .float .f64 0] 31)) w.heap.size #[.int .i64 0, .bool false, .slice none 0 0, .int .i64 0, .float .f64 0] 31 := (Blk.new w _ _).chg (S := fun _ => False) ((Chg.refl _).alloc _) (fun h => h)
  have hP1 : Blk ((w.alloc (Obj.cells #[.int .i64 0, .bool false, .slice none 0 0, .int .i64 0, .float .f64 0] 31)).alloc (Obj.cells #[.int .i64 s, .bool false, .slice none 0 0, .int .i64 0, .float .f64 0] 31)) (w.heap.size + 1) #[.int .i64 s, .bool false, .slice none 0 0, .int .i64 0, .float .f64 0] 31 := by
    have := Blk.new (w.alloc (Obj.cells #[.int .i64 0, .bool false, .slice none 0 0, .int .i64 0, .float .f64 0] 31)) #[.int .i64 s, .bool false, .slice none 0 0, .int .i64 0, .float .f64 0] 31
    rwa [World.size_alloc] at this
  have hDn := dVal_flo (s := s) (r := r) h13 h24
  have HCL := Lib.hid (And.intro h (And.intro hb hm))
  have HNS := Lib.hid (And.intro h13 h24)
  have hsf := run_store_f
  have HW := Lib.hid (And.intro hW2 (And.intro hP0 hP1))
  clear h hb hm hW2 hP0 hP1 hw1 c0 h13 h24
  by_cases h9 : m < 9
  · have hdn : dOct 0 8 r = none := dOct_short 8 0 r (by have := HCL.out.2.2; omega)
    have HU0 := Lib.hid (unv_bad (w := w) (bs := s :: r) (by rw [hDn, hdn]))
    generalize Unv w (s :: r) = U at HU0 ⊢
    have h9' : decide ((m : Int) < 9) = true := by simp; omega
    clear hDn hdn h9
    go_enter Try.func14, Try.ntmps14
    go_wp2_with fail
    go_returns
    exact HU0.out _ _ rfl (by repeat (first | exact Chg.refl _ | refine Chg.drew ?_ | refine Chg.alloc ?_ _ | (refine Chg.setCell ?_ _ _ (by intro h; simp at h; omega))))
  · have h9' : decide ((m : Int) < 9) = false := by simp; omega
    have h9m : 9 ≤ m := by omega
    have HDn := Lib.hid hDn
    obtain ⟨W2, hW2e⟩ : ∃ W2, ((w.alloc (Obj.cells #[.int .i64 0, .bool false, .slice none 0 0, .int .i64 0, .float .f64 0] 31)).alloc (Obj.cells #[.int .i64 s, .bool false, .slice none 0 0, .int .i64 0, .float .f64 0] 31)) = W2 := ⟨_, rfl⟩
    rw [hW2e] at HW
    have HWE := Lib.hid hW2e
    clear h9 hDn hW2e
    go_enter Try.func14, Try.ntmps14
    go_wp2_with fail
    clear d0
    rw [HWE.out]
    go_loopg [10, 11] 8 (fun g l10 l11 wr => ∃ (i b : Nat), wr = W2 ∧ i ≤ 8 ∧ b < 256 ^ i ∧ dOct 0 8 r = dOct b (8 - i) (r.drop i) ∧ l10 = .int .u64 b ∧ l11 = .int .i64 (1 + i) ∧ g = 8 - i)
    case atStart => exact ⟨0, 0, rfl, by omega, by simp, rfl, rfl, rfl, rfl⟩
    case round =>
      obtain ⟨i, b, rfl, hi8, hbi, hdo, rfl, rfl, rfl⟩ := hrel
      have HDO := Lib.hid (And.intro hdo hbi)
      clear hbi hdo
      obtain ⟨q, hq⟩ : ∃ q : Nat, 1 + i = q := ⟨_, rfl⟩
      have hq' : 1 + (i : Int) = (q : Int) := by omega
      rw [hq']
      have HQ := Lib.hid hq
      have hqm : (q : Int) ≤ 9 := by omega
      have hq0 : (0 : Int) < q := by omega
      clear hq hq'
      by_cases hi : i < 8
      · have hq9 : decide ((q : Int) < 9) = true := by have := HQ.out; simp; omega
        have hqlt : (q : Int) < m := by have := HQ.out; omega
        obtain ⟨c, hc⟩ : ∃ c, r.getD i 0 = c := ⟨_, rfl⟩
        have hir : i < r.length := by have := HCL.out.2.2; omega
        have hge : r[i]? = some c := by rw [← hc, List.getD_eq_getElem?_getD, List.getElem?_eq_getElem hir]; rfl
        have hc256 : c < 256 := HCL.out.2.1 c (List.mem_cons_of_mem _ (List.mem_of_getElem? hge))
        have cq : wr.cell? (x.add q) = some (.int .u8 (c : Int)) := by
          obtain ⟨y, hy, hcc⟩ := HCL.out.1.2.2 q (.int .u8 (c : Int)) (by rw [← HQ.out, Nat.add_comm]; simp [byteCells, hge])
          cases hy
          exact (HW.out.1.cell (lt_of_cell hcc) (fun h => h)).trans hcc
        have ho := oct_or HDO.out.2 hi hc256
        have hdrop : r.drop i = c :: r.drop (i + 1) := by rw [List.drop_eq_getElem_cons hir]; congr 1; rw [List.getElem?_eq_getElem hir] at hge; exact Option.some.inj hge
        have HO := Lib.hid (And.intro ho hdrop)
        clear hc hge ho hdrop
        go_wp2_with fail
        go_roundg (8 - (i + 1))
        case measure => omega
        case rel =>
          refine ⟨i + 1, b * 256 + c, rfl, by omega, HO.out.1.2, ?_, congrArg (Value.int .u64) HO.out.1.1, congrArg (Value.int .i64) (by have := HQ.out; omega), rfl⟩
          rw [HDO.out.1, HO.out.2, show 8 - i = (8 - (i + 1)) + 1 by omega, dOct_cons]
      · obtain rfl : i = 8 := by omega
        obtain rfl : q = 9 := by have := HQ.out; omega
        have h8 : (256 : Nat) ^ 8 = 18446744073709551616 := by decide
        have hb64 : b < 18446744073709551616 := by rw [← h8]; exact HDO.out.2
        have hdo : dOct 0 8 r = some (b, r.drop 8) := by rw [HDO.out.1]; rfl
        obtain ⟨hre, -⟩ := dOct_inv (fun b hbr => HCL.out.2.1 b (List.mem_cons_of_mem _ hbr)) hdo
        have hdv := HDn.out
        rw [hdo] at hdv
        simp only at hdv
        rw [fo_fb, fb_fb] at hdv
        have HOF := Lib.hid (fun w => rof_any b w)
        have hy64 := fb_lt b hb64
        have hyy := fb_fb b
        obtain ⟨y, hy⟩ : ∃ y, fb b = y := ⟨_, rfl⟩
        rw [hy] at HOF hdv hy64 hyy
        have hcode : codeV ⟨s, false, [], 0, y⟩ = mayV ⟨s, false, [], 0, y⟩ := by
          unfold codeV
          by_cases hm0 : mayV ⟨s, false, [], 0, y⟩ = 0
          · rw [if_pos hm0, if_neg (fun h => HNS.out.1 (by have := h.1; simp only at this; omega)), hm0]
          · rw [if_neg hm0]
        have hby : eVal ⟨s, false, [], 0, y⟩ = s :: eOct y := by
          have h1 := HNS.out.1
          have h2 := HNS.out.2
          unfold eVal
          simp only
          rw [if_neg (by omega), if_neg (by omega), hyy]
          simp
        have HV := Lib.hid (rncV_any (w := wr.setCell ⟨w.heap.size + 1, 4, none⟩ (.float .f64 y)) (v := ⟨s, false, [], 0, y⟩) (a := none) (cap := 0) ⟨Nat.le_refl _, by unfold maxLen; omega, fun j u hu => by simp [wordCells] at hu⟩ hy64 (by intro d hd; simp at hd))
        rw [hcode, hby] at HV
        unfold valV at HV
        simp only [List.length_nil] at HV
        obtain ⟨M, hM⟩ : ∃ M, mayV ⟨s, false, [], 0, y⟩ = M := ⟨_, rfl⟩
        rw [hM] at HV hdv
        have kk4 := HW.out.2.2.cell 4 _ rfl
        have ff4 := HW.out.2.2.frozen 4
        have kq0 := HW.out.2.2.set 4 (.float .f64 y)
        have hq1 : Chg (fun k => k = w.heap.size + 1) wr (wr.setCell ⟨w.heap.size + 1, 4, none⟩ (.float .f64 y)) := set_chg (Chg.refl _)
        have kp0 := HW.out.2.1.chg hq1 (by intro h; have h' : w.heap.size = w.heap.size + 1 := h; omega)
        have hX0 := box_chg2 HW.out.1 hq1
        obtain ⟨j0, i0, j1, i1, j2, i2, j3, i3, j4, i4⟩ := blk5_base kq0
        have HK := Lib.hid (And.intro kp0 (And.intro kq0 hX0))
        have HE := Lib.hid (And.intro hdv (And.intro hre (And.intro hb64 hy64)))
        clear hdv hre hb64 hdo hy hyy hcode hby hM kq0 hq1 kp0 hX0 HDO h8 HDn hy64
        by_cases hM0 : M = 0
        · subst hM0
          by_cases hyb : y = b
          · subst hyb
            have HU1 := Lib.hid (unv_good (w := w) (bs := s :: r) (n := 9) (HE.out.1.trans (by rw [if_pos rfl, if_pos rfl])) (by have := HCL.out.2.2; simp only [List.length_cons, List.length_drop]; omega))
            go_wp2_with (go_at_call 33; refine (HOF.out _).mono ?_; rintro e w' ⟨rfl, rfl⟩)
            refine HV.out.mono ?_
            rintro e w5 ⟨hx5, hw⟩
            rcases hw with ⟨-, v, rfl, hown5⟩ | ⟨hne, -⟩
            case inr => exact absurd rfl hne
            obtain ⟨g, cap', rfl, hnews⟩ := own_form hown5 (by simp)
            have hv1 : ∀ W, Ext w5 W → (convert 22 9 (.slice (some ⟨g, 0, none⟩) 9 cap')).run Try.prog W = .ok (.string (strOf (s :: eOct y))) W := fun W hW =>
              conv_str (fun j u hu => (hW.cell (lt_of_cell (hnews j u hu)) (fun h => h)).trans (hnews j u hu)) (fun b hbm => HCL.out.2.1 b (by rw [HE.out.2.1]; simp only [List.mem_cons, List.mem_append] at hbm ⊢; rcases hbm with h | h <;> simp [h])) rfl
            have hv2 : ∀ W, Ext w5 W → (convert 22 9 (.slice (some x) 9 cap)).run Try.prog W = .ok (.string (strOf (s :: eOct y))) W := fun W hW =>
              conv_str (fun j u hu => by
                obtain ⟨z, hz, hcy⟩ := HCL.out.1.2.2 j u (by
                  rw [HE.out.2.1, ← List.cons_append, bcells_app, List.getElem?_append_left (by exact (List.getElem?_eq_some_iff.1 hu).1)]
                  exact hu)
                cases hz
                exact (((HK.out.2.2.trans hx5).trans hW).cell (lt_of_cell hcy) (fun h => h)).trans hcy) (fun b hbm => HCL.out.2.1 b (by rw [HE.out.2.1]; simp only [List.mem_cons, List.mem_append] at hbm ⊢; rcases hbm with h | h <;> simp [h])) rfl
            have hv1' := fun q => hv1 (w5.drewN q) ((Chg.refl w5).drewN q)
            have hv2' := fun q => hv2 (w5.drewN q) ((Chg.refl w5).drewN q)
            obtain ⟨S, hS⟩ : ∃ S, strOf (s :: eOct y) = S := ⟨_, rfl⟩
            rw [hS] at hv1' hv2'
            have hq := str_nself S
            have kp := HK.out.1.chg hx5 (fun h => h)
            have kq := HK.out.2.1.chg hx5 (fun h => h)
            have HXX := Lib.hid (HK.out.2.2.trans hx5)
            have h9c : (9 : Int) ≤ cap := by omega
            simp only [show (s :: eOct y).length = 9 from rfl]
            clear hx5 hown5 hnews hS hv1 hv2 j0 i0 j1 i1 j2 i2 j3 i3 j4 i4
            go_wp2_with fail
            go_quiet (fail)
            have kp4 := kp.drewN nq
            have kq4 := kq.drewN nq
            have HX4 := Lib.hid (HXX.out.drewN nq)
            clear hv1' hv2' hq kp kq
            generalize w5.drewN nq = w6 at *
            obtain ⟨a0, b0, a1', b1, a2, b2, a3, b3, a4, b4⟩ := blk5_base kq4
            obtain ⟨g0, f0, g1, f1, g2, f2, g3, f3, g4, f4⟩ := blk5_base kp4
            obtain ⟨y3, z3, y4, z4, q0, q1, q2, q3, q4⟩ := blk5_facts kp4 (.int .i64 s) (.bool false) (.slice none 0 0) (.int .i64 0) (.float .f64 y)
            go_wp2_with fail
            (try simp only [Exit.inBlock, Exit.then])
            refine bodyPost_ret (by simp [results, Try.results14, go_sem, q0, q1, q2, q3, q4]; try rfl) rfl ?_
            exact HU1.out none 0 _ _ rfl (box_chg HX4.out (set_chg (j := 4) (c := .float .f64 y) (set_chg (j := 3) (c := .int .i64 0) (set_chg (j := 2) (c := .slice none 0 0) (set_chg (j := 1) (c := .bool false) (set_chg (j := 0) (c := .int .i64 s) (Chg.refl _))))))) (World.ownsRow_nil _ _ _ _) HE.out.2.2.2
          · have HU0 := Lib.hid (unv_bad (w := w) (bs := s :: r) (HE.out.1.trans (by rw [if_neg hyb])))
            have HYB := Lib.hid hyb
            clear hyb
            go_wp2_with (go_at_call 33; refine (HOF.out _).mono ?_; rintro e w' ⟨rfl, rfl⟩)
            refine HV.out.mono ?_
            rintro e w5 ⟨hx5, hw⟩
            rcases hw with ⟨-, v, rfl, hown5⟩ | ⟨hne, -⟩
            case inr => exact absurd rfl hne
            obtain ⟨g, cap', rfl, hnews⟩ := own_form hown5 (by simp)
            have hb1 : ∀ z ∈ s :: eOct y, z < 256 := fun z hz => by
              rcases List.mem_cons.1 hz with h | h
              · omega
              · simp only [eOct, List.mem_cons, List.mem_nil_iff, or_false] at h; omega
            have hb2 : ∀ z ∈ s :: eOct b, z < 256 := fun z hz => HCL.out.2.1 z (by rw [HE.out.2.1]; simp only [List.mem_cons, List.mem_append] at hz ⊢; rcases hz with h | h <;> simp [h])
            have hv1 : ∀ W, Ext w5 W → (convert 22 9 (.slice (some ⟨g, 0, none⟩) 9 cap')).run Try.prog W = .ok (.string (strOf (s :: eOct y))) W := fun W hW =>
              conv_str (fun j u hu => (hW.cell (lt_of_cell (hnews j u hu)) (fun h => h)).trans (hnews j u hu)) hb1 rfl
            have hv2 : ∀ W, Ext w5 W → (convert 22 9 (.slice (some x) 9 cap)).run Try.prog W = .ok (.string (strOf (s :: eOct b))) W := fun W hW =>
              conv_str (fun j u hu => by
                obtain ⟨z, hz, hcy⟩ := HCL.out.1.2.2 j u (by
                  rw [HE.out.2.1, ← List.cons_append, bcells_app, List.getElem?_append_left (by exact (List.getElem?_eq_some_iff.1 hu).1)]
                  exact hu)
                cases hz
                exact (((HK.out.2.2.trans hx5).trans hW).cell (lt_of_cell hcy) (fun h => h)).trans hcy) hb2 rfl
            have hv1' := fun q => hv1 (w5.drewN q) ((Chg.refl w5).drewN q)
            have hv2' := fun q => hv2 (w5.drewN q) ((Chg.refl w5).drewN q)
            have hq : ((strOf (s :: eOct y)).toList == (strOf (s :: eOct b)).toList) = false := beq_eq_false_iff_ne.2 (toList_ne (fun h => HYB.out (eOct_inj HE.out.2.2.2 HE.out.2.2.1 (List.cons.inj (strOf_inj hb1 hb2 h)).2)))
            obtain ⟨S, hS⟩ : ∃ S, strOf (s :: eOct y) = S := ⟨_, rfl⟩
            obtain ⟨T, hT⟩ : ∃ T, strOf (s :: eOct b) = T := ⟨_, rfl⟩
            rw [hS] at hv1' hq
            rw [hT] at hv2' hq
            have kp := HK.out.1.chg hx5 (fun h => h)
            have HXX := Lib.hid (HK.out.2.2.trans hx5)
            have h9c : (9 : Int) ≤ cap := by omega
            simp only [show (s :: eOct y).length = 9 from rfl]
            clear hx5 hown5 hnews hS hT hv1 hv2 j0 i0 j1 i1 j2 i2 j3 i3 j4 i4 hb1 hb2
            go_wp2_with fail
            go_quiet (fail)
            have kp4 := kp.drewN nq
            have HX4 := Lib.hid (HXX.out.drewN nq)
            clear hv1' hv2' kp
            generalize w5.drewN nq = w6 at *
            obtain ⟨g0, f0, g1, f1, g2, f2, g3, f3, g4, f4⟩ := blk5_base kp4
            obtain ⟨y3, z3, y4, z4, q0, q1, q2, q3, q4⟩ := blk5_facts kp4 (.int .i64 0) (.bool false) (.slice none 0 0) (.int .i64 0) (.float .f64 0)
            go_wp2_with fail
            (try simp only [Exit.inBlock, Exit.then])
            refine bodyPost_ret (by simp [results, Try.results14, go_sem, q0, q1, q2, q3, q4]; try rfl) rfl ?_
            exact HU0.out _ _ rfl (box_chg HX4.out (set_chg (j := 4) (c := .float .f64 0) (set_chg (j := 3) (c := .int .i64 0) (set_chg (j := 2) (c := .slice none 0 0) (set_chg (j := 1) (c := .bool false) (set_chg (j := 0) (c := .int .i64 0) (Chg.refl _)))))))
        · have HU0 := Lib.hid (unv_bad (w := w) (bs := s :: r) (HE.out.1.trans (by rw [if_neg hM0]; split <;> rfl)))
          have HM0 := Lib.hid hM0
          have eM : (M == 0) = false := by simpa using hM0
          have eM' : (M != 0) = true := by simpa using hM0
          clear hM0
          go_wp2_with (go_at_call 33; refine (HOF.out _).mono ?_; rintro e w' ⟨rfl, rfl⟩)
          refine HV.out.mono ?_
          rintro e w3 ⟨hx3, hw⟩
          rcases hw with ⟨h0, -⟩ | ⟨-, rfl⟩
          · exact absurd h0 HM0.out
          have kp := HK.out.1.chg hx3 (fun h => h)
          have HXX := Lib.hid (HK.out.2.2.trans hx3)
          clear hx3
          go_wp2_with fail
          go_quiet (fail)
          have kp4 := kp.drewN nq
          have HX4 := Lib.hid (HXX.out.drewN nq)
          clear kp
          generalize w3.drewN nq = w4 at *
          obtain ⟨g0, f0, g1, f1, g2, f2, g3, f3, g4, f4⟩ := blk5_base kp4
          obtain ⟨y3, z3, y4, z4, q0, q1, q2, q3, q4⟩ := blk5_facts kp4 (.int .i64 0) (.bool false) (.slice none 0 0) (.int .i64 0) (.float .f64 0)
          go_wp2_with fail
          (try simp only [Exit.inBlock, Exit.then])
          refine bodyPost_ret (by simp [results, Try.results14, go_sem, q0, q1, q2, q3, q4]; try rfl) rfl ?_
          exact HU0.out _ _ rfl (box_chg HX4.out (set_chg (j := 4) (c := .float .f64 0) (set_chg (j := 3) (c := .int .i64 0) (set_chg (j := 2) (c := .slice none 0 0) (set_chg (j := 1) (c := .bool false) (set_chg (j := 0) (c := .int .i64 0) (Chg.refl _)))))))
theorem runv_any {w : World} {a : Option Addr} {cap : Nat} {bs : List Nat} (h : Cells w a bs.length cap (byteCells bs)) (hb : ∀ b ∈ bs, b < 256) :
    Calls Try.prog 14 #[.slice a bs.length cap] w (Unv w bs) := by
  match bs, h, hb with
  | [], h, hb => exact runv_short rfl h.1 (by simp)
  | [s], h, hb =>
    refine runv_short ?_ h.1 (by simp)
    by_cases h13 : s = 1 ∨ s = 3
    · rw [dVal_nat h13]; rfl
    · by_cases h24 : s = 2 ∨ s = 4
      · rw [dVal_lev h24]; rfl
      · rw [dVal_flo h13 h24]; rfl
  | s :: c :: t, h, hb =>
    obtain ⟨x, rfl, -⟩ := byte_cell h (m := 0) (by simp)
    by_cases h13 : s = 1 ∨ s = 3
    · exact runv_nat (r := c :: t) h hb rfl (by simp) h13
    · by_cases h24 : s = 2 ∨ s = 4
      · exact runv_lev h hb (by simp) h24
      · exact runv_flo (r := c :: t) h hb rfl (by simp) h13 h24
end Go.Proofs.Ytnamcghcgcknpaa
