/-
  The law CertValues (chapter 24): its walk.
-/
import Derived.Test.YtnamcghcgcknpaaValJ
import Derived.Test.YtnamcghcgcknpaaCertR
namespace Go.Proofs.Ytnamcghcgcknpaa
open Go.RowKit
set_option linter.unusedVariables false
set_option linter.unusedSimpArgs false

theorem vWords_byte (l : List Nat) : ∀ b ∈ eWords l, b < 256 := by
  induction l with
  | nil => intro b hb; simp [eWords] at hb
  | cons n l ih =>
    intro b hb
    rcases List.mem_append.1 hb with h | h
    · simp only [eWord, List.mem_cons, List.not_mem_nil, or_false] at h
      omega
    · exact ih b h
theorem vVal_byte {v : Val} (h : codeV v = 0) : ∀ b ∈ eVal v, b < 256 := by
  obtain ⟨hm, h64⟩ := code_zero h
  obtain ⟨h1, h6, hn, hl, hf⟩ := may_parts hm
  intro b hb
  unfold eVal at hb
  rcases List.mem_cons.1 hb with h | h
  · omega
  · by_cases h13 : v.sem = 1 ∨ v.sem = 3
    · rw [if_pos h13] at h
      unfold eNat at h
      split at h
      · simp only [List.mem_singleton] at h; omega
      · rename_i hinf
        rcases List.mem_cons.1 h with h | h
        · have := (h64 h13).resolve_left hinf
          simp only at h
          omega
        · exact vWords_byte _ b h
    · rw [if_neg h13] at h
      by_cases h24 : v.sem = 2 ∨ v.sem = 4
      · rw [if_pos h24] at h
        have := hl h24
        simp only [List.mem_singleton] at h
        omega
      · rw [if_neg h24] at h
        simp only [eOct, List.mem_cons, List.not_mem_nil, or_false] at h
        omega
theorem code_parts {c : Crt} (h : codeC c = 0) : mayC c = true ∧ codeV c.claim = 0 := by
  cases hm : mayC c with
  | true => rw [codeC, hm] at h; exact ⟨rfl, h⟩
  | false => rw [codeC, hm] at h; simp at h
/-- What both readings hand back. -/
def unvV (bs : List Nat) : Val × Int × Int := match dVal bs with
  | none => (⟨0, false, [], 0, 0⟩, 0, 13)
  | some (v, t) => (v, ((bs.length - t.length : Nat) : Int), 0)
theorem unv_forms {w w' : World} {bs : List Nat} {e : Ending} (h : Unv w bs e w') : ∃ a cap, e = .returned (.tuple #[valV (unvV bs).1 a cap, .int .i64 (unvV bs).2.1, .int .i64 (unvV bs).2.2]) ∧ Ext w w' ∧ Cells w' a (unvV bs).1.w.length cap (wordCells (unvV bs).1.w) := by
  unfold Unv at h
  unfold unvV
  obtain ⟨hx, h⟩ := h
  split at h
  · rename_i hd
    rw [hd]
    exact ⟨none, 0, h, hx, Nat.le_refl _, by unfold maxLen; omega, fun j u hu => by simp [wordCells] at hu⟩
  · rename_i v t hd
    rw [hd]
    obtain ⟨val, he, a, cap, rfl, ho, -⟩ := h
    exact ⟨a, cap, he, hx, Cells.of_own ho⟩
theorem conv_none (w : World) : (convert 22 9 (.slice none 0 0)).run Try.prog w = .ok (.string (strOf [])) w := by
  kernel_rfl
theorem wrote_forms {w w' : World} {C : Int} {L : List Nat} {e : Ending} (h : Wrote w C L e w') (hb : C = 0 → ∀ b ∈ L, b < 256) (hL : 0 < L.length) : ∃ a n cap, e = .returned (.tuple #[.slice a n cap, .int .i64 C]) ∧ Ext w w' ∧ ∀ W, Ext w' W → (convert 22 9 (.slice a n cap)).run Try.prog W = .ok (.string (strOf (if C = 0 then L else []))) W := by
  obtain ⟨hx, h⟩ := h
  rcases h with ⟨h0, v, he, ho⟩ | ⟨h0, he⟩
  · obtain ⟨g, cap, rfl, hn⟩ := own_form ho hL
    refine ⟨some ⟨g, 0, none⟩, L.length, cap, by rw [h0]; exact he, hx, fun W hW => ?_⟩
    rw [if_pos h0]
    exact conv_str (fun j u hu => (hW.cell (lt_of_cell (hn j u hu)) (fun h => h)).trans (hn j u hu)) (hb h0) rfl
  · refine ⟨none, 0, 0, he, hx, fun W hW => ?_⟩
    rw [if_neg h0]
    exact conv_none W
set_option maxRecDepth 100000 in
set_option maxHeartbeats 4000000 in
theorem values_walk {w : World} {v : Val} {a a2 : Option Addr} {cap cap2 m : Nat} {bs : List Nat} (h : Cells w a v.w.length cap (wordCells v.w)) (h32 : ∀ d ∈ v.w, d < 4294967296) (hx : v.x < 18446744073709551616) (hb : Cells w a2 m cap2 (byteCells bs)) (hbb : ∀ b ∈ bs, b < 256) (hm : bs.length = m) :
    Calls Try.prog 4 #[valV v a cap, .slice a2 m cap2] w fun e w' => e = .returned (.bool true) ∧ Below w.heap.size w w' := by
  have hcap := h.1
  have hmax := h.2.1
  have hcap2 := hb.1
  have hmax2 := hb.2.1
  unfold maxLen at hmax hmax2
  have HA := Lib.hid awake_any
  have hsf := run_store_f
  have hw1 : Ext w (w.alloc (Obj.cells #[.int .i64 v.sem, .bool v.inf, .slice a v.w.length cap, .int .i64 v.level, .float .f64 v.x] 31)) := (Chg.refl w).alloc _
  have HK := Lib.hid (Blk.new w #[.int .i64 v.sem, .bool v.inf, .slice a v.w.length cap, .int .i64 v.level, .float .f64 v.x] 31)
  have hL : 0 < (eVal v).length := by simp [eVal]
  have HV1 := Lib.hid (fun W (k : Ext w W) => encV_any (w := W) (v := v) (a := a) (cap := cap) (h.chg k (fun _ _ h => h)) hx h32)
  have HV2 := Lib.hid (fun W (k : Ext w W) => rncV_any (w := W) (v := v) (a := a) (cap := cap) (h.chg k (fun _ _ h => h)) hx h32)
  have HW0 := Lib.hid (fun (w w' : World) (e : Ending) (h : Wrote w (codeV v) (eVal v) e w') => wrote_forms h (fun h0 => vVal_byte h0) hL)
  have HX1 := Lib.hid hw1
  have HU1 := Lib.hid (fun W (k : Ext w W) (hl : m < 4611686018427387904) => unvalue_any (w := W) (a := a2) (cap := cap2) (bs := bs) (by rw [hm]; exact hb.chg k (fun _ _ h => h)) hbb (by omega))
  have HU2 := Lib.hid (fun W (k : Ext w W) => runv_any (w := W) (a := a2) (cap := cap2) (bs := bs) (by rw [hm]; exact hb.chg k (fun _ _ h => h)) hbb)
  rw [hm] at HU1 HU2
  unfold valV at *
  clear hw1 h h32 hx hb hbb hL hm
  obtain ⟨n, hn⟩ : ∃ n, v.w.length = n := ⟨_, rfl⟩
  rw [hn] at HK HX1 HV1 HV2 hcap ⊢
  clear hn
  by_cases hn1 : 100 < n
  · have e1 : decide ((100 : Int) < n) = true := by simp; omega
    go_enter Try.func4, Try.ntmps4
    go_wp2_with fail
    refine (HA.out _).mono ?_
    rintro e w' ⟨rfl, hx⟩
    go_wp2_with fail
    go_ret
    exact ⟨rfl, Ext.below (HX1.out.trans hx)⟩
  · have e1 : decide ((100 : Int) < n) = false := by simp; omega
    by_cases hm1 : 2000 < m
    · have e2 : decide ((2000 : Int) < m) = true := by simp; omega
      go_enter Try.func4, Try.ntmps4
      go_wp2_with fail
      refine (HA.out _).mono ?_
      rintro e w' ⟨rfl, hx⟩
      go_wp2_with fail
      go_ret
      exact ⟨rfl, Ext.below (HX1.out.trans hx)⟩
    · have e2 : decide ((2000 : Int) < m) = false := by simp; omega
      have hml : m < 4611686018427387904 := by omega
      go_enter Try.func4, Try.ntmps4
      go_wp2_with fail
      refine (HV1.out _ HX1.out).mono ?_
      rintro e w2 hw
      obtain ⟨b1, n1, c1, rfl, hx2, hcv1⟩ := HW0.out _ _ _ hw
      have kb := HK.out.chg hx2 (fun h => h)
      obtain ⟨g0, f0, g1, f1, g2, f2, g3, f3, g4, f4⟩ := blk5_base kb
      have hX2 := HX1.out.trans hx2
      clear hw
      go_wp2_with fail
      refine (HV2.out _ hX2).mono ?_
      rintro e w3 hw
      obtain ⟨b2, n2, c2, rfl, hx3, hcv2⟩ := HW0.out _ _ _ hw
      have hX3 := hX2.trans hx3
      clear hw g0 f0 g1 f1 g2 f2 g3 f3 g4 f4 kb
      go_wp2_with fail
      refine (HU1.out _ hX3 hml).mono ?_
      rintro e w4 hw
      obtain ⟨b3, c3, rfl, hx4, hc3⟩ := unv_forms hw
      have hX4 := hX3.trans hx4
      clear hw
      obtain ⟨⟨u, m1, m2⟩, hU⟩ : ∃ U, unvV bs = U := ⟨_, rfl⟩
      have HUU := Lib.hid hU
      rw [hU] at hc3 ⊢
      simp only at hc3 ⊢
      unfold valV
      clear hU
      go_wp2_with fail
      refine (HU2.out _ (hX4.alloc _)).mono ?_
      rintro e w5 hw
      obtain ⟨b4, c4, rfl, hx5, hc4⟩ := unv_forms hw
      have hX5 := (hX4.alloc _).trans hx5
      clear hw
      rw [HUU.out] at hc4 ⊢
      simp only at hc4 ⊢
      unfold valV
      have kp := (Blk.new w4 #[.int .i64 u.sem, .bool u.inf, .slice b3 u.w.length c3, .int .i64 u.level, .float .f64 u.x] 31).chg (hx5.alloc (Obj.cells #[.int .i64 u.sem, .bool u.inf, .slice b4 u.w.length c4, .int .i64 u.level, .float .f64 u.x] 31)) (fun h => h)
      have hcp := hc3.chg (S := fun _ => False) (((Chg.refl w4).alloc (Obj.cells #[.int .i64 u.sem, .bool u.inf, .slice b3 u.w.length c3, .int .i64 u.level, .float .f64 u.x] 31)).trans (hx5.alloc (Obj.cells #[.int .i64 u.sem, .bool u.inf, .slice b4 u.w.length c4, .int .i64 u.level, .float .f64 u.x] 31))) (fun _ _ h => h)
      have hcq := hc4.chg (S := fun _ => False) ((Chg.refl w5).alloc (Obj.cells #[.int .i64 u.sem, .bool u.inf, .slice b4 u.w.length c4, .int .i64 u.level, .float .f64 u.x] 31)) (fun _ _ h => h)
      have HF := Lib.hid (fields_same (v := u) hcp hcq)
      unfold valV at HF
      have hv2 := hcv2 _ ((hx4.alloc (Obj.cells #[.int .i64 u.sem, .bool u.inf, .slice b3 u.w.length c3, .int .i64 u.level, .float .f64 u.x] 31)).trans (hx5.alloc (Obj.cells #[.int .i64 u.sem, .bool u.inf, .slice b4 u.w.length c4, .int .i64 u.level, .float .f64 u.x] 31)))
      have hv1 := hcv1 _ (hx3.trans ((hx4.alloc (Obj.cells #[.int .i64 u.sem, .bool u.inf, .slice b3 u.w.length c3, .int .i64 u.level, .float .f64 u.x] 31)).trans (hx5.alloc (Obj.cells #[.int .i64 u.sem, .bool u.inf, .slice b4 u.w.length c4, .int .i64 u.level, .float .f64 u.x] 31))))
      generalize strOf (if codeV v = 0 then eVal v else []) = S at hv1 hv2
      obtain ⟨g0, f0, g1, f1, g2, f2, g3, f3, g4, f4⟩ := blk5_base kp
      have hq := str_self S
      have hXX := Lib.hid (hX5.alloc (Obj.cells #[.int .i64 u.sem, .bool u.inf, .slice b4 u.w.length c4, .int .i64 u.level, .float .f64 u.x] 31))
      have q1 : (codeV v == codeV v) = true := by simp
      have q2 : (m1 == m1) = true := by simp
      have q3 : (m2 == m2) = true := by simp
      clear hc3 hc4 hcp hcq hcv1 hcv2 kp hX5 hX4 hX3 hX2 hx2 hx3 hx4 hx5
      go_wp2_with fail
      refine HF.out.mono ?_
      rintro e w6 ⟨rfl, hx6⟩
      go_wp2_with fail
      refine (HA.out _).mono ?_
      rintro e w7 ⟨rfl, hx7⟩
      go_wp2_with fail
      go_ret
      exact ⟨rfl, Ext.below ((hXX.out.trans hx6).trans hx7)⟩
end Go.Proofs.Ytnamcghcgcknpaa
