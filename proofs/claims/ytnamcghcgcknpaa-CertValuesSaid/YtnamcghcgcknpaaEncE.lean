/-
  Writing a value with a number (chapter 24); any value.
-/
import Derived.Test.YtnamcghcgcknpaaEncD
namespace Go.Proofs.Ytnamcghcgcknpaa
open Go.RowKit
set_option linter.unusedVariables false

set_option maxRecDepth 100000 in
set_option maxHeartbeats 1600000 in
theorem encV_nat {w : World} {s : Int} {inf : Bool} {l : List Nat} {lev : Int} {x : Nat} {a : Option Addr} {cap : Nat} (h : Cells w a l.length cap (wordCells l)) (hx : x < 18446744073709551616) (hm : mayV ⟨s, inf, l, lev, x⟩ = 0) (h13 : s = 1 ∨ s = 3) (h32 : ∀ d ∈ l, d < 4294967296) :
    Calls Try.prog 11 #[.agg #[.int .i64 s, .bool inf, .slice a l.length cap, .int .i64 lev, .float .f64 x]] w (Wrote w (if inf = false ∧ 64 < l.length then 5 else 0) (s.toNat :: eNat (inf, l))) := by
  obtain ⟨i0, hi0, hii⟩ := Option.map_eq_some_iff.1 info_u8
  obtain ⟨hz0, hz1, hz2⟩ : i0.zero = some (.int .u8 0) ∧ i0.size = 1 ∧ i0.bytes = 1 := by
    have := hii; simp at this; exact this
  have HI := Lib.hid (And.intro hi0 (And.intro hz0 (And.intro hz1 hz2)))
  clear hi0 hii hz0 hz1 hz2
  obtain ⟨hs1, hs6, hmn, -⟩ := mayV_zero hm
  have hmn := hmn h13
  have hb : Ext w (w.alloc (Obj.cells #[.int .i64 s, .bool inf, .slice a l.length cap, .int .i64 lev, .float .f64 x] 31)) := (Chg.refl w).alloc _
  have HM0 := may_any (v := ⟨s, inf, l, lev, x⟩) (h.chg (S := fun _ => False) hb (fun _ _ h => h)) hx
  rw [hm] at HM0
  unfold valV at HM0
  simp only at HM0
  have HM := Lib.hid HM0
  have HX := Lib.hid hb
  have hcap := h.1
  have HK := Lib.hid (Blk.new w #[.int .i64 s, .bool inf, .slice a l.length cap, .int .i64 lev, .float .f64 x] 31)
  have HCL := Lib.hid h
  have H32 := Lib.hid h32
  have hcn : codeN inf l = if inf = false ∧ 64 < l.length then 5 else 0 := by rw [codeN, hmn]; rfl
  have HBY := Lib.hid (fun w (h : Cells w a l.length cap (wordCells l)) => natBytes_any inf h H32.out)
  rw [hcn] at HBY
  obtain ⟨L, hL⟩ : ∃ L, eNat (inf, l) = L := ⟨_, rfl⟩
  have hLl : 0 < L.length := by rw [← hL]; unfold eNat; split <;> simp
  have hL64 : (if inf = false ∧ 64 < l.length then (5 : Int) else 0) = 0 → L.length ≤ 257 := fun h => by
    rw [← hL]
    cases inf with
    | true => simp [eNat]
    | false =>
      refine eNat_le _ ?_
      by_cases h64 : 64 < l.length
      · rw [if_pos ⟨rfl, h64⟩] at h; exact absurd h (by decide)
      · exact Nat.not_lt.1 h64
  rw [hL] at HBY ⊢
  obtain ⟨C, hC⟩ : ∃ C, (if inf = false ∧ 64 < l.length then (5 : Int) else 0) = C := ⟨_, rfl⟩
  rw [hC] at HBY hL64 ⊢
  clear h hb HM0 hm h32 hcn hmn hL hC
  obtain ⟨n, hn⟩ : ∃ n, l.length = n := ⟨_, rfl⟩
  rw [hn] at HM HX HK hcap HBY HCL ⊢
  clear hn
  obtain ⟨t, ht⟩ : ∃ t : Nat, s.toNat = t := ⟨_, rfl⟩
  obtain rfl : s = (t : Int) := by omega
  have hmod : (t : Int) % 256 = t := by omega
  have hsl : (((t : Int) == 1) = true) ∨ (((t : Int) == 1) = false ∧ ((t : Int) == 3) = true) := by
    rcases h13 with h | h
    · left; simp; omega
    · right; constructor <;> simp <;> omega
  simp only [Int.toNat_natCast]
  clear ht h13 hx
  go_enter Try.func11, Try.ntmps11
  go_wp2_with fail
  refine HM.out.mono ?_
  rintro e w2 ⟨rfl, hx⟩
  have kb := HK.out.chg hx (fun h => h)
  obtain ⟨g0, f0, g1, f1, g2, f2, g3, f3, g4, f4⟩ := blk5_base kb
  have kx := fun o => ((kb.chg (S := fun _ => False) ((Chg.refl w2).alloc o) (fun h => h)).cell 0 _ rfl)
  have ky := fun o => ((kb.chg (S := fun _ => False) ((Chg.refl w2).alloc o) (fun h => h)).cell 1 _ rfl)
  have kz := fun o => ((kb.chg (S := fun _ => False) ((Chg.refl w2).alloc o) (fun h => h)).cell 2 _ rfl)
  have HE := Lib.hid (HX.out.trans hx)
  have HO : Hid ((w2.alloc (.cells #[.int .u8 (t : Int)] 5)).ownsRow w.heap.size 5 1 (.slice (some ⟨w2.heap.size, 0, none⟩) 1 1) 1 [.int .u8 (t : Int)]) := Lib.hid (own_new (t : Int) HE.out.size)
  have hsz := HE.out.size
  have HB2 := Lib.hid (HBY.out (w2.alloc (.cells #[.int .u8 (t : Int)] 5)) (HCL.out.chg (S := fun _ => False) (HE.out.alloc _) (fun _ _ h => h)))
  clear kb hx
  rcases hsl with hs2 | ⟨hs2, hs4⟩
  all_goals
    go_wp2_with fail
    refine HB2.out.mono ?_
    rintro e w4 ⟨hx4, hw⟩
    rcases hw with ⟨h0, v, rfl, hown⟩ | ⟨h0, rfl⟩
    · obtain ⟨g, c2, rfl, hnews⟩ := own_form hown hLl
      have hO4 := own_chg HO.out hx4 (fun _ _ h => h)
      have HN := Lib.hid (And.intro hO4 hnews)
      have HEX := Lib.hid (Chg.trans (HE.out.alloc _) hx4)
      have hsz4 := HEX.out.size
      have hL7 := hL64 h0
      subst h0
      clear hx4 hown hnews hO4 HB2 HCL HBY
      go_wp2_with (at_builtin; refine wpList_append_st _ rfl (.tmp 33) (.tmp 34) 22 rfl w.heap.size 5 i0 (.int .u8 0) 1 1 Try.underlying22 HI.out.1 HI.out.2.1 HI.out.2.2.1 HI.out.2.2.2 rfl (by decide) (.slice (some ⟨w2.heap.size, 0, none⟩) 1 1) 1 _ rfl (by exact HN.out.1) ⟨g, 0, none⟩ L.length c2 (byteCells L) rfl (by rw [bcells_length, Nat.mul_one]) (by exact HN.out.2) (bcells_one L) (by unfold maxLen; omega) (by omega) (by omega) ?_; intro v' w' u1 u2 u3; have HF := Lib.hid (And.intro u1 u2); clear u1 u2 u3)
      go_returns
      have h1 := HF.out.1
      rw [show [Value.int .u8 (t : Int)] ++ byteCells L = byteCells (t :: L) from rfl, show 1 + L.length = (t :: L).length by simp; omega] at h1
      exact ⟨ext_grow0 HEX.out HN.out.1 HF.out.2, .inl ⟨rfl, _, rfl, h1⟩⟩
    · have hC0 : (C == 0) = false := by simpa using h0
      have HEX := Lib.hid (Chg.trans (HE.out.alloc _) hx4)
      have HC0 := Lib.hid h0
      clear hx4 HB2 HCL HBY h0
      go_wp2_with fail
      go_returns
      exact ⟨HEX.out, .inr ⟨HC0.out, rfl⟩⟩
theorem encV_any {w : World} {v : Val} {a : Option Addr} {cap : Nat} (h : Cells w a v.w.length cap (wordCells v.w)) (hx : v.x < 18446744073709551616) (h32 : ∀ d ∈ v.w, d < 4294967296) :
    Calls Try.prog 11 #[valV v a cap] w (Wrote w (codeV v) (eVal v)) := by
  by_cases hm : mayV v = 0
  · have hc : codeV v = if (v.sem = 1 ∨ v.sem = 3) ∧ v.inf = false ∧ 64 < v.w.length then 5 else 0 := by rw [codeV, if_pos hm]
    rw [hc, eVal]
    obtain ⟨s, inf, l, lev, x⟩ := v
    unfold valV
    simp only at h hx h32 ⊢
    by_cases h13 : s = 1 ∨ s = 3
    · have := encV_nat h hx hm h13 h32
      simp only [h13, true_and, if_true]
      exact this
    · by_cases h24 : s = 2 ∨ s = 4
      · simp only [h13, h24, false_and, if_false, if_true]
        exact encV_lev h hx hm h24
      · simp only [h13, h24, false_and, if_false]
        exact encV_flo h hx hm h13 h24
  · exact encV_bad h hx hm
end Go.Proofs.Ytnamcghcgcknpaa
