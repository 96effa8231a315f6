/-
  The document's own answer on a value as bytes (chapter 24).
-/
import Derived.Test.YtnamcghcgcknpaaValD
namespace Go.Proofs.Ytnamcghcgcknpaa
open Go.RowKit
set_option linter.unusedVariables false

set_option maxRecDepth 100000 in
set_option maxHeartbeats 400000 in
theorem rncV_bad {w : World} {v : Val} {a : Option Addr} {cap : Nat} (h : Cells w a v.w.length cap (wordCells v.w)) (hx : v.x < 18446744073709551616) (hm : mayV v ≠ 0) :
    Calls Try.prog 12 #[valV v a cap] w (Wrote w (codeV v) (eVal v)) := by
  have hc : codeV v = mayV v := by unfold codeV; rw [if_neg hm]
  rw [hc]
  obtain ⟨L, hL⟩ : ∃ L, eVal v = L := ⟨_, rfl⟩
  rw [hL]
  clear hL hc
  obtain ⟨s, inf, l, lev, x⟩ := v
  unfold valV
  simp only at h hx ⊢
  have hb : Ext w (w.alloc (Obj.cells #[.int .i64 s, .bool inf, .slice a l.length cap, .int .i64 lev, .float .f64 x] 31)) := (Chg.refl w).alloc _
  have HM0 := rmay_any (v := ⟨s, inf, l, lev, x⟩) (h.chg (S := fun _ => False) hb (fun _ _ h => h)) hx
  obtain ⟨mv, hmv⟩ : ∃ mv, mayV ⟨s, inf, l, lev, x⟩ = mv := ⟨_, rfl⟩
  rw [hmv] at HM0 hm ⊢
  unfold valV at HM0
  simp only at HM0
  have HM := Lib.hid HM0
  have HX := Lib.hid hb
  have hmv' : (mv == 0) = false := by simpa using hm
  have HNZ := Lib.hid hm
  clear h hb HM0 hmv hm
  generalize l.length = n at HM HX ⊢
  go_enter Try.func12, Try.ntmps12
  go_wp2_with (go_at_call 27; refine HM.out.mono ?_; rintro e w' ⟨rfl, hx⟩)
  go_returns
  exact ⟨HX.out.trans hx, .inr ⟨HNZ.out, rfl⟩⟩
set_option maxRecDepth 100000 in
set_option maxHeartbeats 800000 in
theorem rncV_flo {w : World} {s : Int} {inf : Bool} {l : List Nat} {lev : Int} {x : Nat} {a : Option Addr} {cap : Nat} (h : Cells w a l.length cap (wordCells l)) (hx : x < 18446744073709551616) (hm : mayV ⟨s, inf, l, lev, x⟩ = 0) (h13 : ¬ (s = 1 ∨ s = 3)) (h24 : ¬ (s = 2 ∨ s = 4)) :
    Calls Try.prog 12 #[.agg #[.int .i64 s, .bool inf, .slice a l.length cap, .int .i64 lev, .float .f64 x]] w (Wrote w 0 (s.toNat :: eOct (fb x))) := by
  obtain ⟨i0, hi0, hii⟩ := Option.map_eq_some_iff.1 info_u8
  obtain ⟨hz0, hz1, hz2⟩ : i0.zero = some (.int .u8 0) ∧ i0.size = 1 ∧ i0.bytes = 1 := by
    have := hii; simp at this; exact this
  have HI := Lib.hid (And.intro hi0 (And.intro hz0 (And.intro hz1 hz2)))
  clear hi0 hii hz0 hz1 hz2
  obtain ⟨hs1, hs6, -, -⟩ := mayV_zero hm
  have hb : Ext w (w.alloc (Obj.cells #[.int .i64 s, .bool inf, .slice a l.length cap, .int .i64 lev, .float .f64 x] 31)) := (Chg.refl w).alloc _
  have HM0 := rmay_any (v := ⟨s, inf, l, lev, x⟩) (h.chg (S := fun _ => False) hb (fun _ _ h => h)) hx
  rw [hm] at HM0
  unfold valV at HM0
  simp only at HM0
  have HM := Lib.hid HM0
  have HX := Lib.hid hb
  have hcap := h.1
  have HK := Lib.hid (Blk.new w #[.int .i64 s, .bool inf, .slice a l.length cap, .int .i64 lev, .float .f64 x] 31)
  clear h hb HM0 hm
  generalize l.length = n at HM HX HK hcap ⊢
  have hfb := fb_lt x hx
  have HBI := Lib.hid (fun w => rbits_any x w)
  obtain ⟨y, hy⟩ : ∃ y, fb x = y := ⟨_, rfl⟩
  rw [hy] at HBI hfb ⊢
  clear hy hx
  obtain ⟨t, ht⟩ : ∃ t : Nat, s.toNat = t := ⟨_, rfl⟩
  obtain rfl : s = (t : Int) := by omega
  have h1 : ((t : Int) == 1) = false := by simp; omega
  have h2 : ((t : Int) == 2) = false := by simp; omega
  have h3 : ((t : Int) == 3) = false := by simp; omega
  have h4 : ((t : Int) == 4) = false := by simp; omega
  have hmod : (t : Int) % 256 = t := by omega
  simp only [Int.toNat_natCast]
  clear ht h13 h24
  go_enter Try.func12, Try.ntmps12
  go_wp2_with fail
  refine HM.out.mono ?_
  rintro e w2 ⟨rfl, hx⟩
  have kb := HK.out.chg hx (fun h => h)
  obtain ⟨g0, f0, g1, f1, g2, f2, g3, f3, g4, f4⟩ := blk5_base kb
  have kx := fun o => ((kb.chg (S := fun _ => False) ((Chg.refl w2).alloc o) (fun h => h)).cell 0 _ rfl)
  have ky := fun o => ((kb.chg (S := fun _ => False) ((Chg.refl w2).alloc o) (fun h => h)).cell 4 _ rfl)
  have HE := Lib.hid (HX.out.trans hx)
  clear kb hx
  go_wp2_with (go_at_call 29; refine (HBI.out _).mono ?_; rintro e w' ⟨rfl, rfl⟩)
  go_loopg [5, 9] 8 (fun g l5 l9 wr => ∃ (i : Nat) (v : Value), v = l5 ∧ i ≤ 8 ∧ Ext w wr ∧ wr.ownsRow w.heap.size 5 1 v (1 + i) (byteCells (t :: (eOct y).take i)) ∧ l9 = .int .i64 (56 - 8 * (i : Int)) ∧ g = 8 - i)
  case atStart => exact ⟨0, _, rfl, Nat.zero_le _, HE.out.alloc _, own_new _ HE.out.size, rfl, rfl⟩
  case round =>
    obtain ⟨i, v, rfl, hi, hex, hown, rfl, rfl⟩ := hrel
    have HE2 := Lib.hid hex
    have HO := Lib.hid hown
    have hsz := hex.size
    clear hex hown
    by_cases hin : i < 8
    · obtain ⟨d, hd⟩ : ∃ d, y / 2 ^ (8 * (7 - i)) % 256 = d := ⟨_, rfl⟩
      have hd' : (y : Int) / 2 ^ (8 * (7 - i)) % 256 = (d : Int) := by rw [← hd]; push_cast; rfl
      have HD := Lib.hid hd
      obtain ⟨z, hz⟩ : ∃ z : Nat, 56 - 8 * i = z := ⟨_, rfl⟩
      have hz' : (56 - 8 * (i : Int)) = (z : Int) := by omega
      have hz8 : 8 * (7 - i) = z := by omega
      rw [hz8] at hd'
      rw [hz']
      have HZ := Lib.hid (And.intro hz hz')
      have HD' := Lib.hid hd'
      have hzlt : (z : Int) ≤ 56 := by omega
      have hz0 : (0 : Int) ≤ z := by omega
      clear hd hd' hz hz' hz8
      go_wp2_with (at_builtin; rw [HD'.out]; refine wpList_append_st _ rfl (.tmp 52) (.tmp 57) 22 rfl w.heap.size 5 i0 (.int .u8 0) 1 1 Try.underlying22 HI.out.1 HI.out.2.1 HI.out.2.2.1 HI.out.2.2.2 rfl (by decide) v (1 + i) _ rfl (by exact (HO.out.alloc _)) ⟨wr.heap.size, 0, none⟩ 1 1 [.int .u8 (d : Int)] rfl rfl (by exact news8 _ _ _) (by simp [Value.oneCell']) (by unfold maxLen; omega) (by omega) (by simp; omega) ?_; intro v' w' u1 u2 u3; have HF := Lib.hid (And.intro u1 u2); clear u1 u2 u3)
      go_roundg (8 - (i + 1))
      case measure => omega
      case rel =>
        have h1 := HF.out.1
        have hb : byteCells (t :: (eOct y).take i) ++ [Value.int .u8 (d : Int)] = byteCells (t :: (eOct y).take (i + 1)) := by
          rw [take_snoc (eOct_get y i hin), HD.out, ← List.cons_append, bcells_app]
          rfl
        rw [hb] at h1
        exact ⟨i + 1, v', rfl, by omega, ext_grow HE2.out HO.out HF.out.2, h1, congrArg (Value.int .i64) (by have := HZ.out.2; omega), rfl⟩
    · obtain rfl : i = 8 := by omega
      go_wp2_with fail
      go_returns
      exact ⟨HE2.out, .inl ⟨rfl, _, rfl, HO.out⟩⟩
set_option maxRecDepth 100000 in
set_option maxHeartbeats 800000 in
theorem rncV_lev {w : World} {s : Int} {inf : Bool} {l : List Nat} {lev : Int} {x : Nat} {a : Option Addr} {cap : Nat} (h : Cells w a l.length cap (wordCells l)) (hx : x < 18446744073709551616) (hm : mayV ⟨s, inf, l, lev, x⟩ = 0) (h24 : s = 2 ∨ s = 4) :
    Calls Try.prog 12 #[.agg #[.int .i64 s, .bool inf, .slice a l.length cap, .int .i64 lev, .float .f64 x]] w (Wrote w 0 [s.toNat, lev.toNat]) := by
  obtain ⟨i0, hi0, hii⟩ := Option.map_eq_some_iff.1 info_u8
  obtain ⟨hz0, hz1, hz2⟩ : i0.zero = some (.int .u8 0) ∧ i0.size = 1 ∧ i0.bytes = 1 := by
    have := hii; simp at this; exact this
  have HI := Lib.hid (And.intro hi0 (And.intro hz0 (And.intro hz1 hz2)))
  clear hi0 hii hz0 hz1 hz2
  obtain ⟨hs1, hs6, -, hlev⟩ := mayV_zero hm
  obtain ⟨hl0, hl7⟩ := hlev h24
  have hb : Ext w (w.alloc (Obj.cells #[.int .i64 s, .bool inf, .slice a l.length cap, .int .i64 lev, .float .f64 x] 31)) := (Chg.refl w).alloc _
  have HM0 := rmay_any (v := ⟨s, inf, l, lev, x⟩) (h.chg (S := fun _ => False) hb (fun _ _ h => h)) hx
  rw [hm] at HM0
  unfold valV at HM0
  simp only at HM0
  have HM := Lib.hid HM0
  have HX := Lib.hid hb
  have hcap := h.1
  have HK := Lib.hid (Blk.new w #[.int .i64 s, .bool inf, .slice a l.length cap, .int .i64 lev, .float .f64 x] 31)
  clear h hb HM0 hm
  generalize l.length = n at HM HX HK hcap ⊢
  obtain ⟨t, ht⟩ : ∃ t : Nat, s.toNat = t := ⟨_, rfl⟩
  obtain ⟨u, hu⟩ : ∃ u : Nat, lev.toNat = u := ⟨_, rfl⟩
  obtain rfl : s = (t : Int) := by omega
  obtain rfl : lev = (u : Int) := by omega
  have h1 : ((t : Int) == 1) = false := by simp; omega
  have h3 : ((t : Int) == 3) = false := by simp; omega
  have hmod : (t : Int) % 256 = t := by omega
  have hmodu : (u : Int) % 256 = u := by omega
  have hsl : (((t : Int) == 2) = true) ∨ (((t : Int) == 2) = false ∧ ((t : Int) == 4) = true) := by
    rcases h24 with h | h
    · left; simp; omega
    · right; constructor <;> simp <;> omega
  simp only [Int.toNat_natCast]
  clear ht hu h24 hlev hx
  go_enter Try.func12, Try.ntmps12
  go_wp2_with fail
  refine HM.out.mono ?_
  rintro e w2 ⟨rfl, hx⟩
  have kb := HK.out.chg hx (fun h => h)
  obtain ⟨g0, f0, g1, f1, g2, f2, g3, f3, g4, f4⟩ := blk5_base kb
  have kx := fun o => ((kb.chg (S := fun _ => False) ((Chg.refl w2).alloc o) (fun h => h)).cell 0 _ rfl)
  have ky := fun o => ((kb.chg (S := fun _ => False) ((Chg.refl w2).alloc o) (fun h => h)).cell 3 _ rfl)
  have HE := Lib.hid (HX.out.trans hx)
  have HO : Hid ((w2.alloc (.cells #[.int .u8 (t : Int)] 5)).ownsRow w.heap.size 5 1 (.slice (some ⟨w2.heap.size, 0, none⟩) 1 1) 1 [.int .u8 (t : Int)]) := Lib.hid (own_new (t : Int) HE.out.size)
  have hsz := HE.out.size
  clear kb hx
  rcases hsl with hs2 | ⟨hs2, hs4⟩
  all_goals
    go_wp2_with (at_builtin; refine wpList_append_st _ rfl (.tmp 39) (.tmp 43) 22 rfl w.heap.size 5 i0 (.int .u8 0) 1 1 Try.underlying22 HI.out.1 HI.out.2.1 HI.out.2.2.1 HI.out.2.2.2 rfl (by decide) (.slice (some ⟨w2.heap.size, 0, none⟩) 1 1) 1 _ rfl (by exact (HO.out.alloc _)) ⟨w2.heap.size + 1, 0, none⟩ 1 1 [.int .u8 (u : Int)] rfl rfl (by intro j u hu; have := news8 (w2.alloc (.cells #[.int .u8 (t : Int)] 5)) _ 5 j u hu; rw [World.size_alloc] at this; exact this) (by simp [Value.oneCell']) (by unfold maxLen; omega) (by omega) (by simp only [World.size_alloc]; omega) ?_; intro v' w' u1 u2 u3; have HF := Lib.hid (And.intro u1 u2); clear u1 u2 u3)
    go_returns
    exact ⟨ext_grow (HE.out.alloc _) HO.out HF.out.2, .inl ⟨rfl, _, rfl, HF.out.1⟩⟩
set_option maxRecDepth 100000 in
set_option maxHeartbeats 1600000 in
theorem rncV_nat {w : World} {s : Int} {inf : Bool} {l : List Nat} {lev : Int} {x : Nat} {a : Option Addr} {cap : Nat} (h : Cells w a l.length cap (wordCells l)) (hx : x < 18446744073709551616) (hm : mayV ⟨s, inf, l, lev, x⟩ = 0) (h13 : s = 1 ∨ s = 3) (h32 : ∀ d ∈ l, d < 4294967296) :
    Calls Try.prog 12 #[.agg #[.int .i64 s, .bool inf, .slice a l.length cap, .int .i64 lev, .float .f64 x]] w (Wrote w (if inf = false ∧ 64 < l.length then 5 else 0) (s.toNat :: eNat (inf, l))) := by
  obtain ⟨i0, hi0, hii⟩ := Option.map_eq_some_iff.1 info_u8
  obtain ⟨hz0, hz1, hz2⟩ : i0.zero = some (.int .u8 0) ∧ i0.size = 1 ∧ i0.bytes = 1 := by
    have := hii; simp at this; exact this
  have HI := Lib.hid (And.intro hi0 (And.intro hz0 (And.intro hz1 hz2)))
  clear hi0 hii hz0 hz1 hz2
  obtain ⟨hs1, hs6, hmn, -⟩ := mayV_zero hm
  have hmn := hmn h13
  have hb : Ext w (w.alloc (Obj.cells #[.int .i64 s, .bool inf, .slice a l.length cap, .int .i64 lev, .float .f64 x] 31)) := (Chg.refl w).alloc _
  have HM0 := rmay_any (v := ⟨s, inf, l, lev, x⟩) (h.chg (S := fun _ => False) hb (fun _ _ h => h)) hx
  rw [hm] at HM0
  unfold valV at HM0
  simp only at HM0
  have HM := Lib.hid HM0
  have HX := Lib.hid hb
  have hcap := h.1
  have HK := Lib.hid (Blk.new w #[.int .i64 s, .bool inf, .slice a l.length cap, .int .i64 lev, .float .f64 x] 31)
  have HCL := Lib.hid h
  have H32 := Lib.hid h32
  have hcn : codeN inf l = if inf = false ∧ 64 < l.length then 5 else 0 := by rw [codeN, hmn]; rfl
  have HBY := Lib.hid (fun w (h : Cells w a l.length cap (wordCells l)) => rbytes_any inf h H32.out)
  rw [hcn] at HBY
  obtain ⟨L, hL⟩ : ∃ L, eNat (inf, l) = L := ⟨_, rfl⟩
  have hLl : 0 < L.length := by rw [← hL]; unfold eNat; split <;> simp
  have hL64 : (if inf = false ∧ 64 < l.length then (5 : Int) else 0) = 0 → L.length ≤ 257 := fun h => by
    rw [← hL]
    cases inf with
    | true => simp [eNat]
    | false =>
      refine eNat_le _ ?_
      by_cases h64 : 64 < l.length
      · rw [if_pos ⟨rfl, h64⟩] at h; exact absurd h (by decide)
      · exact Nat.not_lt.1 h64
  rw [hL] at HBY ⊢
  obtain ⟨C, hC⟩ : ∃ C, (if inf = false ∧ 64 < l.length then (5 : Int) else 0) = C := ⟨_, rfl⟩
  rw [hC] at HBY hL64 ⊢
  clear h hb HM0 hm h32 hcn hmn hL hC
  obtain ⟨n, hn⟩ : ∃ n, l.length = n := ⟨_, rfl⟩
  rw [hn] at HM HX HK hcap HBY HCL ⊢
  clear hn
  obtain ⟨t, ht⟩ : ∃ t : Nat, s.toNat = t := ⟨_, rfl⟩
  obtain rfl : s = (t : Int) := by omega
  have hmod : (t : Int) % 256 = t := by omega
  have hsl : (((t : Int) == 1) = true) ∨ (((t : Int) == 1) = false ∧ ((t : Int) == 3) = true) := by
    rcases h13 with h | h
    · left; simp; omega
    · right; constructor <;> simp <;> omega
  simp only [Int.toNat_natCast]
  clear ht h13 hx
  go_enter Try.func12, Try.ntmps12
  go_wp2_with fail
  refine HM.out.mono ?_
  rintro e w2 ⟨rfl, hx⟩
  have kb := HK.out.chg hx (fun h => h)
  obtain ⟨g0, f0, g1, f1, g2, f2, g3, f3, g4, f4⟩ := blk5_base kb
  have kx := fun o => ((kb.chg (S := fun _ => False) ((Chg.refl w2).alloc o) (fun h => h)).cell 0 _ rfl)
  have ky := fun o => ((kb.chg (S := fun _ => False) ((Chg.refl w2).alloc o) (fun h => h)).cell 1 _ rfl)
  have kz := fun o => ((kb.chg (S := fun _ => False) ((Chg.refl w2).alloc o) (fun h => h)).cell 2 _ rfl)
  have HE := Lib.hid (HX.out.trans hx)
  have HO : Hid ((w2.alloc (.cells #[.int .u8 (t : Int)] 5)).ownsRow w.heap.size 5 1 (.slice (some ⟨w2.heap.size, 0, none⟩) 1 1) 1 [.int .u8 (t : Int)]) := Lib.hid (own_new (t : Int) HE.out.size)
  have hsz := HE.out.size
  have HB2 := Lib.hid (HBY.out (w2.alloc (.cells #[.int .u8 (t : Int)] 5)) (HCL.out.chg (S := fun _ => False) (HE.out.alloc _) (fun _ _ h => h)))
  clear kb hx
  rcases hsl with hs2 | ⟨hs2, hs4⟩
  all_goals
    go_wp2_with fail
    refine HB2.out.mono ?_
    rintro e w4 ⟨hx4, hw⟩
    rcases hw with ⟨h0, v, rfl, hown⟩ | ⟨h0, rfl⟩
    · obtain ⟨g, c2, rfl, hnews⟩ := own_form hown hLl
      have hO4 := own_chg HO.out hx4 (fun _ _ h => h)
      have HN := Lib.hid (And.intro hO4 hnews)
      have HEX := Lib.hid (Chg.trans (HE.out.alloc _) hx4)
      have hsz4 := HEX.out.size
      have hL7 := hL64 h0
      subst h0
      clear hx4 hown hnews hO4 HB2 HCL HBY
      go_wp2_with (at_builtin; refine wpList_append_st _ rfl (.tmp 33) (.tmp 34) 22 rfl w.heap.size 5 i0 (.int .u8 0) 1 1 Try.underlying22 HI.out.1 HI.out.2.1 HI.out.2.2.1 HI.out.2.2.2 rfl (by decide) (.slice (some ⟨w2.heap.size, 0, none⟩) 1 1) 1 _ rfl (by exact HN.out.1) ⟨g, 0, none⟩ L.length c2 (byteCells L) rfl (by rw [bcells_length, Nat.mul_one]) (by exact HN.out.2) (bcells_one L) (by unfold maxLen; omega) (by omega) (by omega) ?_; intro v' w' u1 u2 u3; have HF := Lib.hid (And.intro u1 u2); clear u1 u2 u3)
      go_returns
      have h1 := HF.out.1
      rw [show [Value.int .u8 (t : Int)] ++ byteCells L = byteCells (t :: L) from rfl, show 1 + L.length = (t :: L).length by simp; omega] at h1
      exact ⟨ext_grow0 HEX.out HN.out.1 HF.out.2, .inl ⟨rfl, _, rfl, h1⟩⟩
    · have hC0 : (C == 0) = false := by simpa using h0
      have HEX := Lib.hid (Chg.trans (HE.out.alloc _) hx4)
      have HC0 := Lib.hid h0
      clear hx4 HB2 HCL HBY h0
      go_wp2_with fail
      go_returns
      exact ⟨HEX.out, .inr ⟨HC0.out, rfl⟩⟩
theorem rncV_any {w : World} {v : Val} {a : Option Addr} {cap : Nat} (h : Cells w a v.w.length cap (wordCells v.w)) (hx : v.x < 18446744073709551616) (h32 : ∀ d ∈ v.w, d < 4294967296) :
    Calls Try.prog 12 #[valV v a cap] w (Wrote w (codeV v) (eVal v)) := by
  by_cases hm : mayV v = 0
  · have hc : codeV v = if (v.sem = 1 ∨ v.sem = 3) ∧ v.inf = false ∧ 64 < v.w.length then 5 else 0 := by rw [codeV, if_pos hm]
    rw [hc, eVal]
    obtain ⟨s, inf, l, lev, x⟩ := v
    unfold valV
    simp only at h hx h32 ⊢
    by_cases h13 : s = 1 ∨ s = 3
    · have := rncV_nat h hx hm h13 h32
      simp only [h13, true_and, if_true]
      exact this
    · by_cases h24 : s = 2 ∨ s = 4
      · simp only [h13, h24, false_and, if_false, if_true]
        exact rncV_lev h hx hm h24
      · simp only [h13, h24, false_and, if_false]
        exact rncV_flo h hx hm h13 h24
  · exact rncV_bad h hx hm
end Go.Proofs.Ytnamcghcgcknpaa
