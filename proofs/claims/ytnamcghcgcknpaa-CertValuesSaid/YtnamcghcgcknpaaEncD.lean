/-
  Writing a value with a double (chapter 24).
-/
import Derived.Test.YtnamcghcgcknpaaEncC
namespace Go.Proofs.Ytnamcghcgcknpaa
open Go.RowKit
set_option linter.unusedVariables false

theorem eOct_get (y : Nat) : ∀ i : Nat, i < 8 → (eOct y)[i]? = some (y / 2 ^ (8 * (7 - i)) % 256)
  | 0, _ => rfl
  | 1, _ => rfl
  | 2, _ => rfl
  | 3, _ => rfl
  | 4, _ => rfl
  | 5, _ => rfl
  | 6, _ => rfl
  | 7, _ => by simp [eOct]
set_option maxRecDepth 100000 in
set_option maxHeartbeats 800000 in
theorem encV_flo {w : World} {s : Int} {inf : Bool} {l : List Nat} {lev : Int} {x : Nat} {a : Option Addr} {cap : Nat} (h : Cells w a l.length cap (wordCells l)) (hx : x < 18446744073709551616) (hm : mayV ⟨s, inf, l, lev, x⟩ = 0) (h13 : ¬ (s = 1 ∨ s = 3)) (h24 : ¬ (s = 2 ∨ s = 4)) :
    Calls Try.prog 11 #[.agg #[.int .i64 s, .bool inf, .slice a l.length cap, .int .i64 lev, .float .f64 x]] w (Wrote w 0 (s.toNat :: eOct (fb x))) := by
  obtain ⟨i0, hi0, hii⟩ := Option.map_eq_some_iff.1 info_u8
  obtain ⟨hz0, hz1, hz2⟩ : i0.zero = some (.int .u8 0) ∧ i0.size = 1 ∧ i0.bytes = 1 := by
    have := hii; simp at this; exact this
  have HI := Lib.hid (And.intro hi0 (And.intro hz0 (And.intro hz1 hz2)))
  clear hi0 hii hz0 hz1 hz2
  obtain ⟨hs1, hs6, -, -⟩ := mayV_zero hm
  have hb : Ext w (w.alloc (Obj.cells #[.int .i64 s, .bool inf, .slice a l.length cap, .int .i64 lev, .float .f64 x] 31)) := (Chg.refl w).alloc _
  have HM0 := may_any (v := ⟨s, inf, l, lev, x⟩) (h.chg (S := fun _ => False) hb (fun _ _ h => h)) hx
  rw [hm] at HM0
  unfold valV at HM0
  simp only at HM0
  have HM := Lib.hid HM0
  have HX := Lib.hid hb
  have hcap := h.1
  have HK := Lib.hid (Blk.new w #[.int .i64 s, .bool inf, .slice a l.length cap, .int .i64 lev, .float .f64 x] 31)
  clear h hb HM0 hm
  generalize l.length = n at HM HX HK hcap ⊢
  have hfb := fb_lt x hx
  have HBI := Lib.hid (fun w => bits_any x w)
  obtain ⟨y, hy⟩ : ∃ y, fb x = y := ⟨_, rfl⟩
  rw [hy] at HBI hfb ⊢
  clear hy hx
  obtain ⟨t, ht⟩ : ∃ t : Nat, s.toNat = t := ⟨_, rfl⟩
  obtain rfl : s = (t : Int) := by omega
  have h1 : ((t : Int) == 1) = false := by simp; omega
  have h2 : ((t : Int) == 2) = false := by simp; omega
  have h3 : ((t : Int) == 3) = false := by simp; omega
  have h4 : ((t : Int) == 4) = false := by simp; omega
  have hmod : (t : Int) % 256 = t := by omega
  simp only [Int.toNat_natCast]
  clear ht h13 h24
  go_enter Try.func11, Try.ntmps11
  go_wp2_with fail
  refine HM.out.mono ?_
  rintro e w2 ⟨rfl, hx⟩
  have kb := HK.out.chg hx (fun h => h)
  obtain ⟨g0, f0, g1, f1, g2, f2, g3, f3, g4, f4⟩ := blk5_base kb
  have kx := fun o => ((kb.chg (S := fun _ => False) ((Chg.refl w2).alloc o) (fun h => h)).cell 0 _ rfl)
  have ky := fun o => ((kb.chg (S := fun _ => False) ((Chg.refl w2).alloc o) (fun h => h)).cell 4 _ rfl)
  have HE := Lib.hid (HX.out.trans hx)
  clear kb hx
  go_wp2_with (go_at_call 26; refine (HBI.out _).mono ?_; rintro e w' ⟨rfl, rfl⟩)
  go_loopg [5, 48] 8 (fun g l5 l48 wr => ∃ (i : Nat) (v : Value), v = l5 ∧ i ≤ 8 ∧ Ext w wr ∧ wr.ownsRow w.heap.size 5 1 v (1 + i) (byteCells (t :: (eOct y).take i)) ∧ l48 = .int .i64 i ∧ g = 8 - i)
  case atStart => exact ⟨0, _, rfl, Nat.zero_le _, HE.out.alloc _, own_new _ HE.out.size, rfl, rfl⟩
  case round =>
    obtain ⟨i, v, rfl, hi, hex, hown, rfl, rfl⟩ := hrel
    have HE2 := Lib.hid hex
    have HO := Lib.hid hown
    have hsz := hex.size
    clear hex hown
    by_cases hin : i < 8
    · have hin' : (i : Int) < 8 := by omega
      obtain ⟨d, hd⟩ : ∃ d, y / 2 ^ (8 * (7 - i)) % 256 = d := ⟨_, rfl⟩
      have hd' : (y : Int) / 2 ^ (8 * (7 - i)) % 256 = (d : Int) := by rw [← hd]; push_cast; rfl
      have HD := Lib.hid hd
      have HD' := Lib.hid hd'
      clear hd hd'
      go_wp2_with (at_builtin; rw [HD'.out]; refine wpList_append_st _ rfl (.tmp 51) (.tmp 58) 22 rfl w.heap.size 5 i0 (.int .u8 0) 1 1 Try.underlying22 HI.out.1 HI.out.2.1 HI.out.2.2.1 HI.out.2.2.2 rfl (by decide) v (1 + i) _ rfl (by exact (HO.out.alloc _)) ⟨wr.heap.size, 0, none⟩ 1 1 [.int .u8 (d : Int)] rfl rfl (by exact news8 _ _ _) (by simp [Value.oneCell']) (by unfold maxLen; omega) (by omega) (by simp; omega) ?_; intro v' w' u1 u2 u3; have HF := Lib.hid (And.intro u1 u2); clear u1 u2 u3)
      go_roundg (8 - (i + 1))
      case measure => omega
      case rel =>
        have h1 := HF.out.1
        have hb : byteCells (t :: (eOct y).take i) ++ [Value.int .u8 (d : Int)] = byteCells (t :: (eOct y).take (i + 1)) := by
          rw [take_snoc (eOct_get y i hin), HD.out, ← List.cons_append, bcells_app]
          rfl
        rw [hb] at h1
        exact ⟨i + 1, v', rfl, by omega, ext_grow HE2.out HO.out HF.out.2, h1, rfl, rfl⟩
    · obtain rfl : i = 8 := by omega
      go_wp2_with fail
      go_returns
      exact ⟨HE2.out, .inl ⟨rfl, _, rfl, HO.out⟩⟩
set_option maxRecDepth 100000 in
set_option maxHeartbeats 800000 in
theorem encV_lev {w : World} {s : Int} {inf : Bool} {l : List Nat} {lev : Int} {x : Nat} {a : Option Addr} {cap : Nat} (h : Cells w a l.length cap (wordCells l)) (hx : x < 18446744073709551616) (hm : mayV ⟨s, inf, l, lev, x⟩ = 0) (h24 : s = 2 ∨ s = 4) :
    Calls Try.prog 11 #[.agg #[.int .i64 s, .bool inf, .slice a l.length cap, .int .i64 lev, .float .f64 x]] w (Wrote w 0 [s.toNat, lev.toNat]) := by
  obtain ⟨i0, hi0, hii⟩ := Option.map_eq_some_iff.1 info_u8
  obtain ⟨hz0, hz1, hz2⟩ : i0.zero = some (.int .u8 0) ∧ i0.size = 1 ∧ i0.bytes = 1 := by
    have := hii; simp at this; exact this
  have HI := Lib.hid (And.intro hi0 (And.intro hz0 (And.intro hz1 hz2)))
  clear hi0 hii hz0 hz1 hz2
  obtain ⟨hs1, hs6, -, hlev⟩ := mayV_zero hm
  obtain ⟨hl0, hl7⟩ := hlev h24
  have hb : Ext w (w.alloc (Obj.cells #[.int .i64 s, .bool inf, .slice a l.length cap, .int .i64 lev, .float .f64 x] 31)) := (Chg.refl w).alloc _
  have HM0 := may_any (v := ⟨s, inf, l, lev, x⟩) (h.chg (S := fun _ => False) hb (fun _ _ h => h)) hx
  rw [hm] at HM0
  unfold valV at HM0
  simp only at HM0
  have HM := Lib.hid HM0
  have HX := Lib.hid hb
  have hcap := h.1
  have HK := Lib.hid (Blk.new w #[.int .i64 s, .bool inf, .slice a l.length cap, .int .i64 lev, .float .f64 x] 31)
  clear h hb HM0 hm
  generalize l.length = n at HM HX HK hcap ⊢
  obtain ⟨t, ht⟩ : ∃ t : Nat, s.toNat = t := ⟨_, rfl⟩
  obtain ⟨u, hu⟩ : ∃ u : Nat, lev.toNat = u := ⟨_, rfl⟩
  obtain rfl : s = (t : Int) := by omega
  obtain rfl : lev = (u : Int) := by omega
  have h1 : ((t : Int) == 1) = false := by simp; omega
  have h3 : ((t : Int) == 3) = false := by simp; omega
  have hmod : (t : Int) % 256 = t := by omega
  have hmodu : (u : Int) % 256 = u := by omega
  have hsl : (((t : Int) == 2) = true) ∨ (((t : Int) == 2) = false ∧ ((t : Int) == 4) = true) := by
    rcases h24 with h | h
    · left; simp; omega
    · right; constructor <;> simp <;> omega
  simp only [Int.toNat_natCast]
  clear ht hu h24 hlev hx
  go_enter Try.func11, Try.ntmps11
  go_wp2_with fail
  refine HM.out.mono ?_
  rintro e w2 ⟨rfl, hx⟩
  have kb := HK.out.chg hx (fun h => h)
  obtain ⟨g0, f0, g1, f1, g2, f2, g3, f3, g4, f4⟩ := blk5_base kb
  have kx := fun o => ((kb.chg (S := fun _ => False) ((Chg.refl w2).alloc o) (fun h => h)).cell 0 _ rfl)
  have ky := fun o => ((kb.chg (S := fun _ => False) ((Chg.refl w2).alloc o) (fun h => h)).cell 3 _ rfl)
  have HE := Lib.hid (HX.out.trans hx)
  have HO : Hid ((w2.alloc (.cells #[.int .u8 (t : Int)] 5)).ownsRow w.heap.size 5 1 (.slice (some ⟨w2.heap.size, 0, none⟩) 1 1) 1 [.int .u8 (t : Int)]) := Lib.hid (own_new (t : Int) HE.out.size)
  have hsz := HE.out.size
  clear kb hx
  rcases hsl with hs2 | ⟨hs2, hs4⟩
  all_goals
    go_wp2_with (at_builtin; refine wpList_append_st _ rfl (.tmp 39) (.tmp 43) 22 rfl w.heap.size 5 i0 (.int .u8 0) 1 1 Try.underlying22 HI.out.1 HI.out.2.1 HI.out.2.2.1 HI.out.2.2.2 rfl (by decide) (.slice (some ⟨w2.heap.size, 0, none⟩) 1 1) 1 _ rfl (by exact (HO.out.alloc _)) ⟨w2.heap.size + 1, 0, none⟩ 1 1 [.int .u8 (u : Int)] rfl rfl (by intro j u hu; have := news8 (w2.alloc (.cells #[.int .u8 (t : Int)] 5)) _ 5 j u hu; rw [World.size_alloc] at this; exact this) (by simp [Value.oneCell']) (by unfold maxLen; omega) (by omega) (by simp only [World.size_alloc]; omega) ?_; intro v' w' u1 u2 u3; have HF := Lib.hid (And.intro u1 u2); clear u1 u2 u3)
    go_returns
    exact ⟨ext_grow (HE.out.alloc _) HO.out HF.out.2, .inl ⟨rfl, _, rfl, HF.out.1⟩⟩
end Go.Proofs.Ytnamcghcgcknpaa
