/-
  Writing a number without an end (chapter 3).
-/
import Derived.Test.YtnamcghcgcknpaaEncA
import Derived.Handy
namespace Go.Proofs.Ytnamcghcgcknpaa
open Go.RowKit
set_option linter.unusedVariables false

def codeN (inf : Bool) (l : List Nat) : Int := if mayNat inf l then (if inf = false ∧ 64 < l.length then 5 else 0) else 16
/-- What is written: the bytes, or why there are none. -/
def Wrote (w : World) (code : Int) (bs : List Nat) (e : Ending) (w' : World) : Prop :=
  Ext w w' ∧ ((code = 0 ∧ ∃ v, e = .returned (.tuple #[v, .int .i64 0]) ∧ w'.ownsRow w.heap.size 5 1 v bs.length (byteCells bs)) ∨ (code ≠ 0 ∧ e = .returned (.tuple #[.slice none 0 0, .int .i64 code])))
theorem own_new {w : World} {B : Nat} (d : Int) (hB : B ≤ w.heap.size) : (w.alloc (.cells #[.int .u8 d] 5)).ownsRow B 5 1 (.slice (some ⟨w.heap.size, 0, none⟩) 1 1) 1 [.int .u8 d] := by
  have := World.ownsRow_lit (base := B) (e := 5) (size := 1) w #[.int .u8 d] 1 hB (by unfold maxLen; omega) rfl
  exact this
theorem news4 (w : World) (a b c d : Int) (t : Nat) (j : Nat) (u : Value) (h : [Value.int .u8 a, .int .u8 b, .int .u8 c, .int .u8 d][j]? = some u) :
    (w.alloc (.cells #[.int .u8 a, .int .u8 b, .int .u8 c, .int .u8 d] t)).cell? ((⟨w.heap.size, 0, none⟩ : Addr).add j) = some u := by
  match j, h with
  | 0, h => simpa [go_sem] using h
  | 1, h => simpa [go_sem] using h
  | 2, h => simpa [go_sem] using h
  | 3, h => simpa [go_sem] using h
theorem eWords_length (l : List Nat) : (eWords l).length = 4 * l.length := by
  induction l with
  | nil => rfl
  | cons d l ih => simp [eWords, eWord, ih]; omega
theorem eWords_app (a b : List Nat) : eWords (a ++ b) = eWords a ++ eWords b := by
  induction a with
  | nil => rfl
  | cons n l ih => simp [eWords, ih]
theorem take_snoc {α : Type} {l : List α} {i : Nat} {x : α} (h : l[i]? = some x) : l.take (i + 1) = l.take i ++ [x] := by
  rw [List.take_add_one, h]; rfl
set_option maxRecDepth 100000 in
set_option maxHeartbeats 2000000 in
theorem natBytes_any {w : World} {a : Option Addr} {cap : Nat} {l : List Nat} (inf : Bool) (h : Cells w a l.length cap (wordCells l)) (h32 : ∀ d ∈ l, d < 4294967296) :
    Calls Try.prog 25 #[.agg #[.bool inf, .slice a l.length cap]] w (Wrote w (codeN inf l) (eNat (inf, l))) := by
  obtain ⟨i0, hi0, hii⟩ := Option.map_eq_some_iff.1 info_u8
  obtain ⟨hz0, hz1, hz2⟩ : i0.zero = some (.int .u8 0) ∧ i0.size = 1 ∧ i0.bytes = 1 := by
    have := hii; simp at this; exact this
  have HI := Lib.hid (And.intro hi0 (And.intro hz0 (And.intro hz1 hz2)))
  clear hi0 hii hz0 hz1 hz2
  have hcap := h.1
  have hmax := h.2.1
  unfold maxLen at hmax
  have H := Lib.hid h
  have H32 := Lib.hid h32
  have hb : Ext w (w.alloc (Obj.cells #[.bool inf, .slice a l.length cap] 28)) := (Chg.refl w).alloc _
  have HM := Lib.hid (natMay_any inf (h.chg (S := fun _ => False) hb (fun _ _ h => h)))
  have HX := Lib.hid hb
  have HK := Lib.hid (Blk.new w #[.bool inf, .slice a l.length cap] 28)
  clear h hb h32
  obtain ⟨n, hn⟩ : ∃ n, l.length = n := ⟨_, rfl⟩
  obtain ⟨M, hM⟩ : ∃ M, mayNat inf l = M := ⟨_, rfl⟩
  obtain ⟨C, hC⟩ : ∃ C, codeN inf l = C := ⟨_, rfl⟩
  obtain ⟨L, hL⟩ : ∃ L, eNat (inf, l) = L := ⟨_, rfl⟩
  rw [hC, hL]
  rw [hM] at HM
  rw [hn] at hcap HM HX HK ⊢
  have HN := Lib.hid (And.intro hn (And.intro hM (And.intro hC hL)))
  clear hn hM hC hL
  cases M with
  | false =>
    have hC : C = 16 := by rw [← HN.out.2.2.1, codeN, HN.out.2.1]; rfl
    have HC := Lib.hid hC
    clear hC
    go_enter Try.func25, Try.ntmps25
    go_wp2_with (go_at_call 51; refine HM.out.mono ?_; rintro e w' ⟨rfl, hx⟩)
    go_returns
    rw [HC.out]
    exact ⟨HX.out.trans hx, .inr ⟨by decide, rfl⟩⟩
  | true =>
    cases inf with
    | true =>
      have hC : C = 0 ∧ L = [255] := by rw [← HN.out.2.2.1, ← HN.out.2.2.2, codeN, HN.out.2.1]; exact ⟨rfl, rfl⟩
      have HC := Lib.hid hC
      clear hC
      go_enter Try.func25, Try.ntmps25
      go_wp2_with (go_at_call 51; refine HM.out.mono ?_; rintro e w' ⟨rfl, hx⟩; have kb := HK.out.chg hx (fun h => h); have k0 := kb.cell 0 _ rfl; have k1 := kb.cell 1 _ rfl; have HE := Lib.hid (HX.out.trans hx); clear kb hx)
      go_returns
      rw [HC.out.1, HC.out.2]
      exact ⟨HE.out.alloc _, .inl ⟨rfl, _, rfl, own_new 255 HE.out.size⟩⟩
    | false =>
      by_cases h64 : 64 < n
      · have hC : C = 5 := by rw [← HN.out.2.2.1, codeN, HN.out.2.1, HN.out.1]; simp [h64]
        have HC := Lib.hid hC
        have h64' : (64 : Int) < n := by omega
        clear hC
        go_enter Try.func25, Try.ntmps25
        go_wp2_with (go_at_call 51; refine HM.out.mono ?_; rintro e w' ⟨rfl, hx⟩; have kb := HK.out.chg hx (fun h => h); have k0 := kb.cell 0 _ rfl; have k1 := kb.cell 1 _ rfl; have HE := Lib.hid (HX.out.trans hx); clear kb hx)
        go_returns
        rw [HC.out]
        exact ⟨HE.out, .inr ⟨by decide, rfl⟩⟩
      · have hC : C = 0 ∧ L = n :: eWords l := by rw [← HN.out.2.2.1, ← HN.out.2.2.2, codeN, HN.out.2.1, HN.out.1]; exact ⟨by simp [h64], by simp [eNat, HN.out.1]⟩
        have HC := Lib.hid hC
        have h64' : ¬ (64 : Int) < n := by omega
        have hmod : (n : Int) % 256 = n := by omega
        clear hC
        go_enter Try.func25, Try.ntmps25
        go_wp2_with (go_at_call 51; refine HM.out.mono ?_; rintro e w2 ⟨rfl, hx⟩; have kb := HK.out.chg hx (fun h => h); have k0 := kb.cell 0 _ rfl; have k1 := kb.cell 1 _ rfl; have kx := ((kb.chg (S := fun _ => False) ((Chg.refl _).alloc (Obj.cells #[.int .u8 (n : Int)] 5)) (fun h => h)).cell 1 _ rfl); have HE := Lib.hid (HX.out.trans hx); clear kb hx)
        go_loopg [4, 28] n (fun g l4 l28 wr => ∃ (i : Nat) (v : Value), v = l4 ∧ i ≤ n ∧ Ext w wr ∧ wr.ownsRow w.heap.size 5 1 v (1 + 4 * i) (byteCells (n :: eWords (l.take i))) ∧ l28 = .int .i64 i ∧ g = n - i)
        case atStart => exact ⟨0, _, rfl, Nat.zero_le _, HE.out.alloc _, own_new _ HE.out.size, rfl, rfl⟩
        case round =>
          obtain ⟨i, v, rfl, hi, hex, hown, rfl, rfl⟩ := hrel
          have HE2 := Lib.hid hex
          have HO := Lib.hid hown
          have hsz := hex.size
          clear hex hown
          by_cases hin : i < n
          · have hin' : (i : Int) < n := by omega
            obtain ⟨d, hd⟩ : ∃ d, l[i]? = some d := ⟨_, List.getElem?_eq_getElem (by rw [HN.out.1]; exact hin)⟩
            obtain ⟨x, rfl, c0⟩ := H.out.2.2 i (.int .u32 (d : Int)) (by simp [wordCells, hd])
            have d0 := (HE2.out.cell (lt_of_cell c0) (fun h => h)).trans c0
            have hd32 := H32.out d (List.mem_of_getElem? hd)
            have HD := Lib.hid hd
            clear c0 hd
            go_wp2_with (at_builtin; refine wpList_append_st _ rfl (.tmp 32) (.tmp 44) 22 rfl w.heap.size 5 i0 (.int .u8 0) 1 1 Try.underlying22 HI.out.1 HI.out.2.1 HI.out.2.2.1 HI.out.2.2.2 rfl (by decide) v (1 + 4 * i) _ rfl (by exact (HO.out.alloc _)) ⟨wr.heap.size, 0, none⟩ 4 4 [.int .u8 ((d : Int) % 256), .int .u8 ((d : Int) / 256 % 256), .int .u8 ((d : Int) / 65536 % 256), .int .u8 ((d : Int) / 16777216)] rfl rfl (by exact news4 _ _ _ _ _ _) (by simp [Value.oneCell']) (by unfold maxLen; omega) (by omega) (by simp; omega) ?_; intro v' w' u1 u2 u3; have HF := Lib.hid (And.intro u1 u2); clear u1 u2 u3)
            go_roundg (n - (i + 1))
            case measure => omega
            case rel =>
              have h1 := HF.out.1
              have hb : byteCells (n :: eWords (l.take i)) ++ [Value.int .u8 ((d : Int) % 256), .int .u8 ((d : Int) / 256 % 256), .int .u8 ((d : Int) / 65536 % 256), .int .u8 ((d : Int) / 16777216)] = byteCells (n :: eWords (l.take (i + 1))) := by
                have e4 : (d : Int) / 16777216 = ((d / 16777216 % 256 : Nat) : Int) := by omega
                rw [take_snoc HD.out, eWords_app, ← List.cons_append, bcells_app, e4]
                rfl
              rw [hb, show 1 + 4 * i + 4 = 1 + 4 * (i + 1) by omega] at h1
              exact ⟨i + 1, v', rfl, by omega, ext_grow HE2.out HO.out HF.out.2, h1, rfl, rfl⟩
          · have e0 : n = i := by omega
            subst e0
            have hin' : ¬ (n : Int) < n := by omega
            have hfin : L = n :: eWords (l.take n) ∧ L.length = 1 + 4 * n := by
              rw [HC.out.2, ← HN.out.1, List.take_length, List.length_cons, eWords_length]
              exact ⟨rfl, by omega⟩
            have HF := Lib.hid hfin
            clear hfin
            go_wp2_with fail
            go_returns
            rw [HC.out.1]
            refine ⟨HE2.out, .inl ⟨rfl, _, rfl, ?_⟩⟩
            have hO := HO.out
            rw [HF.out.2]
            rw [HC.out.2, ← HN.out.1, List.take_length] at *
            exact hO
end Go.Proofs.Ytnamcghcgcknpaa
