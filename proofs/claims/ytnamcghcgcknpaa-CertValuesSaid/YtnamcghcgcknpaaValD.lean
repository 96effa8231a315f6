/-
  The document's own answer on a number as bytes (chapter 3): the walk of BytesNat.
-/
import Derived.Test.YtnamcghcgcknpaaValC
namespace Go.Proofs.Ytnamcghcgcknpaa
open Go.RowKit
set_option linter.unusedVariables false
set_option linter.unusedSimpArgs false
theorem Wrote.base {w w1 w' : World} {c : Int} {bs : List Nat} {e : Ending} (h : Wrote w1 c bs e w') (hx : Ext w w1) : Wrote w c bs e w' := by
  obtain ⟨h1, h2⟩ := h
  refine ⟨hx.trans h1, ?_⟩
  rcases h2 with ⟨h0, v, he, ho⟩ | h2
  · exact .inl ⟨h0, v, he, ownsRow_base ho hx.size⟩
  · exact .inr h2
set_option maxRecDepth 100000 in
set_option maxHeartbeats 4000000 in
theorem rbytes_any {w : World} {a : Option Addr} {cap : Nat} {l : List Nat} (inf : Bool) (h : Cells w a l.length cap (wordCells l)) (h32 : ∀ d ∈ l, d < 4294967296) :
    Calls Try.prog 28 #[.agg #[.bool inf, .slice a l.length cap]] w (Wrote w (codeN inf l) (eNat (inf, l))) := by
  obtain ⟨i0, hi0, hii⟩ := Option.map_eq_some_iff.1 info_u8
  obtain ⟨hz0, hz1, hz2⟩ : i0.zero = some (.int .u8 0) ∧ i0.size = 1 ∧ i0.bytes = 1 := by
    have := hii; simp at this; exact this
  have HI := Lib.hid (And.intro hi0 (And.intro hz0 (And.intro hz1 hz2)))
  clear hi0 hii hz0 hz1 hz2
  have hcap := h.1
  have hmax := h.2.1
  unfold maxLen at hmax
  have H := Lib.hid h
  have H32 := Lib.hid h32
  have hb : Ext w (w.alloc (Obj.cells #[.bool inf, .slice a l.length cap] 28)) := (Chg.refl w).alloc _
  have HM := Lib.hid (rnMay_any inf (h.chg (S := fun _ => False) hb (fun _ _ h => h)))
  have HX := Lib.hid hb
  have HK := Lib.hid (Blk.new w #[.bool inf, .slice a l.length cap] 28)
  clear h hb h32
  obtain ⟨n, hn⟩ : ∃ n, l.length = n := ⟨_, rfl⟩
  obtain ⟨M, hM⟩ : ∃ M, mayNat inf l = M := ⟨_, rfl⟩
  obtain ⟨C, hC⟩ : ∃ C, codeN inf l = C := ⟨_, rfl⟩
  obtain ⟨L, hL⟩ : ∃ L, eNat (inf, l) = L := ⟨_, rfl⟩
  rw [hC, hL]
  rw [hM] at HM
  rw [hn] at hcap HM HX HK ⊢
  have HN := Lib.hid (And.intro hn (And.intro hM (And.intro hC hL)))
  clear hn hM hC hL
  cases M with
  | false =>
    have HC : Hid (C = 16) := Lib.hid (by rw [← HN.out.2.2.1, codeN, HN.out.2.1]; rfl)
    go_enter Try.func28, Try.ntmps28
    go_wp2_with (go_at_call 56; refine HM.out.mono ?_; rintro e w' ⟨rfl, hx⟩)
    go_returns
    rw [HC.out]
    exact ⟨HX.out.trans hx, .inr ⟨by decide, rfl⟩⟩
  | true =>
    by_cases h64 : 64 < n
    · have hinf : inf = false := by
        cases inf with
        | false => rfl
        | true =>
          have := HN.out.2.1
          rw [mayNat, if_pos rfl, HN.out.1, beq_iff_eq] at this; omega
      subst hinf
      have HC : Hid (C = 5) := Lib.hid (by rw [← HN.out.2.2.1, codeN, HN.out.2.1, HN.out.1]; simp [h64])
      have h64' : decide ((64 : Int) < n) = true := by simp; omega
      go_enter Try.func28, Try.ntmps28
      go_wp2_with (go_at_call 56; refine HM.out.mono ?_; rintro e w' ⟨rfl, hx⟩; have kb := HK.out.chg hx (fun h => h); have k0 := kb.cell 0 _ rfl; have k1 := kb.cell 1 _ rfl; have HE := Lib.hid (HX.out.trans hx); clear kb hx)
      go_returns
      rw [HC.out]
      exact ⟨HE.out, .inr ⟨by decide, rfl⟩⟩
    · have h64' : decide ((64 : Int) < n) = false := by simp; omega
      cases inf with
      | true =>
        have HC : Hid (C = 0 ∧ L = [255]) := Lib.hid (by rw [← HN.out.2.2.1, ← HN.out.2.2.2, codeN, HN.out.2.1]; exact ⟨rfl, rfl⟩)
        go_enter Try.func28, Try.ntmps28
        go_wp2_with (go_at_call 56; refine HM.out.mono ?_; rintro e w' ⟨rfl, hx⟩; have kb := HK.out.chg hx (fun h => h); have k0 := kb.cell 0 _ rfl; have k1 := kb.cell 1 _ rfl; have HE := Lib.hid (HX.out.trans hx); clear kb hx)
        go_returns
        rw [HC.out.1, HC.out.2]
        exact ⟨HE.out.alloc _, .inl ⟨rfl, _, rfl, own_new 255 HE.out.size⟩⟩
      | false =>
        have HC : Hid (C = 0 ∧ L = n :: eWords l) := Lib.hid (by rw [← HN.out.2.2.1, ← HN.out.2.2.2, codeN, HN.out.2.1, HN.out.1]; exact ⟨by simp [h64], by simp [eNat, HN.out.1]⟩)
        have hmod : (n : Int) % 256 = n := by omega
        rw [HC.out.1, HC.out.2]
        go_enter Try.func28, Try.ntmps28
        go_wp2_with (go_at_call 56; refine HM.out.mono ?_; rintro e w1 ⟨rfl, hx⟩; have kb := HK.out.chg hx (fun h => h); have k0 := kb.cell 0 _ rfl; have k1 := kb.cell 1 _ rfl; have HB := Lib.hid kb; have HE := Lib.hid (HX.out.trans hx); clear kb hx)
        have k2 := (HB.out.chg (S := fun _ => False) ((Chg.refl w1).alloc (Obj.cells #[.int .u8 (n : Int)] 5)) (fun h => h)).cell 1 _ rfl
        go_loopg [4, 5] n (fun g l4 l5 wr => ∃ (i : Nat) (v : Value), v = l4 ∧ i ≤ n ∧ Ext w1 wr ∧ wr.ownsRow w1.heap.size 5 1 v (1 + 4 * i) (byteCells (n :: eWords (l.take i))) ∧ l5 = .int .i64 i ∧ g = n - i)
        case atStart => exact ⟨0, _, rfl, Nat.zero_le _, (Chg.refl w1).alloc _, own_new _ (Nat.le_refl _), rfl, rfl⟩
        case round =>
          clear k0 k1 k2
          obtain ⟨i, v, rfl, hi, hex, hown, rfl, rfl⟩ := hrel
          have HE2 := Lib.hid hex
          have HO := Lib.hid hown
          have hsz := hex.size
          have HKEEP : Hid (∀ w', Ext w1 w' → w'.cell? ⟨w.heap.size, 1, none⟩ = some (.slice a n cap)) := Lib.hid (fun w' h => (HB.out.chg h (fun h => h)).cell 1 _ rfl)
          have c1 := HKEEP.out _ hex
          clear hex hown
          by_cases hin : i < n
          · have hin' : (i : Int) < n := by omega
            obtain ⟨d, hd⟩ : ∃ d, l[i]? = some d := ⟨_, List.getElem?_eq_getElem (by rw [HN.out.1]; exact hin)⟩
            obtain ⟨x, rfl, c0⟩ := H.out.2.2 i (.int .u32 (d : Int)) (by simp [wordCells, hd])
            have HDC : Hid (∀ w', Ext w1 w' → w'.cell? (x.add i) = some (.int .u32 (d : Int))) := Lib.hid (fun w' h => ((HE.out.trans h).cell (lt_of_cell c0) (fun h => h)).trans c0)
            have d0 := HDC.out _ HE2.out
            have hd32 := H32.out d (List.mem_of_getElem? hd)
            have HD := Lib.hid hd
            clear c0 hd
            go_wp2_with fail
            refine wp_region_held_drew (S := fun w' => w'.cell? ⟨w.heap.size, 1, none⟩ = some (.slice (some x) n cap) ∧ w'.cell? (x.add i) = some (.int .u32 (d : Int))) (by kernel_rfl) ⟨c1, d0⟩ (fun hHeld => ?_)
            refine wpAnyH_take (i := 0) (v := v) rfl (by kernel_rfl) (by kernel_rfl) (by kernel_rfl) (fun _ _ _ h => h) (Or.inl ⟨by rfl, ?_⟩) hHeld ?_
            · intro wS hSw
              obtain ⟨hs0, hs1⟩ := hSw
              go_simp
              try (first | (intro h; omega) | rfl | (rw [IntKind.wrap_u32']; omega) | (simp [IntKind.wrap, IntKind.bits, IntKind.signed]; omega))
            simp only [Act.put, List.setIfInBounds_toArray, List.set_cons_zero, List.set_cons_succ]
            refine wpAnyH_take (i := 1) (v := .pointer (some ⟨w.heap.size, 1, none⟩)) rfl (by kernel_rfl) (by kernel_rfl) (by kernel_rfl) (fun _ _ _ h => h) (Or.inl ⟨by rfl, ?_⟩) hHeld ?_
            · intro wS hSw
              obtain ⟨hs0, hs1⟩ := hSw
              go_simp
              try (first | (intro h; omega) | rfl | (rw [IntKind.wrap_u32']; omega) | (simp [IntKind.wrap, IntKind.bits, IntKind.signed]; omega))
            simp only [Act.put, List.setIfInBounds_toArray, List.set_cons_zero, List.set_cons_succ]
            refine wpAnyH_take (i := 2) (v := .slice (some x) n cap) rfl (by kernel_rfl) (by kernel_rfl) (by kernel_rfl) (fun _ _ _ h => h) (Or.inl ⟨by rfl, ?_⟩) hHeld ?_
            · intro wS hSw
              obtain ⟨hs0, hs1⟩ := hSw
              go_simp
              try (first | (intro h; omega) | rfl | (rw [IntKind.wrap_u32']; omega) | (simp [IntKind.wrap, IntKind.bits, IntKind.signed]; omega))
            simp only [Act.put, List.setIfInBounds_toArray, List.set_cons_zero, List.set_cons_succ]
            refine wpAnyH_take (i := 3) (v := .int .i64 (i : Int)) rfl (by kernel_rfl) (by kernel_rfl) (by kernel_rfl) (fun _ _ _ h => h) (Or.inl ⟨by rfl, ?_⟩) hHeld ?_
            · intro wS hSw
              obtain ⟨hs0, hs1⟩ := hSw
              go_simp
              try (first | (intro h; omega) | rfl | (rw [IntKind.wrap_u32']; omega) | (simp [IntKind.wrap, IntKind.bits, IntKind.signed]; omega))
            simp only [Act.put, List.setIfInBounds_toArray, List.set_cons_zero, List.set_cons_succ]
            refine wpAnyH_take (i := 4) (v := .pointer (some (x.add i))) rfl (by kernel_rfl) (by kernel_rfl) (by kernel_rfl) (fun _ _ _ h => h) (Or.inl ⟨by rfl, ?_⟩) hHeld ?_
            · intro wS hSw
              obtain ⟨hs0, hs1⟩ := hSw
              go_simp
              try (first | (intro h; omega) | rfl | (rw [IntKind.wrap_u32']; omega) | (simp [IntKind.wrap, IntKind.bits, IntKind.signed]; omega))
            simp only [Act.put, List.setIfInBounds_toArray, List.set_cons_zero, List.set_cons_succ]
            refine wpAnyH_take (i := 5) (v := .int .u32 (d : Int)) rfl (by kernel_rfl) (by kernel_rfl) (by kernel_rfl) (fun _ _ _ h => h) (Or.inl ⟨by rfl, ?_⟩) hHeld ?_
            · intro wS hSw
              obtain ⟨hs0, hs1⟩ := hSw
              go_simp
              try (first | (intro h; omega) | rfl | (rw [IntKind.wrap_u32']; omega) | (simp [IntKind.wrap, IntKind.bits, IntKind.signed]; omega))
            simp only [Act.put, List.setIfInBounds_toArray, List.set_cons_zero, List.set_cons_succ]
            refine wpAnyH_take (i := 6) (v := .int .u8 ((d : Int) % 256)) rfl (by kernel_rfl) (by kernel_rfl) (by kernel_rfl) (fun _ _ _ h => h) (Or.inl ⟨by rfl, ?_⟩) hHeld ?_
            · intro wS hSw
              obtain ⟨hs0, hs1⟩ := hSw
              go_simp
              try (first | (intro h; omega) | rfl | (rw [IntKind.wrap_u32']; omega) | (simp [IntKind.wrap, IntKind.bits, IntKind.signed]; omega))
            simp only [Act.put, List.setIfInBounds_toArray, List.set_cons_zero, List.set_cons_succ]
            refine wpAnyH_take (i := 7) (v := .pointer (some ⟨w.heap.size, 1, none⟩)) rfl (by kernel_rfl) (by kernel_rfl) (by kernel_rfl) (fun _ _ _ h => h) (Or.inl ⟨by rfl, ?_⟩) hHeld ?_
            · intro wS hSw
              obtain ⟨hs0, hs1⟩ := hSw
              go_simp
              try (first | (intro h; omega) | rfl | (rw [IntKind.wrap_u32']; omega) | (simp [IntKind.wrap, IntKind.bits, IntKind.signed]; omega))
            simp only [Act.put, List.setIfInBounds_toArray, List.set_cons_zero, List.set_cons_succ]
            refine wpAnyH_take (i := 8) (v := .slice (some x) n cap) rfl (by kernel_rfl) (by kernel_rfl) (by kernel_rfl) (fun _ _ _ h => h) (Or.inl ⟨by rfl, ?_⟩) hHeld ?_
            · intro wS hSw
              obtain ⟨hs0, hs1⟩ := hSw
              go_simp
              try (first | (intro h; omega) | rfl | (rw [IntKind.wrap_u32']; omega) | (simp [IntKind.wrap, IntKind.bits, IntKind.signed]; omega))
            simp only [Act.put, List.setIfInBounds_toArray, List.set_cons_zero, List.set_cons_succ]
            refine wpAnyH_take (i := 9) (v := .int .i64 (i : Int)) rfl (by kernel_rfl) (by kernel_rfl) (by kernel_rfl) (fun _ _ _ h => h) (Or.inl ⟨by rfl, ?_⟩) hHeld ?_
            · intro wS hSw
              obtain ⟨hs0, hs1⟩ := hSw
              go_simp
              try (first | (intro h; omega) | rfl | (rw [IntKind.wrap_u32']; omega) | (simp [IntKind.wrap, IntKind.bits, IntKind.signed]; omega))
            simp only [Act.put, List.setIfInBounds_toArray, List.set_cons_zero, List.set_cons_succ]
            refine wpAnyH_take (i := 10) (v := .pointer (some (x.add i))) rfl (by kernel_rfl) (by kernel_rfl) (by kernel_rfl) (fun _ _ _ h => h) (Or.inl ⟨by rfl, ?_⟩) hHeld ?_
            · intro wS hSw
              obtain ⟨hs0, hs1⟩ := hSw
              go_simp
              try (first | (intro h; omega) | rfl | (rw [IntKind.wrap_u32']; omega) | (simp [IntKind.wrap, IntKind.bits, IntKind.signed]; omega))
            simp only [Act.put, List.setIfInBounds_toArray, List.set_cons_zero, List.set_cons_succ]
            refine wpAnyH_take (i := 11) (v := .int .u32 (d : Int)) rfl (by kernel_rfl) (by kernel_rfl) (by kernel_rfl) (fun _ _ _ h => h) (Or.inl ⟨by rfl, ?_⟩) hHeld ?_
            · intro wS hSw
              obtain ⟨hs0, hs1⟩ := hSw
              go_simp
              try (first | (intro h; omega) | rfl | (rw [IntKind.wrap_u32']; omega) | (simp [IntKind.wrap, IntKind.bits, IntKind.signed]; omega))
            simp only [Act.put, List.setIfInBounds_toArray, List.set_cons_zero, List.set_cons_succ]
            refine wpAnyH_take (i := 12) (v := .int .u32 ((d : Int) / 256)) rfl (by kernel_rfl) (by kernel_rfl) (by kernel_rfl) (fun _ _ _ h => h) (Or.inl ⟨by rfl, ?_⟩) hHeld ?_
            · intro wS hSw
              obtain ⟨hs0, hs1⟩ := hSw
              go_simp
              try (first | (intro h; omega) | rfl | (rw [IntKind.wrap_u32']; omega) | (simp [IntKind.wrap, IntKind.bits, IntKind.signed]; omega))
            simp only [Act.put, List.setIfInBounds_toArray, List.set_cons_zero, List.set_cons_succ]
            refine wpAnyH_take (i := 13) (v := .int .u8 ((d : Int) / 256 % 256)) rfl (by kernel_rfl) (by kernel_rfl) (by kernel_rfl) (fun _ _ _ h => h) (Or.inl ⟨by rfl, ?_⟩) hHeld ?_
            · intro wS hSw
              obtain ⟨hs0, hs1⟩ := hSw
              go_simp
              try (first | (intro h; omega) | rfl | (rw [IntKind.wrap_u32']; omega) | (simp [IntKind.wrap, IntKind.bits, IntKind.signed]; omega))
            simp only [Act.put, List.setIfInBounds_toArray, List.set_cons_zero, List.set_cons_succ]
            refine wpAnyH_take (i := 14) (v := .pointer (some ⟨w.heap.size, 1, none⟩)) rfl (by kernel_rfl) (by kernel_rfl) (by kernel_rfl) (fun _ _ _ h => h) (Or.inl ⟨by rfl, ?_⟩) hHeld ?_
            · intro wS hSw
              obtain ⟨hs0, hs1⟩ := hSw
              go_simp
              try (first | (intro h; omega) | rfl | (rw [IntKind.wrap_u32']; omega) | (simp [IntKind.wrap, IntKind.bits, IntKind.signed]; omega))
            simp only [Act.put, List.setIfInBounds_toArray, List.set_cons_zero, List.set_cons_succ]
            refine wpAnyH_take (i := 15) (v := .slice (some x) n cap) rfl (by kernel_rfl) (by kernel_rfl) (by kernel_rfl) (fun _ _ _ h => h) (Or.inl ⟨by rfl, ?_⟩) hHeld ?_
            · intro wS hSw
              obtain ⟨hs0, hs1⟩ := hSw
              go_simp
              try (first | (intro h; omega) | rfl | (rw [IntKind.wrap_u32']; omega) | (simp [IntKind.wrap, IntKind.bits, IntKind.signed]; omega))
            simp only [Act.put, List.setIfInBounds_toArray, List.set_cons_zero, List.set_cons_succ]
            refine wpAnyH_take (i := 16) (v := .int .i64 (i : Int)) rfl (by kernel_rfl) (by kernel_rfl) (by kernel_rfl) (fun _ _ _ h => h) (Or.inl ⟨by rfl, ?_⟩) hHeld ?_
            · intro wS hSw
              obtain ⟨hs0, hs1⟩ := hSw
              go_simp
              try (first | (intro h; omega) | rfl | (rw [IntKind.wrap_u32']; omega) | (simp [IntKind.wrap, IntKind.bits, IntKind.signed]; omega))
            simp only [Act.put, List.setIfInBounds_toArray, List.set_cons_zero, List.set_cons_succ]
            refine wpAnyH_take (i := 17) (v := .pointer (some (x.add i))) rfl (by kernel_rfl) (by kernel_rfl) (by kernel_rfl) (fun _ _ _ h => h) (Or.inl ⟨by rfl, ?_⟩) hHeld ?_
            · intro wS hSw
              obtain ⟨hs0, hs1⟩ := hSw
              go_simp
              try (first | (intro h; omega) | rfl | (rw [IntKind.wrap_u32']; omega) | (simp [IntKind.wrap, IntKind.bits, IntKind.signed]; omega))
            simp only [Act.put, List.setIfInBounds_toArray, List.set_cons_zero, List.set_cons_succ]
            refine wpAnyH_take (i := 18) (v := .int .u32 (d : Int)) rfl (by kernel_rfl) (by kernel_rfl) (by kernel_rfl) (fun _ _ _ h => h) (Or.inl ⟨by rfl, ?_⟩) hHeld ?_
            · intro wS hSw
              obtain ⟨hs0, hs1⟩ := hSw
              go_simp
              try (first | (intro h; omega) | rfl | (rw [IntKind.wrap_u32']; omega) | (simp [IntKind.wrap, IntKind.bits, IntKind.signed]; omega))
            simp only [Act.put, List.setIfInBounds_toArray, List.set_cons_zero, List.set_cons_succ]
            refine wpAnyH_take (i := 19) (v := .int .u32 ((d : Int) / 65536)) rfl (by kernel_rfl) (by kernel_rfl) (by kernel_rfl) (fun _ _ _ h => h) (Or.inl ⟨by rfl, ?_⟩) hHeld ?_
            · intro wS hSw
              obtain ⟨hs0, hs1⟩ := hSw
              go_simp
              try (first | (intro h; omega) | rfl | (rw [IntKind.wrap_u32']; omega) | (simp [IntKind.wrap, IntKind.bits, IntKind.signed]; omega))
            simp only [Act.put, List.setIfInBounds_toArray, List.set_cons_zero, List.set_cons_succ]
            refine wpAnyH_take (i := 20) (v := .int .u8 ((d : Int) / 65536 % 256)) rfl (by kernel_rfl) (by kernel_rfl) (by kernel_rfl) (fun _ _ _ h => h) (Or.inl ⟨by rfl, ?_⟩) hHeld ?_
            · intro wS hSw
              obtain ⟨hs0, hs1⟩ := hSw
              go_simp
              try (first | (intro h; omega) | rfl | (rw [IntKind.wrap_u32']; omega) | (simp [IntKind.wrap, IntKind.bits, IntKind.signed]; omega))
            simp only [Act.put, List.setIfInBounds_toArray, List.set_cons_zero, List.set_cons_succ]
            refine wpAnyH_take (i := 21) (v := .pointer (some ⟨w.heap.size, 1, none⟩)) rfl (by kernel_rfl) (by kernel_rfl) (by kernel_rfl) (fun _ _ _ h => h) (Or.inl ⟨by rfl, ?_⟩) hHeld ?_
            · intro wS hSw
              obtain ⟨hs0, hs1⟩ := hSw
              go_simp
              try (first | (intro h; omega) | rfl | (rw [IntKind.wrap_u32']; omega) | (simp [IntKind.wrap, IntKind.bits, IntKind.signed]; omega))
            simp only [Act.put, List.setIfInBounds_toArray, List.set_cons_zero, List.set_cons_succ]
            refine wpAnyH_take (i := 22) (v := .slice (some x) n cap) rfl (by kernel_rfl) (by kernel_rfl) (by kernel_rfl) (fun _ _ _ h => h) (Or.inl ⟨by rfl, ?_⟩) hHeld ?_
            · intro wS hSw
              obtain ⟨hs0, hs1⟩ := hSw
              go_simp
              try (first | (intro h; omega) | rfl | (rw [IntKind.wrap_u32']; omega) | (simp [IntKind.wrap, IntKind.bits, IntKind.signed]; omega))
            simp only [Act.put, List.setIfInBounds_toArray, List.set_cons_zero, List.set_cons_succ]
            refine wpAnyH_take (i := 23) (v := .int .i64 (i : Int)) rfl (by kernel_rfl) (by kernel_rfl) (by kernel_rfl) (fun _ _ _ h => h) (Or.inl ⟨by rfl, ?_⟩) hHeld ?_
            · intro wS hSw
              obtain ⟨hs0, hs1⟩ := hSw
              go_simp
              try (first | (intro h; omega) | rfl | (rw [IntKind.wrap_u32']; omega) | (simp [IntKind.wrap, IntKind.bits, IntKind.signed]; omega))
            simp only [Act.put, List.setIfInBounds_toArray, List.set_cons_zero, List.set_cons_succ]
            refine wpAnyH_take (i := 24) (v := .pointer (some (x.add i))) rfl (by kernel_rfl) (by kernel_rfl) (by kernel_rfl) (fun _ _ _ h => h) (Or.inl ⟨by rfl, ?_⟩) hHeld ?_
            · intro wS hSw
              obtain ⟨hs0, hs1⟩ := hSw
              go_simp
              try (first | (intro h; omega) | rfl | (rw [IntKind.wrap_u32']; omega) | (simp [IntKind.wrap, IntKind.bits, IntKind.signed]; omega))
            simp only [Act.put, List.setIfInBounds_toArray, List.set_cons_zero, List.set_cons_succ]
            refine wpAnyH_take (i := 25) (v := .int .u32 (d : Int)) rfl (by kernel_rfl) (by kernel_rfl) (by kernel_rfl) (fun _ _ _ h => h) (Or.inl ⟨by rfl, ?_⟩) hHeld ?_
            · intro wS hSw
              obtain ⟨hs0, hs1⟩ := hSw
              go_simp
              try (first | (intro h; omega) | rfl | (rw [IntKind.wrap_u32']; omega) | (simp [IntKind.wrap, IntKind.bits, IntKind.signed]; omega))
            simp only [Act.put, List.setIfInBounds_toArray, List.set_cons_zero, List.set_cons_succ]
            refine wpAnyH_take (i := 26) (v := .int .u32 ((d : Int) / 16777216)) rfl (by kernel_rfl) (by kernel_rfl) (by kernel_rfl) (fun _ _ _ h => h) (Or.inl ⟨by rfl, ?_⟩) hHeld ?_
            · intro wS hSw
              obtain ⟨hs0, hs1⟩ := hSw
              go_simp
              try (first | (intro h; omega) | rfl | (rw [IntKind.wrap_u32']; omega) | (simp [IntKind.wrap, IntKind.bits, IntKind.signed]; omega))
            simp only [Act.put, List.setIfInBounds_toArray, List.set_cons_zero, List.set_cons_succ]
            refine wpAnyH_take (i := 27) (v := .int .u8 ((d : Int) / 16777216)) rfl (by kernel_rfl) (by kernel_rfl) (by kernel_rfl) (fun _ _ _ h => h) (Or.inl ⟨by rfl, ?_⟩) hHeld ?_
            · intro wS hSw
              obtain ⟨hs0, hs1⟩ := hSw
              go_simp
              try (first | (intro h; omega) | rfl | (rw [IntKind.wrap_u32']; omega) | (simp [IntKind.wrap, IntKind.bits, IntKind.signed]; omega))
            simp only [Act.put, List.setIfInBounds_toArray, List.set_cons_zero, List.set_cons_succ]
            refine wpAnyH_ready (rs := [28]) (by kernel_rfl) (by simp) ?_
            refine AllReadyH.cons rfl (fun K hK => ?_) ?_
            · go_simp
              refine hK.out _ _ ⟨HKEEP.out _ (HE2.out.drew.alloc _), HDC.out _ (HE2.out.drew.alloc _)⟩ (fun hHeld => ?_)
              clear hK K
              refine wpAnyH_ready (rs := [29]) (by kernel_rfl) (by simp) ?_
              refine AllReadyH.cons rfl (fun K hK => ?_) ?_
              · refine step_append_st rfl (.tmp 28) (.tmp 56) 22 rfl w1.heap.size 5 i0 (.int .u8 0) 1 1 Try.underlying22 HI.out.1 HI.out.2.1 HI.out.2.2.1 HI.out.2.2.2 rfl (by decide) v (1 + 4 * i) _ (by simp [Act.eval]) (by exact (HO.out.alloc _)) ⟨wr.heap.size, 0, none⟩ 4 4 [.int .u8 ((d : Int) % 256), .int .u8 ((d : Int) / 256 % 256), .int .u8 ((d : Int) / 65536 % 256), .int .u8 ((d : Int) / 16777216)] (by simp [Act.eval]) rfl (by exact news4 _ _ _ _ _ _) (by simp [Value.oneCell']) (by unfold maxLen; omega) (by omega) (by simp; omega) ?_
                intro v' w' u1 u2 u3
                have HF := Lib.hid (And.intro u1 (ext_grow (HE2.out.drew) HO.out u2))
                clear u1 u2 u3
                refine hK.out _ _ ⟨HKEEP.out _ HF.out.2, HDC.out _ HF.out.2⟩ (fun hHeld => ?_)
                clear hK K
                simp only [Act.put, List.setIfInBounds_toArray, List.set_cons_zero, List.set_cons_succ]
                refine wpAnyH_ready (rs := [30]) (by kernel_rfl) (by simp) ?_
                refine AllReadyH.cons rfl (fun K hK => ?_) ?_
                · go_simp
                  refine hK.out _ _ (by exact hHeld) (fun hHeld => ?_)
                  clear hK K hHeld
                  refine wpAnyH_done (by kernel_rfl) ?_ _
                  go_wp2_with fail
                  go_roundg (n - (i + 1))
                  case measure => omega
                  case rel =>
                    have h1 := HF.out.1
                    have hb : byteCells (n :: eWords (l.take i)) ++ [Value.int .u8 ((d : Int) % 256), .int .u8 ((d : Int) / 256 % 256), .int .u8 ((d : Int) / 65536 % 256), .int .u8 ((d : Int) / 16777216)] = byteCells (n :: eWords (l.take (i + 1))) := by
                      have e4 : (d : Int) / 16777216 = ((d / 16777216 % 256 : Nat) : Int) := by omega
                      rw [take_snoc HD.out, eWords_app, ← List.cons_append, bcells_app, e4]
                      rfl
                    rw [hb, show 1 + 4 * i + 4 = 1 + 4 * (i + 1) by omega] at h1
                    exact ⟨i + 1, v', rfl, by omega, HF.out.2, h1, rfl, rfl⟩
                exact AllReadyH.nil
              exact AllReadyH.nil
            exact AllReadyH.nil
          · have e0 : n = i := by omega
            subst e0
            have hin' : ¬ (n : Int) < n := by omega
            go_wp2_with fail
            go_returns
            have h1 := HO.out
            rw [List.take_of_length_le (by rw [HN.out.1]; exact Nat.le_refl _)] at h1
            have h2 : 1 + 4 * n = (n :: eWords l).length := by rw [List.length_cons, eWords_length, HN.out.1]; omega
            rw [h2] at h1
            exact ⟨HE.out.trans HE2.out, .inl ⟨rfl, _, rfl, ownsRow_base h1 HE.out.size⟩⟩
end Go.Proofs.Ytnamcghcgcknpaa
