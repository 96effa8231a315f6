/-
  Bytes as a number (chapter 3): the walk of Unbytes.
-/
import Derived.Test.YtnamcghcgcknpaaCertG
namespace Go.Proofs.Ytnamcghcgcknpaa
open Go.RowKit
set_option linter.unusedVariables false
set_option linter.unusedSimpArgs false
set_option maxRecDepth 100000 in
set_option maxHeartbeats 4000000 in
theorem unbytes_any {w : World} {a : Option Addr} {cap : Nat} {bs : List Nat} (h : Cells w a bs.length cap (byteCells bs)) (hb : ∀ b ∈ bs, b < 256) :
    Calls Try.prog 57 #[.slice a bs.length cap] w fun e w' => Ext w w' ∧ unb w bs e w' := by
  obtain ⟨i0, hi0, hii⟩ := Option.map_eq_some_iff.1 info_u32
  obtain ⟨hz0, hz1, hz2⟩ : i0.zero = some (.int .u32 0) ∧ i0.size = 1 ∧ i0.bytes = 4 := by
    have := hii; simp at this; exact this
  have HI := Lib.hid (And.intro hi0 (And.intro hz0 (And.intro hz1 hz2)))
  clear hi0 hii hz0 hz1 hz2
  have hcap := h.1
  have hmax := h.2.1
  unfold maxLen at hmax
  have H := Lib.hid h
  have HBy := Lib.hid hb
  clear h hb
  cases bs with
  | nil =>
    have hU : ∀ e w', e = .returned (.tuple #[.agg #[.bool false, .slice none 0 0], .int .i64 0, .int .i64 13]) → unb w [] e w' := fun e w' he => unb_none rfl he
    have HU := Lib.hid hU
    generalize unb w [] = U at HU ⊢
    simp only [List.length_nil] at hcap ⊢
    clear H HBy hU
    go_enter Try.func57, Try.ntmps57
    go_wp2_with fail
    go_returns
    exact ⟨by repeat (first | exact Chg.refl _ | refine Chg.drew ?_ | refine Chg.alloc ?_ _ | (refine Chg.setCell ?_ _ _ (by intro h; simp at h))), HU.out _ _ rfl⟩
  | cons k r =>
    have hk := HBy.out k (List.mem_cons_self ..)
    obtain ⟨x, rfl, hx⟩ := byte_cell H.out (m := 0) (by simp)
    have hx0 : w.cell? x = some (.int .u8 (k : Int)) := by
      have e : x.add 0 = x := by
        obtain ⟨b, o, i⟩ := x
        cases i <;> simp [Addr.add]
      rw [e] at hx; simpa using hx
    clear hx
    have hx1 : (w.alloc (Obj.cells #[.bool false, .slice none 0 0] 28)).cell? x = some (.int .u8 (k : Int)) := by
      rw [((Chg.refl (S := fun _ => False) w).alloc _).cell (lt_of_cell hx0) (fun h => h)]; exact hx0
    clear hx0
    have hlen : (k :: r).length = r.length + 1 := rfl
    rw [hlen] at hcap
    obtain ⟨m, hm⟩ : ∃ m, r.length + 1 = m := ⟨_, rfl⟩
    have hm0 : 0 < m := by omega
    have hm0' : (0 : Int) < m := by omega
    by_cases h255 : k = 255
    · subst h255
      have hU : ∀ e w' , e = .returned (.tuple #[.agg #[.bool true, .slice none 0 0], .int .i64 1, .int .i64 0]) → unb w (255 :: r) e w' := fun e w' he => by
        have : dNat (255 :: r) = some ((true, []), r) := rfl
        unfold unb; rw [this]
        refine ⟨_, he.trans ?_, World.ownsRow_nil _ _ _ _⟩
        simp
      have HU := Lib.hid hU
      rw [hlen]
      generalize unb w (255 :: r) = U at HU ⊢
      rw [hm] at hcap ⊢
      clear H HBy hU hm hlen hm0
      have hB0 : Blk (w.alloc (Obj.cells #[.bool false, .slice none 0 0] 28)) w.heap.size #[.bool false, .slice none 0 0] 28 := Blk.new _ _ _
      have HB0 := Lib.hid hB0
      clear hB0
      have HN := Lib.hid (fun w => inf_nat w)
      go_enter Try.func57, Try.ntmps57
      go_wp2_with (go_at_call 68; refine (HN.out _).mono ?_; rintro e w' ⟨rfl, hx⟩; have kb := HB0.out.chg hx (fun h => h); have k0 := kb.cell 0 _ rfl; have k1 := kb.cell 1 _ rfl; have f0 := kb.frozen 0; have f1 := kb.frozen 1; have q0 := (kb.set 0 (.bool true)).cell 0 _ rfl; have q1 := ((kb.set 0 (.bool true)).set 1 (.slice none 0 0)).cell 1 _ rfl; have q2 := ((kb.set 0 (.bool true)).set 1 (.slice none 0 0)).cell 0 _ rfl; have HXX := Lib.hid (Chg.trans ((Chg.refl (S := fun _ => False) w).alloc _) hx); clear kb hx)
      (try simp only [Exit.inBlock, Exit.then])
      refine bodyPost_ret (by simp [results, Try.results57, go_sem, q0, q1, q2]; try rfl) rfl ?_
      exact ⟨by repeat (first | exact Chg.refl _ | refine Chg.drew ?_ | refine Chg.alloc ?_ _ | (refine Chg.setCell ?_ _ _ (by intro h; simp at h)) | exact HXX.out), HU.out _ _ rfl⟩
    · have h255' : ¬ (k : Int) = 255 := by omega
      by_cases hbad : 64 < k ∨ r.length < 4 * k
      · have hN : dNat (k :: r) = none := by
          rw [dNat, if_neg h255]
          by_cases h64 : 64 < k
          · rw [if_pos h64]
          · rw [if_neg h64, dWords_short k r (hbad.resolve_left h64)]
        have hU : ∀ e w', e = .returned (.tuple #[.agg #[.bool false, .slice none 0 0], .int .i64 0, .int .i64 13]) → unb w (k :: r) e w' := fun e w' he => unb_none hN he
        have HU := Lib.hid hU
        rw [hlen]
        have hbad' : 64 < k ∨ m < 1 + 4 * k := by omega
        generalize unb w (k :: r) = U at HU ⊢
        rw [hm] at hcap ⊢
        clear H HBy hU hm hlen hm0 hN hbad
        by_cases h64 : 64 < k
        · have h64' : (64 : Int) < k := by omega
          clear hbad'
          go_enter Try.func57, Try.ntmps57
          go_wp2_with fail
          go_returns
          exact ⟨by repeat (first | exact Chg.refl _ | refine Chg.drew ?_ | refine Chg.alloc ?_ _ | (refine Chg.setCell ?_ _ _ (by intro h; simp at h))), HU.out _ _ rfl⟩
        · have h64' : ¬ (64 : Int) < k := by omega
          have hbad2 : (m : Int) < 1 + 4 * (k : Int) := by omega
          clear hbad'
          go_enter Try.func57, Try.ntmps57
          go_wp2_with fail
          go_returns
          exact ⟨by repeat (first | exact Chg.refl _ | refine Chg.drew ?_ | refine Chg.alloc ?_ _ | (refine Chg.setCell ?_ _ _ (by intro h; simp at h))), HU.out _ _ rfl⟩
      · have h64 : ¬ 64 < k := fun h => hbad (.inl h)
        have h64' : ¬ (64 : Int) < k := by omega
        have hlong : 4 * k ≤ r.length := by omega
        have hbad2 : ¬ (m : Int) < 1 + 4 * (k : Int) := by omega
        have HL := Lib.hid (And.intro hlen hm)
        rw [hlen, hm] at H
        rw [hlen, hm]
        rw [hm] at hcap
        clear hlen hbad hm
        have HR := Lib.hid hlong
        have hB0 : Blk (w.alloc (Obj.cells #[.bool false, .slice none 0 0] 28)) w.heap.size #[.bool false, .slice none 0 0] 28 := Blk.new _ _ _
        have HB0 := Lib.hid hB0
        clear hB0 hlong
        go_enter Try.func57, Try.ntmps57
        go_wp2_with fail
        go_loopg [3, 41] k (fun g l3 l41 wr => ∃ i : Nat, UnbSt w wr r k i ∧ l3 = .int .i64 (1 + 4 * (i : Int)) ∧ l41 = .int .u8 i ∧ g = k - i)
        case atStart =>
          exact ⟨0, ⟨(Chg.refl w).alloc _, by omega, _, [], HB0.out, rfl, by rw [preL_nil]; rfl, World.ownsRow_nil _ _ _ _, by simp⟩, rfl, rfl, rfl⟩
        case round =>
          obtain ⟨i, ⟨hex, hik, v, l, hblk, hl, hdw, hown, hl32⟩, rfl, rfl, rfl⟩ := hrel
          have HE := Lib.hid hex
          have HBK := Lib.hid hblk
          have HW := Lib.hid (And.intro hl (And.intro hdw (And.intro hown hl32)))
          have hsz := hex.size
          have hpl := hblk.lt
          clear hl hdw hown hl32 hblk hex
          by_cases hin : i < k
          · have hin' : (i : Int) < k := by omega
            obtain ⟨q, hq⟩ : ∃ q : Nat, 1 + 4 * i = q := ⟨_, rfl⟩
            have hq' : 1 + 4 * (i : Int) = (q : Int) := by omega
            have hqm : q + 3 < m := by have := HR.out; have := HL.out.2; omega
            rw [hq']
            obtain ⟨q1, hq1⟩ : ∃ q1 : Nat, q + 1 = q1 := ⟨_, rfl⟩
            obtain ⟨q2, hq2⟩ : ∃ q1 : Nat, q + 2 = q1 := ⟨_, rfl⟩
            obtain ⟨q3, hq3⟩ : ∃ q1 : Nat, q + 3 = q1 := ⟨_, rfl⟩
            have cf := fun j hj => byte_cell H.out (m := j) (by rw [HL.out.1, HL.out.2]; exact hj)
            obtain ⟨b0, hb0⟩ : ∃ b0, (k :: r).getD q 0 = b0 := ⟨_, rfl⟩
            obtain ⟨b1, hb1⟩ : ∃ b0, (k :: r).getD q1 0 = b0 := ⟨_, rfl⟩
            obtain ⟨b2, hb2⟩ : ∃ b0, (k :: r).getD q2 0 = b0 := ⟨_, rfl⟩
            obtain ⟨b3, hb3⟩ : ∃ b0, (k :: r).getD q3 0 = b0 := ⟨_, rfl⟩
            have hmem : ∀ j, j < m → (k :: r).getD j 0 < 256 := fun j hj => by
              rw [List.getD_eq_getElem?_getD, List.getElem?_eq_getElem (by rw [HL.out.1, HL.out.2]; exact hj)]
              exact HBy.out _ (List.getElem_mem _)
            have l0 := hmem q (by omega)
            have l1 := hmem q1 (by omega)
            have l2 := hmem q2 (by omega)
            have l3 := hmem q3 (by omega)
            rw [hb0] at l0
            rw [hb1] at l1
            rw [hb2] at l2
            rw [hb3] at l3
            have cf' : ∀ j, j < m → w.cell? (x.add j) = some (.int .u8 (((k :: r).getD j 0 : Nat) : Int)) := fun j hj => by
              obtain ⟨y, hy, hc⟩ := cf j hj
              cases hy; exact hc
            have tr : ∀ (b j : Nat), (∃ y, some x = some y ∧ w.cell? (y.add j) = some (.int .u8 (b : Int))) → wr.cell? (x.add j) = some (.int .u8 (b : Int)) := by
              rintro b j ⟨y, hy, hc⟩
              cases hy
              rw [HE.out.cell (lt_of_cell hc) (fun h => h)]; exact hc
            have c0 := tr _ _ (cf q (by omega))
            have c1 := tr _ _ (cf q1 (by omega))
            have c2 := tr _ _ (cf q2 (by omega))
            have c3 := tr _ _ (cf q3 (by omega))
            rw [hb0] at c0
            rw [hb1] at c1
            rw [hb2] at c2
            rw [hb3] at c3
            obtain ⟨d1, hd1⟩ : ∃ d1, b0 + b1 * 256 = d1 := ⟨_, rfl⟩
            obtain ⟨d2, hd2⟩ : ∃ d2, d1 + b2 * 65536 = d2 := ⟨_, rfl⟩
            obtain ⟨d3, hd3⟩ : ∃ d3, d2 + b3 * 16777216 = d3 := ⟨_, rfl⟩
            have o1 : bits .or .u32 (b0 : Int) ((b1 : Int) * 256) = (d1 : Int) := by
              have := or_u32_add (a := b0) (b := b1) (s := d1) 8 (by omega) (by omega) (by omega) (by omega)
              simpa using this
            have o2 : bits .or .u32 (d1 : Int) ((b2 : Int) * 65536) = (d2 : Int) := by
              have := or_u32_add (a := d1) (b := b2) (s := d2) 16 (by omega) (by omega) (by omega) (by omega)
              simpa using this
            have o3 : bits .or .u32 (d2 : Int) ((b3 : Int) * 16777216) = (d3 : Int) := by
              have := or_u32_add (a := d2) (b := b3) (s := d3) 24 (by omega) (by omega) (by omega) (by omega)
              simpa using this
            have hd32 : d3 < 4294967296 := by omega
            have HQ3 := Lib.hid (And.intro hq1 (And.intro hq2 hq3))
            have HB4 := Lib.hid (And.intro hb0 (And.intro hb1 (And.intro hb2 hb3)))
            have HD4 := Lib.hid (And.intro hd1 (And.intro hd2 hd3))
            have HC := Lib.hid (And.intro c0 (And.intro c1 (And.intro c2 c3)))
            have HQ := Lib.hid hq
            have cv := HBK.out.cell 1 _ rfl
            have HXB : Hid (x.block < w.heap.size) := Lib.hid (by have := lt_of_cell (cf' q (by omega)); rwa [addr_block] at this)
            clear hb0 hb1 hb2 hb3 hd1 hd2 hd3 hq hmem tr cf cf' c0 c1 c2 c3
            have HO := Lib.hid HW.out.2.2.1
            go_wp2_with fail
            refine wp_region_held_drew (S := fun w' => x.block < w.heap.size ∧ w'.cell? (x.add q) = some (.int .u8 (b0 : Int)) ∧ w'.cell? (x.add q1) = some (.int .u8 (b1 : Int)) ∧ w'.cell? (x.add q2) = some (.int .u8 (b2 : Int)) ∧ w'.cell? (x.add q3) = some (.int .u8 (b3 : Int))) (by kernel_rfl) ⟨HXB.out, HC.out⟩ (fun hHeld => ?_)
            refine wpAnyH_take (i := 0) (v := .pointer (some ⟨w.heap.size, 1, none⟩)) rfl (by kernel_rfl) (by kernel_rfl) (by kernel_rfl) (fun _ _ _ h => h) (Or.inl ⟨by rfl, ?_⟩) hHeld ?_
            · intro wS hSw
              obtain ⟨hs0, hs1, hs2, hs3, hs4⟩ := hSw
              go_simp
              try (first | (intro h; omega) | (rw [IntKind.wrap_u32']; omega) | (simp [IntKind.wrap, IntKind.bits, IntKind.signed]; omega))
            simp only [Act.put, List.setIfInBounds_toArray, List.set_cons_zero, List.set_cons_succ]
            refine wpAnyH_take (i := 2) (v := .slice (some x) m cap) rfl (by kernel_rfl) (by kernel_rfl) (by kernel_rfl) (fun _ _ _ h => h) (Or.inl ⟨by rfl, ?_⟩) hHeld ?_
            · intro wS hSw
              obtain ⟨hs0, hs1, hs2, hs3, hs4⟩ := hSw
              go_simp
              try (first | (intro h; omega) | (rw [IntKind.wrap_u32']; omega) | (simp [IntKind.wrap, IntKind.bits, IntKind.signed]; omega))
            simp only [Act.put, List.setIfInBounds_toArray, List.set_cons_zero, List.set_cons_succ]
            refine wpAnyH_take (i := 3) (v := .int .i64 (q : Int)) rfl (by kernel_rfl) (by kernel_rfl) (by kernel_rfl) (fun _ _ _ h => h) (Or.inl ⟨by rfl, ?_⟩) hHeld ?_
            · intro wS hSw
              obtain ⟨hs0, hs1, hs2, hs3, hs4⟩ := hSw
              go_simp
              try (first | (intro h; omega) | (rw [IntKind.wrap_u32']; omega) | (simp [IntKind.wrap, IntKind.bits, IntKind.signed]; omega))
            simp only [Act.put, List.setIfInBounds_toArray, List.set_cons_zero, List.set_cons_succ]
            refine wpAnyH_take (i := 4) (v := .pointer (some (x.add q))) rfl (by kernel_rfl) (by kernel_rfl) (by kernel_rfl) (fun _ _ _ h => h) (Or.inl ⟨by rfl, ?_⟩) hHeld ?_
            · intro wS hSw
              obtain ⟨hs0, hs1, hs2, hs3, hs4⟩ := hSw
              go_simp
              try (first | (intro h; omega) | (rw [IntKind.wrap_u32']; omega) | (simp [IntKind.wrap, IntKind.bits, IntKind.signed]; omega))
            simp only [Act.put, List.setIfInBounds_toArray, List.set_cons_zero, List.set_cons_succ]
            refine wpAnyH_take (i := 5) (v := .int .u8 (b0 : Int)) rfl (by kernel_rfl) (by kernel_rfl) (by kernel_rfl) (fun _ _ _ h => h) (Or.inl ⟨by rfl, ?_⟩) hHeld ?_
            · intro wS hSw
              obtain ⟨hs0, hs1, hs2, hs3, hs4⟩ := hSw
              go_simp
              try (first | (intro h; omega) | (rw [IntKind.wrap_u32']; omega) | (simp [IntKind.wrap, IntKind.bits, IntKind.signed]; omega))
            simp only [Act.put, List.setIfInBounds_toArray, List.set_cons_zero, List.set_cons_succ]
            refine wpAnyH_take (i := 6) (v := .int .u32 (b0 : Int)) rfl (by kernel_rfl) (by kernel_rfl) (by kernel_rfl) (fun _ _ _ h => h) (Or.inl ⟨by rfl, ?_⟩) hHeld ?_
            · intro wS hSw
              obtain ⟨hs0, hs1, hs2, hs3, hs4⟩ := hSw
              go_simp
              try (first | (intro h; omega) | (rw [IntKind.wrap_u32']; omega) | (simp [IntKind.wrap, IntKind.bits, IntKind.signed]; omega))
            simp only [Act.put, List.setIfInBounds_toArray, List.set_cons_zero, List.set_cons_succ]
            refine wpAnyH_take (i := 7) (v := .slice (some x) m cap) rfl (by kernel_rfl) (by kernel_rfl) (by kernel_rfl) (fun _ _ _ h => h) (Or.inl ⟨by rfl, ?_⟩) hHeld ?_
            · intro wS hSw
              obtain ⟨hs0, hs1, hs2, hs3, hs4⟩ := hSw
              go_simp
              try (first | (intro h; omega) | (rw [IntKind.wrap_u32']; omega) | (simp [IntKind.wrap, IntKind.bits, IntKind.signed]; omega))
            simp only [Act.put, List.setIfInBounds_toArray, List.set_cons_zero, List.set_cons_succ]
            refine wpAnyH_take (i := 8) (v := .int .i64 (q : Int)) rfl (by kernel_rfl) (by kernel_rfl) (by kernel_rfl) (fun _ _ _ h => h) (Or.inl ⟨by rfl, ?_⟩) hHeld ?_
            · intro wS hSw
              obtain ⟨hs0, hs1, hs2, hs3, hs4⟩ := hSw
              go_simp
              try (first | (intro h; omega) | (rw [IntKind.wrap_u32']; omega) | (simp [IntKind.wrap, IntKind.bits, IntKind.signed]; omega))
            simp only [Act.put, List.setIfInBounds_toArray, List.set_cons_zero, List.set_cons_succ]
            refine wpAnyH_take (i := 9) (v := .int .i64 (q1 : Int)) rfl (by kernel_rfl) (by kernel_rfl) (by kernel_rfl) (fun _ _ _ h => h) (Or.inl ⟨by rfl, ?_⟩) hHeld ?_
            · intro wS hSw
              obtain ⟨hs0, hs1, hs2, hs3, hs4⟩ := hSw
              go_simp
              try (first | (intro h; omega) | (rw [IntKind.wrap_u32']; omega) | (simp [IntKind.wrap, IntKind.bits, IntKind.signed]; omega))
            simp only [Act.put, List.setIfInBounds_toArray, List.set_cons_zero, List.set_cons_succ]
            refine wpAnyH_take (i := 10) (v := .pointer (some (x.add q1))) rfl (by kernel_rfl) (by kernel_rfl) (by kernel_rfl) (fun _ _ _ h => h) (Or.inl ⟨by rfl, ?_⟩) hHeld ?_
            · intro wS hSw
              obtain ⟨hs0, hs1, hs2, hs3, hs4⟩ := hSw
              go_simp
              try (first | (intro h; omega) | (rw [IntKind.wrap_u32']; omega) | (simp [IntKind.wrap, IntKind.bits, IntKind.signed]; omega))
            simp only [Act.put, List.setIfInBounds_toArray, List.set_cons_zero, List.set_cons_succ]
            refine wpAnyH_take (i := 11) (v := .int .u8 (b1 : Int)) rfl (by kernel_rfl) (by kernel_rfl) (by kernel_rfl) (fun _ _ _ h => h) (Or.inl ⟨by rfl, ?_⟩) hHeld ?_
            · intro wS hSw
              obtain ⟨hs0, hs1, hs2, hs3, hs4⟩ := hSw
              go_simp
              try (first | (intro h; omega) | (rw [IntKind.wrap_u32']; omega) | (simp [IntKind.wrap, IntKind.bits, IntKind.signed]; omega))
            simp only [Act.put, List.setIfInBounds_toArray, List.set_cons_zero, List.set_cons_succ]
            refine wpAnyH_take (i := 12) (v := .int .u32 (b1 : Int)) rfl (by kernel_rfl) (by kernel_rfl) (by kernel_rfl) (fun _ _ _ h => h) (Or.inl ⟨by rfl, ?_⟩) hHeld ?_
            · intro wS hSw
              obtain ⟨hs0, hs1, hs2, hs3, hs4⟩ := hSw
              go_simp
              try (first | (intro h; omega) | (rw [IntKind.wrap_u32']; omega) | (simp [IntKind.wrap, IntKind.bits, IntKind.signed]; omega))
            simp only [Act.put, List.setIfInBounds_toArray, List.set_cons_zero, List.set_cons_succ]
            refine wpAnyH_take (i := 13) (v := .int .u32 ((b1 : Int) * 256)) rfl (by kernel_rfl) (by kernel_rfl) (by kernel_rfl) (fun _ _ _ h => h) (Or.inl ⟨by rfl, ?_⟩) hHeld ?_
            · intro wS hSw
              obtain ⟨hs0, hs1, hs2, hs3, hs4⟩ := hSw
              go_simp
              try (first | (intro h; omega) | (rw [IntKind.wrap_u32']; omega) | (simp [IntKind.wrap, IntKind.bits, IntKind.signed]; omega))
            simp only [Act.put, List.setIfInBounds_toArray, List.set_cons_zero, List.set_cons_succ]
            refine wpAnyH_take (i := 14) (v := .int .u32 (d1 : Int)) rfl (by kernel_rfl) (by kernel_rfl) (by kernel_rfl) (fun _ _ _ h => h) (Or.inl ⟨by rfl, ?_⟩) hHeld ?_
            · intro wS hSw
              obtain ⟨hs0, hs1, hs2, hs3, hs4⟩ := hSw
              go_simp
              try (first | (intro h; omega) | (rw [IntKind.wrap_u32']; omega) | (simp [IntKind.wrap, IntKind.bits, IntKind.signed]; omega))
            simp only [Act.put, List.setIfInBounds_toArray, List.set_cons_zero, List.set_cons_succ]
            refine wpAnyH_take (i := 15) (v := .slice (some x) m cap) rfl (by kernel_rfl) (by kernel_rfl) (by kernel_rfl) (fun _ _ _ h => h) (Or.inl ⟨by rfl, ?_⟩) hHeld ?_
            · intro wS hSw
              obtain ⟨hs0, hs1, hs2, hs3, hs4⟩ := hSw
              go_simp
              try (first | (intro h; omega) | (rw [IntKind.wrap_u32']; omega) | (simp [IntKind.wrap, IntKind.bits, IntKind.signed]; omega))
            simp only [Act.put, List.setIfInBounds_toArray, List.set_cons_zero, List.set_cons_succ]
            refine wpAnyH_take (i := 16) (v := .int .i64 (q : Int)) rfl (by kernel_rfl) (by kernel_rfl) (by kernel_rfl) (fun _ _ _ h => h) (Or.inl ⟨by rfl, ?_⟩) hHeld ?_
            · intro wS hSw
              obtain ⟨hs0, hs1, hs2, hs3, hs4⟩ := hSw
              go_simp
              try (first | (intro h; omega) | (rw [IntKind.wrap_u32']; omega) | (simp [IntKind.wrap, IntKind.bits, IntKind.signed]; omega))
            simp only [Act.put, List.setIfInBounds_toArray, List.set_cons_zero, List.set_cons_succ]
            refine wpAnyH_take (i := 17) (v := .int .i64 (q2 : Int)) rfl (by kernel_rfl) (by kernel_rfl) (by kernel_rfl) (fun _ _ _ h => h) (Or.inl ⟨by rfl, ?_⟩) hHeld ?_
            · intro wS hSw
              obtain ⟨hs0, hs1, hs2, hs3, hs4⟩ := hSw
              go_simp
              try (first | (intro h; omega) | (rw [IntKind.wrap_u32']; omega) | (simp [IntKind.wrap, IntKind.bits, IntKind.signed]; omega))
            simp only [Act.put, List.setIfInBounds_toArray, List.set_cons_zero, List.set_cons_succ]
            refine wpAnyH_take (i := 18) (v := .pointer (some (x.add q2))) rfl (by kernel_rfl) (by kernel_rfl) (by kernel_rfl) (fun _ _ _ h => h) (Or.inl ⟨by rfl, ?_⟩) hHeld ?_
            · intro wS hSw
              obtain ⟨hs0, hs1, hs2, hs3, hs4⟩ := hSw
              go_simp
              try (first | (intro h; omega) | (rw [IntKind.wrap_u32']; omega) | (simp [IntKind.wrap, IntKind.bits, IntKind.signed]; omega))
            simp only [Act.put, List.setIfInBounds_toArray, List.set_cons_zero, List.set_cons_succ]
            refine wpAnyH_take (i := 19) (v := .int .u8 (b2 : Int)) rfl (by kernel_rfl) (by kernel_rfl) (by kernel_rfl) (fun _ _ _ h => h) (Or.inl ⟨by rfl, ?_⟩) hHeld ?_
            · intro wS hSw
              obtain ⟨hs0, hs1, hs2, hs3, hs4⟩ := hSw
              go_simp
              try (first | (intro h; omega) | (rw [IntKind.wrap_u32']; omega) | (simp [IntKind.wrap, IntKind.bits, IntKind.signed]; omega))
            simp only [Act.put, List.setIfInBounds_toArray, List.set_cons_zero, List.set_cons_succ]
            refine wpAnyH_take (i := 20) (v := .int .u32 (b2 : Int)) rfl (by kernel_rfl) (by kernel_rfl) (by kernel_rfl) (fun _ _ _ h => h) (Or.inl ⟨by rfl, ?_⟩) hHeld ?_
            · intro wS hSw
              obtain ⟨hs0, hs1, hs2, hs3, hs4⟩ := hSw
              go_simp
              try (first | (intro h; omega) | (rw [IntKind.wrap_u32']; omega) | (simp [IntKind.wrap, IntKind.bits, IntKind.signed]; omega))
            simp only [Act.put, List.setIfInBounds_toArray, List.set_cons_zero, List.set_cons_succ]
            refine wpAnyH_take (i := 21) (v := .int .u32 ((b2 : Int) * 65536)) rfl (by kernel_rfl) (by kernel_rfl) (by kernel_rfl) (fun _ _ _ h => h) (Or.inl ⟨by rfl, ?_⟩) hHeld ?_
            · intro wS hSw
              obtain ⟨hs0, hs1, hs2, hs3, hs4⟩ := hSw
              go_simp
              try (first | (intro h; omega) | (rw [IntKind.wrap_u32']; omega) | (simp [IntKind.wrap, IntKind.bits, IntKind.signed]; omega))
            simp only [Act.put, List.setIfInBounds_toArray, List.set_cons_zero, List.set_cons_succ]
            refine wpAnyH_take (i := 22) (v := .int .u32 (d2 : Int)) rfl (by kernel_rfl) (by kernel_rfl) (by kernel_rfl) (fun _ _ _ h => h) (Or.inl ⟨by rfl, ?_⟩) hHeld ?_
            · intro wS hSw
              obtain ⟨hs0, hs1, hs2, hs3, hs4⟩ := hSw
              go_simp
              try (first | (intro h; omega) | (rw [IntKind.wrap_u32']; omega) | (simp [IntKind.wrap, IntKind.bits, IntKind.signed]; omega))
            simp only [Act.put, List.setIfInBounds_toArray, List.set_cons_zero, List.set_cons_succ]
            refine wpAnyH_take (i := 23) (v := .slice (some x) m cap) rfl (by kernel_rfl) (by kernel_rfl) (by kernel_rfl) (fun _ _ _ h => h) (Or.inl ⟨by rfl, ?_⟩) hHeld ?_
            · intro wS hSw
              obtain ⟨hs0, hs1, hs2, hs3, hs4⟩ := hSw
              go_simp
              try (first | (intro h; omega) | (rw [IntKind.wrap_u32']; omega) | (simp [IntKind.wrap, IntKind.bits, IntKind.signed]; omega))
            simp only [Act.put, List.setIfInBounds_toArray, List.set_cons_zero, List.set_cons_succ]
            refine wpAnyH_take (i := 24) (v := .int .i64 (q : Int)) rfl (by kernel_rfl) (by kernel_rfl) (by kernel_rfl) (fun _ _ _ h => h) (Or.inl ⟨by rfl, ?_⟩) hHeld ?_
            · intro wS hSw
              obtain ⟨hs0, hs1, hs2, hs3, hs4⟩ := hSw
              go_simp
              try (first | (intro h; omega) | (rw [IntKind.wrap_u32']; omega) | (simp [IntKind.wrap, IntKind.bits, IntKind.signed]; omega))
            simp only [Act.put, List.setIfInBounds_toArray, List.set_cons_zero, List.set_cons_succ]
            refine wpAnyH_take (i := 25) (v := .int .i64 (q3 : Int)) rfl (by kernel_rfl) (by kernel_rfl) (by kernel_rfl) (fun _ _ _ h => h) (Or.inl ⟨by rfl, ?_⟩) hHeld ?_
            · intro wS hSw
              obtain ⟨hs0, hs1, hs2, hs3, hs4⟩ := hSw
              go_simp
              try (first | (intro h; omega) | (rw [IntKind.wrap_u32']; omega) | (simp [IntKind.wrap, IntKind.bits, IntKind.signed]; omega))
            simp only [Act.put, List.setIfInBounds_toArray, List.set_cons_zero, List.set_cons_succ]
            refine wpAnyH_take (i := 26) (v := .pointer (some (x.add q3))) rfl (by kernel_rfl) (by kernel_rfl) (by kernel_rfl) (fun _ _ _ h => h) (Or.inl ⟨by rfl, ?_⟩) hHeld ?_
            · intro wS hSw
              obtain ⟨hs0, hs1, hs2, hs3, hs4⟩ := hSw
              go_simp
              try (first | (intro h; omega) | (rw [IntKind.wrap_u32']; omega) | (simp [IntKind.wrap, IntKind.bits, IntKind.signed]; omega))
            simp only [Act.put, List.setIfInBounds_toArray, List.set_cons_zero, List.set_cons_succ]
            refine wpAnyH_take (i := 27) (v := .int .u8 (b3 : Int)) rfl (by kernel_rfl) (by kernel_rfl) (by kernel_rfl) (fun _ _ _ h => h) (Or.inl ⟨by rfl, ?_⟩) hHeld ?_
            · intro wS hSw
              obtain ⟨hs0, hs1, hs2, hs3, hs4⟩ := hSw
              go_simp
              try (first | (intro h; omega) | (rw [IntKind.wrap_u32']; omega) | (simp [IntKind.wrap, IntKind.bits, IntKind.signed]; omega))
            simp only [Act.put, List.setIfInBounds_toArray, List.set_cons_zero, List.set_cons_succ]
            refine wpAnyH_take (i := 28) (v := .int .u32 (b3 : Int)) rfl (by kernel_rfl) (by kernel_rfl) (by kernel_rfl) (fun _ _ _ h => h) (Or.inl ⟨by rfl, ?_⟩) hHeld ?_
            · intro wS hSw
              obtain ⟨hs0, hs1, hs2, hs3, hs4⟩ := hSw
              go_simp
              try (first | (intro h; omega) | (rw [IntKind.wrap_u32']; omega) | (simp [IntKind.wrap, IntKind.bits, IntKind.signed]; omega))
            simp only [Act.put, List.setIfInBounds_toArray, List.set_cons_zero, List.set_cons_succ]
            refine wpAnyH_take (i := 29) (v := .int .u32 ((b3 : Int) * 16777216)) rfl (by kernel_rfl) (by kernel_rfl) (by kernel_rfl) (fun _ _ _ h => h) (Or.inl ⟨by rfl, ?_⟩) hHeld ?_
            · intro wS hSw
              obtain ⟨hs0, hs1, hs2, hs3, hs4⟩ := hSw
              go_simp
              try (first | (intro h; omega) | (rw [IntKind.wrap_u32']; omega) | (simp [IntKind.wrap, IntKind.bits, IntKind.signed]; omega))
            simp only [Act.put, List.setIfInBounds_toArray, List.set_cons_zero, List.set_cons_succ]
            refine wpAnyH_take (i := 30) (v := .int .u32 (d3 : Int)) rfl (by kernel_rfl) (by kernel_rfl) (by kernel_rfl) (fun _ _ _ h => h) (Or.inl ⟨by rfl, ?_⟩) hHeld ?_
            · intro wS hSw
              obtain ⟨hs0, hs1, hs2, hs3, hs4⟩ := hSw
              go_simp
              try (first | (intro h; omega) | (rw [IntKind.wrap_u32']; omega) | (simp [IntKind.wrap, IntKind.bits, IntKind.signed]; omega))
            simp only [Act.put, List.setIfInBounds_toArray, List.set_cons_zero, List.set_cons_succ]
            refine wpAnyH_ready (rs := [1, 31]) (by kernel_rfl) (by simp) ?_
            refine AllReadyH.cons rfl (fun K hK => ?_) ?_
            · go_simp
              refine hK.out _ _ (by exact hHeld) (fun hHeld => ?_)
              clear hK K
              refine wpAnyH_ready (rs := [31]) (by kernel_rfl) (by simp) ?_
              refine AllReadyH.cons rfl (fun K hK => ?_) ?_
              · go_simp
                refine hK.out _ _ ⟨HXB.out, (Eq.trans (Chg.cell (S := fun _ => False) (by repeat (first | exact Chg.refl _ | refine Chg.drew ?_ | refine Chg.alloc ?_ _)) (lt_of_cell HC.out.1) (fun h => h)) HC.out.1), (Eq.trans (Chg.cell (S := fun _ => False) (by repeat (first | exact Chg.refl _ | refine Chg.drew ?_ | refine Chg.alloc ?_ _)) (lt_of_cell HC.out.2.1) (fun h => h)) HC.out.2.1), (Eq.trans (Chg.cell (S := fun _ => False) (by repeat (first | exact Chg.refl _ | refine Chg.drew ?_ | refine Chg.alloc ?_ _)) (lt_of_cell HC.out.2.2.1) (fun h => h)) HC.out.2.2.1), (Eq.trans (Chg.cell (S := fun _ => False) (by repeat (first | exact Chg.refl _ | refine Chg.drew ?_ | refine Chg.alloc ?_ _)) (lt_of_cell HC.out.2.2.2) (fun h => h)) HC.out.2.2.2)⟩ (fun hHeld => ?_)
                clear hK K
                refine wpAnyH_ready (rs := [32]) (by kernel_rfl) (by simp) ?_
                refine AllReadyH.cons rfl (fun K hK => ?_) ?_
                · refine step_append_st rfl (.tmp 44) (.tmp 74) 26 rfl (w.heap.size + 1) 77 i0 (.int .u32 0) 1 4 Try.underlying26 HI.out.1 HI.out.2.1 HI.out.2.2.1 HI.out.2.2.2 rfl (by decide) v i _ (by simp [Act.eval]) (by exact (HO.out.alloc _)) ⟨wr.heap.size, 0, none⟩ 1 1 [.int .u32 (d3 : Int)] (by simp [Act.eval]) rfl (by exact news32 _ _ _) (by simp [Value.oneCell']) (by unfold maxLen; omega) (by omega) (by simp; omega) ?_
                  intro v' w' u1 u2 u3
                  obtain ⟨sa, sc, rfl⟩ := own_slice u1
                  have hg := unb_grow (HE.out.drew) hpl HBK.out HO.out u1 u2 HXB.out HC.out
                  have HG := Lib.hid hg
                  clear u1 u2 u3 hg
                  refine hK.out _ _ HG.out.2.2.2 (fun hHeld => ?_)
                  clear hK K
                  simp only [Act.put, List.setIfInBounds_toArray, List.set_cons_zero, List.set_cons_succ]
                  have k0 := HG.out.2.1.cell 0 _ rfl
                  have k1 := HG.out.2.1.cell 1 _ rfl
                  have f1 := HG.out.2.1.frozen 1
                  refine wpAnyH_take (i := 33) (v := .pointer (some ⟨w.heap.size, 1, none⟩)) rfl (by kernel_rfl) (by kernel_rfl) (by kernel_rfl) (fun _ _ _ h => h) (Or.inl ⟨by rfl, ?_⟩) hHeld ?_
                  · intro wS hSw
                    obtain ⟨hs0, hs1, hs2, hs3, hs4⟩ := hSw
                    go_simp
                    try (first | (intro h; omega) | (rw [IntKind.wrap_u32']; omega) | (simp [IntKind.wrap, IntKind.bits, IntKind.signed]; omega))
                  simp only [Act.put, List.setIfInBounds_toArray, List.set_cons_zero, List.set_cons_succ]
                  refine wpAnyH_ready (rs := [34]) (by kernel_rfl) (by simp) ?_
                  refine AllReadyH.cons rfl (fun K hK => ?_) ?_
                  · go_simp
                    have HGS := Lib.hid (unb_store HG.out)
                    refine hK.out _ _ HGS.out.2.2.2 (fun hHeld => ?_)
                    clear hK K hHeld k0 k1 f1
                    refine wpAnyH_done (by kernel_rfl) ?_ _
                    go_wp2_with fail
                    go_roundg (k - (i + 1))
                    case measure => omega
                    case rel => exact ⟨i + 1, unb_next HW.out hin HQ.out HQ3.out HB4.out HD4.out hd32 (by rw [HL.out.1, HL.out.2]; exact hqm) HGS.out, congrArg (Value.int .i64) (by omega), rfl, rfl⟩
                  exact AllReadyH.nil
                exact AllReadyH.nil
              exact AllReadyH.nil
            refine AllReadyH.cons rfl (fun K hK => ?_) ?_
            · go_simp
              refine hK.out _ _ ⟨HXB.out, (Eq.trans (Chg.cell (S := fun _ => False) (by repeat (first | exact Chg.refl _ | refine Chg.drew ?_ | refine Chg.alloc ?_ _)) (lt_of_cell HC.out.1) (fun h => h)) HC.out.1), (Eq.trans (Chg.cell (S := fun _ => False) (by repeat (first | exact Chg.refl _ | refine Chg.drew ?_ | refine Chg.alloc ?_ _)) (lt_of_cell HC.out.2.1) (fun h => h)) HC.out.2.1), (Eq.trans (Chg.cell (S := fun _ => False) (by repeat (first | exact Chg.refl _ | refine Chg.drew ?_ | refine Chg.alloc ?_ _)) (lt_of_cell HC.out.2.2.1) (fun h => h)) HC.out.2.2.1), (Eq.trans (Chg.cell (S := fun _ => False) (by repeat (first | exact Chg.refl _ | refine Chg.drew ?_ | refine Chg.alloc ?_ _)) (lt_of_cell HC.out.2.2.2) (fun h => h)) HC.out.2.2.2)⟩ (fun hHeld => ?_)
              clear hK K
              refine wpAnyH_ready (rs := [1]) (by kernel_rfl) (by simp) ?_
              refine AllReadyH.cons rfl (fun K hK => ?_) ?_
              · go_simp
                refine hK.out _ _ (by exact hHeld) (fun hHeld => ?_)
                clear hK K
                refine wpAnyH_ready (rs := [32]) (by kernel_rfl) (by simp) ?_
                refine AllReadyH.cons rfl (fun K hK => ?_) ?_
                · refine step_append_st rfl (.tmp 44) (.tmp 74) 26 rfl (w.heap.size + 1) 77 i0 (.int .u32 0) 1 4 Try.underlying26 HI.out.1 HI.out.2.1 HI.out.2.2.1 HI.out.2.2.2 rfl (by decide) v i _ (by simp [Act.eval]) (by exact (HO.out.alloc _)) ⟨wr.heap.size, 0, none⟩ 1 1 [.int .u32 (d3 : Int)] (by simp [Act.eval]) rfl (by exact news32 _ _ _) (by simp [Value.oneCell']) (by unfold maxLen; omega) (by omega) (by simp; omega) ?_
                  intro v' w' u1 u2 u3
                  obtain ⟨sa, sc, rfl⟩ := own_slice u1
                  have hg := unb_grow (HE.out.drew) hpl HBK.out HO.out u1 u2 HXB.out HC.out
                  have HG := Lib.hid hg
                  clear u1 u2 u3 hg
                  refine hK.out _ _ HG.out.2.2.2 (fun hHeld => ?_)
                  clear hK K
                  simp only [Act.put, List.setIfInBounds_toArray, List.set_cons_zero, List.set_cons_succ]
                  have k0 := HG.out.2.1.cell 0 _ rfl
                  have k1 := HG.out.2.1.cell 1 _ rfl
                  have f1 := HG.out.2.1.frozen 1
                  refine wpAnyH_take (i := 33) (v := .pointer (some ⟨w.heap.size, 1, none⟩)) rfl (by kernel_rfl) (by kernel_rfl) (by kernel_rfl) (fun _ _ _ h => h) (Or.inl ⟨by rfl, ?_⟩) hHeld ?_
                  · intro wS hSw
                    obtain ⟨hs0, hs1, hs2, hs3, hs4⟩ := hSw
                    go_simp
                    try (first | (intro h; omega) | (rw [IntKind.wrap_u32']; omega) | (simp [IntKind.wrap, IntKind.bits, IntKind.signed]; omega))
                  simp only [Act.put, List.setIfInBounds_toArray, List.set_cons_zero, List.set_cons_succ]
                  refine wpAnyH_ready (rs := [34]) (by kernel_rfl) (by simp) ?_
                  refine AllReadyH.cons rfl (fun K hK => ?_) ?_
                  · go_simp
                    have HGS := Lib.hid (unb_store HG.out)
                    refine hK.out _ _ HGS.out.2.2.2 (fun hHeld => ?_)
                    clear hK K hHeld k0 k1 f1
                    refine wpAnyH_done (by kernel_rfl) ?_ _
                    go_wp2_with fail
                    go_roundg (k - (i + 1))
                    case measure => omega
                    case rel => exact ⟨i + 1, unb_next HW.out hin HQ.out HQ3.out HB4.out HD4.out hd32 (by rw [HL.out.1, HL.out.2]; exact hqm) HGS.out, congrArg (Value.int .i64) (by omega), rfl, rfl⟩
                  exact AllReadyH.nil
                exact AllReadyH.nil
              exact AllReadyH.nil
            exact AllReadyH.nil
          · obtain rfl : i = k := by omega
            have hin' : ¬ (i : Int) < i := by omega
            obtain ⟨a0, cap0, rfl⟩ := own_slice HW.out.2.2.1
            have hM := natMay_any false (Cells.of_own (by rw [HW.out.1]; exact HW.out.2.2.1) : Cells wr a0 l.length cap0 (wordCells l))
            rw [HW.out.1] at hM
            have HM := Lib.hid hM
            clear hM
            have k0 := HBK.out.cell 0 _ rfl
            have k1 := HBK.out.cell 1 _ rfl
            cases hwh : whole l with
            | true =>
              have hmn : mayNat false l = true := hwh
              rw [hmn] at HM
              have HU := Lib.hid (fun W hc => unb_end (w := w) (W := W) h255 h64 HR.out HW.out hc hwh)
              clear hwh hmn
              go_wp2_with (go_at_call 51; refine HM.out.mono ?_; rintro e w' ⟨rfl, hx⟩; have kb := HBK.out.chg hx (fun h => h); have k0 := kb.cell 0 _ rfl; have k1 := kb.cell 1 _ rfl; have f0 := kb.frozen 0; have f1 := kb.frozen 1; have q0 := (kb.set 0 (.bool false)).cell 0 _ rfl; have q1 := ((kb.set 0 (.bool false)).set 1 (.slice a0 i cap0)).cell 1 _ rfl; have q2 := ((kb.set 0 (.bool false)).set 1 (.slice a0 i cap0)).cell 0 _ rfl; have HXX := Lib.hid hx; clear kb hx)
              (try simp only [Exit.inBlock, Exit.then])
              refine bodyPost_ret (by simp [results, Try.results57, go_sem, q0, q1, q2]; try rfl) rfl ?_
              have hcc : Chg (fun b => b = w.heap.size) wr ((w'.setCell ⟨w.heap.size, 0, none⟩ (.bool false)).setCell ⟨w.heap.size, 1, none⟩ (.slice a0 i cap0)) := (Chg.setCell (S := fun b => b = w.heap.size) (Chg.setCell (S := fun b => b = w.heap.size) (HXX.out.mono (fun _ _ h => h.elim)) ⟨w.heap.size, 0, none⟩ _ (fun _ => rfl)) ⟨w.heap.size, 1, none⟩ _ (fun _ => rfl))
              exact ⟨by repeat (first | exact HE.out | (refine Chg.setCell ?_ _ _ (by intro h; simp at h)) | refine Chg.trans ?_ HXX.out), HU.out _ hcc⟩
            | false =>
              have hmn : mayNat false l = false := hwh
              rw [hmn] at HM
              have HU := Lib.hid (fun W => unb_bad (w := w) (W := W) h255 h64 HW.out hwh)
              clear hwh hmn
              go_wp2_with (go_at_call 51; refine HM.out.mono ?_; rintro e w' ⟨rfl, hx⟩; have kb := HBK.out.chg hx (fun h => h); have k0 := kb.cell 0 _ rfl; have k1 := kb.cell 1 _ rfl; have f0 := kb.frozen 0; have f1 := kb.frozen 1; have q0 := (kb.set 0 (.bool false)).cell 0 _ rfl; have q1 := ((kb.set 0 (.bool false)).set 1 (.slice none 0 0)).cell 1 _ rfl; have q2 := ((kb.set 0 (.bool false)).set 1 (.slice none 0 0)).cell 0 _ rfl; have HXX := Lib.hid hx; clear kb hx)
              (try simp only [Exit.inBlock, Exit.then])
              refine bodyPost_ret (by simp [results, Try.results57, go_sem, q0, q1, q2]; try rfl) rfl ?_
              exact ⟨by repeat (first | exact HE.out | (refine Chg.setCell ?_ _ _ (by intro h; simp at h)) | refine Chg.trans ?_ HXX.out), HU.out _⟩
end Go.Proofs.Ytnamcghcgcknpaa
