/-
  Writing a cert (chapter 24): the walk of Encode.
-/
import Derived.Test.YtnamcghcgcknpaaEncF
namespace Go.Proofs.Ytnamcghcgcknpaa
open Go.RowKit
set_option linter.unusedVariables false

set_option maxRecDepth 100000 in
set_option maxHeartbeats 4000000 in
theorem enc_any {w : World} {c : Crt} {a1 : Option Addr} {cap1 : Nat} {a2 : Option Addr} {cap2 : Nat} {a3 : Option Addr} {cap3 : Nat} {us : List Value} (h : CrtV w c a1 cap1 a2 cap2 a3 cap3 us) (hx : c.claim.x < 18446744073709551616) (h32 : ∀ d ∈ c.claim.w, d < 4294967296) :
    Calls Try.prog 10 #[crtV c a1 cap1 a2 cap2 a3 cap3] w (Wrote w (codeC c) (eCrt c)) := by
  obtain ⟨i0, hi0, hii⟩ := Option.map_eq_some_iff.1 info_u8
  obtain ⟨hz0, hz1, hz2⟩ : i0.zero = some (.int .u8 0) ∧ i0.size = 1 ∧ i0.bytes = 1 := by
    have := hii; simp at this; exact this
  have HI := Lib.hid (And.intro hi0 (And.intro hz0 (And.intro hz1 hz2)))
  clear hi0 hii hz0 hz1 hz2
  have hb : Ext w (w.alloc (Obj.cells #[.int .i64 c.conj, .slice a1 c.nodes.length cap1, .slice a2 c.walks.length cap2, .int .i64 c.claim.sem, .bool c.claim.inf, .slice a3 c.claim.w.length cap3, .int .i64 c.claim.level, .float .f64 c.claim.x] 33)) := (Chg.refl w).alloc _
  have hbk := Blk.new w #[.int .i64 c.conj, .slice a1 c.nodes.length cap1, .slice a2 c.walks.length cap2, .int .i64 c.claim.sem, .bool c.claim.inf, .slice a3 c.claim.w.length cap3, .int .i64 c.claim.level, .float .f64 c.claim.x] 33
  have hM := mayC_any (h.ext hb)
  have hE := fun w2 (k : Ext w w2) => encV_any (w := w2) (h.ext k).words hx h32
  have hc1 := h.nodes.1
  have hc2 := h.walks.1
  have hm1 := h.nodes.2.1
  have hm2 := h.walks.2.1
  unfold maxLen at hm1 hm2
  have H := Lib.hid h
  unfold crtV at hM ⊢
  unfold valV at hE
  obtain ⟨conj, hconj⟩ : ∃ z, c.conj = z := ⟨_, rfl⟩
  obtain ⟨sem, hsem⟩ : ∃ z, c.claim.sem = z := ⟨_, rfl⟩
  obtain ⟨inf, hinf⟩ : ∃ z, c.claim.inf = z := ⟨_, rfl⟩
  obtain ⟨lev, hlev⟩ : ∃ z, c.claim.level = z := ⟨_, rfl⟩
  obtain ⟨x, hxx⟩ : ∃ z, c.claim.x = z := ⟨_, rfl⟩
  obtain ⟨L, hL⟩ : ∃ z, c.claim.w.length = z := ⟨_, rfl⟩
  obtain ⟨n, hn⟩ : ∃ z, c.nodes.length = z := ⟨_, rfl⟩
  obtain ⟨m, hm⟩ : ∃ z, c.walks.length = z := ⟨_, rfl⟩
  rw [hsem, hinf, hlev, hxx, hL] at hE
  rw [hconj, hsem, hinf, hlev, hxx, hL, hn, hm] at hb hbk hM
  rw [hconj, hsem, hinf, hlev, hxx, hL, hn, hm]
  rw [hn] at hc1
  rw [hm] at hc2
  obtain ⟨mb, hmb⟩ : ∃ z, mayC c = z := ⟨_, rfl⟩
  rw [hmb] at hM
  obtain ⟨vc, hvc⟩ : ∃ z, codeV c.claim = z := ⟨_, rfl⟩
  obtain ⟨CL, hCL⟩ : ∃ z, eVal c.claim = z := ⟨_, rfl⟩
  rw [hvc, hCL] at hE
  have hcode : codeC c = if mb then vc else 16 := by rw [codeC, hmb, hvc]
  have HN := Lib.hid (And.intro hn (And.intro hm (And.intro hconj (And.intro hmb hCL))))
  have HX := Lib.hid hb
  have HK := Lib.hid hbk
  have HM := Lib.hid hM
  have HE := Lib.hid hE
  obtain ⟨R, hR⟩ : ∃ z, eCrt c = z := ⟨_, rfl⟩
  rw [hR]
  have HR := Lib.hid hR
  obtain ⟨cc, hcc⟩ : ∃ z, codeC c = z := ⟨_, rfl⟩
  rw [hcc] at hcode ⊢
  have HCC := Lib.hid hcode
  have HVC : Hid (codeV c.claim = vc) := Lib.hid hvc
  clear h hx h32 hb hbk hM hE hconj hsem hinf hlev hxx hL hn hm hmb hvc hCL hcode hR hcc
  cases mb with
  | false =>
    have hc16 : cc = 16 := HCC.out
    subst hc16
    go_enter Try.func10, Try.ntmps10
    go_wp2_with (go_at_call 22; refine HM.out.mono ?_; rintro e w' ⟨rfl, hx⟩)
    go_returns
    exact ⟨HX.out.trans hx, .inr ⟨by decide, rfl⟩⟩
  | true =>
    have hcv : vc = cc := HCC.out.symm
    subst hcv
    clear HCC
    obtain ⟨⟨f1, f2, f3, f4⟩, f5, f6⟩ := mayC_facts HN.out.2.2.2.1
    rw [HN.out.2.2.1] at f1 f2
    rw [HN.out.1] at f3
    rw [HN.out.2.1] at f4
    have HF5 := Lib.hid (And.intro f5 f6)
    clear f5 f6
    obtain ⟨cj, hcj⟩ : ∃ cj : Nat, conj.toNat = cj := ⟨_, rfl⟩
    obtain rfl : conj = (cj : Int) := by omega
    have HCJ : Hid (c.conj.toNat = cj) := Lib.hid (by rw [HN.out.2.2.1]; simp)
    clear hcj
    have hcjm : (cj : Int) % 256 = cj := by omega
    have hnm : (n : Int) % 256 = n := by omega
    have hmm : (m : Int) % 256 = m := by omega
    go_enter Try.func10, Try.ntmps10
    go_wp2_with fail
    refine HM.out.mono ?_
    rintro e w2 ⟨rfl, hx⟩
    have kb := HK.out.chg hx (fun h => h)
    obtain ⟨g0, f0, g1, f1', g2, f2', g3, f3', g4, f4', g5, f5', g6, f6', g7, f7'⟩ := blk8_base kb
    have HB2 := Lib.hid kb
    have HX2 := Lib.hid (HX.out.trans hx)
    have HW := Lib.hid (HE.out w2 HX2.out)
    clear kb hx
    go_wp2_with fail
    refine HW.out.mono ?_
    rintro e w3 ⟨hx3, hw⟩
    rcases hw with ⟨h0, cv, rfl, hown⟩ | ⟨h0, rfl⟩
    · have HVC0 : Hid (codeV c.claim = 0) := Lib.hid (by rw [HVC.out, h0])
      clear HVC
      subst h0
      have HVC := HVC0
      have hsz2 : w.heap.size + 1 ≤ w2.heap.size := HB2.out.lt
      obtain ⟨cg, ccap, rfl, hcnews⟩ := own_form hown (by rw [← HN.out.2.2.2.2]; simp [eVal])
      have kb := HB2.out.chg hx3 (fun h => h)
      obtain ⟨g0, f0, g1, f1', g2, f2', g3, f3', g4, f4', g5, f5', g6, f6', g7, f7'⟩ := blk8_base kb
      have HB3 := Lib.hid kb
      have HX3 := Lib.hid (HX2.out.trans hx3)
      have HOC := Lib.hid (ownsRow_base hown hsz2)
      have hCg := (hown.lt cg rfl).2
      have hsz3 := hx3.size
      have hO0 : OutSt w (w3.alloc (.cells #[.int .u8 67, .int .u8 (cj : Int), .int .u8 (n : Int)] 5)) #[.int .i64 (cj : Int), .slice a1 n cap1, .slice a2 m cap2, .int .i64 sem, .bool inf, .slice a3 L cap3, .int .i64 lev, .float .f64 x] (.slice (some ⟨w3.heap.size, 0, none⟩) 3 3) (pre0 c 0) (.slice (some ⟨cg, 0, none⟩) CL.length ccap) CL := by
        have hp : pre0 c 0 = [67, cj, n] := by rw [pre0, HCJ.out, HN.out.1]; simp [eNums]
        refine ⟨HX3.out.alloc _, kb.chg (S := fun _ => False) ((Chg.refl w3).alloc _) (fun h => h), ?_, own_low HOC.out (S := fun _ => False) ((Chg.refl w3).alloc _) (fun _ _ h => h), fun g hg hs => ?_⟩
        · rw [hp]
          exact World.ownsRow_lit (base := w.heap.size + 1) (e := 5) (size := 1) w3 #[.int .u8 67, .int .u8 (cj : Int), .int .u8 (n : Int)] 3 (by omega) (by unfold maxLen; omega) rfl
        · simp [Value.ownBlock] at hg hs
          omega
      have HO0 := Lib.hid hO0
      have kx := fun o => ((kb.chg (S := fun _ => False) ((Chg.refl w3).alloc o) (fun h => h)).cell 1 _ rfl)
      clear hx3 hown kb hO0 hcnews
      go_wp2_with fail
      go_loopg [6, 37] n (fun g l6 l37 wr => ∃ (i : Nat) (v : Value), v = l6 ∧ i ≤ n ∧ OutSt w wr #[.int .i64 (cj : Int), .slice a1 n cap1, .slice a2 m cap2, .int .i64 sem, .bool inf, .slice a3 L cap3, .int .i64 lev, .float .f64 x] v (pre0 c i) (.slice (some ⟨cg, 0, none⟩) CL.length ccap) CL ∧ l37 = .int .i64 i ∧ g = n - i)
      case atStart => exact ⟨0, _, rfl, Nat.zero_le _, HO0.out, rfl, rfl⟩
      case round =>
        obtain ⟨i, v, rfl, hi, hst, rfl, rfl⟩ := hrel
        have HS := Lib.hid hst
        have hpl := pre0_le HN.out.2.2.2.1 i
        have hszr := hst.box.lt
        by_cases hin : i < n
        · have hin' : (i : Int) < n := by omega
          obtain ⟨z, hz⟩ : ∃ z, c.nodes[i]? = some z := ⟨_, List.getElem?_eq_getElem (by rw [HN.out.1]; exact hin)⟩
          obtain ⟨xa, rfl, c0⟩ := int_cell H.out.nodes hz
          have d0 := (hst.ext.cell (lt_of_cell c0) (fun h => h)).trans c0
          have hz2 := HF5.out.1 z (List.mem_of_getElem? hz)
          obtain ⟨k, hk⟩ : ∃ k : Nat, z.toNat = k := ⟨_, rfl⟩
          obtain rfl : z = (k : Int) := by omega
          have HZ := Lib.hid hz
          have HEN := Lib.hid (enum_any k (by omega) wr)
          have hel := eNum_nine (show k < 9223372036854775808 by omega)
          have hel0 := eNum_len k
          have hk' : (k : Int).toNat = k := by simp
          obtain ⟨MM, hMM⟩ : ∃ MM, eNum k = MM := ⟨_, rfl⟩
          rw [hMM] at HEN hel hel0
          have HMM : Hid (eNum (k : Int).toNat = MM) := Lib.hid (by rw [hk', hMM])
          clear c0 hz hst hMM hk hk'
          go_wp2_with fail
          refine HEN.out.mono ?_
          rintro e w4 ⟨hx4, vn, rfl, hnown⟩
          obtain ⟨g, c2, rfl, hnews⟩ := own_form hnown hel0
          have HOS := Lib.hid (HS.out.more hx4)
          have HNEW := Lib.hid hnews
          have hsz4 := hx4.size
          clear hx4 hnown hnews
          go_wp2_with (at_builtin; refine wpList_append_st _ rfl (.tmp 41) (.tmp 43) 22 rfl (w.heap.size + 1) 5 i0 (.int .u8 0) 1 1 Try.underlying22 HI.out.1 HI.out.2.1 HI.out.2.2.1 HI.out.2.2.2 rfl (by decide) v (pre0 c i).length _ rfl (by exact HOS.out.own) ⟨g, 0, none⟩ MM.length c2 (byteCells MM) rfl (by rw [bcells_length, Nat.mul_one]) (by exact HNEW.out) (bcells_one MM) (by unfold maxLen; omega) (by omega) (by omega) ?_; intro v' w' u1 u2 u3; have HF := Lib.hid (HOS.out.grow u1 u2 u3); clear u1 u2 u3)
          go_roundg (n - (i + 1))
          case measure => omega
          case rel =>
            have h1 := HF.out
            rw [← HMM.out, ← pre0_step HZ.out] at h1
            exact ⟨i + 1, v', rfl, by omega, h1, rfl, rfl⟩
        · have e0 : n = i := by omega
          subst e0
          have hin' : ¬ (n : Int) < n := by omega
          obtain ⟨g0, f0, g1, f1', g2, f2', g3, f3', g4, f4', g5, f5', g6, f6', g7, f7'⟩ := blk8_base hst.box
          have HOS := Lib.hid (hst.more ((Chg.refl (S := fun _ => False) wr).alloc (.cells #[.int .u8 (m : Int)] 5)))
          have kq := fun o => ((hst.box.chg (S := fun _ => False) ((Chg.refl wr).alloc o) (fun h => h)).cell 2 _ rfl)
          clear hst
          go_wp2_with (at_builtin; refine wpList_append_st _ rfl (.tmp 46) (.tmp 51) 22 rfl (w.heap.size + 1) 5 i0 (.int .u8 0) 1 1 Try.underlying22 HI.out.1 HI.out.2.1 HI.out.2.2.1 HI.out.2.2.2 rfl (by decide) v (pre0 c n).length _ rfl (by exact HOS.out.own) ⟨wr.heap.size, 0, none⟩ 1 1 [.int .u8 (m : Int)] rfl rfl (by exact news8 _ _ _) (by simp [Value.oneCell']) (by unfold maxLen; omega) (by omega) (by simp only [World.size_alloc]; omega) ?_; intro v' w' u1 u2 u3; have HF := Lib.hid (HOS.out.grow (M := [m]) u1 u2 u3); have k2' := HF.out.box.cell 2 _ rfl; clear u1 u2 u3)
          have h1 := HF.out
          have h2 : OutSt w w' #[.int .i64 (cj : Int), .slice a1 n cap1, .slice a2 m cap2, .int .i64 sem, .bool inf, .slice a3 L cap3, .int .i64 lev, .float .f64 x] v' (pre1 c 0) (.slice (some ⟨cg, 0, none⟩) CL.length ccap) CL := by
            rw [pre1_zero, HN.out.1, HN.out.2.1]; exact h1
          have HO1 := Lib.hid h2
          clear h1 h2 HF HOS HS g0 f0 g1 f1' g2 f2' g3 f3' g4 f4' g5 f5' g6 f6' g7 f7' kq
          go_loopg [6, 56] m (fun g l6 l56 wr => ∃ (i : Nat) (v : Value), v = l6 ∧ i ≤ m ∧ OutSt w wr #[.int .i64 (cj : Int), .slice a1 n cap1, .slice a2 m cap2, .int .i64 sem, .bool inf, .slice a3 L cap3, .int .i64 lev, .float .f64 x] v (pre1 c i) (.slice (some ⟨cg, 0, none⟩) CL.length ccap) CL ∧ l56 = .int .i64 i ∧ g = m - i)
          case atStart => exact ⟨0, _, rfl, Nat.zero_le _, HO1.out, rfl, rfl⟩
          case round =>
            obtain ⟨i, v, rfl, hi, hst, rfl, rfl⟩ := hrel
            have HS := Lib.hid hst
            have hpl := pre1_le HN.out.2.2.2.1 i
            have hszr := hst.box.lt
            by_cases hin : i < m
            · have hin' : (i : Int) < m := by omega
              obtain ⟨ww, hww⟩ : ∃ z, c.walks[i]? = some z := ⟨_, List.getElem?_eq_getElem (by rw [HN.out.2.1]; exact hin)⟩
              obtain ⟨au, capu, hu, hcu⟩ := H.out.rows.get.2 i ww hww
              obtain ⟨xa, rfl, c0⟩ := H.out.walks.2.2 i _ hu
              have d0 := (hst.ext.cell (lt_of_cell c0) (fun h => h)).trans c0
              have HWW := Lib.hid hww
              have hmem := List.mem_of_getElem? hww
              have HCU := Lib.hid hcu
              have hw6 := HF5.out.2 ww hmem
              have hlu := hcu.1
              have hmu := hcu.2.1
              unfold maxLen at hmu
              obtain ⟨q, hq⟩ : ∃ q, ww.length = q := ⟨_, rfl⟩
              rw [hq] at d0 hlu HCU
              have hq2 : q ≤ 2000 := by rw [← hq]; exact hw6.1
              have HQ := Lib.hid (And.intro hq (And.intro hmem hw6.2))
              have HEN := Lib.hid (enum_any q (by omega) wr)
              have hel := eNum_nine (show q < 9223372036854775808 by omega)
              have hel0 := eNum_len q
              obtain ⟨MM, hMM⟩ : ∃ MM, eNum q = MM := ⟨_, rfl⟩
              rw [hMM] at HEN hel hel0
              have HMM : Hid (eNum ww.length = MM) := Lib.hid (by rw [hq, hMM])
              clear c0 hww hu hcu hmem hw6 hq hst hMM
              go_wp2_with fail
              refine HEN.out.mono ?_
              rintro e w4 ⟨hx4, vn, rfl, hnown⟩
              obtain ⟨g, c2, rfl, hnews⟩ := own_form hnown hel0
              have HOS := Lib.hid (HS.out.more hx4)
              have HNEW := Lib.hid hnews
              have hsz4 := hx4.size
              clear hx4 hnown hnews
              go_wp2_with (at_builtin; refine wpList_append_st _ rfl (.tmp 60) (.tmp 63) 22 rfl (w.heap.size + 1) 5 i0 (.int .u8 0) 1 1 Try.underlying22 HI.out.1 HI.out.2.1 HI.out.2.2.1 HI.out.2.2.2 rfl (by decide) v (pre1 c i).length _ rfl (by exact HOS.out.own) ⟨g, 0, none⟩ MM.length c2 (byteCells MM) rfl (by rw [bcells_length, Nat.mul_one]) (by exact HNEW.out) (bcells_one MM) (by unfold maxLen; omega) (by omega) (by omega) ?_; intro v' w' u1 u2 u3; have HF := Lib.hid (HOS.out.grow u1 u2 u3); clear u1 u2 u3)
              have h1 := HF.out
              rw [← HMM.out, ← pre2_zero] at h1
              have HO2 := Lib.hid h1
              clear h1 HF HOS HS HEN HMM hel hel0 HNEW
              go_loopg [6, 67] q (fun g l6 l67 wx => ∃ (j : Nat) (v : Value), v = l6 ∧ j ≤ q ∧ OutSt w wx #[.int .i64 (cj : Int), .slice a1 n cap1, .slice (some xa) m cap2, .int .i64 sem, .bool inf, .slice a3 L cap3, .int .i64 lev, .float .f64 x] v (pre2 c i ww j) (.slice (some ⟨cg, 0, none⟩) CL.length ccap) CL ∧ l67 = .int .i64 j ∧ g = q - j)
              case atStart => exact ⟨0, _, rfl, Nat.zero_le _, HO2.out, rfl, rfl⟩
              case round =>
                obtain ⟨j, v, rfl, hj, hst, rfl, rfl⟩ := hrel
                have hpl2 := pre2_le HN.out.2.2.2.1 i HQ.out.2.1 j
                have hszr2 := hst.box.lt
                by_cases hjq : j < q
                · have hjq' : (j : Int) < q := by omega
                  obtain ⟨ss, hss⟩ : ∃ z, ww[j]? = some z := ⟨_, List.getElem?_eq_getElem (by rw [HQ.out.1]; exact hjq)⟩
                  obtain ⟨xb, rfl, c0, c1⟩ := step_cell HCU.out hss
                  have d0' := (hst.ext.cell (lt_of_cell c0) (fun h => h)).trans c0
                  have d1' := (hst.ext.cell (lt_of_cell c1) (fun h => h)).trans c1
                  rw [Nat.mul_comm 2 j] at d0'
                  rw [add_one] at d1'
                  have hs2 := HQ.out.2.2 ss (List.mem_of_getElem? hss)
                  have HSS := Lib.hid hss
                  clear c0 c1 hss
                  obtain ⟨tk, bk⟩ := ss
                  simp only at d0' d1' hs2
                  obtain ⟨k, hk⟩ : ∃ k : Nat, tk.toNat = k := ⟨_, rfl⟩
                  obtain rfl : tk = (k : Int) := by omega
                  clear hk
                  cases bk with
                  | true =>
                    have HEN := Lib.hid (enum_any (2 * k + 1) (by omega) (wr.alloc (.cells #[.int .i64 (k : Int), .bool true] 56)))
                    rw [show ((2 * k + 1 : Nat) : Int) = 2 * (k : Int) + 1 by omega] at HEN
                    have hel := eNum_nine (show 2 * k + 1 < 9223372036854775808 by omega)
                    have hel0 := eNum_len (2 * k + 1)
                    obtain ⟨MM, hMM⟩ : ∃ MM, eNum (2 * k + 1) = MM := ⟨_, rfl⟩
                    rw [hMM] at HEN hel hel0
                    have HMM : Hid (eNum (ofStep (natStep ((k : Int), true))) = MM) := Lib.hid (by rw [← hMM]; simp [ofStep, natStep])
                    have HS2 := Lib.hid (hst.more ((Chg.refl (S := fun _ => False) wr).alloc (.cells #[.int .i64 (k : Int), .bool true] 56)))
                    clear hst hMM
                    go_wp2_with fail
                    refine HEN.out.mono ?_
                    rintro e w5 ⟨hx4, vn, rfl, hnown⟩
                    obtain ⟨g, c2, rfl, hnews⟩ := own_form hnown hel0
                    have HOS := Lib.hid (HS2.out.more hx4)
                    have HNEW := Lib.hid hnews
                    have hsz4 := hx4.size
                    clear hx4 hnown hnews
                    simp only [World.size_alloc] at hsz4
                    go_wp2_with (at_builtin; refine wpList_append_st _ rfl (.tmp 78) (.tmp 80) 22 rfl (w.heap.size + 1) 5 i0 (.int .u8 0) 1 1 Try.underlying22 HI.out.1 HI.out.2.1 HI.out.2.2.1 HI.out.2.2.2 rfl (by decide) v (pre2 c i ww j).length _ rfl (by exact HOS.out.own) ⟨g, 0, none⟩ MM.length c2 (byteCells MM) rfl (by rw [bcells_length, Nat.mul_one]) (by exact HNEW.out) (bcells_one MM) (by unfold maxLen; omega) (by omega) (by omega) ?_; intro v' w' u1 u2 u3; have HF := Lib.hid (HOS.out.grow u1 u2 u3); clear u1 u2 u3)
                    go_roundg (q - (j + 1))
                    case measure => omega
                    case rel =>
                      have h1 := HF.out
                      rw [← HMM.out, ← pre2_step HSS.out] at h1
                      exact ⟨j + 1, v', rfl, by omega, h1, rfl, rfl⟩
                  | false =>
                    have HEN := Lib.hid (enum_any (2 * k) (by omega) (wr.alloc (.cells #[.int .i64 (k : Int), .bool false] 56)))
                    rw [show ((2 * k : Nat) : Int) = 2 * (k : Int) by omega] at HEN
                    have hel := eNum_nine (show 2 * k < 9223372036854775808 by omega)
                    have hel0 := eNum_len (2 * k)
                    obtain ⟨MM, hMM⟩ : ∃ MM, eNum (2 * k) = MM := ⟨_, rfl⟩
                    rw [hMM] at HEN hel hel0
                    have HMM : Hid (eNum (ofStep (natStep ((k : Int), false))) = MM) := Lib.hid (by rw [← hMM]; simp [ofStep, natStep])
                    have HS2 := Lib.hid (hst.more ((Chg.refl (S := fun _ => False) wr).alloc (.cells #[.int .i64 (k : Int), .bool false] 56)))
                    clear hst hMM
                    go_wp2_with fail
                    refine HEN.out.mono ?_
                    rintro e w5 ⟨hx4, vn, rfl, hnown⟩
                    obtain ⟨g, c2, rfl, hnews⟩ := own_form hnown hel0
                    have HOS := Lib.hid (HS2.out.more hx4)
                    have HNEW := Lib.hid hnews
                    have hsz4 := hx4.size
                    clear hx4 hnown hnews
                    simp only [World.size_alloc] at hsz4
                    go_wp2_with (at_builtin; refine wpList_append_st _ rfl (.tmp 78) (.tmp 80) 22 rfl (w.heap.size + 1) 5 i0 (.int .u8 0) 1 1 Try.underlying22 HI.out.1 HI.out.2.1 HI.out.2.2.1 HI.out.2.2.2 rfl (by decide) v (pre2 c i ww j).length _ rfl (by exact HOS.out.own) ⟨g, 0, none⟩ MM.length c2 (byteCells MM) rfl (by rw [bcells_length, Nat.mul_one]) (by exact HNEW.out) (bcells_one MM) (by unfold maxLen; omega) (by omega) (by omega) ?_; intro v' w' u1 u2 u3; have HF := Lib.hid (HOS.out.grow u1 u2 u3); clear u1 u2 u3)
                    go_roundg (q - (j + 1))
                    case measure => omega
                    case rel =>
                      have h1 := HF.out
                      rw [← HMM.out, ← pre2_step HSS.out] at h1
                      exact ⟨j + 1, v', rfl, by omega, h1, rfl, rfl⟩
                · have e0 : q = j := by omega
                  subst e0
                  have hjq' : ¬ (q : Int) < q := by omega
                  have h1 := hst
                  rw [← HQ.out.1, ← pre1_step HWW.out] at h1
                  have HO3 := Lib.hid h1
                  clear h1 hst
                  go_wp2_with fail
                  go_roundg (m - (i + 1))
                  case measure => omega
                  case rel => exact ⟨i + 1, v, rfl, by omega, HO3.out, rfl, rfl⟩
            · have e0 : m = i := by omega
              subst e0
              have hin' : ¬ (m : Int) < m := by omega
              have hcl := hst.claim
              have hC0 : 0 < CL.length := by rw [← HN.out.2.2.2.2]; simp [eVal]
              obtain ⟨g, c2, hge, hnews⟩ := own_form hcl hC0
              cases hge
              have hCL6 : CL.length ≤ 300 := by rw [← HN.out.2.2.2.2]; exact eVal_le HVC.out
              have HOS := Lib.hid hst
              have HNEW := Lib.hid hnews
              clear hcl hnews hst
              go_wp2_with (at_builtin; refine wpList_append_st _ rfl (.tmp 84) (.tmp 85) 22 rfl (w.heap.size + 1) 5 i0 (.int .u8 0) 1 1 Try.underlying22 HI.out.1 HI.out.2.1 HI.out.2.2.1 HI.out.2.2.2 rfl (by decide) v (pre1 c m).length _ rfl (by exact HOS.out.own) ⟨cg, 0, none⟩ CL.length ccap (byteCells CL) rfl (by rw [bcells_length, Nat.mul_one]) (by exact HNEW.out) (bcells_one CL) (by unfold maxLen; omega) (by omega) (by omega) ?_; intro v' w' u1 u2 u3; have HF := Lib.hid (HOS.out.grow u1 u2 u3); clear u1 u2 u3)
              go_returns
              have h1 := HF.out.own
              have h2 : pre1 c m ++ CL = R := by rw [← HR.out, ← pre_end, HN.out.2.1, HN.out.2.2.2.2]
              rw [h2] at h1
              exact ⟨HF.out.ext, .inl ⟨rfl, _, rfl, ownsRow_base h1 (by omega)⟩⟩
    · have hC0 : (vc == 0) = false := by simpa using h0
      have HC0 := Lib.hid h0
      have HEX := Lib.hid (HX2.out.trans hx3)
      clear hx3 h0
      go_wp2_with fail
      go_returns
      exact ⟨HEX.out, .inr ⟨HC0.out, rfl⟩⟩
end Go.Proofs.Ytnamcghcgcknpaa
