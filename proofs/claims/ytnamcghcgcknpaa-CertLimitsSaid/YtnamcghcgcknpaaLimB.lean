/-
  The walk of the law CertLimits (chapter 24).
-/
import Derived.Test.YtnamcghcgcknpaaLimA
namespace Go.Proofs.Ytnamcghcgcknpaa
open Go.RowKit
set_option linter.unusedVariables false

set_option maxRecDepth 100000 in
set_option maxHeartbeats 400000 in
theorem limits_out {w : World} (nodes walks steps token node : Int) (hg : nodes < 0 ∨ (¬ nodes < 0 ∧ 8 < nodes) ∨ (¬ nodes < 0 ∧ ¬ 8 < nodes ∧ walks < 0) ∨ (¬ nodes < 0 ∧ ¬ 8 < nodes ∧ ¬ walks < 0 ∧ 8 < walks) ∨ (¬ nodes < 0 ∧ ¬ 8 < nodes ∧ ¬ walks < 0 ∧ ¬ 8 < walks ∧ steps < 0) ∨ (¬ nodes < 0 ∧ ¬ 8 < nodes ∧ ¬ walks < 0 ∧ ¬ 8 < walks ∧ ¬ steps < 0 ∧ 2005 < steps)) :
    Calls Try.prog 7 #[.int .i64 nodes, .int .i64 walks, .int .i64 steps, .int .i64 token, .int .i64 node] w fun e w' => e = .returned (.bool true) ∧ Below w.heap.size w w' := by
  have HA := Lib.hid awake_any
  rcases hg with h1 | ⟨h1, h2⟩ | ⟨h1, h2, h3⟩ | ⟨h1, h2, h3, h4⟩ | ⟨h1, h2, h3, h4, h5⟩ | ⟨h1, h2, h3, h4, h5, h6⟩
  all_goals
    go_enter Try.func7, Try.ntmps7
    go_wp2_with fail
    refine (HA.out _).mono ?_
    rintro e w' ⟨rfl, hx⟩
    go_wp2_with fail
    go_ret
    exact ⟨rfl, Ext.below hx⟩
theorem norm_lim (n m k : Nat) (t node : Int) : normC (limC n m k t node) = limC n m k t node := by
  unfold normC limC normV
  simp
set_option maxRecDepth 100000 in
set_option maxHeartbeats 4000000 in
theorem limits_in {w : World} (n m k : Nat) (token node : Int) (hn : n ≤ 8) (hm : m ≤ 8) (hk : k ≤ 2005) :
    Calls Try.prog 7 #[.int .i64 (n : Int), .int .i64 (m : Int), .int .i64 (k : Int), .int .i64 token, .int .i64 node] w fun e w' => e = .returned (.bool true) ∧ Below w.heap.size w w' := by
  obtain ⟨i0, hi0, hz0, hz1, hz2⟩ := info_parts info_int
  have HI := Lib.hid (And.intro hi0 (And.intro hz0 (And.intro hz1 hz2)))
  clear hi0 hz0 hz1 hz2
  obtain ⟨i1, hi0, hz0, hz1, hz2⟩ := info_parts info_row
  have HI1 := Lib.hid (And.intro hi0 (And.intro hz0 (And.intro hz1 hz2)))
  clear hi0 hz0 hz1 hz2
  obtain ⟨i2, hi0, hz0, hz1, hz2⟩ := info_parts info_step
  have HI2 := Lib.hid (And.intro hi0 (And.intro hz0 (And.intro hz1 hz2)))
  clear hi0 hz0 hz1 hz2
  have HA := Lib.hid awake_any
  have g1 : ¬ (n : Int) < 0 := by omega
  have g2 : ¬ (8 : Int) < n := by omega
  have g3 : ¬ (m : Int) < 0 := by omega
  have g4 : ¬ (8 : Int) < m := by omega
  have g5 : ¬ (k : Int) < 0 := by omega
  have g6 : ¬ (2005 : Int) < k := by omega
  have hsf := run_store_f
  have HX := Lib.hid ((Chg.refl w).alloc (S := fun _ => False) (Obj.cells (cl (.slice none 0 0) (.slice none 0 0)) 33))
  have HK := Lib.hid (Blk.new w (cl (.slice none 0 0) (.slice none 0 0)) 33)
  go_enter Try.func7, Try.ntmps7
  go_wp2_with fail
  go_loopg [12] n (fun g l12 wr => ∃ (i : Nat) (v : Value), i ≤ n ∧ L1 w wr node v i ∧ l12 = .int .i64 i ∧ g = n - i)
  case atStart => exact ⟨0, _, Nat.zero_le _, ⟨HX.out, HK.out, World.ownsRow_nil _ _ _ _⟩, rfl, rfl⟩
  case round =>
    obtain ⟨i, v, hi, hL, rfl, rfl⟩ := hrel
    have HL := Lib.hid hL
    have hsz := hL.ext.size
    by_cases hin : i < n
    · have hin' : (i : Int) < n := by omega
      have c1 := hL.box.cell 1 _ rfl
      have HO : Hid (wr.ownsRow (w.heap.size + 1) 3 1 v i (List.replicate i (.int .i64 node))) := Lib.hid hL.own
      have hB := hL.box.lt
      clear hL
      go_wp2_with (at_builtin; refine wpList_append_st _ rfl (.tmp 52) (.tmp 54) 24 rfl (w.heap.size + 1) 3 i0 (.int .i64 0) 1 8 Try.underlying24 HI.out.1 HI.out.2.1 HI.out.2.2.1 HI.out.2.2.2 rfl (by decide) v i _ rfl (by exact (HO.out.alloc _)) ⟨wr.heap.size, 0, none⟩ 1 1 [.int .i64 node] rfl rfl (by exact newsV _ _ _) (by simp [Value.oneCell']) (by unfold maxLen; omega) (by omega) (by simp; omega) ?_; intro v' w' u1 u2 u3; obtain ⟨sa, sc, rfl⟩ := own_slice u1; obtain ⟨hb, hN⟩ := HL.out.next u1 u2; have d1 := hb.cell 1 _ rfl; have e1 := hb.frozen 1; have HN := Lib.hid hN; clear u1 u2 u3 hb hN)
      go_roundg (n - (i + 1))
      case measure => omega
      case rel => exact ⟨i + 1, _, by omega, HN.out, rfl, rfl⟩
    · obtain rfl : i = n := by omega
      have hin' : ¬ (i : Int) < i := by omega
      obtain ⟨wa, hwa⟩ : ∃ x, x = wr := ⟨_, rfl⟩
      subst hwa
      clear hL
      go_wp2_with (at_make; refine wpList_make_full _ rfl _ _ 54 rfl wa.heap.size 56 i2 (.agg #[.int .i64 0, .bool false]) 2 Try.underlying54 HI2.out.1 HI2.out.2.1 HI2.out.2.2.1 _ _ _ _ k rfl rfl rfl rfl (by rw [HI2.out.2.2.2]; omega) (by unfold maxLen; omega) (Nat.le_refl _) ?_; intro w1 u1 u2; have HS := Lib.hid u1; have HSX := Lib.hid u2; clear u1 u2)
      have HX1 : Hid (Ext wa w1) := Lib.hid ((Chg.of_grown HSX.out).mono (fun _ _ h => by cases h))
      have HS0 : Hid (w1.ownsRow wa.heap.size 56 2 (.slice (some ⟨wa.heap.size, 0, none⟩) k k) k (stepsI (sl2 token k 0))) := Lib.hid (by
        have h := HS.out
        rw [made_steps] at h
        have e : sl2 token k 0 = List.replicate k (0, false) := by simp [sl2]
        rw [e]
        exact h)
      clear HS HSX
      go_loopg [14] k (fun g l14 wr => ∃ i : Nat, i ≤ k ∧ Ext wa wr ∧ wr.ownsRow wa.heap.size 56 2 (.slice (some ⟨wa.heap.size, 0, none⟩) k k) k (stepsI (sl2 token k i)) ∧ l14 = .int .i64 i ∧ g = k - i)
      case atStart => exact ⟨0, Nat.zero_le _, HX1.out, HS0.out, rfl, rfl⟩
      case round =>
        obtain ⟨j, hj, hex, hown, rfl, rfl⟩ := hrel
        have HE := Lib.hid hex
        by_cases hjk : j < k
        · have hjk' : (j : Int) < k := by omega
          obtain ⟨e1, ⟨u0, c1⟩, hown2, hch⟩ := own_set hown (m := k * 2) (r := j * 2) (by rw [stepsI_length, sl2_length _ hj]) (by omega) (.int .i64 token)
          rw [Nat.mul_comm j 2, sl2_step token hjk, Nat.mul_comm 2 j] at hown2
          have HN := Lib.hid (And.intro hown2 (ext_of ((HE.out.mono fun _ _ h => h.elim).trans hch)))
          clear hown hex hown2 hch
          go_wp2_with fail
          go_roundg (k - (j + 1))
          case measure => omega
          case rel => exact ⟨j + 1, by omega, HN.out.2, HN.out.1, rfl, rfl⟩
        · obtain rfl : j = k := by omega
          have hjk' : ¬ (j : Int) < j := by omega
          obtain ⟨wb, hwb⟩ : ∃ x, x = wr := ⟨_, rfl⟩
          subst hwb
          have HS1 := Lib.hid hown
          clear hown hex HS0 HX1
          have hBb : w.heap.size < wb.heap.size := by have := HL.out.box.lt; have := HE.out.size; omega
          have HK2 : Hid (Blk wb w.heap.size (cl v (.slice none 0 0)) 33) := Lib.hid (HL.out.box.chg HE.out (fun h => h))
          go_wp2_with fail
          go_loopg [15] m (fun g l15 wr => ∃ (i' : Nat) (u : Value), i' ≤ m ∧ L3 wb wr w.heap.size v u (.slice (some ⟨wa.heap.size, 0, none⟩) j j) i' ∧ l15 = .int .i64 i' ∧ g = m - i')
          case atStart => exact ⟨0, _, Nat.zero_le _, ⟨Chg.refl wb, HK2.out, World.ownsRow_nil _ _ _ _⟩, rfl, rfl⟩
          case round =>
            obtain ⟨q, u, hq, hL3, rfl, rfl⟩ := hrel
            have HL3 := Lib.hid hL3
            by_cases hqm : q < m
            · have hqm' : (q : Int) < m := by omega
              have c1 := hL3.box.cell 2 _ rfl
              have hBr := hL3.box.lt
              have hszr := hL3.chg.size
              have HO : Hid (wr.ownsRow wb.heap.size 54 1 u q (wl3 (.slice (some ⟨wa.heap.size, 0, none⟩) j j) q)) := Lib.hid hL3.own
              clear hL3
              cases q with
              | zero =>
                go_wp2_with (at_builtin; refine wpList_append_st _ rfl (.tmp 77) (.tmp 79) 25 rfl wb.heap.size 54 i1 (.slice none 0 0) 1 24 Try.underlying25 HI1.out.1 HI1.out.2.1 HI1.out.2.2.1 HI1.out.2.2.2 rfl (by decide) u 0 _ rfl (by exact (HO.out.alloc _)) ⟨wr.heap.size, 0, none⟩ 1 1 [.slice (some ⟨wa.heap.size, 0, none⟩) j j] rfl rfl (by exact newsV _ _ _) (by simp [Value.oneCell']) (by unfold maxLen; omega) (by omega) (by simp; omega) ?_; intro v' w' u1 u2 u3; obtain ⟨sa, sc, rfl⟩ := own_slice u1; obtain ⟨hb, hN⟩ := HL3.out.next hBb rfl u1 u2; have d1 := hb.cell 2 _ rfl; have e1 := hb.frozen 2; have HN := Lib.hid hN; clear u1 u2 u3 hb hN)
                go_roundg (m - (0 + 1))
                case measure => omega
                case rel => exact ⟨1, _, by omega, HN.out, rfl, rfl⟩
              | succ q =>
                have hq0 : (((q + 1 : Nat) : Int) == 0) = false := by simp; omega
                go_wp2_with (at_builtin; refine wpList_append_st _ rfl (.tmp 83) (.tmp 84) 25 rfl wb.heap.size 54 i1 (.slice none 0 0) 1 24 Try.underlying25 HI1.out.1 HI1.out.2.1 HI1.out.2.2.1 HI1.out.2.2.2 rfl (by decide) u (q + 1) _ rfl (by exact (HO.out.alloc _)) ⟨wr.heap.size, 0, none⟩ 1 1 [.slice none 0 0] rfl rfl (by exact newsV _ _ _) (by simp [Value.oneCell']) (by unfold maxLen; omega) (by omega) (by simp; omega) ?_; intro v' w' u1 u2 u3; obtain ⟨sa, sc, rfl⟩ := own_slice u1; obtain ⟨hb, hN⟩ := HL3.out.next hBb (wl3_succ _ q) u1 u2; have d1 := hb.cell 2 _ rfl; have e1 := hb.frozen 2; have HN := Lib.hid hN; clear u1 u2 u3 hb hN)
                go_roundg (m - (q + 1 + 1))
                case measure => omega
                case rel => exact ⟨q + 1 + 1, _, by omega, HN.out, rfl, rfl⟩
            · obtain rfl : q = m := by omega
              have hqm' : ¬ (q : Int) < q := by omega
              obtain ⟨wc, hwc⟩ : ∃ x, x = wr := ⟨_, rfl⟩
              subst hwc
              clear hL3
              have hBa := HL.out.box.lt
              have hs1 := HS1.out
              have esl : sl2 token j j = List.replicate j (token, false) := by simp [sl2]
              rw [esl] at hs1
              have ho1 := own_chg (own_low HL.out.own HE.out (fun _ _ h => h)) HL3.out.chg (fun g hg e => by have := ((own_low HL.out.own HE.out (fun _ _ h => h)).lt g hg).1; omega)
              have ho3 := own_chg hs1 HL3.out.chg (fun g hg e => by have := (hs1.lt g hg).1; omega)
              obtain ⟨a1, p1, a2, p2, rfl, rfl, hcv⟩ := lim_crt ho1 HL3.out.own ho3
              have hbx : Blk wc w.heap.size #[.int .i64 0, .slice a1 i p1, .slice a2 q p2, .int .i64 2, .bool false, .slice none 0 0, .int .i64 0, .float .f64 0] 33 := HL3.out.box
              obtain ⟨g0, f0, g1, f1, g2, f2, g3, f3, g4, f4, g5, f5, g6, f6, g7, f7⟩ := blk8_base hbx
              have HKc := Lib.hid hbx
              have HXc : Hid (Ext w wc) := Lib.hid (ext_of (((HL.out.ext.trans HE.out).mono fun _ _ h => h.elim).trans (HL3.out.chg.mono fun b _ h => by have h' : b = w.heap.size := h; omega)))
              have hY := fun ok => trip hcv ((lim_code i q j token node).1 ok) (by simp [limC]) (by simp [limC])
              have hNo := fun no : ¬ okP i q j token node => (enc_any hcv (by simp [limC]) (by simp [limC])).mono (R' := fun e w' => e = .returned (.tuple #[.slice none 0 0, .int .i64 16]) ∧ Ext wc w') (by
                rintro e w' ⟨hx, hw⟩
                rw [(lim_code i q j token node).2 no] at hw
                rcases hw with ⟨h, -⟩ | ⟨-, rfl⟩
                · exact absurd h (by decide)
                · exact ⟨rfl, hx⟩)
              rw [norm_lim] at hY
              unfold crtV limC at hY hNo
              simp only [List.length_replicate, wls_length, List.length_nil] at hY hNo
              have HY := Lib.hid hY
              have HNo := Lib.hid hNo
              clear hY hNo hs1 esl ho1 ho3 hcv hbx hBa hBb HS1 HL HL3 HK2 HI HI1 HI2
              by_cases q1 : (i : Int) ≤ 5
              · skip
                by_cases q2 : (q : Int) ≤ 6
                · skip
                  by_cases q3 : i = 0
                  · have q3q : ((i : Int) == 0) = true := by simp [q3]
                    have Q3 := Lib.hid q3
                    clear q3
                    by_cases q6 : q = 0
                    · have q6q : ((q : Int) == 0) = true := by simp [q6]
                      have Q6 := Lib.hid q6
                      clear q6
                      go_wp2_with fail
                      refine (HY.out (by unfold okP; have := Q3.out; have := Q6.out; omega)).mono ?_
                      rintro e w4 ⟨hx4, gg, nn, cc, rfl, hD⟩
                      have HD := Lib.hid hD
                      clear hD g0 f0 g1 f1 g2 f2 g3 f3 g4 f4 g5 f5 g6 f6 g7 f7
                      go_wp2_with fail
                      refine (HD.out _ (Chg.refl _)).mono ?_
                      rintro e w5 ⟨hx5, b1, q1, b2, q2, b3, q3, rfl, hS⟩
                      have HS := Lib.hid hS
                      have kb := (HKc.out.chg (hx4.trans hx5) (fun h => h)).chg (S := fun _ => False) ((Chg.refl w5).alloc (Obj.cells #[.int .i64 0, .slice b1 i q1, .slice b2 q q2, .int .i64 2, .bool false, .slice b3 0 q3, .int .i64 0, .float .f64 0] 33)) (fun h => h)
                      obtain ⟨g0, f0, g1, f1, g2, f2, g3, f3, g4, f4, g5, f5, g6, f6, g7, f7⟩ := blk8_base kb
                      clear kb hS
                      go_wp2_with fail
                      refine (HS.out _ ((Chg.refl w5).alloc _)).mono ?_
                      rintro e w6 ⟨rfl, hx6⟩
                      clear g0 f0 g1 f1 g2 f2 g3 f3 g4 f4 g5 f5 g6 f6 g7 f7
                      go_wp2_with fail
                      refine (HA.out _).mono ?_
                      rintro e w' ⟨rfl, hx⟩
                      go_wp2_with fail
                      go_ret
                      exact ⟨rfl, Ext.below ((((HXc.out.trans hx4).trans hx5).alloc _ |>.trans hx6).trans hx)⟩
                    · have q6q : ((q : Int) == 0) = false := by simp; omega
                      have Q6 := Lib.hid q6
                      clear q6
                      by_cases q7 : (j : Int) ≤ 2000
                      · skip
                        by_cases q8 : j = 0
                        · have q8q : ((j : Int) == 0) = true := by simp [q8]
                          have Q8 := Lib.hid q8
                          clear q8
                          go_wp2_with fail
                          refine (HY.out (by unfold okP; have := Q3.out; have := Q6.out; have := Q8.out; omega)).mono ?_
                          rintro e w4 ⟨hx4, gg, nn, cc, rfl, hD⟩
                          have HD := Lib.hid hD
                          clear hD g0 f0 g1 f1 g2 f2 g3 f3 g4 f4 g5 f5 g6 f6 g7 f7
                          go_wp2_with fail
                          refine (HD.out _ (Chg.refl _)).mono ?_
                          rintro e w5 ⟨hx5, b1, q1, b2, q2, b3, q3, rfl, hS⟩
                          have HS := Lib.hid hS
                          have kb := (HKc.out.chg (hx4.trans hx5) (fun h => h)).chg (S := fun _ => False) ((Chg.refl w5).alloc (Obj.cells #[.int .i64 0, .slice b1 i q1, .slice b2 q q2, .int .i64 2, .bool false, .slice b3 0 q3, .int .i64 0, .float .f64 0] 33)) (fun h => h)
                          obtain ⟨g0, f0, g1, f1, g2, f2, g3, f3, g4, f4, g5, f5, g6, f6, g7, f7⟩ := blk8_base kb
                          clear kb hS
                          go_wp2_with fail
                          refine (HS.out _ ((Chg.refl w5).alloc _)).mono ?_
                          rintro e w6 ⟨rfl, hx6⟩
                          clear g0 f0 g1 f1 g2 f2 g3 f3 g4 f4 g5 f5 g6 f6 g7 f7
                          go_wp2_with fail
                          refine (HA.out _).mono ?_
                          rintro e w' ⟨rfl, hx⟩
                          go_wp2_with fail
                          go_ret
                          exact ⟨rfl, Ext.below ((((HXc.out.trans hx4).trans hx5).alloc _ |>.trans hx6).trans hx)⟩
                        · have q8q : ((j : Int) == 0) = false := by simp; omega
                          have Q8 := Lib.hid q8
                          clear q8
                          by_cases q9 : 1 ≤ token
                          · skip
                            by_cases q10 : token ≤ 1099511627776
                            · skip
                              go_wp2_with fail
                              refine (HY.out (by unfold okP; have := Q3.out; have := Q6.out; have := Q8.out; omega)).mono ?_
                              rintro e w4 ⟨hx4, gg, nn, cc, rfl, hD⟩
                              have HD := Lib.hid hD
                              clear hD g0 f0 g1 f1 g2 f2 g3 f3 g4 f4 g5 f5 g6 f6 g7 f7
                              go_wp2_with fail
                              refine (HD.out _ (Chg.refl _)).mono ?_
                              rintro e w5 ⟨hx5, b1, q1, b2, q2, b3, q3, rfl, hS⟩
                              have HS := Lib.hid hS
                              have kb := (HKc.out.chg (hx4.trans hx5) (fun h => h)).chg (S := fun _ => False) ((Chg.refl w5).alloc (Obj.cells #[.int .i64 0, .slice b1 i q1, .slice b2 q q2, .int .i64 2, .bool false, .slice b3 0 q3, .int .i64 0, .float .f64 0] 33)) (fun h => h)
                              obtain ⟨g0, f0, g1, f1, g2, f2, g3, f3, g4, f4, g5, f5, g6, f6, g7, f7⟩ := blk8_base kb
                              clear kb hS
                              go_wp2_with fail
                              refine (HS.out _ ((Chg.refl w5).alloc _)).mono ?_
                              rintro e w6 ⟨rfl, hx6⟩
                              clear g0 f0 g1 f1 g2 f2 g3 f3 g4 f4 g5 f5 g6 f6 g7 f7
                              go_wp2_with fail
                              refine (HA.out _).mono ?_
                              rintro e w' ⟨rfl, hx⟩
                              go_wp2_with fail
                              go_ret
                              exact ⟨rfl, Ext.below ((((HXc.out.trans hx4).trans hx5).alloc _ |>.trans hx6).trans hx)⟩
                            · skip
                              go_wp2_with fail
                              refine (HNo.out (by unfold okP; have := Q3.out; have := Q6.out; have := Q8.out; omega)).mono ?_
                              rintro e w4 ⟨rfl, hx4⟩
                              go_wp2_with fail
                              refine (HA.out _).mono ?_
                              rintro e w' ⟨rfl, hx⟩
                              go_wp2_with fail
                              go_ret
                              exact ⟨rfl, Ext.below ((HXc.out.trans hx4).trans hx)⟩
                          · skip
                            go_wp2_with fail
                            refine (HNo.out (by unfold okP; have := Q3.out; have := Q6.out; have := Q8.out; omega)).mono ?_
                            rintro e w4 ⟨rfl, hx4⟩
                            go_wp2_with fail
                            refine (HA.out _).mono ?_
                            rintro e w' ⟨rfl, hx⟩
                            go_wp2_with fail
                            go_ret
                            exact ⟨rfl, Ext.below ((HXc.out.trans hx4).trans hx)⟩
                      · skip
                        go_wp2_with fail
                        refine (HNo.out (by unfold okP; have := Q3.out; have := Q6.out; omega)).mono ?_
                        rintro e w4 ⟨rfl, hx4⟩
                        go_wp2_with fail
                        refine (HA.out _).mono ?_
                        rintro e w' ⟨rfl, hx⟩
                        go_wp2_with fail
                        go_ret
                        exact ⟨rfl, Ext.below ((HXc.out.trans hx4).trans hx)⟩
                  · have q3q : ((i : Int) == 0) = false := by simp; omega
                    have Q3 := Lib.hid q3
                    clear q3
                    by_cases q4 : 1 ≤ node
                    · skip
                      by_cases q5 : node ≤ 1000
                      · skip
                        by_cases q6 : q = 0
                        · have q6q : ((q : Int) == 0) = true := by simp [q6]
                          have Q6 := Lib.hid q6
                          clear q6
                          go_wp2_with fail
                          refine (HY.out (by unfold okP; have := Q3.out; have := Q6.out; omega)).mono ?_
                          rintro e w4 ⟨hx4, gg, nn, cc, rfl, hD⟩
                          have HD := Lib.hid hD
                          clear hD g0 f0 g1 f1 g2 f2 g3 f3 g4 f4 g5 f5 g6 f6 g7 f7
                          go_wp2_with fail
                          refine (HD.out _ (Chg.refl _)).mono ?_
                          rintro e w5 ⟨hx5, b1, q1, b2, q2, b3, q3, rfl, hS⟩
                          have HS := Lib.hid hS
                          have kb := (HKc.out.chg (hx4.trans hx5) (fun h => h)).chg (S := fun _ => False) ((Chg.refl w5).alloc (Obj.cells #[.int .i64 0, .slice b1 i q1, .slice b2 q q2, .int .i64 2, .bool false, .slice b3 0 q3, .int .i64 0, .float .f64 0] 33)) (fun h => h)
                          obtain ⟨g0, f0, g1, f1, g2, f2, g3, f3, g4, f4, g5, f5, g6, f6, g7, f7⟩ := blk8_base kb
                          clear kb hS
                          go_wp2_with fail
                          refine (HS.out _ ((Chg.refl w5).alloc _)).mono ?_
                          rintro e w6 ⟨rfl, hx6⟩
                          clear g0 f0 g1 f1 g2 f2 g3 f3 g4 f4 g5 f5 g6 f6 g7 f7
                          go_wp2_with fail
                          refine (HA.out _).mono ?_
                          rintro e w' ⟨rfl, hx⟩
                          go_wp2_with fail
                          go_ret
                          exact ⟨rfl, Ext.below ((((HXc.out.trans hx4).trans hx5).alloc _ |>.trans hx6).trans hx)⟩
                        · have q6q : ((q : Int) == 0) = false := by simp; omega
                          have Q6 := Lib.hid q6
                          clear q6
                          by_cases q7 : (j : Int) ≤ 2000
                          · skip
                            by_cases q8 : j = 0
                            · have q8q : ((j : Int) == 0) = true := by simp [q8]
                              have Q8 := Lib.hid q8
                              clear q8
                              go_wp2_with fail
                              refine (HY.out (by unfold okP; have := Q3.out; have := Q6.out; have := Q8.out; omega)).mono ?_
                              rintro e w4 ⟨hx4, gg, nn, cc, rfl, hD⟩
                              have HD := Lib.hid hD
                              clear hD g0 f0 g1 f1 g2 f2 g3 f3 g4 f4 g5 f5 g6 f6 g7 f7
                              go_wp2_with fail
                              refine (HD.out _ (Chg.refl _)).mono ?_
                              rintro e w5 ⟨hx5, b1, q1, b2, q2, b3, q3, rfl, hS⟩
                              have HS := Lib.hid hS
                              have kb := (HKc.out.chg (hx4.trans hx5) (fun h => h)).chg (S := fun _ => False) ((Chg.refl w5).alloc (Obj.cells #[.int .i64 0, .slice b1 i q1, .slice b2 q q2, .int .i64 2, .bool false, .slice b3 0 q3, .int .i64 0, .float .f64 0] 33)) (fun h => h)
                              obtain ⟨g0, f0, g1, f1, g2, f2, g3, f3, g4, f4, g5, f5, g6, f6, g7, f7⟩ := blk8_base kb
                              clear kb hS
                              go_wp2_with fail
                              refine (HS.out _ ((Chg.refl w5).alloc _)).mono ?_
                              rintro e w6 ⟨rfl, hx6⟩
                              clear g0 f0 g1 f1 g2 f2 g3 f3 g4 f4 g5 f5 g6 f6 g7 f7
                              go_wp2_with fail
                              refine (HA.out _).mono ?_
                              rintro e w' ⟨rfl, hx⟩
                              go_wp2_with fail
                              go_ret
                              exact ⟨rfl, Ext.below ((((HXc.out.trans hx4).trans hx5).alloc _ |>.trans hx6).trans hx)⟩
                            · have q8q : ((j : Int) == 0) = false := by simp; omega
                              have Q8 := Lib.hid q8
                              clear q8
                              by_cases q9 : 1 ≤ token
                              · skip
                                by_cases q10 : token ≤ 1099511627776
                                · skip
                                  go_wp2_with fail
                                  refine (HY.out (by unfold okP; have := Q3.out; have := Q6.out; have := Q8.out; omega)).mono ?_
                                  rintro e w4 ⟨hx4, gg, nn, cc, rfl, hD⟩
                                  have HD := Lib.hid hD
                                  clear hD g0 f0 g1 f1 g2 f2 g3 f3 g4 f4 g5 f5 g6 f6 g7 f7
                                  go_wp2_with fail
                                  refine (HD.out _ (Chg.refl _)).mono ?_
                                  rintro e w5 ⟨hx5, b1, q1, b2, q2, b3, q3, rfl, hS⟩
                                  have HS := Lib.hid hS
                                  have kb := (HKc.out.chg (hx4.trans hx5) (fun h => h)).chg (S := fun _ => False) ((Chg.refl w5).alloc (Obj.cells #[.int .i64 0, .slice b1 i q1, .slice b2 q q2, .int .i64 2, .bool false, .slice b3 0 q3, .int .i64 0, .float .f64 0] 33)) (fun h => h)
                                  obtain ⟨g0, f0, g1, f1, g2, f2, g3, f3, g4, f4, g5, f5, g6, f6, g7, f7⟩ := blk8_base kb
                                  clear kb hS
                                  go_wp2_with fail
                                  refine (HS.out _ ((Chg.refl w5).alloc _)).mono ?_
                                  rintro e w6 ⟨rfl, hx6⟩
                                  clear g0 f0 g1 f1 g2 f2 g3 f3 g4 f4 g5 f5 g6 f6 g7 f7
                                  go_wp2_with fail
                                  refine (HA.out _).mono ?_
                                  rintro e w' ⟨rfl, hx⟩
                                  go_wp2_with fail
                                  go_ret
                                  exact ⟨rfl, Ext.below ((((HXc.out.trans hx4).trans hx5).alloc _ |>.trans hx6).trans hx)⟩
                                · skip
                                  go_wp2_with fail
                                  refine (HNo.out (by unfold okP; have := Q3.out; have := Q6.out; have := Q8.out; omega)).mono ?_
                                  rintro e w4 ⟨rfl, hx4⟩
                                  go_wp2_with fail
                                  refine (HA.out _).mono ?_
                                  rintro e w' ⟨rfl, hx⟩
                                  go_wp2_with fail
                                  go_ret
                                  exact ⟨rfl, Ext.below ((HXc.out.trans hx4).trans hx)⟩
                              · skip
                                go_wp2_with fail
                                refine (HNo.out (by unfold okP; have := Q3.out; have := Q6.out; have := Q8.out; omega)).mono ?_
                                rintro e w4 ⟨rfl, hx4⟩
                                go_wp2_with fail
                                refine (HA.out _).mono ?_
                                rintro e w' ⟨rfl, hx⟩
                                go_wp2_with fail
                                go_ret
                                exact ⟨rfl, Ext.below ((HXc.out.trans hx4).trans hx)⟩
                          · skip
                            go_wp2_with fail
                            refine (HNo.out (by unfold okP; have := Q3.out; have := Q6.out; omega)).mono ?_
                            rintro e w4 ⟨rfl, hx4⟩
                            go_wp2_with fail
                            refine (HA.out _).mono ?_
                            rintro e w' ⟨rfl, hx⟩
                            go_wp2_with fail
                            go_ret
                            exact ⟨rfl, Ext.below ((HXc.out.trans hx4).trans hx)⟩
                      · skip
                        go_wp2_with fail
                        refine (HNo.out (by unfold okP; have := Q3.out; omega)).mono ?_
                        rintro e w4 ⟨rfl, hx4⟩
                        go_wp2_with fail
                        refine (HA.out _).mono ?_
                        rintro e w' ⟨rfl, hx⟩
                        go_wp2_with fail
                        go_ret
                        exact ⟨rfl, Ext.below ((HXc.out.trans hx4).trans hx)⟩
                    · skip
                      go_wp2_with fail
                      refine (HNo.out (by unfold okP; have := Q3.out; omega)).mono ?_
                      rintro e w4 ⟨rfl, hx4⟩
                      go_wp2_with fail
                      refine (HA.out _).mono ?_
                      rintro e w' ⟨rfl, hx⟩
                      go_wp2_with fail
                      go_ret
                      exact ⟨rfl, Ext.below ((HXc.out.trans hx4).trans hx)⟩
                · skip
                  go_wp2_with fail
                  refine (HNo.out (by unfold okP;  omega)).mono ?_
                  rintro e w4 ⟨rfl, hx4⟩
                  go_wp2_with fail
                  refine (HA.out _).mono ?_
                  rintro e w' ⟨rfl, hx⟩
                  go_wp2_with fail
                  go_ret
                  exact ⟨rfl, Ext.below ((HXc.out.trans hx4).trans hx)⟩
              · skip
                go_wp2_with fail
                refine (HNo.out (by unfold okP;  omega)).mono ?_
                rintro e w4 ⟨rfl, hx4⟩
                go_wp2_with fail
                refine (HA.out _).mono ?_
                rintro e w' ⟨rfl, hx⟩
                go_wp2_with fail
                go_ret
                exact ⟨rfl, Ext.below ((HXc.out.trans hx4).trans hx)⟩
theorem limits_walk (nodes walks steps token node : Int) (w : World) :
    Calls Try.prog 7 #[.int .i64 nodes, .int .i64 walks, .int .i64 steps, .int .i64 token, .int .i64 node] w fun e w' => e = .returned (.bool true) ∧ Below w.heap.size w w' := by
  by_cases h : 0 ≤ nodes ∧ nodes ≤ 8 ∧ 0 ≤ walks ∧ walks ≤ 8 ∧ 0 ≤ steps ∧ steps ≤ 2005
  · obtain ⟨h1, h2, h3, h4, h5, h6⟩ := h
    obtain ⟨n, rfl⟩ : ∃ n : Nat, nodes = n := ⟨nodes.toNat, by omega⟩
    obtain ⟨m, rfl⟩ : ∃ n : Nat, walks = n := ⟨walks.toNat, by omega⟩
    obtain ⟨k, rfl⟩ : ∃ n : Nat, steps = n := ⟨steps.toNat, by omega⟩
    exact limits_in n m k token node (by omega) (by omega) (by omega)
  · exact limits_out nodes walks steps token node (by omega)
end Go.Proofs.Ytnamcghcgcknpaa
