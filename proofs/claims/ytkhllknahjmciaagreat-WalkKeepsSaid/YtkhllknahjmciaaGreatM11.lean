/-
  Graphs (the document's own): may it be one?
-/
import Derived.Test.YtkhllknahjmciaaGreatM10
/-! Graphs (the document's own): may it be one? -/
namespace Go.Proofs.YtkhllknahjmciaaGreat
open Go.RowKit
set_option linter.unusedVariables false
set_option linter.unusedSimpArgs false

def okNs : Option Int → List Nd → Bool
  | _, [] => true
  | none, t :: ts => soundNd t && okNs (some t.id) ts
  | some p, t :: ts => soundNd t && !decide (t.id ≤ p) && okNs (some t.id) ts
def inN (ns : List Nd) (id : Int) : Bool := !decide (placeN ns id 0 < 0)
def okEg (ns : List Nd) (nx : Int) (e : Eg) : Bool := !decide (e.tok < 1) && !decide (nx ≤ e.tok)
def okEg2 (ns : List Nd) (e : Eg) : Bool := nameOk e.lab && inN ns e.fr && inN ns e.to
def okEs (ns : List Nd) (nx : Int) : Option Int → List Eg → Bool
  | _, [] => true
  | none, e :: es => okEg ns nx e && okEg2 ns e && okEs ns nx (some e.tok) es
  | some p, e :: es => okEg ns nx e && !decide (e.tok ≤ p) && okEg2 ns e && okEs ns nx (some e.tok) es
def mayG (g : Gr) : Bool :=
  decide (g.nodes.length ≤ 12) && decide (g.edges.length ≤ 60) && decide (1 ≤ g.next) && decide (g.next ≤ 1099511627777) && okNs none g.nodes && okEs g.nodes g.next none g.edges
theorem okNs_drop {ss : List Nd} {i : Nat} {s : Nd} (h : ss[i]? = some s) : okNs ((ahead ss i).map Nd.id) (ss.drop i) = (soundNd s && (match (ahead ss i).map Nd.id with | none => true | some p => !decide (s.id ≤ p)) && okNs ((ahead ss (i + 1)).map Nd.id) (ss.drop (i + 1))) := by
  have h' : ahead ss (i + 1) = some s := h
  obtain ⟨hi, rfl⟩ := List.getElem?_eq_some_iff.1 h
  rw [List.drop_eq_getElem_cons hi, h']
  cases ahead ss i with
  | none => rw [Option.map_none, okNs]; simp
  | some p => rw [Option.map_some, okNs]; simp
theorem okEs_drop {ns : List Nd} {nx : Int} {ss : List Eg} {i : Nat} {s : Eg} (h : ss[i]? = some s) : okEs ns nx ((ahead ss i).map Eg.tok) (ss.drop i) = (okEg ns nx s && (match (ahead ss i).map Eg.tok with | none => true | some p => !decide (s.tok ≤ p)) && okEg2 ns s && okEs ns nx ((ahead ss (i + 1)).map Eg.tok) (ss.drop (i + 1))) := by
  have h' : ahead ss (i + 1) = some s := h
  obtain ⟨hi, rfl⟩ := List.getElem?_eq_some_iff.1 h
  rw [List.drop_eq_getElem_cons hi, h']
  cases ahead ss i with
  | none => rw [Option.map_none, okEs]; simp
  | some p => rw [Option.map_some, okEs]; simp
theorem nd_ext {w0 w : World} {x : Addr} {a0 a1 a2 : Value} (h : Ext w0 w) (c0 : w0.cell? x = some a0) (c1 : w0.cell? { block := x.block, off := x.off + 1 } = some a1) (c2 : w0.cell? { block := x.block, off := x.off + 2 } = some a2) :
    w.cell? x = some a0 ∧ w.cell? { block := x.block, off := x.off + 1 } = some a1 ∧ w.cell? { block := x.block, off := x.off + 2 } = some a2 :=
  ⟨(h.cell (lt_of_cell c0) (fun h => h)).trans c0, (h.cell (lt_of_cell c1) (fun h => h)).trans c1, (h.cell (lt_of_cell c2) (fun h => h)).trans c2⟩
theorem one_ext {w0 w : World} {x : Addr} {a : Value} (h : Ext w0 w) (c : w0.cell? x = some a) : w.cell? x = some a := (h.cell (lt_of_cell c) (fun h => h)).trans c
theorem three_ext {w0 w : World} {p t : Nat} {a0 a1 a2 : Value} (h : Ext w0 w) (k : Blk w0 p #[a0, a1, a2] t) : w.cell? ⟨p, 0, none⟩ = some a0 ∧ w.cell? ⟨p, 1, none⟩ = some a1 ∧ w.cell? ⟨p, 2, none⟩ = some a2 := by
  have := k.chg h (fun h => h)
  exact ⟨this.cell 0 _ rfl, this.cell 1 _ rfl, this.cell 2 _ rfl⟩
theorem four_ext {w0 w : World} {p t : Nat} {a0 a1 a2 a3 : Value} (h : Ext w0 w) (k : Blk w0 p #[a0, a1, a2, a3] t) : w.cell? ⟨p, 0, none⟩ = some a0 ∧ w.cell? ⟨p, 1, none⟩ = some a1 ∧ w.cell? ⟨p, 2, none⟩ = some a2 ∧ w.cell? ⟨p, 3, none⟩ = some a3 := by
  have := k.chg h (fun h => h)
  exact ⟨this.cell 0 _ rfl, this.cell 1 _ rfl, this.cell 2 _ rfl, this.cell 3 _ rfl⟩
set_option maxRecDepth 100000 in
set_option maxHeartbeats 1000000 in
theorem rMay_any (g : Gr) (w : World) (cs : List Value) (h : GrC w g cs) :
    Calls Tryz.prog 12 #[.agg cs.toArray] w fun e w' => e = .returned (.bool (mayG g)) ∧ Ext w w' := by
  obtain ⟨na, nc, ea, ec, rfl, hn, he⟩ := h
  have hb := Blk.new w #[.slice na g.nodes.length nc, .slice ea g.edges.length ec, .int .i64 g.next] 25
  have hw1 : Ext w (w.alloc (.cells #[.slice na g.nodes.length nc, .slice ea g.edges.length ec, .int .i64 g.next] 25)) := (Chg.refl w).alloc _
  have hec := he.1
  have hem := he.2.1
  have hnc : g.nodes.length ≤ nc ∧ nc ≤ maxLen := by obtain ⟨css, h1, -⟩ := hn; exact ⟨h1.1, h1.2.1⟩
  unfold maxLen at hem hnc
  obtain ⟨hnc, hnm⟩ := hnc
  unfold mayG
  obtain ⟨N, E, nx⟩ := g
  dsimp only at *
  obtain ⟨m, hm⟩ : ∃ m, N.length = m := ⟨_, rfl⟩
  obtain ⟨n, hn'⟩ : ∃ n, E.length = n := ⟨_, rfl⟩
  unfold EsC at he
  rw [hm] at hb hw1 hnc ⊢
  rw [hn'] at hb hw1 he hec ⊢
  by_cases hg : m ≤ 12 ∧ n ≤ 60 ∧ 1 ≤ nx ∧ nx ≤ 1099511627777
  · obtain ⟨g1, g2, g3, g4⟩ := hg
    have e1 : decide ((12 : Int) < m) = false := by simp; omega
    have e2 : decide ((60 : Int) < n) = false := by simp; omega
    have e3 : decide (nx < 1) = false := by simp; omega
    have e4 : decide ((1099511627777 : Int) < nx) = false := by simp; omega
    rw [decide_eq_true g1, decide_eq_true g2, decide_eq_true g3, decide_eq_true g4, Bool.true_and, Bool.true_and, Bool.true_and, Bool.true_and]
    have HB := Lib.hid (And.intro hb hw1)
    have HL := Lib.hid (And.intro hn hm)
    have HP := Lib.hid (And.intro he hn')
    obtain ⟨b0, -, b1, -, b2, -⟩ := blk3_base hb
    obtain ⟨RL, hRL⟩ : ∃ R, okNs none N = R := ⟨_, rfl⟩
    obtain ⟨RP, hRP⟩ : ∃ R, okEs N nx none E = R := ⟨_, rfl⟩
    rw [hRL, hRP]
    have HRL := Lib.hid hRL
    have HRP := Lib.hid hRP
    have HPL := Lib.hid (fun W (hW : Ext w W) id => rplace_any N id W na nc (.slice ea n ec) (.int .i64 nx) (hn.ext hW))
    rw [hm] at HPL
    clear hb hw1 hn he hm hn' hRL hRP
    go_enter Tryz.func12, Tryz.ntmps12
    go_wp2_with fail
    go_loopg [3] m (fun g l3 wr => ∃ i : Nat, i ≤ m ∧ Ext (w.alloc (.cells #[.slice na m nc, .slice ea n ec, .int .i64 nx] 25)) wr ∧ okNs ((ahead N i).map Nd.id) (N.drop i) = RL ∧ l3 = .int .i64 i ∧ g = m - i)
    case atStart => exact ⟨0, Nat.zero_le _, Chg.refl _, HRL.out, rfl, rfl⟩
    case round =>
      clear b0 b1 b2
      obtain ⟨i, hi, hx, hr, rfl, rfl⟩ := hrel
      obtain ⟨b0, -, b1, -, b2, -⟩ := blk3_base (HB.out.1.chg hx (fun h => h))
      by_cases hin : i < m
      · have hin' : (i : Int) < m := by omega
        obtain ⟨s, hs⟩ : ∃ s, N[i]? = some s := ⟨_, List.getElem?_eq_getElem (by rw [HL.out.2]; exact hin)⟩
        obtain ⟨x, la, lc, pa, pc, rfl, c0, c1, c2, hsl, hsp⟩ := nd_at (HL.out.1.ext (HB.out.2.trans hx)) hs
        rw [okNs_drop hs] at hr
        have HX := Lib.hid (And.intro hx (Chg.refl (S := fun _ => False) wr))
        have HS := Lib.hid (fun W (hW : Ext wr W) => soundNode_any s W [.int .i64 s.id, .slice la s.labels.length lc, .slice pa s.props.length pc] ⟨la, lc, pa, pc, rfl, hsl.ext hW, hsp.ext hW⟩)
        have kb := HB.out.1.chg hx (fun h => h)
        clear hx hsl hsp
        generalize s.labels.length = sl at HS c1
        generalize s.props.length = sp at HS c2
        obtain ⟨sd, hsd⟩ : ∃ d, s.id = d := ⟨_, rfl⟩
        rw [hsd] at HS c0 hr
        have hN1 : ahead N (i + 1) = some s := hs
        rcases Nat.eq_zero_or_pos i with rfl | hpos
        · rw [Nat.zero_mul, add_zero] at c0 c1 c2
          have q0 := xt_cell b0
          have q3 := xt_cell c0
          have q4 := xt_cell c1
          have q5 := xt_cell c2
          clear hs hsd kb hN1
          cases eS : soundNd s with
          | false =>
            rw [eS] at HS hr
            simp only [Bool.false_and] at hr
            subst hr
            clear eS
            go_wp2_with fail
            refine wp_region_xt (by kernel_rfl) (by kernel_rfl) ?_
            repeat (go_big_quiet_step (((go_at_call 49; exact xt_call (HS.out _ (xt_ext _ _))))))
            refine wpQuiet_nil ?_
            intro wq hwq
            obtain ⟨uq, hwq'⟩ := hwq
            have hq := xt_eq hwq'
            clear hwq'
            go_wp2_with fail
            go_ret
            exact ⟨rfl, (HB.out.2.trans HX.out.1).trans hq⟩
          | true =>
            rw [eS] at HS hr
            rw [Bool.true_and] at hr
            have hr' := Lib.hid hr
            clear eS hr
            go_wp2_with fail
            refine wp_region_xt (by kernel_rfl) (by kernel_rfl) ?_
            repeat (go_big_quiet_step (((go_at_call 49; exact xt_call (HS.out _ (xt_ext _ _))))))
            refine wpQuiet_nil ?_
            intro wq hwq
            obtain ⟨uq, hwq'⟩ := hwq
            have hq := xt_eq hwq'
            clear hwq'
            go_wp2_with fail
            go_roundg (m - (0 + 1))
            case measure => omega
            case rel => exact ⟨0 + 1, by omega, HX.out.1.trans hq, hr'.out, rfl, rfl⟩
        · obtain ⟨k, hk⟩ : ∃ k, i = k + 1 := ⟨i - 1, by omega⟩
          obtain ⟨q, hqq⟩ : ∃ q, N[k]? = some q := ⟨_, List.getElem?_eq_getElem (by rw [HL.out.2]; omega)⟩
          obtain ⟨x', _, _, _, _, e', c5, -⟩ := nd_at (HL.out.1.ext (HB.out.2.trans HX.out.1)) hqq
          cases e'
          have ea : ahead N i = some q := by rw [hk]; exact hqq
          rw [ea] at hr
          dsimp only [Option.map] at hr
          have e5 : decide ((0 : Int) < (i : Int)) = true := by simp; omega
          have w1 : IntKind.i64.wrap ((i : Int) - 1) = k := by rw [show (i : Int) - 1 = k by omega]; exact IntWalk.i64_in _ (by omega)
          have e6 : decide (0 < i) = true := by simpa using hpos
          have w2 : (0 : Int) ≤ k := by omega
          have w3 : (k : Int) < m := by omega
          obtain ⟨qd, hqd⟩ : ∃ d, q.id = d := ⟨_, rfl⟩
          rw [hqd] at c5 hr
          have q0 := xt_cell b0
          have q3 := xt_cell c0
          have q4 := xt_cell c1
          have q5 := xt_cell c2
          have q6 := xt_cell c5
          clear hs hsd kb hN1 hk hpos hqq ea hqd
          cases eS : soundNd s with
          | false =>
            rw [eS] at HS hr
            simp only [Bool.false_and] at hr
            subst hr
            clear eS
            go_wp2_with fail
            refine wp_region_xt (by kernel_rfl) (by kernel_rfl) ?_
            repeat (go_big_quiet_step (((go_at_call 49; exact xt_call (HS.out _ (xt_ext _ _))))))
            refine wpQuiet_nil ?_
            intro wq hwq
            obtain ⟨uq, hwq'⟩ := hwq
            have hq := xt_eq hwq'
            clear hwq'
            go_wp2_with fail
            go_ret
            exact ⟨rfl, (HB.out.2.trans HX.out.1).trans hq⟩
          | true =>
            rw [eS] at HS hr
            rw [Bool.true_and] at hr
            clear eS
            by_cases hle : sd ≤ qd
            · have e7 : decide (sd ≤ qd) = true := by simpa using hle
              rw [e7] at hr
              simp only [Bool.not_true, Bool.false_and] at hr
              subst hr
              clear hle
              go_wp2_with fail
              refine wp_region_xt (by kernel_rfl) (by kernel_rfl) ?_
              repeat (go_big_quiet_step (((go_at_call 49; exact xt_call (HS.out _ (xt_ext _ _))))))
              refine wpQuiet_nil ?_
              intro wq hwq
              obtain ⟨uq, hwq'⟩ := hwq
              have hq := xt_eq hwq'
              clear hwq'
              go_wp2_with fail
              go_ret
              exact ⟨rfl, (HB.out.2.trans HX.out.1).trans hq⟩
            · have e7 : decide (sd ≤ qd) = false := by simpa using hle
              rw [e7] at hr
              simp only [Bool.not_false, Bool.true_and] at hr
              have hr' := Lib.hid hr
              clear hr hle
              go_wp2_with fail
              refine wp_region_xt (by kernel_rfl) (by kernel_rfl) ?_
              repeat (go_big_quiet_step (((go_at_call 49; exact xt_call (HS.out _ (xt_ext _ _))))))
              refine wpQuiet_nil ?_
              intro wq hwq
              obtain ⟨uq, hwq'⟩ := hwq
              have hq := xt_eq hwq'
              clear hwq'
              go_wp2_with fail
              go_roundg (m - (i + 1))
              case measure => omega
              case rel => exact ⟨i + 1, by omega, HX.out.1.trans hq, hr'.out, rfl, rfl⟩
      · obtain rfl : i = m := by omega
        rw [List.drop_of_length_le (by rw [HL.out.2]; exact Nat.le_refl _)] at hr
        have hr' : true = RL := by rw [← hr]; cases (ahead N i).map Nd.id <;> rfl
        subst hr'
        have HX := Lib.hid hx
        clear hr hx HRL
        go_wp2_with fail
        go_loopg [4] n (fun g l4 wr => ∃ j : Nat, j ≤ n ∧ Ext (w.alloc (.cells #[.slice na i nc, .slice ea n ec, .int .i64 nx] 25)) wr ∧ okEs N nx ((ahead E j).map Eg.tok) (E.drop j) = RP ∧ l4 = .int .i64 j ∧ g = n - j)
        case atStart => exact ⟨0, Nat.zero_le _, HX.out, HRP.out, rfl, rfl⟩
        case round =>
          clear b0 b1 b2 HX
          obtain ⟨j, hj, hx, hr, rfl, rfl⟩ := hrel
          obtain ⟨b0, -, b1, -, b2, -⟩ := blk3_base (HB.out.1.chg hx (fun h => h))
          by_cases hjn : j < n
          · have hjn' : (j : Int) < n := by omega
            obtain ⟨⟨tk, fr, lb, to⟩, hs⟩ : ∃ s, E[j]? = some s := ⟨_, List.getElem?_eq_getElem (by rw [HP.out.2]; exact hjn)⟩
            obtain ⟨y, rfl, c0, c1, c2, c3⟩ := eg_at' (HP.out.1.ext (HB.out.2.trans hx)) HP.out.2 hs
            rw [okEs_drop hs] at hr
            dsimp only at hr c0 c1 c2 c3
            have hx1 : Ext wr (wr.alloc (.cells #[.int .i64 tk, .int .i64 fr, .string lb, .int .i64 to] 72)) := (Chg.refl wr).alloc _
            have hbe := Blk.new wr #[.int .i64 tk, .int .i64 fr, .string lb, .int .i64 to] 72
            have kb := (HB.out.1.chg hx (fun h => h)).chg hx1 (fun h => h)
            obtain ⟨v0, v1, v2, v3⟩ := four_ext (Chg.refl _) hbe
            obtain ⟨u0, u1, u2⟩ := three_ext (Chg.refl _) kb
            have q0 := xt_cell u0
            have q1 := xt_cell u1
            have q2 := xt_cell u2
            have q3 := xt_cell v0
            have q4 := xt_cell v1
            have q5 := xt_cell v2
            have q6 := xt_cell v3
            have HX := Lib.hid (And.intro hx hx1)
            have HF := Lib.hid (fun W (hW : Ext w W) => HPL.out W hW fr)
            have HT := Lib.hid (fun W (hW : Ext w W) => HPL.out W hW to)
            have HN := Lib.hid (fun W => gname_any lb W)
            clear hbe kb v0 v1 v2 v3 u0 u1 u2 hx1
            unfold okEg okEg2 inN at hr
            dsimp only at hr
            obtain ⟨fp, hfp⟩ : ∃ d, placeN N fr 0 = d := ⟨_, rfl⟩
            obtain ⟨tp, htp⟩ : ∃ d, placeN N to 0 = d := ⟨_, rfl⟩
            obtain ⟨nb, hnb⟩ : ∃ d, nameOk lb = d := ⟨_, rfl⟩
            rw [hfp] at HF hr
            rw [htp] at HT hr
            rw [hnb] at HN hr
            clear hfp htp hnb
            have HPA : Hid (∀ q, (ahead E j) = some q → 0 < j ∧ ∃ k : Nat, j = k + 1 ∧ wr.cell? (y.add (k * 4)) = some (.int .i64 q.tok)) := Lib.hid (by
              intro q hq
              cases j with
              | zero => cases hq
              | succ k =>
                obtain ⟨y', e', c9, -⟩ := eg_at' (HP.out.1.ext (HB.out.2.trans hx)) HP.out.2 hq
                cases e'
                exact ⟨by omega, k, rfl, c9⟩)
            have HPN : Hid (ahead E j = none → j = 0) := Lib.hid (by
              intro hq
              cases j with
              | zero => rfl
              | succ k =>
                have := List.getElem?_eq_none_iff.1 hq
                rw [HP.out.2] at this
                omega)
            clear hx hs
            cases hA : ahead E j with
            | none =>
              rw [hA] at hr
              dsimp only [Option.map] at hr
              obtain rfl := HPN.out hA
              clear hA HPA HPN
              rw [Nat.zero_mul, add_zero] at c0 c1 c2 c3
              by_cases d1h : tk < 1
              · have d1 : decide (tk < 1) = true := by simpa using d1h
                rw [d1] at hr
                clear d1h
                simp only [Bool.not_true, Bool.false_and, Bool.not_false, Bool.true_and, Bool.and_false, Bool.and_true] at hr
                subst hr
                go_wp2_with fail
                refine wp_region_xt (by kernel_rfl) (by kernel_rfl) ?_
                repeat (go_big_quiet_step ((first | (go_at_call 50; exact xt_same (HN.out _)) | (go_at_call_of 51 (Value.int .i64 fr); exact xt_call (HF.out _ ((HB.out.2.trans (HX.out.1.trans HX.out.2)).trans (xt_ext _ _)))) | (go_at_call_of 51 (Value.int .i64 to); exact xt_call (HT.out _ ((HB.out.2.trans (HX.out.1.trans HX.out.2)).trans (xt_ext _ _)))))))
                refine wpQuiet_nil ?_
                intro wq hwq
                obtain ⟨uq, hwq'⟩ := hwq
                have hq := xt_eq hwq'
                clear hwq'
                go_wp2_with fail
                go_ret
                exact ⟨rfl, (HB.out.2.trans (HX.out.1.trans HX.out.2)).trans hq⟩
              · have d1 : decide (tk < 1) = false := by simpa using d1h
                rw [d1] at hr
                clear d1h
                by_cases d2h : nx ≤ tk
                · have d2 : decide (nx ≤ tk) = true := by simpa using d2h
                  rw [d2] at hr
                  clear d2h
                  simp only [Bool.not_true, Bool.false_and, Bool.not_false, Bool.true_and, Bool.and_false, Bool.and_true] at hr
                  subst hr
                  go_wp2_with fail
                  refine wp_region_xt (by kernel_rfl) (by kernel_rfl) ?_
                  repeat (go_big_quiet_step ((first | (go_at_call 50; exact xt_same (HN.out _)) | (go_at_call_of 51 (Value.int .i64 fr); exact xt_call (HF.out _ ((HB.out.2.trans (HX.out.1.trans HX.out.2)).trans (xt_ext _ _)))) | (go_at_call_of 51 (Value.int .i64 to); exact xt_call (HT.out _ ((HB.out.2.trans (HX.out.1.trans HX.out.2)).trans (xt_ext _ _)))))))
                  refine wpQuiet_nil ?_
                  intro wq hwq
                  obtain ⟨uq, hwq'⟩ := hwq
                  have hq := xt_eq hwq'
                  clear hwq'
                  go_wp2_with fail
                  go_ret
                  exact ⟨rfl, (HB.out.2.trans (HX.out.1.trans HX.out.2)).trans hq⟩
                · have d2 : decide (nx ≤ tk) = false := by simpa using d2h
                  rw [d2] at hr
                  clear d2h
                  cases nb with
                  | false =>
                    simp only [Bool.not_true, Bool.false_and, Bool.not_false, Bool.true_and, Bool.and_false, Bool.and_true] at hr
                    subst hr
                    go_wp2_with fail
                    refine wp_region_xt (by kernel_rfl) (by kernel_rfl) ?_
                    repeat (go_big_quiet_step ((first | (go_at_call 50; exact xt_same (HN.out _)) | (go_at_call_of 51 (Value.int .i64 fr); exact xt_call (HF.out _ ((HB.out.2.trans (HX.out.1.trans HX.out.2)).trans (xt_ext _ _)))) | (go_at_call_of 51 (Value.int .i64 to); exact xt_call (HT.out _ ((HB.out.2.trans (HX.out.1.trans HX.out.2)).trans (xt_ext _ _)))))))
                    refine wpQuiet_nil ?_
                    intro wq hwq
                    obtain ⟨uq, hwq'⟩ := hwq
                    have hq := xt_eq hwq'
                    clear hwq'
                    go_wp2_with fail
                    go_ret
                    exact ⟨rfl, (HB.out.2.trans (HX.out.1.trans HX.out.2)).trans hq⟩
                  | true =>
                    by_cases d5h : fp < 0
                    · have d5 : decide (fp < 0) = true := by simpa using d5h
                      rw [d5] at hr
                      clear d5h
                      simp only [Bool.not_true, Bool.false_and, Bool.not_false, Bool.true_and, Bool.and_false, Bool.and_true] at hr
                      subst hr
                      go_wp2_with fail
                      refine wp_region_xt (by kernel_rfl) (by kernel_rfl) ?_
                      repeat (go_big_quiet_step ((first | (go_at_call 50; exact xt_same (HN.out _)) | (go_at_call_of 51 (Value.int .i64 fr); exact xt_call (HF.out _ ((HB.out.2.trans (HX.out.1.trans HX.out.2)).trans (xt_ext _ _)))) | (go_at_call_of 51 (Value.int .i64 to); exact xt_call (HT.out _ ((HB.out.2.trans (HX.out.1.trans HX.out.2)).trans (xt_ext _ _)))))))
                      refine wpQuiet_nil ?_
                      intro wq hwq
                      obtain ⟨uq, hwq'⟩ := hwq
                      have hq := xt_eq hwq'
                      clear hwq'
                      go_wp2_with fail
                      go_ret
                      exact ⟨rfl, (HB.out.2.trans (HX.out.1.trans HX.out.2)).trans hq⟩
                    · have d5 : decide (fp < 0) = false := by simpa using d5h
                      rw [d5] at hr
                      clear d5h
                      by_cases d6h : tp < 0
                      · have d6 : decide (tp < 0) = true := by simpa using d6h
                        rw [d6] at hr
                        clear d6h
                        simp only [Bool.not_true, Bool.false_and, Bool.not_false, Bool.true_and, Bool.and_false, Bool.and_true] at hr
                        subst hr
                        go_wp2_with fail
                        refine wp_region_xt (by kernel_rfl) (by kernel_rfl) ?_
                        repeat (go_big_quiet_step ((first | (go_at_call 50; exact xt_same (HN.out _)) | (go_at_call_of 51 (Value.int .i64 fr); exact xt_call (HF.out _ ((HB.out.2.trans (HX.out.1.trans HX.out.2)).trans (xt_ext _ _)))) | (go_at_call_of 51 (Value.int .i64 to); exact xt_call (HT.out _ ((HB.out.2.trans (HX.out.1.trans HX.out.2)).trans (xt_ext _ _)))))))
                        refine wpQuiet_nil ?_
                        intro wq hwq
                        obtain ⟨uq, hwq'⟩ := hwq
                        have hq := xt_eq hwq'
                        clear hwq'
                        go_wp2_with fail
                        go_ret
                        exact ⟨rfl, (HB.out.2.trans (HX.out.1.trans HX.out.2)).trans hq⟩
                      · have d6 : decide (tp < 0) = false := by simpa using d6h
                        rw [d6] at hr
                        clear d6h
                        simp only [Bool.not_true, Bool.false_and, Bool.not_false, Bool.true_and, Bool.and_false, Bool.and_true] at hr
                        have hr' := Lib.hid hr
                        clear hr
                        go_wp2_with fail
                        refine wp_region_xt (by kernel_rfl) (by kernel_rfl) ?_
                        repeat (go_big_quiet_step ((first | (go_at_call 50; exact xt_same (HN.out _)) | (go_at_call_of 51 (Value.int .i64 fr); exact xt_call (HF.out _ ((HB.out.2.trans (HX.out.1.trans HX.out.2)).trans (xt_ext _ _)))) | (go_at_call_of 51 (Value.int .i64 to); exact xt_call (HT.out _ ((HB.out.2.trans (HX.out.1.trans HX.out.2)).trans (xt_ext _ _)))))))
                        refine wpQuiet_nil ?_
                        intro wq hwq
                        obtain ⟨uq, hwq'⟩ := hwq
                        have hq := xt_eq hwq'
                        clear hwq'
                        go_wp2_with fail
                        go_roundg (n - (0 + 1))
                        case measure => omega
                        case rel => exact ⟨0 + 1, by omega, (HX.out.1.trans HX.out.2).trans hq, hr'.out, rfl, rfl⟩
            | some p =>
              rw [hA] at hr
              dsimp only [Option.map] at hr
              obtain ⟨hpos, k, hk, c9⟩ := HPA.out p hA
              clear hA HPA HPN
              obtain ⟨pt, hpt⟩ : ∃ d, p.tok = d := ⟨_, rfl⟩
              rw [hpt] at hr c9
              have q9 := xt_cell (one_ext HX.out.2 c9)
              have e5 : decide ((0 : Int) < (j : Int)) = true := by simp; omega
              have w1 : IntKind.i64.wrap ((j : Int) - 1) = k := by rw [show (j : Int) - 1 = k by omega]; exact IntWalk.i64_in _ (by omega)
              have e6 : decide (0 < j) = true := by simpa using hpos
              have w2 : (0 : Int) ≤ k := by omega
              have w3 : (k : Int) < n := by omega
              clear hk hpos c9 hpt
              by_cases d1h : tk < 1
              · have d1 : decide (tk < 1) = true := by simpa using d1h
                rw [d1] at hr
                clear d1h
                simp only [Bool.not_true, Bool.false_and, Bool.not_false, Bool.true_and, Bool.and_false, Bool.and_true] at hr
                subst hr
                go_wp2_with fail
                refine wp_region_xt (by kernel_rfl) (by kernel_rfl) ?_
                repeat (go_big_quiet_step ((first | (go_at_call 50; exact xt_same (HN.out _)) | (go_at_call_of 51 (Value.int .i64 fr); exact xt_call (HF.out _ ((HB.out.2.trans (HX.out.1.trans HX.out.2)).trans (xt_ext _ _)))) | (go_at_call_of 51 (Value.int .i64 to); exact xt_call (HT.out _ ((HB.out.2.trans (HX.out.1.trans HX.out.2)).trans (xt_ext _ _)))))))
                refine wpQuiet_nil ?_
                intro wq hwq
                obtain ⟨uq, hwq'⟩ := hwq
                have hq := xt_eq hwq'
                clear hwq'
                go_wp2_with fail
                go_ret
                exact ⟨rfl, (HB.out.2.trans (HX.out.1.trans HX.out.2)).trans hq⟩
              · have d1 : decide (tk < 1) = false := by simpa using d1h
                rw [d1] at hr
                clear d1h
                by_cases d2h : nx ≤ tk
                · have d2 : decide (nx ≤ tk) = true := by simpa using d2h
                  rw [d2] at hr
                  clear d2h
                  simp only [Bool.not_true, Bool.false_and, Bool.not_false, Bool.true_and, Bool.and_false, Bool.and_true] at hr
                  subst hr
                  go_wp2_with fail
                  refine wp_region_xt (by kernel_rfl) (by kernel_rfl) ?_
                  repeat (go_big_quiet_step ((first | (go_at_call 50; exact xt_same (HN.out _)) | (go_at_call_of 51 (Value.int .i64 fr); exact xt_call (HF.out _ ((HB.out.2.trans (HX.out.1.trans HX.out.2)).trans (xt_ext _ _)))) | (go_at_call_of 51 (Value.int .i64 to); exact xt_call (HT.out _ ((HB.out.2.trans (HX.out.1.trans HX.out.2)).trans (xt_ext _ _)))))))
                  refine wpQuiet_nil ?_
                  intro wq hwq
                  obtain ⟨uq, hwq'⟩ := hwq
                  have hq := xt_eq hwq'
                  clear hwq'
                  go_wp2_with fail
                  go_ret
                  exact ⟨rfl, (HB.out.2.trans (HX.out.1.trans HX.out.2)).trans hq⟩
                · have d2 : decide (nx ≤ tk) = false := by simpa using d2h
                  rw [d2] at hr
                  clear d2h
                  by_cases d3h : tk ≤ pt
                  · have d3 : decide (tk ≤ pt) = true := by simpa using d3h
                    rw [d3] at hr
                    clear d3h
                    simp only [Bool.not_true, Bool.false_and, Bool.not_false, Bool.true_and, Bool.and_false, Bool.and_true] at hr
                    subst hr
                    go_wp2_with fail
                    refine wp_region_xt (by kernel_rfl) (by kernel_rfl) ?_
                    repeat (go_big_quiet_step ((first | (go_at_call 50; exact xt_same (HN.out _)) | (go_at_call_of 51 (Value.int .i64 fr); exact xt_call (HF.out _ ((HB.out.2.trans (HX.out.1.trans HX.out.2)).trans (xt_ext _ _)))) | (go_at_call_of 51 (Value.int .i64 to); exact xt_call (HT.out _ ((HB.out.2.trans (HX.out.1.trans HX.out.2)).trans (xt_ext _ _)))))))
                    refine wpQuiet_nil ?_
                    intro wq hwq
                    obtain ⟨uq, hwq'⟩ := hwq
                    have hq := xt_eq hwq'
                    clear hwq'
                    go_wp2_with fail
                    go_ret
                    exact ⟨rfl, (HB.out.2.trans (HX.out.1.trans HX.out.2)).trans hq⟩
                  · have d3 : decide (tk ≤ pt) = false := by simpa using d3h
                    rw [d3] at hr
                    clear d3h
                    cases nb with
                    | false =>
                      simp only [Bool.not_true, Bool.false_and, Bool.not_false, Bool.true_and, Bool.and_false, Bool.and_true] at hr
                      subst hr
                      go_wp2_with fail
                      refine wp_region_xt (by kernel_rfl) (by kernel_rfl) ?_
                      repeat (go_big_quiet_step ((first | (go_at_call 50; exact xt_same (HN.out _)) | (go_at_call_of 51 (Value.int .i64 fr); exact xt_call (HF.out _ ((HB.out.2.trans (HX.out.1.trans HX.out.2)).trans (xt_ext _ _)))) | (go_at_call_of 51 (Value.int .i64 to); exact xt_call (HT.out _ ((HB.out.2.trans (HX.out.1.trans HX.out.2)).trans (xt_ext _ _)))))))
                      refine wpQuiet_nil ?_
                      intro wq hwq
                      obtain ⟨uq, hwq'⟩ := hwq
                      have hq := xt_eq hwq'
                      clear hwq'
                      go_wp2_with fail
                      go_ret
                      exact ⟨rfl, (HB.out.2.trans (HX.out.1.trans HX.out.2)).trans hq⟩
                    | true =>
                      by_cases d5h : fp < 0
                      · have d5 : decide (fp < 0) = true := by simpa using d5h
                        rw [d5] at hr
                        clear d5h
                        simp only [Bool.not_true, Bool.false_and, Bool.not_false, Bool.true_and, Bool.and_false, Bool.and_true] at hr
                        subst hr
                        go_wp2_with fail
                        refine wp_region_xt (by kernel_rfl) (by kernel_rfl) ?_
                        repeat (go_big_quiet_step ((first | (go_at_call 50; exact xt_same (HN.out _)) | (go_at_call_of 51 (Value.int .i64 fr); exact xt_call (HF.out _ ((HB.out.2.trans (HX.out.1.trans HX.out.2)).trans (xt_ext _ _)))) | (go_at_call_of 51 (Value.int .i64 to); exact xt_call (HT.out _ ((HB.out.2.trans (HX.out.1.trans HX.out.2)).trans (xt_ext _ _)))))))
                        refine wpQuiet_nil ?_
                        intro wq hwq
                        obtain ⟨uq, hwq'⟩ := hwq
                        have hq := xt_eq hwq'
                        clear hwq'
                        go_wp2_with fail
                        go_ret
                        exact ⟨rfl, (HB.out.2.trans (HX.out.1.trans HX.out.2)).trans hq⟩
                      · have d5 : decide (fp < 0) = false := by simpa using d5h
                        rw [d5] at hr
                        clear d5h
                        by_cases d6h : tp < 0
                        · have d6 : decide (tp < 0) = true := by simpa using d6h
                          rw [d6] at hr
                          clear d6h
                          simp only [Bool.not_true, Bool.false_and, Bool.not_false, Bool.true_and, Bool.and_false, Bool.and_true] at hr
                          subst hr
                          go_wp2_with fail
                          refine wp_region_xt (by kernel_rfl) (by kernel_rfl) ?_
                          repeat (go_big_quiet_step ((first | (go_at_call 50; exact xt_same (HN.out _)) | (go_at_call_of 51 (Value.int .i64 fr); exact xt_call (HF.out _ ((HB.out.2.trans (HX.out.1.trans HX.out.2)).trans (xt_ext _ _)))) | (go_at_call_of 51 (Value.int .i64 to); exact xt_call (HT.out _ ((HB.out.2.trans (HX.out.1.trans HX.out.2)).trans (xt_ext _ _)))))))
                          refine wpQuiet_nil ?_
                          intro wq hwq
                          obtain ⟨uq, hwq'⟩ := hwq
                          have hq := xt_eq hwq'
                          clear hwq'
                          go_wp2_with fail
                          go_ret
                          exact ⟨rfl, (HB.out.2.trans (HX.out.1.trans HX.out.2)).trans hq⟩
                        · have d6 : decide (tp < 0) = false := by simpa using d6h
                          rw [d6] at hr
                          clear d6h
                          simp only [Bool.not_true, Bool.false_and, Bool.not_false, Bool.true_and, Bool.and_false, Bool.and_true] at hr
                          have hr' := Lib.hid hr
                          clear hr
                          go_wp2_with fail
                          refine wp_region_xt (by kernel_rfl) (by kernel_rfl) ?_
                          repeat (go_big_quiet_step ((first | (go_at_call 50; exact xt_same (HN.out _)) | (go_at_call_of 51 (Value.int .i64 fr); exact xt_call (HF.out _ ((HB.out.2.trans (HX.out.1.trans HX.out.2)).trans (xt_ext _ _)))) | (go_at_call_of 51 (Value.int .i64 to); exact xt_call (HT.out _ ((HB.out.2.trans (HX.out.1.trans HX.out.2)).trans (xt_ext _ _)))))))
                          refine wpQuiet_nil ?_
                          intro wq hwq
                          obtain ⟨uq, hwq'⟩ := hwq
                          have hq := xt_eq hwq'
                          clear hwq'
                          go_wp2_with fail
                          go_roundg (n - (j + 1))
                          case measure => omega
                          case rel => exact ⟨j + 1, by omega, (HX.out.1.trans HX.out.2).trans hq, hr'.out, rfl, rfl⟩
          · obtain rfl : j = n := by omega
            rw [List.drop_of_length_le (by rw [HP.out.2]; exact Nat.le_refl _)] at hr
            have hr' : true = RP := by rw [← hr]; cases (ahead E j).map Eg.tok <;> rfl
            subst hr'
            have HX := Lib.hid hx
            clear hr hx HRP
            go_wp2_with fail
            go_ret
            exact ⟨rfl, HB.out.2.trans HX.out⟩
  · have hR : (decide (m ≤ 12) && decide (n ≤ 60) && decide (1 ≤ nx) && decide (nx ≤ 1099511627777) && okNs none N && okEs N nx none E) = false := by
      rw [← Bool.not_eq_true]
      simp only [Bool.and_eq_true, decide_eq_true_eq]
      omega
    rw [hR]
    have HB := Lib.hid (And.intro hb hw1)
    obtain ⟨b0, -, b1, -, b2, -⟩ := blk3_base hb
    clear hb hw1 hn he hm hn' hR
    by_cases g1 : 12 < m
    · have e1 : decide ((12 : Int) < m) = true := by simp; omega
      go_enter Tryz.func12, Tryz.ntmps12
      go_wp2_with fail
      go_ret
      exact ⟨rfl, HB.out.2⟩
    · have e1 : decide ((12 : Int) < m) = false := by simp; omega
      by_cases g2 : 60 < n
      · have e2 : decide ((60 : Int) < n) = true := by simp; omega
        go_enter Tryz.func12, Tryz.ntmps12
        go_wp2_with fail
        go_ret
        exact ⟨rfl, HB.out.2⟩
      · have e2 : decide ((60 : Int) < n) = false := by simp; omega
        by_cases g3 : nx < 1
        · have e3 : decide (nx < 1) = true := by simpa using g3
          go_enter Tryz.func12, Tryz.ntmps12
          go_wp2_with fail
          go_ret
          exact ⟨rfl, HB.out.2⟩
        · have e3 : decide (nx < 1) = false := by simpa using g3
          have e4 : decide ((1099511627777 : Int) < nx) = true := by simp; omega
          go_enter Tryz.func12, Tryz.ntmps12
          go_wp2_with fail
          go_ret
          exact ⟨rfl, HB.out.2⟩
end Go.Proofs.YtkhllknahjmciaaGreat
