/-
  The law CertTurns (chapter 24): one byte of a cert is another one.
-/
import Derived.Test.YtnamcghcgcknpaaLawE
import Derived.Test.YtnamcghcgcknpaaSameH
namespace Go.Proofs.Ytnamcghcgcknpaa
open Go.RowKit
set_option linter.unusedVariables false

theorem round_any (k : Int) (n : Nat) (hn : 0 < n) (hm : n < 4611686018427387904) (w : World) : Calls Try.prog 18 #[.int .i64 k, .int .i64 n] w fun e w' => (∃ r : Nat, r < n ∧ e = .returned (.int .i64 (r : Int))) ∧ w' = w := by
  have h0 : ((n : Int) == 0) = false := by simp; omega
  have h1 : -(n : Int) < Int.tmod k n := by
    have := Int.tmod_lt_of_pos (-k) (b := (n : Int)) (by omega)
    rw [Int.neg_tmod] at this
    omega
  have h2 : Int.tmod k n < n := Int.tmod_lt_of_pos k (by omega)
  by_cases hneg : Int.tmod k n < 0
  · go_enter Try.func18, Try.ntmps18
    go_wp2_with fail
    go_ret
    exact ⟨⟨(Int.tmod k n + n).toNat, by omega, by rw [Int.toNat_of_nonneg (by omega)]; rfl⟩, rfl⟩
  · go_enter Try.func18, Try.ntmps18
    go_wp2_with fail
    go_ret
    exact ⟨⟨(Int.tmod k n).toNat, by omega, by rw [Int.toNat_of_nonneg (by omega)]; rfl⟩, rfl⟩
theorem dec_some {w : World} {a : Option Addr} {cap : Nat} {bs t : List Nat} {c : Crt} (h : Cells w a bs.length cap (byteCells bs)) (hb : ∀ b ∈ bs, b < 256) (hlen : bs.length < 4611686018427387904) (hd : dCrtR bs = some (c, t)) :
    Calls Try.prog 9 #[.slice a bs.length cap] w fun e w' => Ext w w' ∧ ∃ b1 q1 b2 q2 b3 q3 us, e = .returned (.tuple #[crtV c b1 q1 b2 q2 b3 q3, .int .i64 0]) ∧ CrtV w' c b1 q1 b2 q2 b3 q3 us := by
  refine (decode_any h hb hlen).mono ?_
  rintro e w' ⟨hx, he⟩
  rw [hd] at he
  obtain ⟨val, rfl, hr⟩ := he
  obtain ⟨b1, q1, b2, q2, b3, q3, us, rfl, h1⟩ := hr.crt
  exact ⟨hx, b1, q1, b2, q2, b3, q3, us, rfl, h1⟩
/-- A byte of an own row, set. -/
theorem own_put {w : World} {B n r : Nat} {e : TypeId} {g cap : Nat} {bs : List Nat} (h : w.ownsRow B e 1 (.slice (some ⟨g, 0, none⟩) n cap) n (byteCells bs)) (hr : r < n) (y : Nat) :
    w.frozen? ⟨g, r, none⟩ = false ∧ (∃ u, w.cell? ⟨g, r, none⟩ = some u) ∧ Cells (w.setCell ⟨g, r, none⟩ (.int .u8 (y : Int))) (some ⟨g, 0, none⟩) n cap (byteCells (bs.set r y)) ∧ Chg (fun b => B ≤ b) w (w.setCell ⟨g, r, none⟩ (.int .u8 (y : Int))) := by
  have hl := h.1
  rcases h.2 with ⟨h1, _⟩ | ⟨g', cap', cur, h1, hg0, hg, hnc, hcm, hcs, htk⟩
  · cases h1
  · cases h1
    have hb : Blk w g cur e := hg
    have hsz : r < cur.size := by
      rw [hcs]; omega
    refine ⟨hb.frozen r, ⟨cur[r], hb.cell r _ (Array.getElem?_eq_getElem hsz)⟩, ⟨hnc, hcm, fun j u hu => ⟨_, rfl, ?_⟩⟩, ?_⟩
    · have hb2 := hb.set r (.int .u8 (y : Int))
      have hadd : (⟨g, 0, none⟩ : Addr).add j = ⟨g, j, none⟩ := by simp [Addr.add]; omega
      rw [hadd]
      refine hb2.cell j u ?_
      have hset : byteCells (bs.set r y) = (byteCells bs).set r (.int .u8 (y : Int)) := by simp [byteCells, List.map_set]
      rw [hset] at hu
      have hjl : j < (byteCells bs).length := by
        rcases Nat.lt_or_ge j (byteCells bs).length with h | h
        · exact h
        · rw [List.getElem?_eq_none (by rw [List.length_set]; exact h)] at hu; cases hu
      by_cases e : j = r
      · subst e
        rw [List.getElem?_set_self hjl] at hu
        rw [Array.getElem?_setIfInBounds_self_of_lt hsz]
        exact hu
      · rw [List.getElem?_set_ne (fun h => e h.symm)] at hu
        rw [Array.getElem?_setIfInBounds_ne (fun h => e h.symm)]
        rw [← htk] at hu
        rw [List.getElem?_take] at hu
        split at hu
        · simpa using hu
        · cases hu
    · exact Chg.setCell (Chg.refl w) _ _ (fun _ => hg0)
set_option maxRecDepth 100000 in
set_option maxHeartbeats 2000000 in
theorem turns_walk {w : World} {c : Crt} {a1 a2 a3 : Option Addr} {p1 p2 p3 : Nat} {us : List Value} (at_ : Int) (to : Nat) (hto : to < 256) (h : CrtV w c a1 p1 a2 p2 a3 p3 us) (h32 : ∀ d ∈ c.claim.w, d < 4294967296) (hx : c.claim.x < 18446744073709551616) :
    Calls Try.prog 6 #[crtV c a1 p1 a2 p2 a3 p3, .int .i64 at_, .int .u8 (to : Int)] w fun e w' => e = .returned (.bool true) ∧ Below w.heap.size w w' := by
  obtain ⟨i0, hi0, hii⟩ := Option.map_eq_some_iff.1 info_u8
  obtain ⟨hz0, hz1, hz2⟩ : i0.zero = some (.int .u8 0) ∧ i0.size = 1 ∧ i0.bytes = 1 := by
    have := hii; simp at this; exact this
  have HI := Lib.hid (And.intro hi0 (And.intro hz0 (And.intro hz1 hz2)))
  clear hi0 hii hz0 hz1 hz2
  have HA := Lib.hid awake_any
  have hS := fun w2 (k : Ext w w2) => small_any (h.ext k)
  have hE := fun w2 (k : Ext w w2) => enc_any (h.ext k) hx h32
  have H := Lib.hid h
  have H32 := Lib.hid (And.intro h32 hx)
  unfold crtV at hS hE ⊢
  obtain ⟨conj, hconj⟩ : ∃ z, c.conj = z := ⟨_, rfl⟩
  obtain ⟨sem, hsem⟩ : ∃ z, c.claim.sem = z := ⟨_, rfl⟩
  obtain ⟨inf, hinf⟩ : ∃ z, c.claim.inf = z := ⟨_, rfl⟩
  obtain ⟨lev, hlev⟩ : ∃ z, c.claim.level = z := ⟨_, rfl⟩
  obtain ⟨x, hxx⟩ : ∃ z, c.claim.x = z := ⟨_, rfl⟩
  obtain ⟨L, hL⟩ : ∃ z, c.claim.w.length = z := ⟨_, rfl⟩
  obtain ⟨n, hn⟩ : ∃ z, c.nodes.length = z := ⟨_, rfl⟩
  obtain ⟨m, hm⟩ : ∃ z, c.walks.length = z := ⟨_, rfl⟩
  obtain ⟨bs, hbs⟩ : ∃ z, eCrt c = z := ⟨_, rfl⟩
  obtain ⟨code, hcode⟩ : ∃ z, codeC c = z := ⟨_, rfl⟩
  have HC : Hid (crtV c a1 p1 a2 p2 a3 p3 = .agg #[.int .i64 conj, .slice a1 n p1, .slice a2 m p2, .int .i64 sem, .bool inf, .slice a3 L p3, .int .i64 lev, .float .f64 x]) := Lib.hid (by unfold crtV; rw [hconj, hsem, hinf, hlev, hxx, hL, hn, hm])
  rw [hconj, hsem, hinf, hlev, hxx, hL, hn, hm] at hS hE ⊢
  rw [hbs, hcode] at hE
  have HS := Lib.hid hS
  have HE := Lib.hid hE
  have HB := Lib.hid hbs
  have HCo := Lib.hid hcode
  have hb : Ext w (w.alloc (Obj.cells #[.int .i64 conj, .slice a1 n p1, .slice a2 m p2, .int .i64 sem, .bool inf, .slice a3 L p3, .int .i64 lev, .float .f64 x] 33)) := (Chg.refl w).alloc _
  have hbk := Blk.new w #[.int .i64 conj, .slice a1 n p1, .slice a2 m p2, .int .i64 sem, .bool inf, .slice a3 L p3, .int .i64 lev, .float .f64 x] 33
  have HX := Lib.hid hb
  have HK := Lib.hid hbk
  clear h h32 hx hS hE hb hbk hconj hsem hinf hlev hxx hL hn hm hbs hcode
  have hsf := run_store_f
  go_enter Try.func6, Try.ntmps6
  go_wp2_with fail
  refine (HS.out _ HX.out).mono ?_
  rintro e w2 ⟨⟨b, rfl⟩, hx2⟩
  have kb := HK.out.chg hx2 (fun h => h)
  obtain ⟨g0, f0, g1, f1, g2, f2, g3, f3, g4, f4, g5, f5, g6, f6, g7, f7⟩ := blk8_base kb
  have HK2 := Lib.hid kb
  have HX2 := Lib.hid (HX.out.trans hx2)
  clear kb hx2 HX HK HS
  cases b with
  | false =>
    go_wp2_with fail
    refine (HA.out _).mono ?_
    rintro e w' ⟨rfl, hx⟩
    go_wp2_with fail
    go_ret
    exact ⟨rfl, Ext.below (HX2.out.trans hx)⟩
  | true =>
    go_wp2_with fail
    refine (HE.out _ HX2.out).mono ?_
    rintro e w3 ⟨hx3, hw⟩
    clear g0 f0 g1 f1 g2 f2 g3 f3 g4 f4 g5 f5 g6 f6 g7 f7
    rcases hw with ⟨hc0, v, rfl, hown⟩ | ⟨hne, rfl⟩
    · have h0 : codeC c = 0 := by rw [HCo.out, hc0]
      have hlen := eCrt_six c h0
      have hle := eCrt_le h0
      have hby := eCrt_byte h0
      rw [HB.out] at hlen hle hby
      obtain ⟨r1, r2, r3⟩ := back_read h0 H32.out.1 H32.out.2
      rw [HB.out] at r1 r2 r3
      obtain ⟨g, cap, rfl, hnews⟩ := own_form hown (by omega)
      have hcl := Cells.of_own hown
      have H1 := Lib.hid r1
      have HX3 := Lib.hid (HX2.out.trans hx3)
      have HK3 := Lib.hid (HK2.out.chg hx3 (fun h => h))
      have HR := Lib.hid (And.intro r2 (And.intro r3 hby))
      have HCL := Lib.hid hcl
      have H0 := Lib.hid h0
      clear r1 r2 r3 hby hcl hown hnews hx3 h0 hc0 HE HCo
      obtain ⟨k, hk⟩ : ∃ k, bs.length = k := ⟨_, rfl⟩
      rw [hk] at HCL hlen hle
      rw [hk]
      have HN := Lib.hid hk
      clear hk
      have hlen' : ¬ (k : Int) = 0 := by omega
      have hlen2 : ((k : Int) == 0) = false := by simp; omega
      have HO : Hid ((w3.alloc (.cells #[] 5)).ownsRow w3.heap.size 5 1 (.slice (some ⟨w3.heap.size, 0, none⟩) 0 0) 0 []) := Lib.hid (own_empty (Nat.le_refl _))
      have HN5 : Hid (∀ j u, (byteCells bs)[j]? = some u → (w3.alloc (.cells #[] 5)).cell? ((⟨g, 0, none⟩ : Addr).add j) = some u) := Lib.hid (fun j u hu => by
        obtain ⟨y, hy, hc⟩ := HCL.out.2.2 j u hu
        cases hy
        exact (((Chg.refl w3).alloc _).cell (S := fun _ => False) (lt_of_cell hc) (fun h => h)).trans hc)
      have hbl : (byteCells bs).length = k * 1 := by rw [bcells_length, HN.out]; omega
      have HRO := Lib.hid (fun w => round_any at_ k (by omega) (by omega) w)
      go_wp2_with (first
        | (at_builtin; refine wpList_append_st _ rfl (.tmp 28) (.tmp 29) 22 rfl w3.heap.size 5 i0 (.int .u8 0) 1 1 Try.underlying22 HI.out.1 HI.out.2.1 HI.out.2.2.1 HI.out.2.2.2 rfl (by decide) (.slice (some ⟨w3.heap.size, 0, none⟩) 0 0) 0 [] rfl (by exact HO.out) ⟨g, 0, none⟩ k cap (byteCells bs) rfl hbl (by exact HN5.out) (bcells_one bs) (by unfold maxLen; omega) (by omega) (by simp) ?_; intro v6 w6 u1 u2 u3; rw [Nat.zero_add, List.nil_append] at u1; obtain ⟨g6, cap6, rfl, hn6⟩ := own_form u1 (by omega); have HF := Lib.hid (And.intro u1 u2); clear u1 u2 u3 hbl hn6))
      refine (HRO.out _).mono ?_
      rintro e w7 ⟨⟨r, hr, rfl⟩, rfl⟩
      obtain ⟨hfz, ⟨u0, hc0⟩, hput, hpc⟩ := own_put HF.out.1 hr to
      have hX6 : Ext w3 w7 := ext_grow0 ((Chg.refl w3).alloc _) HO.out HF.out.2
      have hX8 : Ext w3 (w7.setCell ⟨g6, r, none⟩ (.int .u8 (to : Int))) := Chg.mono (S := fun b => w3.heap.size ≤ b) ((hX6.mono fun _ _ h => h.elim).trans hpc) (fun b hb h => absurd h (by omega))
      have hxb : ∀ b ∈ bs.set r to, b < 256 := fun b hb => by
        rcases List.mem_or_eq_of_mem_set hb with h | h
        · exact HR.out.2.2 b h
        · omega
      have hxl : (bs.set r to).length = k := by rw [List.length_set]; exact HN.out
      obtain ⟨y, hy⟩ : ∃ y, bs[r]? = some y := ⟨_, List.getElem?_eq_getElem (by rw [HN.out]; exact hr)⟩
      have hbr : ∀ W, Ext w3 W → W.cell? ⟨g, r, none⟩ = some (.int .u8 (y : Int)) := fun W hW => by
        obtain ⟨z, hz, hc⟩ := HCL.out.2.2 r (.int .u8 (y : Int)) (by simp [byteCells, hy])
        cases hz
        have hadd : (⟨g, 0, none⟩ : Addr).add r = ⟨g, r, none⟩ := by simp [Addr.add]; omega
        rw [hadd] at hc
        exact (hW.cell (lt_of_cell hc) (fun h => h)).trans hc
      have hmv := (code_zero (code_parts H0.out).2).1
      have HX8 := Lib.hid hX8
      have HBR := Lib.hid hbr
      have HXB := Lib.hid (And.intro hxb (And.intro hxl hy))
      clear hX6 hX8 hxb hxl hbr hpc
      go_wp2_with fail
      obtain ⟨W8, hW8⟩ : ∃ W, w7.setCell ⟨g6, r, none⟩ (.int .u8 (to : Int)) = W := ⟨_, rfl⟩
      rw [hW8] at hput HX8 ⊢
      clear hW8 hfz hc0
      rw [← HXB.out.2.1] at hput
      by_cases hty : to = y
      · have hsame : bs.set r to = bs := by
          obtain ⟨h1, h2⟩ := List.getElem?_eq_some_iff.1 hy
          rw [hty, ← h2]
          exact List.set_getElem_self h1
        have hD := dec_some hput HXB.out.1 (by rw [HXB.out.2.1]; omega) (by rw [hsame]; exact H1.out)
        rw [HXB.out.2.1] at hD
        unfold crtV at hD
        have HD := Lib.hid hD
        clear hD hput hsame
        subst hty
        refine HD.out.mono ?_
        rintro e w9 ⟨hx9, b1, q1, b2, q2, b3, q3, vs, rfl, hcv⟩
        have hx39 := HX8.out.trans hx9
        have hx09 := HX3.out.trans hx39
        have c9 := HBR.out _ (hx39.alloc (Obj.cells #[.int .i64 (normC c).conj, .slice b1 (normC c).nodes.length q1, .slice b2 (normC c).walks.length q2, .int .i64 (normC c).claim.sem, .bool (normC c).claim.inf, .slice b3 (normC c).claim.w.length q3, .int .i64 (normC c).claim.level, .float .f64 (normC c).claim.x] 33))
        have hSm := fun w5 (k : Ext w9 w5) => sameC_eq (hcv.ext k) (H.out.ext (hx09.trans k)) (norm_fits H32.out.2) H32.out.2 ((mayV_norm c.claim).trans hmv) hmv (likeV_norm c.claim) rfl rfl rfl
        rw [HC.out] at hSm
        unfold crtV at hSm
        have HSm := Lib.hid hSm
        have kb := (HK3.out.chg hx39 (fun h => h)).chg (S := fun _ => False) ((Chg.refl w9).alloc (Obj.cells #[.int .i64 (normC c).conj, .slice b1 (normC c).nodes.length q1, .slice b2 (normC c).walks.length q2, .int .i64 (normC c).claim.sem, .bool (normC c).claim.inf, .slice b3 (normC c).claim.w.length q3, .int .i64 (normC c).claim.level, .float .f64 (normC c).claim.x] 33)) (fun h => h)
        obtain ⟨g0, f0, g1, f1, g2, f2, g3, f3, g4, f4, g5, f5, g6, f6, g7, f7⟩ := blk8_base kb
        have HX9 := Lib.hid hx09
        clear hmv hSm kb hx09 hx39 hx9 hcv HD
        go_wp2_with fail
        refine (HSm.out _ ((Chg.refl w9).alloc _)).mono ?_
        rintro e w10 ⟨rfl, hx10⟩
        clear g0 f0 g1 f1 g2 f2 g3 f3 g4 f4 g5 f5 g6 f6 g7 f7
        have HX10 := Lib.hid ((HX9.out.alloc _).trans hx10)
        clear hx10
        go_wp2_with fail
        refine (HA.out _).mono ?_
        rintro e w' ⟨rfl, hx⟩
        go_wp2_with fail
        go_ret
        exact ⟨rfl, Ext.below (HX10.out.trans hx)⟩
      · have hne : ((to : Int) == (y : Int)) = false := by simp; omega
        have hdiff : bs.set r to ≠ bs := fun h => hty (by
          have := congrArg (fun l => l[r]?) h
          simp only [hy, List.getElem?_set_self (show r < bs.length by rw [HN.out]; exact hr)] at this
          exact Option.some.inj this)
        cases hd : dCrtR (bs.set r to) with
        | none =>
          have hD := dec_no hput HXB.out.1 (by rw [HXB.out.2.1]; omega) hd
          rw [HXB.out.2.1] at hD
          have HD := Lib.hid hD
          clear hD hput hd
          refine HD.out.mono ?_
          rintro e w9 ⟨rfl, hx9⟩
          have c9 := HBR.out _ ((HX8.out.trans hx9).alloc (Obj.cells #[.int .i64 0, .slice none 0 0, .slice none 0 0, .int .i64 0, .bool false, .slice none 0 0, .int .i64 0, .float .f64 0] 33))
          have HX9 := Lib.hid (HX3.out.trans (HX8.out.trans hx9))
          clear hx9
          unfold nilC
          go_wp2_with fail
          refine (HA.out _).mono ?_
          rintro e w' ⟨rfl, hx⟩
          go_wp2_with fail
          go_ret
          exact ⟨rfl, Ext.below ((HX9.out.alloc _).trans hx)⟩
        | some q =>
          obtain ⟨d, t⟩ := q
          obtain ⟨i1, i2, i3, i4⟩ := dCrtR_inv HXB.out.1 hd
          have hmd := (code_zero (code_parts i2).2).1
          have hD := dec_some hput HXB.out.1 (by rw [HXB.out.2.1]; omega) hd
          rw [HXB.out.2.1] at hD
          unfold crtV at hD
          have HD := Lib.hid hD
          have HNo : Hid (eCrt d = eCrt c → False) := Lib.hid (fun h => hdiff (by rw [← i1, h, HB.out]))
          clear hD hput i1 i2 i3 hd hdiff
          refine HD.out.mono ?_
          rintro e w9 ⟨hx9, b1, q1, b2, q2, b3, q3, vs, rfl, hcv⟩
          have hx39 := HX8.out.trans hx9
          have hx09 := HX3.out.trans hx39
          have c9 := HBR.out _ (hx39.alloc (Obj.cells #[.int .i64 d.conj, .slice b1 d.nodes.length q1, .slice b2 d.walks.length q2, .int .i64 d.claim.sem, .bool d.claim.inf, .slice b3 d.claim.w.length q3, .int .i64 d.claim.level, .float .f64 d.claim.x] 33))
          have hSm := fun w5 (k : Ext w9 w5) => sameC_gen (hcv.ext k) (H.out.ext (hx09.trans k)) i4 H32.out.2 hmd hmv
          rw [HC.out] at hSm
          unfold crtV at hSm
          have HSm := Lib.hid hSm
          have kb := (HK3.out.chg hx39 (fun h => h)).chg (S := fun _ => False) ((Chg.refl w9).alloc (Obj.cells #[.int .i64 d.conj, .slice b1 d.nodes.length q1, .slice b2 d.walks.length q2, .int .i64 d.claim.sem, .bool d.claim.inf, .slice b3 d.claim.w.length q3, .int .i64 d.claim.level, .float .f64 d.claim.x] 33)) (fun h => h)
          obtain ⟨g0, f0, g1, f1, g2, f2, g3, f3, g4, f4, g5, f5, g6, f6, g7, f7⟩ := blk8_base kb
          have HX9 := Lib.hid hx09
          clear hmv hSm kb hx09 hx39 hx9 hcv HD i4 hmd
          go_wp2_with fail
          refine (HSm.out _ ((Chg.refl w9).alloc _)).mono ?_
          rintro e w10 ⟨⟨b, rfl, hb⟩, hx10⟩
          clear g0 f0 g1 f1 g2 f2 g3 f3 g4 f4 g5 f5 g6 f6 g7 f7
          have HX10 := Lib.hid ((HX9.out.alloc _).trans hx10)
          clear hx10
          cases b with
          | true => exact (HNo.out (hb rfl)).elim
          | false =>
            clear hb
            go_wp2_with fail
            refine (HA.out _).mono ?_
            rintro e w' ⟨rfl, hx⟩
            go_wp2_with fail
            go_ret
            exact ⟨rfl, Ext.below (HX10.out.trans hx)⟩
    · have HNE := Lib.hid hne
      have hne' : (code != 0) = true := by simpa using hne
      clear hne HE HCo HB
      go_wp2_with fail
      refine (HA.out _).mono ?_
      rintro e w' ⟨rfl, hx⟩
      go_wp2_with fail
      go_ret
      exact ⟨rfl, Ext.below ((HX2.out.trans hx3).trans hx)⟩
end Go.Proofs.Ytnamcghcgcknpaa
