/-
  The walk of the law CertBack (chapter 24).
-/
import Derived.Test.YtnamcghcgcknpaaLawD
namespace Go.Proofs.Ytnamcghcgcknpaa
open Go.RowKit
set_option linter.unusedVariables false

theorem own_empty {w : World} {B : Nat} (hB : B ≤ w.heap.size) : (w.alloc (.cells #[] 5)).ownsRow B 5 1 (.slice (some ⟨w.heap.size, 0, none⟩) 0 0) 0 [] := by
  have := World.ownsRow_lit (base := B) (e := 5) (size := 1) w #[] 0 hB (by unfold maxLen; omega) rfl
  exact this
/-- Decode, told no. -/
theorem dec_no {w : World} {a : Option Addr} {cap : Nat} {bs : List Nat} (h : Cells w a bs.length cap (byteCells bs)) (hb : ∀ b ∈ bs, b < 256) (hlen : bs.length < 4611686018427387904) (hd : dCrtR bs = none) :
    Calls Try.prog 9 #[.slice a bs.length cap] w fun e w' => e = .returned (.tuple #[nilC, .int .i64 13]) ∧ Ext w w' := by
  refine (decode_any h hb hlen).mono ?_
  rintro e w' ⟨hx, he⟩
  rw [hd] at he
  exact ⟨he, hx⟩
theorem dec_yes {w : World} {a : Option Addr} {cap : Nat} {bs : List Nat} {c : Crt} (h : Cells w a bs.length cap (byteCells bs)) (hb : ∀ b ∈ bs, b < 256) (hlen : bs.length < 4611686018427387904) (hd : dCrtR bs = some (c, [])) :
    Calls Try.prog 9 #[.slice a bs.length cap] w fun e w' => Ext w w' ∧ ∃ b1 q1 b2 q2 b3 q3 us, e = .returned (.tuple #[crtV c b1 q1 b2 q2 b3 q3, .int .i64 0]) ∧ CrtV w' c b1 q1 b2 q2 b3 q3 us := by
  refine (decode_any h hb hlen).mono ?_
  rintro e w' ⟨hx, he⟩
  rw [hd] at he
  obtain ⟨val, rfl, hr⟩ := he
  obtain ⟨b1, q1, b2, q2, b3, q3, us, rfl, h1⟩ := hr.crt
  exact ⟨hx, b1, q1, b2, q2, b3, q3, us, rfl, h1⟩
theorem norm_fits {v : Val} (h : v.x < 18446744073709551616) : (normV v).x < 18446744073709551616 := by
  unfold normV
  split
  · simp
  · split
    · simp
    · exact h
set_option maxRecDepth 100000 in
set_option maxHeartbeats 2000000 in
theorem back_walk {w : World} {c : Crt} {a1 a2 a3 : Option Addr} {p1 p2 p3 : Nat} {us : List Value} (more : Nat) (hmore : more < 256) (h : CrtV w c a1 p1 a2 p2 a3 p3 us) (h32 : ∀ d ∈ c.claim.w, d < 4294967296) (hx : c.claim.x < 18446744073709551616) :
    Calls Try.prog 5 #[crtV c a1 p1 a2 p2 a3 p3, .int .u8 (more : Int)] w fun e w' => e = .returned (.bool true) ∧ Below w.heap.size w w' := by
  obtain ⟨i0, hi0, hii⟩ := Option.map_eq_some_iff.1 info_u8
  obtain ⟨hz0, hz1, hz2⟩ : i0.zero = some (.int .u8 0) ∧ i0.size = 1 ∧ i0.bytes = 1 := by
    have := hii; simp at this; exact this
  have HI := Lib.hid (And.intro hi0 (And.intro hz0 (And.intro hz1 hz2)))
  clear hi0 hii hz0 hz1 hz2
  have HA := Lib.hid awake_any
  have hS := fun w2 (k : Ext w w2) => small_any (h.ext k)
  have hE := fun w2 (k : Ext w w2) => enc_any (h.ext k) hx h32
  have H := Lib.hid h
  have H32 := Lib.hid (And.intro h32 hx)
  unfold crtV at hS hE ⊢
  obtain ⟨conj, hconj⟩ : ∃ z, c.conj = z := ⟨_, rfl⟩
  obtain ⟨sem, hsem⟩ : ∃ z, c.claim.sem = z := ⟨_, rfl⟩
  obtain ⟨inf, hinf⟩ : ∃ z, c.claim.inf = z := ⟨_, rfl⟩
  obtain ⟨lev, hlev⟩ : ∃ z, c.claim.level = z := ⟨_, rfl⟩
  obtain ⟨x, hxx⟩ : ∃ z, c.claim.x = z := ⟨_, rfl⟩
  obtain ⟨L, hL⟩ : ∃ z, c.claim.w.length = z := ⟨_, rfl⟩
  obtain ⟨n, hn⟩ : ∃ z, c.nodes.length = z := ⟨_, rfl⟩
  obtain ⟨m, hm⟩ : ∃ z, c.walks.length = z := ⟨_, rfl⟩
  obtain ⟨bs, hbs⟩ : ∃ z, eCrt c = z := ⟨_, rfl⟩
  obtain ⟨code, hcode⟩ : ∃ z, codeC c = z := ⟨_, rfl⟩
  have HC : Hid (crtV c a1 p1 a2 p2 a3 p3 = .agg #[.int .i64 conj, .slice a1 n p1, .slice a2 m p2, .int .i64 sem, .bool inf, .slice a3 L p3, .int .i64 lev, .float .f64 x]) := Lib.hid (by unfold crtV; rw [hconj, hsem, hinf, hlev, hxx, hL, hn, hm])
  rw [hconj, hsem, hinf, hlev, hxx, hL, hn, hm] at hS hE ⊢
  rw [hbs, hcode] at hE
  have HS := Lib.hid hS
  have HE := Lib.hid hE
  have HB := Lib.hid hbs
  have HCo := Lib.hid hcode
  have hb : Ext w (w.alloc (Obj.cells #[.int .i64 conj, .slice a1 n p1, .slice a2 m p2, .int .i64 sem, .bool inf, .slice a3 L p3, .int .i64 lev, .float .f64 x] 33)) := (Chg.refl w).alloc _
  have hbk := Blk.new w #[.int .i64 conj, .slice a1 n p1, .slice a2 m p2, .int .i64 sem, .bool inf, .slice a3 L p3, .int .i64 lev, .float .f64 x] 33
  have HX := Lib.hid hb
  have HK := Lib.hid hbk
  clear h h32 hx hS hE hb hbk hconj hsem hinf hlev hxx hL hn hm hbs hcode
  have hsf := run_store_f
  go_enter Try.func5, Try.ntmps5
  go_wp2_with fail
  refine (HS.out _ HX.out).mono ?_
  rintro e w2 ⟨⟨b, rfl⟩, hx2⟩
  have kb := HK.out.chg hx2 (fun h => h)
  obtain ⟨g0, f0, g1, f1, g2, f2, g3, f3, g4, f4, g5, f5, g6, f6, g7, f7⟩ := blk8_base kb
  have HK2 := Lib.hid kb
  have HX2 := Lib.hid (HX.out.trans hx2)
  clear kb hx2 HX HK HS
  cases b with
  | false =>
    go_wp2_with fail
    refine (HA.out _).mono ?_
    rintro e w' ⟨rfl, hx⟩
    go_wp2_with fail
    go_ret
    exact ⟨rfl, Ext.below (HX2.out.trans hx)⟩
  | true =>
    go_wp2_with fail
    refine (HE.out _ HX2.out).mono ?_
    rintro e w3 ⟨hx3, hw⟩
    clear g0 f0 g1 f1 g2 f2 g3 f3 g4 f4 g5 f5 g6 f6 g7 f7
    rcases hw with ⟨hc0, v, rfl, hown⟩ | ⟨hne, rfl⟩
    · have h0 : codeC c = 0 := by rw [HCo.out, hc0]
      have hlen := eCrt_six c h0
      have hle := eCrt_le h0
      have hby := eCrt_byte h0
      rw [HB.out] at hlen hle hby
      obtain ⟨r1, r2, r3⟩ := back_read h0 H32.out.1 H32.out.2
      rw [HB.out] at r1 r2 r3
      obtain ⟨g, cap, rfl, hnews⟩ := own_form hown (by omega)
      have hcl := Cells.of_own hown
      have hD := dec_yes hcl hby (by omega) r1
      unfold crtV at hD
      have HD := Lib.hid hD
      have HX3 := Lib.hid (HX2.out.trans hx3)
      have HK3 := Lib.hid (HK2.out.chg hx3 (fun h => h))
      have HR := Lib.hid (And.intro r2 (And.intro r3 hby))
      have HCL := Lib.hid hcl
      have H0 := Lib.hid h0
      clear r1 r2 r3 hby hcl hown hnews hx3 h0 hc0 hD HE HCo
      obtain ⟨k, hk⟩ : ∃ k, bs.length = k := ⟨_, rfl⟩
      rw [hk] at HD HCL hlen hle
      rw [hk]
      have HN := Lib.hid hk
      clear hk
      have hlen' : ¬ (k : Int) < 6 := by omega
      obtain ⟨ls, y, hls⟩ : ∃ (ls : List Nat) (y : Nat), bs = ls ++ [y] := ⟨bs.dropLast, bs.getLast (by intro h; rw [h] at HN; have := HN.out; simp at this; omega), (List.dropLast_concat_getLast _).symm⟩
      obtain ⟨kk, hkk⟩ : ∃ kk, ls.length = kk := ⟨_, rfl⟩
      have hk1 : k = kk + 1 := by rw [← HN.out, hls, List.length_append, List.length_singleton, hkk]
      have hk2 : (k : Int) - 1 = (kk : Int) := by omega
      have hk3 : kk ≤ cap := by have := HCL.out.1; omega
      have HL := Lib.hid (And.intro hls (And.intro hkk hk1))
      clear hls hkk hk1
      go_wp2_with fail
      refine HD.out.mono ?_
      rintro e w4 ⟨hx4, b1, q1, b2, q2, b3, q3, vs, rfl, hcv⟩
      have hmv := (code_zero (code_parts H0.out).2).1
      have hx04 := HX3.out.trans hx4
      have hSm := fun w5 (k : Ext w4 w5) => sameC_eq (hcv.ext k) (H.out.ext (hx04.trans k)) (norm_fits H32.out.2) H32.out.2 ((mayV_norm c.claim).trans hmv) hmv (likeV_norm c.claim) rfl rfl rfl
      rw [HC.out] at hSm
      unfold crtV at hSm
      have HSm := Lib.hid hSm
      have kb := (HK3.out.chg hx4 (fun h => h)).chg (S := fun _ => False) ((Chg.refl w4).alloc (Obj.cells #[.int .i64 (normC c).conj, .slice b1 (normC c).nodes.length q1, .slice b2 (normC c).walks.length q2, .int .i64 (normC c).claim.sem, .bool (normC c).claim.inf, .slice b3 (normC c).claim.w.length q3, .int .i64 (normC c).claim.level, .float .f64 (normC c).claim.x] 33)) (fun h => h)
      obtain ⟨g0, f0, g1, f1, g2, f2, g3, f3, g4, f4, g5, f5, g6, f6, g7, f7⟩ := blk8_base kb
      have HX4 := Lib.hid hx04
      have HX34 := Lib.hid hx4
      clear hmv hSm kb hx04 hx4 hcv
      go_wp2_with fail
      refine (HSm.out _ ((Chg.refl w4).alloc _)).mono ?_
      rintro e w5 ⟨rfl, hx5⟩
      clear g0 f0 g1 f1 g2 f2 g3 f3 g4 f4 g5 f5 g6 f6 g7 f7
      have HX35 := Lib.hid ((HX34.out.alloc _).trans hx5)
      have HX5 := Lib.hid ((HX4.out.alloc _).trans hx5)
      have HO : Hid ((w5.alloc (.cells #[] 5)).ownsRow w5.heap.size 5 1 (.slice (some ⟨w5.heap.size, 0, none⟩) 0 0) 0 []) := Lib.hid (own_empty (Nat.le_refl _))
      have HN5 : Hid (∀ j u, (byteCells bs)[j]? = some u → (w5.alloc (.cells #[] 5)).cell? ((⟨g, 0, none⟩ : Addr).add j) = some u) := Lib.hid (fun j u hu => by
        obtain ⟨y, hy, hc⟩ := HCL.out.2.2 j u hu
        cases hy
        exact ((HX35.out.alloc _).cell (lt_of_cell hc) (fun h => h)).trans hc)
      have hbl : (byteCells bs).length = k * 1 := by rw [bcells_length, HN.out]; omega
      clear hx5
      go_wp2_with (at_builtin; first
        | (have HF9 := HF; refine wpList_append_st _ rfl (.tmp 51) (.tmp 53) 22 rfl w5.heap.size 5 i0 (.int .u8 0) 1 1 Try.underlying22 HI.out.1 HI.out.2.1 HI.out.2.2.1 HI.out.2.2.2 rfl (by decide) v6 (0 + k) ([] ++ byteCells bs) rfl (by exact (HF.out.1.alloc _)) ⟨w6.heap.size, 0, none⟩ 1 1 [.int .u8 (more : Int)] rfl rfl (by exact news8 _ _ _) (by simp [Value.oneCell']) (by unfold maxLen; omega) (by omega) (by have := HF.out.2.1.size; simp only [World.size_alloc] at this ⊢; omega) ?_; intro v7 w7 u1 u2 u3; have HG := Lib.hid (And.intro u1 u2); clear u1 u2 u3)
        | (refine wpList_append_st _ rfl (.tmp 49) (.tmp 50) 22 rfl w5.heap.size 5 i0 (.int .u8 0) 1 1 Try.underlying22 HI.out.1 HI.out.2.1 HI.out.2.2.1 HI.out.2.2.2 rfl (by decide) (.slice (some ⟨w5.heap.size, 0, none⟩) 0 0) 0 [] rfl (by exact HO.out) ⟨g, 0, none⟩ k cap (byteCells bs) rfl hbl (by exact HN5.out) (bcells_one bs) (by unfold maxLen; omega) (by omega) (by simp) ?_; intro v6 w6 u1 u2 u3; have HF := Lib.hid (And.intro u1 (And.intro u2 u3)); clear u1 u2 u3 hbl))
      obtain ⟨g7, cap7, rfl, hn7⟩ := own_form HG.out.1 (by omega)
      have hX6 : Ext w5 w6 := ext_grow0 ((Chg.refl w5).alloc _) HO.out HF.out.2.1
      have hX7 : Ext w5 w7 := ext_grow hX6 HF.out.1 HG.out.2
      have hcl := Cells.of_own HG.out.1
      have hlen7 : 0 + k + 1 = (bs ++ [more]).length := by rw [List.length_append, HN.out, List.length_singleton]; omega
      have hbc : ([] ++ byteCells bs) ++ [Value.int .u8 (more : Int)] = byteCells (bs ++ [more]) := by rw [List.nil_append, bcells_app]; rfl
      rw [hlen7, hbc] at hcl
      have hD7 := dec_no hcl (by
        intro b hb
        rcases List.mem_append.1 hb with h | h
        · exact HR.out.2.2 b h
        · simp only [List.mem_singleton] at h; omega) (by omega) (HR.out.1 more)
      rw [← hlen7] at hD7
      have HD7 := Lib.hid hD7
      have HX7 := Lib.hid (HX5.out.trans hX7)
      have HX37 := Lib.hid (HX35.out.trans hX7)
      clear hX6 hX7 hcl hlen7 hbc hD7 hn7
      refine HD7.out.mono ?_
      rintro e w8 ⟨rfl, hx8⟩
      have HX8 := Lib.hid (HX7.out.trans hx8)
      have HX38 := Lib.hid (HX37.out.trans hx8)
      clear hx8 HX7 HX37 HD7 HG HF HO HN5
      have hD9 := fun W (k : Ext w8 W) => dec_no (w := W) (a := some ⟨g, 0, none⟩) (cap := cap) (bs := ls) (Cells.take (n := kk + 1) (y := y) (by
        have h := HCL.out.chg (S := fun _ => False) (HX38.out.trans k) (fun _ _ h => h)
        rw [HL.out.1, HL.out.2.2] at h
        exact h) (by rw [HL.out.2.1])) (fun b hb => HR.out.2.2 b (by rw [HL.out.1]; exact List.mem_append_left _ hb)) (by have := HL.out.2.1; omega) (HR.out.2.1 ls y HL.out.1.symm)
      rw [HL.out.2.1] at hD9
      have HD9 := Lib.hid hD9
      clear hD9
      unfold nilC
      go_wp2_with fail
      refine (HD9.out _ ((Chg.refl w8).alloc _)).mono ?_
      rintro e w9 ⟨rfl, hx9⟩
      have HX9 := Lib.hid ((HX8.out.alloc _).trans hx9)
      clear hx9 HD9 HX8 HX38
      unfold nilC
      go_wp2_with fail
      refine (HA.out _).mono ?_
      rintro e w' ⟨rfl, hx⟩
      go_wp2_with fail
      go_ret
      exact ⟨rfl, Ext.below ((HX9.out.alloc _).trans hx)⟩
    · have HNE := Lib.hid hne
      have hne' : (code != 0) = true := by simpa using hne
      clear hne HE HCo HB
      go_wp2_with fail
      refine (HA.out _).mono ?_
      rintro e w' ⟨rfl, hx⟩
      go_wp2_with fail
      go_ret
      exact ⟨rfl, Ext.below ((HX2.out.trans hx3).trans hx)⟩
end Go.Proofs.Ytnamcghcgcknpaa
