/-
  The reader of certs (chapter 24): a cert, taken or refused.
-/
import Derived.Test.YtnamcghcgcknpaaCertN
namespace Go.Proofs.Ytnamcghcgcknpaa
open Go.RowKit
set_option linter.unusedVariables false
set_option linter.unusedSimpArgs false

/-- What the reader hands back: a cert, all its bytes are read. -/
def dCrtR (bs : List Nat) : Option (Crt × List Nat) := match dCrt0 bs with
  | some (c, []) => if mayC c then some (c, []) else none
  | _ => none
theorem dR_nodes {cj n : Nat} {r0 : List Nat} (h : dNums n r0 = none) : dCrtR (67 :: cj :: n :: r0) = none := by
  simp [dCrtR, dCrt0, h]
theorem dR_more {cj n : Nat} {r0 l : List Nat} (h : dNums n r0 = some (l, [])) : dCrtR (67 :: cj :: n :: r0) = none := by
  simp [dCrtR, dCrt0, h]
theorem dR_walks {cj n m : Nat} {r0 l r2 : List Nat} (h : dNums n r0 = some (l, m :: r2)) (h2 : dWalks m r2 = none) : dCrtR (67 :: cj :: n :: r0) = none := by
  simp [dCrtR, dCrt0, h, h2]
theorem dR_val {cj n m : Nat} {r0 l r2 u : List Nat} {ws : List (List (Nat × Bool))} (h : dNums n r0 = some (l, m :: r2)) (h2 : dWalks m r2 = some (ws, u)) (h3 : dVal u = none) : dCrtR (67 :: cj :: n :: r0) = none := by
  simp [dCrtR, dCrt0, h, h2, h3]
theorem dR_end {cj n m : Nat} {r0 l r2 u z : List Nat} {ws : List (List (Nat × Bool))} {v : Val} (h : dNums n r0 = some (l, m :: r2)) (h2 : dWalks m r2 = some (ws, u)) (h3 : dVal u = some (v, z)) : dCrtR (67 :: cj :: n :: r0) = if z = [] ∧ mayC ⟨cj, l.map Int.ofNat, ws.map (fun w => w.map intStep), v⟩ = true then some (⟨cj, l.map Int.ofNat, ws.map (fun w => w.map intStep), v⟩, []) else none := by
  unfold dCrtR
  rw [dCrt0]
  simp only [if_true, h, h2, h3]
  cases z with
  | nil => simp
  | cons y z => simp
theorem srows_walk {w wr w2 : World} {rb i : Nat} {v u : Value} {us : List Value} {ls : List (List (Nat × Bool))} {k : List (Nat × Bool)} {hwr : w.heap.size < wr.heap.size} (hown : wr.ownsRow (w.heap.size + 1) 54 1 v i us) (hs : SRows wr (w.heap.size + 1) v.ownBlock us ls) (hlt : rb < w.heap.size) (hc : Chg (fun k => k = rb) wr.drew w2) (hu : w2.ownsRow wr.drew.heap.size 56 2 u k.length (stepCells k)) :
    SRows w2 (w.heap.size + 1) v.ownBlock us ls ∧ w2.ownsRow (w.heap.size + 1) 56 2 u k.length (stepCells k) ∧ ∀ g, u.ownBlock = some g → v.ownBlock ≠ some g := by
  have hc' : Chg (fun k => k = rb) wr w2 := ((Chg.refl wr).drew).trans hc
  refine ⟨hs.chg hc' (fun g hg1 hg2 hg3 => ⟨fun h => by have h' : g = rb := h; omega, hg3⟩), ownsRow_base hu (by simp only [World.size_drew]; omega), fun g hg hv => ?_⟩
  have h1 := (hu.lt g hg).1
  have h2 := (hown.lt g hv).2
  simp only [World.size_drew] at h1
  omega
/-- A cert in memory of its own. -/
def CertR (w : World) (c : Crt) (val : Value) (w' : World) : Prop :=
  ∃ a1 cap1 a2 cap2 a3 cap3 us l ls bl, val = crtV c a1 cap1 a2 cap2 a3 cap3 ∧ c.nodes = l.map Int.ofNat ∧ c.walks = ls.map (fun w => w.map intStep) ∧
    w'.ownsRow w.heap.size 3 1 (.slice a1 l.length cap1) l.length (natCells l) ∧ w'.ownsRow w.heap.size 54 1 (.slice a2 ls.length cap2) ls.length us ∧ SRows w' w.heap.size bl us ls ∧ w'.ownsRow w.heap.size 77 1 (.slice a3 c.claim.w.length cap3) c.claim.w.length (wordCells c.claim.w)
theorem SRows.base {w : World} {B B' : Nat} {bl : Option Nat} (hB : B' ≤ B) : ∀ {us : List Value} {ls : List (List (Nat × Bool))}, SRows w B bl us ls → SRows w B' bl us ls
  | [], [], _ => trivial
  | u :: us, l :: ls, h => ⟨⟨ownsRow_base h.1.1 hB, h.1.2⟩, SRows.base hB h.2⟩
  | [], _ :: _, h => h.elim
  | _ :: _, [], h => h.elim
theorem CertR.chg {w w' w'' : World} {c : Crt} {val : Value} {S : Nat → Prop} (h : CertR w c val w') (k : Chg S w' w'') (hS : ∀ g, w.heap.size ≤ g → ¬ S g) : CertR w c val w'' := by
  obtain ⟨a1, cap1, a2, cap2, a3, cap3, us, l, ls, bl, h1, h2, h3, h4, h5, h6, h7⟩ := h
  exact ⟨a1, cap1, a2, cap2, a3, cap3, us, l, ls, bl, h1, h2, h3, own_low h4 k hS, own_low h5 k hS, h6.chg k (fun g hg _ hb => ⟨hS g hg, hb⟩), own_low h7 k hS⟩
theorem natCells_int (l : List Nat) : natCells l = (l.map Int.ofNat).map (Value.int .i64) := by simp [natCells, Function.comp_def]
theorem CertR.crt {w w' : World} {c : Crt} {val : Value} (h : CertR w c val w') : ∃ a1 cap1 a2 cap2 a3 cap3 us, val = crtV c a1 cap1 a2 cap2 a3 cap3 ∧ CrtV w' c a1 cap1 a2 cap2 a3 cap3 us := by
  obtain ⟨a1, cap1, a2, cap2, a3, cap3, us, l, ls, bl, h1, h2, h3, h4, h5, h6, h7⟩ := h
  refine ⟨a1, cap1, a2, cap2, a3, cap3, us, h1, ⟨?_, ?_, ?_, Cells.of_own h7⟩⟩
  · have := Cells.of_own h4
    rw [natCells_int] at this
    rw [h2, List.length_map]; exact this
  · rw [h3, List.length_map]; exact Cells.of_own h5
  · rw [h3]; exact h6.rows
/-- Behind the claim: the cert's box, and its rows. -/
theorem crt_mid {w w2 : World} {rb : Nat} {a : Option Addr} {len cap : Nat} {bs z l : List Nat} {n m : Nat} {conj v1 v2 : Value} {us : List Value} {ls : List (List (Nat × Bool))} {v : Val} {a3 : Option Addr} {cap3 : Nat} (hlt : rb < w.heap.size)
    (hcb : Cb w w2 rb #[conj, v1, v2, .int .i64 0, .bool false, .slice none 0 0, .int .i64 0, .float .f64 0]) (hrd : Rd w2 rb a len cap bs z) (ho1 : w2.ownsRow (w.heap.size + 1) 3 1 v1 n (natCells l)) (ho2 : w2.ownsRow (w.heap.size + 1) 54 1 v2 m us) (hsr : SRows w2 (w.heap.size + 1) v2.ownBlock us ls)
    (ho3 : w2.ownsRow (w.heap.size + 1) 77 1 (.slice a3 v.w.length cap3) v.w.length (wordCells v.w)) :
    let W := ((((w2.setCell ⟨w.heap.size, 3, none⟩ (.int .i64 v.sem)).setCell ⟨w.heap.size, 4, none⟩ (.bool v.inf)).setCell ⟨w.heap.size, 5, none⟩ (.slice a3 v.w.length cap3)).setCell ⟨w.heap.size, 6, none⟩ (.int .i64 v.level)).setCell ⟨w.heap.size, 7, none⟩ (.float .f64 v.x)
    Cb w W rb #[conj, v1, v2, .int .i64 v.sem, .bool v.inf, .slice a3 v.w.length cap3, .int .i64 v.level, .float .f64 v.x] ∧ Rd W rb a len cap bs z ∧ W.ownsRow (w.heap.size + 1) 3 1 v1 n (natCells l) ∧ W.ownsRow (w.heap.size + 1) 54 1 v2 m us ∧ SRows W (w.heap.size + 1) v2.ownBlock us ls ∧ W.ownsRow (w.heap.size + 1) 77 1 (.slice a3 v.w.length cap3) v.w.length (wordCells v.w) := by
  intro W
  have hc : Chg (fun k => k = w.heap.size) w2 W := set_chg (set_chg (set_chg (set_chg (set_chg (Chg.refl _)))))
  have hne : ∀ g, w.heap.size + 1 ≤ g → ¬ g = w.heap.size := fun g hg => by omega
  exact ⟨((((hcb.set 3 _).set 4 _).set 5 _).set 6 _).set 7 _, hrd.chg hc (fun b hb h => by have h' : b = w.heap.size := h; omega), own_low ho1 hc hne, own_low ho2 hc hne, hsr.chg hc (fun g hg _ hb => ⟨hne g hg, hb⟩), own_low ho3 hc hne⟩
theorem at_end {w : World} {rb : Nat} {a : Option Addr} {len cap : Nat} {bs : List Nat} (h : Rd w rb a len cap bs []) : w.cell? ⟨rb, 1, none⟩ = some (.int .i64 (len : Int)) := by
  have := h.c1
  simpa using this
theorem crt_done {w W : World} {rb : Nat} {a : Option Addr} {len cap : Nat} {bs l : List Nat} {n m : Nat} {c : Crt} {a1 a2 a3 : Option Addr} {cap1 cap2 cap3 : Nat} {us : List Value} {ls : List (List (Nat × Bool))} {bl : Option Nat} {cs : Array Value} {val : Value} (hlt : rb < w.heap.size)
    (hB : Cb w W rb cs) (hR : Rd W rb a len cap bs []) (hn : c.nodes = l.map Int.ofNat) (hw : c.walks = ls.map (fun w => w.map intStep)) (hv : val = crtV c a1 cap1 a2 cap2 a3 cap3) (hl : l.length = n) (hls : ls.length = m)
    (o1 : W.ownsRow (w.heap.size + 1) 3 1 (.slice a1 n cap1) n (natCells l)) (o2 : W.ownsRow (w.heap.size + 1) 54 1 (.slice a2 m cap2) m us) (hsr : SRows W (w.heap.size + 1) bl us ls) (o3 : W.ownsRow (w.heap.size + 1) 77 1 (.slice a3 c.claim.w.length cap3) c.claim.w.length (wordCells c.claim.w)) (c0 c1 c2 c3 c4 c5 c6 c7 : Value) :
    Got w rb a len cap bs (some (c, [])) (CertR w) (.returned val) ((((((((W.setCell ⟨w.heap.size, 0, none⟩ c0).setCell ⟨w.heap.size, 1, none⟩ c1).setCell ⟨w.heap.size, 2, none⟩ c2).setCell ⟨w.heap.size, 3, none⟩ c3).setCell ⟨w.heap.size, 4, none⟩ c4).setCell ⟨w.heap.size, 5, none⟩ c5).setCell ⟨w.heap.size, 6, none⟩ c6).setCell ⟨w.heap.size, 7, none⟩ c7) := by
  have hc : Chg (fun k => k = w.heap.size) W ((((((((W.setCell ⟨w.heap.size, 0, none⟩ c0).setCell ⟨w.heap.size, 1, none⟩ c1).setCell ⟨w.heap.size, 2, none⟩ c2).setCell ⟨w.heap.size, 3, none⟩ c3).setCell ⟨w.heap.size, 4, none⟩ c4).setCell ⟨w.heap.size, 5, none⟩ c5).setCell ⟨w.heap.size, 6, none⟩ c6).setCell ⟨w.heap.size, 7, none⟩ c7) := set_chg (set_chg (set_chg (set_chg (set_chg (set_chg (set_chg (set_chg (Chg.refl _))))))))
  have hne : ∀ g, w.heap.size + 1 ≤ g → ¬ g = w.heap.size := fun g hg => by omega
  subst hl hls
  refine ⟨?_, _, rfl, ⟨a1, cap1, a2, cap2, a3, cap3, us, l, ls, bl, hv, hn, hw, ownsRow_base (own_low o1 hc hne) (by omega), ownsRow_base (own_low o2 hc hne) (by omega), SRows.base (by omega) (hsr.chg hc (fun g hg _ hb => ⟨hne g hg, hb⟩)), ownsRow_base (own_low o3 hc hne) (by omega)⟩, hR.chg hc (fun b hb h => by have h' : b = w.heap.size := h; omega)⟩
  have h1 : Chg (fun k => k = rb ∨ w.heap.size ≤ k) w _ := hB.1.trans (hc.mono fun k _ h => .inr (by have h' : k = w.heap.size := h; omega))
  exact h1.mono fun k hk h => h.elim id fun h => absurd h (by omega)
set_option maxRecDepth 100000 in
set_option maxHeartbeats 8000000 in
theorem cert_try {w : World} {rb : Nat} {a : Option Addr} {len cap : Nat} {bs r0 : List Nat} {n cj : Nat} (hn : n < 256) (hlt : rb < w.heap.size)
    (HVAL : ∀ (w : World) (rest : List Nat), Rd w rb a len cap bs rest → Calls Try.prog 31 #[.pointer (some ⟨rb, 0, none⟩)] w (Got w rb a len cap bs (dVal rest) (ValV w)))
    (h : Rd w rb a len cap bs (67 :: cj :: n :: r0)) :
    Calls Try.prog 21 #[.pointer (some ⟨rb, 0, none⟩)] w (Got w rb a len cap bs (dCrtR (67 :: cj :: n :: r0)) (CertR w)) := by
  obtain ⟨D, hD⟩ : ∃ D, D = dCrtR (67 :: cj :: n :: r0) := ⟨_, rfl⟩
  rw [← hD]
  have HD := Lib.hid hD
  clear hD
  obtain ⟨V, hVV⟩ : ∃ V, V = CertR w := ⟨_, rfl⟩
  rw [← hVV]
  have HV := Lib.hid hVV
  clear hVV
  have HDD : Hid (dNums n r0 = none → D = none) := Lib.hid (fun h => by rw [HD.out]; exact dR_nodes h)
  obtain ⟨i1, hi1, hii1⟩ := Option.map_eq_some_iff.1 info_row
  obtain ⟨hy0, hy1, hy2⟩ : i1.zero = some (.slice none 0 0) ∧ i1.size = 1 ∧ i1.bytes = 24 := by
    have := hii1; simp at this; exact this
  have HJ := Lib.hid (And.intro hi1 (And.intro hy0 (And.intro hy1 hy2)))
  clear hi1 hii1 hy0 hy1 hy2
  have hsf := run_store_f
  obtain ⟨i0, hi0, hii⟩ := Option.map_eq_some_iff.1 info_int
  obtain ⟨hz0, hz1, hz2⟩ : i0.zero = some (.int .i64 0) ∧ i0.size = 1 ∧ i0.bytes = 8 := by
    have := hii; simp at this; exact this
  have HI := Lib.hid (And.intro hi0 (And.intro hz0 (And.intro hz1 hz2)))
  clear hi0 hii hz0 hz1 hz2
  have hbox0 : Cb w (w.alloc (Obj.cells #[.int .i64 0, .slice none 0 0, .slice none 0 0, .int .i64 0, .bool false, .slice none 0 0, .int .i64 0, .float .f64 0] 33)) rb #[.int .i64 0, .slice none 0 0, .slice none 0 0, .int .i64 0, .bool false, .slice none 0 0, .int .i64 0, .float .f64 0] := ⟨(Chg.refl w).alloc _, Blk.new _ _ _⟩
  have hrd0 : Rd (w.alloc (Obj.cells #[.int .i64 0, .slice none 0 0, .slice none 0 0, .int .i64 0, .bool false, .slice none 0 0, .int .i64 0, .float .f64 0] 33)) rb a len cap bs (67 :: cj :: n :: r0) := h.chg (S := fun _ => False) ((Chg.refl w).alloc _) (fun _ _ h => h)
  have HB0 := Lib.hid hbox0
  have HR0 := Lib.hid hrd0
  clear hbox0 hrd0 h
  go_enter Try.func21, Try.ntmps21
  go_wp2_with fail
  refine (byte_any HR0.out).mono ?_
  rintro e w1 ⟨hc, v, rfl, ⟨rfl, _⟩, hrd⟩
  have HB1 := Lib.hid (HB0.out.call hlt hc)
  have HR1 := Lib.hid hrd
  have k0 := HB1.out.2.cell 0 _ rfl
  have f0 := HB1.out.2.frozen 0
  clear hc hrd
  go_wp2_with fail
  refine (byte_any HR1.out).mono ?_
  rintro e w2 ⟨hc, v, rfl, ⟨rfl, _⟩, hrd⟩
  have HB2 : Hid (Cb w (w2.setCell ⟨w.heap.size, 0, none⟩ (.int .i64 (cj : Int))) rb #[.int .i64 (cj : Int), .slice none 0 0, .slice none 0 0, .int .i64 0, .bool false, .slice none 0 0, .int .i64 0, .float .f64 0]) := Lib.hid ((HB1.out.call hlt hc).set 0 (.int .i64 (cj : Int)))
  have HR2 := Lib.hid (hrd.box hlt 0 (.int .i64 (cj : Int)))
  have k0 := (HB1.out.call hlt hc).2.cell 0 _ rfl
  have f0 := (HB1.out.call hlt hc).2.frozen 0
  clear hc hrd
  go_wp2_with fail
  refine (byte_any HR2.out).mono ?_
  rintro e w3 ⟨hc, v, rfl, ⟨rfl, _⟩, hrd⟩
  have HB3 := Lib.hid (HB2.out.call hlt hc)
  have HR3 := Lib.hid hrd
  clear hc hrd k0 f0
  go_wp2_with fail
  go_loopg [14] n (fun g l14 wr => ∃ i : Nat, NodSt w wr rb a len cap bs (cj : Int) r0 n i ∧ l14 = .int .u8 i ∧ g = n - i)
  case atStart => exact ⟨0, ⟨Nat.zero_le _, _, [], r0, HB3.out, HR3.out, rfl, (preL_nil _).symm, World.ownsRow_nil _ _ _ _⟩, rfl, rfl⟩
  case round =>
    obtain ⟨i, ⟨hin0, v, l, rest1, hcb, hrd, hl, hd, hown⟩, rfl, rfl⟩ := hrel
    have HCB := Lib.hid hcb
    have HRD := Lib.hid hrd
    have HL := Lib.hid (And.intro hl hd)
    have HOW := Lib.hid hown
    have cv := hcb.2.cell 1 _ rfl
    clear hcb hrd hl hd hown
    by_cases hin : i < n
    · have hin' : (i : Int) < n := by omega
      have hB := num_any (HRD.out.heap (w' := wr.drew) rfl)
      cases hK : dNum 0 0 rest1 with
      | none =>
        have HB : Hid (Calls Try.prog 45 #[.pointer (some ⟨rb, 0, none⟩)] wr.drew fun e w2 => Chg (fun k => k = rb) wr.drew w2 ∧ Gone wr.drew.heap.size e w2) := Lib.hid (by unfold Got at hB; rw [hK] at hB; exact hB)
        have HDN : Hid (D = none) := Lib.hid (HDD.out (by rw [HL.out.2, show n - i = n - (i + 1) + 1 by omega, preL_none hK]))
        clear hB hK
        go_wp2_with fail
        refine wp_region_held_drew (S := fun _ => True) (by kernel_rfl) trivial (fun hHeld => ?_)
        refine wpAnyH_take (i := 0) (v := .pointer (some ⟨w.heap.size, 1, none⟩)) rfl (by kernel_rfl) (by kernel_rfl) (by kernel_rfl) (fun _ _ _ h => h) (Or.inl ⟨by rfl, ?_⟩) hHeld ?_
        · intro wS hSw
          go_simp
        simp only [Act.put, List.setIfInBounds_toArray, List.set_cons_zero, List.set_cons_succ]
        refine wpAnyH_take (i := 2) (v := .pointer (some ⟨rb, 0, none⟩)) rfl (by kernel_rfl) (by kernel_rfl) (by kernel_rfl) (fun _ _ _ h => h) (Or.inl ⟨by rfl, ?_⟩) hHeld ?_
        · intro wS hSw
          go_simp
        simp only [Act.put, List.setIfInBounds_toArray, List.set_cons_zero, List.set_cons_succ]
        refine wpAnyH_ready (rs := [1, 3]) (by kernel_rfl) (by simp) ?_
        refine AllReadyH.cons rfl (fun K hK => ?_) ?_
        · go_simp
          refine hK.out _ _ trivial (fun hHeld => ?_)
          clear hK K
          try simp only [Act.put, List.setIfInBounds_toArray, List.set_cons_zero, List.set_cons_succ]
          refine wpAnyH_ready (rs := [3]) (by kernel_rfl) (by simp) ?_
          refine AllReadyH.cons rfl (fun K hK => ?_) ?_
          · go_simp
            refine HB.out.mono ?_
            rintro e w2 ⟨hc2, hg⟩
            have hfin : Got w rb a len cap bs D V e w2 := Got.gone D HDN.out (HCB.out.drew.call hlt hc2).low hg (by have := HCB.out.size; simp only [World.size_drew]; omega)
            obtain ⟨p, ch, b, rfl, _⟩ := hg
            exact ⟨rfl, hfin⟩
          exact AllReadyH.nil
        refine AllReadyH.cons rfl (fun K hK => ?_) ?_
        · go_simp
          refine HB.out.mono ?_
          rintro e w2 ⟨hc2, hg⟩
          have hfin : Got w rb a len cap bs D V e w2 := Got.gone D HDN.out (HCB.out.drew.call hlt hc2).low hg (by have := HCB.out.size; simp only [World.size_drew]; omega)
          obtain ⟨p, ch, b, rfl, _⟩ := hg
          exact ⟨rfl, hfin⟩
        exact AllReadyH.nil
      | some q =>
        obtain ⟨k, r1⟩ := q
        have HB : Hid (Calls Try.prog 45 #[.pointer (some ⟨rb, 0, none⟩)] wr.drew fun e w2 => Chg (fun k => k = rb) wr.drew w2 ∧ ∃ v, e = .returned v ∧ (v = .int .i64 k ∧ k < 9223372036854775808) ∧ Rd w2 rb a len cap bs r1) := Lib.hid (by unfold Got at hB; rw [hK] at hB; exact hB)
        have HK := Lib.hid hK
        clear hB hK
        go_wp2_with fail
        refine wp_region_held_drew (S := fun _ => True) (by kernel_rfl) trivial (fun hHeld => ?_)
        refine wpAnyH_take (i := 0) (v := .pointer (some ⟨w.heap.size, 1, none⟩)) rfl (by kernel_rfl) (by kernel_rfl) (by kernel_rfl) (fun _ _ _ h => h) (Or.inl ⟨by rfl, ?_⟩) hHeld ?_
        · intro wS hSw
          go_simp
        simp only [Act.put, List.setIfInBounds_toArray, List.set_cons_zero, List.set_cons_succ]
        refine wpAnyH_take (i := 2) (v := .pointer (some ⟨rb, 0, none⟩)) rfl (by kernel_rfl) (by kernel_rfl) (by kernel_rfl) (fun _ _ _ h => h) (Or.inl ⟨by rfl, ?_⟩) hHeld ?_
        · intro wS hSw
          go_simp
        simp only [Act.put, List.setIfInBounds_toArray, List.set_cons_zero, List.set_cons_succ]
        refine wpAnyH_ready (rs := [1, 3]) (by kernel_rfl) (by simp) ?_
        refine AllReadyH.cons rfl (fun K hK => ?_) ?_
        · go_simp
          refine hK.out _ _ trivial (fun hHeld => ?_)
          clear hK K
          try simp only [Act.put, List.setIfInBounds_toArray, List.set_cons_zero, List.set_cons_succ]
          refine wpAnyH_ready (rs := [3]) (by kernel_rfl) (by simp) ?_
          refine AllReadyH.cons rfl (fun K hK => ?_) ?_
          · go_simp
            refine HB.out.mono ?_
            rintro e w2 ⟨hc2, v', rfl, ⟨rfl, hk63⟩, hrd2⟩
            have HC2 := Lib.hid (HCB.out.drew.call hlt hc2)
            have HR2 := Lib.hid hrd2
            have HO2 := Lib.hid (own_rd (HOW.out.drew) hlt hc2)
            have cw := HC2.out.2.cell 1 _ rfl
            have cwA := fun o => ((HC2.out.2.chg (S := fun _ => False) ((Chg.refl w2).alloc o) (fun h => h)).cell 1 _ rfl)
            clear hc2 hrd2
            refine hK.out _ _ trivial (fun hHeld => ?_)
            clear hK K
            try simp only [Act.put, List.setIfInBounds_toArray, List.set_cons_zero, List.set_cons_succ]
            refine wpAnyH_ready (rs := [4]) (by kernel_rfl) (by simp) ?_
            refine AllReadyH.cons rfl (fun K hK => ?_) ?_
            · go_simp
              refine hK.out _ _ trivial (fun hHeld => ?_)
              clear hK K
              try simp only [Act.put, List.setIfInBounds_toArray, List.set_cons_zero, List.set_cons_succ]
              refine wpAnyH_ready (rs := [5]) (by kernel_rfl) (by simp) ?_
              refine AllReadyH.cons rfl (fun K hK => ?_) ?_
              · refine step_append_st rfl (.tmp 17) (.tmp 20) 24 rfl (w.heap.size + 1) 3 i0 (.int .i64 0) 1 8 Try.underlying24 HI.out.1 HI.out.2.1 HI.out.2.2.1 HI.out.2.2.2 rfl (by decide) v i _ (by simp [Act.eval]) (by exact (HO2.out.alloc _)) ⟨w2.heap.size, 0, none⟩ 1 1 [.int .i64 (k : Int)] (by simp [Act.eval]) rfl (by exact newsV _ _ _) (by simp [Value.oneCell']) (by unfold maxLen; omega) (by omega) (by have := HC2.out.size; simp; omega) ?_
                intro v' w' u1 u2 u3
                obtain ⟨sa, sc, rfl⟩ := own_slice u1
                have HNX := Lib.hid (nod_next hlt hin HC2.out HR2.out HL.out.1 HL.out.2 HK.out HO2.out u1 u2)
                have cw' := HNX.out.1.2.cell 1 _ rfl
                have fw' := HNX.out.1.2.frozen 1
                clear u1 u2 u3 cw cwA
                refine hK.out _ _ trivial (fun hHeld => ?_)
                clear hK K
                try simp only [Act.put, List.setIfInBounds_toArray, List.set_cons_zero, List.set_cons_succ]
                refine wpAnyH_take (i := 6) (v := .pointer (some ⟨w.heap.size, 1, none⟩)) rfl (by kernel_rfl) (by kernel_rfl) (by kernel_rfl) (fun _ _ _ h => h) (Or.inl ⟨by rfl, ?_⟩) hHeld ?_
                · intro wS hSw
                  go_simp
                simp only [Act.put, List.setIfInBounds_toArray, List.set_cons_zero, List.set_cons_succ]
                refine wpAnyH_ready (rs := [7]) (by kernel_rfl) (by simp) ?_
                refine AllReadyH.cons rfl (fun K hK => ?_) ?_
                · go_simp
                  refine hK.out _ _ trivial (fun hHeld => ?_)
                  clear hK K hHeld
                  refine wpAnyH_done (by kernel_rfl) ?_ _
                  clear cw' fw'
                  go_wp2_with fail
                  go_roundg (n - (i + 1))
                  case measure => omega
                  case rel => exact ⟨i + 1, HNX.out.2, rfl, rfl⟩
                exact AllReadyH.nil
              exact AllReadyH.nil
            exact AllReadyH.nil
          exact AllReadyH.nil
        refine AllReadyH.cons rfl (fun K hK => ?_) ?_
        · go_simp
          refine HB.out.mono ?_
          rintro e w2 ⟨hc2, v', rfl, ⟨rfl, hk63⟩, hrd2⟩
          have HC2 := Lib.hid (HCB.out.drew.call hlt hc2)
          have HR2 := Lib.hid hrd2
          have HO2 := Lib.hid (own_rd (HOW.out.drew) hlt hc2)
          have cw := HC2.out.2.cell 1 _ rfl
          have cwA := fun o => ((HC2.out.2.chg (S := fun _ => False) ((Chg.refl w2).alloc o) (fun h => h)).cell 1 _ rfl)
          clear hc2 hrd2
          refine hK.out _ _ trivial (fun hHeld => ?_)
          clear hK K
          try simp only [Act.put, List.setIfInBounds_toArray, List.set_cons_zero, List.set_cons_succ]
          refine wpAnyH_ready (rs := [1, 4]) (by kernel_rfl) (by simp) ?_
          refine AllReadyH.cons rfl (fun K hK => ?_) ?_
          · go_simp
            refine hK.out _ _ trivial (fun hHeld => ?_)
            clear hK K
            try simp only [Act.put, List.setIfInBounds_toArray, List.set_cons_zero, List.set_cons_succ]
            refine wpAnyH_ready (rs := [4]) (by kernel_rfl) (by simp) ?_
            refine AllReadyH.cons rfl (fun K hK => ?_) ?_
            · go_simp
              refine hK.out _ _ trivial (fun hHeld => ?_)
              clear hK K
              try simp only [Act.put, List.setIfInBounds_toArray, List.set_cons_zero, List.set_cons_succ]
              refine wpAnyH_ready (rs := [5]) (by kernel_rfl) (by simp) ?_
              refine AllReadyH.cons rfl (fun K hK => ?_) ?_
              · refine step_append_st rfl (.tmp 17) (.tmp 20) 24 rfl (w.heap.size + 1) 3 i0 (.int .i64 0) 1 8 Try.underlying24 HI.out.1 HI.out.2.1 HI.out.2.2.1 HI.out.2.2.2 rfl (by decide) v i _ (by simp [Act.eval]) (by exact (HO2.out.alloc _)) ⟨w2.heap.size, 0, none⟩ 1 1 [.int .i64 (k : Int)] (by simp [Act.eval]) rfl (by exact newsV _ _ _) (by simp [Value.oneCell']) (by unfold maxLen; omega) (by omega) (by have := HC2.out.size; simp; omega) ?_
                intro v' w' u1 u2 u3
                obtain ⟨sa, sc, rfl⟩ := own_slice u1
                have HNX := Lib.hid (nod_next hlt hin HC2.out HR2.out HL.out.1 HL.out.2 HK.out HO2.out u1 u2)
                have cw' := HNX.out.1.2.cell 1 _ rfl
                have fw' := HNX.out.1.2.frozen 1
                clear u1 u2 u3 cw cwA
                refine hK.out _ _ trivial (fun hHeld => ?_)
                clear hK K
                try simp only [Act.put, List.setIfInBounds_toArray, List.set_cons_zero, List.set_cons_succ]
                refine wpAnyH_take (i := 6) (v := .pointer (some ⟨w.heap.size, 1, none⟩)) rfl (by kernel_rfl) (by kernel_rfl) (by kernel_rfl) (fun _ _ _ h => h) (Or.inl ⟨by rfl, ?_⟩) hHeld ?_
                · intro wS hSw
                  go_simp
                simp only [Act.put, List.setIfInBounds_toArray, List.set_cons_zero, List.set_cons_succ]
                refine wpAnyH_ready (rs := [7]) (by kernel_rfl) (by simp) ?_
                refine AllReadyH.cons rfl (fun K hK => ?_) ?_
                · go_simp
                  refine hK.out _ _ trivial (fun hHeld => ?_)
                  clear hK K hHeld
                  refine wpAnyH_done (by kernel_rfl) ?_ _
                  clear cw' fw'
                  go_wp2_with fail
                  go_roundg (n - (i + 1))
                  case measure => omega
                  case rel => exact ⟨i + 1, HNX.out.2, rfl, rfl⟩
                exact AllReadyH.nil
              exact AllReadyH.nil
            exact AllReadyH.nil
          refine AllReadyH.cons rfl (fun K hK => ?_) ?_
          · go_simp
            refine hK.out _ _ trivial (fun hHeld => ?_)
            clear hK K
            try simp only [Act.put, List.setIfInBounds_toArray, List.set_cons_zero, List.set_cons_succ]
            refine wpAnyH_ready (rs := [1]) (by kernel_rfl) (by simp) ?_
            refine AllReadyH.cons rfl (fun K hK => ?_) ?_
            · go_simp
              refine hK.out _ _ trivial (fun hHeld => ?_)
              clear hK K
              try simp only [Act.put, List.setIfInBounds_toArray, List.set_cons_zero, List.set_cons_succ]
              refine wpAnyH_ready (rs := [5]) (by kernel_rfl) (by simp) ?_
              refine AllReadyH.cons rfl (fun K hK => ?_) ?_
              · refine step_append_st rfl (.tmp 17) (.tmp 20) 24 rfl (w.heap.size + 1) 3 i0 (.int .i64 0) 1 8 Try.underlying24 HI.out.1 HI.out.2.1 HI.out.2.2.1 HI.out.2.2.2 rfl (by decide) v i _ (by simp [Act.eval]) (by exact (HO2.out.alloc _)) ⟨w2.heap.size, 0, none⟩ 1 1 [.int .i64 (k : Int)] (by simp [Act.eval]) rfl (by exact newsV _ _ _) (by simp [Value.oneCell']) (by unfold maxLen; omega) (by omega) (by have := HC2.out.size; simp; omega) ?_
                intro v' w' u1 u2 u3
                obtain ⟨sa, sc, rfl⟩ := own_slice u1
                have HNX := Lib.hid (nod_next hlt hin HC2.out HR2.out HL.out.1 HL.out.2 HK.out HO2.out u1 u2)
                have cw' := HNX.out.1.2.cell 1 _ rfl
                have fw' := HNX.out.1.2.frozen 1
                clear u1 u2 u3 cw cwA
                refine hK.out _ _ trivial (fun hHeld => ?_)
                clear hK K
                try simp only [Act.put, List.setIfInBounds_toArray, List.set_cons_zero, List.set_cons_succ]
                refine wpAnyH_take (i := 6) (v := .pointer (some ⟨w.heap.size, 1, none⟩)) rfl (by kernel_rfl) (by kernel_rfl) (by kernel_rfl) (fun _ _ _ h => h) (Or.inl ⟨by rfl, ?_⟩) hHeld ?_
                · intro wS hSw
                  go_simp
                simp only [Act.put, List.setIfInBounds_toArray, List.set_cons_zero, List.set_cons_succ]
                refine wpAnyH_ready (rs := [7]) (by kernel_rfl) (by simp) ?_
                refine AllReadyH.cons rfl (fun K hK => ?_) ?_
                · go_simp
                  refine hK.out _ _ trivial (fun hHeld => ?_)
                  clear hK K hHeld
                  refine wpAnyH_done (by kernel_rfl) ?_ _
                  clear cw' fw'
                  go_wp2_with fail
                  go_roundg (n - (i + 1))
                  case measure => omega
                  case rel => exact ⟨i + 1, HNX.out.2, rfl, rfl⟩
                exact AllReadyH.nil
              exact AllReadyH.nil
            exact AllReadyH.nil
          exact AllReadyH.nil
        exact AllReadyH.nil
    · have e0 : n = i := by omega
      subst e0
      have hin' : ¬ (n : Int) < n := by omega
      have hdl : dNums n r0 = some (l, rest1) := by rw [HL.out.2, Nat.sub_self]; simp [preL, dNums]
      cases rest1 with
      | nil =>
        have HDN : Hid (D = none) := Lib.hid (by rw [HD.out]; exact dR_more hdl)
        clear hdl
        go_wp2_with fail
        refine (byte_any HRD.out).mono ?_
        rintro e w2 ⟨hc2, hg⟩
        have hfin : Got w rb a len cap bs D V e w2 := Got.gone D HDN.out (HCB.out.call hlt hc2).low hg (by have := HCB.out.size; omega)
        obtain ⟨p, ch, b, rfl, _⟩ := hg
        exact ⟨rfl, hfin⟩
      | cons m r2 =>
        have HDL := Lib.hid hdl
        have hln := HL.out.1
        clear hdl
        go_wp2_with fail
        refine (byte_any HRD.out).mono ?_
        rintro e w2 ⟨hc2, v', rfl, ⟨rfl, hm256⟩, hrd2⟩
        have HB4 := Lib.hid (HCB.out.call hlt hc2)
        have HR4 := Lib.hid hrd2
        have HO4 := Lib.hid (own_rd HOW.out hlt hc2)
        clear hc2 hrd2
        go_wp2_with fail
        obtain ⟨v1, hv1⟩ : ∃ v1, v1 = v := ⟨_, rfl⟩
        rw [← hv1] at HB4 HO4
        clear hv1 cv HCB HRD HL HOW
        go_loopg [26] m (fun g l26 wr => ∃ i' : Nat, WlkSt w wr rb a len cap bs (cj : Int) v1 n l r2 m i' ∧ l26 = .int .u8 i' ∧ g = m - i')
        case atStart => exact ⟨0, ⟨Nat.zero_le _, _, [], [], r2, HB4.out, HR4.out, rfl, (preL_nil _).symm, World.ownsRow_nil _ _ _ _, HO4.out, fun g hg h => by simp [Value.ownBlock] at h, trivial⟩, rfl, rfl⟩
        case round =>
          obtain ⟨i, ⟨hin0, v, us, ls, rest1, hcb, hrd, hl, hd, hown, ho1, hap, hsr⟩, rfl, rfl⟩ := hrel
          have HCB := Lib.hid hcb
          have HRD := Lib.hid hrd
          have HL := Lib.hid (And.intro hl hd)
          have HOW := Lib.hid (And.intro hown (And.intro ho1 (And.intro hap hsr)))
          have cv := hcb.2.cell 2 _ rfl
          clear hcb hrd hl hd hown ho1 hap hsr
          by_cases hin : i < m
          · have hin' : (i : Int) < m := by omega
            have hB := walk_any (HRD.out.heap (w' := wr.drew) rfl)
            cases hK : dWalk rest1 with
            | none =>
              have HB : Hid (Calls Try.prog 46 #[.pointer (some ⟨rb, 0, none⟩)] wr.drew fun e w2 => Chg (fun k => k = rb) wr.drew w2 ∧ Gone wr.drew.heap.size e w2) := Lib.hid (by unfold Got at hB; rw [hK] at hB; exact hB)
              have HDN : Hid (D = none) := Lib.hid (by rw [HD.out]; exact dR_walks HDL.out (by rw [HL.out.2, show m - i = m - (i + 1) + 1 by omega, preW_none hK]))
              clear hB hK
              go_wp2_with fail
              refine wp_region_held_drew (S := fun _ => True) (by kernel_rfl) trivial (fun hHeld => ?_)
              refine wpAnyH_take (i := 0) (v := .pointer (some ⟨w.heap.size, 2, none⟩)) rfl (by kernel_rfl) (by kernel_rfl) (by kernel_rfl) (fun _ _ _ h => h) (Or.inl ⟨by rfl, ?_⟩) hHeld ?_
              · intro wS hSw
                go_simp
              simp only [Act.put, List.setIfInBounds_toArray, List.set_cons_zero, List.set_cons_succ]
              refine wpAnyH_take (i := 2) (v := .pointer (some ⟨rb, 0, none⟩)) rfl (by kernel_rfl) (by kernel_rfl) (by kernel_rfl) (fun _ _ _ h => h) (Or.inl ⟨by rfl, ?_⟩) hHeld ?_
              · intro wS hSw
                go_simp
              simp only [Act.put, List.setIfInBounds_toArray, List.set_cons_zero, List.set_cons_succ]
              refine wpAnyH_ready (rs := [1, 3]) (by kernel_rfl) (by simp) ?_
              refine AllReadyH.cons rfl (fun K hK => ?_) ?_
              · go_simp
                refine hK.out _ _ trivial (fun hHeld => ?_)
                clear hK K
                try simp only [Act.put, List.setIfInBounds_toArray, List.set_cons_zero, List.set_cons_succ]
                refine wpAnyH_ready (rs := [3]) (by kernel_rfl) (by simp) ?_
                refine AllReadyH.cons rfl (fun K hK => ?_) ?_
                · go_simp
                  refine HB.out.mono ?_
                  rintro e w2 ⟨hc2, hg⟩
                  have hfin : Got w rb a len cap bs D V e w2 := Got.gone D HDN.out (HCB.out.drew.call hlt hc2).low hg (by have := HCB.out.size; simp only [World.size_drew]; omega)
                  obtain ⟨p, ch, b, rfl, _⟩ := hg
                  exact ⟨rfl, hfin⟩
                exact AllReadyH.nil
              refine AllReadyH.cons rfl (fun K hK => ?_) ?_
              · go_simp
                refine HB.out.mono ?_
                rintro e w2 ⟨hc2, hg⟩
                have hfin : Got w rb a len cap bs D V e w2 := Got.gone D HDN.out (HCB.out.drew.call hlt hc2).low hg (by have := HCB.out.size; simp only [World.size_drew]; omega)
                obtain ⟨p, ch, b, rfl, _⟩ := hg
                exact ⟨rfl, hfin⟩
              exact AllReadyH.nil
            | some q =>
              obtain ⟨k, r1⟩ := q
              have HB : Hid (Calls Try.prog 46 #[.pointer (some ⟨rb, 0, none⟩)] wr.drew fun e w2 => Chg (fun k => k = rb) wr.drew w2 ∧ ∃ v, e = .returned v ∧ (w2.ownsRow wr.drew.heap.size 56 2 v k.length (stepCells k) ∧ k.length ≤ 2000) ∧ Rd w2 rb a len cap bs r1) := Lib.hid (by unfold Got at hB; rw [hK] at hB; exact hB)
              have HK := Lib.hid hK
              clear hB hK
              go_wp2_with fail
              refine wp_region_held_drew (S := fun _ => True) (by kernel_rfl) trivial (fun hHeld => ?_)
              refine wpAnyH_take (i := 0) (v := .pointer (some ⟨w.heap.size, 2, none⟩)) rfl (by kernel_rfl) (by kernel_rfl) (by kernel_rfl) (fun _ _ _ h => h) (Or.inl ⟨by rfl, ?_⟩) hHeld ?_
              · intro wS hSw
                go_simp
              simp only [Act.put, List.setIfInBounds_toArray, List.set_cons_zero, List.set_cons_succ]
              refine wpAnyH_take (i := 2) (v := .pointer (some ⟨rb, 0, none⟩)) rfl (by kernel_rfl) (by kernel_rfl) (by kernel_rfl) (fun _ _ _ h => h) (Or.inl ⟨by rfl, ?_⟩) hHeld ?_
              · intro wS hSw
                go_simp
              simp only [Act.put, List.setIfInBounds_toArray, List.set_cons_zero, List.set_cons_succ]
              refine wpAnyH_ready (rs := [1, 3]) (by kernel_rfl) (by simp) ?_
              refine AllReadyH.cons rfl (fun K hK => ?_) ?_
              · go_simp
                refine hK.out _ _ trivial (fun hHeld => ?_)
                clear hK K
                try simp only [Act.put, List.setIfInBounds_toArray, List.set_cons_zero, List.set_cons_succ]
                refine wpAnyH_ready (rs := [3]) (by kernel_rfl) (by simp) ?_
                refine AllReadyH.cons rfl (fun K hK => ?_) ?_
                · go_simp
                  refine HB.out.mono ?_
                  rintro e w2 ⟨hc2, u, rfl, ⟨hu, hk2000⟩, hrd2⟩
                  obtain ⟨ua, uc, rfl⟩ := own_slice hu
                  have HC2 := Lib.hid (HCB.out.drew.call hlt hc2)
                  have HR2 := Lib.hid hrd2
                  have HO2 := Lib.hid (own_rd (HOW.out.1.drew) hlt hc2)
                  have HO3 := Lib.hid (own_rd (HOW.out.2.1.drew) hlt hc2)
                  have HU2 := Lib.hid (srows_walk (hwr := HCB.out.size) HOW.out.1 HOW.out.2.2.2 hlt hc2 hu)
                  have cw := HC2.out.2.cell 2 _ rfl
                  have cwA := fun o => ((HC2.out.2.chg (S := fun _ => False) ((Chg.refl w2).alloc o) (fun h => h)).cell 2 _ rfl)
                  clear hc2 hrd2 hu
                  refine hK.out _ _ trivial (fun hHeld => ?_)
                  clear hK K
                  try simp only [Act.put, List.setIfInBounds_toArray, List.set_cons_zero, List.set_cons_succ]
                  refine wpAnyH_ready (rs := [4]) (by kernel_rfl) (by simp) ?_
                  refine AllReadyH.cons rfl (fun K hK => ?_) ?_
                  · go_simp
                    refine hK.out _ _ trivial (fun hHeld => ?_)
                    clear hK K
                    try simp only [Act.put, List.setIfInBounds_toArray, List.set_cons_zero, List.set_cons_succ]
                    refine wpAnyH_ready (rs := [5]) (by kernel_rfl) (by simp) ?_
                    refine AllReadyH.cons rfl (fun K hK => ?_) ?_
                    · refine step_append_st rfl (.tmp 29) (.tmp 32) 25 rfl (w.heap.size + 1) 54 i1 (.slice none 0 0) 1 24 Try.underlying25 HJ.out.1 HJ.out.2.1 HJ.out.2.2.1 HJ.out.2.2.2 rfl (by decide) v i _ (by simp [Act.eval]) (by exact (HO2.out.alloc _)) ⟨w2.heap.size, 0, none⟩ 1 1 [.slice ua k.length uc] (by simp [Act.eval]) rfl (by exact newsV _ _ _) (by simp [Value.oneCell']) (by unfold maxLen; omega) (by omega) (by have := HC2.out.size; simp; omega) ?_
                      intro v' w' u1 u2 u3
                      obtain ⟨sa, sc, rfl⟩ := own_slice u1
                      have HNX := Lib.hid (wlk_next hlt hin HC2.out HR2.out HL.out.1 HL.out.2 HK.out HO2.out HO3.out HOW.out.2.2.1 HU2.out.1 HU2.out.2.1 HU2.out.2.2 u1 u2 u3)
                      have cw' := HNX.out.1.2.cell 2 _ rfl
                      have fw' := HNX.out.1.2.frozen 2
                      clear u1 u2 u3 cw cwA
                      refine hK.out _ _ trivial (fun hHeld => ?_)
                      clear hK K
                      try simp only [Act.put, List.setIfInBounds_toArray, List.set_cons_zero, List.set_cons_succ]
                      refine wpAnyH_take (i := 6) (v := .pointer (some ⟨w.heap.size, 2, none⟩)) rfl (by kernel_rfl) (by kernel_rfl) (by kernel_rfl) (fun _ _ _ h => h) (Or.inl ⟨by rfl, ?_⟩) hHeld ?_
                      · intro wS hSw
                        go_simp
                      simp only [Act.put, List.setIfInBounds_toArray, List.set_cons_zero, List.set_cons_succ]
                      refine wpAnyH_ready (rs := [7]) (by kernel_rfl) (by simp) ?_
                      refine AllReadyH.cons rfl (fun K hK => ?_) ?_
                      · go_simp
                        refine hK.out _ _ trivial (fun hHeld => ?_)
                        clear hK K hHeld
                        refine wpAnyH_done (by kernel_rfl) ?_ _
                        clear cw' fw'
                        go_wp2_with fail
                        go_roundg (m - (i + 1))
                        case measure => omega
                        case rel => exact ⟨i + 1, HNX.out.2, rfl, rfl⟩
                      exact AllReadyH.nil
                    exact AllReadyH.nil
                  exact AllReadyH.nil
                exact AllReadyH.nil
              refine AllReadyH.cons rfl (fun K hK => ?_) ?_
              · go_simp
                refine HB.out.mono ?_
                rintro e w2 ⟨hc2, u, rfl, ⟨hu, hk2000⟩, hrd2⟩
                obtain ⟨ua, uc, rfl⟩ := own_slice hu
                have HC2 := Lib.hid (HCB.out.drew.call hlt hc2)
                have HR2 := Lib.hid hrd2
                have HO2 := Lib.hid (own_rd (HOW.out.1.drew) hlt hc2)
                have HO3 := Lib.hid (own_rd (HOW.out.2.1.drew) hlt hc2)
                have HU2 := Lib.hid (srows_walk (hwr := HCB.out.size) HOW.out.1 HOW.out.2.2.2 hlt hc2 hu)
                have cw := HC2.out.2.cell 2 _ rfl
                have cwA := fun o => ((HC2.out.2.chg (S := fun _ => False) ((Chg.refl w2).alloc o) (fun h => h)).cell 2 _ rfl)
                clear hc2 hrd2 hu
                refine hK.out _ _ trivial (fun hHeld => ?_)
                clear hK K
                try simp only [Act.put, List.setIfInBounds_toArray, List.set_cons_zero, List.set_cons_succ]
                refine wpAnyH_ready (rs := [1, 4]) (by kernel_rfl) (by simp) ?_
                refine AllReadyH.cons rfl (fun K hK => ?_) ?_
                · go_simp
                  refine hK.out _ _ trivial (fun hHeld => ?_)
                  clear hK K
                  try simp only [Act.put, List.setIfInBounds_toArray, List.set_cons_zero, List.set_cons_succ]
                  refine wpAnyH_ready (rs := [4]) (by kernel_rfl) (by simp) ?_
                  refine AllReadyH.cons rfl (fun K hK => ?_) ?_
                  · go_simp
                    refine hK.out _ _ trivial (fun hHeld => ?_)
                    clear hK K
                    try simp only [Act.put, List.setIfInBounds_toArray, List.set_cons_zero, List.set_cons_succ]
                    refine wpAnyH_ready (rs := [5]) (by kernel_rfl) (by simp) ?_
                    refine AllReadyH.cons rfl (fun K hK => ?_) ?_
                    · refine step_append_st rfl (.tmp 29) (.tmp 32) 25 rfl (w.heap.size + 1) 54 i1 (.slice none 0 0) 1 24 Try.underlying25 HJ.out.1 HJ.out.2.1 HJ.out.2.2.1 HJ.out.2.2.2 rfl (by decide) v i _ (by simp [Act.eval]) (by exact (HO2.out.alloc _)) ⟨w2.heap.size, 0, none⟩ 1 1 [.slice ua k.length uc] (by simp [Act.eval]) rfl (by exact newsV _ _ _) (by simp [Value.oneCell']) (by unfold maxLen; omega) (by omega) (by have := HC2.out.size; simp; omega) ?_
                      intro v' w' u1 u2 u3
                      obtain ⟨sa, sc, rfl⟩ := own_slice u1
                      have HNX := Lib.hid (wlk_next hlt hin HC2.out HR2.out HL.out.1 HL.out.2 HK.out HO2.out HO3.out HOW.out.2.2.1 HU2.out.1 HU2.out.2.1 HU2.out.2.2 u1 u2 u3)
                      have cw' := HNX.out.1.2.cell 2 _ rfl
                      have fw' := HNX.out.1.2.frozen 2
                      clear u1 u2 u3 cw cwA
                      refine hK.out _ _ trivial (fun hHeld => ?_)
                      clear hK K
                      try simp only [Act.put, List.setIfInBounds_toArray, List.set_cons_zero, List.set_cons_succ]
                      refine wpAnyH_take (i := 6) (v := .pointer (some ⟨w.heap.size, 2, none⟩)) rfl (by kernel_rfl) (by kernel_rfl) (by kernel_rfl) (fun _ _ _ h => h) (Or.inl ⟨by rfl, ?_⟩) hHeld ?_
                      · intro wS hSw
                        go_simp
                      simp only [Act.put, List.setIfInBounds_toArray, List.set_cons_zero, List.set_cons_succ]
                      refine wpAnyH_ready (rs := [7]) (by kernel_rfl) (by simp) ?_
                      refine AllReadyH.cons rfl (fun K hK => ?_) ?_
                      · go_simp
                        refine hK.out _ _ trivial (fun hHeld => ?_)
                        clear hK K hHeld
                        refine wpAnyH_done (by kernel_rfl) ?_ _
                        clear cw' fw'
                        go_wp2_with fail
                        go_roundg (m - (i + 1))
                        case measure => omega
                        case rel => exact ⟨i + 1, HNX.out.2, rfl, rfl⟩
                      exact AllReadyH.nil
                    exact AllReadyH.nil
                  exact AllReadyH.nil
                refine AllReadyH.cons rfl (fun K hK => ?_) ?_
                · go_simp
                  refine hK.out _ _ trivial (fun hHeld => ?_)
                  clear hK K
                  try simp only [Act.put, List.setIfInBounds_toArray, List.set_cons_zero, List.set_cons_succ]
                  refine wpAnyH_ready (rs := [1]) (by kernel_rfl) (by simp) ?_
                  refine AllReadyH.cons rfl (fun K hK => ?_) ?_
                  · go_simp
                    refine hK.out _ _ trivial (fun hHeld => ?_)
                    clear hK K
                    try simp only [Act.put, List.setIfInBounds_toArray, List.set_cons_zero, List.set_cons_succ]
                    refine wpAnyH_ready (rs := [5]) (by kernel_rfl) (by simp) ?_
                    refine AllReadyH.cons rfl (fun K hK => ?_) ?_
                    · refine step_append_st rfl (.tmp 29) (.tmp 32) 25 rfl (w.heap.size + 1) 54 i1 (.slice none 0 0) 1 24 Try.underlying25 HJ.out.1 HJ.out.2.1 HJ.out.2.2.1 HJ.out.2.2.2 rfl (by decide) v i _ (by simp [Act.eval]) (by exact (HO2.out.alloc _)) ⟨w2.heap.size, 0, none⟩ 1 1 [.slice ua k.length uc] (by simp [Act.eval]) rfl (by exact newsV _ _ _) (by simp [Value.oneCell']) (by unfold maxLen; omega) (by omega) (by have := HC2.out.size; simp; omega) ?_
                      intro v' w' u1 u2 u3
                      obtain ⟨sa, sc, rfl⟩ := own_slice u1
                      have HNX := Lib.hid (wlk_next hlt hin HC2.out HR2.out HL.out.1 HL.out.2 HK.out HO2.out HO3.out HOW.out.2.2.1 HU2.out.1 HU2.out.2.1 HU2.out.2.2 u1 u2 u3)
                      have cw' := HNX.out.1.2.cell 2 _ rfl
                      have fw' := HNX.out.1.2.frozen 2
                      clear u1 u2 u3 cw cwA
                      refine hK.out _ _ trivial (fun hHeld => ?_)
                      clear hK K
                      try simp only [Act.put, List.setIfInBounds_toArray, List.set_cons_zero, List.set_cons_succ]
                      refine wpAnyH_take (i := 6) (v := .pointer (some ⟨w.heap.size, 2, none⟩)) rfl (by kernel_rfl) (by kernel_rfl) (by kernel_rfl) (fun _ _ _ h => h) (Or.inl ⟨by rfl, ?_⟩) hHeld ?_
                      · intro wS hSw
                        go_simp
                      simp only [Act.put, List.setIfInBounds_toArray, List.set_cons_zero, List.set_cons_succ]
                      refine wpAnyH_ready (rs := [7]) (by kernel_rfl) (by simp) ?_
                      refine AllReadyH.cons rfl (fun K hK => ?_) ?_
                      · go_simp
                        refine hK.out _ _ trivial (fun hHeld => ?_)
                        clear hK K hHeld
                        refine wpAnyH_done (by kernel_rfl) ?_ _
                        clear cw' fw'
                        go_wp2_with fail
                        go_roundg (m - (i + 1))
                        case measure => omega
                        case rel => exact ⟨i + 1, HNX.out.2, rfl, rfl⟩
                      exact AllReadyH.nil
                    exact AllReadyH.nil
                  exact AllReadyH.nil
                exact AllReadyH.nil
              exact AllReadyH.nil
          · have e0 : m = i := by omega
            subst e0
            have hin' : ¬ (m : Int) < m := by omega
            have hV := HVAL _ _ HRD.out
            have hdw : dWalks m r2 = some (ls, rest1) := by rw [HL.out.2, Nat.sub_self]; simp [preL, dWalks]
            have HDW := Lib.hid hdw
            clear hdw
            cases hK : dVal rest1 with
            | none =>
              have HB : Hid (Calls Try.prog 31 #[.pointer (some ⟨rb, 0, none⟩)] wr fun e w2 => Chg (fun k => k = rb) wr w2 ∧ Gone wr.heap.size e w2) := Lib.hid (by unfold Got at hV; rw [hK] at hV; exact hV)
              have HDN : Hid (D = none) := Lib.hid (by rw [HD.out]; exact dR_val HDL.out HDW.out hK)
              clear hV hK
              go_wp2_with fail
              refine HB.out.mono ?_
              rintro e w2 ⟨hc2, hg⟩
              have hfin : Got w rb a len cap bs D V e w2 := Got.gone D HDN.out (HCB.out.call hlt hc2).low hg (by have := HCB.out.size; omega)
              obtain ⟨p, ch, b, rfl, _⟩ := hg
              exact ⟨rfl, hfin⟩
            | some q =>
              obtain ⟨cl, z⟩ := q
              have HB : Hid (Calls Try.prog 31 #[.pointer (some ⟨rb, 0, none⟩)] wr fun e w2 => Chg (fun k => k = rb) wr w2 ∧ ∃ v, e = .returned v ∧ ValV wr cl v w2 ∧ Rd w2 rb a len cap bs z) := Lib.hid (by unfold Got at hV; rw [hK] at hV; exact hV)
              have HK := Lib.hid hK
              clear hV hK
              obtain ⟨a1, cap1, rfl⟩ := own_slice HOW.out.2.1
              obtain ⟨a2, cap2, rfl⟩ := own_slice HOW.out.1
              go_wp2_with fail
              refine HB.out.mono ?_
              rintro e w2 ⟨hc2, val, rfl, ⟨a3, cap3, rfl, ho3, hx64⟩, hrd2⟩
              have hcs := HCB.out.call hlt hc2
              obtain ⟨g0, f0, g1, f1, g2, f2, g3, f3, g4, f4, g5, f5, g6, f6, g7, f7⟩ := blk8_base hcs.2
              have HFN := Lib.hid (crt_mid hlt hcs hrd2 (own_rd HOW.out.2.1 hlt hc2) (own_rd HOW.out.1 hlt hc2) (HOW.out.2.2.2.chg hc2 (fun g hg1 hg2 hg3 => ⟨fun h => by have h' : g = rb := h; omega, hg3⟩)) (ownsRow_base ho3 HCB.out.size))
              have hLen := HL.out.1
              clear hc2 hrd2 ho3 hcs
              obtain ⟨sem, inf, W, lev, x⟩ := cl
              unfold valV at *
              simp only at *
              obtain ⟨W5, hW5⟩ : ∃ W5, W5 = ((((w2.setCell ⟨w.heap.size, 3, none⟩ (.int .i64 sem)).setCell ⟨w.heap.size, 4, none⟩ (.bool inf)).setCell ⟨w.heap.size, 5, none⟩ (.slice a3 W.length cap3)).setCell ⟨w.heap.size, 6, none⟩ (.int .i64 lev)).setCell ⟨w.heap.size, 7, none⟩ (.float .f64 x) := ⟨_, rfl⟩
              have HFM := Lib.hid HFN.out
              rw [← hW5] at HFM
              have HW5 := Lib.hid hW5
              clear hW5
              go_wp2_with fail
              rw [← HW5.out]
              clear g0 f0 g1 f1 g2 f2 g3 f3 g4 f4 g5 f5 g6 f6 g7 f7 HFN
              obtain ⟨hF1, hF2, hF3, hF4, hF5, hF6⟩ := HFM.out
              have r0 := hF2.c0
              have r1 := hF2.c1
              have hzl := hF2.le
              have hlen := hF2.hlen
              obtain ⟨j0, i0', j1, i1', j2, i2', j3, i3', j4, i4', j5, i5', j6, i6', j7, i7'⟩ := blk8_base hF1.2
              have HF1 := Lib.hid hF1
              have HF2 := Lib.hid hF2
              have HF3 := Lib.hid (And.intro hF3 (And.intro hF4 (And.intro hF5 hF6)))
              have HDE := Lib.hid (dR_end (cj := cj) HDL.out HDW.out HK.out)
              rw [← HD.out] at HDE
              clear hF1 hF2 hF3 hF4 hF5 hF6
              cases z with
              | cons y z =>
                have HDN : Hid (D = none) := Lib.hid (by rw [HDE.out, if_neg (fun h => by simp at h)])
                obtain ⟨p, hp⟩ : ∃ p : Nat, len - (y :: z).length = p := ⟨_, rfl⟩
                rw [hp] at r1
                have hplt : (p : Int) < (len : Int) := by simp only [List.length_cons] at hp hzl; omega
                clear hp
                go_quiet (fail)
                go_wp2_with fail
                refine (bad_any (p := (p : Int)) ?_).mono ?_
                · exact r1
                rintro e w4 ⟨hx4, hg⟩
                have hfin : Got w rb a len cap bs D V e w4 := Got.bad D HDN.out (HF1.out.low.drewN _) hx4 hg
                obtain ⟨p, ch, b, rfl, _⟩ := hg
                exact ⟨rfl, hfin⟩
              | nil =>
                have r1' : W5.cell? ⟨rb, 1, none⟩ = some (.int .i64 (len : Int)) := by simpa using r1
                clear r1
                have hcv : CrtV W5.drew ⟨cj, l.map Int.ofNat, ls.map (fun w => w.map intStep), ⟨sem, inf, W, lev, x⟩⟩ a1 cap1 a2 cap2 a3 cap3 us := by
                  have h1 := Cells.of_own HF3.out.1
                  have h2 := Cells.of_own HF3.out.2.1
                  have h5 : CrtV W5 ⟨cj, l.map Int.ofNat, ls.map (fun w => w.map intStep), ⟨sem, inf, W, lev, x⟩⟩ a1 cap1 a2 cap2 a3 cap3 us := by
                    refine ⟨?_, ?_, HF3.out.2.2.1.rows, Cells.of_own HF3.out.2.2.2⟩
                    · rw [natCells_int] at h1
                      simp only [List.length_map, hln]; exact h1
                    · simp only [List.length_map, HL.out.1]; exact h2
                  exact h5.chg (S := fun _ => False) ((Chg.refl _).drew) (fun _ _ h => h)
                have hM := mayC_any hcv
                unfold crtV at hM
                simp only [List.length_map, hln, HL.out.1] at hM
                obtain ⟨mb, hmb⟩ : ∃ mb, mayC ⟨cj, l.map Int.ofNat, ls.map (fun w => w.map intStep), ⟨sem, inf, W, lev, x⟩⟩ = mb := ⟨_, rfl⟩
                rw [hmb] at hM
                have hDE := HDE.out
                rw [hmb] at hDE
                have HM := Lib.hid hM
                have HDM := Lib.hid hDE
                clear hcv hM hDE hmb
                have hWL : W.length = W.length := rfl
                cases mb with
                | true =>
                  have HDS : Hid (D = some (⟨cj, l.map Int.ofNat, ls.map (fun w => w.map intStep), ⟨sem, inf, W, lev, x⟩⟩, [])) := Lib.hid (by rw [HDM.out]; simp)
                  go_region_held3 (fun v' => v'.cell? ⟨rb, 0, none⟩ = some (.slice a len cap) ∧ v'.cell? ⟨rb, 1, none⟩ = some (.int .i64 (len : Int)) ∧ v'.cell? ⟨w.heap.size, 0, none⟩ = some (.int .i64 (cj : Int)) ∧ v'.cell? ⟨w.heap.size, 1, none⟩ = some (.slice a1 n cap1) ∧ v'.cell? ⟨w.heap.size, 2, none⟩ = some (.slice a2 m cap2) ∧ v'.cell? ⟨w.heap.size, 3, none⟩ = some (.int .i64 sem) ∧ v'.cell? ⟨w.heap.size, 4, none⟩ = some (.bool inf) ∧ v'.cell? ⟨w.heap.size, 5, none⟩ = some (.slice a3 W.length cap3) ∧ v'.cell? ⟨w.heap.size, 6, none⟩ = some (.int .i64 lev) ∧ v'.cell? ⟨w.heap.size, 7, none⟩ = some (.float .f64 x)) (first | exact ⟨r0, r1', j0, j1, j2, j3, j4, j5, j6, j7⟩ | exact ⟨s0, s1, g0, g1, g2, g3, g4, g5, g6, g7⟩) (first | (go_at_call 22; refine HM.out.mono ?_; rintro e w' ⟨rfl, hx⟩; have kb := (HF1.out.drew.ext hx).2; obtain ⟨g0, f0, g1, f1, g2, f2, g3, f3, g4, f4, g5, f5, g6, f6, g7, f7⟩ := blk8_base kb; have s0 := ((HF2.out.heap (w' := W5.drew) rfl).ext hx).c0; have s1 := at_end ((HF2.out.heap (w' := W5.drew) rfl).ext hx); obtain ⟨y3, z3, y4, z4, y5, z5, y6, z6, y7, z7, q0, q1, q2, q3, q4, q5, q6, q7⟩ := blk8_facts kb (.int .i64 (cj : Int)) (.slice a1 n cap1) (.slice a2 m cap2) (.int .i64 sem) (.bool inf) (.slice a3 W.length cap3) (.int .i64 lev) (.float .f64 x); clear kb))
                  all_goals
                    go_wp2_with fail
                    (try simp only [Exit.inBlock, Exit.then])
                    refine bodyPost_ret (by simp [results, Try.results21, go_sem, q0, q1, q2, q3, q4, q5, q6, q7]; try rfl) rfl ?_
                    rw [HDS.out, HV.out]
                    exact crt_done (val := .agg #[.int .i64 (cj : Int), .slice a1 n cap1, .slice a2 m cap2, .int .i64 sem, .bool inf, .slice a3 W.length cap3, .int .i64 lev, .float .f64 x]) (c := ⟨cj, l.map Int.ofNat, ls.map (fun w => w.map intStep), ⟨sem, inf, W, lev, x⟩⟩) hlt (HF1.out.drew.ext hx) ((HF2.out.heap (w' := W5.drew) rfl).ext hx) rfl rfl (by unfold crtV; simp only [List.length_map, hln, HL.out.1]) hln HL.out.1 (own_low HF3.out.1.drew hx (fun _ _ h => h)) (own_low HF3.out.2.1.drew hx (fun _ _ h => h)) (HF3.out.2.2.1.chg ((Chg.refl (S := fun _ => False) _).drew.trans hx) (fun g _ _ hb => ⟨fun h => h, hb⟩)) (own_low HF3.out.2.2.2.drew hx (fun _ _ h => h)) _ _ _ _ _ _ _ _
                | false =>
                  have HDS : Hid (D = none) := Lib.hid (by rw [HDM.out]; simp)
                  go_region_held3 (fun v' => v'.cell? ⟨rb, 0, none⟩ = some (.slice a len cap) ∧ v'.cell? ⟨rb, 1, none⟩ = some (.int .i64 (len : Int)) ∧ v'.cell? ⟨w.heap.size, 0, none⟩ = some (.int .i64 (cj : Int)) ∧ v'.cell? ⟨w.heap.size, 1, none⟩ = some (.slice a1 n cap1) ∧ v'.cell? ⟨w.heap.size, 2, none⟩ = some (.slice a2 m cap2) ∧ v'.cell? ⟨w.heap.size, 3, none⟩ = some (.int .i64 sem) ∧ v'.cell? ⟨w.heap.size, 4, none⟩ = some (.bool inf) ∧ v'.cell? ⟨w.heap.size, 5, none⟩ = some (.slice a3 W.length cap3) ∧ v'.cell? ⟨w.heap.size, 6, none⟩ = some (.int .i64 lev) ∧ v'.cell? ⟨w.heap.size, 7, none⟩ = some (.float .f64 x)) (first | exact ⟨r0, r1', j0, j1, j2, j3, j4, j5, j6, j7⟩ | exact ⟨s0, s1, g0, g1, g2, g3, g4, g5, g6, g7⟩) (first | (go_at_call 22; refine HM.out.mono ?_; rintro e w' ⟨rfl, hx⟩; have kb := (HF1.out.drew.ext hx).2; obtain ⟨g0, f0, g1, f1, g2, f2, g3, f3, g4, f4, g5, f5, g6, f6, g7, f7⟩ := blk8_base kb; have s0 := ((HF2.out.heap (w' := W5.drew) rfl).ext hx).c0; have s1 := at_end ((HF2.out.heap (w' := W5.drew) rfl).ext hx); clear kb))
                  all_goals
                    go_wp2_with fail
                    refine (bad_any s1).mono ?_
                    rintro e w4 ⟨hx4, hg⟩
                    have hfin : Got w rb a len cap bs D V e w4 := Got.bad D HDS.out ((HF1.out.drew.ext hx).low) hx4 hg
                    obtain ⟨p, ch, b, rfl, _⟩ := hg
                    exact ⟨rfl, hfin⟩
end Go.Proofs.Ytnamcghcgcknpaa
