/-
  Unvalue (chapter 24): the walk.
-/
import Derived.Test.YtnamcghcgcknpaaValG
namespace Go.Proofs.Ytnamcghcgcknpaa
open Go.RowKit
set_option linter.unusedVariables false
set_option linter.unusedSimpArgs false

/-- The value that there is none. -/
def nilV : Value := .agg #[.int .i64 0, .bool false, .slice none 0 0, .int .i64 0, .float .f64 0]
/-- What Unvalue comes to. -/
def Unv (w : World) (bs : List Nat) (e : Ending) (w' : World) : Prop :=
  Ext w w' ∧ match dVal bs with
    | none => e = .returned (.tuple #[nilV, .int .i64 0, .int .i64 13])
    | some (v, t) => ∃ val, e = .returned (.tuple #[val, .int .i64 ((bs.length - t.length : Nat) : Int), .int .i64 0]) ∧ ValV w v val w'
/-- The world in which Unvalue's literal is called. -/
def V3 (w : World) (a : Option Addr) (len cap : Nat) : World :=
  ((w.alloc (Obj.cells #[.int .i64 0, .bool false, .slice none 0 0, .int .i64 0, .float .f64 0] 31)).alloc (Obj.cells #[.slice a len cap, .int .i64 0] 60)).alloc (Obj.cells #[.pointer (some ⟨w.heap.size + 1, 0, none⟩)] 58)
theorem v3_ext (w : World) (a : Option Addr) (len cap : Nat) : Ext w (V3 w a len cap) := ((((Chg.refl w).alloc _).alloc _).alloc _)
theorem v3_size (w : World) (a : Option Addr) (len cap : Nat) : (V3 w a len cap).heap.size = w.heap.size + 3 := by
  unfold V3; simp only [World.size_alloc]
theorem v3_blk0 (w : World) (a : Option Addr) (len cap : Nat) : Blk (V3 w a len cap) w.heap.size #[.int .i64 0, .bool false, .slice none 0 0, .int .i64 0, .float .f64 0] 31 :=
  (Blk.new w _ _).chg (S := fun _ => False) (((Chg.refl _).alloc _).alloc _) (fun h => h)
theorem v3_blk1 (w : World) (a : Option Addr) (len cap : Nat) : Blk (V3 w a len cap) (w.heap.size + 1) #[.slice a len cap, .int .i64 0] 60 := by
  have := (Blk.new (w.alloc (Obj.cells #[.int .i64 0, .bool false, .slice none 0 0, .int .i64 0, .float .f64 0] 31)) #[.slice a len cap, .int .i64 0] 60).chg (S := fun _ => False) ((Chg.refl _).alloc (Obj.cells #[.pointer (some ⟨w.heap.size + 1, 0, none⟩)] 58)) (fun h => h)
  rw [World.size_alloc] at this
  exact this
theorem v3_box2 (w : World) (a : Option Addr) (len cap : Nat) : Box (V3 w a len cap) (w.heap.size + 1 + 1) (.pointer (some ⟨w.heap.size + 1, 0, none⟩)) := by
  have := Box.new (w := (w.alloc (Obj.cells #[.int .i64 0, .bool false, .slice none 0 0, .int .i64 0, .float .f64 0] 31)).alloc (Obj.cells #[.slice a len cap, .int .i64 0] 60)) (.pointer (some ⟨w.heap.size + 1, 0, none⟩)) 58
  simp only [World.size_alloc] at this
  exact this
theorem unv_catch {w : World} {a : Option Addr} {cap : Nat} {bs : List Nat} (h : Cells w a bs.length cap (byteCells bs)) (hb : ∀ b ∈ bs, b < 256) (hlen : bs.length < 4611686018427387904) :
    Calls Try.prog 19 #[.func (.func 30) #[] #[.pointer (some ⟨w.heap.size + 1 + 1, 0, none⟩), .pointer (some ⟨w.heap.size, 0, none⟩)]] (V3 w a bs.length cap) (CatchEnd (fun _ k => k = w.heap.size + 1 ∨ k = w.heap.size) (V3 w a bs.length cap) (UnvΦ (w.heap.size + 5) (w.heap.size + 1) w.heap.size a bs.length cap bs)) := by
  have hs3 := v3_size w a bs.length cap
  refine catch_runs (loc_const _) (fun k hk => by rcases hk with rfl | rfl <;> omega) fun w1 he hsz => ?_
  have hrd : Rd w1 (w.heap.size + 1) a bs.length cap bs bs := by
    refine ⟨⟨60, ?_⟩, ⟨[], rfl⟩, rfl, hlen, fun i hi => ?_, hb, h.1, h.2.1⟩
    · have h1 := (v3_blk1 w a bs.length cap).chg he (fun h => h)
      unfold Blk at h1
      simpa using h1
    · obtain ⟨x, rfl, hx⟩ := byte_cell h hi
      have hlt := lt_of_cell hx
      refine ⟨x, rfl, by rw [addr_block] at hlt; omega, ?_⟩
      rw [((v3_ext w (some x) bs.length cap).trans he).cell hlt (fun h => h)]
      exact hx
  have h0 := (v3_blk0 w a bs.length cap).chg he (fun h => h)
  have h2 := (v3_box2 w a bs.length cap).chg he (fun h => h)
  refine unv1_runs (by omega) (by omega) hrd h2 h0 (by omega) ?_
  rintro x rfl hpos
  cases bs with
  | nil => exact absurd hpos (by simp)
  | cons b r =>
    obtain ⟨y, hy, hc⟩ := byte_cell h (m := 0) (by simp)
    cases hy
    have := lt_of_cell hc
    rwa [addr_block] at this
set_option maxRecDepth 100000 in
set_option maxHeartbeats 2000000 in
theorem unvalue_any {w : World} {a : Option Addr} {cap : Nat} {bs : List Nat} (h : Cells w a bs.length cap (byteCells bs)) (hb : ∀ b ∈ bs, b < 256) (hlen : bs.length < 4611686018427387904) :
    Calls Try.prog 13 #[.slice a bs.length cap] w (Unv w bs) := by
  have hC := unv_catch h hb hlen
  have hcap := h.1
  have hs3 := v3_size w a bs.length cap
  have hx3 := v3_ext w a bs.length cap
  have hb0 := v3_blk0 w a bs.length cap
  have hb2 := v3_box2 w a bs.length cap
  obtain ⟨X3, hX3⟩ : ∃ X, V3 w a bs.length cap = X := ⟨_, rfl⟩
  rw [hX3] at hs3 hx3 hb0 hb2 hC
  have HX3 : Hid (((w.alloc (Obj.cells #[.int .i64 0, .bool false, .slice none 0 0, .int .i64 0, .float .f64 0] 31)).alloc (Obj.cells #[.slice a bs.length cap, .int .i64 0] 60)).alloc (Obj.cells #[.pointer (some ⟨w.heap.size + 1, 0, none⟩)] 58) = X3) := Lib.hid hX3
  have HC := Lib.hid hC
  have HS := Lib.hid (And.intro hs3 (And.intro hx3 (And.intro hb0 hb2)))
  have hsf := run_store_f
  clear h hb hlen hC hs3 hx3 hb0 hb2 hX3
  have HDc : Hid (∀ e w', Ext w w' ∧ (match dVal bs with | none => e = .returned (.tuple #[nilV, .int .i64 0, .int .i64 13]) | some (v, t) => ∃ val, e = .returned (.tuple #[val, .int .i64 ((bs.length - t.length : Nat) : Int), .int .i64 0]) ∧ ValV w v val w') → Unv w bs e w') := Lib.hid (fun e w' h => h)
  generalize Unv w bs = DD at HDc ⊢
  obtain ⟨D, hD⟩ : ∃ D, dVal bs = D := ⟨_, rfl⟩
  rw [hD] at HDc
  have HD := Lib.hid hD
  clear hD
  obtain ⟨n, hn⟩ : ∃ n, bs.length = n := ⟨_, rfl⟩
  rw [hn] at hcap HX3 HC HDc ⊢
  clear hn
  go_enter Try.func13, Try.ntmps13
  go_wp2_with fail
  rw [HX3.out]
  refine HC.out.mono ?_
  rintro e w4 ⟨o, w2, hk2, hΦ, ⟨hk, hch⟩, he⟩
  have hE : Chg (fun k => w.heap.size ≤ k) w w4 := (HS.out.2.1.mono (fun _ _ h => h.elim)).trans (hk.chg.mono fun k hk h => h.elim (fun h => by omega) (fun h => by omega))
  have hE0 := Lib.hid hE
  have hs3 := HS.out.1
  have hk3 := hk2.size
  unfold UnvΦ at hΦ
  rw [HD.out] at hΦ
  cases D with
  | none =>
    obtain ⟨⟨p, rfl⟩, d0, d1, d2, d3, d4, hbk⟩ := hΦ
    simp only at he
    subst he
    have kb := hbk.chg hch (by intro h; omega)
    obtain ⟨g0, f0, g1, f1, g2, f2, g3, f3, g4, f4⟩ := blk5_base kb
    obtain ⟨y3, z3, y4, z4, q0, q1, q2, q3, q4⟩ := blk5_facts kb (.int .i64 0) (.bool false) (.slice none 0 0) (.int .i64 0) (.float .f64 0)
    clear kb hbk hch hk hk2 hE HC hs3 hk3
    go_wp2_with fail
    (try simp only [Exit.inBlock, Exit.then])
    refine bodyPost_ret (by simp [results, Try.results13, go_sem, q0, q1, q2, q3, q4]; try rfl) rfl ?_
    have hcc : Chg (fun k => k = w.heap.size) w4 _ := set_chg (j := 4) (c := .float .f64 0) (set_chg (j := 3) (c := .int .i64 0) (set_chg (j := 2) (c := .slice none 0 0) (set_chg (j := 1) (c := .bool false) (set_chg (j := 0) (c := .int .i64 0) (Chg.refl w4)))))
    refine HDc.out _ _ ⟨?_, rfl⟩
    exact (hE0.out.trans (hcc.mono fun k _ h => by have h' : k = w.heap.size := h; omega)).mono fun k hk h => absurd h (by omega)
  | some q =>
    obtain ⟨v, t⟩ := q
    obtain ⟨rfl, hvx, hrd, a1, cap1, hown, hbk⟩ := hΦ
    simp only at he
    subst he
    have kb := hbk.chg hch (by intro h; omega)
    have kr := (hrd.chg hch (fun b hb h => by omega)).c1
    have k2 := (HS.out.2.2.2.keep hk (by intro h; omega)).cell
    obtain ⟨g0, f0, g1, f1, g2, f2, g3, f3, g4, f4⟩ := blk5_base kb
    obtain ⟨y3, z3, y4, z4, q0, q1, q2, q3, q4⟩ := blk5_facts kb (.int .i64 v.sem) (.bool v.inf) (.slice a1 v.w.length cap1) (.int .i64 v.level) (.float .f64 v.x)
    have c5 : Chg (fun k => k = w.heap.size) w4 (((((w4.setCell ⟨w.heap.size, 0, none⟩ (.int .i64 v.sem)).setCell ⟨w.heap.size, 1, none⟩ (.bool v.inf)).setCell ⟨w.heap.size, 2, none⟩ (.slice a1 v.w.length cap1)).setCell ⟨w.heap.size, 3, none⟩ (.int .i64 v.level)).setCell ⟨w.heap.size, 4, none⟩ (.float .f64 v.x)) := set_chg (set_chg (set_chg (set_chg (set_chg (Chg.refl w4)))))
    have m2 := (c5.cell (lt_of_cell k2) (by intro h; have h' : w.heap.size + 1 + 1 = w.heap.size := h; omega)).trans k2
    have mr := (c5.cell (lt_of_cell kr) (by intro h; have h' : w.heap.size + 1 = w.heap.size := h; omega)).trans kr
    have HCR := Lib.hid (And.intro (own_low hown hch (fun g hg h => by omega)) hvx)
    clear hrd hown hbk hch hk hk2 hE HC hs3 hk3 hvx
    go_wp2_with fail
    obtain ⟨W5, hW5⟩ : ∃ W5, (((((w4.setCell ⟨w.heap.size, 0, none⟩ (.int .i64 v.sem)).setCell ⟨w.heap.size, 1, none⟩ (.bool v.inf)).setCell ⟨w.heap.size, 2, none⟩ (.slice a1 v.w.length cap1)).setCell ⟨w.heap.size, 3, none⟩ (.int .i64 v.level)).setCell ⟨w.heap.size, 4, none⟩ (.float .f64 v.x)) = W5 := ⟨_, rfl⟩
    rw [hW5] at q0 q1 q2 q3 q4 m2 mr c5
    have HE5 := Lib.hid hW5
    have HW5 := Lib.hid (And.intro c5 (And.intro q0 (And.intro q1 (And.intro q2 (And.intro q3 (And.intro q4 (And.intro m2 mr)))))))
    clear hW5 q0 q1 q2 q3 q4 m2 mr c5
    refine wp_region_held_drew (S := fun w' => w'.cell? ⟨w.heap.size, 0, none⟩ = some (.int .i64 v.sem) ∧ w'.cell? ⟨w.heap.size, 1, none⟩ = some (.bool v.inf) ∧ w'.cell? ⟨w.heap.size, 2, none⟩ = some (.slice a1 v.w.length cap1) ∧ w'.cell? ⟨w.heap.size, 3, none⟩ = some (.int .i64 v.level) ∧ w'.cell? ⟨w.heap.size, 4, none⟩ = some (.float .f64 v.x) ∧ w'.cell? ⟨w.heap.size + 1 + 1, 0, none⟩ = some (.pointer (some ⟨w.heap.size + 1, 0, none⟩)) ∧ w'.cell? ⟨w.heap.size + 1, 1, none⟩ = some (.int .i64 ((n - t.length : Nat) : Int))) (by kernel_rfl) ⟨g0, g1, g2, g3, g4, k2, kr⟩ (fun hHeld => ?_)
    refine wpAnyH_take (i := 0) (v := .agg #[.int .i64 v.sem, .bool v.inf, .slice a1 v.w.length cap1, .int .i64 v.level, .float .f64 v.x]) rfl (by kernel_rfl) (by kernel_rfl) (by kernel_rfl) (fun _ _ _ h => h) (Or.inl ⟨by rfl, ?_⟩) hHeld ?_
    · intro wS hSw
      obtain ⟨hs0, hs1, hs2, hs3, hs4, hs5, hs6⟩ := hSw
      go_simp
      try (first | (intro h; omega) | rfl | (rw [IntKind.wrap_u32']; omega) | (simp [IntKind.wrap, IntKind.bits, IntKind.signed]; omega))
    simp only [Act.put, List.setIfInBounds_toArray, List.set_cons_zero, List.set_cons_succ]
    refine wpAnyH_take (i := 1) (v := .pointer (some ⟨w.heap.size + 1, 0, none⟩)) rfl (by kernel_rfl) (by kernel_rfl) (by kernel_rfl) (fun _ _ _ h => h) (Or.inl ⟨by rfl, ?_⟩) hHeld ?_
    · intro wS hSw
      obtain ⟨hs0, hs1, hs2, hs3, hs4, hs5, hs6⟩ := hSw
      go_simp
      try (first | (intro h; omega) | rfl | (rw [IntKind.wrap_u32']; omega) | (simp [IntKind.wrap, IntKind.bits, IntKind.signed]; omega))
    simp only [Act.put, List.setIfInBounds_toArray, List.set_cons_zero, List.set_cons_succ]
    refine wpAnyH_take (i := 2) (v := .pointer (some ⟨w.heap.size + 1, 0, none⟩)) rfl (by kernel_rfl) (by kernel_rfl) (by kernel_rfl) (fun _ _ _ h => h) (Or.inl ⟨by rfl, ?_⟩) hHeld ?_
    · intro wS hSw
      obtain ⟨hs0, hs1, hs2, hs3, hs4, hs5, hs6⟩ := hSw
      go_simp
      try (first | (intro h; omega) | rfl | (rw [IntKind.wrap_u32']; omega) | (simp [IntKind.wrap, IntKind.bits, IntKind.signed]; omega))
    simp only [Act.put, List.setIfInBounds_toArray, List.set_cons_zero, List.set_cons_succ]
    refine wpAnyH_take (i := 3) (v := .pointer (some ⟨w.heap.size + 1, 1, none⟩)) rfl (by kernel_rfl) (by kernel_rfl) (by kernel_rfl) (fun _ _ _ h => h) (Or.inl ⟨by rfl, ?_⟩) hHeld ?_
    · intro wS hSw
      obtain ⟨hs0, hs1, hs2, hs3, hs4, hs5, hs6⟩ := hSw
      go_simp
      try (first | (intro h; omega) | rfl | (rw [IntKind.wrap_u32']; omega) | (simp [IntKind.wrap, IntKind.bits, IntKind.signed]; omega))
    simp only [Act.put, List.setIfInBounds_toArray, List.set_cons_zero, List.set_cons_succ]
    refine wpAnyH_take (i := 4) (v := .int .i64 ((n - t.length : Nat) : Int)) rfl (by kernel_rfl) (by kernel_rfl) (by kernel_rfl) (fun _ _ _ h => h) (Or.inl ⟨by rfl, ?_⟩) hHeld ?_
    · intro wS hSw
      obtain ⟨hs0, hs1, hs2, hs3, hs4, hs5, hs6⟩ := hSw
      go_simp
      try (first | (intro h; omega) | rfl | (rw [IntKind.wrap_u32']; omega) | (simp [IntKind.wrap, IntKind.bits, IntKind.signed]; omega))
    simp only [Act.put, List.setIfInBounds_toArray, List.set_cons_zero, List.set_cons_succ]
    refine wpAnyH_ready (rs := [5]) (by kernel_rfl) (by simp) ?_
    refine AllReadyH.cons rfl (fun K hK => ?_) ?_
    · go_simp
      rw [HE5.out]
      refine hK.out _ _ ⟨HW5.out.2.1, HW5.out.2.2.1, HW5.out.2.2.2.1, HW5.out.2.2.2.2.1, HW5.out.2.2.2.2.2.1, HW5.out.2.2.2.2.2.2.1, HW5.out.2.2.2.2.2.2.2⟩ (fun hHeld => ?_)
      clear hK K
      refine wpAnyH_ready (rs := [6]) (by kernel_rfl) (by simp) ?_
      refine AllReadyH.cons rfl (fun K hK => ?_) ?_
      · go_simp
        refine hK.out _ _ (by exact hHeld) (fun hHeld => ?_)
        clear hK K
        refine wpAnyH_ready (rs := [7]) (by kernel_rfl) (by simp) ?_
        refine AllReadyH.cons rfl (fun K hK => ?_) ?_
        · go_simp
          refine hK.out _ _ (by exact hHeld) (fun hHeld => ?_)
          clear hK K
          refine wpAnyH_done (by kernel_rfl) ?_ _
          go_wp2_with fail
          (try simp only [Exit.inBlock, Exit.then])
          have q0 := HW5.out.2.1
          have q1 := HW5.out.2.2.1
          have q2 := HW5.out.2.2.2.1
          have q3 := HW5.out.2.2.2.2.1
          have q4 := HW5.out.2.2.2.2.2.1
          refine bodyPost_ret (by simp [results, Try.results13, go_sem, q0, q1, q2, q3, q4]; try rfl) rfl ?_
          have hcc := HW5.out.1.drew
          refine HDc.out _ _ ⟨?_, _, rfl, a1, cap1, rfl, ownsRow_base (own_low HCR.out.1 hcc (fun g hg h => by have h' : g = w.heap.size := h; omega)) (by omega), HCR.out.2⟩
          exact (hE0.out.trans (hcc.mono fun k _ h => by have h' : k = w.heap.size := h; omega)).mono fun k hk h => absurd h (by omega)
        exact AllReadyH.nil
      exact AllReadyH.nil
    exact AllReadyH.nil
end Go.Proofs.Ytnamcghcgcknpaa
