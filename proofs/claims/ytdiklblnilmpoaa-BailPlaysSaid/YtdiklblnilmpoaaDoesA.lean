/-
  The contract of 'does': its state, its frame, its function literals.
-/
import Derived.Test.YtdiklblnilmpoaaPlayD
import Derived.Deep.RegionLaw
namespace Go.Proofs.Ytdiklblnilmpoaa
open Go.RowKit Pl
set_option linter.unusedVariables false

/-- The state of 'does': the world's block bw, the meter's block bm. -/
abbrev WD (bw bm : Nat) : World → Nat → Prop := NtsD bw (fun k => k = bm)
structure WSt (W : World) (B bw bm : Nat) (w : World) (s : St) : Prop where
  ext : Ext W w
  nts : Nts B bw 49 (.pointer (some ⟨bm, 0, none⟩)) w s.notes
  bx : Box w bm (.int .i64 s.left)
  leB : B ≤ w.heap.size
  leb : W.heap.size ≤ bw
  lem : W.heap.size ≤ bm
  ltm : bm < B
  ne : bm ≠ bw
  l0 : 0 ≤ s.left
  l1 : s.left ≤ 9223372036854775807
theorem WSt.there {W w : World} {B bw bm : Nat} {s : St} (h : WSt W B bw bm w s) : There (WD bw bm) w := h.nts.there (fun k hk => by rw [hk]; exact h.bx.lt)
theorem WSt.toExt {W w w' : World} {B bw bm : Nat} {s : St} (h : WSt W B bw bm w s) (e : Ext w w') : WSt W B bw bm w' s :=
  ⟨h.ext.trans e, h.nts.ext e, h.bx.chg e (fun h => h), Nat.le_trans h.leB e.size, h.leb, h.lem, h.ltm, h.ne, h.l0, h.l1⟩
theorem WSt.toKeep {W w w' : World} {B bw bm : Nat} {s s' : St} (h : WSt W B bw bm w s) (k : Keep (WD bw bm) w w') (n : Nts B bw 49 (.pointer (some ⟨bm, 0, none⟩)) w' s'.notes) (b : Box w' bm (.int .i64 s'.left)) (l0 : 0 ≤ s'.left) (l1 : s'.left ≤ s.left) : WSt W B bw bm w' s' := by
  refine ⟨⟨k.os.trans h.ext.os, k.tape.trans h.ext.tape, k.output.trans h.ext.output, Nat.le_trans h.ext.size k.size, fun j hj _ => ?_⟩, n, b, Nat.le_trans h.leB k.size, h.leb, h.lem, h.ltm, h.ne, l0, Int.le_trans l1 h.l1⟩
  have hB : bw < B := by obtain ⟨_, _, _, h⟩ := h.nts; exact h
  have h1 := h.leb
  have h2 := h.lem
  exact (k.block j (Nat.lt_of_lt_of_le hj h.ext.size) (h.nts.notD (by omega) (by omega) (by omega))).trans (h.ext.block j hj (fun h => h))
theorem WSt.keepExt {W w w' : World} {B bw bm : Nat} {s : St} (h : WSt W B bw bm w s) (e : Ext w w') : Keep (WD bw bm) w w' := Keep.of_ext (ntsD_loc bw _) h.there e
theorem WSt.aft {W w w2 w' : World} {B bw bm : Nat} {s s0 : St} (h0 : WSt W B bw bm w s0) (h : WSt W B bw bm w2 s) (hk : Keep (WD bw bm) w w2) (k : Aft (WD bw bm) w w2 w') : WSt W B bw bm w' s := by
  have hB : bw < B := by obtain ⟨_, _, _, h⟩ := h.nts; exact h
  have h1 := h.leb
  have h2 := h.lem
  refine ⟨?_, h.nts.of (S := fun k => k = bm) fun i hi => k.2.block i (h.there i hi) fun hn => hn.2 hi, h.bx.chg k.2 (fun hn => hn.2 (.inr (.inl rfl))), Nat.le_trans h.leB k.2.size, h.leb, h.lem, h.ltm, h.ne, h.l0, h.l1⟩
  refine ⟨k.1.os.trans h0.ext.os, k.1.tape.trans h0.ext.tape, k.1.output.trans h0.ext.output, Nat.le_trans h0.ext.size k.1.size, fun j hj _ => ?_⟩
  exact (k.1.block j (Nat.lt_of_lt_of_le hj h0.ext.size) (h0.nts.notD (by omega) (by have := h0.lem; omega) (by have := h0.leb; obtain ⟨_, _, _, h⟩ := h0.nts; omega))).trans (h0.ext.block j hj (fun h => h))
/-- An end, as an end of a call. -/
def toFin : En → Fin
  | .ret => .ret
  | .bail c a => .bail c a
  | .num n => .other 3 (.int .i64 n)
def DoesEnd (W : World) (B bw bm : Nat) (w : World) (r : En × St) (e : Ending) (w' : World) : Prop :=
  Ends (WD bw bm) (toFin r.1) e w' ∧ WSt W B bw bm w' r.2 ∧ Keep (WD bw bm) w w'
def DoesOK (t : Tr) : Prop := ∀ (W : World) (d : Nd) (w : World) (B bw bm : Nat) (s : St), NodeAt W d t → WSt W B bw bm w s → s.notes.length + 3 * cnt t + 3 ≤ 1000 →
  Calls Try.prog 34 #[.pointer (some ⟨bw, 0, none⟩), d.val t] w (DoesEnd W B bw bm w (play t s))
/-- What a frame of 'does' holds: the box of its pointer, the node's box. -/
structure FrD (W : World) (B bw bm n2 n3 : Nat) (nd : Array Value) (w : World) (s : St) : Prop where
  st : WSt W B bw bm w s
  b2 : Blk w n2 #[.pointer (some ⟨bw, 0, none⟩)] 47
  b3 : Blk w n3 nd 45
  ne2 : n2 ≠ bw ∧ n2 ≠ bm
  ne3 : n3 ≠ bw ∧ n3 ≠ bm
theorem FrD.nd2 {W w : World} {B bw bm n2 n3 : Nat} {nd : Array Value} {s : St} (h : FrD W B bw bm n2 n3 nd w s) : ¬ WD bw bm w n2 := h.st.nts.notD_type h.b2 (by decide) h.ne2.1 h.ne2.2
theorem FrD.nd3 {W w : World} {B bw bm n2 n3 : Nat} {nd : Array Value} {s : St} (h : FrD W B bw bm n2 n3 nd w s) : ¬ WD bw bm w n3 := h.st.nts.notD_type h.b3 (by decide) h.ne3.1 h.ne3.2
theorem FrD.toExt {W w w' : World} {B bw bm n2 n3 : Nat} {nd : Array Value} {s : St} (h : FrD W B bw bm n2 n3 nd w s) (e : Ext w w') : FrD W B bw bm n2 n3 nd w' s :=
  ⟨h.st.toExt e, h.b2.chg e (fun h => h), h.b3.chg e (fun h => h), h.ne2, h.ne3⟩
theorem FrD.toKeep {W w w' : World} {B bw bm n2 n3 : Nat} {nd : Array Value} {s s' : St} (h : FrD W B bw bm n2 n3 nd w s) (k : Keep (WD bw bm) w w') (st : WSt W B bw bm w' s') : FrD W B bw bm n2 n3 nd w' s' :=
  ⟨st, h.b2.keep k h.nd2, h.b3.keep k h.nd3, h.ne2, h.ne3⟩
theorem FrD.start {W w : World} {B bw bm : Nat} {nd : Array Value} {s : St} (h : WSt W B bw bm w s) :
    FrD W B bw bm w.heap.size (w.heap.size + 1) nd ((w.alloc (.cells #[.pointer (some ⟨bw, 0, none⟩)] 47)).alloc (.cells nd 45)) s := by
  have hbw : bw < w.heap.size := h.there bw (.inl rfl)
  have hbm := h.bx.lt
  refine ⟨h.toExt (((Chg.refl w).alloc _).alloc _), (Blk.new _ _ _).chg (S := fun _ => False) ((Chg.refl _).alloc _) (fun h => h), ?_, by omega, by omega⟩
  have := Blk.new (w.alloc (.cells #[.pointer (some ⟨bw, 0, none⟩)] 47)) nd 45
  rwa [World.size_alloc] at this
/-- A note made, in a frame of 'does'. -/
theorem FrD.noted {W w2 w' : World} {B bw bm n2 n3 : Nat} {nd : Array Value} {s : St} {l : List Int} (h : FrD W B bw bm n2 n3 nd w2 s) (k : Hid (Nts B bw 49 (.pointer (some ⟨bm, 0, none⟩)) w' (s.notes ++ l) ∧ Keep (WD bw bm) w2 w')) (hb : w'.heap[bm]? = w2.heap[bm]?) : FrD W B bw bm n2 n3 nd w' (s.add l) :=
  h.toKeep k.out.2 (h.st.toKeep (s' := s.add l) k.out.2 k.out.1 (h.st.bx.of hb) h.st.l0 (Int.le_refl _))
theorem doesLit1_runs {D : World → Nat → Prop} (b3 : Nat) (k c n : Int) (kv : Value) (w : World) (h : Blk w b3 #[.int .i64 k, .int .i64 c, .int .i64 n, kv] 45) :
    Calls Try.prog 44 #[.pointer (some ⟨b3, 0, none⟩)] w fun e w' => e = .panicked [{ v := .iface 3 (.int .i64 n), recovered := false }] ∧ w = w' := by
  have c2 := h.cell 2 _ rfl
  go_enter Try.func44, Try.ntmps44
  go_wp2
  exact ⟨rfl, rfl, rfl⟩
theorem kid0_any {W : World} {d : Nd} {k c n : Int} {kids : List Tr} (h : NodeAt W d (.node k c n kids)) (w : World) (hw : Ext W w) :
    Calls Try.prog 43 #[d.val (.node k c n kids), .int .i64 0] w fun e w' => ∃ d', e = .returned (d'.val (Pl.kid kids 0)) ∧ NodeAt W d' (Pl.kid kids 0) ∧ Ext w w' := kid_any h 0 w hw
theorem kid1_any {W : World} {d : Nd} {k c n : Int} {kids : List Tr} (h : NodeAt W d (.node k c n kids)) (w : World) (hw : Ext W w) :
    Calls Try.prog 43 #[d.val (.node k c n kids), .int .i64 1] w fun e w' => ∃ d', e = .returned (d'.val (Pl.kid kids 1)) ∧ NodeAt W d' (Pl.kid kids 1) ∧ Ext w w' := kid_any h 1 w hw
set_option maxHeartbeats 2000000 in
theorem doesLit2_runs (W w : World) (B bw bm n2 n3 : Nat) (k c n : Int) (a : Option Addr) (cap : Nat) (kids : List Tr) (s : St) (hnode : NodeAt W ⟨k, c, n, a, cap⟩ (.node k c n kids))
    (hf : FrD W B bw bm n2 n3 #[.int .i64 k, .int .i64 c, .int .i64 n, .slice a kids.length cap] w s) (IH : DoesOK (kid kids 0)) (hroom : s.notes.length + 3 * cnt (kid kids 0) + 3 ≤ 1000) :
    Runs (WD bw bm) (.func (.func 45) #[] #[.pointer (some ⟨n2, 0, none⟩), .pointer (some ⟨n3, 0, none⟩)]) w (fun o w' => o = toFin (playKid kids 0 s).1 ∧ WSt W B bw bm w' (playKid kids 0 s).2) := by
  refine Runs.of (fun args w => run_enter Try.func45 rfl rfl args w) ?_
  have p0 := hf.b2.cell 0 _ rfl
  have q0 := hf.b3.cell 0 _ rfl
  have q1 := hf.b3.cell 1 _ rfl
  have q2 := hf.b3.cell 2 _ rfl
  have q3 := hf.b3.cell 3 _ rfl
  have HF := Lib.hid hf
  have HK : ∀ w1, Ext w w1 → Calls Try.prog 43 #[.agg #[.int .i64 k, .int .i64 c, .int .i64 n, .slice a kids.length cap], .int .i64 0] w1 fun e w' => ∃ d', e = .returned (d'.val (Pl.kid kids 0)) ∧ NodeAt W d' (Pl.kid kids 0) ∧ Ext w1 w' := fun w1 e1 => kid0_any hnode w1 (hf.st.ext.trans e1)
  have HK := Lib.hid HK
  have hpk := playKid_eq kids 0 s
  have hI : ∀ d' w1, NodeAt W d' (kid kids 0) → Ext w w1 → Calls Try.prog 34 #[.pointer (some ⟨bw, 0, none⟩), d'.val (kid kids 0)] w1 (DoesEnd W B bw bm w1 (playKid kids 0 s)) := fun d' w1 hn e1 => by rw [hpk]; exact IH W d' w1 B bw bm s hn (hf.st.toExt e1) hroom
  have HI := Lib.hid hI
  clear hf hI IH hpk hroom
  go_enter Try.func45, Try.ntmps45
  refine wp_region_any (by kernel_rfl) ?_
  change wpAny _ _ _ _ _ _ _ (World.drew _)
  refine wpAny_ready (rs := [0, 1]) (by kernel_rfl) (by simp) ?_
  refine AllReady.cons rfl (fun K hK => ?_) ?_
  · go_simp
    refine hK _ _ ?_
    clear hK K
    refine wpAny_ready (rs := [1]) (by kernel_rfl) (by simp) ?_
    refine AllReady.cons rfl (fun K hK => ?_) ?_
    · go_simp
      refine hK _ _ ?_
      clear hK K
      refine wpAny_ready (rs := [2]) (by kernel_rfl) (by simp) ?_
      refine AllReady.cons rfl (fun K hK => ?_) ?_
      · go_simp
        refine (HK.out _ (by repeat (first | exact Chg.refl _ | refine Chg.drew ?_))).mono ?_
        rintro e w3 ⟨d', rfl, hn', e3⟩
        have HN' := Lib.hid hn'
        have E3 := Lib.hid (Chg.trans (Chg.drew (Chg.refl w)) e3)
        have p9 := (HF.out.b2.chg E3.out (fun h => h)).cell 0 _ rfl
        clear hn' e3
        refine hK _ _ ?_
        clear hK K
        refine wpAny_ready (rs := [3]) (by kernel_rfl) (by simp) ?_
        refine AllReady.cons rfl (fun K hK => ?_) ?_
        · go_simp
          refine (HI.out _ _ HN'.out E3.out).mono ?_
          rintro e w4 ⟨he, hs4, hk4⟩
          have hfin : Keep (WD bw bm) w w4 ∧ ∃ o, Ends (WD bw bm) o e w4 ∧ o = toFin (playKid kids 0 s).1 ∧ WSt W B bw bm w4 (playKid kids 0 s).2 := ⟨(HF.out.st.keepExt E3.out).trans hk4, _, he, rfl, hs4⟩
          clear hs4 hk4
          generalize playKid kids 0 s = r at *
          obtain ⟨en, s'⟩ := r
          cases en with
          | ret =>
            simp only [toFin, Ends] at he
            subst he
            refine hK _ _ ?_
            refine wpAny_done (by kernel_rfl) ?_ _
            go_end0
            exact hfin
          | bail c' a' =>
            obtain ⟨ch, b, rfl, rest⟩ := he
            exact ⟨rfl, hfin⟩
          | num x' =>
            obtain ⟨ch, rfl, rest⟩ := he
            exact ⟨rfl, hfin⟩
        exact AllReady.nil
      exact AllReady.nil
    exact AllReady.nil
  refine AllReady.cons rfl (fun K hK => ?_) ?_
  · go_simp
    refine hK _ _ ?_
    clear hK K
    refine wpAny_ready (rs := [0, 2]) (by kernel_rfl) (by simp) ?_
    refine AllReady.cons rfl (fun K hK => ?_) ?_
    · go_simp
      refine hK _ _ ?_
      clear hK K
      refine wpAny_ready (rs := [2]) (by kernel_rfl) (by simp) ?_
      refine AllReady.cons rfl (fun K hK => ?_) ?_
      · go_simp
        refine (HK.out _ (by repeat (first | exact Chg.refl _ | refine Chg.drew ?_))).mono ?_
        rintro e w3 ⟨d', rfl, hn', e3⟩
        have HN' := Lib.hid hn'
        have E3 := Lib.hid (Chg.trans (Chg.drew (Chg.refl w)) e3)
        have p9 := (HF.out.b2.chg E3.out (fun h => h)).cell 0 _ rfl
        clear hn' e3
        refine hK _ _ ?_
        clear hK K
        refine wpAny_ready (rs := [3]) (by kernel_rfl) (by simp) ?_
        refine AllReady.cons rfl (fun K hK => ?_) ?_
        · go_simp
          refine (HI.out _ _ HN'.out E3.out).mono ?_
          rintro e w4 ⟨he, hs4, hk4⟩
          have hfin : Keep (WD bw bm) w w4 ∧ ∃ o, Ends (WD bw bm) o e w4 ∧ o = toFin (playKid kids 0 s).1 ∧ WSt W B bw bm w4 (playKid kids 0 s).2 := ⟨(HF.out.st.keepExt E3.out).trans hk4, _, he, rfl, hs4⟩
          clear hs4 hk4
          generalize playKid kids 0 s = r at *
          obtain ⟨en, s'⟩ := r
          cases en with
          | ret =>
            simp only [toFin, Ends] at he
            subst he
            refine hK _ _ ?_
            refine wpAny_done (by kernel_rfl) ?_ _
            go_end0
            exact hfin
          | bail c' a' =>
            obtain ⟨ch, b, rfl, rest⟩ := he
            exact ⟨rfl, hfin⟩
          | num x' =>
            obtain ⟨ch, rfl, rest⟩ := he
            exact ⟨rfl, hfin⟩
        exact AllReady.nil
      exact AllReady.nil
    refine AllReady.cons rfl (fun K hK => ?_) ?_
    · go_simp
      refine (HK.out _ (by repeat (first | exact Chg.refl _ | refine Chg.drew ?_))).mono ?_
      rintro e w3 ⟨d', rfl, hn', e3⟩
      have HN' := Lib.hid hn'
      have E3 := Lib.hid (Chg.trans (Chg.drew (Chg.refl w)) e3)
      have p9 := (HF.out.b2.chg E3.out (fun h => h)).cell 0 _ rfl
      clear hn' e3
      refine hK _ _ ?_
      clear hK K
      refine wpAny_ready (rs := [0]) (by kernel_rfl) (by simp) ?_
      refine AllReady.cons rfl (fun K hK => ?_) ?_
      · go_simp
        refine hK _ _ ?_
        clear hK K
        refine wpAny_ready (rs := [3]) (by kernel_rfl) (by simp) ?_
        refine AllReady.cons rfl (fun K hK => ?_) ?_
        · go_simp
          refine (HI.out _ _ HN'.out E3.out).mono ?_
          rintro e w4 ⟨he, hs4, hk4⟩
          have hfin : Keep (WD bw bm) w w4 ∧ ∃ o, Ends (WD bw bm) o e w4 ∧ o = toFin (playKid kids 0 s).1 ∧ WSt W B bw bm w4 (playKid kids 0 s).2 := ⟨(HF.out.st.keepExt E3.out).trans hk4, _, he, rfl, hs4⟩
          clear hs4 hk4
          generalize playKid kids 0 s = r at *
          obtain ⟨en, s'⟩ := r
          cases en with
          | ret =>
            simp only [toFin, Ends] at he
            subst he
            refine hK _ _ ?_
            refine wpAny_done (by kernel_rfl) ?_ _
            go_end0
            exact hfin
          | bail c' a' =>
            obtain ⟨ch, b, rfl, rest⟩ := he
            exact ⟨rfl, hfin⟩
          | num x' =>
            obtain ⟨ch, rfl, rest⟩ := he
            exact ⟨rfl, hfin⟩
        exact AllReady.nil
      exact AllReady.nil
    exact AllReady.nil
  exact AllReady.nil
set_option maxHeartbeats 2000000 in
theorem doesLit3_runs (W w : World) (B bw bm n2 n3 : Nat) (k c n : Int) (a : Option Addr) (cap : Nat) (kids : List Tr) (s : St) (hnode : NodeAt W ⟨k, c, n, a, cap⟩ (.node k c n kids))
    (hf : FrD W B bw bm n2 n3 #[.int .i64 k, .int .i64 c, .int .i64 n, .slice a kids.length cap] w s) (IH : DoesOK (kid kids 0)) (hroom : s.notes.length + 3 * cnt (kid kids 0) + 3 ≤ 1000) :
    Runs (WD bw bm) (.func (.func 46) #[] #[.pointer (some ⟨n2, 0, none⟩), .pointer (some ⟨n3, 0, none⟩)]) w (fun o w' => o = toFin (playKid kids 0 s).1 ∧ WSt W B bw bm w' (playKid kids 0 s).2) := by
  refine Runs.of (fun args w => run_enter Try.func46 rfl rfl args w) ?_
  have p0 := hf.b2.cell 0 _ rfl
  have q0 := hf.b3.cell 0 _ rfl
  have q1 := hf.b3.cell 1 _ rfl
  have q2 := hf.b3.cell 2 _ rfl
  have q3 := hf.b3.cell 3 _ rfl
  have HF := Lib.hid hf
  have HK : ∀ w1, Ext w w1 → Calls Try.prog 43 #[.agg #[.int .i64 k, .int .i64 c, .int .i64 n, .slice a kids.length cap], .int .i64 0] w1 fun e w' => ∃ d', e = .returned (d'.val (Pl.kid kids 0)) ∧ NodeAt W d' (Pl.kid kids 0) ∧ Ext w1 w' := fun w1 e1 => kid0_any hnode w1 (hf.st.ext.trans e1)
  have HK := Lib.hid HK
  have hpk := playKid_eq kids 0 s
  have hI : ∀ d' w1, NodeAt W d' (kid kids 0) → Ext w w1 → Calls Try.prog 34 #[.pointer (some ⟨bw, 0, none⟩), d'.val (kid kids 0)] w1 (DoesEnd W B bw bm w1 (playKid kids 0 s)) := fun d' w1 hn e1 => by rw [hpk]; exact IH W d' w1 B bw bm s hn (hf.st.toExt e1) hroom
  have HI := Lib.hid hI
  clear hf hI IH hpk hroom
  go_enter Try.func46, Try.ntmps46
  refine wp_region_any (by kernel_rfl) ?_
  change wpAny _ _ _ _ _ _ _ (World.drew _)
  refine wpAny_ready (rs := [0, 1]) (by kernel_rfl) (by simp) ?_
  refine AllReady.cons rfl (fun K hK => ?_) ?_
  · go_simp
    refine hK _ _ ?_
    clear hK K
    refine wpAny_ready (rs := [1]) (by kernel_rfl) (by simp) ?_
    refine AllReady.cons rfl (fun K hK => ?_) ?_
    · go_simp
      refine hK _ _ ?_
      clear hK K
      refine wpAny_ready (rs := [2]) (by kernel_rfl) (by simp) ?_
      refine AllReady.cons rfl (fun K hK => ?_) ?_
      · go_simp
        refine (HK.out _ (by repeat (first | exact Chg.refl _ | refine Chg.drew ?_))).mono ?_
        rintro e w3 ⟨d', rfl, hn', e3⟩
        have HN' := Lib.hid hn'
        have E3 := Lib.hid (Chg.trans (Chg.drew (Chg.refl w)) e3)
        have p9 := (HF.out.b2.chg E3.out (fun h => h)).cell 0 _ rfl
        clear hn' e3
        refine hK _ _ ?_
        clear hK K
        refine wpAny_ready (rs := [3]) (by kernel_rfl) (by simp) ?_
        refine AllReady.cons rfl (fun K hK => ?_) ?_
        · go_simp
          refine (HI.out _ _ HN'.out E3.out).mono ?_
          rintro e w4 ⟨he, hs4, hk4⟩
          have hfin : Keep (WD bw bm) w w4 ∧ ∃ o, Ends (WD bw bm) o e w4 ∧ o = toFin (playKid kids 0 s).1 ∧ WSt W B bw bm w4 (playKid kids 0 s).2 := ⟨(HF.out.st.keepExt E3.out).trans hk4, _, he, rfl, hs4⟩
          clear hs4 hk4
          generalize playKid kids 0 s = r at *
          obtain ⟨en, s'⟩ := r
          cases en with
          | ret =>
            simp only [toFin, Ends] at he
            subst he
            refine hK _ _ ?_
            refine wpAny_done (by kernel_rfl) ?_ _
            go_end0
            exact hfin
          | bail c' a' =>
            obtain ⟨ch, b, rfl, rest⟩ := he
            exact ⟨rfl, hfin⟩
          | num x' =>
            obtain ⟨ch, rfl, rest⟩ := he
            exact ⟨rfl, hfin⟩
        exact AllReady.nil
      exact AllReady.nil
    exact AllReady.nil
  refine AllReady.cons rfl (fun K hK => ?_) ?_
  · go_simp
    refine hK _ _ ?_
    clear hK K
    refine wpAny_ready (rs := [0, 2]) (by kernel_rfl) (by simp) ?_
    refine AllReady.cons rfl (fun K hK => ?_) ?_
    · go_simp
      refine hK _ _ ?_
      clear hK K
      refine wpAny_ready (rs := [2]) (by kernel_rfl) (by simp) ?_
      refine AllReady.cons rfl (fun K hK => ?_) ?_
      · go_simp
        refine (HK.out _ (by repeat (first | exact Chg.refl _ | refine Chg.drew ?_))).mono ?_
        rintro e w3 ⟨d', rfl, hn', e3⟩
        have HN' := Lib.hid hn'
        have E3 := Lib.hid (Chg.trans (Chg.drew (Chg.refl w)) e3)
        have p9 := (HF.out.b2.chg E3.out (fun h => h)).cell 0 _ rfl
        clear hn' e3
        refine hK _ _ ?_
        clear hK K
        refine wpAny_ready (rs := [3]) (by kernel_rfl) (by simp) ?_
        refine AllReady.cons rfl (fun K hK => ?_) ?_
        · go_simp
          refine (HI.out _ _ HN'.out E3.out).mono ?_
          rintro e w4 ⟨he, hs4, hk4⟩
          have hfin : Keep (WD bw bm) w w4 ∧ ∃ o, Ends (WD bw bm) o e w4 ∧ o = toFin (playKid kids 0 s).1 ∧ WSt W B bw bm w4 (playKid kids 0 s).2 := ⟨(HF.out.st.keepExt E3.out).trans hk4, _, he, rfl, hs4⟩
          clear hs4 hk4
          generalize playKid kids 0 s = r at *
          obtain ⟨en, s'⟩ := r
          cases en with
          | ret =>
            simp only [toFin, Ends] at he
            subst he
            refine hK _ _ ?_
            refine wpAny_done (by kernel_rfl) ?_ _
            go_end0
            exact hfin
          | bail c' a' =>
            obtain ⟨ch, b, rfl, rest⟩ := he
            exact ⟨rfl, hfin⟩
          | num x' =>
            obtain ⟨ch, rfl, rest⟩ := he
            exact ⟨rfl, hfin⟩
        exact AllReady.nil
      exact AllReady.nil
    refine AllReady.cons rfl (fun K hK => ?_) ?_
    · go_simp
      refine (HK.out _ (by repeat (first | exact Chg.refl _ | refine Chg.drew ?_))).mono ?_
      rintro e w3 ⟨d', rfl, hn', e3⟩
      have HN' := Lib.hid hn'
      have E3 := Lib.hid (Chg.trans (Chg.drew (Chg.refl w)) e3)
      have p9 := (HF.out.b2.chg E3.out (fun h => h)).cell 0 _ rfl
      clear hn' e3
      refine hK _ _ ?_
      clear hK K
      refine wpAny_ready (rs := [0]) (by kernel_rfl) (by simp) ?_
      refine AllReady.cons rfl (fun K hK => ?_) ?_
      · go_simp
        refine hK _ _ ?_
        clear hK K
        refine wpAny_ready (rs := [3]) (by kernel_rfl) (by simp) ?_
        refine AllReady.cons rfl (fun K hK => ?_) ?_
        · go_simp
          refine (HI.out _ _ HN'.out E3.out).mono ?_
          rintro e w4 ⟨he, hs4, hk4⟩
          have hfin : Keep (WD bw bm) w w4 ∧ ∃ o, Ends (WD bw bm) o e w4 ∧ o = toFin (playKid kids 0 s).1 ∧ WSt W B bw bm w4 (playKid kids 0 s).2 := ⟨(HF.out.st.keepExt E3.out).trans hk4, _, he, rfl, hs4⟩
          clear hs4 hk4
          generalize playKid kids 0 s = r at *
          obtain ⟨en, s'⟩ := r
          cases en with
          | ret =>
            simp only [toFin, Ends] at he
            subst he
            refine hK _ _ ?_
            refine wpAny_done (by kernel_rfl) ?_ _
            go_end0
            exact hfin
          | bail c' a' =>
            obtain ⟨ch, b, rfl, rest⟩ := he
            exact ⟨rfl, hfin⟩
          | num x' =>
            obtain ⟨ch, rfl, rest⟩ := he
            exact ⟨rfl, hfin⟩
        exact AllReady.nil
      exact AllReady.nil
    exact AllReady.nil
  exact AllReady.nil
set_option maxHeartbeats 2000000 in
theorem doesLit4_runs (W w : World) (B bw bm n2 n3 : Nat) (k c n : Int) (a : Option Addr) (cap : Nat) (kids : List Tr) (s : St) (hnode : NodeAt W ⟨k, c, n, a, cap⟩ (.node k c n kids))
    (hf : FrD W B bw bm n2 n3 #[.int .i64 k, .int .i64 c, .int .i64 n, .slice a kids.length cap] w s) (IH : DoesOK (kid kids 0)) (hroom : s.notes.length + 3 * cnt (kid kids 0) + 3 ≤ 1000) :
    Runs (WD bw bm) (.func (.func 47) #[] #[.pointer (some ⟨n2, 0, none⟩), .pointer (some ⟨n3, 0, none⟩)]) w (fun o w' => o = toFin (playKid kids 0 s).1 ∧ WSt W B bw bm w' (playKid kids 0 s).2) := by
  refine Runs.of (fun args w => run_enter Try.func47 rfl rfl args w) ?_
  have p0 := hf.b2.cell 0 _ rfl
  have q0 := hf.b3.cell 0 _ rfl
  have q1 := hf.b3.cell 1 _ rfl
  have q2 := hf.b3.cell 2 _ rfl
  have q3 := hf.b3.cell 3 _ rfl
  have HF := Lib.hid hf
  have HK : ∀ w1, Ext w w1 → Calls Try.prog 43 #[.agg #[.int .i64 k, .int .i64 c, .int .i64 n, .slice a kids.length cap], .int .i64 0] w1 fun e w' => ∃ d', e = .returned (d'.val (Pl.kid kids 0)) ∧ NodeAt W d' (Pl.kid kids 0) ∧ Ext w1 w' := fun w1 e1 => kid0_any hnode w1 (hf.st.ext.trans e1)
  have HK := Lib.hid HK
  have hpk := playKid_eq kids 0 s
  have hI : ∀ d' w1, NodeAt W d' (kid kids 0) → Ext w w1 → Calls Try.prog 34 #[.pointer (some ⟨bw, 0, none⟩), d'.val (kid kids 0)] w1 (DoesEnd W B bw bm w1 (playKid kids 0 s)) := fun d' w1 hn e1 => by rw [hpk]; exact IH W d' w1 B bw bm s hn (hf.st.toExt e1) hroom
  have HI := Lib.hid hI
  clear hf hI IH hpk hroom
  go_enter Try.func47, Try.ntmps47
  refine wp_region_any (by kernel_rfl) ?_
  change wpAny _ _ _ _ _ _ _ (World.drew _)
  refine wpAny_ready (rs := [0, 1]) (by kernel_rfl) (by simp) ?_
  refine AllReady.cons rfl (fun K hK => ?_) ?_
  · go_simp
    refine hK _ _ ?_
    clear hK K
    refine wpAny_ready (rs := [1]) (by kernel_rfl) (by simp) ?_
    refine AllReady.cons rfl (fun K hK => ?_) ?_
    · go_simp
      refine hK _ _ ?_
      clear hK K
      refine wpAny_ready (rs := [2]) (by kernel_rfl) (by simp) ?_
      refine AllReady.cons rfl (fun K hK => ?_) ?_
      · go_simp
        refine (HK.out _ (by repeat (first | exact Chg.refl _ | refine Chg.drew ?_))).mono ?_
        rintro e w3 ⟨d', rfl, hn', e3⟩
        have HN' := Lib.hid hn'
        have E3 := Lib.hid (Chg.trans (Chg.drew (Chg.refl w)) e3)
        have p9 := (HF.out.b2.chg E3.out (fun h => h)).cell 0 _ rfl
        clear hn' e3
        refine hK _ _ ?_
        clear hK K
        refine wpAny_ready (rs := [3]) (by kernel_rfl) (by simp) ?_
        refine AllReady.cons rfl (fun K hK => ?_) ?_
        · go_simp
          refine (HI.out _ _ HN'.out E3.out).mono ?_
          rintro e w4 ⟨he, hs4, hk4⟩
          have hfin : Keep (WD bw bm) w w4 ∧ ∃ o, Ends (WD bw bm) o e w4 ∧ o = toFin (playKid kids 0 s).1 ∧ WSt W B bw bm w4 (playKid kids 0 s).2 := ⟨(HF.out.st.keepExt E3.out).trans hk4, _, he, rfl, hs4⟩
          clear hs4 hk4
          generalize playKid kids 0 s = r at *
          obtain ⟨en, s'⟩ := r
          cases en with
          | ret =>
            simp only [toFin, Ends] at he
            subst he
            refine hK _ _ ?_
            refine wpAny_done (by kernel_rfl) ?_ _
            go_end0
            exact hfin
          | bail c' a' =>
            obtain ⟨ch, b, rfl, rest⟩ := he
            exact ⟨rfl, hfin⟩
          | num x' =>
            obtain ⟨ch, rfl, rest⟩ := he
            exact ⟨rfl, hfin⟩
        exact AllReady.nil
      exact AllReady.nil
    exact AllReady.nil
  refine AllReady.cons rfl (fun K hK => ?_) ?_
  · go_simp
    refine hK _ _ ?_
    clear hK K
    refine wpAny_ready (rs := [0, 2]) (by kernel_rfl) (by simp) ?_
    refine AllReady.cons rfl (fun K hK => ?_) ?_
    · go_simp
      refine hK _ _ ?_
      clear hK K
      refine wpAny_ready (rs := [2]) (by kernel_rfl) (by simp) ?_
      refine AllReady.cons rfl (fun K hK => ?_) ?_
      · go_simp
        refine (HK.out _ (by repeat (first | exact Chg.refl _ | refine Chg.drew ?_))).mono ?_
        rintro e w3 ⟨d', rfl, hn', e3⟩
        have HN' := Lib.hid hn'
        have E3 := Lib.hid (Chg.trans (Chg.drew (Chg.refl w)) e3)
        have p9 := (HF.out.b2.chg E3.out (fun h => h)).cell 0 _ rfl
        clear hn' e3
        refine hK _ _ ?_
        clear hK K
        refine wpAny_ready (rs := [3]) (by kernel_rfl) (by simp) ?_
        refine AllReady.cons rfl (fun K hK => ?_) ?_
        · go_simp
          refine (HI.out _ _ HN'.out E3.out).mono ?_
          rintro e w4 ⟨he, hs4, hk4⟩
          have hfin : Keep (WD bw bm) w w4 ∧ ∃ o, Ends (WD bw bm) o e w4 ∧ o = toFin (playKid kids 0 s).1 ∧ WSt W B bw bm w4 (playKid kids 0 s).2 := ⟨(HF.out.st.keepExt E3.out).trans hk4, _, he, rfl, hs4⟩
          clear hs4 hk4
          generalize playKid kids 0 s = r at *
          obtain ⟨en, s'⟩ := r
          cases en with
          | ret =>
            simp only [toFin, Ends] at he
            subst he
            refine hK _ _ ?_
            refine wpAny_done (by kernel_rfl) ?_ _
            go_end0
            exact hfin
          | bail c' a' =>
            obtain ⟨ch, b, rfl, rest⟩ := he
            exact ⟨rfl, hfin⟩
          | num x' =>
            obtain ⟨ch, rfl, rest⟩ := he
            exact ⟨rfl, hfin⟩
        exact AllReady.nil
      exact AllReady.nil
    refine AllReady.cons rfl (fun K hK => ?_) ?_
    · go_simp
      refine (HK.out _ (by repeat (first | exact Chg.refl _ | refine Chg.drew ?_))).mono ?_
      rintro e w3 ⟨d', rfl, hn', e3⟩
      have HN' := Lib.hid hn'
      have E3 := Lib.hid (Chg.trans (Chg.drew (Chg.refl w)) e3)
      have p9 := (HF.out.b2.chg E3.out (fun h => h)).cell 0 _ rfl
      clear hn' e3
      refine hK _ _ ?_
      clear hK K
      refine wpAny_ready (rs := [0]) (by kernel_rfl) (by simp) ?_
      refine AllReady.cons rfl (fun K hK => ?_) ?_
      · go_simp
        refine hK _ _ ?_
        clear hK K
        refine wpAny_ready (rs := [3]) (by kernel_rfl) (by simp) ?_
        refine AllReady.cons rfl (fun K hK => ?_) ?_
        · go_simp
          refine (HI.out _ _ HN'.out E3.out).mono ?_
          rintro e w4 ⟨he, hs4, hk4⟩
          have hfin : Keep (WD bw bm) w w4 ∧ ∃ o, Ends (WD bw bm) o e w4 ∧ o = toFin (playKid kids 0 s).1 ∧ WSt W B bw bm w4 (playKid kids 0 s).2 := ⟨(HF.out.st.keepExt E3.out).trans hk4, _, he, rfl, hs4⟩
          clear hs4 hk4
          generalize playKid kids 0 s = r at *
          obtain ⟨en, s'⟩ := r
          cases en with
          | ret =>
            simp only [toFin, Ends] at he
            subst he
            refine hK _ _ ?_
            refine wpAny_done (by kernel_rfl) ?_ _
            go_end0
            exact hfin
          | bail c' a' =>
            obtain ⟨ch, b, rfl, rest⟩ := he
            exact ⟨rfl, hfin⟩
          | num x' =>
            obtain ⟨ch, rfl, rest⟩ := he
            exact ⟨rfl, hfin⟩
        exact AllReady.nil
      exact AllReady.nil
    exact AllReady.nil
  exact AllReady.nil
set_option maxHeartbeats 2000000 in
theorem doesLit5_runs (W w : World) (B bw bm n2 n3 : Nat) (k c n : Int) (a : Option Addr) (cap : Nat) (kids : List Tr) (s : St) (hnode : NodeAt W ⟨k, c, n, a, cap⟩ (.node k c n kids))
    (hf : FrD W B bw bm n2 n3 #[.int .i64 k, .int .i64 c, .int .i64 n, .slice a kids.length cap] w s) (IH : DoesOK (kid kids 1)) (hroom : s.notes.length + 3 * cnt (kid kids 1) + 3 ≤ 1000) :
    Runs (WD bw bm) (.func (.func 48) #[] #[.pointer (some ⟨n2, 0, none⟩), .pointer (some ⟨n3, 0, none⟩)]) w (fun o w' => o = toFin (playKid kids 1 s).1 ∧ WSt W B bw bm w' (playKid kids 1 s).2) := by
  refine Runs.of (fun args w => run_enter Try.func48 rfl rfl args w) ?_
  have p0 := hf.b2.cell 0 _ rfl
  have q0 := hf.b3.cell 0 _ rfl
  have q1 := hf.b3.cell 1 _ rfl
  have q2 := hf.b3.cell 2 _ rfl
  have q3 := hf.b3.cell 3 _ rfl
  have HF := Lib.hid hf
  have HK : ∀ w1, Ext w w1 → Calls Try.prog 43 #[.agg #[.int .i64 k, .int .i64 c, .int .i64 n, .slice a kids.length cap], .int .i64 1] w1 fun e w' => ∃ d', e = .returned (d'.val (Pl.kid kids 1)) ∧ NodeAt W d' (Pl.kid kids 1) ∧ Ext w1 w' := fun w1 e1 => kid1_any hnode w1 (hf.st.ext.trans e1)
  have HK := Lib.hid HK
  have hpk := playKid_eq kids 1 s
  have hI : ∀ d' w1, NodeAt W d' (kid kids 1) → Ext w w1 → Calls Try.prog 34 #[.pointer (some ⟨bw, 0, none⟩), d'.val (kid kids 1)] w1 (DoesEnd W B bw bm w1 (playKid kids 1 s)) := fun d' w1 hn e1 => by rw [hpk]; exact IH W d' w1 B bw bm s hn (hf.st.toExt e1) hroom
  have HI := Lib.hid hI
  clear hf hI IH hpk hroom
  go_enter Try.func48, Try.ntmps48
  refine wp_region_any (by kernel_rfl) ?_
  change wpAny _ _ _ _ _ _ _ (World.drew _)
  refine wpAny_ready (rs := [0, 1]) (by kernel_rfl) (by simp) ?_
  refine AllReady.cons rfl (fun K hK => ?_) ?_
  · go_simp
    refine hK _ _ ?_
    clear hK K
    refine wpAny_ready (rs := [1]) (by kernel_rfl) (by simp) ?_
    refine AllReady.cons rfl (fun K hK => ?_) ?_
    · go_simp
      refine hK _ _ ?_
      clear hK K
      refine wpAny_ready (rs := [2]) (by kernel_rfl) (by simp) ?_
      refine AllReady.cons rfl (fun K hK => ?_) ?_
      · go_simp
        refine (HK.out _ (by repeat (first | exact Chg.refl _ | refine Chg.drew ?_))).mono ?_
        rintro e w3 ⟨d', rfl, hn', e3⟩
        have HN' := Lib.hid hn'
        have E3 := Lib.hid (Chg.trans (Chg.drew (Chg.refl w)) e3)
        have p9 := (HF.out.b2.chg E3.out (fun h => h)).cell 0 _ rfl
        clear hn' e3
        refine hK _ _ ?_
        clear hK K
        refine wpAny_ready (rs := [3]) (by kernel_rfl) (by simp) ?_
        refine AllReady.cons rfl (fun K hK => ?_) ?_
        · go_simp
          refine (HI.out _ _ HN'.out E3.out).mono ?_
          rintro e w4 ⟨he, hs4, hk4⟩
          have hfin : Keep (WD bw bm) w w4 ∧ ∃ o, Ends (WD bw bm) o e w4 ∧ o = toFin (playKid kids 1 s).1 ∧ WSt W B bw bm w4 (playKid kids 1 s).2 := ⟨(HF.out.st.keepExt E3.out).trans hk4, _, he, rfl, hs4⟩
          clear hs4 hk4
          generalize playKid kids 1 s = r at *
          obtain ⟨en, s'⟩ := r
          cases en with
          | ret =>
            simp only [toFin, Ends] at he
            subst he
            refine hK _ _ ?_
            refine wpAny_done (by kernel_rfl) ?_ _
            go_end0
            exact hfin
          | bail c' a' =>
            obtain ⟨ch, b, rfl, rest⟩ := he
            exact ⟨rfl, hfin⟩
          | num x' =>
            obtain ⟨ch, rfl, rest⟩ := he
            exact ⟨rfl, hfin⟩
        exact AllReady.nil
      exact AllReady.nil
    exact AllReady.nil
  refine AllReady.cons rfl (fun K hK => ?_) ?_
  · go_simp
    refine hK _ _ ?_
    clear hK K
    refine wpAny_ready (rs := [0, 2]) (by kernel_rfl) (by simp) ?_
    refine AllReady.cons rfl (fun K hK => ?_) ?_
    · go_simp
      refine hK _ _ ?_
      clear hK K
      refine wpAny_ready (rs := [2]) (by kernel_rfl) (by simp) ?_
      refine AllReady.cons rfl (fun K hK => ?_) ?_
      · go_simp
        refine (HK.out _ (by repeat (first | exact Chg.refl _ | refine Chg.drew ?_))).mono ?_
        rintro e w3 ⟨d', rfl, hn', e3⟩
        have HN' := Lib.hid hn'
        have E3 := Lib.hid (Chg.trans (Chg.drew (Chg.refl w)) e3)
        have p9 := (HF.out.b2.chg E3.out (fun h => h)).cell 0 _ rfl
        clear hn' e3
        refine hK _ _ ?_
        clear hK K
        refine wpAny_ready (rs := [3]) (by kernel_rfl) (by simp) ?_
        refine AllReady.cons rfl (fun K hK => ?_) ?_
        · go_simp
          refine (HI.out _ _ HN'.out E3.out).mono ?_
          rintro e w4 ⟨he, hs4, hk4⟩
          have hfin : Keep (WD bw bm) w w4 ∧ ∃ o, Ends (WD bw bm) o e w4 ∧ o = toFin (playKid kids 1 s).1 ∧ WSt W B bw bm w4 (playKid kids 1 s).2 := ⟨(HF.out.st.keepExt E3.out).trans hk4, _, he, rfl, hs4⟩
          clear hs4 hk4
          generalize playKid kids 1 s = r at *
          obtain ⟨en, s'⟩ := r
          cases en with
          | ret =>
            simp only [toFin, Ends] at he
            subst he
            refine hK _ _ ?_
            refine wpAny_done (by kernel_rfl) ?_ _
            go_end0
            exact hfin
          | bail c' a' =>
            obtain ⟨ch, b, rfl, rest⟩ := he
            exact ⟨rfl, hfin⟩
          | num x' =>
            obtain ⟨ch, rfl, rest⟩ := he
            exact ⟨rfl, hfin⟩
        exact AllReady.nil
      exact AllReady.nil
    refine AllReady.cons rfl (fun K hK => ?_) ?_
    · go_simp
      refine (HK.out _ (by repeat (first | exact Chg.refl _ | refine Chg.drew ?_))).mono ?_
      rintro e w3 ⟨d', rfl, hn', e3⟩
      have HN' := Lib.hid hn'
      have E3 := Lib.hid (Chg.trans (Chg.drew (Chg.refl w)) e3)
      have p9 := (HF.out.b2.chg E3.out (fun h => h)).cell 0 _ rfl
      clear hn' e3
      refine hK _ _ ?_
      clear hK K
      refine wpAny_ready (rs := [0]) (by kernel_rfl) (by simp) ?_
      refine AllReady.cons rfl (fun K hK => ?_) ?_
      · go_simp
        refine hK _ _ ?_
        clear hK K
        refine wpAny_ready (rs := [3]) (by kernel_rfl) (by simp) ?_
        refine AllReady.cons rfl (fun K hK => ?_) ?_
        · go_simp
          refine (HI.out _ _ HN'.out E3.out).mono ?_
          rintro e w4 ⟨he, hs4, hk4⟩
          have hfin : Keep (WD bw bm) w w4 ∧ ∃ o, Ends (WD bw bm) o e w4 ∧ o = toFin (playKid kids 1 s).1 ∧ WSt W B bw bm w4 (playKid kids 1 s).2 := ⟨(HF.out.st.keepExt E3.out).trans hk4, _, he, rfl, hs4⟩
          clear hs4 hk4
          generalize playKid kids 1 s = r at *
          obtain ⟨en, s'⟩ := r
          cases en with
          | ret =>
            simp only [toFin, Ends] at he
            subst he
            refine hK _ _ ?_
            refine wpAny_done (by kernel_rfl) ?_ _
            go_end0
            exact hfin
          | bail c' a' =>
            obtain ⟨ch, b, rfl, rest⟩ := he
            exact ⟨rfl, hfin⟩
          | num x' =>
            obtain ⟨ch, rfl, rest⟩ := he
            exact ⟨rfl, hfin⟩
        exact AllReady.nil
      exact AllReady.nil
    exact AllReady.nil
  exact AllReady.nil
set_option maxHeartbeats 2000000 in
theorem doesLit6_runs (W w : World) (B bw bm n2 n3 : Nat) (k c n : Int) (a : Option Addr) (cap : Nat) (kids : List Tr) (s : St) (hnode : NodeAt W ⟨k, c, n, a, cap⟩ (.node k c n kids))
    (hf : FrD W B bw bm n2 n3 #[.int .i64 k, .int .i64 c, .int .i64 n, .slice a kids.length cap] w s) (IH : DoesOK (kid kids 0)) (hroom : s.notes.length + 3 * cnt (kid kids 0) + 3 ≤ 1000) :
    Runs (WD bw bm) (.func (.func 49) #[] #[.pointer (some ⟨n2, 0, none⟩), .pointer (some ⟨n3, 0, none⟩)]) w (fun o w' => o = toFin (playKid kids 0 s).1 ∧ WSt W B bw bm w' (playKid kids 0 s).2) := by
  refine Runs.of (fun args w => run_enter Try.func49 rfl rfl args w) ?_
  have p0 := hf.b2.cell 0 _ rfl
  have q0 := hf.b3.cell 0 _ rfl
  have q1 := hf.b3.cell 1 _ rfl
  have q2 := hf.b3.cell 2 _ rfl
  have q3 := hf.b3.cell 3 _ rfl
  have HF := Lib.hid hf
  have HK : ∀ w1, Ext w w1 → Calls Try.prog 43 #[.agg #[.int .i64 k, .int .i64 c, .int .i64 n, .slice a kids.length cap], .int .i64 0] w1 fun e w' => ∃ d', e = .returned (d'.val (Pl.kid kids 0)) ∧ NodeAt W d' (Pl.kid kids 0) ∧ Ext w1 w' := fun w1 e1 => kid0_any hnode w1 (hf.st.ext.trans e1)
  have HK := Lib.hid HK
  have hpk := playKid_eq kids 0 s
  have hI : ∀ d' w1, NodeAt W d' (kid kids 0) → Ext w w1 → Calls Try.prog 34 #[.pointer (some ⟨bw, 0, none⟩), d'.val (kid kids 0)] w1 (DoesEnd W B bw bm w1 (playKid kids 0 s)) := fun d' w1 hn e1 => by rw [hpk]; exact IH W d' w1 B bw bm s hn (hf.st.toExt e1) hroom
  have HI := Lib.hid hI
  clear hf hI IH hpk hroom
  go_enter Try.func49, Try.ntmps49
  refine wp_region_any (by kernel_rfl) ?_
  change wpAny _ _ _ _ _ _ _ (World.drew _)
  refine wpAny_ready (rs := [0, 1]) (by kernel_rfl) (by simp) ?_
  refine AllReady.cons rfl (fun K hK => ?_) ?_
  · go_simp
    refine hK _ _ ?_
    clear hK K
    refine wpAny_ready (rs := [1]) (by kernel_rfl) (by simp) ?_
    refine AllReady.cons rfl (fun K hK => ?_) ?_
    · go_simp
      refine hK _ _ ?_
      clear hK K
      refine wpAny_ready (rs := [2]) (by kernel_rfl) (by simp) ?_
      refine AllReady.cons rfl (fun K hK => ?_) ?_
      · go_simp
        refine (HK.out _ (by repeat (first | exact Chg.refl _ | refine Chg.drew ?_))).mono ?_
        rintro e w3 ⟨d', rfl, hn', e3⟩
        have HN' := Lib.hid hn'
        have E3 := Lib.hid (Chg.trans (Chg.drew (Chg.refl w)) e3)
        have p9 := (HF.out.b2.chg E3.out (fun h => h)).cell 0 _ rfl
        clear hn' e3
        refine hK _ _ ?_
        clear hK K
        refine wpAny_ready (rs := [3]) (by kernel_rfl) (by simp) ?_
        refine AllReady.cons rfl (fun K hK => ?_) ?_
        · go_simp
          refine (HI.out _ _ HN'.out E3.out).mono ?_
          rintro e w4 ⟨he, hs4, hk4⟩
          have hfin : Keep (WD bw bm) w w4 ∧ ∃ o, Ends (WD bw bm) o e w4 ∧ o = toFin (playKid kids 0 s).1 ∧ WSt W B bw bm w4 (playKid kids 0 s).2 := ⟨(HF.out.st.keepExt E3.out).trans hk4, _, he, rfl, hs4⟩
          clear hs4 hk4
          generalize playKid kids 0 s = r at *
          obtain ⟨en, s'⟩ := r
          cases en with
          | ret =>
            simp only [toFin, Ends] at he
            subst he
            refine hK _ _ ?_
            refine wpAny_done (by kernel_rfl) ?_ _
            go_end0
            exact hfin
          | bail c' a' =>
            obtain ⟨ch, b, rfl, rest⟩ := he
            exact ⟨rfl, hfin⟩
          | num x' =>
            obtain ⟨ch, rfl, rest⟩ := he
            exact ⟨rfl, hfin⟩
        exact AllReady.nil
      exact AllReady.nil
    exact AllReady.nil
  refine AllReady.cons rfl (fun K hK => ?_) ?_
  · go_simp
    refine hK _ _ ?_
    clear hK K
    refine wpAny_ready (rs := [0, 2]) (by kernel_rfl) (by simp) ?_
    refine AllReady.cons rfl (fun K hK => ?_) ?_
    · go_simp
      refine hK _ _ ?_
      clear hK K
      refine wpAny_ready (rs := [2]) (by kernel_rfl) (by simp) ?_
      refine AllReady.cons rfl (fun K hK => ?_) ?_
      · go_simp
        refine (HK.out _ (by repeat (first | exact Chg.refl _ | refine Chg.drew ?_))).mono ?_
        rintro e w3 ⟨d', rfl, hn', e3⟩
        have HN' := Lib.hid hn'
        have E3 := Lib.hid (Chg.trans (Chg.drew (Chg.refl w)) e3)
        have p9 := (HF.out.b2.chg E3.out (fun h => h)).cell 0 _ rfl
        clear hn' e3
        refine hK _ _ ?_
        clear hK K
        refine wpAny_ready (rs := [3]) (by kernel_rfl) (by simp) ?_
        refine AllReady.cons rfl (fun K hK => ?_) ?_
        · go_simp
          refine (HI.out _ _ HN'.out E3.out).mono ?_
          rintro e w4 ⟨he, hs4, hk4⟩
          have hfin : Keep (WD bw bm) w w4 ∧ ∃ o, Ends (WD bw bm) o e w4 ∧ o = toFin (playKid kids 0 s).1 ∧ WSt W B bw bm w4 (playKid kids 0 s).2 := ⟨(HF.out.st.keepExt E3.out).trans hk4, _, he, rfl, hs4⟩
          clear hs4 hk4
          generalize playKid kids 0 s = r at *
          obtain ⟨en, s'⟩ := r
          cases en with
          | ret =>
            simp only [toFin, Ends] at he
            subst he
            refine hK _ _ ?_
            refine wpAny_done (by kernel_rfl) ?_ _
            go_end0
            exact hfin
          | bail c' a' =>
            obtain ⟨ch, b, rfl, rest⟩ := he
            exact ⟨rfl, hfin⟩
          | num x' =>
            obtain ⟨ch, rfl, rest⟩ := he
            exact ⟨rfl, hfin⟩
        exact AllReady.nil
      exact AllReady.nil
    refine AllReady.cons rfl (fun K hK => ?_) ?_
    · go_simp
      refine (HK.out _ (by repeat (first | exact Chg.refl _ | refine Chg.drew ?_))).mono ?_
      rintro e w3 ⟨d', rfl, hn', e3⟩
      have HN' := Lib.hid hn'
      have E3 := Lib.hid (Chg.trans (Chg.drew (Chg.refl w)) e3)
      have p9 := (HF.out.b2.chg E3.out (fun h => h)).cell 0 _ rfl
      clear hn' e3
      refine hK _ _ ?_
      clear hK K
      refine wpAny_ready (rs := [0]) (by kernel_rfl) (by simp) ?_
      refine AllReady.cons rfl (fun K hK => ?_) ?_
      · go_simp
        refine hK _ _ ?_
        clear hK K
        refine wpAny_ready (rs := [3]) (by kernel_rfl) (by simp) ?_
        refine AllReady.cons rfl (fun K hK => ?_) ?_
        · go_simp
          refine (HI.out _ _ HN'.out E3.out).mono ?_
          rintro e w4 ⟨he, hs4, hk4⟩
          have hfin : Keep (WD bw bm) w w4 ∧ ∃ o, Ends (WD bw bm) o e w4 ∧ o = toFin (playKid kids 0 s).1 ∧ WSt W B bw bm w4 (playKid kids 0 s).2 := ⟨(HF.out.st.keepExt E3.out).trans hk4, _, he, rfl, hs4⟩
          clear hs4 hk4
          generalize playKid kids 0 s = r at *
          obtain ⟨en, s'⟩ := r
          cases en with
          | ret =>
            simp only [toFin, Ends] at he
            subst he
            refine hK _ _ ?_
            refine wpAny_done (by kernel_rfl) ?_ _
            go_end0
            exact hfin
          | bail c' a' =>
            obtain ⟨ch, b, rfl, rest⟩ := he
            exact ⟨rfl, hfin⟩
          | num x' =>
            obtain ⟨ch, rfl, rest⟩ := he
            exact ⟨rfl, hfin⟩
        exact AllReady.nil
      exact AllReady.nil
    exact AllReady.nil
  exact AllReady.nil
end Go.Proofs.Ytdiklblnilmpoaa
