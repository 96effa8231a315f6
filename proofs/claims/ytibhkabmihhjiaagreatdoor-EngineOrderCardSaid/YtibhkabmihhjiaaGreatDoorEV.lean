/-
  eval.weigh with no weights, as the reckoner does it: each token is worth 1.
-/
import Derived.Test.YtibhkabmihhjiaaGreatDoorES
import Derived.RangeFuncBox
import Derived.RangeFuncLeaves
import Derived.OwnWalkIn
import Derived.TacticsInMore
import Derived.LoopNIn
import Derived.LoopIn
import Derived.Shelf.Abstract
namespace Go.Proofs.YtibhkabmihhjiaaGreatDoor
open Go.RowKit
set_option linter.unusedVariables false
set_option linter.unusedSimpArgs false


attribute [local go_sem] Oper.semAt_some
theorem ext_put {w w2 w3 : World} {p : Nat} (h : Ext w w2) (k : Chg (fun b => b = p) w2 w3) (hp : w.heap.size ≤ p) : Ext w w3 := by
  have h' : Chg (fun b => b = p) w w2 := h.mono fun _ _ h => h.elim
  exact (h'.trans k).mono fun b hb e => by omega
set_option maxRecDepth 100000 in
set_option maxHeartbeats 1000000 in
theorem backward_any (a : Option Addr) (n c : Nat) (w : World) : Calls Tryz.prog 262 #[.slice a n c] w fun e w' => e = .returned (.func (.func 311) #[] #[.pointer (some ⟨w.heap.size, 0, none⟩)]) ∧ w' = w.alloc (.cells #[.slice a n c] 49) := by
  go_enter Tryz.func262, Tryz.ntmps262
  go_wp2_with fail
  go_ret
  exact ⟨rfl, rfl⟩
set_option maxRecDepth 100000 in
set_option maxHeartbeats 1000000 in
theorem back0 (l Bs : Nat) (W : World) (hBs : W.cell? ⟨Bs, 0, none⟩ = some (.slice none 0 0)) :
    Calls Tryz.prog 311 #[.func (.yield l) #[] #[], .pointer (some ⟨Bs, 0, none⟩)] W fun e W' => (∃ v, e = .returned v) ∧ W' = W := by
  go_enter Tryz.func311, Tryz.ntmps311
  go_wp2_with fail
  go_loopg [3] 0 (fun g t3 wr => g = 0 ∧ t3 = .int .i64 (-1) ∧ wr = W)
  case atStart => exact ⟨rfl, rfl, rfl⟩
  case round =>
    obtain ⟨rfl, rfl, rfl⟩ := hrel
    go_wp2_with fail
    go_end0
    exact ⟨⟨_, rfl⟩, rfl⟩
theorem ext_of_below' {w W : World} (h : Below w.heap.size w W) : Ext w W := ⟨h.os, h.tape, h.output, h.size, fun k hk _ => h.block k hk⟩
/-- What nothing hands out is never asked for. -/
theorem back_stops (n Bs : Nat) (w : World) (hB : Bs < w.heap.size) (hc : w.cell? ⟨Bs, 0, none⟩ = some (.slice none 0 0)) (Kp : World → World → Prop) :
    SeqStopsK Fence.wide n Tryz.prog 311 #[.pointer (some ⟨Bs, 0, none⟩)] (fun x : Empty => x.elim) Kp (fun ys => ys = []) (fun _ => False) 0 w := fun l J Jx W hW _ _ _ h0 => by
  have hc' := (hW.cell (p := ⟨Bs, 0, none⟩) hB).trans hc
  refine (callsIn_wide.2 (back0 l Bs W hc')).mono ?_
  rintro e W' ⟨he, rfl⟩
  exact ⟨he, .inl ⟨[], rfl, h0⟩⟩
set_option maxRecDepth 100000 in
set_option maxHeartbeats 1000000 in
theorem weigh_gen (s tok : Int) (w : World) (S : Nat → Prop) (hS : ∀ c, S c → c < w.heap.size) (R : World → Value → Prop)
    (hO : ∀ W, Ext w W → w.heap.size + 1 + 1 < W.heap.size → Calls Tryz.prog 92 #[.int .i64 s] W fun e w2 => ∃ (s' : Int) (i2 : Bool) (a2 : Option Addr) (n2 c2 : Nat) (l2 : Int) (fl : Nat) (u : Value), e = .returned (.tuple #[.agg #[.int .i64 s', .bool i2, .slice a2 n2 c2, .int .i64 l2, .float .f64 fl], u]) ∧ Chg S W w2 ∧ R w2 (.agg #[.int .i64 s', .bool i2, .slice a2 n2 c2, .int .i64 l2, .float .f64 fl])) :
    Calls Tryz.prog 206 #[.slice none 0 0, .int .i64 s, .int .i64 tok] w fun e w' => ∃ v w2, e = .returned v ∧ R w2 v ∧ Chg (fun k => k = w.heap.size + 1 + 1) w2 w' := by
  have HO := Lib.hid hO
  have hsf := run_store_f
  clear hO
  have hF1 : Fence.wide.fn 92 := trivial
  have hF2 : Fence.wide.fn 262 := trivial
  refine (callsIn_wide (n := 3)).1 ?_
  refine callsIn_of_wp_marks Tryz.func206 rfl trivial ?_ rfl
  simp only [Tryz.ntmps206, List.size_toArray, List.length_cons, List.length_nil, Nat.reduceAdd, Nat.reduceSub, Array.replicate_succ, Array.replicate_zero, List.push_toArray, List.append_toArray, List.nil_append, List.cons_append]
  gi_wp2_with (gi_at_call 92; refine (callsIn_wide.2 (HO.out _ ((((Chg.refl w).alloc _).alloc _).alloc _) (by simp))).mono ?_; rintro e w2 ⟨s', i2, a2, n2, c2, l2, fl, u, rfl, hx2, hR⟩; have HR := Lib.hid hR; clear hR)
  gi_wp2_with (gi_at_call 262; refine (callsIn_wide.2 (backward_any _ _ _ _)).mono ?_; rintro e w3 ⟨rfl, h3⟩)
  subst h3
  have hxc : Chg (fun k => k = w.heap.size + 1 + 1) w2 (((w2.alloc (.cells #[.int .i64 s', .bool i2, .slice a2 n2 c2, .int .i64 l2, .float .f64 fl] 40)).alloc (.cells #[.slice none 0 0] 49))) := ((Chg.refl w2).alloc _).alloc _
  have kA := (Blk.new w2 #[.int .i64 s', .bool i2, .slice a2 n2 c2, .int .i64 l2, .float .f64 fl] 40).chg ((Chg.refl (S := fun _ => False) _).alloc (.cells #[.slice none 0 0] 49)) (fun h => h)
  have kc : ((w2.alloc (.cells #[.int .i64 s', .bool i2, .slice a2 n2 c2, .int .i64 l2, .float .f64 fl] 40)).alloc (.cells #[.slice none 0 0] 49)).cell? ⟨w2.heap.size + 1, 0, none⟩ = some (.slice none 0 0) := by
    have := (Boxed.new (w2.alloc (.cells #[.int .i64 s', .bool i2, .slice a2 n2 c2, .int .i64 l2, .float .f64 fl] 40)) 49 (.slice none 0 0)).cell
    rwa [World.size_alloc] at this
  have kB := (Blk.new ((w.alloc (.cells #[.int .i64 s] 3)).alloc (.cells #[.int .i64 tok] 3)) #[.int .i64 0, .bool false, .slice none 0 0, .int .i64 0, .float .f64 0] 40).chg ((hx2.alloc (.cells #[.int .i64 s', .bool i2, .slice a2 n2 c2, .int .i64 l2, .float .f64 fl] 40)).alloc (.cells #[.slice none 0 0] 49)) (fun h => absurd (hS _ h) (by simp; omega))
  simp only [World.size_alloc] at kB
  have hszB : w2.heap.size + 1 < ((w2.alloc (.cells #[.int .i64 s', .bool i2, .slice a2 n2 c2, .int .i64 l2, .float .f64 fl] 40)).alloc (.cells #[.slice none 0 0] 49)).heap.size := by simp
  generalize (w2.alloc (.cells #[.int .i64 s', .bool i2, .slice a2 n2 c2, .int .i64 l2, .float .f64 fl] 40)).alloc (.cells #[.slice none 0 0] 49) = W3 at *
  refine wpIn_rangeFunc_ownG rfl (by omega) (gf := 311) (lb := #[.pointer (some ⟨w2.heap.size + 1, 0, none⟩)]) rfl trivial (Go.Proofs.enters_of Tryz.func311 (by kernel_rfl) rfl)
    (back_stops 2 (w2.heap.size + 1) W3 hszB kc (fun _ _ => True)) (fun _ _ => trivial) (fun _ _ _ _ _ _ _ _ => trivial) (Below.refl _ _) (fun x => x.elim)
    (fun _ W => Below W3.heap.size W3 W) (fun _ _ _ => False) (ownFrom_below (Nat.le_refl _) (Nat.le_refl _)) (fun _ _ _ _ _ hs _ _ => hs) (Below.refl _ _) (fun x => x.elim) (fun _ x => x.elim) (fun _ _ x => x.elim) ?done (fun _ _ _ _ _ h => h.elim)
  case done =>
    rintro D ys W hD rfl hB hK
    have hxd := ext_of_below' hB
    have kA' := kA.chg hxd (fun h => h)
    have kB' := kB.chg hxd (fun h => h)
    obtain ⟨v0, -, v1, -, v2, -, v3, -, v4, -⟩ := blk5_base kA'
    obtain ⟨g0, f0, g1, f1, g2, f2, g3, f3, g4, f4⟩ := blk5_base kB'
    obtain ⟨y3, z3, y4, z4, q0, q1, q2, q3, q4⟩ := blk5_facts kB' (.int .i64 s') (.bool i2) (.slice a2 n2 c2) (.int .i64 l2) (.float .f64 fl)
    have HX := Lib.hid (hxc.trans (hxd.mono fun _ _ h => h.elim))
    gi_wp2
    have hp : w.heap.size + 1 + 1 < W3.heap.size := kB.lt
    have hset := set_chg (p := w.heap.size + 1 + 1) (j := 4) (c := .float .f64 fl) (set_chg (p := w.heap.size + 1 + 1) (j := 3) (c := .int .i64 l2) (set_chg (p := w.heap.size + 1 + 1) (j := 2) (c := .slice a2 n2 c2) (set_chg (p := w.heap.size + 1 + 1) (j := 1) (c := .bool i2) (set_chg (p := w.heap.size + 1 + 1) (j := 0) (c := .int .i64 s') (Chg.refl W)))))
    have hKs := (hset.block D (Array.getElem?_eq_some_iff.1 hK).1 (by omega)).trans hK
    have kS := (blk5_step kB' (.int .i64 s') (.bool i2) (.slice a2 n2 c2) (.int .i64 l2) (.float .f64 fl)).2.2.2.2.2
    have hxs := (((((HX.out.setCell ⟨w.heap.size + 1 + 1, 0, none⟩ (.int .i64 s') (fun _ => rfl)).setCell ⟨w.heap.size + 1 + 1, 1, none⟩ (.bool i2) (fun _ => rfl)).setCell ⟨w.heap.size + 1 + 1, 2, none⟩ (.slice a2 n2 c2) (fun _ => rfl)).setCell ⟨w.heap.size + 1 + 1, 3, none⟩ (.int .i64 l2) (fun _ => rfl)).setCell ⟨w.heap.size + 1 + 1, 4, none⟩ (.float .f64 fl) (fun _ => rfl))
    generalize ((((W.setCell ⟨w.heap.size + 1 + 1, 0, none⟩ (.int .i64 s')).setCell ⟨w.heap.size + 1 + 1, 1, none⟩ (.bool i2)).setCell ⟨w.heap.size + 1 + 1, 2, none⟩ (.slice a2 n2 c2)).setCell ⟨w.heap.size + 1 + 1, 3, none⟩ (.int .i64 l2)).setCell ⟨w.heap.size + 1 + 1, 4, none⟩ (.float .f64 fl) = Wn at *
    have hput : Chg (fun k => k = D) Wn (Wn.putObj D (.deferred none)) := (Chg.of_grown (grownBy_putObj' Wn D (.deferred none))).mono fun k _ h => by simpa using h
    have kF := kS.chg hput (by omega)
    obtain ⟨r0, -, r1, -, r2, -, r3, -, r4, -⟩ := blk5_base kF
    have hlD : w2.heap.size ≤ D := Nat.le_trans hxc.size hD
    have hx1 : Chg (fun b => b = w.heap.size + 1 + 1 ∨ b = D) w2 Wn := hxs.mono fun _ _ h => .inl h
    have HE := Lib.hid ((hx1.trans (hput.mono fun _ _ h => .inr h)).mono (T := fun b => b = w.heap.size + 1 + 1) fun b hb e => e.elim id fun e => by omega)
    refine ⟨by simp, .inl ⟨_, _, rfl, run_takeDeferred hKs, ?_⟩⟩
    refine ⟨_, by simp [results, Tryz.results206, go_sem, r0, r1, r2, r3, r4]; try rfl, ⟨_, w2, rfl, HR.out, HE.out⟩⟩
namespace Ev
noncomputable def weighRes : Rs (FR × St) → Rs (FR × St)
  | .ok (.ret (.tuple ⟨[.agg ⟨[.int .i64 s', .bool i, .slice a m c, .int .i64 l, .float .f64 x]⟩, u]⟩), σ') => .ok (.ret (.agg #[.int .i64 s', .bool i, .slice a m c, .int .i64 l, .float .f64 x]), σ')
  | .no ws => .no (7200 :: ws)
  | _ => .no [7201]
noncomputable def weighH (fW fO : Nat) : Hook := fun call f args σ =>
  match Nat.beq f fW with
  | false => none
  | true => match args with
    | [.slice none 0 0, .int .i64 s, .int .i64 tok] => some (weighRes (call fO [.int .i64 s] σ))
    | _ => none
/-- A block that is nobody's turns. -/
theorem Sim.aside {w0 : Base} {w w' : World} {ρ : Pl} {σ : St} {x : Nat} (h : Sim w0 ρ σ w) (hc : Chg (fun k => k = x) w w') (hx : ¬ Placed ρ x) (h0 : w0.w.heap.size ≤ x) : Sim w0 ρ σ w' := by
  have h1 : Chg (fun c => w0.S c ∨ c = x) w0.w w := h.chg.mono fun _ _ h => .inl h
  have h2 : Chg (fun c => w0.S c ∨ c = x) w w' := hc.mono fun _ _ h => .inr h
  refine ⟨(h1.trans h2).mono fun c hc e => e.elim id fun e => by omega, fun b c k hb => ⟨(h.dom b c k hb).1, (h.dom b c k hb).2.1, Nat.lt_of_lt_of_le (h.dom b c k hb).2.2 hc.size⟩, h.inj, fun b c k hb => ?_, h.free⟩
  rw [hc.block c (h.dom b c k hb).2.2 (fun e => hx ⟨b, k, by rw [← e]; exact hb⟩)]
  exact h.ob b c k hb
theorem weigh_ok : HookOk Tryz.prog (weighH 206 92) := by
  intro call hg f args σ fr σ' h
  unfold weighH at h
  split at h
  · cases h
  · next hfe =>
    have hfe : f = 206 := Nat.eq_of_beq_eq_true hfe
    subst hfe
    refine ⟨⟨_, Tryz.func206, rfl⟩, ?_⟩
    split at h
    · next s tok =>
      simp only [Option.some.injEq] at h
      generalize hc : call 92 [.int .i64 s] σ = r at h
      unfold weighRes at h
      split at h
      · next s' i a m c l x u σ1 =>
        simp only [Rs.ok.injEq, Prod.mk.injEq] at h
        obtain ⟨rfl, rfl⟩ := h
        intro w0 ρ w cargs hs hr
        obtain ⟨cl⟩ := cargs
        cases hr with
        | cons h1 h2 =>
        cases h2 with
        | cons h2 h3 =>
        cases h3 with
        | cons h3 h4 =>
        cases h4
        cases h1
        cases h2
        cases h3
        have hpl : ∀ c, Placed ρ c → c < w.heap.size := fun c ⟨b, k, hb⟩ => (hs.dom b c k hb).2.2
        refine (weigh_gen s tok w (Placed ρ) hpl (fun w2 v => ∃ ρ', Sim w0 ρ' σ1 w2 ∧ Step ρ σ ρ' σ1 ∧ Rel ρ' (.agg #[.int .i64 s', .bool i, .slice a m c, .int .i64 l, .float .f64 x]) v ∧ ¬ Placed ρ' (w.heap.size + 1 + 1)) fun W hW hlt => ?_).mono ?_
        · have hsW := hs.ext hW
          refine ((hg _ _ _ _ _ hc).2 ⟨W, Placed ρ⟩ ρ W #[.int .i64 s] hsW.rebase (.cons (.int _ _) .nil)).mono ?_
          rintro e w2 ⟨ρ', k1, k2, v', rfl, k3⟩
          have hnp : ¬ Placed ρ' (w.heap.size + 1 + 1) := fun ⟨b, k, hb⟩ => by
            have := hpl _ ((k1.dom b _ k hb).2.1 hlt)
            omega
          cases k3 with
          | @tuple _ vs' k3 =>
          obtain ⟨vs'⟩ := vs'
          cases k3 with
          | cons q1 q2 =>
          cases q2 with
          | cons q2 q3 =>
          cases q3
          have q1' := q1
          cases q1 with
          | @agg _ ws q1 =>
          obtain ⟨ws⟩ := ws
          cases q1 with
          | cons a1 q1 =>
          cases q1 with
          | cons a2 q1 =>
          cases q1 with
          | cons a3 q1 =>
          cases q1 with
          | cons a4 q1 =>
          cases q1 with
          | cons a5 q1 =>
          cases q1
          cases a1; cases a2; cases a4; cases a5
          cases a3 with
          | nilSlice n m => exact ⟨_, _, _, _, _, _, _, _, rfl, k1.chg, ρ', hsW.unbase k1, k2, q1', hnp⟩
          | slice o n m hb => exact ⟨_, _, _, _, _, _, _, _, rfl, k1.chg, ρ', hsW.unbase k1, k2, q1', hnp⟩
          | grown o n m m' hb hm h0 => exact ⟨_, _, _, _, _, _, _, _, rfl, k1.chg, ρ', hsW.unbase k1, k2, q1', hnp⟩
          | past y m => exact ⟨_, _, _, _, _, _, _, _, rfl, k1.chg, ρ', hsW.unbase k1, k2, q1', hnp⟩
        · rintro e w' ⟨v, w2, rfl, ⟨ρ', k1, k2, k3, k4⟩, hx⟩
          exact ⟨ρ', k1.aside hx k4 (by have := hs.chg.size; omega), k2, v, rfl, k3⟩
      · cases h
      · cases h
    · cases h
/-- Two hooks: the first that speaks. -/
noncomputable def orHook (a b : Hook) : Hook := fun call f args σ => match a call f args σ with
  | some r => some r
  | none => b call f args σ
theorem orHook_ok {P : Program} {a b : Hook} (ha : HookOk P a) (hb : HookOk P b) : HookOk P (orHook a b) := by
  intro call hg f args σ fr σ' h
  unfold orHook at h
  split at h
  · next r hr => exact ha call hg f args σ fr σ' (hr.trans h)
  · exact hb call hg f args σ fr σ' h
end Ev
end Go.Proofs.YtibhkabmihhjiaaGreatDoor
