/-
  Weights of an engine that is none: refused, whatever the token.
-/
import Derived.Test.YtibhkabmihhjiaaGreatDoorEX
namespace Go.Proofs.YtibhkabmihhjiaaGreatDoor
open Go Go.RowKit
set_option linter.unusedVariables false
set_option linter.unusedSimpArgs false
open Classical in
/-- A world in which nothing of w has turned: u, where it is one. -/
noncomputable def xt (w u : World) : World := if Ext w u then u else w
theorem xt_of {w u : World} (h : Ext w u) : xt w u = u := if_pos h
theorem xt_ext (w u : World) : Ext w (xt w u) := by
  unfold xt
  split
  · assumption
  · exact Chg.refl w
theorem xt_eq {w u w' : World} (h : w' = xt w u) : Ext w w' := by rw [h]; exact xt_ext _ _
theorem xt_cell {w : World} {x : Addr} {v : Value} (h : w.cell? x = some v) (hx : x.block < w.heap.size) (u : World) : (xt w u).cell? x = some v := ((xt_ext w u).cell hx (fun h => h)).trans h
theorem wp_region_xt {P : Program} {id : Nat} {Q : Exit → Act → World → Prop} {a : Act} {w : World} {l : List Oper} (hm : P.follows .mixedOrders = true) (hB : Region.lexB .any l.toArray = true)
    (h : wpQuiet P l.toArray (fun w' => ∃ u, w' = xt w u) (fun a' => ∀ w', (∃ u, w' = xt w u) → Q .normal a' w') l a) : (Code.region id l.toArray true).wp P Q a w :=
  wp_region_quiet (C := fun w' => ∃ u, w' = xt w u) hm hB ⟨w.drew, (xt_of (Chg.refl (S := fun _ => False) w).drew).symm⟩ (by simpa using h)
theorem xt_call {P : Program} {f : FuncId} {args : Array Value} {w u : World} {v : Value} (h : Calls P f args (xt w u) fun e w' => e = .returned v ∧ Ext (xt w u) w') : Calls P f args (xt w u) fun e w'' => e = .returned v ∧ ∃ u', w'' = xt w u' :=
  h.mono fun _ _ ⟨he, hx⟩ => ⟨he, _, (xt_of ((xt_ext w u).trans hx)).symm⟩
theorem blk4_base {w : World} {p t : Nat} {a0 a1 a2 a3 : Value} (h : Blk w p #[a0, a1, a2, a3] t) :
    w.cell? ⟨p, 0, none⟩ = some a0 ∧ w.frozen? ⟨p, 0, none⟩ = false ∧ w.cell? ⟨p, 1, none⟩ = some a1 ∧ w.frozen? ⟨p, 1, none⟩ = false ∧ w.cell? ⟨p, 2, none⟩ = some a2 ∧ w.frozen? ⟨p, 2, none⟩ = false ∧ w.cell? ⟨p, 3, none⟩ = some a3 ∧ w.frozen? ⟨p, 3, none⟩ = false :=
  ⟨h.cell 0 _ rfl, h.frozen 0, h.cell 1 _ rfl, h.frozen 1, h.cell 2 _ rfl, h.frozen 2, h.cell 3 _ rfl, h.frozen 3⟩
theorem blk4_facts {w : World} {p t : Nat} {a0 a1 a2 a3 : Value} (h : Blk w p #[a0, a1, a2, a3] t) (c0 c1 c2 c3 : Value) :
    (((w.setCell ⟨p, 0, none⟩ c0).setCell ⟨p, 1, none⟩ c1).setCell ⟨p, 2, none⟩ c2).cell? ⟨p, 3, none⟩ = some a3 ∧
    (((w.setCell ⟨p, 0, none⟩ c0).setCell ⟨p, 1, none⟩ c1).setCell ⟨p, 2, none⟩ c2).frozen? ⟨p, 3, none⟩ = false ∧
    ((((w.setCell ⟨p, 0, none⟩ c0).setCell ⟨p, 1, none⟩ c1).setCell ⟨p, 2, none⟩ c2).setCell ⟨p, 3, none⟩ c3).cell? ⟨p, 0, none⟩ = some c0 ∧
    ((((w.setCell ⟨p, 0, none⟩ c0).setCell ⟨p, 1, none⟩ c1).setCell ⟨p, 2, none⟩ c2).setCell ⟨p, 3, none⟩ c3).cell? ⟨p, 1, none⟩ = some c1 ∧
    ((((w.setCell ⟨p, 0, none⟩ c0).setCell ⟨p, 1, none⟩ c1).setCell ⟨p, 2, none⟩ c2).setCell ⟨p, 3, none⟩ c3).cell? ⟨p, 2, none⟩ = some c2 ∧
    ((((w.setCell ⟨p, 0, none⟩ c0).setCell ⟨p, 1, none⟩ c1).setCell ⟨p, 2, none⟩ c2).setCell ⟨p, 3, none⟩ c3).cell? ⟨p, 3, none⟩ = some c3 := by
  have h3 := ((h.set 0 c0).set 1 c1).set 2 c2
  have h4 := h3.set 3 c3
  exact ⟨h3.cell 3 _ rfl, h3.frozen 3, h4.cell 0 _ rfl, h4.cell 1 _ rfl, h4.cell 2 _ rfl, h4.cell 3 _ rfl⟩
namespace Ev
theorem place_nil (id : Int) (w : World) : Calls Tryz.prog 82 #[.pointer none, .int .i64 id] w fun e w' => e = .returned (.tuple #[.int .i64 0, .bool false]) ∧ w' = w := by
  go_enter Tryz.func82, Tryz.ntmps82
  go_wp2_with fail
  refine bodyPost_ret (by simp [results, Tryz.results82, go_sem]; try rfl) rfl ?_
  exact ⟨rfl, rfl⟩
abbrev edge0 : Array Value := #[.int .i64 0, .int .i64 0, .string ⟨#[]⟩, .int .i64 0]
theorem edge_nil (id : Int) (w : World) : Calls Tryz.prog 35 #[.pointer none, .int .i64 id] w fun e w' => e = .returned (.tuple #[.agg edge0, .bool false]) ∧ Ext w w' := by
  go_enter Tryz.func35, Tryz.ntmps35
  go_wp2_with fail
  refine (place_nil id _).mono ?_
  rintro e w' ⟨rfl, rfl⟩
  go_wp2_with fail
  refine bodyPost_ret (by simp [results, Tryz.results35, go_sem]; try rfl) rfl ?_
  exact ⟨rfl, (Chg.refl w).alloc _⟩
theorem graph_nil (w : World) : Calls Tryz.prog 23 #[.pointer none] w fun e w' => e = .returned (.pointer none) ∧ w' = w := by
  go_enter Tryz.func23, Tryz.ntmps23
  go_wp2_with fail
  go_ret
  exact ⟨rfl, rfl⟩
theorem weigh_nil (id : Int) (cs : Array Value) (w : World) : Calls Tryz.prog 14 #[.pointer none, .int .i64 id, .agg cs] w fun e w' => e = .returned (.int .i64 8) ∧ Ext w w' := by
  go_enter Tryz.func14, Tryz.ntmps14
  go_wp2_with fail
  have k0 : ((w.alloc (.cells #[.int .i64 id] 3)).alloc (.cells cs 40)).cell? ⟨w.heap.size, 0, none⟩ = some (.int .i64 id) :=
    ((((Chg.refl (S := fun _ => False) _).alloc (.cells cs 40))).cell (by show w.heap.size < (w.alloc _).heap.size; simp) (fun h => h)).trans (Boxed.new w 3 (.int .i64 id)).cell
  have HK := Lib.hid (fun v (h : Ext ((w.alloc (.cells #[.int .i64 id] 3)).alloc (.cells cs 40)) v) => (h.cell (by show w.heap.size < ((w.alloc _).alloc _).heap.size; simp; omega) (fun h => h)).trans k0)
  have HB : Ext w ((w.alloc (.cells #[.int .i64 id] 3)).alloc (.cells cs 40)) := (((Chg.refl w).alloc _).alloc _)
  have HB := Lib.hid HB
  clear k0
  generalize hW : ((w.alloc (.cells #[.int .i64 id] 3)).alloc (.cells cs 40)) = W at *
  go_region_held3 (fun v => v.cell? ⟨w.heap.size, 0, none⟩ = some (.int .i64 id)) (first
    | with_reducible exact HK.out _ ((Chg.refl (S := fun _ => False) W).drew.trans hx2)
    | with_reducible exact HK.out _ hx3
    | with_reducible exact HK.out _ hx4
    | with_reducible exact HK.out _ (((Chg.refl (S := fun _ => False) W).drew.trans hx2).alloc _)
    | with_reducible exact HK.out _ ((Chg.refl (S := fun _ => False) W).drew.alloc _)
    | with_reducible exact HK.out _ (Chg.refl (S := fun _ => False) W).drew
    | with_reducible exact HK.out _ ((Chg.refl (S := fun _ => False) W).alloc _).drew) (first
    | (go_at_call 23; refine (graph_nil _).mono ?_; rintro e w1 ⟨rfl, rfl⟩)
    | (go_at_call 35; refine (edge_nil id _).mono ?_; rintro e w2 ⟨rfl, hx2⟩
       first
         | (have kb : Blk w2 W.heap.size edge0 89 := (Blk.new W edge0 89).chg ((Chg.refl (S := fun _ => False) (W.alloc (.cells edge0 89))).drew.trans hx2) (fun h => h)
            obtain ⟨b0, c0, b1, c1, b2, c2, b3, c3⟩ := blk4_base kb
            obtain ⟨r4, s4, q0, q1, q2, q3⟩ := blk4_facts kb (.int .i64 0) (.int .i64 0) (.string ⟨#[]⟩) (.int .i64 0)
            have hx3 : Ext W w2 := ((Chg.refl (S := fun _ => False) W).alloc (.cells edge0 89)).drew.trans hx2
            have hx4 : Ext W ((((w2.setCell ⟨W.heap.size, 0, none⟩ (.int .i64 0)).setCell ⟨W.heap.size, 1, none⟩ (.int .i64 0)).setCell ⟨W.heap.size, 2, none⟩ (.string ⟨#[]⟩)).setCell ⟨W.heap.size, 3, none⟩ (.int .i64 0)) := (((hx3.setCell _ _ (fun h => absurd h (Nat.lt_irrefl _))).setCell _ _ (fun h => absurd h (Nat.lt_irrefl _))).setCell _ _ (fun h => absurd h (Nat.lt_irrefl _))).setCell _ _ (fun h => absurd h (Nat.lt_irrefl _)))
         | skip))
  all_goals
    go_wp2_with fail
    go_ret
    refine ⟨rfl, HB.out.trans ?_⟩
    first
      | exact hx4
      | exact ((Chg.refl (S := fun _ => False) W).drew.trans hx2).alloc _
      | exact ((Chg.refl (S := fun _ => False) W).drew.trans hx2)
      | exact (((Chg.refl (S := fun _ => False) W).drew.trans hx2).alloc _).drew
noncomputable def nilH : Hook := fun _ f args σ =>
  match Nat.beq f 14 with
  | false => none
  | true => match args with
    | [.pointer none, .int .i64 _, .agg _] => some (.ok (.ret (.int .i64 8), σ))
    | _ => none
theorem nil_ok : HookOk Tryz.prog nilH := by
  intro call hg f args σ fr σ' h
  unfold nilH at h
  split at h
  · cases h
  · next hfe =>
    have hfe : f = 14 := Nat.eq_of_beq_eq_true hfe
    subst hfe
    refine ⟨⟨_, Tryz.func14, rfl⟩, ?_⟩
    split at h
    · next id cs =>
      simp only [Option.some.injEq, Rs.ok.injEq, Prod.mk.injEq] at h
      obtain ⟨rfl, rfl⟩ := h
      intro w0 ρ w cargs hs hr
      obtain ⟨cl⟩ := cargs
      cases hr with
      | cons r1 r2 =>
      cases r2 with
      | cons r2 r3 =>
      cases r3 with
      | cons r3 r4 =>
      cases r4
      cases r1
      cases r2
      cases r3
      refine (weigh_nil id _ w).mono ?_
      rintro e w' ⟨rfl, hx⟩
      exact ⟨ρ, hs.ext hx, Step.refl ρ _, _, rfl, .int _ _⟩
    · cases h
set_option maxRecDepth 100000 in
theorem nothingV (id : Int) : valOf (evF Tryz.prog (orHook nilH hk) 100 4 [.int .i64 id] st0) = some (.bool true) := by kernel_rfl
theorem nothing (id : Int) (w : World) : Calls Tryz.prog 4 #[.int .i64 id] w fun e w' => e = .returned (.bool true) ∧ Ext w w' :=
  reckoned hmix named (orHook_ok nil_ok hk_ok) 100 4 [.int .i64 id] rfl rfl (nothingV id) w
theorem nothing_below (id : Int) (w : World) : Calls Tryz.prog 4 #[.int .i64 id] w fun e w' => e = .returned (.bool true) ∧ Below w.heap.size w w' :=
  (nothing id w).mono fun _ _ ⟨h, x⟩ => ⟨h, x.below⟩
end Ev
end Go.Proofs.YtibhkabmihhjiaaGreatDoor
