/-
  bail.Catch, walked, for whatever function it is handed.
-/
import Derived.Test.YtibhkabmihhjiaaGreatDoorES
import Derived.Defers
import Derived.Recover
namespace Go.Proofs.YtibhkabmihhjiaaGreatDoor
open Go Go.RowKit
set_option linter.unusedVariables false
set_option linter.unusedSimpArgs false
namespace Ev
theorem run_equalIn_func {P : Program} {t : TypeId} {ps rs : Array TypeId} {v : Bool} (d : Nat) (ht : P.underlying t = some (.func ps rs v)) (g : Nat) (f c : Array Value) (w : World) : (Op.equalIn (d + 1) t (.func (.func g) f c) .nilFunc).run P w = .ok false w := by
  simp [Op.equalIn, run_underlying ht]
theorem run_neq_func {P : Program} {t : TypeId} {ps rs : Array TypeId} {v : Bool} (ht : P.underlying t = some (.func ps rs v)) (g : Nat) (f c : Array Value) (w : World) : (binOp .neq t (.func (.func g) f c) .nilFunc).run P w = .ok (.bool true) w := by
  simp only [binOp]
  simp [Op.equal, Op.maxDepth, run_equalIn_func 9999 ht]
theorem call_some (g : Nat) (cap : Array Value) (w : World) (R : Ending → World → Prop) (hg : Ent Tryz.prog g) (h : Calls Tryz.prog g cap w (Void R)) :
    Calls Tryz.prog 96 #[.func (.func g) #[] cap] w R := by
  have hq := run_neq_func Tryz.underlying1 g #[] cap
  have hg' := fun a w => hg a w
  go_enter Tryz.func96, Tryz.ntmps96
  go_wp2_with fail
  refine h.mono ?_
  rintro e w' hR
  cases e with
  | returned v =>
    go_wp2_with fail
    go_end0
    exact hR
  | panicked c => exact ⟨rfl, hR⟩
  | outgrown => exact ⟨⟨#[], []⟩, w', hR⟩
/-- What recover hands back, and the mode behind it. -/
def recd : FrameMode → Value × FrameMode
  | .panicking ({ v, recovered := false, goexit := false } :: older) => (v, .panicking ({ v, recovered := true } :: older))
  | u => (.nilIface, u)
theorem post_S {P : Program} {fn : Func} {c₀ : Frame} {cs : List Frame} {R : Ending → FrameMode → World → Prop} {u' : FrameMode} {e : Exit} {a : Act} {w : World}
    (h : bodyPost P fn (fun e w' => R e u' w') e a w) : bodyPostS P fn c₀ cs R e a ({ c₀ with mode := u' } :: cs) w := by
  cases e with
  | normal => exact ⟨h.1, u', rfl, h.2⟩
  | ret => exact ⟨h.1, u', rfl, h.2⟩
  | panic ch => exact ⟨h.1, u', rfl, h.2⟩
  | outgrown => exact ⟨u', h⟩
  | exit id => exact h.elim
  | goto l => exact h.elim
theorem callsD_recover {P : Program} {f : FuncId} {fn : Func} {id d ty : Nat} {pos : String} {rest : Code} {args : Array Value} {u : FrameMode} {w : World} {R : Ending → FrameMode → World → Prop}
    (hf : P.funcs[f]? = some fn) (hb : fn.body = some (.seq (.region id #[{ dst := some d, op := .call { callee := .builtin .recover, args := #[], argTypes := #[] }, type := ty, pos := pos, after := #[], guard := none }] false) rest))
    (h : rest.wp P (bodyPost P fn (fun e w' => R e (recd u).2 w')) { tmps := (args ++ Array.replicate (fn.ntmps - args.size) undef).setIfInBounds d (recd u).1, defers := [] } w) :
    CallsD P f args u w R := by
  refine callsD_of_wpS hf hb fun c₀ cs hu => ?_
  apply wpS_seq
  apply wpS_region
  have e0 : ({ c₀ with mode := u } : Frame) = c₀ := by subst hu; rfl
  have key : ∀ (v : Value) (u' : FrameMode), recd u = (v, u') → rest.wpS P (bodyPostS P fn c₀ cs R) { tmps := (args ++ Array.replicate (fn.ntmps - args.size) undef).setIfInBounds d v, defers := [] } ({ c₀ with mode := u' } :: cs) w := by
    intro v u' hr
    rw [hr] at h
    exact wpS_of_wp (wp_mono h fun e a w' hq => post_S hq)
  simp [wpOpsS, go_sem, recoverD, hu, Exit.thenS]
  split
  · rename_i v cs' he
    split at he
    · simp only [Option.some.injEq, Prod.mk.injEq] at he
      obtain ⟨rfl, rfl⟩ := he
      exact key _ _ rfl
    · cases he
  · rename_i he
    split at he
    · cases he
    · rename_i hno
      have hr : recd u = (.nilIface, u) := by
        unfold recd
        split
        · exact (hno _ _ rfl).elim
        · rfl
      have := key .nilIface u hr
      rw [e0] at this
      exact this
theorem as_hit (v : Value) (w : World) : (Instr.typeAssert (.iface 174 v) 20 174 true).run Tryz.prog w = .ok (.tuple #[v, .bool true]) w := by
  simp [Instr.typeAssert, run_underlying Tryz.underlying174]
theorem eql_nil20 (w : World) : (binOp BinOp.eql 20 .nilIface .nilIface).run Tryz.prog w = .ok (.bool true) w := by kernel_rfl
theorem run_mkFunc (fn : Fn) (first cap : Array Value) (w : World) : (Instr.makeFunc fn first cap).run Tryz.prog w = .ok (.func fn first cap) w := rfl
theorem catchd_idle (p q : Addr) (w : World) :
    CallsD Tryz.prog 95 #[.pointer (some p), .pointer (some q)] .returning w fun e u' w' => e = .returned (.tuple #[]) ∧ u' = .returning ∧ w' = w := by
  have hn := eql_nil20
  refine callsD_recover Tryz.func95 rfl ?_
  simp only [recd, Tryz.ntmps95, List.size_toArray, List.length_cons, List.length_nil, Nat.reduceAdd, Nat.reduceSub, Array.replicate_succ, Array.replicate_zero, List.push_toArray, List.append_toArray, List.nil_append, List.cons_append, List.setIfInBounds_toArray, List.set_cons_zero, List.set_cons_succ]
  go_wp2
  go_end0
  exact ⟨rfl, trivial, rfl⟩
theorem catchd_bail (m n b : Nat) (c a p0 q0 : Int) (older : List PanicEntry) (w : World) (hb0 : w.cell? ⟨b, 0, none⟩ = some (.int .i64 c)) (hb1 : w.cell? ⟨b, 1, none⟩ = some (.int .i64 a))
   (hp : w.cell? ⟨m, 0, none⟩ = some (.int .i64 p0)) (hq : w.cell? ⟨n, 0, none⟩ = some (.int .i64 q0)) (fp : w.frozen? ⟨m, 0, none⟩ = false) (fq : w.frozen? ⟨n, 0, none⟩ = false) (hmn : ¬ m = n) :
    CallsD Tryz.prog 95 #[.pointer (some ⟨m, 0, none⟩), .pointer (some ⟨n, 0, none⟩)] (.panicking ({ v := .iface 174 (.pointer (some ⟨b, 0, none⟩)), recovered := false } :: older)) w fun e u' w' => e = .returned (.tuple #[]) ∧ u' = (.panicking ({ v := .iface 174 (.pointer (some ⟨b, 0, none⟩)), recovered := true } :: older)) ∧ w' = ((w.setCell ⟨m, 0, none⟩ (.int .i64 c)).setCell ⟨n, 0, none⟩ (.int .i64 a)).drew := by
  have hh := as_hit
  refine callsD_recover Tryz.func95 rfl ?_
  simp only [recd, Tryz.ntmps95, List.size_toArray, List.length_cons, List.length_nil, Nat.reduceAdd, Nat.reduceSub, Array.replicate_succ, Array.replicate_zero, List.push_toArray, List.append_toArray, List.nil_append, List.cons_append, List.setIfInBounds_toArray, List.set_cons_zero, List.set_cons_succ]
  go_wp2
  go_region
  go_end0
  exact ⟨rfl, trivial, rfl⟩


theorem catch_gen : CatchGen Tryz.prog 47 174 31 3 := by
  intro g cap w R hg h
  have hmf := run_mkFunc
  have hh := Lib.hid h
  clear h
  go_enter_defers Tryz.func47, Tryz.ntmps47
  go_wp2_with fail
  refine (call_some g cap _ _ hg hh.out).mono ?_
  rintro e w2 ⟨p0, q0, c0, c1, f0, f1, ⟨rfl, hfin⟩ | ⟨b, c, a, rfl, hc, ha, hfin⟩⟩
  · go_wp2
    refine leaves_cons (f := 95) (args := #[.pointer (some ⟨w.heap.size, 0, none⟩), .pointer (some ⟨w.heap.size + 1, 0, none⟩)]) (by simp) (by simp [go_sem]) ?_
    refine (catchd_idle _ _ _).mono ?_
    rintro e u' w3 ⟨rfl, rfl, rfl⟩
    simp [Leaves, settle, results, Tryz.results47, go_sem, c0, c1]
    exact hfin
  · simp only [bodyPostD]
    refine leaves_cons (f := 95) (args := #[.pointer (some ⟨w.heap.size, 0, none⟩), .pointer (some ⟨w.heap.size + 1, 0, none⟩)]) (by simp) (by simp [go_sem]) ?_
    refine (catchd_bail _ _ b c a _ _ [] w2 hc ha c0 c1 f0 f1 (by omega)).mono ?_
    rintro e u' w3 ⟨rfl, rfl, rfl⟩
    simp [Leaves, settle, results, Tryz.results47, go_sem, c0, c1]
    exact hfin
end Ev
end Go.Proofs.YtibhkabmihhjiaaGreatDoor
