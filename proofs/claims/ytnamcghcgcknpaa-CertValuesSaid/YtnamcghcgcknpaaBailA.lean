/-
  Contracts of package bail (chapter 6): what Out, Catch, Only, After, Safe and the meter do, for whatever function values they are handed. No condition.
-/
import Derived.Test.YtnamcghcgcknpaaChecked
import Derived.WalkKit
import Derived.WalkSmall
import Derived.Defers
import Derived.Recover
import Derived.WalkLawsBesides
import Derived.Lib.Hide
import Derived.BigQuiet
import Derived.Deep.QuietTactic
namespace Go.Proofs.Ytnamcghcgcknpaa
open Go.RowKit

/-! ### Worlds: what has changed -/

/-- Of what was there only blocks of S may have turned. -/
structure Chg (S : Nat → Prop) (w w' : World) : Prop where
  os : w'.os = w.os
  tape : w'.tape = w.tape
  output : w'.output = w.output
  size : w.heap.size ≤ w'.heap.size
  block : ∀ k, k < w.heap.size → ¬ S k → w'.heap[k]? = w.heap[k]?
/-- Nothing that was there has turned. -/
abbrev Ext (w w' : World) : Prop := Chg (fun _ => False) w w'
theorem Chg.refl {S : Nat → Prop} (w : World) : Chg S w w := ⟨rfl, rfl, rfl, Nat.le_refl _, fun _ _ _ => rfl⟩
theorem Chg.mono {S T : Nat → Prop} {a b : World} (h : Chg S a b) (hd : ∀ k, k < a.heap.size → S k → T k) : Chg T a b :=
  ⟨h.os, h.tape, h.output, h.size, fun k hk he => h.block k hk fun hD => he (hd k hk hD)⟩
theorem Chg.trans {S : Nat → Prop} {a b c : World} (h : Chg S a b) (k : Chg S b c) : Chg S a c :=
  ⟨k.os.trans h.os, k.tape.trans h.tape, k.output.trans h.output, Nat.le_trans h.size k.size, fun i hi hd => (k.block i (Nat.lt_of_lt_of_le hi h.size) hd).trans (h.block i hi hd)⟩
theorem Chg.drew {S : Nat → Prop} {a b : World} (h : Chg S a b) : Chg S a b.drew := ⟨h.os, h.tape, h.output, h.size, h.block⟩
theorem Chg.drewN {S : Nat → Prop} {a b : World} (h : Chg S a b) (n : Nat) : Chg S a (b.drewN n) := ⟨h.os, h.tape, h.output, h.size, h.block⟩
theorem Chg.alloc {S : Nat → Prop} {a b : World} (h : Chg S a b) (o : Obj) : Chg S a (b.alloc o) :=
  h.trans ⟨rfl, rfl, rfl, by simp, fun k hk _ => Below.heap_alloc _ _ _ hk⟩
theorem Chg.setCell {S : Nat → Prop} {a b : World} (h : Chg S a b) (p : Addr) (u : Value) (hp : p.block < a.heap.size → S p.block) : Chg S a (b.setCell p u) :=
  ⟨h.os, h.tape, h.output, by simpa [World.setCell] using h.size, fun k hk hd => by
    rw [Below.heap_setCell _ _ _ _ (by rintro rfl; exact hd (hp hk))]; exact h.block k hk hd⟩
theorem Chg.below {B : Nat} {a b : World} (h : Chg (B ≤ ·) a b) (hB : B ≤ a.heap.size) : Below B a b :=
  ⟨h.os, h.tape, h.output, h.size, fun k hk => h.block k (by omega) (by omega)⟩
theorem Ext.below {a b : World} (h : Ext a b) : Below a.heap.size a b := ⟨h.os, h.tape, h.output, h.size, fun k hk => h.block k hk (fun h => h)⟩
theorem Ext.of_below {a b : World} (h : Below a.heap.size a b) : Ext a b := ⟨h.os, h.tape, h.output, h.size, fun k hk _ => h.block k hk⟩
theorem Chg.cell {S : Nat → Prop} {a b : World} (h : Chg S a b) {p : Addr} (hp : p.block < a.heap.size) (hd : ¬ S p.block) : b.cell? p = a.cell? p := World.cell?_of_block (w := a) (h.block p.block hp hd)
theorem Chg.frozen {S : Nat → Prop} {a b : World} (h : Chg S a b) {p : Addr} (hp : p.block < a.heap.size) (hd : ¬ S p.block) : b.frozen? p = a.frozen? p := World.frozen?_of_block (w := a) (h.block p.block hp hd)

/-- All blocks that were there stand as they were, but for those that the state D has; the state takes no old block in. -/
structure Keep (D : World → Nat → Prop) (w w' : World) : Prop where
  os : w'.os = w.os
  tape : w'.tape = w.tape
  output : w'.output = w.output
  size : w.heap.size ≤ w'.heap.size
  block : ∀ k, k < w.heap.size → ¬ D w k → w'.heap[k]? = w.heap[k]?
  steal : ∀ k, k < w.heap.size → D w' k → D w k
  lt : (∀ k, D w k → k < w.heap.size) → ∀ k, D w' k → k < w'.heap.size
/-- The state's blocks hang on what they hold themselves. -/
def Loc (D : World → Nat → Prop) : Prop := ∀ w w' : World, (∀ k, D w k → w'.heap[k]? = w.heap[k]?) → ∀ k, D w' k → D w k
/-- The state's blocks are there. -/
def There (D : World → Nat → Prop) (w : World) : Prop := ∀ k, D w k → k < w.heap.size
theorem loc_const (S : Nat → Prop) : Loc (fun _ => S) := fun _ _ _ _ h => h
theorem loc_none : Loc (fun _ _ => False) := loc_const _
theorem there_none (w : World) : There (fun _ _ => False) w := fun _ h => h.elim
section
variable {D : World → Nat → Prop}
theorem Keep.refl (w : World) : Keep D w w := ⟨rfl, rfl, rfl, Nat.le_refl _, fun _ _ _ => rfl, fun _ _ h => h, fun h => h⟩
theorem Keep.trans {a b c : World} (h : Keep D a b) (k : Keep D b c) : Keep D a c :=
  ⟨k.os.trans h.os, k.tape.trans h.tape, k.output.trans h.output, Nat.le_trans h.size k.size,
   fun i hi hd => (k.block i (Nat.lt_of_lt_of_le hi h.size) (fun hb => hd (h.steal i hi hb))).trans (h.block i hi hd),
   fun i hi hc => h.steal i hi (k.steal i (Nat.lt_of_lt_of_le hi h.size) hc), fun hl => k.lt (h.lt hl)⟩
/-- Behind a run: blocks that were made in it are written, and none of the state. -/
theorem Keep.after {S : Nat → Prop} {a b c : World} (hl : Loc D) (ht : There D a) (h : Keep D a b) (k : Chg S b c) (hS : ∀ i, S i → a.heap.size ≤ i ∧ ¬ D b i) : Keep D a c := by
  have hb : There D b := h.lt ht
  have hDc : ∀ i, D c i → D b i := hl b c (fun j hj => k.block j (hb j hj) (fun hs => (hS j hs).2 hj))
  refine ⟨k.os.trans h.os, k.tape.trans h.tape, k.output.trans h.output, Nat.le_trans h.size k.size, fun i hi hd => ?_, fun i hi hc => h.steal i hi (hDc i hc), fun _ i hc => Nat.lt_of_lt_of_le (hb i (hDc i hc)) k.size⟩
  exact (k.block i (Nat.lt_of_lt_of_le hi h.size) (fun hs => absurd (hS i hs).1 (by omega))).trans (h.block i hi hd)
theorem Keep.of_ext {w w' : World} (hl : Loc D) (ht : There D w) (h : Ext w w') : Keep D w w' := (Keep.refl w).after hl ht h (fun _ h => h.elim)
theorem Keep.chg {a b : World} (h : Keep D a b) : Chg (D a) a b := ⟨h.os, h.tape, h.output, h.size, h.block⟩
theorem Keep.ext {a b : World} (h : Keep (fun _ _ => False) a b) : Ext a b := ⟨h.os, h.tape, h.output, h.size, h.block⟩
end
theorem lt_of_cell {w : World} {p : Addr} {v : Value} (h : w.cell? p = some v) : p.block < w.heap.size := by
  unfold World.cell? at h
  rcases Nat.lt_or_ge p.block w.heap.size with h1 | h1
  · exact h1
  · rw [Array.getElem?_eq_none h1] at h; cases h

/-- A box: a block of one cell, not frozen. -/
def Box (w : World) (n : Nat) (v : Value) : Prop := ∃ t, w.heap[n]? = some (.cells #[v] t (0, 0))
theorem Box.cell {w : World} {n : Nat} {v : Value} (h : Box w n v) : w.cell? ⟨n, 0, none⟩ = some v := by
  obtain ⟨t, h⟩ := h; simp [World.cell?, h]
theorem Box.cell1 {w : World} {n : Nat} {v : Value} (h : Box w n v) : w.cell? ⟨n, 1, none⟩ = none := by
  obtain ⟨t, h⟩ := h; simp [World.cell?, h]
theorem Box.frozen {w : World} {n : Nat} {v : Value} (h : Box w n v) : w.frozen? ⟨n, 0, none⟩ = false := by
  obtain ⟨t, h⟩ := h; simp [World.frozen?, h]
theorem Box.lt {w : World} {n : Nat} {v : Value} (h : Box w n v) : n < w.heap.size := lt_of_cell (p := ⟨n, 0, none⟩) h.cell
theorem Box.of {w w' : World} {n : Nat} {v : Value} (h : Box w n v) (k : w'.heap[n]? = w.heap[n]?) : Box w' n v := by
  obtain ⟨t, h'⟩ := h; exact ⟨t, by rw [k]; exact h'⟩
theorem Box.chg {S : Nat → Prop} {w w' : World} {n : Nat} {v : Value} (h : Box w n v) (k : Chg S w w') (hd : ¬ S n) : Box w' n v := h.of (k.block n h.lt hd)
theorem Box.keep {D : World → Nat → Prop} {w w' : World} {n : Nat} {v : Value} (h : Box w n v) (k : Keep D w w') (hd : ¬ D w n) : Box w' n v := h.of (k.block n h.lt hd)
theorem Box.new {w : World} (v : Value) (t : Nat) : Box (w.alloc (.cells #[v] t)) w.heap.size v := ⟨t, by show (w.heap.push _)[w.heap.size]? = _; simp⟩
theorem Box.set {w : World} {n : Nat} {v : Value} (h : Box w n v) (u : Value) : Box (w.setCell ⟨n, 0, none⟩ u) n u := by
  obtain ⟨t, h'⟩ := h
  exact ⟨t, by simp [World.setCell, Array.getElem?_modify, h']⟩

/-! ### How a call that hands nothing back ends -/

/-- A panic's chain: what it panics with; older ones behind it. -/
def Thrown (v : Value) (ch : List PanicEntry) : Prop := ∃ older, ch = { v, recovered := false, goexit := false } :: older ∧ ∀ x ∈ older, x.goexit = false
theorem Thrown.one (v : Value) : Thrown v [{ v, recovered := false }] := ⟨[], rfl, by simp⟩
inductive Fin where
  | ret
  | bail (c a : Int)
  | other (t : Nat) (x : Value)
/-- What is no Bail: of another type, or a nil one. -/
def Odd (t : Nat) (x : Value) : Prop := t ≠ 82 ∨ x = .pointer none
def Ends (D : World → Nat → Prop) : Fin → Ending → World → Prop
  | .ret, e, _ => e = .returned (.tuple #[])
  | .bail c a, e, w => ∃ ch b, e = .panicked ch ∧ Thrown (.iface 82 (.pointer (some ⟨b, 0, none⟩))) ch ∧ w.cell? ⟨b, 0, none⟩ = some (.int .i64 c) ∧ w.cell? ⟨b, 1, none⟩ = some (.int .i64 a) ∧ ¬ D w b
  | .other t x, e, _ => ∃ ch, e = .panicked ch ∧ Thrown (.iface t x) ch ∧ Odd t x

/-! ### Function values -/

theorem run_equalIn_func {P : Program} {t : TypeId} {ps rs : Array TypeId} {v : Bool} (d : Nat) (ht : P.underlying t = some (.func ps rs v)) (g : Nat) (f c : Array Value) (w : World) : (Op.equalIn (d + 1) t (.func (.func g) f c) .nilFunc).run P w = .ok false w := by
  simp [Op.equalIn, run_underlying ht]
theorem run_neq_func {P : Program} {t : TypeId} {ps rs : Array TypeId} {v : Bool} (ht : P.underlying t = some (.func ps rs v)) (g : Nat) (f c : Array Value) (w : World) : (binOp .neq t (.func (.func g) f c) .nilFunc).run P w = .ok (.bool true) w := by
  simp only [binOp]
  simp [Op.equal, Op.maxDepth, run_equalIn_func 9999 ht]
theorem neq_nil (w : World) : (binOp .neq 1 .nilFunc .nilFunc).run Try.prog w = .ok (.bool false) w := by
  kernel_rfl
theorem run_enter {P : Program} {f : FuncId} {fn : Func} {c : Code} (hf : P.funcs[f]? = some fn) (hname : (fn.name == "runtime.NumGoroutine") = false) (hb : fn.body = some c) (args : Array Value) (w : World) :
    (callFunc f args).run P w = .ok (.enter f args) w := by
  have h1 : fn.name ≠ "runtime.NumGoroutine" := by simpa using hname
  simp [callFunc, hf, h1, hb]
/-- A function that has a body: a call of it enters it. -/
def Ent (g : Nat) : Prop := ∀ (args : Array Value) (w : World), (callFunc g args).run Try.prog w = .ok (.enter g args) w
/-- A result of a call that hands nothing back. -/
def Void (R : Ending → World → Prop) : Ending → World → Prop
  | .returned _, w => R (.returned (.tuple #[])) w
  | .panicked c, w => R (.panicked c) w
  | .outgrown, w => R .outgrown w
theorem call_some (g : Nat) (cap : Array Value) (w : World) (R : Ending → World → Prop) (hg : Ent g) (h : Calls Try.prog g cap w (Void R)) :
    Calls Try.prog 42 #[.func (.func g) #[] cap] w R := by
  have hq := run_neq_func Try.underlying1 g #[] cap
  have hg' := fun a w => hg a w
  go_enter Try.func42, Try.ntmps42
  go_wp2_with fail
  refine h.mono ?_
  rintro e w' hR
  cases e with
  | returned v =>
    go_wp2_with fail
    go_end0
    exact hR
  | panicked c => exact ⟨rfl, hR⟩
  | outgrown => exact ⟨⟨#[], []⟩, w', hR⟩
theorem call_nil (w : World) : Calls Try.prog 42 #[.nilFunc] w fun e w' => e = .returned (.tuple #[]) ∧ w' = w := by
  have hq := neq_nil
  go_enter Try.func42, Try.ntmps42
  go_wp2
  go_end0
  exact ⟨rfl, rfl⟩
def Does (fv : Value) (w : World) (R : Ending → World → Prop) : Prop :=
  (fv = .nilFunc ∧ R (.returned (.tuple #[])) w) ∨ ∃ g cap, fv = .func (.func g) #[] cap ∧ Ent g ∧ Calls Try.prog g cap w (Void R)
theorem call_any {fv : Value} {w : World} {R : Ending → World → Prop} (h : Does fv w R) : Calls Try.prog 42 #[fv] w R := by
  rcases h with ⟨rfl, h⟩ | ⟨g, cap, rfl, hg, h⟩
  · exact (call_nil w).mono (by rintro e w' ⟨rfl, rfl⟩; exact h)
  · exact call_some g cap w R hg h
/-- What a function value does from here on: it changes blocks of the state alone, and ends in one of the three ways. -/
def Runs (D : World → Nat → Prop) (fv : Value) (w : World) (Φ : Fin → World → Prop) : Prop :=
  Does fv w fun e w' => Keep D w w' ∧ ∃ o, Ends D o e w' ∧ Φ o w'
theorem Runs.mono {D : World → Nat → Prop} {fv : Value} {w : World} {Φ Ψ : Fin → World → Prop} (h : Runs D fv w Φ) (hi : ∀ o w', Keep D w w' → Φ o w' → Ψ o w') : Runs D fv w Ψ := by
  rcases h with ⟨rfl, hk, o, he, hΦ⟩ | ⟨g, cap, rfl, hg, hc⟩
  · exact .inl ⟨rfl, hk, o, he, hi o w hk hΦ⟩
  · refine .inr ⟨g, cap, rfl, hg, hc.mono fun e w' hv => ?_⟩
    cases e with
    | returned v => obtain ⟨hk, o, he, hΦ⟩ := hv; exact ⟨hk, o, he, hi o w' hk hΦ⟩
    | panicked c => obtain ⟨hk, o, he, hΦ⟩ := hv; exact ⟨hk, o, he, hi o w' hk hΦ⟩
    | outgrown => obtain ⟨hk, o, he, hΦ⟩ := hv; exact ⟨hk, o, he, hi o w' hk hΦ⟩
/-- A function literal, by what a call of it comes to. -/
theorem Runs.of {D : World → Nat → Prop} {g : Nat} {cap : Array Value} {w : World} {Φ : Fin → World → Prop} (hg : Ent g)
    (h : Calls Try.prog g cap w fun e w' => Keep D w w' ∧ ∃ o, Ends D o e w' ∧ Φ o w') : Runs D (.func (.func g) #[] cap) w Φ := by
  refine .inr ⟨g, cap, rfl, hg, h.mono fun e w' hv => ?_⟩
  cases e with
  | returned v =>
    obtain ⟨hk, o, he, hΦ⟩ := hv
    cases o with
    | ret => exact ⟨hk, .ret, rfl, hΦ⟩
    | bail c a => obtain ⟨_, _, h, _⟩ := he; cases h
    | other t x => obtain ⟨_, h, _⟩ := he; cases h
  | panicked c => exact hv
  | outgrown => exact hv
theorem Runs.nil {D : World → Nat → Prop} {w : World} {Φ : Fin → World → Prop} (h : Φ .ret w) : Runs D .nilFunc w Φ := .inl ⟨rfl, Keep.refl w, .ret, rfl, h⟩

/-! ### recover -/

/-- What recover hands back, and the mode behind it. -/
def recd : FrameMode → Value × FrameMode
  | .panicking ({ v, recovered := false, goexit := false } :: older) => (v, .panicking ({ v, recovered := true } :: older))
  | u => (.nilIface, u)
theorem post_S {P : Program} {fn : Func} {c₀ : Frame} {cs : List Frame} {R : Ending → FrameMode → World → Prop} {u' : FrameMode} {e : Exit} {a : Act} {w : World}
    (h : bodyPost P fn (fun e w' => R e u' w') e a w) : bodyPostS P fn c₀ cs R e a ({ c₀ with mode := u' } :: cs) w := by
  cases e with
  | normal => exact ⟨h.1, u', rfl, h.2⟩
  | ret => exact ⟨h.1, u', rfl, h.2⟩
  | panic ch => exact ⟨h.1, u', rfl, h.2⟩
  | outgrown => exact ⟨u', h⟩
  | exit id => exact h.elim
  | goto l => exact h.elim
theorem callsD_recover {P : Program} {f : FuncId} {fn : Func} {id d ty : Nat} {pos : String} {rest : Code} {args : Array Value} {u : FrameMode} {w : World} {R : Ending → FrameMode → World → Prop}
    (hf : P.funcs[f]? = some fn) (hb : fn.body = some (.seq (.region id #[{ dst := some d, op := .call { callee := .builtin .recover, args := #[], argTypes := #[] }, type := ty, pos := pos, after := #[], guard := none }] false) rest))
    (h : rest.wp P (bodyPost P fn (fun e w' => R e (recd u).2 w')) { tmps := (args ++ Array.replicate (fn.ntmps - args.size) undef).setIfInBounds d (recd u).1, defers := [] } w) :
    CallsD P f args u w R := by
  refine callsD_of_wpS hf hb fun c₀ cs hu => ?_
  apply wpS_seq
  apply wpS_region
  have e0 : ({ c₀ with mode := u } : Frame) = c₀ := by subst hu; rfl
  have key : ∀ (v : Value) (u' : FrameMode), recd u = (v, u') → rest.wpS P (bodyPostS P fn c₀ cs R) { tmps := (args ++ Array.replicate (fn.ntmps - args.size) undef).setIfInBounds d v, defers := [] } ({ c₀ with mode := u' } :: cs) w := by
    intro v u' hr
    rw [hr] at h
    exact wpS_of_wp (wp_mono h fun e a w' hq => post_S hq)
  simp [wpOpsS, go_sem, recoverD, hu, Exit.thenS]
  split
  · rename_i v cs' he
    split at he
    · simp only [Option.some.injEq, Prod.mk.injEq] at he
      obtain ⟨rfl, rfl⟩ := he
      exact key _ _ rfl
    · cases he
  · rename_i he
    split at he
    · cases he
    · rename_i hno
      have hr : recd u = (.nilIface, u) := by
        unfold recd
        split
        · exact (hno _ _ rfl).elim
        · rfl
      have := key .nilIface u hr
      rw [e0] at this
      exact this
/-- Like callsD_recover, where the value is stored in a second slot at once. -/
theorem callsD_recover2 {P : Program} {f : FuncId} {fn : Func} {id d d2 ty ty2 : Nat} {pos pos2 : String} {aft : Array Edge} {rest : Code} {args : Array Value} {u : FrameMode} {w : World} {R : Ending → FrameMode → World → Prop}
    (hf : P.funcs[f]? = some fn) (hb : fn.body = some (.seq (.region id #[{ dst := some d, op := .call { callee := .builtin .recover, args := #[], argTypes := #[] }, type := ty, pos := pos, after := #[], guard := none }, { dst := some d2, op := .assign (.tmp d), type := ty2, pos := pos2, after := aft, guard := none }] false) rest))
    (hd : d < args.size + (fn.ntmps - args.size))
    (h : rest.wp P (bodyPost P fn (fun e w' => R e (recd u).2 w')) { tmps := ((args ++ Array.replicate (fn.ntmps - args.size) undef).setIfInBounds d (recd u).1).setIfInBounds d2 (recd u).1, defers := [] } w) :
    CallsD P f args u w R := by
  refine callsD_of_wpS hf hb fun c₀ cs hu => ?_
  apply wpS_seq
  apply wpS_region
  have e0 : ({ c₀ with mode := u } : Frame) = c₀ := by subst hu; rfl
  have key : ∀ (v : Value) (u' : FrameMode), recd u = (v, u') → rest.wpS P (bodyPostS P fn c₀ cs R) { tmps := ((args ++ Array.replicate (fn.ntmps - args.size) undef).setIfInBounds d v).setIfInBounds d2 v, defers := [] } ({ c₀ with mode := u' } :: cs) w := by
    intro v u' hr
    rw [hr] at h
    exact wpS_of_wp (wp_mono h fun e a w' hq => post_S hq)
  simp [wpOpsS, go_sem, recoverD, hu, Exit.thenS, List.range_succ]
  split
  · rename_i v cs' he
    split at he
    · simp only [Option.some.injEq, Prod.mk.injEq] at he
      obtain ⟨rfl, rfl⟩ := he
      rw [if_pos hd]
      exact key _ _ rfl
    · cases he
  · rename_i he
    split at he
    · cases he
    · rename_i hno
      have hr : recd u = (.nilIface, u) := by
        unfold recd
        split
        · exact (hno _ _ rfl).elim
        · rfl
      have := key .nilIface u hr
      rw [e0] at this
      rw [if_pos hd]
      exact this
theorem as_hit (v : Value) (w : World) : (Instr.typeAssert (.iface 82 v) 20 82 true).run Try.prog w = .ok (.tuple #[v, .bool true]) w := by
  simp [Instr.typeAssert, run_underlying Try.underlying82]
theorem as_miss (t : Nat) (ht : t ≠ 82) (v : Value) (w : World) : (Instr.typeAssert (.iface t v) 20 82 true).run Try.prog w = .ok (.tuple #[.pointer none, .bool false]) w := by
  have hz : ∀ w : World, (zeroValue 82).run Try.prog w = .ok (.pointer none) w := fun _ => by kernel_rfl
  simp [Instr.typeAssert, run_underlying Try.underlying82, ht, hz]
theorem eql_nil20 (w : World) : (binOp BinOp.eql 20 .nilIface .nilIface).run Try.prog w = .ok (.bool true) w := by kernel_rfl
set_option maxRecDepth 100000 in
theorem eql_iface20 (t : Nat) (x : Value) (w : World) : (binOp BinOp.eql 20 (.iface t x) .nilIface).run Try.prog w = .ok (.bool false) w :=
  run_eql_held_nil _ _ _ _ Try.underlying20
theorem run_mkFunc (fn : Fn) (first cap : Array Value) (w : World) : (Instr.makeFunc fn first cap).run Try.prog w = .ok (.func fn first cap) w := rfl
theorem drop_all {older : List PanicEntry} (h : ∀ x ∈ older, x.goexit = false) : older.dropWhile (fun x => !x.goexit) = [] := by
  induction older with
  | nil => rfl
  | cons y l ih =>
    have hy := h y (List.mem_cons_self ..)
    simp only [List.dropWhile_cons, hy, Bool.not_false, if_true]
    exact ih fun x hx => h x (List.mem_cons_of_mem _ hx)
/-- Two boxes that a call has made are written behind its callee's run: the state stays, the blocks of the callee's own stay. -/
theorem two_set {D : World → Nat → Prop} {w w2 : World} (hl : Loc D) (ht : There D w) (hk : Keep D w w2) (h0 : ¬ D w2 w.heap.size) (h1 : ¬ D w2 (w.heap.size + 1)) (x y : Value) :
    Chg (fun k => w.heap.size ≤ k ∧ k < w.heap.size + 2) w2 ((w2.setCell ⟨w.heap.size, 0, none⟩ x).setCell ⟨w.heap.size + 1, 0, none⟩ y) ∧ Keep D w ((w2.setCell ⟨w.heap.size, 0, none⟩ x).setCell ⟨w.heap.size + 1, 0, none⟩ y) ∧ ∀ k, (w.heap.size ≤ k ∧ k < w.heap.size + 2) → w.heap.size ≤ k ∧ ¬ D w2 k := by
  have hc : Chg (fun k => w.heap.size ≤ k ∧ k < w.heap.size + 2) w2 ((w2.setCell ⟨w.heap.size, 0, none⟩ x).setCell ⟨w.heap.size + 1, 0, none⟩ y) :=
    ((Chg.refl _).setCell _ _ (fun _ => by simp)).setCell _ _ (fun _ => by simp)
  have hs : ∀ k, (w.heap.size ≤ k ∧ k < w.heap.size + 2) → w.heap.size ≤ k ∧ ¬ D w2 k := by
    rintro k ⟨h2, h3⟩
    refine ⟨h2, ?_⟩
    rcases (by omega : k = w.heap.size ∨ k = w.heap.size + 1) with rfl | rfl
    · exact h0
    · exact h1
  exact ⟨hc, hk.after hl ht hc hs, hs⟩
/-- What the two boxes hold when the callee is done: what they held. -/
theorem two_boxes {D : World → Nat → Prop} {w w2 : World} {x y : Value} {t u : Nat} (hl : Loc D) (ht : There D w)
    (hk : Keep D ((w.alloc (.cells #[x] t)).alloc (.cells #[y] u)) w2) :
    Keep D w w2 ∧ Box w2 w.heap.size x ∧ Box w2 (w.heap.size + 1) y ∧ ¬ D w2 w.heap.size ∧ ¬ D w2 (w.heap.size + 1) := by
  have he : Ext w ((w.alloc (.cells #[x] t)).alloc (.cells #[y] u)) := ((Chg.refl w).alloc _).alloc _
  have hk0 := Keep.of_ext hl ht he
  have hd : ∀ k, D ((w.alloc (.cells #[x] t)).alloc (.cells #[y] u)) k → D w k := hl _ _ (fun k hk => he.block k (ht k hk) (fun h => h))
  have n0 : ¬ D ((w.alloc (.cells #[x] t)).alloc (.cells #[y] u)) w.heap.size := fun h => absurd (ht _ (hd _ h)) (by omega)
  have n1 : ¬ D ((w.alloc (.cells #[x] t)).alloc (.cells #[y] u)) (w.heap.size + 1) := fun h => absurd (ht _ (hd _ h)) (by omega)
  have b0 : Box ((w.alloc (.cells #[x] t)).alloc (.cells #[y] u)) w.heap.size x := (Box.new (w := w) x t).chg (S := fun _ => False) ((Chg.refl _).alloc _) (fun h => h)
  have b1 : Box ((w.alloc (.cells #[x] t)).alloc (.cells #[y] u)) (w.heap.size + 1) y := by
    have := Box.new (w := w.alloc (.cells #[x] t)) y u
    rwa [World.size_alloc] at this
  exact ⟨hk0.trans hk, b0.keep hk n0, b1.keep hk n1, fun h => n0 (hk.steal _ b0.lt h), fun h => n1 (hk.steal _ b1.lt h)⟩
end Go.Proofs.Ytnamcghcgcknpaa
