/-
  The reckoner, made quick: the same results, reckoned in fewer steps of the kernel.
-/
import Derived.Test.YtibhkabmihhjiaaGreatDoorEA
namespace Go.Proofs.YtibhkabmihhjiaaGreatDoor
open Go
set_option linter.unusedVariables false
namespace Ev
inductive Clo (α : Type) where
  | mk (f : α)
/-! ### Paths in trees -/
noncomputable def getAt {α R : Type} (d : Nat) (k : Nat) (g : QT α d → Option α) (K : (Six (QT α d) → Option α) → R) : R := Nat.rec (motive := fun _ => R) (K (fun t => g (Six.f0 t))) (fun k1 _ => Nat.rec (motive := fun _ => R) (K (fun t => g (Six.f1 t))) (fun k2 _ => Nat.rec (motive := fun _ => R) (K (fun t => g (Six.f2 t))) (fun k3 _ => Nat.rec (motive := fun _ => R) (K (fun t => g (Six.f3 t))) (fun k4 _ => Nat.rec (motive := fun _ => R) (K (fun t => g (Six.f4 t))) (fun k5 _ => Nat.rec (motive := fun _ => R) (K (fun t => g (Six.f5 t))) (fun k6 _ => Nat.rec (motive := fun _ => R) (K (fun t => g (Six.f6 t))) (fun k7 _ => Nat.rec (motive := fun _ => R) (K (fun t => g (Six.f7 t))) (fun k8 _ => Nat.rec (motive := fun _ => R) (K (fun t => g (Six.f8 t))) (fun k9 _ => Nat.rec (motive := fun _ => R) (K (fun t => g (Six.f9 t))) (fun k10 _ => Nat.rec (motive := fun _ => R) (K (fun t => g (Six.f10 t))) (fun k11 _ => Nat.rec (motive := fun _ => R) (K (fun t => g (Six.f11 t))) (fun k12 _ => Nat.rec (motive := fun _ => R) (K (fun t => g (Six.f12 t))) (fun k13 _ => Nat.rec (motive := fun _ => R) (K (fun t => g (Six.f13 t))) (fun k14 _ => Nat.rec (motive := fun _ => R) (K (fun t => g (Six.f14 t))) (fun k15 _ => K (fun t => g (Six.f15 t))) k14) k13) k12) k11) k10) k9) k8) k7) k6) k5) k4) k3) k2) k1) k
noncomputable def setAt {α R : Type} (d : Nat) (k : Nat) (s : α → QT α d → QT α d) (K : (α → Six (QT α d) → Six (QT α d)) → R) : R := Nat.rec (motive := fun _ => R) (K (fun x t => Six.rec (motive := fun _ => Six (QT α d)) (fun f0 f1 f2 f3 f4 f5 f6 f7 f8 f9 f10 f11 f12 f13 f14 f15 => ⟨s x f0, f1, f2, f3, f4, f5, f6, f7, f8, f9, f10, f11, f12, f13, f14, f15⟩) t)) (fun k1 _ => Nat.rec (motive := fun _ => R) (K (fun x t => Six.rec (motive := fun _ => Six (QT α d)) (fun f0 f1 f2 f3 f4 f5 f6 f7 f8 f9 f10 f11 f12 f13 f14 f15 => ⟨f0, s x f1, f2, f3, f4, f5, f6, f7, f8, f9, f10, f11, f12, f13, f14, f15⟩) t)) (fun k2 _ => Nat.rec (motive := fun _ => R) (K (fun x t => Six.rec (motive := fun _ => Six (QT α d)) (fun f0 f1 f2 f3 f4 f5 f6 f7 f8 f9 f10 f11 f12 f13 f14 f15 => ⟨f0, f1, s x f2, f3, f4, f5, f6, f7, f8, f9, f10, f11, f12, f13, f14, f15⟩) t)) (fun k3 _ => Nat.rec (motive := fun _ => R) (K (fun x t => Six.rec (motive := fun _ => Six (QT α d)) (fun f0 f1 f2 f3 f4 f5 f6 f7 f8 f9 f10 f11 f12 f13 f14 f15 => ⟨f0, f1, f2, s x f3, f4, f5, f6, f7, f8, f9, f10, f11, f12, f13, f14, f15⟩) t)) (fun k4 _ => Nat.rec (motive := fun _ => R) (K (fun x t => Six.rec (motive := fun _ => Six (QT α d)) (fun f0 f1 f2 f3 f4 f5 f6 f7 f8 f9 f10 f11 f12 f13 f14 f15 => ⟨f0, f1, f2, f3, s x f4, f5, f6, f7, f8, f9, f10, f11, f12, f13, f14, f15⟩) t)) (fun k5 _ => Nat.rec (motive := fun _ => R) (K (fun x t => Six.rec (motive := fun _ => Six (QT α d)) (fun f0 f1 f2 f3 f4 f5 f6 f7 f8 f9 f10 f11 f12 f13 f14 f15 => ⟨f0, f1, f2, f3, f4, s x f5, f6, f7, f8, f9, f10, f11, f12, f13, f14, f15⟩) t)) (fun k6 _ => Nat.rec (motive := fun _ => R) (K (fun x t => Six.rec (motive := fun _ => Six (QT α d)) (fun f0 f1 f2 f3 f4 f5 f6 f7 f8 f9 f10 f11 f12 f13 f14 f15 => ⟨f0, f1, f2, f3, f4, f5, s x f6, f7, f8, f9, f10, f11, f12, f13, f14, f15⟩) t)) (fun k7 _ => Nat.rec (motive := fun _ => R) (K (fun x t => Six.rec (motive := fun _ => Six (QT α d)) (fun f0 f1 f2 f3 f4 f5 f6 f7 f8 f9 f10 f11 f12 f13 f14 f15 => ⟨f0, f1, f2, f3, f4, f5, f6, s x f7, f8, f9, f10, f11, f12, f13, f14, f15⟩) t)) (fun k8 _ => Nat.rec (motive := fun _ => R) (K (fun x t => Six.rec (motive := fun _ => Six (QT α d)) (fun f0 f1 f2 f3 f4 f5 f6 f7 f8 f9 f10 f11 f12 f13 f14 f15 => ⟨f0, f1, f2, f3, f4, f5, f6, f7, s x f8, f9, f10, f11, f12, f13, f14, f15⟩) t)) (fun k9 _ => Nat.rec (motive := fun _ => R) (K (fun x t => Six.rec (motive := fun _ => Six (QT α d)) (fun f0 f1 f2 f3 f4 f5 f6 f7 f8 f9 f10 f11 f12 f13 f14 f15 => ⟨f0, f1, f2, f3, f4, f5, f6, f7, f8, s x f9, f10, f11, f12, f13, f14, f15⟩) t)) (fun k10 _ => Nat.rec (motive := fun _ => R) (K (fun x t => Six.rec (motive := fun _ => Six (QT α d)) (fun f0 f1 f2 f3 f4 f5 f6 f7 f8 f9 f10 f11 f12 f13 f14 f15 => ⟨f0, f1, f2, f3, f4, f5, f6, f7, f8, f9, s x f10, f11, f12, f13, f14, f15⟩) t)) (fun k11 _ => Nat.rec (motive := fun _ => R) (K (fun x t => Six.rec (motive := fun _ => Six (QT α d)) (fun f0 f1 f2 f3 f4 f5 f6 f7 f8 f9 f10 f11 f12 f13 f14 f15 => ⟨f0, f1, f2, f3, f4, f5, f6, f7, f8, f9, f10, s x f11, f12, f13, f14, f15⟩) t)) (fun k12 _ => Nat.rec (motive := fun _ => R) (K (fun x t => Six.rec (motive := fun _ => Six (QT α d)) (fun f0 f1 f2 f3 f4 f5 f6 f7 f8 f9 f10 f11 f12 f13 f14 f15 => ⟨f0, f1, f2, f3, f4, f5, f6, f7, f8, f9, f10, f11, s x f12, f13, f14, f15⟩) t)) (fun k13 _ => Nat.rec (motive := fun _ => R) (K (fun x t => Six.rec (motive := fun _ => Six (QT α d)) (fun f0 f1 f2 f3 f4 f5 f6 f7 f8 f9 f10 f11 f12 f13 f14 f15 => ⟨f0, f1, f2, f3, f4, f5, f6, f7, f8, f9, f10, f11, f12, s x f13, f14, f15⟩) t)) (fun k14 _ => Nat.rec (motive := fun _ => R) (K (fun x t => Six.rec (motive := fun _ => Six (QT α d)) (fun f0 f1 f2 f3 f4 f5 f6 f7 f8 f9 f10 f11 f12 f13 f14 f15 => ⟨f0, f1, f2, f3, f4, f5, f6, f7, f8, f9, f10, f11, f12, f13, s x f14, f15⟩) t)) (fun k15 _ => K (fun x t => Six.rec (motive := fun _ => Six (QT α d)) (fun f0 f1 f2 f3 f4 f5 f6 f7 f8 f9 f10 f11 f12 f13 f14 f15 => ⟨f0, f1, f2, f3, f4, f5, f6, f7, f8, f9, f10, f11, f12, f13, f14, s x f15⟩) t)) k14) k13) k12) k11) k10) k9) k8) k7) k6) k5) k4) k3) k2) k1) k
noncomputable def getQC {α R : Type} (d : Nat) : Nat → ((QT α d → Option α) → R) → R :=
  Nat.rec (motive := fun d => Nat → ((QT α d → Option α) → R) → R) (fun _ K => K fun t => t) (fun d ih n K => ih (Nat.div n 16) fun g => getAt d (Nat.mod n 16) g K) d
noncomputable def setQC {α R : Type} (d : Nat) : Nat → ((α → QT α d → QT α d) → R) → R :=
  Nat.rec (motive := fun d => Nat → ((α → QT α d → QT α d) → R) → R) (fun _ K => K fun x _ => (some x : Option α)) (fun d ih n K => ih (Nat.div n 16) fun s => setAt d (Nat.mod n 16) s K) d
/-- How a number's place is read. -/
noncomputable def getC {α R : Type} (d n : Nat) (K : (Tr d α → Option α) → R) : R :=
  match Nat.ble (Nat.succ n) (Nat.pow 16 d) with
  | true => getQC d n fun g => K fun t => g (Tr.q t)
  | false => K fun t => Tr.get t n
/-- How a number's place is written. -/
noncomputable def setC {α R : Type} (d n : Nat) (K : (α → Tr d α → Tr d α) → R) : R :=
  match Nat.ble (Nat.succ n) (Nat.pow 16 d) with
  | true => setQC d n fun s => K fun x t => Tr.rec (motive := fun _ => Tr d α) (fun q r => ⟨s x q, r⟩) t
  | false => K fun x t => Tr.set t n x
abbrev GetE := Env → Option Value
abbrev SetE := Value → Env → Env
noncomputable def getOK (b : Nat) : Clo (Hp → Option Ob) := getC 4 b Clo.mk
noncomputable def setOK (b : Nat) : Clo (Ob → Hp → Hp) := setC 4 b Clo.mk
noncomputable def setVK (b : Nat) : Clo SetE := setC 2 b Clo.mk
/-! ### Results -/
inductive OutF where
  | nrm (a : Env) (σ : St)
  | ext (id : Nat) (a : Env) (σ : St)
  | ret (a : Env) (σ : St)
  | pan (v : Value) (σ : St)
  | no (w : List Nat)
noncomputable def onBool (v : Value) : (Bool → OutF) → OutF :=
  @Value.rec (fun _ => (Bool → OutF) → OutF) (fun _ => PUnit) (fun _ => PUnit) (fun b K => K b) (fun _ _ _ => .no [7301]) (fun _ _ _ => .no [7301]) (fun _ _ _ _ => .no [7301]) (fun _ _ => .no [7301]) (fun _ _ => .no [7301]) (fun _ _ _ _ => .no [7301]) (fun _ _ => .no [7301]) (fun _ _ => .no [7301]) (fun _ _ _ _ _ _ => .no [7301]) (fun _ => .no [7301]) (fun _ _ _ _ => .no [7301]) (fun _ => .no [7301]) (fun _ _ _ => .no [7301]) (fun _ _ _ => .no [7301]) (fun _ _ => ⟨⟩) ⟨⟩ (fun _ _ _ _ => ⟨⟩) v
noncomputable def onInt (v : Value) : (IntKind → Int → OutF) → OutF :=
  @Value.rec (fun _ => (IntKind → Int → OutF) → OutF) (fun _ => PUnit) (fun _ => PUnit) (fun _ _ => .no [7302]) (fun k n K => K k n) (fun _ _ _ => .no [7302]) (fun _ _ _ _ => .no [7302]) (fun _ _ => .no [7302]) (fun _ _ => .no [7302]) (fun _ _ _ _ => .no [7302]) (fun _ _ => .no [7302]) (fun _ _ => .no [7302]) (fun _ _ _ _ _ _ => .no [7302]) (fun _ => .no [7302]) (fun _ _ _ _ => .no [7302]) (fun _ => .no [7302]) (fun _ _ _ => .no [7302]) (fun _ _ _ => .no [7302]) (fun _ _ => ⟨⟩) ⟨⟩ (fun _ _ _ _ => ⟨⟩) v
noncomputable def onPtr (v : Value) : (Option Addr → OutF) → OutF :=
  @Value.rec (fun _ => (Option Addr → OutF) → OutF) (fun _ => PUnit) (fun _ => PUnit) (fun _ _ => .no [7303]) (fun _ _ _ => .no [7303]) (fun _ _ _ => .no [7303]) (fun _ _ _ _ => .no [7303]) (fun _ _ => .no [7303]) (fun a K => K a) (fun _ _ _ _ => .no [7303]) (fun _ _ => .no [7303]) (fun _ _ => .no [7303]) (fun _ _ _ _ _ _ => .no [7303]) (fun _ => .no [7303]) (fun _ _ _ _ => .no [7303]) (fun _ => .no [7303]) (fun _ _ _ => .no [7303]) (fun _ _ _ => .no [7303]) (fun _ _ => ⟨⟩) ⟨⟩ (fun _ _ _ _ => ⟨⟩) v
noncomputable def onSlice (v : Value) : (Option Addr → Nat → Nat → OutF) → OutF :=
  @Value.rec (fun _ => (Option Addr → Nat → Nat → OutF) → OutF) (fun _ => PUnit) (fun _ => PUnit) (fun _ _ => .no [7304]) (fun _ _ _ => .no [7304]) (fun _ _ _ => .no [7304]) (fun _ _ _ _ => .no [7304]) (fun _ _ => .no [7304]) (fun _ _ => .no [7304]) (fun a l c K => K a l c) (fun _ _ => .no [7304]) (fun _ _ => .no [7304]) (fun _ _ _ _ _ _ => .no [7304]) (fun _ => .no [7304]) (fun _ _ _ _ => .no [7304]) (fun _ => .no [7304]) (fun _ _ _ => .no [7304]) (fun _ _ _ => .no [7304]) (fun _ _ => ⟨⟩) ⟨⟩ (fun _ _ _ _ => ⟨⟩) v
noncomputable def onStr (v : Value) : (ByteArray → OutF) → OutF :=
  @Value.rec (fun _ => (ByteArray → OutF) → OutF) (fun _ => PUnit) (fun _ => PUnit) (fun _ _ => .no [7305]) (fun _ _ _ => .no [7305]) (fun _ _ _ => .no [7305]) (fun _ _ _ _ => .no [7305]) (fun s K => K s) (fun _ _ => .no [7305]) (fun _ _ _ _ => .no [7305]) (fun _ _ => .no [7305]) (fun _ _ => .no [7305]) (fun _ _ _ _ _ _ => .no [7305]) (fun _ => .no [7305]) (fun _ _ _ _ => .no [7305]) (fun _ => .no [7305]) (fun _ _ _ => .no [7305]) (fun _ _ _ => .no [7305]) (fun _ _ => ⟨⟩) ⟨⟩ (fun _ _ _ _ => ⟨⟩) v
noncomputable def onFunc (v : Value) : (Fn → Array Value → Array Value → OutF) → OutF :=
  @Value.rec (fun _ => (Fn → Array Value → Array Value → OutF) → OutF) (fun _ => PUnit) (fun _ => PUnit) (fun _ _ => .no [7306]) (fun _ _ _ => .no [7306]) (fun _ _ _ => .no [7306]) (fun _ _ _ _ => .no [7306]) (fun _ _ => .no [7306]) (fun _ _ => .no [7306]) (fun _ _ _ _ => .no [7306]) (fun _ _ => .no [7306]) (fun _ _ => .no [7306]) (fun fn f c _1 _2 K => K fn f c) (fun _ => .no [7306]) (fun _ _ _ _ => .no [7306]) (fun _ => .no [7306]) (fun _ _ _ => .no [7306]) (fun _ _ _ => .no [7306]) (fun _ _ => ⟨⟩) ⟨⟩ (fun _ _ _ _ => ⟨⟩) v
noncomputable def onTuple (v : Value) : (Array Value → OutF) → OutF :=
  @Value.rec (fun _ => (Array Value → OutF) → OutF) (fun _ => PUnit) (fun _ => PUnit) (fun _ _ => .no [7307]) (fun _ _ _ => .no [7307]) (fun _ _ _ => .no [7307]) (fun _ _ _ _ => .no [7307]) (fun _ _ => .no [7307]) (fun _ _ => .no [7307]) (fun _ _ _ _ => .no [7307]) (fun _ _ => .no [7307]) (fun _ _ => .no [7307]) (fun _ _ _ _ _ _ => .no [7307]) (fun _ => .no [7307]) (fun _ _ _ _ => .no [7307]) (fun _ => .no [7307]) (fun _ _ _ => .no [7307]) (fun vs _1 K => K vs) (fun _ _ => ⟨⟩) ⟨⟩ (fun _ _ _ _ => ⟨⟩) v
noncomputable def onGuard (v : Value) : (Bool → OutF) → OutF → OutF :=
  @Value.rec (fun _ => (Bool → OutF) → OutF → OutF) (fun _ => PUnit) (fun _ => PUnit) (fun b K _ => K b) (fun _ _ _ s => s) (fun _ _ _ s => s) (fun _ _ _ _ s => s) (fun _ _ s => s) (fun _ _ s => s) (fun _ _ _ _ s => s) (fun _ _ s => s) (fun _ _ s => s) (fun _ _ _ _ _ _ s => s) (fun _ s => s) (fun _ _ _ _ s => s) (fun _ s => s) (fun _ _ _ s => s) (fun _ _ _ s => s) (fun _ _ => ⟨⟩) ⟨⟩ (fun _ _ _ _ => ⟨⟩) v
noncomputable def oneF (v : Value) : Bool :=
  @Value.rec (fun _ => Bool) (fun _ => PUnit) (fun _ => PUnit) (fun _ => true) (fun _ _ => true) (fun _ _ => true) (fun _ _ _ => true) (fun _ => true) (fun _ => true) (fun _ _ _ => true) (fun _ => true) (fun _ => true) (fun _ _ _ _ _ => true) true (fun _ _ _ => true) true (fun _ _ => false) (fun _ _ => false) (fun _ _ => ⟨⟩) ⟨⟩ (fun _ _ _ _ => ⟨⟩) v
noncomputable def isI64 (k : IntKind) : Bool := @IntKind.rec (fun _ => Bool) false false false true false false false false k
noncomputable def onSome {α : Type} (c : Nat) (o : Option α) (K : α → OutF) : OutF := Option.rec (motive := fun _ => OutF) (.no [c]) K o
/-! ### Lists of cells -/
noncomputable def nthF (l : List Value) : Nat → (Value → OutF) → OutF :=
  List.rec (motive := fun _ => Nat → (Value → OutF) → OutF) (fun _ _ => .no [7310]) (fun v _ ih n K => Nat.rec (motive := fun _ => OutF) (K v) (fun m _ => ih m K) n) l
noncomputable def hasF (l : List Value) : Nat → Bool :=
  List.rec (motive := fun _ => Nat → Bool) (fun _ => false) (fun _ _ ih n => Nat.rec (motive := fun _ => Bool) true (fun m _ => ih m) n) l
noncomputable def setL (l : List Value) : Nat → Value → List Value :=
  List.rec (motive := fun _ => Nat → Value → List Value) (fun _ _ => []) (fun u t ih n v => Nat.rec (motive := fun _ => List Value) (v :: t) (fun m _ => u :: ih m v) n) l
noncomputable def dropF (n : Nat) : List Value → List Value :=
  Nat.rec (motive := fun _ => List Value → List Value) (fun l => l) (fun _ ih l => List.rec (motive := fun _ => List Value) [] (fun _ t _ => ih t) l) n
noncomputable def takeF (n : Nat) : List Value → Option (List Value) :=
  Nat.rec (motive := fun _ => List Value → Option (List Value)) (fun _ => some []) (fun _ ih l => List.rec (motive := fun _ => Option (List Value)) none (fun v t _ => Option.rec (motive := fun _ => Option (List Value)) none (fun r => some (v :: r)) (ih t)) l) n
/-! ### Operations -/
abbrev KV := Value → St → OutF
abbrev OpRun := St → Env → KV → OutF
abbrev Rd := Env → (Value → OutF) → OutF
noncomputable def rdTmp (g : GetE) : Rd := fun a K => Option.rec (motive := fun _ => OutF) (.no [7320]) K (g a)
noncomputable def rdVal (v : Value) : Rd := fun _ K => K v
noncomputable def rdNo : Rd := fun _ _ => .no [7321]
noncomputable def opdC {R : Type} (x : Operand) (K : Rd → R) : R :=
  match x with
  | .tmp t => getC 2 t fun g => K (rdTmp g)
  | .const v => if plainConst v then K (rdVal v) else K rdNo
  | .func f => K (rdVal (.func (.func f) #[] #[]))
  | .global _ => K rdNo
/-- The cells of a block. -/
noncomputable def cellsF (b : Nat) (σ : St) (K : List Value → TypeId → Nat → OutF) : OutF :=
  St.rec (motive := fun _ => OutF) (fun _ h => Option.rec (motive := fun _ => OutF) (.no [7330]) (fun ob => Ob.rec (motive := fun _ => OutF) K (fun _ => .no [7331]) (.no [7332]) ob) (Clo.rec (motive := fun _ => Option Ob) (fun g => g h) (getOK b))) σ
noncomputable def putF (b : Nat) (o : Ob) (σ : St) (K : St → OutF) : OutF :=
  St.rec (motive := fun _ => OutF) (fun n h => K ⟨n, Clo.rec (motive := fun _ => Hp) (fun s => s o h) (setOK b)⟩) σ
section
variable (P : Program)
noncomputable def slowRun (o : Op) : OpRun := fun σ a K => match opA P σ a o with
  | some (.val v σ') => K v σ'
  | some (.skip σ') => K undefA σ'
  | _ => .no [7340]
end
noncomputable def moveR (r : Rd) : OpRun := fun σ a K => r a fun v => K v σ
noncomputable def atAddr (v : Value) (K : Nat → Nat → OutF) : OutF := onPtr v fun q => Option.rec (motive := fun _ => OutF) (.no [7341]) (fun p => Addr.rec (motive := fun _ => OutF) (fun b o _ => K b o) p) q
noncomputable def loadR (r : Rd) : OpRun := fun σ a K => r a fun v => atAddr v fun b o => cellsF b σ fun vs _ _ => nthF vs o fun v => K v σ
noncomputable def loadAggR (size : Nat) (r : Rd) : OpRun := fun σ a K => r a fun v => atAddr v fun b o => cellsF b σ fun vs _ _ => Option.rec (motive := fun _ => OutF) (.no [7342]) (fun l => K (.agg ⟨l⟩) σ) (takeF size (dropF o vs))
noncomputable def storeR (rx ry : Rd) (slow : OpRun) : OpRun := fun σ a K => rx a fun v => ry a fun u => Bool.rec (motive := fun _ => OutF) (slow σ a K) (atAddr v fun b o => cellsF b σ fun vs e g => Bool.rec (motive := fun _ => OutF) (.no [7343]) (putF b (.cells (setL vs o u) e g) σ (K undefA)) (hasF vs o)) (oneF u)
noncomputable def nilCheckR (r : Rd) (slow : OpRun) : OpRun := fun σ a K => r a fun v => onPtr v fun q => Option.rec (motive := fun _ => OutF) (.no [7344]) (fun p => K (.pointer (some p)) σ) q
noncomputable def fieldAddrR (off : Nat) (r : Rd) : OpRun := fun σ a K => r a fun v => atAddr v fun b o => K (.pointer (some ⟨b, Nat.add o off, none⟩)) σ
noncomputable def natF (v : Value) (K : Nat → OutF) : OutF := onInt v fun _ n => Int.rec (motive := fun _ => OutF) K (fun _ => .no [7345]) n
noncomputable def indexAddrR (size : Nat) (rx ri : Rd) : OpRun := fun σ a K => rx a fun v => ri a fun w => onSlice v fun q len _ => natF w fun i =>
  Bool.rec (motive := fun _ => OutF) (.no [7346]) (Option.rec (motive := fun _ => OutF) (.no [7347]) (fun p => Addr.rec (motive := fun _ => OutF) (fun b o _ => K (.pointer (some ⟨b, Nat.add o (Nat.mul i size), none⟩)) σ) p) q) (Nat.ble (Nat.succ i) len)
/-! ### Whole numbers -/
noncomputable def subF (a b : Nat) : Int := Bool.rec (motive := fun _ => Int) (.negSucc (Nat.pred (Nat.sub b a))) (.ofNat (Nat.sub a b)) (Nat.ble b a)
noncomputable def addI (x : Int) : Int → Int :=
  Int.rec (motive := fun _ => Int → Int) (fun a y => Int.rec (motive := fun _ => Int) (fun b => .ofNat (Nat.add a b)) (fun b => subF a (Nat.succ b)) y) (fun a y => Int.rec (motive := fun _ => Int) (fun b => subF b (Nat.succ a)) (fun b => .negSucc (Nat.succ (Nat.add a b))) y) x
noncomputable def negI (x : Int) : Int := Int.rec (motive := fun _ => Int) (fun n => Nat.rec (motive := fun _ => Int) (.ofNat 0) (fun m _ => .negSucc m) n) (fun n => .ofNat (Nat.succ n)) x
noncomputable def subI (x y : Int) : Int := addI x (negI y)
noncomputable def mulI (x : Int) : Int → Int :=
  Int.rec (motive := fun _ => Int → Int) (fun a y => Int.rec (motive := fun _ => Int) (fun b => .ofNat (Nat.mul a b)) (fun b => negI (.ofNat (Nat.mul a (Nat.succ b)))) y) (fun a y => Int.rec (motive := fun _ => Int) (fun b => negI (.ofNat (Nat.mul (Nat.succ a) b))) (fun b => .ofNat (Nat.mul (Nat.succ a) (Nat.succ b))) y) x
noncomputable def ltI (x : Int) : Int → Bool :=
  Int.rec (motive := fun _ => Int → Bool) (fun a y => Int.rec (motive := fun _ => Bool) (fun b => Nat.ble (Nat.succ a) b) (fun _ => false) y) (fun a y => Int.rec (motive := fun _ => Bool) (fun _ => true) (fun b => Nat.ble (Nat.succ b) a) y) x
noncomputable def eqI (x : Int) : Int → Bool :=
  Int.rec (motive := fun _ => Int → Bool) (fun a y => Int.rec (motive := fun _ => Bool) (fun b => Nat.beq a b) (fun _ => false) y) (fun a y => Int.rec (motive := fun _ => Bool) (fun _ => false) (fun b => Nat.beq a b) y) x
noncomputable def notF (b : Bool) : Bool := Bool.rec (motive := fun _ => Bool) true false b
/-- Both are int; what comes of them. -/
noncomputable def intsR (rx ry : Rd) (f : Int → Int → KV → St → OutF) : OpRun := fun σ a K => rx a fun v => ry a fun w => onInt v fun k x => onInt w fun k' y =>
  Bool.rec (motive := fun _ => OutF) (.no [7350]) (Bool.rec (motive := fun _ => OutF) (.no [7351]) (f x y K σ) (isI64 k')) (isI64 k)
noncomputable def wrapF (r : Int) (K : KV) (σ : St) : OutF :=
  Int.rec (motive := fun _ => OutF) (fun n => Bool.rec (motive := fun _ => OutF) (K (.int .i64 (IntKind.wrap .i64 (.ofNat n))) σ) (K (.int .i64 (.ofNat n)) σ) (Nat.ble n 9223372036854775807))
    (fun n => Bool.rec (motive := fun _ => OutF) (K (.int .i64 (IntKind.wrap .i64 (.negSucc n))) σ) (K (.int .i64 (.negSucc n)) σ) (Nat.ble n 9223372036854775807)) r
noncomputable def boolF (b : Bool) (K : KV) (σ : St) : OutF := Bool.rec (motive := fun _ => OutF) (K (.bool false) σ) (K (.bool true) σ) b
/-- A pointer held against another one, one of them nil. -/
noncomputable def ptrEqR (neg : Bool) (rx ry : Rd) (slow : OpRun) : OpRun := fun σ a K => rx a fun v => ry a fun w => onPtr v fun p => onPtr w fun q =>
  Option.rec (motive := fun _ => OutF) (Option.rec (motive := fun _ => OutF) (boolF (notF neg) K σ) (fun _ => boolF neg K σ) q) (fun _ => Option.rec (motive := fun _ => OutF) (boolF neg K σ) (fun _ => slow σ a K) q) p
noncomputable def lenR (r : Rd) : OpRun := fun σ a K => r a fun v => onSlice v fun _ n _ => K (.int .i64 (.ofNat n)) σ
noncomputable def extractR (i : Nat) (r : Rd) : OpRun := fun σ a K => r a fun v => onTuple v fun vs => Array.rec (motive := fun _ => OutF) (fun l => nthF l i fun v => K v σ) vs
noncomputable def notR (r : Rd) : OpRun := fun σ a K => r a fun v => onBool v fun b => boolF (notF b) K σ
section
variable (P : Program)
noncomputable def opC {R : Type} (o : Op) (K : OpRun → R) : R :=
  match o with
  | .move x => opdC x fun r => K (moveR r)
  | .assign x => opdC x fun r => K (moveR r)
  | .load t x => match P.underlying t with
    | none => K (slowRun P o)
    | some d => match isAggD d with
      | false => opdC x fun r => K (loadR r)
      | true => match P.info? t with
        | none => K (slowRun P o)
        | some i => opdC x fun r => K (loadAggR i.size r)
  | .store t x y => match P.info? t with
    | none => K (slowRun P o)
    | some i => match Nat.beq i.size 1 with
      | false => K (slowRun P o)
      | true => opdC x fun rx => opdC y fun ry => K (storeR rx ry (slowRun P o))
  | .nilCheck x => opdC x fun r => K (nilCheckR r (slowRun P o))
  | .fieldAddr s x f => match P.underlying s with
    | some (.struct fs) => match fs.toList[f]? with
      | some fl => match sizeA P fl.type with
        | some n => match Nat.beq n 0 with
          | true => K (slowRun P o)
          | false => opdC x fun r => K (fieldAddrR fl.offset r)
        | none => K (slowRun P o)
      | none => K (slowRun P o)
    | _ => K (slowRun P o)
  | .indexAddr t x ix => match P.underlying t with
    | some (.slice e) => match sizeA P e with
      | some n => opdC x fun rx => opdC ix fun ri => K (indexAddrR n rx ri)
      | none => K (slowRun P o)
    | _ => K (slowRun P o)
  | .binOp op t x y _ => match P.underlying t with
    | some (.int .i64) => match op with
      | .add => opdC x fun rx => opdC y fun ry => K (intsR rx ry fun a b K σ => wrapF (addI a b) K σ)
      | .sub => opdC x fun rx => opdC y fun ry => K (intsR rx ry fun a b K σ => wrapF (subI a b) K σ)
      | .mul => opdC x fun rx => opdC y fun ry => K (intsR rx ry fun a b K σ => wrapF (mulI a b) K σ)
      | .eql => opdC x fun rx => opdC y fun ry => K (intsR rx ry fun a b K σ => boolF (eqI a b) K σ)
      | .neq => opdC x fun rx => opdC y fun ry => K (intsR rx ry fun a b K σ => boolF (notF (eqI a b)) K σ)
      | .lss => opdC x fun rx => opdC y fun ry => K (intsR rx ry fun a b K σ => boolF (ltI a b) K σ)
      | .gtr => opdC x fun rx => opdC y fun ry => K (intsR rx ry fun a b K σ => boolF (ltI b a) K σ)
      | .leq => opdC x fun rx => opdC y fun ry => K (intsR rx ry fun a b K σ => boolF (notF (ltI b a)) K σ)
      | .geq => opdC x fun rx => opdC y fun ry => K (intsR rx ry fun a b K σ => boolF (notF (ltI a b)) K σ)
      | _ => K (slowRun P o)
    | some (.pointer _) => match op with
      | .eql => opdC x fun rx => opdC y fun ry => K (ptrEqR false rx ry (slowRun P o))
      | .neq => opdC x fun rx => opdC y fun ry => K (ptrEqR true rx ry (slowRun P o))
      | _ => K (slowRun P o)
    | _ => K (slowRun P o)
  | .unOp .not _ x => opdC x fun r => K (notR r)
  | .extract x i => opdC x fun r => K (extractR i r)
  | .call c => match c.callee, c.args.toList, c.argTypes.toList with
    | .builtin .len, [x], [t] => match P.underlying t with
      | some (.slice _) => opdC x fun r => K (lenR r)
      | _ => K (slowRun P o)
    | _, _, _ => K (slowRun P o)
  | _ => K (slowRun P o)
end
/-! ### Operations in a region -/
abbrev OperRun := CallF → Env → St → (Env → St → OutF) → OutF
abbrev Rds := Env → (List Value → OutF) → OutF
noncomputable def rdsNil : Rds := fun _ K => K []
noncomputable def rdsCons (r : Rd) (rs : Rds) : Rds := fun a K => r a fun v => rs a fun vs => K (v :: vs)
noncomputable def opdsC {R : Type} : List Operand → (Rds → R) → R
  | [], K => K rdsNil
  | x :: xs, K => opdC x fun r => opdsC xs fun rs => K (rdsCons r rs)
noncomputable def afterCall (r : Rs (FR × St)) (K : KV) : OutF :=
  Rs.rec (motive := fun _ => OutF) (fun p => Prod.rec (motive := fun _ => OutF) (fun fr σ => FR.rec (motive := fun _ => OutF) (fun v => K v σ) (fun v => .pan v σ) fr) p) (fun w => .no w) r
abbrev CRun := CallF → St → Env → KV → OutF
noncomputable def callR (g : FuncId) (rs : Rds) : CRun := fun call σ a K => rs a fun vs => afterCall (call g vs σ) K
noncomputable def callVR (r : Rd) (rs : Rds) : CRun := fun call σ a K => r a fun v => onFunc v fun fn fs cs => Fn.rec (motive := fun _ => OutF) (fun g => rs a fun vs => afterCall (call g (fs.toList ++ vs ++ cs.toList) σ) K) (fun _ => .no [7360]) (fun _ _ => .no [7360]) (fun _ _ _ _ => .no [7360]) (fun _ => .no [7360]) fn
noncomputable def plainR (run : OpRun) : CRun := fun _ σ a K => run σ a K
section
variable (P : Program)
noncomputable def panicR (o : Op) : CRun := fun _ σ a K => match opA P σ a o with
  | some (.pan v) => .pan v σ
  | _ => .no [7361]
noncomputable def runC {R : Type} (o : Op) (K : CRun → R) : R :=
  match o with
  | .panic x => K (panicR P (.panic x))
  | .call c => match c.callee with
    | .value (.func g) => opdsC c.args.toList fun rs => K (callR g rs)
    | .value f => opdC f fun r => opdsC c.args.toList fun rs => K (callVR r rs)
    | _ => opC P (.call c) fun run => K (plainR run)
  | o => opC P o fun run => K (plainR run)
end
noncomputable def putNone (run : CRun) : OperRun := fun call a σ next => run call σ a fun _ σ' => next a σ'
noncomputable def putSome (s : SetE) (run : CRun) : OperRun := fun call a σ next => run call σ a fun v σ' => next (s v a) σ'
noncomputable def guardR (g : GetE) (want : Bool) (skip : Env → Env) (run : OperRun) : OperRun := fun call a σ next =>
  Option.rec (motive := fun _ => OutF) (.no [7370]) (fun v => onGuard v (fun b => Bool.rec (motive := fun _ => OutF) (Bool.rec (motive := fun _ => OutF) (run call a σ next) (next (skip a) σ) want) (Bool.rec (motive := fun _ => OutF) (next (skip a) σ) (run call a σ next) want) b) (next (skip a) σ)) (g a)
noncomputable def noRun (c : Nat) : OperRun := fun _ _ _ _ => .no [c]
section
variable (P : Program)
noncomputable def dstC {R : Type} (dst : Option Tmp) (run : CRun) (K : (Env → Env) → OperRun → R) : R :=
  match dst with
  | none => K (fun a => a) (putNone run)
  | some t => setC 2 t fun p => K (p undefA) (putSome p run)
noncomputable def guardC {R : Type} (ops : List Oper) (g : Option (Nat × Bool)) (free : R) (K : GetE → Bool → R) (bad : R) : R :=
  match g with
  | none => free
  | some (j, want) => match ops[j]? with
    | some og => match og.dst with
      | some d => getC 2 d fun q => K q want
      | none => bad
    | none => bad
noncomputable def operC {R : Type} (n : Nat) (ops : List Oper) (o : Oper) (K : OperRun → R) : R :=
  match fits n o.dst with
  | false => K (noRun 7005)
  | true => runC P o.op fun run => dstC o.dst run fun skip run => guardC ops o.guard (K run) (fun q want => K (guardR q want skip run)) (K (noRun 7371))
noncomputable def operK (n : Nat) (ops : List Oper) (o : Oper) : Clo OperRun := operC P n ops o Clo.mk
/-- A region that does not draw. -/
noncomputable def regF (n : Nat) (ops : List Oper) (l : List Oper) : CallF → Env → St → (Env → St → OutF) → OutF :=
  List.rec (motive := fun _ => CallF → Env → St → (Env → St → OutF) → OutF) (fun _ a σ k => k a σ)
    (fun o _ ih call a σ k => Clo.rec (motive := fun _ => OutF) (fun run => run call a σ fun a σ => ih call a σ k) (operK P n ops o)) l
end
/-! ### Regions that draw -/
inductive Plan where
  | fin
  | bad (w : Nat)
  | step (i : Nat) (o : Oper) (skip next wait : Plan)
  | effect (i : Nat) (o : Oper) (mask : Nat) (next : Plan)
def makesF : Op → Bool
  | .alloc _ | .box .. | .buildSlice .. | .makeSlice .. | .makeMap _ none => true
  | _ => false
/-- Does an operation float: never, always, or as the values say. -/
inductive Fl where
  | never
  | always
  | asks
abbrev Held := List (Nat × Hd)
def flOf (o : Op) : Fl :=
  match o with
  | .call c => match c.callee with
    | .builtin .len => .asks
    | _ => match floats o with | true => .always | false => .never
  | .convert _ _ _ => .asks
  | _ => match floats o with | true => .always | false => .never
def stepP (i : Nat) (o : Oper) (done wait : Plan) : Plan :=
  match o.guard, flOf o.op with
  | none, .never => wait
  | _, _ => .step i o done done wait
def afterP (L : List (Nat × Oper)) (ms : List Nat) (ih : Nat → Plan) (done : Nat) : Plan :=
  match L.filter fun x => !Nat.testBit done x.1 with
  | [] => .fin
  | y :: rest => match (y :: rest).filter fun x => readyD done x.2 with
    | [x] => .effect x.1 x.2 (ms.getD x.1 0) (ih (done ||| 2 ^ x.1))
    | _ => .bad 7009
noncomputable def passP (L : List (Nat × Oper)) (ms : List Nat) (ih : Nat → Plan) (l : List (Nat × Oper)) : Nat → Plan :=
  List.rec (motive := fun _ => Nat → Plan) (fun done => afterP L ms ih done)
    (fun x _ ihl done => match Nat.testBit done x.1 with
      | true => ihl done
      | false => match readyD done x.2 with
        | false => ihl done
        | true => stepP x.1 x.2 (ihl (done ||| 2 ^ x.1)) (ihl done)) l
noncomputable def planD (L : List (Nat × Oper)) (ms : List Nat) (k : Nat) : Nat → Plan :=
  Nat.rec (motive := fun _ => Nat → Plan) (fun _ => .bad 7007) (fun _ ih done => passP L ms ih L done) k
noncomputable def planK (n : Nat) (ops : List Oper) : Plan :=
  match regOk n ops with
  | false => .bad 7010
  | true => planD (ops.zipIdx.map fun x => (x.2, x.1)) (masksOf ops) (ops.length + 1) 0
abbrev HK := Env → St → Held → OutF
abbrev StepRun := Env → St → Held → HK → HK → HK → OutF
abbrev FlRun := Env → St → Held → (Value → St → Held → OutF) → HK → OutF
noncomputable def flPlain (run : OpRun) : FlRun := fun a σ h K _ => run σ a fun v σ' => K v σ' h
noncomputable def flLoad (i : Nat) (t : TypeId) (r : Rd) (run : OpRun) : FlRun := fun a σ h K _ => r a fun u => onPtr u fun q => Option.rec (motive := fun _ => OutF) (.no [7380]) (fun p => run σ a fun v σ' => K v σ' ((i, .load t p v) :: h)) q
noncomputable def flMade (i : Nat) (run : OpRun) : FlRun := fun a σ h K _ => St.rec (motive := fun _ => OutF) (fun n hp => Option.rec (motive := fun _ => OutF)
  (run σ a fun v σ' => St.rec (motive := fun _ => OutF) (fun _ hp' => Option.rec (motive := fun _ => OutF) (.no [7381]) (fun ob => K v σ' ((i, .made n ob) :: h)) (Clo.rec (motive := fun _ => Option Ob) (fun g => g hp') (getOK n))) σ') (fun _ => .no [7382]) (Clo.rec (motive := fun _ => Option Ob) (fun g => g hp) (getOK n))) σ
noncomputable def flLen (r : Rd) : FlRun := fun a σ h K _ => r a fun v => onSlice v fun _ n _ => K (.int .i64 (.ofNat n)) σ h
noncomputable def flNever : FlRun := fun a σ h _ W => W a σ h
noncomputable def flAsks (o : Op) (run : OpRun) : FlRun := fun a σ h K W => Bool.rec (motive := fun _ => OutF) (W a σ h) (run σ a fun v σ' => K v σ' h) (floatsA a o)
noncomputable def stepPut (put : Value → Env → Env) (run : FlRun) : StepRun := fun a σ h _ N W => run a σ h (fun v σ' h' => N (put v a) σ' h') W
noncomputable def stepGuard (g : GetE) (want : Bool) (skip : Env → Env) (run : StepRun) : StepRun := fun a σ h S N W =>
  Option.rec (motive := fun _ => OutF) (.no [7383]) (fun v => onGuard v (fun b => Bool.rec (motive := fun _ => OutF) (Bool.rec (motive := fun _ => OutF) (run a σ h S N W) (S (skip a) σ h) want) (Bool.rec (motive := fun _ => OutF) (S (skip a) σ h) (run a σ h S N W) want) b) (S (skip a) σ h)) (g a)
noncomputable def noStep (c : Nat) : StepRun := fun _ _ _ _ _ _ => .no [c]
section
variable (P : Program)
noncomputable def flC {R : Type} (i : Nat) (o : Op) (K : FlRun → R) : R :=
  match flOf o with
  | .never => K flNever
  | .asks => match o with
    | .call c => match c.callee, c.args.toList, c.argTypes.toList with
      | .builtin .len, [x], [t] => match P.underlying t with
        | some (.slice _) => opdC x fun r => K (flLen r)
        | _ => opC P (.call c) fun run => K (flAsks (.call c) run)
      | _, _, _ => opC P (.call c) fun run => K (flAsks (.call c) run)
    | o => opC P o fun run => K (flAsks o run)
  | .always => match o with
    | .load t x => opdC x fun r => opC P (.load t x) fun run => K (flLoad i t r run)
    | o => match makesF o with
      | true => opC P o fun run => K (flMade i run)
      | false => opC P o fun run => K (flPlain run)
noncomputable def dstS {R : Type} (dst : Option Tmp) (run : FlRun) (K : (Env → Env) → StepRun → R) : R :=
  match dst with
  | none => K (fun a => a) (stepPut (fun _ a => a) run)
  | some t => setC 2 t fun p => K (p undefA) (stepPut p run)
noncomputable def stepC2 {R : Type} (ops : List Oper) (i : Nat) (o : Oper) (K : StepRun → R) : R :=
  flC P i o.op fun run => dstS o.dst run fun skip run => guardC ops o.guard (K run) (fun q want => K (stepGuard q want skip run)) (K (noStep 7384))
noncomputable def stepK (ops : List Oper) (i : Nat) (o : Oper) : Clo StepRun := stepC2 P ops i o Clo.mk
noncomputable def guardE (g : GetE) (want : Bool) (run : OperRun) : OperRun := fun call a σ next =>
  Option.rec (motive := fun _ => OutF) (.no [7385]) (fun v => onBool v fun b => Bool.rec (motive := fun _ => OutF) (Bool.rec (motive := fun _ => OutF) (run call a σ next) (.no [7386]) want) (Bool.rec (motive := fun _ => OutF) (.no [7386]) (run call a σ next) want) b) (g a)
noncomputable def effC {R : Type} (ops : List Oper) (o : Oper) (K : OperRun → R) : R :=
  runC P o.op fun run => dstC o.dst run fun _ run => guardC ops o.guard (K run) (fun q want => K (guardE q want run)) (K (noRun 7387))
noncomputable def effK (ops : List Oper) (o : Oper) : Clo OperRun := effC P ops o Clo.mk
/-- What is still held, behind an effect. -/
noncomputable def heldF (mask : Nat) (σ : St) (h : Held) : (Held → OutF) → OutF :=
  List.rec (motive := fun _ => (Held → OutF) → OutF) (fun K => K [])
    (fun x _ ih K => Prod.rec (motive := fun _ => OutF) (fun i hd => Bool.rec (motive := fun _ => OutF) (Bool.rec (motive := fun _ => OutF) (.no [7008]) (ih fun r => K ((i, hd) :: r)) (holdsB P σ hd)) (ih K) (Nat.testBit mask i)) x) h
noncomputable def runP (ops : List Oper) (p : Plan) : CallF → Env → St → Held → (Env → St → OutF) → OutF :=
  Plan.rec (motive := fun _ => CallF → Env → St → Held → (Env → St → OutF) → OutF)
    (fun _ a σ _ k => k a σ)
    (fun w _ _ _ _ _ => .no [w])
    (fun i o _ _ _ iS iN iW call a σ h k => Clo.rec (motive := fun _ => OutF) (fun run => run a σ h (fun a σ h => iS call a σ h k) (fun a σ h => iN call a σ h k) (fun a σ h => iW call a σ h k)) (stepK P ops i o))
    (fun i o mask _ ih call a σ h k => Clo.rec (motive := fun _ => OutF) (fun run => run call a σ fun a σ => heldF P mask σ h fun h => ih call a σ h k) (effK P ops o)) p
/-! ### Code -/
abbrev CodeRun := CallF → Nat → Env → St → (Env → St → OutF) → OutF
noncomputable def condC (x : Operand) : Clo Rd := opdC x Clo.mk
noncomputable def regK (draw : Bool) (ops : Array Oper) : CodeRun := fun call n a σ k =>
  Bool.rec (motive := fun _ => OutF) (regF P n ops.toList ops.toList call a σ k) (runP P ops.toList (planK n ops.toList) call a σ [] k) draw
noncomputable def seqK (x y : Code) (ih : Code → CodeRun) : CodeRun := fun call n a σ k => ih x call n a σ fun a σ => ih y call n a σ k
noncomputable def condK (c : Operand) (x y : Code) (ih : Code → CodeRun) : CodeRun := fun call n a σ k =>
  Clo.rec (motive := fun _ => OutF) (fun r => r a fun v => onBool v fun b => Bool.rec (motive := fun _ => OutF) (ih y call n a σ k) (ih x call n a σ k) b) (condC c)
noncomputable def blockK (id : Nat) (c : Code) (ih : Code → CodeRun) : CodeRun := fun call n a σ k =>
  OutF.rec (motive := fun _ => OutF) (fun a σ => k a σ) (fun i a σ => Bool.rec (motive := fun _ => OutF) (.ext i a σ) (k a σ) (Nat.beq i id)) (fun a σ => .ret a σ) (fun v σ => .pan v σ) (fun w => .no w) (ih c call n a σ OutF.nrm)
noncomputable def loopK (b : Code) (ih : Code → CodeRun) : CodeRun := fun call n a σ k => ih b call n a σ fun a σ => ih (.loop b) call n a σ k
noncomputable def goOnK : CodeRun := fun _ _ a σ k => k a σ
noncomputable def exitK (id : Nat) : CodeRun := fun _ _ a σ _ => .ext id a σ
noncomputable def retK : CodeRun := fun _ _ a σ _ => .ret a σ
noncomputable def badK : CodeRun := fun _ _ _ _ _ => .no [7002]
noncomputable def stepCF (ih : Code → CodeRun) (c : Code) : CodeRun :=
  Code.rec (motive := fun _ => (Code → CodeRun) → CodeRun) (fun _ => goOnK) (fun _ ops draw _ => regK P draw ops) (fun x y _ _ ih => seqK x y ih) (fun c x y _ _ ih => condK c x y ih) (fun id c _ ih => blockK id c ih)
    (fun b _ ih => loopK b ih) (fun _ _ _ _ _ _ _ => badK) (fun id _ => exitK id) (fun b _ ih => ih b) (fun _ _ => goOnK) (fun _ _ => badK) (fun _ => retK) (fun _ _ => badK) c ih
noncomputable def evCF (k : Nat) : Code → CodeRun :=
  Nat.rec (motive := fun _ => Code → CodeRun) (fun _ _ _ _ _ _ => .no [7000]) (fun _ ih c => stepCF P ih c) k
/-! ### Functions -/
noncomputable def argsF (l : List Value) : Nat → Env → Env :=
  List.rec (motive := fun _ => Nat → Env → Env) (fun _ t => t) (fun v _ ih i t => ih (Nat.succ i) (Clo.rec (motive := fun _ => Env) (fun s => s v t) (setVK i))) l
/-- A function as it is run: its code, its temporaries, its results. -/
inductive FI where
  | mk (body : Code) (n : Nat) (res : List ResultVar)
  | none
/-- The functions by their numbers. -/
noncomputable def fnTree : Tr 3 Func := (List.rec (motive := fun _ => Nat → Tr 3 Func → Tr 3 Func) (fun _ t => t) (fun fn _ ih i t => ih (Nat.succ i) (Tr.set t i fn)) P.funcs.toList : Nat → Tr 3 Func → Tr 3 Func) 0 .leaf
noncomputable def fnK (f : FuncId) : FI :=
  match Tr.get (fnTree P) f with
  | Option.none => .none
  | some fn => match fn.body with
    | Option.none => .none
    | some b => .mk b fn.ntmps fn.results.toList
noncomputable def resF (f : FuncId) (res : List ResultVar) (a : Env) (σ : St) : Rs (FR × St) :=
  Option.rec (motive := fun _ => Rs (FR × St)) (.no [8002, f]) (fun vs => .ok (.ret (oneRes vs), σ)) (resA P σ a res)
noncomputable def plainFF (rec' : CallF) (k : Nat) (f : FuncId) (args : List Value) (σ : St) : Rs (FR × St) :=
  FI.rec (motive := fun _ => Rs (FR × St)) (fun body n res => OutF.rec (motive := fun _ => Rs (FR × St)) (fun a σ => resF P f res a σ) (fun _ _ _ => .no [8003, f]) (fun a σ => resF P f res a σ) (fun v σ => .ok (.pan v, σ)) (fun w => .no (f :: w))
    (evCF P k body rec' n (argsF args 0 .leaf) σ OutF.nrm)) (.no [8000, f]) (fnK P f)
noncomputable def stepFF (hk : Hook) (rec' : CallF) (k : Nat) (f : FuncId) (args : List Value) (σ : St) : Rs (FR × St) :=
  Option.rec (motive := fun _ => Rs (FR × St)) (plainFF P rec' k f args σ) (fun r => r) (hk rec' f args σ)
noncomputable def evFF (hk : Hook) (n : Nat) : CallF :=
  Nat.rec (motive := fun _ => CallF) (fun f _ _ => .no [8004, f]) (fun _ ih => stepFF P hk ih 1000000) n
end
end Ev
end Go.Proofs.YtibhkabmihhjiaaGreatDoor
