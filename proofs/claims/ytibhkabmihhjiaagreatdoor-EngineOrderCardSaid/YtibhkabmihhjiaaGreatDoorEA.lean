/-
  A reckoner of calls of the program: what a call does whose arguments are known, reckoned over a heap of its own.
-/
import Derived.Calls
import Derived.Orders
namespace Go.Proofs.YtibhkabmihhjiaaGreatDoor
open Go
set_option linter.unusedVariables false
namespace Ev
/-! ### Trees by numbers -/
/-- Sixteen of a kind. -/
structure Six (α : Type) where
  f0 : α
  f1 : α
  f2 : α
  f3 : α
  f4 : α
  f5 : α
  f6 : α
  f7 : α
  f8 : α
  f9 : α
  f10 : α
  f11 : α
  f12 : α
  f13 : α
  f14 : α
  f15 : α
noncomputable def Six.sel {α : Type} (t : Six α) (k : Nat) : α := Nat.rec (motive := fun _ => α) t.f0 (fun k1 _ => Nat.rec (motive := fun _ => α) t.f1 (fun k2 _ => Nat.rec (motive := fun _ => α) t.f2 (fun k3 _ => Nat.rec (motive := fun _ => α) t.f3 (fun k4 _ => Nat.rec (motive := fun _ => α) t.f4 (fun k5 _ => Nat.rec (motive := fun _ => α) t.f5 (fun k6 _ => Nat.rec (motive := fun _ => α) t.f6 (fun k7 _ => Nat.rec (motive := fun _ => α) t.f7 (fun k8 _ => Nat.rec (motive := fun _ => α) t.f8 (fun k9 _ => Nat.rec (motive := fun _ => α) t.f9 (fun k10 _ => Nat.rec (motive := fun _ => α) t.f10 (fun k11 _ => Nat.rec (motive := fun _ => α) t.f11 (fun k12 _ => Nat.rec (motive := fun _ => α) t.f12 (fun k13 _ => Nat.rec (motive := fun _ => α) t.f13 (fun k14 _ => Nat.rec (motive := fun _ => α) t.f14 (fun k15 _ => t.f15) k14) k13) k12) k11) k10) k9) k8) k7) k6) k5) k4) k3) k2) k1) k
noncomputable def Six.upd {α : Type} (t : Six α) (k : Nat) (f : α → α) : Six α := Nat.rec (motive := fun _ => Six α) ⟨f t.f0, t.f1, t.f2, t.f3, t.f4, t.f5, t.f6, t.f7, t.f8, t.f9, t.f10, t.f11, t.f12, t.f13, t.f14, t.f15⟩ (fun k1 _ => Nat.rec (motive := fun _ => Six α) ⟨t.f0, f t.f1, t.f2, t.f3, t.f4, t.f5, t.f6, t.f7, t.f8, t.f9, t.f10, t.f11, t.f12, t.f13, t.f14, t.f15⟩ (fun k2 _ => Nat.rec (motive := fun _ => Six α) ⟨t.f0, t.f1, f t.f2, t.f3, t.f4, t.f5, t.f6, t.f7, t.f8, t.f9, t.f10, t.f11, t.f12, t.f13, t.f14, t.f15⟩ (fun k3 _ => Nat.rec (motive := fun _ => Six α) ⟨t.f0, t.f1, t.f2, f t.f3, t.f4, t.f5, t.f6, t.f7, t.f8, t.f9, t.f10, t.f11, t.f12, t.f13, t.f14, t.f15⟩ (fun k4 _ => Nat.rec (motive := fun _ => Six α) ⟨t.f0, t.f1, t.f2, t.f3, f t.f4, t.f5, t.f6, t.f7, t.f8, t.f9, t.f10, t.f11, t.f12, t.f13, t.f14, t.f15⟩ (fun k5 _ => Nat.rec (motive := fun _ => Six α) ⟨t.f0, t.f1, t.f2, t.f3, t.f4, f t.f5, t.f6, t.f7, t.f8, t.f9, t.f10, t.f11, t.f12, t.f13, t.f14, t.f15⟩ (fun k6 _ => Nat.rec (motive := fun _ => Six α) ⟨t.f0, t.f1, t.f2, t.f3, t.f4, t.f5, f t.f6, t.f7, t.f8, t.f9, t.f10, t.f11, t.f12, t.f13, t.f14, t.f15⟩ (fun k7 _ => Nat.rec (motive := fun _ => Six α) ⟨t.f0, t.f1, t.f2, t.f3, t.f4, t.f5, t.f6, f t.f7, t.f8, t.f9, t.f10, t.f11, t.f12, t.f13, t.f14, t.f15⟩ (fun k8 _ => Nat.rec (motive := fun _ => Six α) ⟨t.f0, t.f1, t.f2, t.f3, t.f4, t.f5, t.f6, t.f7, f t.f8, t.f9, t.f10, t.f11, t.f12, t.f13, t.f14, t.f15⟩ (fun k9 _ => Nat.rec (motive := fun _ => Six α) ⟨t.f0, t.f1, t.f2, t.f3, t.f4, t.f5, t.f6, t.f7, t.f8, f t.f9, t.f10, t.f11, t.f12, t.f13, t.f14, t.f15⟩ (fun k10 _ => Nat.rec (motive := fun _ => Six α) ⟨t.f0, t.f1, t.f2, t.f3, t.f4, t.f5, t.f6, t.f7, t.f8, t.f9, f t.f10, t.f11, t.f12, t.f13, t.f14, t.f15⟩ (fun k11 _ => Nat.rec (motive := fun _ => Six α) ⟨t.f0, t.f1, t.f2, t.f3, t.f4, t.f5, t.f6, t.f7, t.f8, t.f9, t.f10, f t.f11, t.f12, t.f13, t.f14, t.f15⟩ (fun k12 _ => Nat.rec (motive := fun _ => Six α) ⟨t.f0, t.f1, t.f2, t.f3, t.f4, t.f5, t.f6, t.f7, t.f8, t.f9, t.f10, t.f11, f t.f12, t.f13, t.f14, t.f15⟩ (fun k13 _ => Nat.rec (motive := fun _ => Six α) ⟨t.f0, t.f1, t.f2, t.f3, t.f4, t.f5, t.f6, t.f7, t.f8, t.f9, t.f10, t.f11, t.f12, f t.f13, t.f14, t.f15⟩ (fun k14 _ => Nat.rec (motive := fun _ => Six α) ⟨t.f0, t.f1, t.f2, t.f3, t.f4, t.f5, t.f6, t.f7, t.f8, t.f9, t.f10, t.f11, t.f12, t.f13, f t.f14, t.f15⟩ (fun k15 _ => ⟨t.f0, t.f1, t.f2, t.f3, t.f4, t.f5, t.f6, t.f7, t.f8, t.f9, t.f10, t.f11, t.f12, t.f13, t.f14, f t.f15⟩) k14) k13) k12) k11) k10) k9) k8) k7) k6) k5) k4) k3) k2) k1) k
/-- A tree of a depth. -/
def QT (α : Type) (d : Nat) : Type := Nat.rec (motive := fun _ => Type) (Option α) (fun _ T => Six T) d
noncomputable def emptyQ (α : Type) (d : Nat) : QT α d := Nat.rec (motive := fun d => QT α d) (none : Option α) (fun _ e => (⟨e, e, e, e, e, e, e, e, e, e, e, e, e, e, e, e⟩ : Six _)) d
noncomputable def getQ (α : Type) (d : Nat) : Nat → QT α d → Option α :=
  Nat.rec (motive := fun d => Nat → QT α d → Option α) (fun _ t => t) (fun _ ih n t => ih (Nat.div n 16) (Six.sel t (Nat.mod n 16))) d
noncomputable def setQ (α : Type) (d : Nat) : Nat → α → QT α d → QT α d :=
  Nat.rec (motive := fun d => Nat → α → QT α d → QT α d) (fun _ x _ => (some x : Option α)) (fun _ ih n x t => Six.upd t (Nat.mod n 16) (ih (Nat.div n 16) x)) d
/-- What does not fit in the tree lies in a list. -/
structure Tr (d : Nat) (α : Type) where
  q : QT α d
  rest : List (Nat × α)
noncomputable def Tr.leaf {d : Nat} {α : Type} : Tr d α := ⟨emptyQ α d, []⟩
noncomputable def look {α : Type} (l : List (Nat × α)) (n : Nat) : Option α :=
  List.rec (motive := fun _ => Option α) none (fun p _ ih => Bool.rec (motive := fun _ => Option α) ih (some p.2) (Nat.beq n p.1)) l
noncomputable def Tr.get {d : Nat} {α : Type} (t : Tr d α) (n : Nat) : Option α :=
  Bool.rec (motive := fun _ => Option α) (look t.rest n) (getQ α d n t.q) (Nat.ble (Nat.succ n) (Nat.pow 16 d))
noncomputable def Tr.set {d : Nat} {α : Type} (t : Tr d α) (n : Nat) (x : α) : Tr d α :=
  Bool.rec (motive := fun _ => Tr d α) ⟨t.q, (n, x) :: t.rest⟩ ⟨setQ α d n x t.q, t.rest⟩ (Nat.ble (Nat.succ n) (Nat.pow 16 d))
/-! ### The heap -/
/-- An object: cells (g: the size of an element of a row that append has made: how much room it has is not known; 0: its cells are all there are), a map, none any more. -/
inductive Ob where
  | cells (vs : List Value) (e : TypeId) (g : Nat)
  | map (es : List (Value × Value))
  | dead
abbrev Env := Tr 2 Value
abbrev Hp := Tr 4 Ob
structure St where
  next : Nat
  heap : Hp
inductive Rs (α : Type) where
  | ok (a : α)
  | no (why : List Nat)
noncomputable def St.new (σ : St) (o : Ob) : St := ⟨σ.next + 1, σ.heap.set σ.next o⟩
noncomputable def St.put (σ : St) (b : Nat) (o : Ob) : St := ⟨σ.next, σ.heap.set b o⟩
/-- An address of the reckoner's. The mark (spot): a slice's, whose room is at least what its cap says. -/
def at' (b o : Nat) : Addr := ⟨b, o, none⟩
def isAggD : TypeDesc → Bool
  | .struct _ | .array _ _ => true
  | _ => false
def plainConst : Value → Bool
  | .bool _ | .int .. | .float .. | .string _ | .pointer none | .slice none _ _ | .map none | .nilFunc | .nilIface => true
  | .agg cs => cs.toList.all fun | .bool _ | .int .. | .float .. | .string _ | .pointer none | .slice none _ _ | .map none | .nilFunc | .nilIface => true | _ => false
  | _ => false
noncomputable def evO (a : Env) : Operand → Option Value
  | .tmp t => a.get t
  | .const v => if plainConst v then some v else none
  | .func f => some (.func (.func f) #[] #[])
  | .global _ => none
noncomputable def evOs (a : Env) : List Operand → Option (List Value)
  | [] => some []
  | o :: os => match evO a o with
    | none => none
    | some v => match evOs a os with
      | none => none
      | some vs => some (v :: vs)
def cellsL (v : Value) : List Value := match v with | .agg cs => cs.toList | v => [v]
def oneC : Value → Bool
  | .agg _ | .tuple _ => false
  | _ => true
section
variable (P : Program)
noncomputable def loadA (σ : St) (t : TypeId) (a : Addr) : Option Value :=
  match σ.heap.get a.block with
  | some (.cells vs _ _) =>
    match P.underlying t with
    | none => none
    | some d => match isAggD d with
      | false => vs[a.off]?
      | true => match P.info? t with
        | none => none
        | some i => let l := (vs.drop a.off).take i.size
          if l.length = i.size then some (.agg l.toArray) else none
  | _ => none
noncomputable def storeL (σ : St) (a : Addr) (cs : List Value) : Option St :=
  match σ.heap.get a.block with
  | some (.cells vs e g) =>
    if a.off + cs.length ≤ vs.length then
      if cs.all oneC then some (σ.put a.block (.cells (vs.take a.off ++ cs ++ vs.drop (a.off + cs.length)) e g)) else none
    else none
  | _ => none
noncomputable def storeA (σ : St) (t : TypeId) (a : Addr) (v : Value) : Option St :=
  match P.info? t with
  | none => none
  | some i => if (cellsL v).length = i.size then storeL σ a (cellsL v) else none
noncomputable def zeroA (t : TypeId) : Option Value :=
  match P.info? t with
  | none => none
  | some i => match i.zero with
    | some z => if plainConst z then some z else none
    | none => none
/-- Cells of a block. -/
noncomputable def cellsA (σ : St) (a : Addr) (n : Nat) : Option (List Value) :=
  match σ.heap.get a.block with
  | some (.cells vs _ _) => let l := (vs.drop a.off).take n
    if l.length = n then some l else none
  | _ => none
def scalC : Value → Bool
  | .bool _ | .int .. | .float .. | .string _ | .pointer none | .slice none _ _ | .map none | .nilFunc | .nilIface => true
  | _ => false
def scal (s : Sem Value) : Option Value := match s with | .pure v => if scalC v then some v else none | _ => none
def strOf (l : List UInt8) : Value := .string ⟨l.toArray⟩
def bytesLt : List UInt8 → List UInt8 → Bool
  | _, [] => false
  | [], _ :: _ => true
  | a :: x, b :: y => a.toNat < b.toNat || (a.toNat == b.toNat && bytesLt x y)
def bytesEq : List UInt8 → List UInt8 → Bool
  | [], [] => true
  | a :: x, b :: y => a.toNat == b.toNat && bytesEq x y
  | _, _ => false
def strA (op : BinOp) (x y : List UInt8) : Option Value :=
  match op with
  | .add => if x.length + y.length < 1000000000 then some (strOf (x ++ y)) else none
  | .eql => some (.bool (bytesEq x y))
  | .neq => some (.bool !(bytesEq x y))
  | .lss => some (.bool (bytesLt x y))
  | .leq => some (.bool (bytesLt x y || bytesEq x y))
  | .gtr => some (.bool !(bytesLt x y || bytesEq x y))
  | .geq => some (.bool !(bytesLt x y))
  | _ => none
/-- Two cells of one basic kind. -/
def cellEq : Value → Value → Option Bool
  | .int k a, .int k' b => if k = k' then some (a == b) else none
  | .string a, .string b => some (bytesEq a.data.toList b.data.toList)
  | .bool a, .bool b => some (a == b)
  | _, _ => none
def cellsEq : List Value → List Value → Option Bool
  | [], [] => some true
  | x :: xs, y :: ys => match cellEq x y with
    | some true => cellsEq xs ys
    | some false => match cellsEq xs ys with
      | none => none
      | some _ => some false
    | none => none
  | _, _ => none
/-- Two parts of a struct, by the part's type. -/
def fieldEq (d : TypeDesc) (x y : Value) : Option Bool :=
  match d, x, y with
  | .int _, .int k a, .int k' b => if k = k' then some (a == b) else none
  | .string, .string a, .string b => some (bytesEq a.data.toList b.data.toList)
  | .bool, .bool a, .bool b => some (a == b)
  | _, _, _ => none
noncomputable def structEq (xs ys : List Value) : List Field → Option Bool
  | [] => some true
  | f :: fs => if f.name = "_" then none else match P.underlying f.type with
    | some d => match xs[f.offset]?, ys[f.offset]? with
      | some x, some y => match fieldEq d x y with
        | some true => structEq xs ys fs
        | some false => some false
        | none => none
      | _, _ => none
    | none => none
noncomputable def eqA (t : TypeId) (x y : Value) : Option Bool :=
  match P.underlying t with
  | none => none
  | some d => match d, x, y with
    | .bool, .bool a, .bool b => some (a == b)
    | .pointer _, .pointer none, .pointer b => some b.isNone
    | .pointer _, .pointer (some _), .pointer none => some false
    | .pointer e, .pointer (some p), .pointer (some q) => match Nat.beq p.block q.block with
      | false => none
      | true => match P.info? e with
        | none => none
        | some i => if i.size = 0 then none else some (Nat.beq p.off q.off)
    | .slice _, .slice none _ _, .slice b _ _ => some b.isNone
    | .slice _, .slice (some _) _ _, .slice none _ _ => some false
    | .map _ _, .map none, .map b => some b.isNone
    | .map _ _, .map (some _), .map none => some false
    | .func _ _ _, .nilFunc, .nilFunc => some true
    | .func _ _ _, .nilFunc, .func .. => some false
    | .func _ _ _, .func .., .nilFunc => some false
    | .interface _, .nilIface, .iface .. => some false
    | .interface _, .iface .., .nilIface => some false
    | .struct fs, .agg xs, .agg ys => if P.eqGuardType P.depth t then none else if P.stoodInHeld t then none else structEq P xs.toList ys.toList fs.toList
    | _, _, _ => none
noncomputable def binA (t : TypeId) (op : BinOp) (x y : Value) : Option Value :=
  match x, y with
  | .int k a, .int k' b =>
    match op with
    | .shl | .shr => scal (Op.shift op k a k' b)
    | .add | .sub | .mul => if k = k' then scal (Op.intArith op k a b) else none
    | .quo | .rem => if k = k' then scal (Op.intDiv op k a b) else none
    | .and | .or | .xor | .andNot => if k = k' then scal (Op.intBits op k a b) else none
    | _ => if k = k' then scal (Op.intCmp op a b) else none
  | .float k a, .float k' b => if k = k' then
      match op with
      | .add | .sub | .mul | .quo => scal (Op.floatArith op k a b)
      | .and | .or | .xor | .andNot | .shl | .shr | .rem => none
      | _ => scal (Op.floatCmp op k a b)
    else none
  | .string a, .string b => strA op a.data.toList b.data.toList
  | x, y => match op with
    | .eql => (eqA P t x y).map .bool
    | .neq => (eqA P t x y).map fun b => .bool !b
    | _ => none
def constO : Operand → Bool
  | .const _ => true
  | _ => false
/-- Two nil interfaces, one of them the literal. -/
noncomputable def nilA (op : BinOp) (t : TypeId) (x y : Operand) : Option Bool :=
  match constO x || constO y with
  | false => none
  | true => match P.underlying t with
    | some (.interface _) => match op with
      | .eql => some true
      | .neq => some false
      | _ => none
    | _ => none
/-- What an operation does. -/
inductive OR where
  | val (v : Value) (σ : St)
  | skip (σ : St)
  | call (f : FuncId) (args : List Value)
  | pan (v : Value)
noncomputable def ptrNew (σ : St) (o : Ob) : OR := .val (.pointer (some ⟨σ.next, 0, none⟩)) (σ.new o)
def natOf : Value → Option Nat
  | .int _ (.ofNat n) => some n
  | _ => none
def bound (d : Nat) : List Value → Option Nat
  | [] => some d
  | v :: _ => natOf v
def okS : Option Nat → Bool
  | none => true
  | some 0 => true
  | _ => false
/-- The cells of what is appended or copied. -/
noncomputable def firstA (σ : St) (size n : Nat) : Value → Option (List Value)
  | .slice (some a) _ _ => if n = 0 then some [] else if okS a.spot = true then cellsA σ a (n * size) else none
  | .slice none _ _ => some []
  | .string s => some ((s.data.toList.take n).map fun b => .int .u8 b.toNat)
  | _ => none
def bytesOf : List Value → Option (List Int)
  | [] => some []
  | .int .u8 n :: l => match bytesOf l with
    | some r => some (n :: r)
    | none => none
  | _ => none
noncomputable def textB (σ : St) (p : Addr) (m : Nat) : Option ByteArray :=
  match okS p.spot with
  | false => none
  | true => match cellsA σ p m with
    | none => none
    | some l => match bytesOf l with
      | none => none
      | some ns => some ⟨(ns.map fun n => UInt8.ofNat n.toNat).toArray⟩
/-- A string of bytes. -/
noncomputable def textA (ds : TypeDesc) (dd : Option TypeDesc) (σ : St) (base : Option Addr) (m : Nat) : Option ByteArray :=
  match ds, dd with
  | .slice e, some .string => match P.underlying e with
    | some (.int .u8) => match base with
      | none => some ⟨#[]⟩
      | some p => if m = 0 then some ⟨#[]⟩ else textB σ p m
    | _ => none
  | _, _ => none
def lenA : Value → Option Nat
  | .slice _ n _ => some n
  | .string s => some s.data.toList.length
  | _ => none
/-- May a row be grown: how much there will be, an element's bytes, the cells that come, an element's zero. -/
noncomputable def okGrow (e : TypeId) (need bytes size got want : Nat) : Bool :=
  Nat.blt need 1000000 && Nat.ble bytes 1000 && Nat.beq got want && match zeroA P e with
  | some z => Nat.beq (cellsL z).length size
  | none => false
noncomputable def appendA (σ : St) (e : TypeId) (size bytes : Nat) (s x : Value) : Option OR :=
  match lenA x, s with
  | some n, .slice base len cap =>
    match firstA σ size n x with
    | none => none
    | some new =>
      if n = 0 then (if len ≤ cap then some (.val (.slice base len cap) σ) else none)
      else if len + n ≤ cap then
        match base with
        | none => none
        | some a => match okS a.spot with
          | false => none
          | true => match storeL σ ⟨a.block, a.off + len * size, none⟩ new with
            | none => none
            | some σ' => some (.val (.slice (some a) (len + n) cap) σ')
      else match okGrow P e (len + n) bytes size new.length (n * size) && new.all oneC with
        | false => none
        | true => match base with
          | none => if len = 0 then some (.val (.slice (some ⟨σ.next, 0, some 0⟩) n n) (σ.new (.cells new e size))) else none
          | some a => match cellsA σ a (len * size) with
            | none => none
            | some old => match a.spot with
              | none => some (.val (.slice (some ⟨σ.next, 0, some 0⟩) (len + n) (len + n)) (σ.new (.cells (old ++ new) e size)))
              | some 0 => if a.off = 0 then
                  match σ.heap.get a.block with
                  | some (.cells vs e' g) => if vs.length = len * size then if g = size then if e' = e then some (.val (.slice (some ⟨σ.next, 0, some 0⟩) (len + n) (len + n)) ((σ.put a.block .dead).new (.cells (old ++ new) e size))) else none else none else none
                  | _ => none
                else none
              | some (_ + 1) => none
  | _, _ => none
def zerosL (z : List Value) : Nat → List Value
  | 0 => []
  | n + 1 => z ++ zerosL z n
noncomputable def builtinA (σ : St) (b : Builtin) (argTypes : List TypeId) (args : List Value) : Option OR :=
  match b, args with
  | .len, [x] => match argTypes with
    | t :: _ => match P.underlying t, x with
      | some (.map _ _), .map none => some (.val (.int .i64 0) σ)
      | some (.map _ _), .map (some r) => match σ.heap.get r with
        | some (.map es) => some (.val (.int .i64 es.length) σ)
        | _ => none
      | some .string, .string s => some (.val (.int .i64 s.data.toList.length) σ)
      | some (.slice _), .slice _ n _ => some (.val (.int .i64 n) σ)
      | _, _ => none
    | [] => none
  | .cap, [.slice base _ c] => match argTypes with
    | t :: _ => match P.underlying t with
      | some (.slice _) => match base with
        | none => some (.val (.int .i64 c) σ)
        | some a => match a.spot with
          | none => some (.val (.int .i64 c) σ)
          | some _ => none
      | _ => none
    | [] => none
  | .append, [s, x] => match argTypes with
    | [t, t2] => match P.underlying t, P.underlying t2 with
      | some (.slice e), some (.slice _) => match P.info? e with
        | some i => appendA P σ e i.size i.bytes s x
        | none => none
      | some (.slice e), some .string => match P.info? e with
        | some i => appendA P σ e i.size i.bytes s x
        | none => none
      | _, _ => none
    | _ => none
  | .copy, [.slice base n _, x] => match argTypes with
    | t :: _ => match P.underlying t with
      | some (.slice e) => match P.info? e, lenA x with
        | some i, some m => match firstA σ i.size (min m n) x with
          | none => none
          | some cs => match base with
            | none => some (.val (.int .i64 ((min m n : Nat) : Int)) σ)
            | some a => if min m n = 0 then some (.val (.int .i64 0) σ) else match okS a.spot with
              | false => none
              | true => match storeL σ ⟨a.block, a.off, none⟩ cs with
                | none => none
                | some σ' => some (.val (.int .i64 ((min m n : Nat) : Int)) σ')
        | _, _ => none
      | _ => none
    | [] => none
  | .clear, [.slice base n _] => match argTypes with
    | t :: _ => match P.underlying t with
      | some (.slice e) => match base with
        | none => some (.val (.tuple #[]) σ)
        | some a => if n = 0 then some (.val (.tuple #[]) σ) else match zeroA P e with
          | none => none
          | some z => match okS a.spot with
            | false => none
            | true => match storeL σ ⟨a.block, a.off, none⟩ (zerosL (cellsL z) n) with
              | none => none
              | some σ' => some (.val (.tuple #[]) σ')
      | _ => none
    | [] => none
  | .min, [.int k x, .int _ y] => some (.val (.int k (if y < x then y else x)) σ)
  | .max, [.int k x, .int _ y] => some (.val (.int k (if x < y then y else x)) σ)
  | _, _ => none
/-- Two keys of a map. -/
noncomputable def keyCmp (kt : TypeId) (x y : Value) : Option Bool :=
  match P.underlying kt with
  | none => none
  | some d => match d with
    | .struct fs => match x, y with
      | .agg xs, .agg ys => if P.stoodInHeld kt then none else structEq P xs.toList ys.toList fs.toList
      | _, _ => none
    | d => fieldEq d x y
def basicD : TypeDesc → Bool
  | .int _ | .string | .bool => true
  | _ => false
noncomputable def fieldsOk (xs : List Value) : List Field → Bool
  | [] => true
  | f :: fs => if f.name = "_" then false else match P.underlying f.type, xs[f.offset]? with
    | some d, some _ => basicD d && fieldsOk xs fs
    | _, _ => false
noncomputable def keyOk (kt : TypeId) (x : Value) : Bool :=
  plainConst x && match P.underlying kt with
  | none => false
  | some d => match d with
    | .struct fs => match x with
      | .agg xs => fieldsOk P xs.toList fs.toList
      | _ => false
    | d => basicD d
noncomputable def findA (kt : TypeId) (k : Value) : List (Value × Value) → Nat → Option (Option (Nat × Value × Value))
  | [], _ => some none
  | e :: es, i => match keyCmp P kt k e.1 with
    | some true => some (some (i, e))
    | some false => findA kt k es (i + 1)
    | none => none
/-- The parts of a struct or a row, put into its zero. -/
def fillA (place : Nat → Option (Nat × Nat)) (cells : List Value) : List (Nat × Value) → Option (List Value)
  | [] => some cells
  | (i, v) :: rest =>
    match place i with
    | none => none
    | some (off, size) =>
      if (cellsL v).length = size then if off + size ≤ cells.length then
        fillA place (cells.take off ++ cellsL v ++ cells.drop (off + size)) rest else none else none
noncomputable def partsA (a : Env) : List (Nat × Operand) → Option (List (Nat × Value))
  | [] => some []
  | (i, o) :: os => match evO a o with
    | none => none
    | some v => match partsA a os with
      | none => none
      | some vs => some ((i, v) :: vs)
noncomputable def sizeA (t : TypeId) : Option Nat := (P.info? t).map fun i => i.size
noncomputable def placesA : List Field → Option (List (Nat × Nat))
  | [] => some []
  | f :: fs => match sizeA P f.type with
    | none => none
    | some n => match placesA fs with
      | none => none
      | some l => some ((f.offset, n) :: l)
noncomputable def opA (σ : St) (a : Env) (o : Op) : Option OR :=
  match o with
  | .move x | .assign x => (evO a x).map fun v => .val v σ
  | .pick c x y => match evO a c with
    | some (.bool true) => (evO a x).map fun v => .val v σ
    | some (.bool false) => (evO a y).map fun v => .val v σ
    | _ => none
  | .alloc e => (zeroA P e).map fun z => ptrNew σ (.cells (cellsL z) e 0)
  | .box e x => (evO a x).map fun v => ptrNew σ (.cells (cellsL v) e 0)
  | .build t ps => match zeroA P t, partsA a ps.toList, P.underlying t with
    | some z, some vs, some (.struct fs) => match placesA P fs.toList with
      | some pl => (fillA (fun i => pl[i]?) (cellsL z) vs).map fun l => .val (.agg l.toArray) σ
      | none => none
    | some z, some vs, some (.array _ e) => match sizeA P e with
      | some n => (fillA (fun i => some (i * n, n)) (cellsL z) vs).map fun l => .val (.agg l.toArray) σ
      | none => none
    | _, _, _ => none
  | .buildSlice t n ps => match P.underlying t, partsA a ps.toList with
    | some (.slice e), some vs => match P.info? e with
      | some i => match zeroA P e with
        | some z => if n * i.size ≤ 100000 then if (cellsL z).length = i.size then
            (fillA (fun j => some (j * i.size, i.size)) (zerosL (cellsL z) n) vs).map fun l => .val (.slice (some ⟨σ.next, 0, none⟩) n n) (σ.new (.cells l e 0)) else none else none
        | none => none
      | none => none
    | _, _ => none
  | .load t x => match evO a x with
    | some (.pointer (some p)) => (loadA P σ t p).map fun v => .val v σ
    | _ => none
  | .store t x y => match evO a x, evO a y with
    | some (.pointer (some p)), some v => (storeA P σ t p v).map .skip
    | _, _ => none
  | .nilCheck x => match evO a x with
    | some (.pointer (some p)) => some (.val (.pointer (some p)) σ)
    | some (.func (.func f) fs cs) => some (.val (.func (.func f) fs cs) σ)
    | some (.iface t v) => some (.val (.iface t v) σ)
    | _ => none
  | .binOp op t x y _ => match evO a x, evO a y with
    | some .nilIface, some .nilIface => match nilA P op t x y with
      | some b => some (.val (.bool b) σ)
      | none => none
    | some u, some v => (binA P t op u v).map fun v => .val v σ
    | _, _ => none
  | .unOp op _ x => match evO a x with
    | some v => (scal (Op.unary op v)).map fun v => .val v σ
    | none => none
  | .convert s d x => match P.underlying s with
   | none => none
   | some ds => match evO a x with
    | some (.int _ n) => match P.underlying d with
      | some (.int k) => (scal (Conv.intToInt k n)).map fun v => .val v σ
      | some (.float k) => (scal (Conv.intToFloat k n)).map fun v => .val v σ
      | _ => none
    | some (.string b) => match P.underlying d with
      | some .string => some (.val (.string b) σ)
      | _ => none
    | some (.slice base m _) => match textA P ds (P.underlying d) σ base m with
      | some b => some (.val (.string b) σ)
      | none => none
    | _ => none
  | .makeInterface t x => match P.underlying t, evO a x with
    | some (.interface _), _ => none
    | some _, some v => some (.val (.iface t v) σ)
    | _, _ => none
  | .makeFunc fn fs cs => match fn, evOs a fs.toList, evOs a cs.toList with
    | .func f, some fs, some cs => some (.val (.func (.func f) fs.toArray cs.toArray) σ)
    | _, _, _ => none
  | .makeMap t none => some (.val (.map (some σ.next)) (σ.new (.map [])))
  | .makeSlice t l c => match P.underlying t, evO a l, evO a c with
    | some (.slice e), some lv, some cv => match natOf lv, natOf cv, P.info? e with
      | some n, some m, some i => match zeroA P e with
        | some z => if n ≤ m then if m ≤ 100000 then if i.bytes ≤ 1000 then if (cellsL z).length = i.size then some (.val (.slice (some ⟨σ.next, 0, none⟩) n m) (σ.new (.cells (zerosL (cellsL z) m) e 0))) else none else none else none else none
        | none => none
      | _, _, _ => none
    | _, _, _ => none
  | .slice t x lo hi mx => match evO a x, evOs a lo.toList, evOs a hi.toList, evOs a mx.toList with
    | some (.string s), some lo, some hi, some [] => match P.underlying t with
     | some .string =>
      let n := s.data.toList.length
      match bound 0 lo, bound n hi with
      | some l, some h => if l ≤ h then if h ≤ n then some (.val (strOf ((s.data.toList.drop l).take (h - l))) σ) else none else none
      | _, _ => none
     | _ => none
    | some (.slice base len cap), some lo, some hi, some mx => match P.underlying t with
      | some (.slice e) => match P.info? e with
        | some i =>
          match bound 0 lo, bound len hi, bound cap mx with
          | some l, some h, some m =>
            if l ≤ h then if h ≤ m then if m ≤ cap then if i.size = 0 then none else if hi.length < mx.length then none else
              match base with
              | none => some (.val (.slice none (h - l) (m - l)) σ)
              | some p => match p.spot, mx with
                | some 0, [] => if l = 0 then some (.val (.slice (some p) h cap) σ) else if l < cap then some (.val (.slice (some ⟨p.block, p.off + l * i.size, some 0⟩) (h - l) (cap - l)) σ) else some (.val (.slice (some ⟨0, 0, some 1⟩) 0 0) σ)
                | some (_ + 1), [] => if l = 0 then some (.val (.slice (some p) h cap) σ) else none
                | some (_ + 1), _ => none
                | _, _ => some (.val (.slice (some (if m = l then ⟨p.block, p.off, none⟩ else ⟨p.block, p.off + l * i.size, none⟩)) (h - l) (m - l)) σ)
            else none else none else none
          | _, _, _ => none
        | none => none
      | _ => none
    | _, _, _, _ => none
  | .fieldAddr s x f => match P.underlying s, evO a x with
    | some (.struct fs), some (.pointer (some p)) => match fs.toList[f]? with
      | some fl => match sizeA P fl.type with
        | some n => if n = 0 then none else some (.val (.pointer (some ⟨p.block, p.off + fl.offset, none⟩)) σ)
        | none => none
      | none => none
    | _, _ => none
  | .field s x f => match P.underlying s, evO a x with
    | some (.struct fs), some (.agg cs) => match fs.toList[f]? with
      | some fl => match P.underlying fl.type, P.info? fl.type with
        | some d, some i => match isAggD d with
          | false => (cs.toList[fl.offset]?).map fun v => .val v σ
          | true => let l := (cs.toList.drop fl.offset).take i.size
            if l.length = i.size then some (.val (.agg l.toArray) σ) else none
        | _, _ => none
      | none => none
    | _, _ => none
  | .indexAddr t x ix => match P.underlying t, evO a x, evO a ix with
    | some (.slice e), some (.slice (some p) len _), some iv => match natOf iv, sizeA P e with
      | some i, some n => if i < len then some (.val (.pointer (some ⟨p.block, p.off + i * n, none⟩)) σ) else none
      | _, _ => none
    | some (.array len e), some (.pointer (some p)), some iv => match natOf iv, sizeA P e with
      | some i, some n => if i < len then some (.val (.pointer (some ⟨p.block, p.off + i * n, none⟩)) σ) else none
      | _, _ => none
    | _, _, _ => none
  | .index t x ix => match P.underlying t, evO a x, evO a ix with
    | some .string, some (.string s), some iv => match natOf iv with
      | some i => match s.data.toList[i]? with
        | some b => some (.val (.int .u8 b.toNat) σ)
        | none => none
      | none => none
    | _, _, _ => none
  | .lookup t x ix ok => match P.underlying t, evO a x, evO a ix with
    | some (.map k e), some (.map r), some key =>
      match (match r with | none => some [] | some r => match σ.heap.get r with | some (.map es) => some es | _ => none) with
      | some es => if keyOk P k key then match findA P k key es 0 with
        | some (some (_, _, v)) => some (.val (if ok then .tuple #[v, .bool true] else v) σ)
        | some none => (zeroA P e).map fun z => .val (if ok then .tuple #[z, .bool false] else z) σ
        | none => none
       else none
      | none => none
    | _, _, _ => none
  | .mapUpdate t m k x => match P.underlying t, evO a m, evO a k, evO a x with
    | some (.map kt _), some (.map (some r)), some key, some v => match σ.heap.get r with
      | some (.map es) => if keyOk P kt key then match findA P kt key es 0 with
        | some (some (i, old, _)) => if Instr.sameBits 10000 old key then some (.skip (σ.put r (.map (es.modify i fun e => (key, v))))) else none
        | some none => some (.skip (σ.put r (.map (es ++ [(key, v)]))))
        | none => none
       else none
      | _ => none
    | _, _, _, _ => none
  | .extract x i => match evO a x with
    | some (.tuple vs) => (vs.toList[i]?).map fun v => .val v σ
    | _ => none
  | .panic x => match evO a x with
    | some (.iface t v) => some (.pan (.iface t v))
    | _ => none
  | .call c => match evOs a c.args.toList with
    | none => none
    | some args => match c.callee with
      | .value f => match evO a f with
        | some (.func (.func g) fs cs) => some (.call g (fs.toList ++ args ++ cs.toList))
        | _ => none
      | .builtin b => builtinA P σ b c.argTypes.toList args
      | .invoke _ _ => none
  | _ => none
/-- How a function ends. -/
inductive FR where
  | ret (v : Value)
  | pan (v : Value)
inductive Ex where
  | normal
  | exit (id : Nat)
  | ret
  | pan (v : Value)
abbrev CallF := FuncId → List Value → St → Rs (FR × St)
def undefA : Value := .tuple #[]
noncomputable def putA (a : Env) (d : Option Tmp) (v : Value) : Env := match d with | some d => a.set d v | none => a
/-- Is an operation wanted? -/
noncomputable def wantA (ops : List Oper) (a : Env) (g : Option (Nat × Bool)) : Option Bool :=
  match g with
  | none => some true
  | some (j, want) => match ops[j]? with
    | some o => match o.dst with
      | some d => match a.get d with
        | some (.bool b) => some (b == want)
        | some _ => some false
        | none => none
      | none => none
    | none => none
/-- May the outcome be written? -/
def fits (n : Nat) (d : Option Tmp) : Bool := match d with | some d => Nat.blt d n | none => true
abbrev Out := Rs (Ex × Env × St)
noncomputable def effA (call : CallF) (n : Nat) (o : Oper) (a : Env) (σ : St) (next : Env → St → Out) : Out :=
  match opA P σ a o.op with
  | some (.val v σ') => next (putA a o.dst v) σ'
  | some (.skip σ') => next (putA a o.dst undefA) σ'
  | some (.pan v) => .ok (.pan v, .leaf, σ)
  | some (.call f args) => match call f args σ with
    | .ok (.ret v, σ') => next (putA a o.dst v) σ'
    | .ok (.pan v, σ') => .ok (.pan v, .leaf, σ')
    | .no w => .no w
  | none => .no (match o.dst with | some d => [d] | none => [9999])
/-- The operations of a region, one behind the other. -/
noncomputable def regL (call : CallF) (n : Nat) (ops : List Oper) (l : List Oper) : Env → St → Out :=
  List.rec (motive := fun _ => Env → St → Out) (fun a σ => .ok (.normal, a, σ))
    (fun o _ ih a σ => match fits n o.dst with
      | false => .no [7005]
      | true => match wantA ops a o.guard with
        | none => .no [7011]
        | some false => ih (putA a o.dst undefA) σ
        | some true => effA P call n o a σ ih) l
/-! ### A region that draws its order -/
/-- Operations that may be done ahead of others: what they yield is asked again behind each other one. -/
def floats : Op → Bool
  | .move _ | .assign _ | .pick .. | .alloc _ | .box .. | .build .. | .buildSlice .. | .load .. | .nilCheck _ | .binOp .. | .unOp .. | .convert .. | .makeInterface ..
  | .makeFunc .. | .makeSlice .. | .makeMap _ none | .slice .. | .fieldAddr .. | .field .. | .indexAddr .. | .index .. | .extract .. => true
  | .call { callee := .builtin .min, .. } | .call { callee := .builtin .max, .. } | .call { callee := .builtin .cap, .. } => true
  | _ => false
def isLen : Op → Bool
  | .call { callee := .builtin .len, .. } => true
  | _ => false
noncomputable def floatsA (a : Env) (o : Op) : Bool :=
  match o with
  | .call c => match c.callee with
    | .builtin .len => match evOs a c.args.toList with
      | some [.map (some _)] => false
      | some [_] => true
      | _ => false
    | _ => floats o
  | .convert _ _ x => match evO a x with
    | some (.slice _ _ _) => false
    | _ => true
  | _ => floats o
def depsOf (o : Oper) : List Nat := (o.after.toList.filter (Region.binds .any)).map fun e => e.on
def tmpsOf (o : Oper) : List Tmp := o.op.operands.toList.filterMap fun | .tmp t => some t | _ => none
def maskStep (acc : List Nat) (o : Oper) : List Nat := acc ++ [(depsOf o).foldl (fun s j => s ||| 2 ^ j ||| acc.getD j 0) 0]
def masksOf (ops : List Oper) : List Nat := ops.foldl maskStep []
def writerOf (t : Tmp) : List Oper → Nat → Option Nat
  | [], _ => none
  | o :: os, i => match o.dst with
    | some d => if Nat.beq d t then some i else writerOf t os (i + 1)
    | none => writerOf t os (i + 1)
def onceD : List Oper → Bool
  | [] => true
  | o :: os => (match o.dst with | some d => (writerOf d os 0).isNone | none => true) && onceD os
def orderedD (ops : List Oper) (ms : List Nat) : List Oper → Nat → Bool
  | [], _ => true
  | o :: os, j => ((tmpsOf o).all fun t => match writerOf t ops 0 with
      | none => true
      | some i => Nat.beq i j || Nat.testBit (ms.getD j 0) i || Nat.testBit (ms.getD i 0) j) && orderedD ops ms os (j + 1)
/-- Each outcome is written once; whoever reads one is ordered with its writer; dependencies lie ahead. -/
def regOk (n : Nat) (ops : List Oper) : Bool :=
  (ops.all fun o => fits n o.dst && match o.guard with | none => true | some g => (depsOf o).any fun j => Nat.beq j g.1) && (ops.zipIdx.all fun x => (depsOf x.1).all fun j => Nat.blt j x.2) && onceD ops && orderedD ops (masksOf ops) ops 0
/-- What is asked again: a load, and an object that has been made. -/
inductive Hd where
  | load (t : TypeId) (p : Addr) (v : Value)
  | made (b : Nat) (o : Ob)
def allEq (f : Value → Value → Bool) : List Value → List Value → Bool
  | [], [] => true
  | x :: xs, y :: ys => f x y && allEq f xs ys
  | _, _ => false
def addrEq (a b : Addr) : Bool := Nat.beq a.block b.block && Nat.beq a.off b.off && (match a.spot, b.spot with | none, none => true | some x, some y => Nat.beq x y | _, _ => false)
def intEq : Int → Int → Bool
  | .ofNat a, .ofNat b => Nat.beq a b
  | .negSucc a, .negSucc b => Nat.beq a b
  | _, _ => false
def valEq : Nat → Value → Value → Bool
  | 0, _, _ => false
  | k + 1, x, y => match x, y with
    | .bool a, .bool b => a == b
    | .int j a, .int l b => (decide (j = l)) && intEq a b
    | .float j a, .float l b => (decide (j = l)) && Nat.beq a b
    | .string a, .string b => bytesEq a.data.toList b.data.toList
    | .pointer none, .pointer none => true
    | .pointer (some a), .pointer (some b) => addrEq a b
    | .slice none n m, .slice none n' m' => Nat.beq n n' && Nat.beq m m'
    | .slice (some a) n m, .slice (some b) n' m' => addrEq a b && Nat.beq n n' && Nat.beq m m'
    | .map none, .map none => true
    | .map (some a), .map (some b) => Nat.beq a b
    | .nilFunc, .nilFunc => true
    | .nilIface, .nilIface => true
    | .iface t v, .iface u w => Nat.beq t u && valEq k v w
    | .func (.func f) fs cs, .func (.func g) fs' cs' => Nat.beq f g && allEq (valEq k) fs.toList fs'.toList && allEq (valEq k) cs.toList cs'.toList
    | .agg cs, .agg cs' => allEq (valEq k) cs.toList cs'.toList
    | _, _ => false
noncomputable def holdsB (σ : St) : Hd → Bool
  | .load t p v => match loadA P σ t p with
    | some u => valEq 50 u v
    | none => false
  | .made b o => match o with
    | .cells vs e _ => match σ.heap.get b with
      | some (.cells us e' g) => Nat.beq g 0 && Nat.beq e e' && allEq (valEq 50) us vs
      | _ => false
    | .map _ => match σ.heap.get b with
      | some (.map []) => true
      | _ => false
    | .dead => false
open Classical in
/-- Does it still hold? -/
noncomputable def holdsH (σ : St) : Hd → Bool
  | .load t p v => decide (loadA P σ t p = some v)
  | .made b o => decide (σ.heap.get b = some o)
structure DS where
  done : Nat
  a : Env
  σ : St
  held : List (Nat × Hd)
def readyD (done : Nat) (o : Oper) : Bool := (depsOf o).all fun j => Nat.testBit done j
noncomputable def heldOf (i : Nat) (σ : St) (a : Env) (o : Op) (v : Value) (σ' : St) (h : List (Nat × Hd)) : List (Nat × Hd) :=
  match o with
  | .load t x => match evO a x with
    | some (.pointer (some p)) => (i, .load t p v) :: h
    | _ => h
  | .alloc _ | .box .. | .buildSlice .. | .makeSlice .. => match σ'.heap.get σ.next with
    | some (.cells vs e _) => (i, .made σ.next (.cells vs e 0)) :: h
    | _ => h
  | .makeMap _ none => (i, .made σ.next (.map [])) :: h
  | _ => h
/-- All that may be done ahead is done. -/
noncomputable def passD (n : Nat) (ops : List Oper) (l : List (Nat × Oper)) : DS → Rs DS :=
  List.rec (motive := fun _ => DS → Rs DS) (fun s => .ok s)
    (fun x _ ih s => match Nat.testBit s.done x.1 with
      | true => ih s
      | false => match readyD s.done x.2 with
        | false => ih s
        | true => match wantA ops s.a x.2.guard with
          | none => .no [7012]
          | some false => ih ⟨s.done ||| 2 ^ x.1, putA s.a x.2.dst undefA, s.σ, s.held⟩
          | some true => match floatsA s.a x.2.op with
            | false => ih s
            | true => match opA P s.σ s.a x.2.op with
              | some (.val v σ') => ih ⟨s.done ||| 2 ^ x.1, putA s.a x.2.dst v, σ', heldOf x.1 s.σ s.a x.2.op v σ' s.held⟩
              | _ => .no (match x.2.dst with | some d => [d, 7006] | none => [7006])) l
/-- Behind a pass: the end, or the one effect that is ready. -/
noncomputable def afterD (call : CallF) (n : Nat) (ops : List Oper) (ms : List Nat) (l : List (Nat × Oper)) (ih : DS → Out) (s : DS) : Out :=
  match l.filter fun x => !Nat.testBit s.done x.1 with
  | [] => .ok (.normal, s.a, s.σ)
  | y :: rest => match (y :: rest).filter fun x => readyD s.done x.2 with
    | [x] => match wantA ops s.a x.2.guard with
      | some true => effA P call n x.2 s.a s.σ fun a σ => ih ⟨s.done ||| 2 ^ x.1, a, σ, s.held.filter fun h => !Nat.testBit (ms.getD x.1 0) h.1⟩
      | _ => .no [7013]
    | _ => .no [7009]
noncomputable def stageD (call : CallF) (n : Nat) (ops : List Oper) (ms : List Nat) (l : List (Nat × Oper)) (k : Nat) : DS → Out :=
  Nat.rec (motive := fun _ => DS → Out) (fun _ => .no [7007])
    (fun _ ih s => match passD P n ops l s with
      | .no w => .no w
      | .ok s => match s.held.all (fun h => holdsH P s.σ h.2) with
        | false => .no [7008]
        | true => afterD P call n ops ms l ih s) k
noncomputable def regD (call : CallF) (n : Nat) (ops : List Oper) (a : Env) (σ : St) : Out :=
  match regOk n ops with
  | false => .no [7010]
  | true => stageD P call n ops (masksOf ops) (ops.zipIdx.map fun x => (x.2, x.1)) (ops.length + 1) ⟨0, a, σ, []⟩
end
section
variable (P : Program)
noncomputable def stepC (call : CallF) (n : Nat) (rec' : Code → Env → St → Rs (Ex × Env × St)) (c : Code) (a : Env) (σ : St) : Rs (Ex × Env × St) :=
  match c with
  | .skip => .ok (.normal, a, σ)
  | .label _ => .ok (.normal, a, σ)
  | .region id ops draw => match draw with
    | false => regL P call n ops.toList ops.toList a σ
    | true => regD P call n ops.toList a σ
  | .seq x y => match rec' x a σ with
    | .ok (.normal, a, σ) => rec' y a σ
    | r => r
  | .cond c x y => match evO a c with
    | some (.bool true) => rec' x a σ
    | some (.bool false) => rec' y a σ
    | _ => .no [7001]
  | .block id c => match rec' c a σ with
    | .ok (.exit i, a, σ) => if i = id then .ok (.normal, a, σ) else .ok (.exit i, a, σ)
    | r => r
  | .loop b => match rec' b a σ with
    | .ok (.normal, a, σ) => rec' (.loop b) a σ
    | r => r
  | .exit id => .ok (.exit id, a, σ)
  | .ret => .ok (.ret, a, σ)
  | .scope b => rec' b a σ
  | _ => .no [7002]
noncomputable def evC (call : CallF) (n : Nat) (k : Nat) : Code → Env → St → Rs (Ex × Env × St) :=
  Nat.rec (motive := fun _ => Code → Env → St → Rs (Ex × Env × St)) (fun _ _ _ => .no [7000]) (fun _ ih => stepC P call n ih) k
noncomputable def argsT (l : List Value) : Nat → Env → Env :=
  List.rec (motive := fun _ => Nat → Env → Env) (fun _ t => t) (fun v _ ih i t => ih (i + 1) (t.set i v)) l
noncomputable def resA (σ : St) (a : Env) : List ResultVar → Option (List Value)
  | [] => some []
  | .tmp t :: rs => match a.get t with
    | none => none
    | some v => match resA σ a rs with
      | none => none
      | some vs => some (v :: vs)
  | .cell p t :: rs => match a.get p with
    | some (.pointer (some p)) => match loadA P σ t p with
      | none => none
      | some v => match resA σ a rs with
        | none => none
        | some vs => some (v :: vs)
    | _ => none
def oneRes : List Value → Value
  | [v] => v
  | vs => .tuple vs.toArray
/-- Functions that are reckoned in another way: by what they are handed, and what calls do. -/
abbrev Hook := CallF → FuncId → List Value → St → Option (Rs (FR × St))
noncomputable def plainF (rec' : CallF) (k : Nat) (f : FuncId) (args : List Value) (σ : St) : Rs (FR × St) :=
  match P.funcs[f]? with
  | none => .no [8000, f]
  | some fn => match fn.body with
    | none => .no [8001, f]
    | some body => match evC P rec' fn.ntmps k body (argsT args 0 .leaf) σ with
      | .ok (.normal, a, σ) => match resA P σ a fn.results.toList with
        | some vs => .ok (.ret (oneRes vs), σ)
        | none => .no [8002, f]
      | .ok (.ret, a, σ) => match resA P σ a fn.results.toList with
        | some vs => .ok (.ret (oneRes vs), σ)
        | none => .no [8002, f]
      | .ok (.pan v, _, σ) => .ok (.pan v, σ)
      | .ok (.exit _, _, _) => .no [8003, f]
      | .no w => .no (f :: w)
noncomputable def stepF (hk : Hook) (rec' : CallF) (k : Nat) (f : FuncId) (args : List Value) (σ : St) : Rs (FR × St) :=
  match hk rec' f args σ with
  | some r => r
  | none => plainF P rec' k f args σ
noncomputable def evF (hk : Hook) (n : Nat) : CallF :=
  Nat.rec (motive := fun _ => CallF) (fun f _ _ => .no [8004, f]) (fun _ ih => stepF P hk ih 1000000) n
end
def noHook : Hook := fun _ _ _ _ => none
noncomputable def st0 : St := ⟨0, .leaf⟩
noncomputable def valOf : Rs (FR × St) → Option Value
  | .ok (.ret v, _) => some v
  | _ => none
end Ev
end Go.Proofs.YtibhkabmihhjiaaGreatDoor
