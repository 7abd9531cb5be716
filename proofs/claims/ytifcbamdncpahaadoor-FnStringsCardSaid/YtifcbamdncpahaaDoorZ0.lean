/- How a typed evaluator tells the code of a function: definitions and soundness, part 0. -/
import Derived.WalkKit
import Derived.Deep.Quiet
set_option linter.unusedVariables false
set_option linter.unusedSimpArgs false
namespace Go.Tv
open Go Go.RowKit
def high : Nat := if (0 : Int) = 0 ∧ (1 : Nat) ≤ 2 then 0 else 0
inductive Ty where
  | int (k : IntKind) | bool | str | arr (n : Nat) (e : Ty) | pair (a b : Ty) | sl (e : Ty)
  deriving DecidableEq, Inhabited, Repr
def Ty.size : Ty → Nat
  | .arr n e => n * e.size
  | .pair a b => a.size + b.size
  | _ => 1
def Ty.flat : Ty → Bool
  | .arr _ e => e.flat
  | .pair a b => a.flat && b.flat
  | .sl _ => false
  | _ => true
def Ty.agg : Ty → Bool
  | .arr .. | .pair .. => true
  | _ => false
structure TyE where
  t : Ty
  nf : Nat
  bytes : Nat
structure Tab where
  ty : List (TypeId × TyE)
  eq : List TypeId
  one : List TypeId
def look {α : Type} : List (Nat × α) → Nat → Option α
  | [], _ => none
  | (n, a) :: l, t => match Nat.beq n t with
    | true => some a
    | false => look l t
inductive SV where
  | any
  | nil
  | data (keep : Bool) (t : Ty)
  | fl (keep : Bool) (e : Ty)
  | rptr (keep : Bool) (t : Ty)
  | own (p : Nat)
  | ownp (p : Nat)
  | ptr (p : Nat) (q : List (Option Nat))
  | pr (a b : SV)
  | tnil
  | tcons (a b : SV)
  | clo (f : FuncId) (caps : SV)
  deriving Inhabited, DecidableEq, Repr
inductive SO where
  | var (ty : TypeId) (c : SV)
  | rows (ty : TypeId) (keep : Bool) (e : Ty)
  | gone
  deriving Inhabited, DecidableEq, Repr
def SV.tys : SV → List Ty
  | .data _ t => [t]
  | .fl _ e => [.sl e]
  | .rptr _ t => [t]
  | .ownp _ => [.int .i64, .int .i64]
  | .pr a b => a.tys ++ b.tys
  | .tcons a b => a.tys ++ b.tys
  | .clo _ c => c.tys
  | _ => []
def SO.tys : SO → List Ty
  | .var _ c => c.tys
  | .rows _ _ e => [.sl e]
  | .gone => []
def tysV : List SV → List Ty
  | [] => []
  | a :: l => a.tys ++ tysV l
def tysE : List (Tmp × SV) → List Ty
  | [] => []
  | a :: l => a.2.tys ++ tysE l
def tysO : List SO → List Ty
  | [] => []
  | a :: l => a.tys ++ tysO l
structure Sh where
  env : List (Tmp × SV)
  objs : List SO
  n0 : Nat
  deriving Inhabited, DecidableEq, Repr
structure CSh where
  args : List SV
  objs : List SO
  deriving Inhabited, DecidableEq, Repr
structure RSh where
  ret : SV
  objs : List SO
  deriving Inhabited, DecidableEq, Repr
def Sh.tys (s : Sh) : List Ty := tysE s.env ++ tysO s.objs
def CSh.tys (s : CSh) : List Ty := tysV s.args ++ tysO s.objs
def RSh.tys (s : RSh) : List Ty := s.ret.tys ++ tysO s.objs
end Go.Tv
namespace Go.Tv
open Go Go.RowKit
abbrev Opt (α : Type) := Option α
def ret {α : Type} (a : α) : Opt α := some a
def stopT {α : Type} : Opt α := none
def nope {α : Type} (_ : Nat) : Opt α := none
def lt {α β : Type} (a : α) (k : α → Opt β) : Opt β := k a
def ckb {β : Type} (c : Bool) (k : Opt β) : Opt β := match c with | true => (fun _ : Nat => k) high | false => none
def br {β : Type} (c : Bool) (x y : Opt β) : Opt β := match c with | true => x | false => y
def ob {α β : Type} (o : Opt α) (k : α → Opt β) : Opt β := match o with | some a => k a | none => none
def fx {σ ρ : Type} (f : (σ → Opt ρ) → σ → Opt ρ) : Nat → σ → Opt ρ
  | 0, _ => none
  | k + 1, s => f (fx f k) s
def jn {σ β : Type} (rest : σ → Opt β) (body : (σ → Opt β) → Opt β) : Opt β := (fun _ : Nat => body) high rest
open Classical in
noncomputable def amb {β : Type} (empty : Bool) (f : Bool → Opt β) : Opt β := match empty with
  | false => f false
  | true => if f true = f false then f false else none
structure V2 (α : Type) where (x0 x1 : α)
  deriving DecidableEq, Inhabited
structure V3 (α : Type) where (x0 x1 x2 : α)
  deriving DecidableEq, Inhabited
structure V4 (α : Type) where (x0 x1 x2 x3 : α)
  deriving DecidableEq, Inhabited
structure V5 (α : Type) where (x0 x1 x2 x3 x4 : α)
  deriving DecidableEq, Inhabited
structure V6 (α : Type) where (x0 x1 x2 x3 x4 x5 : α)
  deriving DecidableEq, Inhabited
structure VL (n : Nat) (α : Type) where
  l : List α
  h : l.length = n
  deriving DecidableEq
def V2.get {α : Type} (c : V2 α) : Nat → α | 0 => c.x0 | _ => c.x1
def V3.get {α : Type} (c : V3 α) : Nat → α | 0 => c.x0 | 1 => c.x1 | _ => c.x2
def V4.get {α : Type} (c : V4 α) : Nat → α | 0 => c.x0 | 1 => c.x1 | 2 => c.x2 | _ => c.x3
def V5.get {α : Type} (c : V5 α) : Nat → α | 0 => c.x0 | 1 => c.x1 | 2 => c.x2 | 3 => c.x3 | _ => c.x4
def V6.get {α : Type} (c : V6 α) : Nat → α | 0 => c.x0 | 1 => c.x1 | 2 => c.x2 | 3 => c.x3 | 4 => c.x4 | _ => c.x5
def V2.set {α : Type} (c : V2 α) (k : Nat) (y : α) : V2 α := match k with | 0 => ⟨y, c.x1⟩ | _ => ⟨c.x0, y⟩
def V3.set {α : Type} (c : V3 α) (k : Nat) (y : α) : V3 α := match k with | 0 => ⟨y, c.x1, c.x2⟩ | 1 => ⟨c.x0, y, c.x2⟩ | _ => ⟨c.x0, c.x1, y⟩
def V4.set {α : Type} (c : V4 α) (k : Nat) (y : α) : V4 α := match k with | 0 => ⟨y, c.x1, c.x2, c.x3⟩ | 1 => ⟨c.x0, y, c.x2, c.x3⟩ | 2 => ⟨c.x0, c.x1, y, c.x3⟩ | _ => ⟨c.x0, c.x1, c.x2, y⟩
def V5.set {α : Type} (c : V5 α) (k : Nat) (y : α) : V5 α := match k with | 0 => ⟨y, c.x1, c.x2, c.x3, c.x4⟩ | 1 => ⟨c.x0, y, c.x2, c.x3, c.x4⟩ | 2 => ⟨c.x0, c.x1, y, c.x3, c.x4⟩ | 3 => ⟨c.x0, c.x1, c.x2, y, c.x4⟩ | _ => ⟨c.x0, c.x1, c.x2, c.x3, y⟩
def V6.set {α : Type} (c : V6 α) (k : Nat) (y : α) : V6 α := match k with | 0 => ⟨y, c.x1, c.x2, c.x3, c.x4, c.x5⟩ | 1 => ⟨c.x0, y, c.x2, c.x3, c.x4, c.x5⟩ | 2 => ⟨c.x0, c.x1, y, c.x3, c.x4, c.x5⟩ | 3 => ⟨c.x0, c.x1, c.x2, y, c.x4, c.x5⟩ | 4 => ⟨c.x0, c.x1, c.x2, c.x3, y, c.x5⟩ | _ => ⟨c.x0, c.x1, c.x2, c.x3, c.x4, y⟩
def V2.els {α : Type} (c : V2 α) : List α := [c.x0, c.x1]
def V3.els {α : Type} (c : V3 α) : List α := [c.x0, c.x1, c.x2]
def V4.els {α : Type} (c : V4 α) : List α := [c.x0, c.x1, c.x2, c.x3]
def V5.els {α : Type} (c : V5 α) : List α := [c.x0, c.x1, c.x2, c.x3, c.x4]
def V6.els {α : Type} (c : V6 α) : List α := [c.x0, c.x1, c.x2, c.x3, c.x4, c.x5]
def VL.get {n : Nat} {α : Type} (d : α) (c : VL n α) (k : Nat) : α := c.l.getD k d
def VL.set {n : Nat} {α : Type} (c : VL n α) (k : Nat) (y : α) : VL n α := ⟨c.l.set k y, by simp [c.h]⟩
def VL.els {n : Nat} {α : Type} (c : VL n α) : List α := c.l
def VL.rep (n : Nat) {α : Type} (d : α) : VL n α := ⟨List.replicate n d, by simp⟩
def VL.of (n : Nat) {α : Type} (d : α) (l : List α) : VL n α := ⟨(l ++ List.replicate n d).take n, by simp⟩
def Arr : Nat → Type → Type
  | 2, α => V2 α | 3, α => V3 α | 4, α => V4 α | 5, α => V5 α | 6, α => V6 α
  | n, α => VL n α
def Arr.els {α : Type} : (n : Nat) → Arr n α → List α
  | 2, a => V2.els a | 3, a => V3.els a | 4, a => V4.els a | 5, a => V5.els a | 6, a => V6.els a
  | 0, a => VL.els a | 1, a => VL.els a | _ + 7, a => VL.els a
def Arr.get {α : Type} (d : α) : (n : Nat) → Arr n α → Nat → α
  | 2, a, k => V2.get a k | 3, a, k => V3.get a k | 4, a, k => V4.get a k | 5, a, k => V5.get a k | 6, a, k => V6.get a k
  | 0, a, k => VL.get d a k | 1, a, k => VL.get d a k | _ + 7, a, k => VL.get d a k
def Arr.set {α : Type} : (n : Nat) → Arr n α → Nat → α → Arr n α
  | 2, a, k, y => V2.set a k y | 3, a, k, y => V3.set a k y | 4, a, k, y => V4.set a k y | 5, a, k, y => V5.set a k y | 6, a, k, y => V6.set a k y
  | 0, a, k, y => VL.set a k y | 1, a, k, y => VL.set a k y | _ + 7, a, k, y => VL.set a k y
def Arr.of {α : Type} (d : α) : (n : Nat) → List α → Arr n α
  | 2, l => (⟨l.getD 0 d, l.getD 1 d⟩ : V2 α) | 3, l => (⟨l.getD 0 d, l.getD 1 d, l.getD 2 d⟩ : V3 α) | 4, l => (⟨l.getD 0 d, l.getD 1 d, l.getD 2 d, l.getD 3 d⟩ : V4 α)
  | 5, l => (⟨l.getD 0 d, l.getD 1 d, l.getD 2 d, l.getD 3 d, l.getD 4 d⟩ : V5 α) | 6, l => (⟨l.getD 0 d, l.getD 1 d, l.getD 2 d, l.getD 3 d, l.getD 4 d, l.getD 5 d⟩ : V6 α)
  | 0, l => VL.of 0 d l | 1, l => VL.of 1 d l | n + 7, l => VL.of (n + 7) d l
def Arr.rep {α : Type} (d : α) : (n : Nat) → Arr n α
  | 2 => (⟨d, d⟩ : V2 α) | 3 => (⟨d, d, d⟩ : V3 α) | 4 => (⟨d, d, d, d⟩ : V4 α) | 5 => (⟨d, d, d, d, d⟩ : V5 α) | 6 => (⟨d, d, d, d, d, d⟩ : V6 α)
  | 0 => VL.rep 0 d | 1 => VL.rep 1 d | n + 7 => VL.rep (n + 7) d
def Arr.deq {α : Type} (i : DecidableEq α) : (n : Nat) → DecidableEq (Arr n α)
  | 2 => inferInstanceAs (DecidableEq (V2 α)) | 3 => inferInstanceAs (DecidableEq (V3 α)) | 4 => inferInstanceAs (DecidableEq (V4 α))
  | 5 => inferInstanceAs (DecidableEq (V5 α)) | 6 => inferInstanceAs (DecidableEq (V6 α))
  | 0 => inferInstanceAs (DecidableEq (VL 0 α)) | 1 => inferInstanceAs (DecidableEq (VL 1 α)) | n + 7 => inferInstanceAs (DecidableEq (VL (n + 7) α))
def Ty.den : Ty → Type
  | .int _ => Int
  | .bool => Bool
  | .str => ByteArray
  | .arr n e => Arr n e.den
  | .pair a b => a.den × b.den
  | .sl e => List e.den
def Ty.zero : (t : Ty) → t.den
  | .int _ => (0 : Int)
  | .bool => false
  | .str => (⟨#[]⟩ : ByteArray)
  | .arr n e => Arr.rep e.zero n
  | .pair a b => (a.zero, b.zero)
  | .sl _ => []
def Ty.deq : (t : Ty) → DecidableEq t.den
  | .int _ => inferInstanceAs (DecidableEq Int)
  | .bool => inferInstanceAs (DecidableEq Bool)
  | .str => inferInstanceAs (DecidableEq ByteArray)
  | .arr n e => Arr.deq e.deq n
  | .pair a b => @instDecidableEqProd _ _ a.deq b.deq
  | .sl e => @instDecidableEqList _ e.deq
def castT {t t' : Ty} (h : t = t') (x : t.den) : t'.den := h ▸ x
def cast? (t t' : Ty) (x : t.den) : Option t'.den := if h : t = t' then some (castT h x) else none
structure DV where
  t : Ty
  x : t.den
def TupT : List Ty → Type
  | [] => Unit
  | [a] => a.den
  | a :: b :: l => a.den × TupT (b :: l)
def mktup : (l : List Ty) → List DV → Option (TupT l)
  | [], [] => some ()
  | [a], [d] => cast? d.t a d.x
  | a :: b :: l, d :: ds => match cast? d.t a d.x, mktup (b :: l) ds with
    | some x, some y => some (x, y)
    | _, _ => none
  | _, _ => none
def untup : (l : List Ty) → TupT l → List DV
  | [], _ => []
  | [a], x => [⟨a, x⟩]
  | a :: b :: l, x => ⟨a, x.1⟩ :: untup (b :: l) x.2
def ret1 (t : Ty) (x : t.den) : Opt t.den := ret x
def retT (l : List Ty) (x : TupT l) : Opt (TupT l) := ret x
def ltT {β : Type} (t : Ty) (a : t.den) (k : t.den → Opt β) : Opt β := lt a k
def obT {β : Type} (l : List Ty) (o : Opt (TupT l)) (k : TupT l → Opt β) : Opt β := ob o k
def ob1T {β : Type} (t : Ty) (o : Opt t.den) (k : t.den → Opt β) : Opt β := ob o k
def fxT {β : Type} (l : List Ty) (f : (TupT l → Opt β) → TupT l → Opt β) (n : Nat) (s : TupT l) : Opt β := fx f n s
def jnT {β : Type} (l : List Ty) (rest : TupT l → Opt β) (body : (TupT l → Opt β) → Opt β) : Opt β := jn rest body
noncomputable def ambT {β : Type} (e : Bool) (f : Ty.bool.den → Opt β) : Opt β := amb e f
abbrev Chk := Bool
abbrev NatD := Nat
abbrev BoolD := Bool
def w64 (x : Int) : Int := IntKind.i64.wrap x
def wK (k : IntKind) (x : Int) : Int := match k with | .i64 => w64 x | k => k.wrap x
def inb (i : Int) (n : Nat) : Bool := decide (0 ≤ i ∧ i < (n : Int))
def slb (lo hi : Int) (n : Nat) : Bool := decide (0 ≤ lo ∧ lo ≤ hi ∧ hi ≤ (n : Int))
def apok (bytes n : Nat) : Bool := decide (n * bytes ≤ 140737488355328 ∧ n ≤ maxLen)
def mkok (bytes : Nat) (n m : Int) : Bool := decide (0 ≤ n ∧ n ≤ m ∧ (bytes : Int) * m ≤ 281474976710656 ∧ m ≤ 9223372036854775807)
def stok (n : Nat) : Bool := decide (n ≤ maxLen)
def gl {α : Type} (d : α) (l : List α) (k : Nat) : α := l.getD k d
def sb (s : ByteArray) (k : Nat) : Int := ((s[k]?).getD 0).toNat
def ssub (s : ByteArray) (lo hi : Nat) : ByteArray := s.extract lo hi
def sbytes (s : ByteArray) : List Int := s.data.toList.map fun b => (b.toNat : Int)
def sel {α : Type} (c : Bool) (x y : α) : α := match c with | true => x | false => y
def sub {α : Type} (l : List α) (lo hi : Nat) : List α := (l.drop lo).take (hi - lo)
def clr {α : Type} (d : α) (l : List α) (lo n : Nat) : List α := l.take lo ++ List.replicate n d ++ l.drop (lo + n)
def eqd {α : Type} [DecidableEq α] (a b : α) : Bool := decide (a = b)
def shlI (k : IntKind) (a b : Int) : Int := wK k (a * 2 ^ (min b.toNat k.bits))
def shrI (k : IntKind) (a b : Int) : Int := a.fdiv (2 ^ (min b.toNat k.bits))
def nneg (b : Int) : Bool := decide (0 ≤ b)
def mnI (a b : Int) : Int := if b < a then b else a
def mxI (a b : Int) : Int := if a < b then b else a
def ctrue : Chk := true
def cand (a b : Bool) : Bool := match a with | true => b | false => false
def cor (a b : Bool) : Bool := match a with | true => true | false => b
def corD (a b : Chk) : Chk := cor a b
def cnotD (a : Chk) : Chk := !a
def ckD {β : Type} (c : Chk) (k : Opt β) : Opt β := ckb c k
def brD {β : Type} (c : Ty.bool.den) (x y : Opt β) : Opt β := br (β := β) c x y
def dI (k : IntKind) (n : Int) : (Ty.int k).den := n
def dB (b : Bool) : Ty.bool.den := b
def dS (s : ByteArray) : Ty.str.den := s
def toN {k : IntKind} (i : (Ty.int k).den) : NatD := Int.toNat i
def ofN (n : NatD) : (Ty.int .i64).den := (n : Int)
def nlit (n : Nat) : NatD := n
def nadd (a b : NatD) : NatD := a + b
def nlt (a b : Nat) : Bool := decide (a < b)
def nltD (a b : NatD) : Chk := nlt a b
def nnegD {k : IntKind} (i : (Ty.int k).den) : Chk := nneg i
def inbD {k : IntKind} (i : (Ty.int k).den) (n : NatD) : Chk := inb i n
def slbD (lo hi : (Ty.int .i64).den) (n : NatD) : Chk := slb lo hi n
def apokD (b : Nat) (n : NatD) : Chk := apok b n
def mkokD (b : Nat) (n m : (Ty.int .i64).den) : Chk := mkok b n m
def castI {k k' : IntKind} (x : (Ty.int k).den) : (Ty.int k').den := x
def ariD (op : BinOp) (k : IntKind) (a b : (Ty.int k).den) : Option (Chk × (Ty.int k).den) :=
  let a : Int := a; let b : Int := b
  match op with
  | .add => some (true, (wK k (a + b) : Int))
  | .sub => some (true, (wK k (a - b) : Int))
  | .mul => some (true, (wK k (a * b) : Int))
  | .quo => some (!decide (b = 0), (wK k (a.tdiv b) : Int))
  | .rem => some (!decide (b = 0), (a.tmod b : Int))
  | .and => some (true, (bits .and k a b : Int))
  | .or => some (true, (bits .or k a b : Int))
  | .xor => some (true, (bits .xor k a b : Int))
  | _ => none
def shD (op : BinOp) (k k' : IntKind) (a : (Ty.int k).den) (b : (Ty.int k').den) : Option (Chk × (Ty.int k).den) :=
  match op with
  | .shl => some (nneg b, shlI k a b)
  | .shr => some (nneg b, shrI k a b)
  | _ => none
def cmpD (op : BinOp) (k : IntKind) (a b : (Ty.int k).den) : Option BoolD :=
  let a : Int := a; let b : Int := b
  match op with
  | .eql => some (decide (a = b))
  | .neq => some (!decide (a = b))
  | .lss => some (decide (a < b))
  | .leq => some (decide (a ≤ b))
  | .gtr => some (decide (b < a))
  | .geq => some (decide (b ≤ a))
  | _ => none
def strD (op : BinOp) (a b : Ty.str.den) : Option BoolD :=
  let a : ByteArray := a; let b : ByteArray := b
  match op with
  | .eql => some (eqd a b)
  | .neq => some (!eqd a b)
  | .lss => some (Op.bytesLess a.toList b.toList)
  | _ => none
def boolD (op : BinOp) (a b : Ty.bool.den) : Option BoolD :=
  let a : Bool := a; let b : Bool := b
  match op with
  | .eql => some (a == b)
  | .neq => some (!(a == b))
  | _ => none
def eqD (op : BinOp) (t : Ty) (a b : t.den) : Option BoolD :=
  match op with
  | .eql => some (@eqd t.den t.deq a b)
  | .neq => some (!@eqd t.den t.deq a b)
  | _ => none
def notD (a : Ty.bool.den) : Ty.bool.den := !(show Bool from a)
def negD (k : IntKind) (a : (Ty.int k).den) : (Ty.int k).den := let a : Int := a; (wK k (0 - a) : Int)
def wrapD {k : IntKind} (k' : IntKind) (a : (Ty.int k).den) : (Ty.int k').den := (wK k' a : Int)
def minD {k : IntKind} (a b : (Ty.int k).den) : (Ty.int k).den := mnI a b
def maxD {k : IntKind} (a b : (Ty.int k).den) : (Ty.int k).den := mxI a b
def selD (t : Ty) (c : Ty.bool.den) (x y : t.den) : t.den := sel (α := t.den) c x y
def scatD (a b : Ty.str.den) : Ty.str.den := ByteArray.append a b
def slenD (a : Ty.str.den) : NatD := ByteArray.size a
def sokD (n : NatD) : Chk := stok n
def sbD (s : Ty.str.den) (i : NatD) : (Ty.int .u8).den := sb s i
def ssubD (s : Ty.str.den) (lo hi : NatD) : Ty.str.den := ssub s lo hi
def sbytesD (s : Ty.str.den) : (Ty.sl (.int .u8)).den := sbytes s
def strofD (l : (Ty.sl (.int .u8)).den) : Ty.str.den := strOfNums l
def fstD {a b : Ty} (x : (Ty.pair a b).den) : a.den := Prod.fst x
def sndD {a b : Ty} (x : (Ty.pair a b).den) : b.den := Prod.snd x
def pairD {a b : Ty} (x : a.den) (y : b.den) : (Ty.pair a b).den := (x, y)
def agetD (n : Nat) (e : Ty) (a : (Ty.arr n e).den) (i : NatD) : e.den := Arr.get e.zero n a i
def asetD (n : Nat) (e : Ty) (a : (Ty.arr n e).den) (i : NatD) (y : e.den) : (Ty.arr n e).den := Arr.set n a i y
def aelsD (n : Nat) (e : Ty) (a : (Ty.arr n e).den) : (Ty.sl e).den := Arr.els n a
def aofD (n : Nat) (e : Ty) (l : (Ty.sl e).den) : (Ty.arr n e).den := Arr.of e.zero n l
def lnilD (e : Ty) : (Ty.sl e).den := ([] : List e.den)
def llenD {e : Ty} (l : (Ty.sl e).den) : NatD := List.length l
def lgetD {e : Ty} (l : (Ty.sl e).den) (i : NatD) : e.den := gl e.zero l i
def lsetD {e : Ty} (l : (Ty.sl e).den) (i : NatD) (y : e.den) : (Ty.sl e).den := List.set l i y
def lappD {e : Ty} (l r : (Ty.sl e).den) : (Ty.sl e).den := List.append l r
def lsubD {e : Ty} (l : (Ty.sl e).den) (lo hi : NatD) : (Ty.sl e).den := sub l lo hi
def lclrD {e : Ty} (l : (Ty.sl e).den) (lo n : NatD) : (Ty.sl e).den := clr e.zero l lo n
def lrepD (e : Ty) (n : NatD) : (Ty.sl e).den := List.replicate n e.zero
def lbuildD (e : Ty) (n : Nat) (l : List e.den) : (Ty.sl e).den := (l ++ List.replicate (n - l.length) e.zero : List e.den)
def lemptyD {e : Ty} (l : (Ty.sl e).den) : Chk := List.isEmpty l
def isZeroD (n : NatD) : Bool := Nat.beq n 0
end Go.Tv
namespace Go.Tv
open Go Go.RowKit
def Ty.ok : (t : Ty) → t.den → Prop
  | .int k, x => (Lit.int k x).wf = true
  | .bool, _ => True
  | .str, s => ByteArray.size s ≤ maxLen
  | .arr n e, x => ∀ y ∈ Arr.els n x, Ty.ok e y
  | .pair a b, x => a.ok (fstD x) ∧ b.ok (sndD x)
  | .sl e, x => List.length x ≤ maxLen ∧ ∀ y ∈ (show List e.den from x), e.ok y
end Go.Tv
namespace Go.Tv
open Go Go.RowKit
inductive Step where
  | fst | snd (k : Nat) | idx (i : NatD) (k : Nat) (b : Option Nat)      -- b: the array's length; none: an element of a row
inductive TV where
  | any
  | und
  | nil
  | val (s : Bool) (t : Ty) (x : t.den)
  | fl (s : Bool) (e : Ty) (l : (Ty.sl e).den)
  | pr (a b : TV)
  | ptr (nm : Nat) (p : List Step)
  | rptr (s : Bool) (t : Ty) (x : t.den)
  | own (nm : Nat)
  | ownp (nm : Nat) (off len : NatD)
  | sv (nm : Nat) (p : List Step) (e : Ty) (len : Nat)
  | tnil
  | tcons (a b : TV)
  | clo (f : FuncId) (caps : TV)
  deriving Inhabited
inductive TObj where
  | var (ty : TypeId) (c : TV)
  | rows (ty : TypeId) (s : Bool) (e : Ty) (l : (Ty.sl e).den)
structure St where
  env : Nat → TV
  objs : Nat → Option TObj
  nx : Nat
def upd {α : Type} (f : Nat → α) (n : Nat) (x : α) : Nat → α := fun u => match Nat.beq u n with
  | true => x
  | false => f u
def mkv (s : Bool) (t : Ty) (x : t.den) : TV := .val (s || t.flat) t x
def mkp : TV → TV → TV
  | .val s a x, .val s' b y => .val (s && s') (.pair a b) (pairD x y)
  | a, b => .pr a b
def zeroT : Ty → TV
  | .sl _ => .nil
  | .pair a b => match a.flat && b.flat with
    | true => .val true (.pair a b) (Ty.pair a b).zero
    | false => .pr (zeroT a) (zeroT b)
  | t => .val true t t.zero
def cv : Value → TV
  | .int k n => .val true (.int k) (dI k n)
  | .bool b => .val true .bool (dB b)
  | .string s => .val true .str (dS s)
  | .slice none 0 0 => .nil
  | _ => .any
def evA (e : Nat → TV) : Operand → TV
  | .tmp t => e t
  | .const x => cv x
  | .func f => .clo f .tnil
  | .global _ => .any
def TV.isAny : TV → Bool
  | .any => true
  | _ => false
def sizeT : TV → Nat
  | .val _ t _ => t.size
  | .pr a b => sizeT a + sizeT b
  | .any | .und | .tnil | .tcons .. => 0
  | _ => 1
def fstT : TV → Option TV
  | .val s (.pair a _) x => some (mkv s a (fstD x))
  | .pr a _ => some a
  | _ => none
def sndT : TV → Option TV
  | .val s (.pair _ b) x => some (mkv s b (sndD x))
  | .pr _ b => some b
  | _ => none
def getP : List Step → TV → Option TV
  | [], v => some v
  | .fst :: p, v => match fstT v with
    | some a => getP p a
    | none => none
  | .snd k :: p, v => match fstT v, sndT v with
    | some a, some b => match Nat.beq (sizeT a) k with
      | true => getP p b
      | false => none
    | _, _ => none
  | .idx i k b :: p, v => match v, b with
    | .val s (.arr n e) x, some n' => match Nat.beq e.size k, Nat.beq n n' with
      | true, true => getP p (mkv s e (agetD n e x i))
      | _, _ => none
    | _, _ => none
def setP : List Step → TV → TV → Option TV
  | [], c, v => match Nat.beq (sizeT c) (sizeT v) with
    | true => some v
    | false => none
  | .fst :: p, c, v => match fstT c, sndT c with
    | some a, some b => match setP p a v with
      | some a' => some (mkp a' b)
      | none => none
    | _, _ => none
  | .snd k :: p, c, v => match fstT c, sndT c with
    | some a, some b => match Nat.beq (sizeT a) k, setP p b v with
      | true, some b' => some (mkp a b')
      | _, _ => none
    | _, _ => none
  | .idx i k b :: p, c, v => match c, b with
    | .val s (.arr n e) x, some n' => match Nat.beq e.size k && Nat.beq n n', setP p (mkv s e (agetD n e x i)) v with
      | true, some (.val s' e' y) => match cast? e' e y with
        | some y => some (.val (s && s') (.arr n e) (asetD n e x i y))
        | none => none
      | _, _ => none
    | _, _ => none
def getO : TObj → List Step → Option TV
  | .var _ c, p => getP p c
  | .rows _ s e l, .idx i k none :: p => match Nat.beq e.size k with
    | true => getP p (mkv s e (lgetD l i))
    | false => none
  | _, _ => none
def asD (ob : Nat → Option TObj) : Ty → TV → Option (Bool × List Nat × DV)
  | t, .val s t' x => some (s, [], ⟨t', x⟩)
  | t, .fl s e l => some (s, [], ⟨.sl e, l⟩)
  | .sl e, .nil => some (true, [], ⟨.sl e, lnilD e⟩)
  | t, .own nm => match ob nm with
    | some (.rows _ s e l) => some (s, [nm], ⟨.sl e, l⟩)
    | _ => none
  | t, .ownp nm off len => match ob nm with
    | some (.rows _ s e l) => some (s, [nm], ⟨.sl e, lsubD l off (nadd off len)⟩)
    | _ => none
  | t, .sv nm p e len => match ob nm with
    | some o => match getO o p with
      | some (.val s (.arr n e) x) => match Nat.beq n len with
        | true => some (s, [nm], ⟨.sl e, aelsD n e x⟩)
        | false => none
      | _ => none
    | none => none
  | .pair ta tb, .pr a b => match asD ob ta a, asD ob tb b with
    | some (s, n, x), some (s', n', y) => some (s && s', n ++ n', ⟨.pair x.t y.t, pairD x.x y.x⟩)
    | _, _ => none
  | _, _ => none
def asT (ob : Nat → Option TObj) (t : Ty) (v : TV) : Option (Bool × List Nat × t.den) := match asD ob t v with
  | some (s, n, d) => match cast? d.t t d.x with
    | some x => some (s || t.flat, n, x)
    | none => none
  | none => none
def setO (ob : Nat → Option TObj) : TObj → List Step → TV → Option (TObj × List Nat)
  | .var ty c, p, v => match setP p c v with
    | some c' => some (.var ty c', [])
    | none => none
  | .rows ty s e l, .idx i k none :: p, v => match Nat.beq e.size k, setP p (mkv s e (lgetD l i)) v with
    | true, some w => match asT ob e w with
      | some (s', n, y) => some (.rows ty (s && s') e (lsetD l i y), n)
      | none => none
    | _, _ => none
  | _, _, _ => none
def fpath : Nat → Nat → Ty → Option (List Step × Ty)
  | 0, _, _ => none
  | 1, 0, t => some ([], t)
  | 1, _ + 1, _ => none
  | _ + 2, 0, .pair a _ => some ([.fst], a)
  | n + 2, f + 1, .pair a b => match fpath (n + 1) f b with
    | some (p, u) => some (.snd a.size :: p, u)
    | none => none
  | _ + 2, _, _ => none
def isPair : Ty → Bool
  | .pair .. => true
  | _ => false
def beqB : Bool → Bool → Bool
  | true, true => true
  | false, false => true
  | _, _ => false
def aggT : TV → Bool
  | .val _ t _ => t.agg
  | .pr .. => true
  | _ => false
def isTup : TV → Bool
  | .tnil | .tcons .. => true
  | _ => false
def fitB (t : Ty) (v : TV) : Bool := Nat.beq (sizeT v) t.size && beqB (aggT v) t.agg
def fldT (y : TyE) (f : Nat) : Option (List Step × Ty) := match isPair y.t with
  | true => fpath y.nf f y.t
  | false => none
def tyOf (G : Tab) (t : TypeId) : Option Ty := match look G.ty t with
  | some x => some x.t
  | none => none
def ints : TV → Option (Σ k, (Ty.int k).den)
  | .val _ (.int k) x => some ⟨k, x⟩
  | _ => none
def bools : TV → Option Ty.bool.den
  | .val _ .bool x => some x
  | _ => none
def strs : TV → Option Ty.str.den
  | .val _ .str x => some x
  | _ => none
def memN (n : Nat) : List Nat → Bool
  | [] => false
  | m :: l => match Nat.beq n m with
    | true => true
    | false => memN n l
def fitG (G : Tab) (t : TypeId) (v : TV) : Bool := match tyOf G t with
  | some ty => fitB ty v
  | none => memN t G.one && Nat.beq (sizeT v) 1 && beqB (aggT v) false
def hasEq (G : Tab) (t : TypeId) : Bool := G.eq.any fun u => Nat.beq u t
def tB (b : BoolD) : TV := .val true .bool b
def binT (G : Tab) (op : BinOp) (t : TypeId) : TV → TV → Option (Chk × TV)
  | .val _ (.int k) a, .val _ (.int k') b => match op with
    | .shl | .shr => match shD op k k' a b with
      | some (c, x) => some (c, .val true (.int k) x)
      | none => none
    | _ => if k = k' then match cmpD op k a (castI b) with
        | some x => some (ctrue, tB x)
        | none => match ariD op k a (castI b) with
          | some (c, x) => some (c, .val true (.int k) x)
          | none => none
      else none
  | .val _ .str a, .val _ .str b => match op with
    | .add => some (sokD (nadd (slenD a) (slenD b)), .val true .str (scatD a b))
    | _ => match strD op a b with
      | some x => some (ctrue, tB x)
      | none => none
  | .val _ .bool a, .val _ .bool b => match tyOf G t, boolD op a b with
    | some .bool, some x => some (ctrue, tB x)
    | _, _ => none
  | .val _ t1 a, .val _ t2 b => match hasEq G t, tyOf G t, cast? t2 t1 b with
    | true, some t3, some b => if t3 = t1 ∧ t1.agg = true then match eqD op t1 a b with
        | some x => some (ctrue, tB x)
        | none => none
      else none
    | _, _, _ => none
  | _, _ => none
def lenT (ob : Nat → Option TObj) : TV → Option NatD
  | .val _ (.sl _) l => some (llenD l)
  | .val _ .str s => some (slenD s)
  | .fl _ _ l => some (llenD l)
  | .nil => some (nlit 0)
  | .own nm => match ob nm with
    | some (.rows _ _ _ l) => some (llenD l)
    | _ => none
  | .ownp _ _ len => some len
  | .sv _ _ _ len => some (nlit len)
  | _ => none
def toI {k : IntKind} (x : (Ty.int k).den) : (Ty.int .i64).den := castI x
def bndT (d : (Ty.int .i64).den) : Option TV → Option (Ty.int .i64).den
  | none => some d
  | some (.val _ (.int _) x) => some (castI x)
  | _ => none
def rowSz (ob : Nat → Option TObj) (nm k : Nat) : Bool := match ob nm with
  | some (.rows _ _ e _) => Nat.beq e.size k
  | _ => false
def slT (G : Tab) (t : TypeId) (ob : Nat → Option TObj) (x : TV) (lo hi mx : Option TV) : Option (Chk × TV) :=
  match tyOf G t, x, lo, hi, mx with
  | some (.arr n e), .ptr nm p, none, none, none => match Nat.ble n maxLen with
    | true => some (ctrue, .sv nm p e n)
    | false => none
  | some (.arr n e0), .rptr s (.arr n' e) a, none, none, none => match Nat.beq n n', Nat.beq e.size e0.size, Nat.ble n maxLen with
    | true, true, true => some (ctrue, .val s (.sl e) (aelsD n' e a))
    | _, _, _ => none
  | some (.sl _), .own nm, none, none, none => some (ctrue, .own nm)
  | _, _, _, _, _ =>
  match lenT ob x with
  | none => none
  | some n => match bndT (dI .i64 0) lo, bndT (ofN n) hi with
    | some l, some h => match tyOf G t, x, mx with
      | some .str, .val _ .str s, none => some (slbD l h n, .val true .str (ssubD s (toN l) (toN h)))
      | some (.sl e0), .val s (.sl e) a, none => match Nat.beq e.size e0.size with
        | true => some (slbD l h n, .val s (.sl e) (lsubD a (toN l) (toN h)))
        | false => none
      | some (.sl e0), .fl s e a, none => match Nat.beq e.size e0.size with
        | true => some (slbD l h n, .val s (.sl e) (lsubD a (toN l) (toN h)))
        | false => none
      | some (.sl e0), .val s (.sl e) a, some (.val _ (.int k) m) => match hi, cmpD .eql .i64 h (castI m), Nat.beq e.size e0.size with
        | some _, some c, true => some (cand (slbD l h n) c, .fl s e (lsubD a (toN l) (toN h)))
        | _, _, _ => none
      | some (.sl _), .nil, none => some (slbD l h n, .nil)
      | some (.sl e0), .own nm, none => match rowSz ob nm e0.size with
        | true => some (slbD l h n, .ownp nm (toN l) (toN (subI h l)))
        | false => none
      | some (.sl e0), .ownp nm off _, none => match rowSz ob nm e0.size with
        | true => some (slbD l h n, .ownp nm (nadd off (toN l)) (toN (subI h l)))
        | false => none
      | _, _, _ => none
    | _, _ => none
where subI (h l : (Ty.int .i64).den) : (Ty.int .i64).den := match ariD .sub .i64 h l with
  | some (_, x) => x
  | none => h
def ixT (G : Tab) (t : TypeId) (ob : Nat → Option TObj) (x i : TV) : Option (Chk × TV) :=
  match ints i, tyOf G t with
  | some ⟨_, n⟩, some (.sl e) => match x with
    | .own nm => match ob nm with
      | some (.rows _ _ e' l) => match Nat.beq e'.size e.size with
        | true => some (inbD n (llenD l), .ptr nm [.idx (toN n) e.size none])
        | false => none
      | _ => none
    | .ownp nm off len => match ob nm with
      | some (.rows _ _ e' l) => match Nat.beq e'.size e.size with
        | true => some (cand (inbD n len) (nltD (nadd off (toN n)) (llenD l)), .ptr nm [.idx (nadd off (toN n)) e.size none])
        | false => none
      | _ => none
    | .val s (.sl e') l => match Nat.beq e'.size e.size with
      | true => some (inbD n (llenD l), .rptr s e' (lgetD l (toN n)))
      | false => none
    | .fl s e' l => match Nat.beq e'.size e.size with
      | true => some (inbD n (llenD l), .rptr s e' (lgetD l (toN n)))
      | false => none
    | .sv nm p _ len => some (inbD n (nlit len), .ptr nm (p ++ [.idx (toN n) e.size (some len)]))
    | _ => none
  | some ⟨_, n⟩, some (.arr len e) => match x with
    | .ptr nm p => some (inbD n (nlit len), .ptr nm (p ++ [.idx (toN n) e.size (some len)]))
    | .rptr s (.arr n' e') a => match Nat.beq e'.size e.size, Nat.beq n' len with
      | true, true => some (inbD n (nlit len), .rptr s e' (agetD n' e' a (toN n)))
      | _, _ => none
    | _ => none
  | _, _ => none
def inT (G : Tab) (t : TypeId) (x i : TV) : Option (Chk × TV) :=
  match ints i, tyOf G t, x with
  | some ⟨_, n⟩, some .str, .val _ .str s => some (inbD n (slenD s), .val true (.int .u8) (sbD s (toN n)))
  | some ⟨_, n⟩, some (.arr len e), .val s (.arr n' e') a => match Nat.beq e'.size e.size && beqB e'.agg e.agg, Nat.beq n' len with
    | true, true => some (inbD n (nlit len), mkv s e' (agetD n' e' a (toN n)))
    | _, _ => none
  | _, _, _ => none
def isByte (G : Tab) (t : TypeId) : Bool := match look G.ty t with
  | some x => match tyOf G x.nf with
    | some (.int .u8) => true
    | _ => false
  | none => false
def cvT (G : Tab) (s d : TypeId) (ob : Nat → Option TObj) (x : TV) : Option TV :=
  match tyOf G s, tyOf G d, x with
  | some (.int _), some (.int k'), .val _ (.int _) n => some (.val true (.int k') (wrapD k' n))
  | some .str, some .str, .val _ .str a => some (.val true .str a)
  | some (.sl (.int .u8)), some .str, x => match asT ob (.sl (.int .u8)) x, isByte G s with
    | some (_, _, l), true => some (.val true .str (strofD l))
    | _, _ => none
  | _, _, _ => none
def nthT : TV → Nat → Option TV
  | .tcons a _, 0 => some a
  | .tcons _ b, n + 1 => nthT b n
  | _, _ => none
def capsT (e : Nat → TV) : List Operand → TV
  | [] => .tnil
  | x :: l => .tcons (evA e x) (capsT e l)
def capsOK (e : Nat → TV) : List Operand → Bool
  | [] => true
  | x :: l => Nat.beq (sizeT (evA e x)) 1 && beqB (aggT (evA e x)) false && capsOK e l
def place (G : Tab) (t : TypeId) (i : Nat) : Option (List Step × Nat) := match look G.ty t with
  | some x => match x.t with
    | .arr n e => match Nat.blt i n with
      | true => some ([.idx (nlit i) e.size (some n)], e.size)
      | false => none
    | _ => match fldT x i with
      | some (p, u) => some (p, u.size)
      | none => none
  | none => none
def fillT (G : Tab) (t : TypeId) (e : Nat → TV) : List (Nat × Operand) → TV → Option TV
  | [], c => some c
  | (i, x) :: l, c => match place G t i with
    | some (p, n) => match Nat.beq (sizeT (evA e x)) n, setP p c (evA e x) with
      | true, some c' => fillT G t e l c'
      | _, _ => none
    | none => none
def foldT (f : {k : IntKind} → (Ty.int k).den → (Ty.int k).den → (Ty.int k).den) : TV → List TV → Option TV
  | v, [] => some v
  | .val _ (.int k) a, .val _ (.int k') b :: l => if k = k' then foldT f (.val true (.int k) (f a (castI b))) l else none
  | _, _ => none
def faT (G : Tab) (t : TypeId) (x : TV) (f : Nat) : Option (Chk × TV) := match look G.ty t with
  | some y => match fldT y f with
    | some (p, _) => match x with
      | .ptr nm q => some (ctrue, .ptr nm (q ++ p))
      | .rptr s t' x => match getP p (.val s t' x) with
        | some (.val _ t'' x) => some (ctrue, .rptr s t'' x)
        | _ => none
      | _ => none
    | none => none
  | none => none
def fdT (G : Tab) (t : TypeId) (x : TV) (f : Nat) : Option (Chk × TV) := match look G.ty t with
  | some y => match fldT y f with
    | some (p, u) => match aggT x with
      | true => match getP p x with
        | some v => match fitB u v with
          | true => some (ctrue, v)
          | false => none
        | none => none
      | false => none
    | none => none
  | none => none
def ldT (G : Tab) (ob : Nat → Option TObj) (ty : TypeId) (x : TV) : Option (Chk × TV) := match x with
  | .ptr nm p => match ob nm with
    | some o => match getO o p with
      | some v => match fitG G ty v with
        | true => some (ctrue, v)
        | false => none
      | none => none
    | none => none
  | .rptr s t x => match fitG G ty (mkv s t x) with
    | true => some (ctrue, mkv s t x)
    | false => none
  | _ => none
def pv (G : Tab) (op : Op) (e : Nat → TV) (ob : Nat → Option TObj) : Option (Chk × TV) :=
  match op with
  | .move x | .assign x => some (ctrue, evA e x)
  | .pick c a b => match evA e c, evA e a, evA e b with
    | .val _ .bool c, .val s t x, .val s' t' y => match cast? t' t y with
      | some y => some (ctrue, .val (s && s') t (selD t c x y))
      | none => none
    | _, _, _ => none
  | .load ty x => ldT G ob ty (evA e x)
  | .nilCheck x => match evA e x with
    | .ptr nm p => some (ctrue, .ptr nm p)
    | .rptr s t x => some (ctrue, .rptr s t x)
    | _ => none
  | .binOp op t x y _ => binT G op t (evA e x) (evA e y)
  | .unOp op _ x => match op, evA e x with
    | .neg, .val _ (.int k) a => some (ctrue, .val true (.int k) (negD k a))
    | .not, .val _ .bool a => some (ctrue, .val true .bool (notD a))
    | _, _ => none
  | .convert s d x => match cvT G s d ob (evA e x) with
    | some v => some (ctrue, v)
    | none => none
  | .makeFunc (.func f) first caps => match first.toList, capsOK e caps.toList with
    | [], true => some (ctrue, .clo f (capsT e caps.toList))
    | _, _ => none
  | .slice t x lo hi mx => slT G t ob (evA e x) (lo.map (evA e)) (hi.map (evA e)) (mx.map (evA e))
  | .fieldAddr t x f => faT G t (evA e x) f
  | .field t x f => fdT G t (evA e x) f
  | .indexAddr t x i => ixT G t ob (evA e x) (evA e i)
  | .index t x i => inT G t (evA e x) (evA e i)
  | .extract x n => match nthT (evA e x) n with
    | some v => match isTup v with
      | false => some (ctrue, v)
      | true => none
    | none => none
  | .build t parts => match tyOf G t with
    | some ty => match ty.agg, fillT G t e parts.toList (zeroT ty) with
      | true, some v => match aggT v with
        | true => some (ctrue, v)
        | false => none
      | _, _ => none
    | none => none
  | .sliceToArrayPointer t x => match tyOf G t, evA e x with
    | some (.arr n _), .val s (.sl e) l => some (slbD (dI .i64 0) (dI .i64 n) (llenD l), .rptr s (.arr n e) (aofD n e l))
    | _, _ => none
  | .call c => match c.callee, c.args.toList, c.argTypes.toList with
    | .builtin .len, [x], [t] => match tyOf G t with
      | some (.arr n _) => some (ctrue, .val true (.int .i64) (dI .i64 n))
      | some .str => match strs (evA e x) with
        | some s => some (ctrue, .val true (.int .i64) (ofN (slenD s)))
        | none => none
      | some (.sl _) => match strs (evA e x), lenT ob (evA e x) with
        | none, some n => some (ctrue, .val true (.int .i64) (ofN n))
        | _, _ => none
      | _ => none
    | .builtin .cap, [x], [t] => match tyOf G t, evA e x with
      | some (.sl _), .nil => some (ctrue, .val true (.int .i64) (dI .i64 0))
      | some (.sl _), .fl _ _ l => some (ctrue, .val true (.int .i64) (ofN (llenD l)))
      | _, _ => none
    | .builtin .min, x :: y :: l, _ => match foldT minD (evA e x) ((y :: l).map (evA e)) with
      | some v => some (ctrue, v)
      | none => none
    | .builtin .max, x :: y :: l, _ => match foldT maxD (evA e x) ((y :: l).map (evA e)) with
      | some v => some (ctrue, v)
      | none => none
    | _, _, _ => none
  | _ => none
def heavy : Op → Bool
  | .binOp op .. => match op with
    | .eql | .neq | .lss | .leq | .gtr | .geq => false
    | _ => true
  | .unOp .neg .. => true
  | .build .. => true
  | .convert .. => true
  | _ => false
def elsT (ob : Nat → Option TObj) (ev : Operand → TV) (e : Ty) : Nat → List (Nat × Operand) → Option (Bool × List Nat × List e.den)
  | _, [] => some (true, [], [])
  | i, (j, x) :: l => match Nat.beq i j, asT ob e (ev x), elsT ob ev e (i + 1) l with
    | true, some (s, n, y), some (s', n', ys) => some (s && s', n ++ n', y :: ys)
    | _, _, _ => none
def killsOf (l : List Nat) : List (Nat × Option TObj) := l.map fun n => (n, none)
def sizeG (G : Tab) (t : TypeId) : Option Nat := match tyOf G t with
  | some ty => some ty.size
  | none => match memN t G.one with
    | true => some 1
    | false => none
def newT (G : Tab) (op : Op) (e : Nat → TV) (ob : Nat → Option TObj) (nx : Nat) : Option (Chk × TV × TObj × List Nat) :=
  match op with
  | .alloc t => match tyOf G t with
    | some ty => some (ctrue, .ptr nx [], .var t (zeroT ty), [])
    | none => none
  | .box t x => match sizeG G t with
    | some n => match Nat.beq n (sizeT (evA e x)) with
      | true => some (ctrue, .ptr nx [], .var t (evA e x), [])
      | false => none
    | none => none
  | .buildSlice t len parts => match look G.ty t with
    | some ⟨.sl ty, el, _⟩ => match elsT ob (evA e) ty 0 parts.toList with
      | some (s, n, xs) => match Nat.ble xs.length len, Nat.ble (len * ty.size) 16777216 with
        | true, true => some (ctrue, .own nx, .rows el (s || ty.flat) ty (lbuildD ty len xs), n)
        | _, _ => none
      | none => none
    | _ => none
  | .makeSlice t l c => match look G.ty t, ints (evA e l), ints (evA e c) with
    | some ⟨.sl ty, el, b⟩, some ⟨_, n⟩, some ⟨_, m⟩ => some (mkokD b (castI n) (castI m), .own nx, .rows el true ty (lrepD ty (toN n)), [])
    | _, _, _ => none
  | .convert s d x => match tyOf G s, look G.ty d, evA e x, isByte G d with
    | some .str, some ⟨.sl (.int .u8), el, _⟩, .val _ .str a, true => some (sokD (slenD a), .own nx, .rows el true (.int .u8) (sbytesD a), [])
    | _, _, _, _ => none
  | _ => none
def stT (G : Tab) (t : TypeId) (ob : Nat → Option TObj) (x v : TV) : Option (Nat × Bool × TObj × List Nat) :=
  match x, sizeG G t with
  | .ptr nm p, some n => match ob nm, Nat.beq n (sizeT v) with
    | some o, true => match setO ob o p v with
      | some (o', n) => match memN nm n with
        | true => none
        | false => some (nm, !p.isEmpty, o', n)
      | none => none
    | _, _ => none
  | _, _ => none
def clT (G : Tab) (t : TypeId) (ob : Nat → Option TObj) : TV → Option (Nat × TObj)
  | .own nm => match ob nm with
    | some (.rows ty _ e l) => if tyOf G t = some (.sl e) then some (nm, .rows ty true e (lrepD e (llenD l))) else none
    | _ => none
  | .ownp nm off len => match ob nm with
    | some (.rows ty s e l) => if tyOf G t = some (.sl e) then some (nm, .rows ty s e (lclrD l off len)) else none
    | _ => none
  | _ => none
def srcT (G : Tab) (t : TypeId) (e : Ty) (ob : Nat → Option TObj) (y : TV) : Option (Chk × Bool × (Ty.sl e).den) :=
  match tyOf G t, y with
  | some (.int _), .val _ (.int _) n => some (nnegD n, true, lrepD e (toN n))
  | some (.sl _), y => match asT ob (.sl e) y with
    | some (s, _, l) => some (ctrue, s, l)
    | none => none
  | _, _ => none
def appT (G : Tab) (t t2 : TypeId) (ob : Nat → Option TObj) (x y : TV) : Option (Chk × TObj × List Nat) :=
  match look G.ty t with
  | some ⟨.sl e, el, b⟩ => match srcT G t2 e ob y with
    | some (c, s2, l2) => match x with
      | .nil => some (cand c (apokD b (llenD l2)), .rows el s2 e l2, [])
      | .fl s e' l => match cast? (.sl e') (.sl e) l with
        | some l => some (cand (cand c (apokD b (nadd (llenD l) (llenD l2)))) (corD (lemptyD l) (cnotD (lemptyD l2))), .rows el ((s && s2) || e.flat) e (lappD l l2), [])
        | none => none
      | .own nm => match ob nm with
        | some (.rows ty s e' l) => match Nat.beq ty el, cast? (.sl e') (.sl e) l with
          | true, some l => some (cand c (apokD b (nadd (llenD l) (llenD l2))), .rows el ((s && s2) || e.flat) e (lappD l l2), [nm])
          | _, _ => none
        | _ => none
      | .ownp nm off len => match ob nm, isZeroD off with
        | some (.rows ty s e' l), true => match Nat.beq ty el, cast? (.sl e') (.sl e) l with
          | true, some l => some (cand c (apokD b (nadd len (llenD l2))), .rows el ((s && s2) || e.flat) e (lappD (lsubD l (nlit 0) len) l2), [nm])
          | _, _ => none
        | _, _ => none
      | _ => none
    | none => none
  | _ => none
def pathOf : List (Option Nat) → List Step
  | [] => []
  | none :: l => .fst :: pathOf l
  | some k :: l => .snd k :: pathOf l
def decV (ρ : Nat → Nat) (kf : Bool) : SV → List DV → TV × List DV
  | .any, d => (.any, d)
  | .nil, d => (.nil, d)
  | .data keep _, d => match d with
    | x :: d => (mkv (keep && kf) x.t x.x, d)
    | [] => (.any, [])
  | .fl keep _, d => match d with
    | ⟨.sl e, x⟩ :: d => (.fl (keep && kf) e x, d)
    | _ => (.any, [])
  | .rptr keep _, d => match d with
    | x :: d => (.rptr (keep && kf) x.t x.x, d)
    | [] => (.any, [])
  | .own p, d => (.own (ρ p), d)
  | .ownp p, d => match d with
    | ⟨.int _, x⟩ :: ⟨.int _, y⟩ :: d => (.ownp (ρ p) (toN x) (toN y), d)
    | _ => (.any, [])
  | .ptr p q, d => (.ptr (ρ p) (pathOf q), d)
  | .pr a b, d => match decV ρ kf a d with
    | (x, d) => match decV ρ kf b d with
      | (y, d) => (.pr x y, d)
  | .tnil, d => (.tnil, d)
  | .tcons a b, d => match decV ρ kf a d with
    | (x, d) => match decV ρ kf b d with
      | (y, d) => (.tcons x y, d)
  | .clo f c, d => match decV ρ kf c d with
    | (x, d) => (.clo f x, d)
def decO (ρ : Nat → Nat) (kf : Bool) : SO → List DV → Option TObj × List DV
  | .var ty c, d => match decV ρ kf c d with
    | (x, d) => (some (.var ty x), d)
  | .rows ty keep _, d => match d with
    | ⟨.sl e, x⟩ :: d => (some (.rows ty ((keep && kf) || e.flat) e x), d)
    | _ => (none, [])
  | .gone, d => (none, d)
def decVs (ρ : Nat → Nat) (kf : Bool) : List SV → List DV → List TV × List DV
  | [], d => ([], d)
  | a :: l, d => match decV ρ kf a d with
    | (x, d) => match decVs ρ kf l d with
      | (y, d) => (x :: y, d)
def decE (ρ : Nat → Nat) : List (Tmp × SV) → List DV → List (Nat × TV) × List DV
  | [], d => ([], d)
  | a :: l, d => match decV ρ true a.2 d with
    | (x, d) => match decE ρ l d with
      | (y, d) => ((a.1, x) :: y, d)
def decOs (ρ : Nat → Nat) (kf : Bool) : List SO → List DV → List (Option TObj)
  | [], _ => []
  | a :: l, d => match decO ρ kf a d with
    | (x, d) => x :: decOs ρ kf l d
def tabE (l : List (Nat × TV)) (t : Nat) : TV := match look l t with
  | some v => v
  | none => .any
def nthO : List (Option TObj) → Nat → Option TObj
  | [], _ => none
  | a :: _, 0 => a
  | _ :: l, n + 1 => nthO l n
def Sh.dec (s : Sh) (x : TupT s.tys) : St := match decE id s.env (untup s.tys x) with
  | (E, d) => ⟨tabE E, nthO (decOs id true s.objs d), s.objs.length⟩
def nthV : List TV → Nat → TV
  | [], _ => .any
  | a :: _, 0 => a
  | _ :: l, n + 1 => nthV l n
def CSh.dec (s : CSh) (x : TupT s.tys) : St := match decVs id true s.args (untup s.tys x) with
  | (E, d) => ⟨nthV E, nthO (decOs id true s.objs d), s.objs.length⟩
structure MS where
  σ : List (Nat × Option Nat)
  lent : List Nat
  froz : List Nat
  kf : Bool
  tr : List (Nat × NatD)
def memI (n : Nat) : List (Nat × Option Nat) → Bool
  | [] => false
  | (_, some m) :: l => match Nat.beq n m with
    | true => true
    | false => memI n l
  | (_, none) :: l => memI n l
def bindN (p nm : Nat) (ms : MS) : Option MS := match look ms.σ p with
  | some (some nm') => match Nat.beq nm nm', look ms.tr nm with
    | true, none => some ms
    | _, _ => none
  | some none => none
  | none => match memI nm ms.σ, look ms.tr nm with
    | false, none => some { ms with σ := ms.σ ++ [(p, some nm)] }
    | _, _ => none
def bindT (p nm : Nat) (len : NatD) (ms : MS) : Option MS := match look ms.σ p, memI nm ms.σ, look ms.tr nm with
  | none, false, none => some { ms with σ := ms.σ ++ [(p, some nm)], tr := ms.tr ++ [(nm, len)] }
  | _, _, _ => none
def bindV (p : Nat) (ms : MS) : Option MS := match look ms.σ p with
  | some (some _) => none
  | some none => none
  | none => some { ms with σ := ms.σ ++ [(p, none)] }
def samePath : List (Option Nat) → List Step → Bool
  | [], [] => true
  | none :: l, .fst :: p => samePath l p
  | some k :: l, .snd k' :: p => match Nat.beq k k' with
    | true => samePath l p
    | false => false
  | _, _ => false
def isData : SV → Bool
  | .any | .tnil | .tcons .. => false
  | _ => true
def isTupS : SV → Bool
  | .tnil | .tcons .. => true
  | _ => false
def matV (ob : Nat → Option TObj) (call : Bool) : SV → TV → MS → Option (List DV × MS)
  | .any, _, ms => some ([], ms)
  | .nil, v, ms => match v with
    | .nil => some ([], ms)
    | _ => none
  | .data keep t, v, ms => match asT ob t v with
    | some (s, n, x) => match keep, call with
      | false, true => some ([⟨t, x⟩], { ms with lent := ms.lent ++ n })
      | true, true => some ([⟨t, x⟩], { ms with froz := ms.froz ++ n, kf := ms.kf && s })
      | false, false => some ([⟨t, x⟩], { ms with froz := ms.froz ++ n })
      | true, false => match s with
        | true => some ([⟨t, x⟩], { ms with froz := ms.froz ++ n })
        | false => none
    | none => none
  | .fl keep e, v, ms => match v with
    | .fl s e' l => match keep && !s && !call with
      | true => none
      | false => some ([⟨.sl e', l⟩], { ms with kf := ms.kf && (s || !keep) })
    | .nil => some ([⟨.sl e, lnilD e⟩], ms)
    | _ => none
  | .rptr keep _, v, ms => match v with
    | .rptr s t x => match keep && !s && !call with
      | true => none
      | false => some ([⟨t, x⟩], { ms with kf := ms.kf && (s || !keep) })
    | _ => none
  | .own p, v, ms => match v with
    | .own nm => match bindN p nm ms with
      | some ms => some ([], ms)
      | none => none
    | .ownp nm off len => match isZeroD off && !call, bindT p nm len ms with
      | true, some ms => some ([], ms)
      | _, _ => none
    | .nil => match call with
      | true => none
      | false => match bindV p ms with
        | some ms => some ([], ms)
        | none => none
    | _ => none
  | .ownp p, v, ms => match v with
    | .ownp nm off len => match bindN p nm ms with
      | some ms => some ([⟨.int .i64, ofN off⟩, ⟨.int .i64, ofN len⟩], ms)
      | none => none
    | _ => none
  | .ptr p q, v, ms => match v with
    | .ptr nm q' => match samePath q q', bindN p nm ms with
      | true, some ms => some ([], ms)
      | _, _ => none
    | _ => none
  | .pr a b, v, ms => match isData a && isData b, fstT v, sndT v with
    | true, some x, some y => match matV ob call a x ms with
      | some (d, ms) => match matV ob call b y ms with
        | some (d', ms) => some (d ++ d', ms)
        | none => none
      | none => none
    | _, _, _ => none
  | .tnil, v, ms => match v with
    | .tnil => some ([], ms)
    | _ => none
  | .tcons a b, v, ms => match isTupS b, v with
    | true, .tcons x y => match matV ob call a x ms with
      | some (d, ms) => match matV ob call b y ms with
        | some (d', ms) => some (d ++ d', ms)
        | none => none
      | none => none
    | _, _ => none
  | .clo f c, v, ms => match v with
    | .clo f' x => match Nat.beq f f' with
      | true => matV ob call c x ms
      | false => none
    | _ => none
def matO (ob : Nat → Option TObj) (call : Bool) (p : Nat) (o : SO) (ms : MS) : Option (List DV × MS) := match o with
  | .gone => some ([], ms)
  | o => match look ms.σ p with
  | some (some nm) => match o, ob nm with
    | .rows ty keep e, some (.rows ty' s e' l) => match Nat.beq ty ty', cast? (.sl e') (.sl e) l, !keep || s || e.flat || call with
      | true, some l, true => match look ms.tr nm with
        | none => some ([⟨.sl e, l⟩], { ms with kf := ms.kf && (!keep || s || e.flat) })
        | some len => some ([⟨.sl e, lsubD l (nlit 0) len⟩], { ms with kf := ms.kf && (!keep || s || e.flat) })
      | _, _, _ => none
    | .var ty c, some (.var ty' v) => match Nat.beq ty ty' && isData c with
      | true => matV ob call c v ms
      | false => none
    | _, _ => none
  | some none => match o with
    | .rows _ _ e => some ([⟨.sl e, lnilD e⟩], ms)
    | _ => none
  | none => none
def matVs (ob : Nat → Option TObj) (call : Bool) : List SV → List TV → MS → Option (List DV × MS)
  | [], [], ms => some ([], ms)
  | a :: l, x :: y, ms => match matV ob call a x ms with
    | some (d, ms) => match matVs ob call l y ms with
      | some (d', ms) => some (d ++ d', ms)
      | none => none
    | none => none
  | _, _, _ => none
def matE (ob : Nat → Option TObj) (e : Nat → TV) : List (Tmp × SV) → MS → Option (List DV × MS)
  | [], ms => some ([], ms)
  | a :: l, ms => match matV ob false a.2 (e a.1) ms with
    | some (d, ms) => match matE ob e l ms with
      | some (d', ms) => some (d ++ d', ms)
      | none => none
    | none => none
def matOs (ob : Nat → Option TObj) (call : Bool) : Nat → List SO → MS → Option (List DV × MS)
  | _, [], ms => some ([], ms)
  | p, a :: l, ms => match matO ob call p a ms with
    | some (d, ms) => match matOs ob call (p + 1) l ms with
      | some (d', ms) => some (d ++ d', ms)
      | none => none
    | none => none
def idN : Nat → Nat → List SO → List (Nat × Option Nat)
  | 0, _, _ => []
  | n + 1, p, l => match l with
    | .gone :: l => idN n (p + 1) l
    | _ :: l => (p, some p) :: idN n (p + 1) l
    | [] => []
def noTr (ms : MS) (p : Nat) : Bool := match look ms.tr p with
  | none => true
  | some _ => false
def isSelf (p : Nat) : Option Nat → Bool
  | some q => Nat.beq p q
  | none => false
def MS.ok (n0 n : Nat) (ms : MS) : Bool := ms.froz.all (fun n => !memI n ms.σ && !memN n ms.lent) && ms.lent.all (fun n => !memI n ms.σ) && Nat.ble n0 n &&
  ms.σ.all fun q => Nat.blt q.1 n && (Nat.ble n0 q.1 || (isSelf q.1 q.2 && noTr ms q.1))
def Sh.mat (s : Sh) (st : St) : Option (TupT s.tys) := match matE st.objs st.env s.env ⟨idN s.n0 0 s.objs, [], [], true, []⟩ with
  | some (d, ms) => match matOs st.objs false 0 s.objs ms with
    | some (d', ms) => match ms.ok s.n0 s.objs.length with
      | true => mktup s.tys (d ++ d')
      | false => none
    | none => none
  | none => none
def RSh.mat (s : RSh) (n0 : Nat) (st : St) (v : TV) : Option (TupT s.tys) := match matV st.objs false s.ret v ⟨idN n0 0 s.objs, [], [], true, []⟩ with
  | some (d, ms) => match matOs st.objs false 0 s.objs ms with
    | some (d', ms) => match ms.ok n0 s.objs.length with
      | true => mktup s.tys (d ++ d')
      | false => none
    | none => none
  | none => none
structure Ent where
  k : FuncId
  ish : CSh
  osh : RSh
  f : TupT ish.tys → Opt (TupT osh.tys)
structure Found where
  E : Ent
  x : TupT E.ish.tys
  sel : List Nat
  froz : List Nat
  kf : Bool
def selOf : Nat → List (Nat × Option Nat) → Nat → Option (List Nat)
  | 0, _, _ => some []
  | n + 1, σ, p => match look σ p, selOf n σ (p + 1) with
    | some (some nm), some l => some (nm :: l)
    | _, _ => none
def selB (ob : Nat → Option TObj) : List Nat → Bool
  | [] => true
  | n :: l => match ob n with
    | some _ => selB ob l
    | none => false
def keptV : SV → Bool
  | .data k _ => k
  | .fl k _ => k
  | .rptr k _ => k
  | .pr a b | .tcons a b => keptV a && keptV b
  | .clo _ c => keptV c
  | _ => true
def keptO : SO → Bool
  | .var _ c => keptV c
  | .rows _ k _ => k
  | .gone => true
def RSh.kept (s : RSh) : Bool := keptV s.ret && s.objs.all keptO
def noTrs : List (Nat × NatD) → Bool
  | [] => true
  | _ => false
def findE (ob : Nat → Option TObj) (k : FuncId) (args : List TV) : List Ent → Option Found
  | [] => none
  | E :: l => match Nat.beq E.k k with
    | false => findE ob k args l
    | true => match matVs ob true E.ish.args args ⟨[], [], [], true, []⟩ with
      | none => findE ob k args l
      | some (d, ms) => match matOs ob true 0 E.ish.objs ms with
        | none => findE ob k args l
        | some (d', ms) => match ms.ok 0 E.ish.objs.length && noTrs ms.tr && E.osh.kept, selOf E.ish.objs.length ms.σ 0, mktup E.ish.tys (d ++ d') with
          | true, some sel, some x => match selB ob sel with
            | true => some ⟨E, x, sel, ms.froz, ms.kf⟩
            | false => findE ob k args l
          | _, _, _ => findE ob k args l
def listT : TV → List TV
  | .tcons a b => a :: listT b
  | _ => []
def capsB : TV → Bool
  | .tnil => true
  | .tcons a b => !aggT a && !isTup a && capsB b
  | _ => false
def nthN : List Nat → Nat → Nat → Nat
  | [], i, d => d + i
  | a :: _, 0, _ => a
  | _ :: l, i + 1, d => nthN l i d
structure Dlt where
  dst : Option Tmp
  av : TV
  ups : List (Nat × Option TObj)
def rangeN : Nat → Nat → List Nat
  | _, 0 => []
  | a, n + 1 => a :: rangeN (a + 1) n
def zipU : List Nat → List (Option TObj) → List (Nat × Option TObj)
  | a :: l, x :: r => (a, x) :: zipU l r
  | _, _ => []
structure Cx where
  G : Tab
  T : List Ent
  n : Nat
  H : List (Nat × Sh)
section
variable (cx : Cx)
def emitT {R : Type} (h : Bool) (v : TV) (K : TV → Opt R) : Opt R := match h, v with
  | true, .val s t x => ltT t x fun y => K (.val s t y)
  | _, v => K v
def emitO {R : Type} (h : Bool) (o : TObj) (K : TObj → Opt R) : Opt R := match h, o with
  | true, .var ty (.val s t x) => ltT t x fun y => K (.var ty (.val s t y))
  | true, .rows ty s e l => ltT (.sl e) l fun y => K (.rows ty s e y)
  | _, o => K o
def needE {R : Type} (_ : FuncId) (_ : List TV) (_ : Nat → Option TObj) : Opt R := nope 2
def callD {R : Type} (dst : Option Tmp) (f : TV) (args : List TV) (ob : Nat → Option TObj) (nx : Nat) (K : Dlt → Nat → Opt R) : Opt R :=
  match f with
  | .clo k caps => match capsB caps with
   | false => nope 45
   | true => match findE ob k (args ++ listT caps) cx.T with
    | some ⟨E, x, sel, froz, kf⟩ => obT E.osh.tys (E.f x) fun r =>
      match decV (fun p => nthN sel p nx) kf E.osh.ret (untup E.osh.tys r) with
      | (v, d) => K ⟨dst, v, killsOf froz ++ zipU (sel ++ rangeN nx (E.osh.objs.length - sel.length)) (decOs (fun p => nthN sel p nx) kf E.osh.objs d)⟩ (E.osh.objs.length - sel.length)
    | none => needE k (args ++ listT caps) ob
  | _ => nope 3
def opD {R : Type} (o : Oper) (e : Nat → TV) (ob : Nat → Option TObj) (nx : Nat) (K : Dlt → Nat → Opt R) : Opt R :=
  match o.op.operands.toList.any fun x => match x with
    | .tmp t => (e t).isAny
    | _ => false with
  | true => nope 4
  | false =>
  match pv cx.G o.op e ob with
  | some (c, v) => ckD c (emitT (heavy o.op) v fun v => K ⟨o.dst, v, []⟩ 0)
  | none => match newT cx.G o.op e ob nx with
    | some (c, v, obj, kills) => ckD c (K ⟨o.dst, v, (nx, some obj) :: killsOf kills⟩ 1)
    | none => match o.op with
      | .store t x v => match stT cx.G t ob (evA e x) (evA e v) with
        | some (nm, h, obj, kills) => emitO h obj fun obj => K ⟨o.dst, .any, (nm, some obj) :: killsOf kills⟩ 0
        | none => nope 5
      | .call c => match c.callee, c.args.toList, c.argTypes.toList with
        | .builtin .append, [x, y], [t, t2] => match appT cx.G t t2 ob (evA e x) (evA e y) with
          | some (c, obj, kills) => ckD c (K ⟨o.dst, .own nx, (nx, some obj) :: killsOf kills⟩ 1)
          | none => nope 6
        | .builtin .clear, [x], [t] => match clT cx.G t ob (evA e x) with
          | some (nm, obj) => K ⟨o.dst, .any, [(nm, some obj)]⟩ 0
          | none => nope 9
        | .value f, args, _ => callD cx o.dst (evA e f) (args.map (evA e)) ob nx K
        | _, _, _ => nope 7
      | _ => nope 8
def setAll (ob : Nat → Option TObj) : List (Nat × Option TObj) → (Nat → Option TObj)
  | [] => ob
  | (n, o) :: l => upd (setAll ob l) n o
def St.put (st : St) (dst : Option Tmp) (av : TV) : St :=
  match dst with
  | none => st
  | some t => { st with env := upd st.env t av }
def St.app (st : St) (d : Dlt) : St := St.put { st with objs := setAll st.objs d.ups } d.dst d.av
def St.next (st : St) (d : Dlt) (k : Nat) : St := ⟨(st.app d).env, (st.app d).objs, st.nx + k⟩
def eqG : Option (Nat × Bool) → Option (Nat × Bool) → Bool
  | none, none => true
  | some (a, b), some (c, d) => match Nat.beq a c with
    | true => match b, d with
      | true, true => true
      | false, false => true
      | _, _ => false
    | false => false
  | _, _ => false
def splitG (outer : Option (Nat × Bool)) : List Oper → Option (List Oper × Oper × List Oper)
  | [] => none
  | o :: l => match eqG o.guard outer with
    | true => some ([], o, l)
    | false => match splitG outer l with
      | some (a, p, r) => some (o :: a, p, r)
      | none => none
def hide : List Oper → (Nat → TV) → (Nat → TV)
  | [], e => e
  | o :: l, e => match o.dst with
    | some t => upd (hide l e) t .any
    | none => hide l e
def slB (G : Tab) (t : TypeId) : Bool := match tyOf G t with
  | some (.sl _) => true
  | _ => false
def isNilEq (G : Tab) : Op → Option (Bool × Operand)
  | .binOp .eql t x (.const (.slice none 0 0)) _ => match slB G t with
    | true => some (true, x)
    | false => none
  | .binOp .neq t x (.const (.slice none 0 0)) _ => match slB G t with
    | true => some (false, x)
    | false => none
  | _ => none
def nilD (ob : Nat → Option TObj) : TV → Option (Option Chk)
  | .nil => some none
  | .val _ (.sl _) l => some (some (lemptyD l))
  | .own nm => match ob nm with
    | some (.rows _ _ _ l) => some (some (lemptyD l))
    | _ => none
  | _ => none
def guardV (ops : List Oper) (e : Nat → TV) (g : Nat) : Option Ty.bool.den := match ops[g]? with
  | some o => match o.dst with
    | some t => bools (e t)
    | none => none
  | none => none
def shMat {R S : Type} (o : Option S) (k : S → Opt R) : Opt R := match o with
  | some s => k s
  | none => nope 40
def allowed (lim : Option Nat) (nm : Nat) : Bool := match lim with
  | none => true
  | some n => Nat.ble n nm
def keyG (i j : Nat) : Nat := 1000000 * (j + 1) + i
def dstOK (gs : List Tmp) : Option Tmp → Bool
  | none => true
  | some t => !memN t gs
def guardT (all : List Oper) (g : Nat) : Option Tmp := match all[g]? with
  | some o => o.dst
  | none => none
def guardTL (all : List Oper) (g : Nat) : List Tmp := match guardT all g with
  | some t => [t]
  | none => []
def pickOf (gt : Option Tmp) (ok : Bool) : Op → Option (Operand × Operand)
  | .pick (.tmp t) a b => match gt, ok with
    | some t', true => match Nat.beq t t' with
      | true => some (a, b)
      | false => none
    | _, _ => none
  | _ => none
def skipOK (all : List Oper) (g : Nat) (w : Bool) : List Oper → List Tmp → Bool
  | [], _ => true
  | o :: l, un => (match o.guard with
    | none => false
    | some (g', w') => match eqG (some (g', w')) (some (g, w)) with
      | true => true
      | false => match guardT all g' with
        | some t => memN t un
        | none => false) && skipOK all g w l (match o.dst with
    | some t => t :: un
    | none => un)
def brW {R : Type} (w : Bool) (c : Ty.bool.den) (x y : Opt R) : Opt R := match w with
  | true => brD c x y
  | false => brD c y x
def selW {α : Type} (w : Bool) (a b : α) : α := match w with
  | true => a
  | false => b
def endV (t : Ty) : TV → Opt t.den
  | .val true t' y => match cast? t' t y with
    | some y => ret1 t y
    | none => nope 13
  | _ => nope 13
noncomputable def evS (i : Nat) (all : List Oper) : Nat → (R : Type) → List Oper → Option (Nat × Bool) → List Tmp → Option Nat → St → (St → Opt R) → Opt R
  | 0, _, _, _, _, _, _, _ => nope 10
  | _ + 1, _, [], _, _, _, st, K => K st
  | fuel + 1, R, o :: l, outer, gs, lim, st, K => match dstOK gs o.dst, eqG o.guard outer with
    | false, _ => nope 18
    | true, true => match isNilEq cx.G o.op, outer with
      | some (w, x), none => match nilD st.objs (evA st.env x) with
        | some none => evS i all fuel R l outer gs lim (st.put o.dst (.val true .bool (dB w))) K
        | some (some em) => ambT em fun b => evS i all fuel R l outer gs lim (st.put o.dst (.val true .bool (selW w b (notD b)))) K
        | none => nope 11
      | _, _ => opD cx o st.env st.objs st.nx fun d k => match d.ups.all fun p => allowed lim p.1 with
        | true => evS i all fuel R l outer gs lim (st.next d k) K
        | false => nope 12
    | true, false => match o.guard, splitG outer (o :: l) with
      | some (g, w), some (inner, pk, rest) => match guardT all g, dstOK gs pk.dst && skipOK all g w inner [], pickOf (guardT all g) (inner.all fun o => dstOK (guardTL all g ++ gs) o.dst) pk.op, guardV all st.env g with
        | some gt, true, some (a, b), some gb => match look cx.H (keyG i (all.length - (l.length + 1))), outer with
          | some sh, none => jnT sh.tys (fun s => evS i all fuel R rest outer gs lim (sh.dec s) K) fun j => brW w gb
              (evS i all fuel R inner (some (g, w)) (gt :: gs) none st fun st' => shMat (sh.mat (st'.put pk.dst (evA st'.env (selW w a b)))) j)
              (shMat (sh.mat (St.put ⟨hide inner st.env, st.objs, st.nx⟩ pk.dst (evA (hide inner st.env) (selW w b a)))) j)
          | none, _ => match evA (hide inner st.env) (selW w b a) with
            | .val true t no => ob1T t (brW w gb
                (evS i all fuel t.den inner (some (g, w)) (gt :: gs) (some st.nx) st fun st' => match Nat.ble st'.nx (st.nx + 8 * inner.length) with
                  | true => endV t (evA st'.env (selW w a b))
                  | false => nope 19)
                (ret1 t no)) fun x => evS i all fuel R rest outer gs lim (St.put ⟨hide inner st.env, st.objs, st.nx + 8 * inner.length⟩ pk.dst (.val true t x)) K
            | _ => nope 14
          | _, _ => nope 17
        | _, _, _, _ => nope 15
      | _, _ => nope 16
def tmpsOf (l : List Operand) : List Tmp := l.filterMap fun | .tmp t => some t | _ => none
structure DItem where
  d : Dlt
  rd : List Nat
  hid : Bool
def namesT : TV → List Nat
  | .own nm => [nm]
  | .ownp nm _ _ => [nm]
  | .ptr nm _ => [nm]
  | .sv nm _ _ _ => [nm]
  | .pr a b => namesT a ++ namesT b
  | .tcons a b => namesT a ++ namesT b
  | .clo _ c => namesT c
  | _ => []
def namesIn (ob : Nat → Option TObj) : List Nat → List Nat
  | [] => []
  | n :: l => match ob n with
    | some (.var _ c) => namesT c ++ namesIn ob l
    | _ => namesIn ob l
def reach (ob : Nat → Option TObj) (l : List Nat) : List Nat := match namesIn ob l with
  | l1 => match namesIn ob l1 with
    | l2 => l ++ l1 ++ l2 ++ namesIn ob l2
def opNames (e : Nat → TV) : List Operand → List Nat
  | [] => []
  | x :: l => namesT (evA e x) ++ opNames e l
def opReads (ob : Nat → Option TObj) (e : Nat → TV) (op : Op) : List Nat := match op with
  | .move _ | .assign _ | .pick .. | .extract .. | .field .. | .nilCheck _ | .fieldAddr .. | .makeFunc .. | .box .. | .build .. | .alloc _ | .binOp .. | .unOp .. | .index .. | .makeSlice .. => []
  | .load _ x => namesT (evA e x)
  | .indexAddr _ x _ => namesT (evA e x)
  | .store _ x v => namesT (evA e x) ++ namesT (evA e v)
  | op => reach ob (opNames e op.operands.toList)
def noRead : Op → Bool
  | .move _ | .assign _ | .pick .. | .extract .. | .field .. | .nilCheck _ | .fieldAddr .. | .makeFunc .. | .box .. | .build .. | .alloc _ | .binOp .. | .unOp .. | .index .. | .makeSlice .. => true
  | _ => false
def restr (l : List Nat) (ob : Nat → Option TObj) : Nat → Option TObj := fun n => match memN n l with
  | true => ob n
  | false => none
def restE (l : List Nat) (e : Nat → TV) : Nat → TV := fun n => match memN n l with
  | true => e n
  | false => .any
def bindsOn (o : Oper) : List Nat := (o.after.toList.filter (Region.binds .any)).map (·.on)
def writer : List DItem → Tmp → Nat → Option (Nat × TV)
  | [], _, _ => none
  | x :: l, t, i => match x.d.dst with
    | some u => match Nat.beq u t with
      | true => some (i, x.d.av)
      | false => writer l t (i + 1)
    | none => writer l t (i + 1)
def upsGet : List (Nat × Option TObj) → Nat → Option (Option TObj)
  | [], _ => none
  | (n, o) :: l, x => match Nat.beq x n with
    | true => some o
    | false => upsGet l x
def updLast : List DItem → Nat → Nat → (Nat → Bool) → Option (Option TObj)
  | [], _, _, _ => none
  | x :: l, nm, i, D => match updLast l nm (i + 1) D with
    | some u => some u
    | none => match D i with
      | true => upsGet x.d.ups nm
      | false => none
def dEnv (dl : List DItem) (st : St) (D : Nat → Bool) : Nat → TV := fun t => match writer dl t 0 with
  | some (j, av) => match D j with
    | true => av
    | false => st.env t
  | none => st.env t
def dObj (dl : List DItem) (st : St) (D : Nat → Bool) : Nat → Option TObj := fun nm => match updLast dl nm 0 D with
  | some u => u
  | none => st.objs nm
def preds1 (acc : List (List Nat)) : List Nat → List Nat
  | [] => []
  | j :: l => j :: (match acc[j]? with
    | some a => a
    | none => []) ++ preds1 acc l
def predsAll : List (List Nat) → List Oper → List (List Nat)
  | acc, [] => acc
  | acc, o :: l => predsAll (acc ++ [preds1 acc (bindsOn o)]) l
def predOf (ps : List (List Nat)) (i : Nat) : Nat → Bool := fun j => match ps[i]? with
  | some a => memN j a
  | none => false
def compAll (ps : List (List Nat)) (i nm : Nat) : List DItem → Nat → Bool
  | [], _ => true
  | x :: l, j => (match upsGet x.d.ups nm with
    | none => true
    | some _ => predOf ps i j || Nat.beq j i || predOf ps j i) && compAll ps i nm l (j + 1)
def readsOf (ops : List Oper) (o : Oper) : List Tmp := tmpsOf o.op.operands.toList ++ (match o.guard with | some (g, _) => ((ops[g]?).bind (·.dst)).toList | none => [])
def compHid (n0 : Nat) (ps : List (List Nat)) (i : Nat) : List DItem → Nat → Bool
  | [], _ => true
  | y :: l, j => (predOf ps i j || Nat.beq j i || predOf ps j i || y.d.ups.all fun p => Nat.ble (n0 + 8 * j) p.1) && compHid n0 ps i l (j + 1)
def predG (ps : List (List Nat)) (i : Nat) : Option (Nat × Bool) → Bool
  | none => true
  | some (g, _) => predOf ps i g
def readsB (ps : List (List Nat)) (dl : List DItem) (i : Nat) : List Tmp → Bool
  | [] => true
  | t :: l => (match writer dl t 0 with
    | some (j, _) => predOf ps i j || predOf ps j i
    | none => true) && readsB ps dl i l
def eqO : Option Nat → Option Nat → Bool
  | none, none => true
  | some a, some b => Nat.beq a b
  | _, _ => false
def nodupN : List Nat → Bool
  | [] => true
  | a :: l => !memN a l && nodupN l
def drawB (n0 : Nat) (ops : List Oper) (ps : List (List Nat)) (dl : List DItem) : List Oper → List DItem → Nat → Bool
  | o :: l, x :: r, i => (x.d.ups.all fun p => compAll ps i p.1 dl 0) && readsB ps dl i (readsOf ops o) && (x.rd.all fun nm => compAll ps i nm dl 0) && (!x.hid || noRead o.op || compHid n0 ps i dl 0) && drawB n0 ops ps dl l r (i + 1)
  | [], [], _ => true
  | _, _, _ => false
def drawOK (n0 : Nat) (ops : List Oper) (ps : List (List Nat)) (dl : List DItem) : Bool := drawB n0 ops ps dl ops dl 0
def drawA (ps : List (List Nat)) : List Oper → Nat → Bool
  | [], _ => true
  | o :: l, i => ((bindsOn o).all fun j => Nat.blt j i) && predG ps i o.guard && drawA ps l (i + 1)
def hold (l : List Oper) : List DItem := l.map fun o => ⟨⟨o.dst, .any, []⟩, [], true⟩
def innerB (n0 : Nat) (ps : List (List Nat)) (acc : List DItem) (d : Dlt) (rd : List Nat) : Option (Nat × Bool) → Bool
  | none => true
  | some _ => d.ups.isEmpty && rd.all fun nm => Nat.blt nm (n0 + 8 * acc.length) && compAll ps acc.length nm acc 0
noncomputable def evD (all : List Oper) (ps : List (List Nat)) (st : St) : Nat → (R : Type) → List Oper → Option (Nat × Bool) → List DItem → (List DItem → Opt R) → Opt R
  | 0, _, _, _, _, _ => nope 20
  | _ + 1, _, [], _, acc, K => K acc
  | fuel + 1, R, o :: l, outer, acc, K => match dEnv acc st (predOf ps acc.length), dObj acc st (predOf ps acc.length) with
    | e, ob => match eqG o.guard outer with
      | true => match opReads ob e o.op with
        | rd => opD cx o (restE (tmpsOf o.op.operands.toList) e) (restr rd ob) (st.nx + 8 * acc.length) fun d k => match Nat.ble k 8 && innerB st.nx ps acc d rd outer with
          | true => evD all ps st fuel R l outer (acc ++ [⟨d, rd, false⟩]) K
          | false => nope 22
      | false => match o.guard, splitG outer (o :: l) with
        | some (g, w), some (inner, pk, rest) => match skipOK all g w inner [] && predOf ps (acc.length + inner.length) g, pickOf (guardT all g) true pk.op, guardV all e g with
          | true, some (a, b), some gb => match evA (dEnv (acc ++ hold inner) st (predOf ps (acc.length + inner.length))) (selW w b a) with
            | .val true t no => ob1T t (brW w gb (evD all ps st fuel t.den inner (some (g, w)) acc fun acc' => endV t (evA (dEnv acc' st (predOf ps acc'.length)) (selW w a b))) (ret1 t no)) fun x =>
                evD all ps st fuel R rest outer (acc ++ hold inner ++ [⟨⟨pk.dst, .val true t x, []⟩, [], false⟩]) K
            | _ => nope 24
          | _, _, _ => nope 25
        | _, _ => nope 26
def panics (o : Oper) : Bool := match o.op, o.guard with
  | .panic _, none => true
  | _, _ => false
noncomputable def evR {R : Type} (i : Nat) (ops : Array Oper) (draw : Bool) (st : St) (K : St → Opt R) : Opt R := match ops.toList.any panics with
  | true => stopT
  | false => match draw with
  | false => evS cx i ops.toList (ops.toList.length + 1) R ops.toList none [] none st K
  | true => match nodupN (ops.toList.filterMap (·.dst)) && drawA (predsAll [] ops.toList) ops.toList 0 with
   | false => nope 31
   | true => evD cx ops.toList (predsAll [] ops.toList) st (ops.toList.length + 1) R ops.toList none [] fun dl => match drawOK st.nx ops.toList (predsAll [] ops.toList) dl with
    | true => K ⟨dEnv dl st fun _ => true, dObj dl st fun _ => true, st.nx + 8 * dl.length⟩
    | false => nope 30
def codeLen : Code → Nat
  | .seq x y => codeLen x + codeLen y + 1
  | .cond _ x y => codeLen x + codeLen y + 1
  | .block _ x => codeLen x + 1
  | .loop x => codeLen x + 1
  | _ => 1
def thenK {R : Type} (next : St → Opt R) (K : Exit → St → Opt R) (e : Exit) (st : St) : Opt R := match (fun _ : Nat => e) high with
  | .normal => next st
  | e => K e st
def blockK {R : Type} (id : Nat) (K : Exit → St → Opt R) : Exit → St → Opt R
  | .exit i, st => match Nat.beq i id with
    | true => K .normal st
    | false => K (.exit i) st
  | e, st => K e st
noncomputable def ev {R : Type} : Code → Nat → St → (Exit → St → Opt R) → Opt R
  | .skip, _, st, K => K .normal st
  | .region _ ops d, i, st, K => evR cx i ops d st (K .normal)
  | .seq x y, i, st, K => match look cx.H i with
    | none => ev x (i + 1) st (thenK (fun st' => ev y (i + 1 + codeLen x) st' K) K)
    | some sh => jnT sh.tys (fun s => ev y (i + 1 + codeLen x) (sh.dec s) K) fun j => ev x (i + 1) st (thenK (fun st' => shMat (sh.mat st') j) K)
  | .cond c x y, i, st, K => match bools (evA st.env c) with
    | some t => brD t (ev x (i + 1) st K) (ev y (i + 1 + codeLen x) st K)
    | none => nope 41
  | .block id c, i, st, K => ev c (i + 1) st (blockK id K)
  | .loop c, i, st, K => match look cx.H i with
    | some sh => shMat (sh.mat st) fun s0 => fxT sh.tys (fun self s => ev c (i + 1) (sh.dec s) (thenK (fun st' => shMat (sh.mat st') self) K)) cx.n s0
    | none => nope 42
  | .exit id, _, st, K => K (.exit id) st
  | .ret, _, st, K => K .ret st
  | _, _, _, _ => nope 43
def resV (st : St) : ResultVar → Option TV
  | .tmp t => some (st.env t)
  | .cell a t => match ldT cx.G st.objs t (st.env a) with
    | some (_, v) => some v
    | none => none
def resL (st : St) : List ResultVar → Option TV
  | [] => some .tnil
  | r :: l => match resV cx st r, resL st l with
    | some x, some xs => match isTup x with
      | false => some (.tcons x xs)
      | true => none
    | _, _ => none
def tupOf : TV → TV
  | .tcons x .tnil => x
  | v => v
def finK (osh : RSh) (n0 : Nat) (rs : List ResultVar) : Exit → St → Opt (TupT osh.tys)
  | .normal, st | .ret, st => match resL cx st rs with
    | some v => shMat (osh.mat n0 st (tupOf v)) (retT osh.tys)
    | none => nope 51
  | _, _ => nope 52
def dstB (n : Nat) (o : Oper) : Bool := match o.dst with
  | none => true
  | some t => Nat.blt t n
def tmpsC (n : Nat) : Code → Bool
  | .region _ ops _ => ops.toList.all (dstB n)
  | .seq x y | .cond _ x y => tmpsC n x && tmpsC n y
  | .block _ x | .loop x => tmpsC n x
  | _ => true
noncomputable def evF (fn : Func) (ish : CSh) (osh : RSh) (x : TupT ish.tys) : Opt (TupT osh.tys) := match fn.body, (cx.H.all fun q => Nat.beq q.2.n0 ish.objs.length) && Nat.ble ish.args.length fn.ntmps && Nat.ble fn.results.size 4 with
  | some c, true => match tmpsC fn.ntmps c with
    | true => ev cx c 0 (ish.dec x) (finK cx osh ish.objs.length fn.results.toList)
    | false => nope 54
  | _, _ => nope 53
end
end Go.Tv
