/- The abstract evaluator: values told deeply, a small heap of owned memory, and an evaluator over the model's own code. -/
import GoSem.Step
namespace Go.Abs
set_option linter.unusedVariables false
set_option linter.unusedSimpArgs false
open Go

/-- The shapes of abstract values. -/
inductive Ty where
  | unit | int (k : IntKind) | bool | str
  | sl (t : Ty) | arr (n : Nat) (t : Ty) | pair (a b : Ty)
  | ip (t : Ty) | rf (t : Ty) | pt
  | nilS | nilP | nilF | nilM
  | fn (f : Nat) (c : Ty) | tup (t : Ty) | undef
  deriving DecidableEq, Inhabited

/-- A step from an object's begin to a part: a field (its offset in cells, its place), an element (its size in cells, its place). -/
inductive Stp where
  | fld (off j : Nat) | idx (sz i : Nat)
  deriving DecidableEq, Inhabited

def Ty.El : Ty → Type
  | .unit => Unit | .int _ => Int | .bool => Bool | .str => List Int
  | .sl t => List t.El | .arr _ t => List t.El | .pair a b => a.El × b.El
  | .ip t => t.El | .rf _ => Nat × Option (Nat × Nat) | .pt => Nat × List Stp
  | .nilS => Unit | .nilP => Unit | .nilF => Unit | .nilM => Unit
  | .fn _ c => c.El | .tup t => t.El | .undef => Unit

def Ty.dflt : (t : Ty) → t.El
  | .unit => () | .int _ => (0 : Int) | .bool => false | .str => ([] : List Int)
  | .sl _ => [] | .arr n t => List.replicate n t.dflt | .pair a b => (a.dflt, b.dflt)
  | .ip t => t.dflt | .rf _ => (0, none) | .pt => (0, [])
  | .nilS => () | .nilP => () | .nilF => () | .nilM => ()
  | .fn _ c => c.dflt | .tup t => t.dflt | .undef => ()

def Ty.cells : Ty → Nat
  | .unit => 0 | .arr n t => n * t.cells | .pair a b => a.cells + b.cells | _ => 1

def Ty.isAgg : Ty → Bool
  | .unit => true | .arr _ _ => true | .pair _ _ => true | _ => false

/-- Nothing in it leads to owned memory. -/
def Ty.deep : Ty → Bool
  | .rf _ => false | .pt => false | .undef => false
  | .sl t => t.deep | .arr _ t => t.deep | .pair a b => a.deep && b.deep | .ip t => t.deep | .fn _ c => c.deep | .tup t => t.deep
  | _ => true

/-- Nothing in it leads to memory. -/
def Ty.flat : Ty → Bool
  | .unit => true | .int _ => true | .bool => true | .str => true | .nilS => true | .nilP => true | .nilF => true | .nilM => true
  | .arr _ t => t.flat | .pair a b => a.flat && b.flat | .tup t => t.flat
  | _ => false

/-- It may lie in memory. -/
def Ty.mem : Ty → Bool
  | .undef => false | .tup _ => false
  | .arr _ t => t.mem | .pair a b => a.mem && b.mem
  | _ => true

structure V where
  t : Ty
  x : t.El

def V.undef : V := ⟨.undef, ()⟩
/-- What an operation that is not performed leaves. -/
def V.skip : V := ⟨.tup .unit, ()⟩
instance : Inhabited V := ⟨V.undef⟩

def V.int? : V → Option (IntKind × Int) | ⟨.int k, x⟩ => some (k, x) | _ => none
def V.bool? : V → Option Bool | ⟨.bool, x⟩ => some x | _ => none
def V.str? : V → Option (List Int) | ⟨.str, x⟩ => some x | _ => none
def V.as (v : V) (t : Ty) : Option t.El := if h : v.t = t then some (h ▸ v.x) else none

/-- An object: a variable, or a row of elements; 'fz': it is not written any more; 'none': it is forgotten; 'free': it is not laid yet. -/
inductive Obj where
  | none
  | free
  | box (v : V) (fz : Bool)
  | row (t : Ty) (l : List t.El) (fz : Bool)
instance : Inhabited Obj := ⟨.none⟩

structure St where
  env : List V
  H : List Obj

inductive TK where
  | int (k : IntKind) | bool | str | slice (e : Nat) | arr (n e : Nat) | struct (fs : List (Nat × Nat)) | ptr (e : Nat) | func | map (k e : Nat) | other
  deriving DecidableEq, Inhabited

/-- A type: its underlying kind, its cells, its bytes, how its values are told deeply, how its zero value is, are its values (structs) held against one another part by part. -/
structure TI where
  kind : TK
  size : Nat
  bytes : Nat
  dt : Ty
  zt : Ty
  eq : Bool
instance : Inhabited TI := ⟨.other, 0, 0, .undef, .undef, false⟩
def TI.zero (i : TI) : V := ⟨i.zt, i.zt.dflt⟩
def TI.eqs (i : TI) : Bool := match i.kind with | .struct _ => i.eq | _ => false

/-- A function's contract: what its parameters are told as; does its result lead to no memory; is it a fresh row; what it answers. -/
structure Spec where
  params : List (Option Ty)
  flat : Bool
  own : Bool
  run : List V → (V → Prop) → Prop

/-- A contract of a function that is handed objects: what its parameters are told as (none: as they stand, with what they lead to), what it answers and leaves. -/
structure HSpec where
  params : List (Option Ty)
  run : List V → List Obj → (V → List Obj → Prop) → Prop

structure Ctx where
  types : List TI
  calls : Nat → Option Spec
  hcalls : Nat → Option HSpec
  pin : Nat
  fuel : Nat

def Ctx.ty (cx : Ctx) (t : Nat) : TI := cx.types.getD t default

structure Eff where
  v : V
  ups : List (Nat × Obj) := []
  rd : List Nat := []

/-- Which way: a test that may be unknown. -/
def br (b : Bool) (x y : Prop) : Prop := match b with | true => x | false => y
def gd (b : Bool) (x : Prop) : Prop := match b with | true => x | false => False
def optK {α : Type} (o : Option α) (K : α → Prop) : Prop := match o with | some a => K a | none => False

def LIM : Nat := 4611686018427387904

def inK (k : IntKind) (n : Int) : Bool := decide (k.min ≤ n) && decide (n ≤ k.max)

def strOf (s : ByteArray) : List Int := s.data.toList.map fun b => (b.toNat : Int)

def constV : Value → Option V
  | .int k n => match inK k n with | true => some ⟨.int k, n⟩ | false => none
  | .bool b => some ⟨.bool, b⟩
  | .string s => match decide (s.data.toList.length ≤ LIM) with | true => some ⟨.str, strOf s⟩ | false => none
  | .slice none 0 0 => some ⟨.nilS, ()⟩
  | .pointer none => some ⟨.nilP, ()⟩
  | .nilFunc => some ⟨.nilF, ()⟩
  | .map none => some ⟨.nilM, ()⟩
  | _ => none

def opnd (env : List V) : Operand → Option V
  | .tmp t => env[t]?
  | .const v => constV v
  | .func f => some ⟨.fn f .unit, ()⟩
  | .global _ => none

/-! #### Operators -/

def mnI (x y : Int) : Int := if y < x then y else x
def mxI (x y : Int) : Int := if y > x then y else x


def bitsI (op : BinOp) (k : IntKind) (x y : Int) : Int :=
  match op with
  | .and => k.wrap (BitVec.ofInt k.bits x &&& BitVec.ofInt k.bits y).toNat
  | .or => k.wrap (BitVec.ofInt k.bits x ||| BitVec.ofInt k.bits y).toNat
  | .xor => k.wrap (BitVec.ofInt k.bits x ^^^ BitVec.ofInt k.bits y).toNat
  | _ => k.wrap (BitVec.ofInt k.bits x &&& ~~~BitVec.ofInt k.bits y).toNat

def shlI (k : IntKind) (x y : Int) : Int := k.wrap (x * 2 ^ min y.toNat k.bits)
def shrI (k : IntKind) (x y : Int) : Int := x / 2 ^ min y.toNat k.bits

def ltS : List Int → List Int → Bool
  | _, [] => false
  | [], _ :: _ => true
  | a :: x, b :: y => decide (a < b) || (a == b && ltS x y)

def eqL {α : Type} (eq : α → α → Bool) : List α → List α → Bool
  | [], [] => true
  | a :: x, b :: y => eq a b && eqL eq x y
  | _, _ => false

def eqEl : (t : Ty) → t.El → t.El → Bool
  | .unit, _, _ => true
  | .int _, a, b => let (x, y) : Int × Int := (a, b); x == y
  | .bool, a, b => let (x, y) : Bool × Bool := (a, b); x == y
  | .str, a, b => let (x, y) : List Int × List Int := (a, b); x == y
  | .pair s t, a, b => eqEl s a.1 b.1 && eqEl t a.2 b.2
  | .arr _ t, a, b => eqL (eqEl t) a b
  | _, _, _ => false

/-- Its values are held against one another part by part. -/
def Ty.eqs : Ty → Bool
  | .unit => true | .int _ => true | .bool => true | .str => true | .pair a b => a.eqs && b.eqs | .arr _ t => t.eqs | _ => false

def cmpI (op : BinOp) (x y : Int) : Option Bool :=
  match op with
  | .eql => some (x == y) | .neq => some (x != y) | .lss => some (decide (x < y)) | .leq => some (decide (x ≤ y))
  | .gtr => some (decide (x > y)) | .geq => some (decide (x ≥ y)) | _ => none

def cmpS (op : BinOp) (x y : List Int) : Option Bool :=
  match op with
  | .eql => some (x == y) | .neq => some (!(x == y)) | .lss => some (ltS x y) | .leq => some (ltS x y || x == y)
  | .gtr => some (!(ltS x y || x == y)) | .geq => some (!ltS x y) | _ => none

def binI (op : BinOp) (k : IntKind) (x y : Int) (K : V → Prop) : Prop :=
  match op with
  | .add => K ⟨.int k, k.wrap (x + y)⟩
  | .sub => K ⟨.int k, k.wrap (x - y)⟩
  | .mul => K ⟨.int k, k.wrap (x * y)⟩
  | .quo => gd (!(y == 0)) (K ⟨.int k, k.wrap (x.tdiv y)⟩)
  | .rem => gd (!(y == 0)) (K ⟨.int k, x.tmod y⟩)
  | .and => K ⟨.int k, bitsI .and k x y⟩
  | .or => K ⟨.int k, bitsI .or k x y⟩
  | .xor => K ⟨.int k, bitsI .xor k x y⟩
  | .andNot => K ⟨.int k, bitsI .andNot k x y⟩
  | op => optK (cmpI op x y) fun b => K ⟨.bool, b⟩

def shI (op : BinOp) (k : IntKind) (x y : Int) : Int := match op with | .shl => shlI k x y | _ => shrI k x y

def isShift : BinOp → Bool | .shl => true | .shr => true | _ => false

/-- Are two values equal, one of them the literal nil? -/
def nilEq : TK → V → V → Option Bool
  | .slice _, ⟨.nilS, _⟩, ⟨.nilS, _⟩ => some true
  | .ptr _, ⟨.nilP, _⟩, ⟨.nilP, _⟩ => some true
  | .ptr _, ⟨.nilP, _⟩, ⟨.pt, _⟩ => some false
  | .ptr _, ⟨.nilP, _⟩, ⟨.ip _, _⟩ => some false
  | .ptr _, ⟨.pt, _⟩, ⟨.nilP, _⟩ => some false
  | .ptr _, ⟨.ip _, _⟩, ⟨.nilP, _⟩ => some false
  | .func, ⟨.nilF, _⟩, ⟨.nilF, _⟩ => some true
  | .func, ⟨.nilF, _⟩, ⟨.fn _ _, _⟩ => some false
  | .func, ⟨.fn _ _, _⟩, ⟨.nilF, _⟩ => some false
  | _, _, _ => none

def eqOp (op : BinOp) (b : Bool) : Option Bool := match op with | .eql => some b | .neq => some (!b) | _ => none

def binV (cx : Ctx) (op : BinOp) (xt : Nat) (a b : V) (K : V → Prop) : Prop :=
  match a.int?, b.int? with
  | some (k, x), some (k', y) =>
    match isShift op with
    | true => gd (decide (0 ≤ y)) (K ⟨.int k, shI op k x y⟩)
    | false => match decide (k = k') with | true => binI op k x y K | false => False
  | _, _ =>
  match a.str?, b.str? with
  | some x, some y =>
    match op with
    | .add => gd (decide (x.length + y.length ≤ LIM)) (K ⟨.str, x ++ y⟩)
    | op => optK (cmpS op x y) fun r => K ⟨.bool, r⟩
  | _, _ =>
  match a.bool?, b.bool? with
  | some x, some y => match (cx.ty xt).kind with | .bool => optK (eqOp op (x == y)) fun r => K ⟨.bool, r⟩ | _ => False
  | _, _ =>
  match nilEq (cx.ty xt).kind a b with
  | some c => optK (eqOp op c) fun r => K ⟨.bool, r⟩
  | none =>
    match (cx.ty xt).eqs with
    | true => optK (a.as (cx.ty xt).dt) fun x => optK (b.as (cx.ty xt).dt) fun y => optK (eqOp op (eqEl (cx.ty xt).dt x y)) fun r => K ⟨.bool, r⟩
    | false => False

/-! #### Parts -/

def compV : (t : Ty) → t.El → Nat → Option V
  | .pair a _, x, 0 => some ⟨a, x.1⟩
  | .pair _ b, x, j + 1 => compV b x.2 j
  | _, _, _ => none

def compT : Ty → Nat → Option Ty
  | .pair a _, 0 => some a
  | .pair _ b, j + 1 => compT b j
  | _, _ => none

def offOf : Ty → Nat → Nat
  | .pair a b, j + 1 => a.cells + offOf b j
  | _, _ => 0

/-- The shape of a part. -/
def tyAt : Ty → List Stp → Option Ty
  | t, [] => some t
  | t, .fld _ j :: r => match compT t j with | some u => tyAt u r | none => none
  | .arr _ t, .idx _ _ :: r => tyAt t r
  | _, _ => none

def tyAtO : Obj → List Stp → Option Ty
  | .box v _, r => tyAt v.t r
  | .row t _ _, .idx _ _ :: r => tyAt t r
  | _, _ => none

def getV : V → List Stp → Option V
  | v, [] => some v
  | ⟨t, x⟩, .fld off j :: r =>
    match decide (offOf t j = off) with
    | true => match compV t x j with | some u => getV u r | none => none
    | false => none
  | ⟨.arr _ t, l⟩, .idx sz i :: r =>
    match decide (t.cells = sz) with
    | true => getV ⟨t, (l : List t.El).getD i t.dflt⟩ r
    | false => none
  | _, _ => none

def setComp : (t : Ty) → t.El → Nat → V → Option V
  | .pair _ b, x, 0, v => some ⟨.pair v.t b, (v.x, x.2)⟩
  | .pair a b, x, j + 1, v => match setComp b x.2 j v with | some u => some ⟨.pair a u.t, (x.1, u.x)⟩ | none => none
  | _, _, _, _ => none

/-- The same parts in the same places: what stays when a part is written. -/
def Ty.skel : Ty → Ty → Bool
  | .unit, .unit => true
  | .pair a b, .pair c d => Ty.skel a c && Ty.skel b d
  | .arr n a, .arr m b => decide (n = m) && decide (a = b)
  | .unit, _ => false | .pair _ _, _ => false | .arr _ _, _ => false
  | _, .unit => false | _, .pair _ _ => false | _, .arr _ _ => false
  | _, _ => true

def getO : Obj → List Stp → Option V
  | .box v _, r => getV v r
  | .row t l _, .idx sz i :: r => match decide (t.cells = sz) with | true => getV ⟨t, l.getD i t.dflt⟩ r | false => none
  | _, _ => none

def dvB (t : Ty) (x : t.El) : Option (V × List Nat) := match t.deep with | true => some (⟨t, x⟩, []) | false => none

/-- A value as one that leads to no owned memory, and which objects were read for it. -/
def dv (H : List Obj) : (t : Ty) → t.El → Option (V × List Nat)
  | .rf t, x =>
    match H[x.1]? with
    | some (.row t' l _) =>
      match t'.deep && decide (t' = t) with
      | true => match x.2 with
        | none => some (⟨.sl t', l⟩, [x.1])
        | some (off, len) => some (⟨.sl t', (l.drop off).take len⟩, [x.1])
      | false => none
    | _ => none
  | .pt, x =>
    match H[x.1]? with
    | some (.box v _) => match getV v x.2 with
      | some u => match u.t.deep with | true => some (⟨.ip u.t, u.x⟩, [x.1]) | false => none
      | none => none
    | some (.row t l _) => match x.2 with
      | [] => match t.deep with | true => some (⟨.ip (.arr l.length t), l⟩, [x.1]) | false => none
      | .idx sz i :: r => match decide (t.cells = sz) with
        | true => match getV ⟨t, l.getD i t.dflt⟩ r with
          | some u => match u.t.deep with | true => some (⟨.ip u.t, u.x⟩, [x.1]) | false => none
          | none => none
        | false => none
      | _ => none
    | _ => none
  | .pair a b, x =>
    match dv H a x.1, dv H b x.2 with
    | some (u, p), some (v, q) => some (⟨.pair u.t v.t, (u.x, v.x)⟩, p ++ q)
    | _, _ => none
  | .fn f c, x => match dv H c x with | some (u, p) => some (⟨.fn f u.t, u.x⟩, p) | none => none
  | .tup c, x => match dv H c x with | some (u, p) => some (⟨.tup u.t, u.x⟩, p) | none => none
  | t, x => dvB t x

def coB (s : Ty) (x : s.El) (t : Ty) : Option t.El := if h : s = t then some (h ▸ x) else none

def pairO {A B : Type} (a : Option A) (b : Option B) : Option (A × B) := match a, b with | some a, some b => some (a, b) | _, _ => none
theorem pairO_some {A B : Type} {a : Option A} {b : Option B} {x : A × B} (h : pairO a b = some x) : a = some x.1 ∧ b = some x.2 := by
  cases a <;> cases b <;> simp [pairO] at h
  subst h; exact ⟨rfl, rfl⟩

/-- A value told as one of a given shape: nil slices are empty ones. -/
def co : (s : Ty) → s.El → (t : Ty) → Option t.El
  | .nilS, x, t => match t with
    | .sl _ => some []
    | t => coB .nilS x t
  | .pair a b, x, t => match t with
    | .pair c d => pairO (co a x.1 c) (co b x.2 d)
    | t => coB (.pair a b) x t
  | .tup a, x, t => match t with
    | .tup b => co a x b
    | t => coB (.tup a) x t
  | s, x, t => coB s x t

def frz : Obj → Obj
  | .box v _ => .box v true
  | .row t l _ => .row t l true
  | .none => .none
  | .free => .free

/-- A value in a wanted shape, deeply; the objects that it leads to are frozen. -/
def deepAs (H : List Obj) (v : V) (t : Ty) : Option (t.El × List Nat) :=
  match dv H v.t v.x with
  | some (u, p) => match co u.t u.x t with | some y => some (y, p) | none => none
  | none => none

def frzAll (H : List Obj) (p : List Nat) : List (Nat × Obj) := p.map fun i => (i, frz (H.getD i .none))

/-- A part is written; what an element becomes is told deeply. -/
def setV (H : List Obj) : V → List Stp → V → Option (V × List Nat)
  | v, [], u => match Ty.skel v.t u.t with | true => some (u, []) | false => none
  | ⟨t, x⟩, .fld off j :: r, u =>
    match decide (offOf t j = off) with
    | true => match compV t x j with
      | some p => match setV H p r u with
        | some (q, z) => match setComp t x j q with | some v => some (v, z) | none => none
        | none => none
      | none => none
    | false => none
  | ⟨.arr n t, l⟩, .idx sz i :: r, u =>
    match decide (t.cells = sz) with
    | true => match setV H ⟨t, (l : List t.El).getD i t.dflt⟩ r u with
      | some (q, z') => match deepAs H q t with | some (y, z) => some (⟨.arr n t, (l : List t.El).set i y⟩, z' ++ z) | none => none
      | none => none
    | false => none
  | _, _, _ => none

def setO (H : List Obj) : Obj → List Stp → V → Option (Obj × List Nat)
  | .box v false, r, u => match setV H v r u with | some (q, z) => some (.box q false, z) | none => none
  | .row t l false, .idx sz i :: r, u =>
    match decide (t.cells = sz) with
    | true => match setV H ⟨t, l.getD i t.dflt⟩ r u with
      | some (q, z') => match deepAs H q t with | some (y, z) => some (.row t (l.set i y) false, z' ++ z) | none => none
      | none => none
    | false => none
  | _, _, _ => none

/-! #### Slices -/

/-- The elements of a slice's value, and which object is read. -/
def slRead (H : List Obj) (v : V) (t : Ty) : Option (List t.El × List Nat) :=
  match v with
  | ⟨.nilS, _⟩ => some ([], [])
  | ⟨.sl s, l⟩ => if h : s = t then some (h ▸ l, []) else none
  | ⟨.rf s, x⟩ =>
    if h : s = t then
      match H[x.1]? with
      | some (.row s' l _) =>
        if h' : s' = t then
          match x.2 with
          | none => some (h' ▸ l, [x.1])
          | some (off, len) => some ((h' ▸ ((l.drop off).take len) : List t.El), [x.1])
        else none
      | _ => none
    else none
  | ⟨.str, l⟩ => if h : Ty.int .u8 = t then some (h ▸ (l : List (Ty.int .u8).El), []) else none
  | _ => none

/-! #### Operations -/

def Ctx.elem (cx : Ctx) (t : Nat) : Nat := match (cx.ty t).kind with | .slice e => e | .arr _ e => e | .ptr e => e | _ => 0
def TI.isAgg (i : TI) : Bool := match i.kind with | .struct _ => true | .arr _ _ => true | _ => false

def objOf (v : V) : Obj := .box v false

def ret (v : V) : Eff := { v }

/-- What is loaded whole: a variable that is an array is a row. -/
def loadO (o : Obj) (path : List Stp) (ti : TI) : Option V :=
  match o, path with
  | .row t l _, [] => match ti.kind with | .arr n _ => (match decide (l.length = n) with | true => some ⟨.arr n t, l⟩ | false => none) | _ => none
  | o, r => getO o r

def TK.known : TK → Bool | .other => false | _ => true
def fits (v : V) (ti : TI) : Bool := (v.t.isAgg == ti.isAgg) && decide (v.t.cells = ti.size) && v.t.mem && ti.kind.known

/-- The elements of a composite literal of slices or arrays: each in its place, told deeply. -/
def fillL (H : List Obj) (env : List V) (t : Ty) (n : Nat) (l : List t.El) : List (Nat × Operand) → Option (List t.El × List Nat)
  | [] => some (l, [])
  | (i, x) :: r =>
    match opnd env x, decide (i < n) with
    | some v, true => match deepAs H v t with
      | some (y, z) => match fillL H env t n (l.set i y) r with | some (m, z') => some (m, z ++ z') | none => none
      | none => none
    | _, _ => none

def fillS (offs : List (Nat × Nat)) (env : List V) (v : V) : List (Nat × Operand) → Option V
  | [] => some v
  | (i, x) :: r =>
    match opnd env x, compV v.t v.x i with
    | some u, some c => match Ty.skel c.t u.t && u.t.mem && decide (offs[i]? = some (offOf v.t i, c.t.cells)) with
      | true => match setComp v.t v.x i u with | some w => fillS offs env w r | none => none
      | false => none
    | _, _ => none

def tupOf : List V → V
  | [] => ⟨.unit, ()⟩
  | v :: r => let u := tupOf r; ⟨.pair v.t u.t, (v.x, u.x)⟩

def tupParts : (t : Ty) → t.El → List V
  | .pair a b, x => ⟨a, x.1⟩ :: tupParts b x.2
  | _, _ => []

def opnds (env : List V) : List Operand → Option (List V)
  | [] => some []
  | x :: r => match opnd env x, opnds env r with | some v, some l => some (v :: l) | _, _ => none

def argsAs (H : List Obj) : List V → List (Option Ty) → Option (List V × List Nat)
  | [], [] => some ([], [])
  | v :: r, some t :: ps =>
    match deepAs H v t, argsAs H r ps, t.deep with
    | some (y, z), some (l, z'), true => some (⟨t, y⟩ :: l, z ++ z')
    | _, _, _ => none
  | v :: r, none :: ps =>
    match dv H v.t v.x, argsAs H r ps with
    | some (u, z), some (l, z') => some (u :: l, z ++ z')
    | _, _ => none
  | _, _ => none

def idsV : (t : Ty) → t.El → List Nat
  | .rf _, x => [x.1]
  | .pt, x => [x.1]
  | .pair a b, x => idsV a x.1 ++ idsV b x.2
  | .fn _ c, x => idsV c x
  | .tup c, x => idsV c x
  | _, _ => []

/-- Its references can be told by 'idsV'. -/
def Ty.refOk : Ty → Bool
  | .rf _ => true | .pt => true | .pair a b => a.refOk && b.refOk | .fn _ c => c.refOk | .tup c => c.refOk | .undef => true
  | t => t.deep

def idsO : Obj → Option (List Nat)
  | .none => some []
  | .free => none
  | .box v _ => match v.t.refOk with | true => some (idsV v.t v.x) | false => none
  | .row t _ _ => match t.deep with | true => some [] | false => none

def reach (H : List Obj) : Nat → List Nat → List Nat → Option (List Nat)
  | _, [], seen => some seen
  | 0, _ :: _, _ => none
  | k + 1, i :: r, seen =>
    match seen.contains i with
    | true => reach H k r seen
    | false => match idsO (H.getD i .none) with
      | some l => reach H k (r ++ l) (seen ++ [i])
      | none => none

def renI (s : List Nat) (i : Nat) : Nat := s.idxOf i

def renV (s : Nat → Nat) : (t : Ty) → t.El → t.El
  | .rf _, x => (s x.1, x.2)
  | .pt, x => (s x.1, x.2)
  | .pair a b, x => (renV s a x.1, renV s b x.2)
  | .fn _ c, x => renV s c x
  | .tup c, x => renV s c x
  | _, x => x

def renO (s : Nat → Nat) : Obj → Obj
  | .none => .none
  | .free => .none
  | .box v z => .box ⟨v.t, renV s v.t v.x⟩ z
  | .row t l z => .row t l z

def ups (H : List Obj) : List (Nat × Obj) → List Obj
  | [] => H
  | (i, o) :: r => ups (H.set i o) r

def rdOk (l : List Nat) (n : Nat) : Bool := l.all fun i => decide (i < n)

def argsH (H : List Obj) : List V → List (Option Ty) → Option (List V × List Nat)
  | [], [] => some ([], [])
  | v :: r, some t :: ps =>
    match deepAs H v t, argsH H r ps, t.deep with
    | some (y, z), some (l, z'), true => some (⟨t, y⟩ :: l, z ++ z')
    | _, _, _ => none
  | v :: r, none :: ps =>
    match v.t.refOk, argsH H r ps with
    | true, some (l, z) => some (v :: l, z)
    | _, _ => none
  | _, _ => none

/-- The callee's numbers, told as the caller's. -/
def backI (s : List Nat) (id : Nat) (k : Nat) : Nat := (s ++ [id]).getD k 0

def backUps (φ : Nat → Nat) : List Nat → List Obj → List (Nat × Obj)
  | i :: s, o :: H => (i, renO φ o) :: backUps φ s H
  | _, _ => []

/-- Nothing leads beyond. -/
def closedH (H : List Obj) (r : V) : Bool :=
  r.t.refOk && rdOk (idsV r.t r.x) H.length && H.all fun o => match idsO o with | some l => rdOk l H.length | none => false

def callH (H : List Obj) (id : Nat) (hs : HSpec) (args : List V) (K : Eff → Prop) : Prop :=
  match argsH H args hs.params with
  | none => False
  | some (as, z) =>
    match reach (ups H (frzAll H z)) 1000 (as.flatMap fun v => idsV v.t v.x) [] with
    | none => False
    | some s => gd (rdOk s H.length && !s.contains id && !z.contains id) (
      hs.run (as.map fun v => ⟨v.t, renV (renI s) v.t v.x⟩) (s.map fun i => renO (renI s) ((ups H (frzAll H z)).getD i .none)) fun r H' =>
        gd (closedH H' r && (decide (H'.length = s.length) || decide (H'.length = s.length + 1)))
          (K { v := ⟨r.t, renV (backI s id) r.t r.x⟩, ups := frzAll H z ++ backUps (backI s id) (s ++ [id]) H', rd := z ++ s }))

def callF (cx : Ctx) (H : List Obj) (id : Nat) (f : Nat) (args : List V) (K : Eff → Prop) : Prop :=
  match cx.calls f with
  | none => match cx.hcalls f with
    | none => False
    | some hs => callH H id hs args K
  | some s =>
    match argsAs H args s.params with
    | none => False
    | some (as, z) => s.run as fun r =>
      match s.own with
      | true => match r with
        | ⟨.sl t, l⟩ => K { v := ⟨.rf t, (id, none)⟩, ups := frzAll H (match s.flat with | true => [] | false => z) ++ [(id, .row t l false)], rd := z }
        | _ => False
      | false => K { v := r, ups := frzAll H (match s.flat with | true => [] | false => z), rd := z }

def capOk (n bytes : Nat) : Bool := decide ((2 * n + 1000) * (bytes + 1) ≤ 140737488355328)

/-- 'append(s, ..)': at the end of a row: another one, the old one is gone; within a row: its elements are written over. -/
def appendV (H : List Obj) (id : Nat) (t : Ty) (bytes : Nat) (s x : V) (K : Eff → Prop) : Prop :=
  match slRead H x t with
  | none => False
  | some (xs, rx) =>
    match s with
    | ⟨.nilS, _⟩ => gd (capOk xs.length bytes) (K { v := ⟨.rf t, (id, none)⟩, ups := [(id, .row t xs false)], rd := rx })
    | ⟨.rf t', p⟩ =>
      if t' = t then
        match H[p.1]? with
        | some (.row u l false) =>
          if h : u = t then
            match p.2 with
            | none => gd (capOk (l.length + xs.length) bytes) (K { v := ⟨.rf t, (id, none)⟩, ups := [(p.1, .none), (id, .row t ((h ▸ l : List t.El) ++ xs) false)], rd := p.1 :: rx })
            | some (off, len) =>
              gd (capOk (l.length + xs.length) bytes) (
              br (decide (off + len + xs.length ≤ l.length))
                (K { v := ⟨.rf t, (p.1, some (off, len + xs.length))⟩,
                     ups := [(p.1, .row t ((h ▸ l : List t.El).take (off + len) ++ xs ++ (h ▸ l : List t.El).drop (off + len + xs.length)) false)], rd := p.1 :: rx })
                (K { v := ⟨.rf t, (id, none)⟩, ups := [(p.1, .none), (id, .row t (((h ▸ l : List t.El).drop off).take len ++ xs) false)], rd := p.1 :: rx }))
          else False
        | _ => False
      else False
    | _ => False

def bnd (v : Option V) (d : Int) : Option Int :=
  match v with
  | none => some d
  | some v => match v.int? with | some (_, n) => some n | none => none

def rfLen (n : Nat) : Option (Nat × Nat) → Nat | none => n | some q => q.2
def rfOff : Option (Nat × Nat) → Nat | none => 0 | some q => q.1

def bnds (lo hi : Option V) (n : Nat) (K : Nat → Nat → Prop) : Prop :=
  match bnd lo 0, bnd hi n with
  | some a, some b => gd (decide (0 ≤ a) && decide (a ≤ b) && decide (b ≤ (n : Int))) (K a.toNat b.toNat)
  | _, _ => False

def sliceV (H : List Obj) (cx : Ctx) (t : Nat) (x : V) (lo hi : Option V) (K : Eff → Prop) : Prop :=
  match (cx.ty t).kind with
  | .str => match x with
    | ⟨.str, l⟩ => bnds lo hi (List.length (l : List Int)) fun a b => K (ret ⟨.str, (List.drop a (l : List Int)).take (b - a)⟩)
    | _ => False
  | .slice e => gd (cx.ty e).kind.known (
    match x with
    | ⟨.nilS, _⟩ => bnds lo hi 0 fun _ _ => K (ret ⟨.nilS, ()⟩)
    | ⟨.sl s, l⟩ => gd (decide (s.cells = (cx.ty e).size)) (bnds lo hi (List.length l) fun a b => K (ret ⟨.sl s, (List.drop a l).take (b - a)⟩))
    | ⟨.rf s, p⟩ =>
      gd (decide (s.cells = (cx.ty e).size)) (
      match H.getD p.1 .none with
      | .row _ l _ =>
        match lo, hi with
        | none, none => K { v := ⟨.rf s, p⟩, rd := [p.1] }
        | _, _ => bnds lo hi (rfLen l.length p.2) fun a b =>
            K { v := ⟨.rf s, (p.1, some (rfOff p.2 + a, b - a))⟩, rd := [p.1] }
      | _ => False)
    | _ => False)
  | .ptr a =>
    match (cx.ty a).kind with
    | .arr n e => gd (cx.ty e).kind.known (
      match x with
      | ⟨.pt, (i, [])⟩ =>
        match H.getD i .none with
        | .box ⟨.arr m u, l⟩ false => gd (decide (m = n) && decide (u.cells = (cx.ty e).size) && decide (n ≤ LIM)) (
          bnds lo hi n fun a b => K { v := ⟨.rf u, (i, some (a, b - a))⟩, ups := [(i, .row u l false)], rd := [i] })
        | .row u l false => gd (decide (l.length = n) && decide (u.cells = (cx.ty e).size)) (
          bnds lo hi n fun a b => K { v := ⟨.rf u, (i, some (a, b - a))⟩, rd := [i] })
        | _ => False
      | _ => False)
    | _ => False
  | _ => False

def indexV (cx : Ctx) (t : Nat) (x i : V) (K : Eff → Prop) : Prop :=
  match i.int? with
  | none => False
  | some (_, n) =>
    match (cx.ty t).kind with
    | .str => match x with
      | ⟨.str, l⟩ => gd (decide (0 ≤ n) && decide (n < (List.length (l : List Int) : Int))) (K (ret ⟨.int .u8, (l : List Int).getD n.toNat 0⟩))
      | _ => False
    | .arr m e => match x with
      | ⟨.arr m' s, l⟩ => gd (decide (m' = m)) (gd (decide (0 ≤ n) && decide (n < (m : Int))) (gd (fits ⟨s, List.getD l n.toNat s.dflt⟩ (cx.ty e)) (K (ret ⟨s, List.getD l n.toNat s.dflt⟩))))
      | _ => False
    | _ => False

def indexAddrV (H : List Obj) (cx : Ctx) (t : Nat) (x i : V) (K : Eff → Prop) : Prop :=
  let e := cx.elem t
  let sz := (cx.ty e).size
  match i.int? with
  | none => False
  | some (_, n) =>
    match (cx.ty t).kind with
    | .slice _ =>
      gd (cx.ty e).kind.known (
      match x with
      | ⟨.sl s, l⟩ => gd (decide (s.cells = sz)) (gd (decide (0 ≤ n) && decide (n < (List.length l : Int))) (K (ret ⟨.ip s, List.getD l n.toNat s.dflt⟩)))
      | ⟨.rf s, p⟩ =>
        match H.getD p.1 .none with
        | .row _ l _ =>
          gd (decide (s.cells = sz)) (
          match p.2 with
          | none => gd (decide (0 ≤ n) && decide (n < (l.length : Int))) (K { v := ⟨.pt, (p.1, [.idx sz n.toNat])⟩, rd := [p.1] })
          | some (off, len) => gd (decide (0 ≤ n) && decide (n < (len : Int))) (K { v := ⟨.pt, (p.1, [.idx sz (off + n.toNat)])⟩, rd := [p.1] }))
        | _ => False
      | _ => False)
    | .arr m _ =>
      gd (cx.ty e).kind.known (
      match x with
      | ⟨.pt, p⟩ =>
        match tyAtO (H.getD p.1 .none) p.2 with
        | some (.arr m' s) => gd (decide (m' = m) && decide (s.cells = sz)) (gd (decide (0 ≤ n) && decide (n < (m : Int))) (K { v := ⟨.pt, (p.1, p.2 ++ [.idx sz n.toNat])⟩, rd := [p.1] }))
        | _ =>
          match H.getD p.1 .none, p.2 with
          | .row s l _, [] => gd (decide (s.cells = sz)) (gd (decide (0 ≤ n) && decide (n < (m : Int)) && decide (n < (l.length : Int))) (K { v := ⟨.pt, (p.1, [.idx sz n.toNat])⟩, rd := [p.1] }))
          | _, _ => False
      | ⟨.ip (.arr m' s), l⟩ => gd (decide (m' = m) && decide (s.cells = sz)) (gd (decide (0 ≤ n) && decide (n < (m : Int))) (K (ret ⟨.ip s, List.getD l n.toNat s.dflt⟩)))
      | _ => False)
    | _ => False

def lenV (cx : Ctx) (H : List Obj) (t : Nat) (x : V) (K : Eff → Prop) : Prop :=
  match (cx.ty t).kind with
  | .str => match x with
    | ⟨.str, l⟩ => K (ret ⟨.int .i64, (List.length (l : List Int) : Int)⟩)
    | _ => False
  | .arr n _ => gd (decide (n ≤ LIM)) (K (ret ⟨.int .i64, (n : Int)⟩))
  | .slice _ => match x with
    | ⟨.nilS, _⟩ => K (ret ⟨.int .i64, (0 : Int)⟩)
    | ⟨.sl _, l⟩ => K (ret ⟨.int .i64, (List.length l : Int)⟩)
    | ⟨.rf _, p⟩ =>
      match H.getD p.1 .none with
      | .row _ l _ => K { v := ⟨.int .i64, (rfLen l.length p.2 : Int)⟩, rd := [p.1] }
      | _ => False
    | _ => False
  | _ => False

def builtinV (cx : Ctx) (H : List Obj) (id : Nat) (b : Builtin) (ts : List Nat) (args : List V) (K : Eff → Prop) : Prop :=
  match b, args with
  | .len, [x] => match ts with | [t] => lenV cx H t x K | _ => False
  | .cap, [⟨.nilS, _⟩] => match ts with
    | t :: _ => match (cx.ty t).kind with | .slice _ => K (ret ⟨.int .i64, (0 : Int)⟩) | _ => False
    | [] => False
  | .append, [s, x] => match ts with
    | t :: u :: _ =>
      match (cx.ty t).kind, (cx.ty u).kind with
      | .slice e, .slice _ => gd ((cx.ty e).kind.known && (cx.ty e).dt.mem) (appendV H id (cx.ty e).dt (cx.ty e).bytes s x K)
      | .slice e, .str => gd ((cx.ty e).kind.known && (cx.ty e).dt.mem) (appendV H id (cx.ty e).dt (cx.ty e).bytes s x K)
      | _, _ => False
    | _ => False
  | .min, [a, b] => match a.int?, b.int? with
    | some (k, x), some (k', y) => gd (decide (k = k')) (K (ret ⟨.int k, mnI x y⟩))
    | _, _ => False
  | .max, [a, b] => match a.int?, b.int? with
    | some (k, x), some (k', y) => gd (decide (k = k')) (K (ret ⟨.int k, mxI x y⟩))
    | _, _ => False
  | _, _ => False

def convV (cx : Ctx) (H : List Obj) (id : Nat) (src dst : Nat) (x : V) (K : Eff → Prop) : Prop :=
  match (cx.ty dst).kind with
  | .int k => match x.int? with | some (_, n) => gd (cx.ty src).kind.known (K (ret ⟨.int k, k.wrap n⟩)) | none => False
  | .str =>
    match x with
    | ⟨.str, l⟩ => gd (cx.ty src).kind.known (K (ret ⟨.str, l⟩))
    | x => match (cx.ty src).kind with
      | .slice e => match (cx.ty e).kind with
        | .int .u8 => optK (slRead H x (.int .u8)) fun p => K { v := ⟨.str, p.1⟩, rd := p.2 }
        | _ => False
      | _ => False
  | .slice e =>
    match x, (cx.ty e).kind with
    | ⟨.str, l⟩, .int .u8 => gd (decide ((cx.ty src).kind = .str)) (K { v := ⟨.rf (.int .u8), (id, none)⟩, ups := [(id, .row (.int .u8) l false)] })
    | _, _ => False
  | _ => False

def unV (op : UnOp) (x : V) (K : V → Prop) : Prop :=
  match op with
  | .not => match x.bool? with | some b => K ⟨.bool, !b⟩ | none => False
  | .neg => match x.int? with | some (k, n) => K ⟨.int k, k.wrap (0 - n)⟩ | none => False
  | .xor => match x.int? with | some (k, n) => K ⟨.int k, bitsI .xor k (if k.signed then -1 else k.max) n⟩ | none => False
  | _ => False

/-- One operation that is performed; 'id': the number of an object that it may lay. -/
def evC (cx : Ctx) (env : List V) (H : List Obj) (id : Nat) (op : Op) (K : Eff → Prop) : Prop :=
  match op with
  | .move x | .assign x => optK (opnd env x) fun v => K (ret v)
  | .pick c a b =>
    match opnd env c, opnd env a, opnd env b with
    | some c, some a, some b => match c.bool? with
      | some t => br t (K (ret a)) (K (ret b))
      | none => False
    | _, _, _ => False
  | .alloc t => gd ((cx.ty t).kind.known && (cx.ty t).zt.mem) (K { v := ⟨.pt, (id, [])⟩, ups := [(id, objOf (cx.ty t).zero)] })
  | .box t x => optK (opnd env x) fun v => gd (fits v (cx.ty t)) (K { v := ⟨.pt, (id, [])⟩, ups := [(id, objOf v)] })
  | .build t parts =>
    match (cx.ty t).kind with
    | .struct fs => gd ((cx.ty t).zt.mem && (cx.ty t).zt.isAgg && fs.all (fun f => (cx.ty f.2).kind.known)) (optK (fillS (fs.map fun f => (f.1, (cx.ty f.2).size)) env (cx.ty t).zero parts.toList) fun v => K (ret v))
    | .arr n e => gd ((cx.ty e).kind.known && (cx.ty e).dt.mem && decide ((cx.ty t).dt = .arr n (cx.ty e).dt)) (optK (fillL H env (cx.ty e).dt n (List.replicate n (cx.ty e).dt.dflt) parts.toList) fun p =>
        K { v := ⟨.arr n (cx.ty e).dt, p.1⟩, ups := frzAll H p.2, rd := p.2 })
    | _ => False
  | .buildSlice t n parts =>
    gd (match (cx.ty t).kind with | .slice e => (cx.ty e).kind.known && (cx.ty e).dt.mem && decide (n * (cx.ty e).size ≤ 16777216) && decide (n ≤ 16777216) | _ => false) (
    optK (fillL H env (cx.ty (cx.elem t)).dt n (List.replicate n (cx.ty (cx.elem t)).dt.dflt) parts.toList) fun p =>
      K { v := ⟨.rf (cx.ty (cx.elem t)).dt, (id, none)⟩, ups := frzAll H p.2 ++ [(id, .row (cx.ty (cx.elem t)).dt p.1 false)], rd := p.2 })
  | .load t a =>
    match opnd env a with
    | some ⟨.pt, (i, path)⟩ => optK (loadO (H.getD i .none) path (cx.ty t)) fun v => gd (fits v (cx.ty t)) (K { v, rd := [i] })
    | some ⟨.ip s, x⟩ => gd (fits ⟨s, x⟩ (cx.ty t)) (K (ret ⟨s, x⟩))
    | _ => False
  | .store t a x =>
    match opnd env a, opnd env x with
    | some ⟨.pt, (i, path)⟩, some v =>
      gd (fits v (cx.ty t)) (optK (setO H (H.getD i .none) path v) fun p => gd (!p.2.contains i) (K { v := V.skip, ups := frzAll H p.2 ++ [(i, p.1)], rd := i :: p.2 }))
    | _, _ => False
  | .nilCheck x =>
    match opnd env x with
    | some ⟨.pt, p⟩ => K (ret ⟨.pt, p⟩)
    | some ⟨.ip s, p⟩ => K (ret ⟨.ip s, p⟩)
    | some ⟨.fn f c, p⟩ => K (ret ⟨.fn f c, p⟩)
    | _ => False
  | .binOp op t x y _ =>
    match opnd env x, opnd env y with
    | some a, some b => binV cx op t a b fun v => K (ret v)
    | _, _ => False
  | .unOp op _ x => optK (opnd env x) fun v => unV op v fun u => K (ret u)
  | .convert src dst x => optK (opnd env x) fun v => convV cx H id src dst v K
  | .makeFunc f first captured =>
    match f, first.toList with
    | .func n, [] => optK (opnds env captured.toList) fun l => let u := tupOf l; K (ret ⟨.fn n u.t, u.x⟩)
    | _, _ => False
  | .makeSlice t n c =>
    match opnd env n, opnd env c with
    | some n, some c => match n.int?, c.int? with
      | some (_, n), some (_, c) =>
        gd (match (cx.ty t).kind with | .slice e => (cx.ty e).kind.known && (cx.ty e).dt.mem | _ => false) (
        gd (decide (0 ≤ n) && decide (n ≤ c) && capOk c.toNat (cx.ty (cx.elem t)).bytes) (
          K { v := ⟨.rf (cx.ty (cx.elem t)).dt, (id, none)⟩, ups := [(id, .row (cx.ty (cx.elem t)).dt (List.replicate n.toNat (cx.ty (cx.elem t)).dt.dflt) false)] }))
      | _, _ => False
    | _, _ => False
  | .slice t x lo hi mx =>
    match mx with
    | some _ => False
    | none =>
      optK (opnd env x) fun v =>
      match lo, hi with
      | none, none => sliceV H cx t v none none K
      | some a, none => optK (opnd env a) fun a => sliceV H cx t v (some a) none K
      | none, some b => optK (opnd env b) fun b => sliceV H cx t v none (some b) K
      | some a, some b => optK (opnd env a) fun a => optK (opnd env b) fun b => sliceV H cx t v (some a) (some b) K
  | .fieldAddr t x j =>
    match (cx.ty t).kind with
    | .struct fs =>
      match opnd env x with
      | some ⟨.pt, p⟩ =>
        match tyAtO (H.getD p.1 .none) p.2 with
        | some s => gd (decide (offOf s j = (fs.getD j default).1) && decide (j < fs.length) && (compT s j).isSome && ((cx.ty (fs.getD j default).2).kind.known && !decide ((cx.ty (fs.getD j default).2).size = 0)))
            (K { v := ⟨.pt, (p.1, p.2 ++ [.fld (fs.getD j default).1 j])⟩, rd := [p.1] })
        | none => False
      | some ⟨.ip s, v⟩ => gd (decide (offOf s j = (fs.getD j default).1) && decide (j < fs.length) && ((cx.ty (fs.getD j default).2).kind.known && !decide ((cx.ty (fs.getD j default).2).size = 0)))
          (optK (compV s v j) fun u => K (ret ⟨.ip u.t, u.x⟩))
      | _ => False
    | _ => False
  | .field t x j =>
    match (cx.ty t).kind with
    | .struct fs => optK (opnd env x) fun v => gd (decide (offOf v.t j = (fs.getD j default).1) && decide (j < fs.length)) (optK (compV v.t v.x j) fun u => gd (fits u (cx.ty (fs.getD j default).2)) (K (ret u)))
    | _ => False
  | .indexAddr t x i =>
    match opnd env x, opnd env i with
    | some v, some n => indexAddrV H cx t v n K
    | _, _ => False
  | .index t x i =>
    match opnd env x, opnd env i with
    | some v, some n => indexV cx t v n K
    | _, _ => False
  | .extract x j =>
    match opnd env x with
    | some ⟨.tup t, v⟩ => optK (tupParts t v)[j]? fun u => K (ret u)
    | _ => False
  | .call c =>
    optK (opnds env c.args.toList) fun args =>
    match c.callee with
    | .builtin b => builtinV cx H id b c.argTypes.toList args K
    | .value f =>
      match opnd env f with
      | some ⟨.fn f s, x⟩ => callF cx H id f (args ++ tupParts s x) K
      | _ => False
    | _ => False
  | _ => False

/-! #### Code -/

inductive Xt where
  | norm | out (id : Nat) | ret
abbrev XK := Xt → St → Prop

def putE (env : List V) (dst : Option Nat) (v : V) : List V := match dst with | some d => env.set d v | none => env

def laysOf : Op → Bool
  | .alloc _ | .box _ _ | .buildSlice _ _ _ | .convert _ _ _ | .makeSlice _ _ _ => true
  | .call c => match c.callee with | .builtin .append => true | .builtin _ => false | _ => true
  | _ => false

/-- Is a guarded operation performed? The test stands in the slot of the operation that gives it. -/
def guardV (ops : Array Oper) (env : List V) (o : Oper) : Option (Option Bool) :=
  match o.guard with
  | none => some none
  | some (j, want) =>
    match (ops[j]?).bind (·.dst) with
    | none => none
    | some d => match env[d]? with
      | some ⟨.bool, b⟩ => some (some (match want with | true => b | false => !b))
      | some ⟨.tup .unit, _⟩ => some (some false)
      | _ => none

/-- What is known of the test in either case. -/
def guardSt (ops : Array Oper) (env : List V) (o : Oper) (pass : Bool) : List V :=
  match o.guard with
  | none => env
  | some (j, want) => match (ops[j]?).bind (·.dst) with
    | none => env
    | some d => match env[d]? with
      | some ⟨.bool, _⟩ => env.set d ⟨.bool, match pass with | true => want | false => !want⟩
      | _ => env

def freeAt (H : List Obj) (i : Nat) : Bool := match H[i]? with | some .free => true | _ => false

def laid (o : Oper) (H : List Obj) : List Obj := match laysOf o.op with | true => H ++ [.free] | false => H

/-- Is it asked whether a slice is nil of which that is not told? -/
def nilAsk (cx : Ctx) (env : List V) : Op → Option (Bool × Bool)
  | .binOp op t x y _ =>
    match (cx.ty t).kind, opnd env x, opnd env y with
    | .slice _, some ⟨.sl _, l⟩, some ⟨.nilS, _⟩ => match op with
      | .eql => some (true, List.isEmpty l)
      | .neq => some (false, List.isEmpty l)
      | _ => none
    | _, _, _ => none
  | _ => none

/-- A region in the order of the text. -/
def runOps (cx : Ctx) (ops : Array Oper) (K : St → Prop) : List Oper → St → Prop
  | [], st => K st
  | o :: r, st =>
    optK (guardV ops st.env o) fun g =>
    let yes : List V → Prop := fun env => match nilAsk cx env o.op with
      | some (q, em) => (em = true → runOps cx ops K r ⟨putE env o.dst ⟨.bool, q⟩, st.H⟩) ∧ runOps cx ops K r ⟨putE env o.dst ⟨.bool, !q⟩, st.H⟩
      | none => evC cx env (laid o st.H) st.H.length o.op fun e =>
        gd (rdOk e.rd (laid o st.H).length) (runOps cx ops K r ⟨putE env o.dst e.v, ups (laid o st.H) e.ups⟩)
    match g with
    | none => yes st.env
    | some b => br b (yes (guardSt ops st.env o true)) (runOps cx ops K r ⟨putE (guardSt ops st.env o false) o.dst V.skip, st.H⟩)

/-! #### What a loop's head keeps -/

inductive Md where
  | keep | own (t : Ty) | deep (t : Ty) | pair (a b : Md) | box (a : Md)

/-- A handed row gets a number of its own. -/
def moveR (pin : Nat) (H : List Obj) (u : Ty) (x : Nat × Option (Nat × Nat)) : V × List Obj :=
  match x.2 with
  | none => match decide (x.1 < pin) with
    | true => match H[x.1]? with
      | some (.row t l false) => match decide (t = u) with
        | true => (⟨.rf u, (H.length, none)⟩, H.set x.1 .none ++ [.row t l false])
        | false => (⟨.rf u, x⟩, H)
      | _ => (⟨.rf u, x⟩, H)
    | false => (⟨.rf u, x⟩, H)
  | some _ => (⟨.rf u, x⟩, H)

/-- A value told as it is wanted. -/
def fixV (pin : Nat) : Md → List Obj → (t : Ty) → t.El → Option (V × List Obj)
  | .keep, H, t, x => match t.refOk with | true => some (⟨t, x⟩, H) | false => none
  | .own u, H, t, x => match t, x with
    | .nilS, _ => some (⟨.rf u, (H.length, none)⟩, H ++ [.row u [] false])
    | .rf v, x => some (moveR pin H v x)
    | t, x => match t.refOk with | true => some (⟨t, x⟩, H) | false => none
  | .deep u, H, t, x => match deepAs H ⟨t, x⟩ u with
    | some (y, z) => match rdOk z H.length && u.refOk with | true => some (⟨u, y⟩, ups H (frzAll H z)) | false => none
    | none => none
  | .pair a b, H, t, x => match t, x with
    | .pair s r, x => match fixV pin a H s x.1 with
      | some (v1, H1) => match fixV pin b H1 r x.2 with
        | some (v2, H2) => some (⟨.pair v1.t v2.t, (v1.x, v2.x)⟩, H2)
        | none => none
      | none => none
    | _, _ => none
  | .box a, H, t, x => match t, x with
    | .pt, (i, []) => match H[i]? with
      | some (.box v false) => match fixV pin a H v.t v.x with
        | some (v', H') => match H'[i]? with
          | some (.box w false) => match Ty.skel v.t v'.t && Ty.skel w.t v'.t with
            | true => some (⟨.pt, (i, [])⟩, H'.set i (.box v' false))
            | false => none
          | _ => none
        | none => none
      | _ => none
    | _, _ => none

/-- The slots that count, each told as it is wanted; the others are forgotten. -/
def takeS (pin : Nat) (st : St) : List (Nat × Md) → Option (List (Nat × V) × List Obj)
  | [] => some ([], st.H)
  | (i, m) :: r =>
    match takeS pin st r with
    | none => none
    | some (l, H) =>
      match st.env[i]? with
      | none => none
      | some v => match fixV pin m H v.t v.x with
        | some (u, H') => some ((i, u) :: l, H')
        | none => none

def putAll (s : Nat → Nat) : List (Nat × V) → List V → List V
  | [], env => env
  | (i, v) :: r, env => (putAll s r env).set i ⟨v.t, renV s v.t v.x⟩

def gcS (pin : Nat) (live : List (Nat × Md)) (st : St) : Option St :=
  match takeS pin st live with
  | none => none
  | some (l, H) =>
    match reach H 1000 (List.range pin ++ l.flatMap fun p => idsV p.2.t p.2.x) [] with
    | none => none
    | some s => match rdOk s H.length with
      | true => some ⟨putAll (renI s) l (List.replicate st.env.length V.undef), s.map fun i => renO (renI s) (H.getD i .none)⟩
      | false => none

/-- A part of the code told by its answer: what is kept ahead of it and at its ends, what it does. -/
structure Summ where
  pre : List (Nat × Md)
  pn : List (Nat × Md)
  po : List (Nat × Md)
  pr : List (Nat × Md)
  run : St → XK → Prop

/-- What a loop's head and its end keep, loop by loop, beside the code; parts that are told by their answers. -/
inductive MT where
  | leaf | two (a b : MT) | one (a : MT) | loop (live out : List (Nat × Md)) (a : MT) | sum (s : Summ) (m : MT)

def MT.a : MT → MT | .two a _ => a | .one a => a | .loop _ _ a => a | .leaf => .leaf | .sum _ _ => .leaf
def MT.b : MT → MT | .two _ b => b | _ => .leaf
def MT.live : MT → List (Nat × Md) | .loop l _ _ => l | _ => []
def MT.outs : MT → List (Nat × Md) | .loop _ o _ => o | _ => []
def MT.core : MT → MT | .sum _ m => m.core | m => m
def MT.isSum : MT → Bool | .sum _ _ => true | _ => false

/-- What is kept at the ends of such a part. -/
def sumK (pin : Nat) (s : Summ) (K : XK) : XK := fun e st' => match e with
  | .norm => optK (gcS pin s.pn st') (K .norm)
  | .out id => optK (gcS pin s.po st') (K (.out id))
  | .ret => optK (gcS pin s.pr st') (K .ret)

def sumOr (pin : Nat) (m : MT) (K : XK) (st : St) (core : Prop) : Prop := match m with
  | .sum s _ => optK (gcS pin s.pre st) fun st1 => s.run st1 K
  | _ => core

def loopN (pin : Nat) (live outs : List (Nat × Md)) (body : XK → St → Prop) : Nat → XK → St → Prop
  | 0, _, _ => False
  | k + 1, K, st => body (fun e st' => match e with
      | .norm => optK (gcS pin live st') (loopN pin live outs body k K)
      | .out id => optK (gcS pin outs st') (K (.out id))
      | .ret => K .ret st') st

/-! #### Regions whose order is open -/

def tmpsOf (o : Oper) (ops : Array Oper) : List Nat :=
  o.dst.toList ++ o.op.operands.toList.filterMap (fun x => match x with | .tmp t => some t | _ => none) ++
    (match o.guard with | some (j, _) => ((ops[j]?).bind (·.dst)).toList | none => [])

def edgesOf (o : Oper) : List Nat := (o.after.toList.filter fun e => Region.binds .any e).map (·.on)

def uni : List Nat → List Nat → List Nat
  | [], b => b
  | x :: a, b => match (uni a b).contains x with | true => uni a b | false => x :: uni a b

def befRow (acc : List (List Nat)) : List Nat → List Nat
  | [] => []
  | e :: r => uni (e :: acc.getD e []) (befRow acc r)

/-- Which operations come before each one, whatever the order. -/
def befs : List Oper → List (List Nat) → List (List Nat)
  | [], acc => acc
  | o :: r, acc => befs r (acc ++ [befRow acc (edgesOf o)])

def disj (a b : List Nat) : Bool := a.all fun x => !b.contains x

/-- What an operation left: a slot's value, objects; what it read. -/
structure Tr where
  v : V
  ups : List (Nat × Obj)
  rd : List Nat
instance : Inhabited Tr := ⟨⟨V.undef, [], []⟩⟩

def indB (ops : Array Oper) (oi oj : Oper) (a b : Tr) : Bool :=
  disj oi.dst.toList (tmpsOf oj ops) && disj oj.dst.toList (tmpsOf oi ops) &&
  disj (a.ups.map (·.1)) (b.ups.map (·.1)) && disj (a.ups.map (·.1)) b.rd && disj (b.ups.map (·.1)) a.rd

def noConf (ops : Array Oper) (lg : List Tr) : Bool :=
  let bf := befs ops.toList []
  (List.range ops.size).all fun j =>
    (match ops[j]? with | some o => (edgesOf o).all fun e => decide (e < j) | none => false) &&
    (List.range j).all fun i =>
      (bf.getD j []).contains i ||
      (match ops[i]?, ops[j]?, lg[i]?, lg[j]? with
      | some oi, some oj, some a, some b => indB ops oi oj a b
      | _, _, _, _ => false)

/-- In the order of the text, with a note of what each operation touches. -/
def runD (cx : Ctx) (ops : Array Oper) (base : Nat) (K : St → List Tr → Prop) : List Oper → Nat → St → List Tr → Prop
  | [], _, st, lg => K st lg
  | o :: r, i, st, lg =>
    optK (guardV ops st.env o) fun g =>
    let yes : List V → Prop := fun env => evC cx env st.H (base + i) o.op fun e =>
      gd (rdOk e.rd st.H.length && freeAt st.H (base + i)) (runD cx ops base K r (i + 1) ⟨putE env o.dst e.v, ups st.H e.ups⟩ (lg ++ [⟨e.v, e.ups, (base + i) :: e.rd⟩]))
    match g with
    | none => yes st.env
    | some b => br b (yes (guardSt ops st.env o true)) (runD cx ops base K r (i + 1) ⟨putE (guardSt ops st.env o false) o.dst V.skip, st.H⟩ (lg ++ [⟨V.skip, [], [base + i]⟩]))

def exec (cx : Ctx) : Code → MT → XK → St → Prop
  | .skip, m, K, st => sumOr cx.pin m K st (K .norm st)
  | .region _ ops false, m, K, st => sumOr cx.pin m K st (runOps cx ops (K .norm) ops.toList st)
  | .region _ ops true, m, K, st => sumOr cx.pin m K st
    (runD cx ops st.H.length (fun st' lg => gd (noConf ops lg) (K .norm st')) ops.toList 0 ⟨st.env, st.H ++ List.replicate ops.size .free⟩ [])
  | .seq a b, m, K, st => sumOr cx.pin m K st (exec cx a m.a (fun e st' => match e with | .norm => exec cx b m.b K st' | .out id => K (.out id) st' | .ret => K .ret st') st)
  | .cond c a b, m, K, st => sumOr cx.pin m K st (
    match opnd st.env c with
    | some ⟨.bool, t⟩ => br t (exec cx a m.a K st) (exec cx b m.b K st)
    | _ => False)
  | .block id c, m, K, st => sumOr cx.pin m K st (exec cx c m.a (fun e st' => match e with
      | .out j => match decide (j = id) with | true => K .norm st' | false => K (.out j) st'
      | .norm => K .norm st'
      | .ret => K .ret st') st)
  | .loop c, m, K, st => sumOr cx.pin m K st (optK (gcS cx.pin m.live st) (loopN cx.pin m.live m.outs (exec cx c m.a) cx.fuel K))
  | .exit id, m, K, st => sumOr cx.pin m K st (K (.out id) st)
  | .scope c, m, K, st => sumOr cx.pin m K st (exec cx c m.a K st)
  | .ret, m, K, st => sumOr cx.pin m K st (K .ret st)
  | _, m, K, st => sumOr cx.pin m K st False

/-- What is to be shown of the parts that are told by their answers. -/
structure Ob where
  s : Summ
  c : Code
  m : MT
def Ob.ok (cx : Ctx) (o : Ob) : Prop := ∀ st K, o.s.run st K → exec cx o.c o.m (sumK cx.pin o.s K) st

def MT.tops (c : Code) : MT → List Ob | .sum s m => ⟨s, c, m⟩ :: MT.tops c m | _ => []

def obls : Code → MT → List Ob
  | .seq a b, m => m.tops (.seq a b) ++ (obls a m.core.a ++ obls b m.core.b)
  | .cond o a b, m => m.tops (.cond o a b) ++ (obls a m.core.a ++ obls b m.core.b)
  | .block i c, m => m.tops (.block i c) ++ obls c m.core.a
  | .loop c, m => m.tops (.loop c) ++ obls c m.core.a
  | .scope c, m => m.tops (.scope c) ++ obls c m.core.a
  | c, m => m.tops c

/-! #### Functions -/

def resV (cx : Ctx) (H : List Obj) (env : List V) : List ResultVar → Option (List V)
  | [] => some []
  | .tmp t :: r => match env[t]?, resV cx H env r with | some v, some l => some (v :: l) | _, _ => none
  | .cell a t :: r => match env[a]? with
    | some ⟨.pt, (i, path)⟩ => match loadO (H.getD i .none) path (cx.ty t) with
      | some u => match fits u (cx.ty t), resV cx H env r with | true, some l => some (u :: l) | _, _ => none
      | none => none
    | _ => none

def resT : List V → V
  | [v] => v
  | l => ⟨.tup (tupOf l).t, (tupOf l).x⟩

def dvT (H : List Obj) (rt : Option Ty) (v : V) : Option (V × List Nat) :=
  match rt with
  | none => dv H v.t v.x
  | some t => match deepAs H v t, t.deep with | some (y, z), true => some (⟨t, y⟩, z) | _, _ => none

/-- A function's end: what it answers, told as its contract says. -/
def finR (cx : Ctx) (rs : List ResultVar) (own flat : Bool) (rt : Option Ty) (K : V → Prop) (st : St) : Prop :=
  optK (resV cx st.H st.env rs) fun vs =>
    match own with
    | false => optK (dvT st.H rt (resT vs)) fun p => gd (rdOk p.2 st.H.length && (!flat || p.1.t.flat)) (K p.1)
    | true => match resT vs with
      | ⟨.rf t, (i, none)⟩ => match st.H[i]? with
        | some (.row u l false) => gd (decide (u = t) && u.deep && (!flat || u.flat)) (K ⟨.sl u, l⟩)
        | _ => False
      | ⟨.nilS, _⟩ => match rt with
        | some (.sl t) => gd (t.deep && (!flat || t.flat)) (K ⟨.sl t, []⟩)
        | _ => False
      | _ => False

def finK (cx : Ctx) (rs : List ResultVar) (own flat : Bool) (rt : Option Ty) (K : V → Prop) : XK := fun x st =>
  match x with
  | .out _ => False
  | _ => finR cx rs own flat rt K st

def env0 (as : List V) (n : Nat) : List V := as ++ List.replicate (n - as.length) V.undef

end Go.Abs
