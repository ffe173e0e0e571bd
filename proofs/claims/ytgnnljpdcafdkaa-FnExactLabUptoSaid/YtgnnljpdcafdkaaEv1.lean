/- A part of a proof: an evaluator of the program's functions over plain values, and what it shows. -/
import Derived.Calls
import Derived.Orders
import Derived.Deep.AppendSrc
import Derived.Laws.CopyRow
import Derived.Laws.IdiomCopy
set_option linter.unusedVariables false
set_option linter.unusedSimpArgs false
set_option linter.unusedSectionVars false
/- The abstract evaluator: plain typed values, a local heap of rows and boxes, over the model's Code. Definitions only. -/
namespace Go.Proofs.Ytgnnljpdcafdkaa.Ev
open Go

/-! ### 1. Shapes and their plain values -/
inductive Ty where
  | int (k : IntKind)
  | bool
  | str
  | unit
  | pair (a b : Ty)
  | st (t : Ty)
  | slice (e : TypeId) (t : Ty)
  | rs (e : TypeId) (t : Ty)
  | bx (T : TypeId) (t : Ty)
  deriving DecidableEq

@[reducible] def Ty.D : Ty → Type
  | .int _ => Int
  | .bool => Bool
  | .str => ByteArray
  | .unit => Unit
  | .pair a b => a.D × b.D
  | .st t => t.D
  | .slice _ t => List t.D
  | .rs _ t => List t.D
  | .bx _ t => t.D

def Ty.dflt : (t : Ty) → t.D
  | .int _ => (0 : Int)
  | .bool => false
  | .str => (⟨#[]⟩ : ByteArray)
  | .unit => ()
  | .pair a b => (a.dflt, b.dflt)
  | .st t => t.dflt
  | .slice _ t => ([] : List t.D)
  | .rs _ t => ([] : List t.D)
  | .bx _ t => t.dflt

def Ty.sz : Ty → Nat
  | .unit => 0
  | .pair a b => a.sz + b.sz
  | .st t => t.sz
  | _ => 1

/-- how many objects stand behind the cells -/
def Ty.nsl : Ty → Nat
  | .pair a b => a.nsl + b.nsl
  | .st t => t.nsl
  | .slice _ _ => 1
  | .rs _ _ => 1
  | .bx _ t => 1 + t.nsl
  | _ => 0

def Ty.isAgg : Ty → Bool
  | .st _ => true
  | _ => false
def Ty.isUnit : Ty → Bool
  | .unit => true
  | _ => false

/-- the cells of a closed value -/
inductive Ec where
  | int (k : IntKind) (n : Int)
  | bool (b : Bool)
  | str (s : ByteArray)
  | sl (e : TypeId) (t : Ty) (xs : List t.D)
  | rs (e : TypeId) (t : Ty) (xs : List t.D)
  | hole

def castL {t t' : Ty} (h : t' = t) (xs : List t'.D) : List t.D := h ▸ xs

def toE : (t : Ty) → t.D → List Ec
  | .int k, n => [.int k n]
  | .bool, b => [.bool b]
  | .str, s => [.str s]
  | .unit, _ => []
  | .pair a b, x => toE a x.1 ++ toE b x.2
  | .st t, x => toE t x
  | .slice e t, xs => [.sl e t xs]
  | .rs e t, xs => [.rs e t xs]
  | .bx _ _, _ => [.hole]

def ehInt (k : IntKind) : List Ec → Option (Int × List Ec)
  | .int k' n :: r => if k' = k then some (n, r) else none
  | _ => none
def ehBool : List Ec → Option (Bool × List Ec)
  | .bool b :: r => some (b, r)
  | _ => none
def ehStr : List Ec → Option (ByteArray × List Ec)
  | .str s :: r => some (s, r)
  | _ => none
def ehSl (e : TypeId) (t : Ty) : List Ec → Option (List t.D × List Ec)
  | .sl e' t' xs :: r => if h : e' = e ∧ t' = t then some (castL h.2 xs, r) else none
  | _ => none
def ehRs (e : TypeId) (t : Ty) : List Ec → Option (List t.D × List Ec)
  | .rs e' t' xs :: r => if h : e' = e ∧ t' = t then some (castL h.2 xs, r) else none
  | _ => none

def ofE : (t : Ty) → List Ec → Option (t.D × List Ec)
  | .int k, cs => ehInt k cs
  | .bool, cs => ehBool cs
  | .str, cs => ehStr cs
  | .unit, r => some ((), r)
  | .pair a b, cs =>
    match ofE a cs with
    | some (x, r) =>
      match ofE b r with
      | some (y, r') => some ((x, y), r')
      | none => none
    | none => none
  | .st t, cs => ofE t cs
  | .slice e t, cs => ehSl e t cs
  | .rs e t, cs => ehRs e t cs
  | .bx _ _, _ => none

/-! ### 2. Local values, objects, states -/
inductive Cv where
  | junk
  | undef
  | int (k : IntKind) (n : Int)
  | bool (b : Bool)
  | str (s : ByteArray)
  | nil
  | nilp
  | ext (e : TypeId) (t : Ty) (xs : List t.D)
  | rxt (e : TypeId) (t : Ty) (xs : List t.D)
  | own (id gen : Nat)
  | part (id gen off len : Nat)
  | tail (id gen off len : Nat)
  | ptr (id gen idx off : Nat)
  | eptr (t : Ty) (x : t.D) (off : Nat)
  | fn (g : FuncId) (caps : List Nat)
  | efn (g : FuncId) (t : Ty) (x : t.D)
  | nest (id gen md idx off : Nat)
  | nptr (id gen md idx off at_ fo : Nat)

/-- a value of a slot: whether it is an aggregate, and its cells; or a tuple of such -/
inductive LV where
  | v (ag : Bool) (cs : List Cv)
  | tup (vs : List (Bool × List Cv))

@[reducible] def LV.c (x : Cv) : LV := .v false [x]

inductive Obj where
  | free
  | dead
  | box (T : TypeId) (cs : List Cv)
  | row (e : TypeId) (t : Ty) (gen md : Nat) (extra : Option Nat) (lent : Option (Nat × Nat)) (xs : List t.D)

structure St where
  F : List LV
  H : List Obj
  pins : List Cv

def hget : List Obj → Nat → Obj
  | [], _ => .free
  | o :: r, n => match n with
    | 0 => o
    | n + 1 => hget r n

def hput0 (o : Obj) : Nat → List Obj
  | 0 => [o]
  | n + 1 => .free :: hput0 o n

def hput : List Obj → Nat → Obj → List Obj
  | [], n, o => hput0 o n
  | x :: r, n, o => match n with
    | 0 => o :: r
    | n + 1 => x :: hput r n o

def hputs (H : List Obj) : List (Nat × Obj) → List Obj
  | [] => H
  | (i, o) :: r => hputs (hput H i o) r

def fget : List LV → Nat → LV
  | [], _ => .c .junk
  | o :: r, n => match n with
    | 0 => o
    | n + 1 => fget r n

def fput : List LV → Nat → LV → List LV
  | [], _, _ => []
  | x :: r, n, o => match n with
    | 0 => o :: r
    | n + 1 => x :: fput r n o

def putDst (F : List LV) (d : Option Nat) (v : LV) : List LV :=
  match d with
  | some d => fput F d v
  | none => F

def Cv.refs : Cv → List Nat
  | .own id _ => [id]
  | .part id _ _ _ => [id]
  | .tail id _ _ _ => [id]
  | .ptr id _ _ _ => [id]
  | .fn _ caps => caps
  | .nest id _ _ _ _ => [id]
  | .nptr id _ _ _ _ _ _ => [id]
  | _ => []

def crefs : List Cv → List Nat
  | [] => []
  | c :: r => c.refs ++ crefs r

def vrefs : List (Bool × List Cv) → List Nat
  | [] => []
  | (_, cs) :: r => crefs cs ++ vrefs r

def LV.refs : LV → List Nat
  | .v _ cs => crefs cs
  | .tup vs => vrefs vs

def Obj.refs : Obj → List Nat
  | .box _ cs => crefs cs
  | _ => []

def nmem (n : Nat) : List Nat → Bool
  | [] => false
  | m :: r => if n = m then true else nmem n r

def rst (look : Nat → Obj) (ids : List Nat) (i : Nat) : Obj := if nmem i ids = true then look i else .free

def refs2 (look : Nat → Obj) : List Nat → List Nat
  | [] => []
  | i :: r => (look i).refs ++ refs2 look r

def ndup : List Nat → Bool
  | [] => true
  | n :: r => if nmem n r = true then false else ndup r

def disj : List Nat → List Nat → Bool
  | [], _ => true
  | n :: r, s => if nmem n s = true then false else disj r s

/-! ### 3. The table of types -/
structure TT where
  shape : TypeId → Option Ty
  bytes : TypeId → Nat
  elem : TypeId → Option TypeId
  field : TypeId → Nat → Option (Nat × Ty)
  cmp : TypeId → Bool
  ptr : TypeId → Bool

def zeroC : Ty → List Cv
  | .int k => [.int k 0]
  | .bool => [.bool false]
  | .str => [.str ⟨#[]⟩]
  | .unit => []
  | .pair a b => zeroC a ++ zeroC b
  | .st t => zeroC t
  | .slice _ _ => [.nil]
  | .rs _ _ => [.nil]
  | .bx _ _ => [.nilp]

/-! ### 4. Reading, closing and opening -/
def ctake : Nat → List Cv → List Cv
  | 0, _ => []
  | _ + 1, [] => []
  | n + 1, c :: r => c :: ctake n r
def cdrop : Nat → List Cv → List Cv
  | 0, r => r
  | _ + 1, [] => []
  | n + 1, _ :: r => cdrop n r
def etake : Nat → List Ec → List Ec
  | 0, _ => []
  | _ + 1, [] => []
  | n + 1, c :: r => c :: etake n r
def edrop : Nat → List Ec → List Ec
  | 0, r => r
  | _ + 1, [] => []
  | n + 1, _ :: r => edrop n r
def ereplace : List Ec → Nat → List Ec → List Ec
  | cs, 0, [] => cs
  | _ :: r, 0, n :: ns => n :: ereplace r 0 ns
  | c :: r, k + 1, ns => c :: ereplace r k ns
  | [], _, _ => []
def llen {α : Type} : List α → Nat
  | [] => 0
  | _ :: r => llen r + 1

def enth : List Ec → Nat → Option Ec
  | [], _ => none
  | x :: r, n => match n with
    | 0 => some x
    | n + 1 => enth r n

/-- the cell off of element idx of a row of our own -/
def nestAt (look : Nat → Obj) (id gen md idx off : Nat) : Option Ec :=
  match look id with
  | .row _ t g m _ none xs => if g = gen then (if m = md then enth (toE t (xs.getD idx t.dflt)) off else none) else none
  | _ => none

/-- the content that a slice shows: e the element type, t its shape -/
def rdS (look : Nat → Obj) (e : TypeId) (t : Ty) : Cv → Option (List t.D)
  | .nil => some []
  | .ext e' t' xs => if h : e' = e ∧ t' = t then some (castL h.2 xs) else none
  | .rxt e' t' xs => if h : e' = e ∧ t' = t then some (castL h.2 xs) else none
  | .own id gen =>
    match look id with
    | .row e' t' g _ _ none xs => if h : e' = e ∧ t' = t then (if g = gen then some (castL h.2 xs) else none) else none
    | _ => none
  | .part id gen off len =>
    match look id with
    | .row e' t' g _ _ none xs => if h : e' = e ∧ t' = t then (if g = gen then some (((castL h.2 xs).drop off).take len) else none) else none
    | _ => none
  | .nest id gen md idx off =>
    match nestAt look id gen md idx off with
    | some (.sl e' t' xs) => if h : e' = e ∧ t' = t then some (castL h.2 xs) else none
    | _ => none
  | _ => none

def chInt (k : IntKind) : List Cv → Option (Int × List Cv)
  | .int k' n :: r => if k' = k then some (n, r) else none
  | _ => none
def chBool : List Cv → Option (Bool × List Cv)
  | .bool b :: r => some (b, r)
  | _ => none
def chStr : List Cv → Option (ByteArray × List Cv)
  | .str s :: r => some (s, r)
  | _ => none
def chSl (look : Nat → Obj) (e : TypeId) (t : Ty) : List Cv → Option (List t.D × List Cv)
  | c :: r => match rdS look e t c with
    | some xs => some (xs, r)
    | none => none
  | [] => none
def chRs (e : TypeId) (t : Ty) : List Cv → Option (List t.D × List Cv)
  | .rxt e' t' xs :: r => if h : e' = e ∧ t' = t then some (castL h.2 xs, r) else none
  | _ => none
/-- a slice that is handed over -/
def chTk (look : Nat → Obj) (e : TypeId) (t : Ty) : List Cv → Option (List t.D × List Cv × List Nat)
  | .nil :: r => some ([], r, [])
  | .own id gen :: r => match rdS look e t (.own id gen) with
    | some xs => some (xs, r, [id])
    | none => none
  | .part id gen off len :: r => match rdS look e t (.part id gen off len) with
    | some xs => some (xs, r, [id])
    | none => none
  | _ => none
/-- a slice that is handed over and back -/
def chIo (look : Nat → Obj) (e : TypeId) (t : Ty) : List Cv → Option (List t.D × List Cv × List Nat)
  | .nil :: r => some ([], r, [])
  | .own id gen :: r => match rdS look e t (.own id gen) with
    | some xs => some (xs, r, [id])
    | none => none
  | _ => none
/-- a pointer to a box of our own -/
def chPtr : List Cv → Option (Nat × List Cv)
  | .ptr id gen idx off :: r => if gen = 0 then (if idx = 0 then (if off = 0 then some (id, r) else none) else none) else none
  | _ => none
def boxOf (T : TypeId) : Obj → Option (List Cv)
  | .box T' cs => if T' = T then some cs else none
  | _ => none
def noIds {α : Type} : Option (α × List Cv) → Option (α × List Cv × List Nat)
  | some (x, r) => some (x, r, [])
  | none => none

def rdC (look : Nat → Obj) : (t : Ty) → List Cv → Option (t.D × List Cv)
  | .int k, cs => chInt k cs
  | .bool, cs => chBool cs
  | .str, cs => chStr cs
  | .unit, r => some ((), r)
  | .pair a b, cs =>
    match rdC look a cs with
    | some (x, r) =>
      match rdC look b r with
      | some (y, r') => some ((x, y), r')
      | none => none
    | none => none
  | .st t, cs => rdC look t cs
  | .slice e t, cs => chSl look e t cs
  | .rs e t, cs => chRs e t cs
  | .bx _ _, _ => none

/-- take: the rows are handed over -/
def tkC (look : Nat → Obj) : (t : Ty) → List Cv → Option (t.D × List Cv × List Nat)
  | .int k, cs => noIds (chInt k cs)
  | .bool, cs => noIds (chBool cs)
  | .str, cs => noIds (chStr cs)
  | .unit, r => some ((), r, [])
  | .pair a b, cs =>
    match tkC look a cs with
    | some (x, r, i) =>
      match tkC look b r with
      | some (y, r', j) => some ((x, y), r', i ++ j)
      | none => none
    | none => none
  | .st t, cs => tkC look t cs
  | .slice e t, cs => chTk look e t cs
  | .rs e t, cs => noIds (chRs e t cs)
  | .bx T t, cs =>
    match chPtr cs with
    | some (id, r) => match boxOf T (look id) with
      | some ds => match tkC look t ds with
        | some (x, [], ids) => some (x, r, id :: ids)
        | _ => none
      | none => none
    | none => none

/-- what is given back later: whole rows, boxes -/
def ioC (look : Nat → Obj) : (t : Ty) → List Cv → Option (t.D × List Cv × List Nat)
  | .int k, cs => noIds (chInt k cs)
  | .bool, cs => noIds (chBool cs)
  | .str, cs => noIds (chStr cs)
  | .unit, r => some ((), r, [])
  | .pair a b, cs =>
    match ioC look a cs with
    | some (x, r, i) =>
      match ioC look b r with
      | some (y, r', j) => some ((x, y), r', i ++ j)
      | none => none
    | none => none
  | .st t, cs => ioC look t cs
  | .slice e t, cs => chIo look e t cs
  | .rs e t, cs => noIds (chRs e t cs)
  | .bx T t, cs =>
    match chPtr cs with
    | some (id, r) => match boxOf T (look id) with
      | some ds => match tkC look t ds with
        | some (x, [], ids) => some (x, r, id :: ids)
        | _ => none
      | none => none
    | none => none

/-- open: new rows at base, base + 1, .. -/
def opC : (t : Ty) → t.D → Nat → List Cv × List (Nat × Obj)
  | .int k, n, _ => ([.int k n], [])
  | .bool, b, _ => ([.bool b], [])
  | .str, s, _ => ([.str s], [])
  | .unit, _, _ => ([], [])
  | .pair a b, x, base => ((opC a x.1 base).1 ++ (opC b x.2 (base + a.nsl)).1, (opC a x.1 base).2 ++ (opC b x.2 (base + a.nsl)).2)
  | .st t, x, base => opC t x base
  | .slice e t, xs, base => ([.own base 0], [(base, .row e t 0 0 none none xs)])
  | .rs e t, xs, _ => ([.rxt e t xs], [])
  | .bx T t, x, base => ([.ptr base 0 0 0], (base, .box T (opC t x (base + 1)).1) :: (opC t x (base + 1)).2)

/-- the cells of what came in to be read -/
def exC : (t : Ty) → t.D → List Cv
  | .int k, n => [.int k n]
  | .bool, b => [.bool b]
  | .str, s => [.str s]
  | .unit, _ => []
  | .pair a b, x => exC a x.1 ++ exC b x.2
  | .st t, x => exC t x
  | .slice e t, xs => [.ext e t xs]
  | .rs e t, xs => [.rxt e t xs]
  | .bx _ _, _ => [.junk]

/-- the cells of an element of a row of our own: flat ones alone -/
def flatC : List Ec → Option (List Cv)
  | [] => some []
  | .int k n :: r => match flatC r with
    | some cs => some (.int k n :: cs)
    | none => none
  | .bool b :: r => match flatC r with
    | some cs => some (.bool b :: cs)
    | none => none
  | .str s :: r => match flatC r with
    | some cs => some (.str s :: cs)
    | none => none
  | _ :: _ => none

/-- cells closed: the rows in them are handed over -/
def clC (look : Nat → Obj) : (t : Ty) → List Cv → Option (List Ec × List Nat) := fun t cs =>
  match tkC look t cs with
  | some (x, [], ids) => some (toE t x, ids)
  | _ => none

/-! ### 5. Calls -/
inductive PK where
  | val (t : Ty)
  | own (t : Ty)
  | inout (t : Ty)
  | rptr (t : Ty)
  | fn (t : Ty)

@[reducible] def PK.ty : PK → Ty
  | .val t => t
  | .own t => t
  | .inout t => t
  | .rptr t => t
  | .fn t => t

@[reducible] def PK.D : PK → Type
  | .val t => t.D
  | .own t => t.D
  | .inout t => t.D
  | .rptr t => t.D
  | .fn t => FuncId × t.D

@[reducible] def Prods : List Ty → Type
  | [] => Unit
  | [t] => t.D
  | t :: u :: r => t.D × Prods (u :: r)

@[reducible] def Ins : List PK → Type
  | [] => Unit
  | [p] => p.D
  | p :: q :: r => p.D × Ins (q :: r)

structure Sig where
  ps : List PK
  rs : List Ty

@[reducible] def gives : List PK → List Ty
  | [] => []
  | .inout t :: r => t :: gives r
  | _ :: r => gives r

def app {α : Type} : List α → List α → List α
  | [], s => s
  | x :: r, s => x :: app r s

@[reducible] def Outs : List Ty → List Ty → Type
  | rs, [] => Prods rs
  | [], g :: gs => Prods (g :: gs)
  | r :: rs, g :: gs => Prods (r :: rs) × Prods (g :: gs)

def outR : (rs gs : List Ty) → Outs rs gs → Prods rs
  | [], [], x => x
  | _ :: _, [], x => x
  | [], _ :: _, _ => ()
  | _ :: _, _ :: _, x => x.1

def outG : (rs gs : List Ty) → Outs rs gs → Prods gs
  | [], [], _ => ()
  | _ :: _, [], _ => ()
  | [], _ :: _, x => x
  | _ :: _, _ :: _, x => x.2

def mkOut : (rs gs : List Ty) → Prods rs → Prods gs → Outs rs gs
  | [], [], x, _ => x
  | _ :: _, [], x, _ => x
  | [], _ :: _, _, y => y
  | _ :: _, _ :: _, x, y => (x, y)

@[reducible] def Sig.Out (s : Sig) : Type := Outs s.rs (gives s.ps)

/-- what one argument comes to: the value, what was read, what was handed over, where it goes back -/
structure Took (α : Type) where
  x : α
  rd : List Nat
  own : List Nat
  back : List (List Cv)

def tkVal (look : Nat → Obj) (t : Ty) : LV → Option (Took t.D)
  | .v ag cs => if ag = t.isAgg then (match rdC look t cs with
    | some (x, []) => some ⟨x, crefs cs, [], []⟩
    | _ => none) else none
  | _ => none
def tkOwn (look : Nat → Obj) (t : Ty) : LV → Option (Took t.D)
  | .v ag cs => if ag = t.isAgg then (match tkC look t cs with
    | some (x, [], ids) => some ⟨x, [], ids, []⟩
    | _ => none) else none
  | _ => none
def tkIo (look : Nat → Obj) (t : Ty) : LV → Option (Took t.D)
  | .v ag cs => if ag = t.isAgg then (match ioC look t cs with
    | some (x, [], ids) => some ⟨x, [], ids, [cs]⟩
    | _ => none) else none
  | _ => none
def tkRp (look : Nat → Obj) (t : Ty) : LV → Option (Took t.D)
  | .v false [.ptr id gen idx off] => match chPtr [.ptr id gen idx off] with
    | some (id, _) => match look id with
      | .box _ cs => match rdC look t cs with
        | some (x, []) => some ⟨x, id :: crefs cs, [], []⟩
        | _ => none
      | _ => none
    | none => none
  | .v false [.eptr t' x off] => if h : t' = t then (if off = 0 then some ⟨h ▸ x, [], [], []⟩ else none) else none
  | _ => none
def tkFn (look : Nat → Obj) (t : Ty) : LV → Option (Took (FuncId × t.D))
  | .v false [.fn g ids] => match ids with
    | [] => if h : Ty.unit = t then some ⟨(g, h ▸ (() : Ty.D .unit)), [], [], []⟩ else none
    | [i] => if t.isUnit = true then none else (match look i with
      | .box _ cs => match rdC look t cs with
        | some (x, []) => some ⟨(g, x), i :: crefs cs, [], []⟩
        | _ => none
      | _ => none)
    | _ => none
  | .v false [.efn g t' x] => if h : t' = t then some ⟨(g, h ▸ x), [], [], []⟩ else none
  | _ => none

def takeArg (look : Nat → Obj) : (p : PK) → LV → Option (Took p.D)
  | .val t, v => tkVal look t v
  | .own t, v => tkOwn look t v
  | .inout t, v => tkIo look t v
  | .rptr t, v => tkRp look t v
  | .fn t, v => tkFn look t v

def takeArgs (look : Nat → Obj) : (ps : List PK) → List LV → Option (Took (Ins ps))
  | [], [] => some ⟨(), [], [], []⟩
  | [p], [l] => takeArg look p l
  | p :: q :: r, l :: ls =>
    match takeArg look p l with
    | some a => match takeArgs look (q :: r) ls with
      | some b => some ⟨(a.x, b.x), app a.rd b.rd, app a.own b.own, app a.back b.back⟩
      | none => none
    | none => none
  | _, _ => none

def deads : List Nat → List (Nat × Obj)
  | [] => []
  | i :: r => (i, .dead) :: deads r

/-- a row that is given back -/
def rowBack (look : Nat → Obj) (e : TypeId) (t : Ty) (xs : List t.D) : List Cv → Option (List (Nat × Obj) × List Cv)
  | .nil :: r => some ([], r)
  | .own id _ :: r => match look id with
    | .row _ _ g m _ _ _ => some ([(id, .row e t g (m + 1) none none xs)], r)
    | _ => none
  | _ => none
def skip1 : List Cv → Option (List (Nat × Obj) × List Cv)
  | _ :: r => some ([], r)
  | [] => none

/-- what is given back, laid in place: the rows keep their places, the boxes are opened anew -/
def backC (look : Nat → Obj) : (t : Ty) → t.D → List Cv → Nat → Option (List (Nat × Obj) × List Cv)
  | .unit, _, r, _ => some ([], r)
  | .pair a b, x, cs, base =>
    match backC look a x.1 cs base with
    | some (us, r) =>
      match backC look b x.2 r (base + a.nsl) with
      | some (vs, r') => some (app us vs, r')
      | none => none
    | none => none
  | .st t, x, cs, base => backC look t x cs base
  | .slice e t, xs, cs, _ => rowBack look e t xs cs
  | .bx T t, x, cs, base => match chPtr cs with
    | some (id, r) => some ((id, .box T (opC t x (base + 1)).1) :: (opC t x (base + 1)).2, r)
    | none => none
  | .int _, _, cs, _ => skip1 cs
  | .bool, _, cs, _ => skip1 cs
  | .str, _, cs, _ => skip1 cs
  | .rs _ _, _, cs, _ => skip1 cs

def nslP : List Ty → Nat
  | [] => 0
  | t :: r => t.nsl + nslP r

def opensR : (ts : List Ty) → Prods ts → Nat → List (Bool × List Cv) × List (Nat × Obj)
  | [], _, _ => ([], [])
  | [t], x, base => ([(t.isAgg, (opC t x base).1)], (opC t x base).2)
  | t :: u :: r, x, base => ((t.isAgg, (opC t x.1 base).1) :: (opensR (u :: r) x.2 (base + t.nsl)).1, app (opC t x.1 base).2 (opensR (u :: r) x.2 (base + t.nsl)).2)

def opensG (look : Nat → Obj) : (ts : List Ty) → List (List Cv) → Prods ts → Nat → Option (List (Nat × Obj))
  | [], [], _, _ => some []
  | [t], [b], x, base => match backC look t x b base with
    | some (us, []) => some us
    | _ => none
  | t :: u :: r, b :: bs, x, base =>
    match backC look t x.1 b base with
    | some (us, []) => match opensG look (u :: r) bs x.2 (base + t.nsl) with
      | some vs => some (app us vs)
      | none => none
    | _ => none
  | _, _, _, _ => none

def ofVs : List (Bool × List Cv) → LV
  | [(ag, cs)] => .v ag cs
  | vs => .tup vs
end Go.Proofs.Ytgnnljpdcafdkaa.Ev

/- The abstract evaluator, second part: operations, code, functions. Definitions only. -/
namespace Go.Proofs.Ytgnnljpdcafdkaa.Ev
open Go

/-! ### 6. Operands -/
def constC : Value → Cv
  | .int k n => .int k n
  | .bool b => .bool b
  | .string s => .str s
  | .slice none 0 0 => .nil
  | .pointer none => .nilp
  | _ => .junk

def constCs : List Value → List Cv
  | [] => []
  | v :: r => constC v :: constCs r

def constLV : Value → LV
  | .agg cs => .v true (constCs cs.toList)
  | .tuple vs => match vs.toList with
    | [] => .tup []
    | _ => .c .junk
  | v => .c (constC v)

def opv (F : List LV) : Operand → LV
  | .tmp t => fget F t
  | .const v => constLV v
  | .func f => .c (.fn f [])
  | .global _ => .c .junk

def orefs (lv : Operand → LV) : List Operand → List Nat
  | [] => []
  | x :: r => app (lv x).refs (orefs lv r)

/-- how far an operation looks: not at all, at what its operands name, or a step further -/
def reachOf : Op → Nat
  | .move _ => 0
  | .assign _ => 0
  | .pick _ _ _ => 0
  | .alloc _ => 0
  | .box _ _ => 0
  | .build _ _ => 0
  | .nilCheck _ => 0
  | .binOp _ _ _ _ _ => 0
  | .unOp _ _ _ => 0
  | .fieldAddr _ _ _ => 0
  | .field _ _ _ => 0
  | .index _ _ _ => 0
  | .extract _ _ => 0
  | .makeFunc _ _ _ => 0
  | .makeSlice _ _ _ => 0
  | .call c => match c.callee with
    | .builtin _ => 1
    | _ => 2
  | _ => 1

def tids (lv : Operand → LV) (look : Nat → Obj) (o : Op) : List Nat :=
  match reachOf o with
  | 0 => []
  | 1 => orefs lv o.operands.toList
  | _ => app (orefs lv o.operands.toList) (refs2 look (orefs lv o.operands.toList))

/-! ### 7. Plain operations -/
def bt (s : ByteArray) (i : Int) : Int := ((s.data.getD i.toNat 0).toNat : Int)
def seq (x y : ByteArray) : Bool := x.toList == y.toList
def slt (x y : ByteArray) : Bool := Op.bytesLess x.toList y.toList
def bitOp (op : BinOp) (k : IntKind) (x y : Int) : Int :=
  match op with
  | .and => k.wrap ((BitVec.ofInt k.bits x) &&& (BitVec.ofInt k.bits y)).toNat
  | .or => k.wrap ((BitVec.ofInt k.bits x) ||| (BitVec.ofInt k.bits y)).toNat
  | .xor => k.wrap ((BitVec.ofInt k.bits x) ^^^ (BitVec.ofInt k.bits y)).toNat
  | _ => k.wrap ((BitVec.ofInt k.bits x) &&& ~~~(BitVec.ofInt k.bits y)).toNat
/-- a text out of bytes -/
def strOf (xs : List Int) : ByteArray := ⟨(xs.map fun n => UInt8.ofNat n.toNat).toArray⟩

/-- '==' of what has no slices -/
def eqT : (t : Ty) → t.D → t.D → Bool
  | .int _, a, b => decide (a = b)
  | .bool, a, b => a == b
  | .str, a, b => seq a b
  | .unit, _, _ => true
  | .pair a b, x, y => eqT a x.1 y.1 && eqT b x.2 y.2
  | .st t, x, y => eqT t x y
  | _, _, _ => false

section
variable {R : Type}

def binInt (op : BinOp) (k : IntKind) (a b : Int) (K : Cv → Option R) : Option R :=
  match op with
  | .add => K (.int k (k.wrap (a + b)))
  | .sub => K (.int k (k.wrap (a - b)))
  | .mul => K (.int k (k.wrap (a * b)))
  | .quo => if b = 0 then none else K (.int k (k.wrap (a.tdiv b)))
  | .rem => if b = 0 then none else K (.int k (a.tmod b))
  | .and => K (.int k (bitOp .and k a b))
  | .or => K (.int k (bitOp .or k a b))
  | .xor => K (.int k (bitOp .xor k a b))
  | .andNot => K (.int k (bitOp .andNot k a b))
  | .eql => K (.bool (decide (a = b)))
  | .neq => K (.bool (!decide (a = b)))
  | .lss => K (.bool (decide (a < b)))
  | .leq => K (.bool (decide (a ≤ b)))
  | .gtr => K (.bool (decide (b < a)))
  | .geq => K (.bool (decide (b ≤ a)))
  | .shl => if b < 0 then none else K (.int k (k.wrap (a * 2 ^ (min b.toNat k.bits))))
  | .shr => if b < 0 then none else K (.int k (a.fdiv (2 ^ (min b.toNat k.bits))))

def binStr (op : BinOp) (a b : ByteArray) (K : Cv → Option R) : Option R :=
  match op with
  | .add => if a.size + b.size ≤ 9223372036854775807 then K (.str (a ++ b)) else none
  | .eql => K (.bool (seq a b))
  | .neq => K (.bool (!seq a b))
  | .lss => K (.bool (slt a b))
  | .leq => K (.bool (slt a b || seq a b))
  | .gtr => K (.bool (!(slt a b || seq a b)))
  | .geq => K (.bool (!slt a b))
  | _ => none

def isShift : BinOp → Bool
  | .shl => true
  | .shr => true
  | _ => false

def isEq : BinOp → Option Bool
  | .eql => some true
  | .neq => some false
  | _ => none

/-- what kind of values a type's '==' compares -/
inductive Bk where
  | bool
  | ptr
  | st (t : Ty)
  | none

def bkOf (tt : TT) (T : TypeId) : Bk :=
  match tt.shape T with
  | some .bool => .bool
  | some (.st t) => if tt.cmp T = true then .st (.st t) else .none
  | some _ => .none
  | none => if tt.ptr T = true then .ptr else .none

def binK (bk : Bk) (op : BinOp) (x y : LV) (K : Cv → Option R) : Option R :=
  match x, y with
  | .v false [.int k a], .v false [.int k' b] => if k' = k then binInt op k a b K else if isShift op = true then binInt op k a b K else none
  | .v false [.str a], .v false [.str b] => binStr op a b K
  | .v false [.bool a], .v false [.bool b] => match bk, isEq op with
    | .bool, some true => K (.bool (a == b))
    | .bool, some false => K (.bool (!(a == b)))
    | _, _ => none
  | .v false [.ptr _ _ _ _], .v false [.nilp] => match bk, isEq op with
    | .ptr, some true => K (.bool false)
    | .ptr, some false => K (.bool true)
    | _, _ => none
  | .v false [.nilp], .v false [.nilp] => match bk, isEq op with
    | .ptr, some true => K (.bool true)
    | .ptr, some false => K (.bool false)
    | _, _ => none
  | .v true cs, .v true ds => match bk, isEq op with
    | .st t, some true => match rdC (fun _ => .free) t cs, rdC (fun _ => .free) t ds with
      | some (x, []), some (y, []) => K (.bool (eqT t x y))
      | _, _ => none
    | .st t, some false => match rdC (fun _ => .free) t cs, rdC (fun _ => .free) t ds with
      | some (x, []), some (y, []) => K (.bool (!eqT t x y))
      | _, _ => none
    | _, _ => none
  | _, _ => none

def pickK (c a b : LV) (K : LV → Option R) : Option R :=
  match c with
  | .v false [.bool t] => match a, b with
    | .v false [.bool x], .v false [.bool y] => K (.c (.bool (bif t then x else y)))
    | .v false [.int k x], .v false [.int k' y] => if k' = k then K (.c (.int k (bif t then x else y))) else none
    | .v false [.str x], .v false [.str y] => K (.c (.str (bif t then x else y)))
    | x, y => if t = true then K x else K y
  | _ => none

def unK (op : UnOp) (x : LV) (K : Cv → Option R) : Option R :=
  match op, x with
  | .not, .v false [.bool b] => K (.bool (!b))
  | .neg, .v false [.int k n] => K (.int k (k.wrap (0 - n)))
  | _, _ => none

/-! ### 8. Memory -/
def creplace : List Cv → Nat → List Cv → List Cv
  | cs, 0, [] => cs
  | _ :: r, 0, n :: ns => n :: creplace r 0 ns
  | c :: r, k + 1, ns => c :: creplace r k ns
  | [], _, _ => []
/-- the cells of element idx of a row of our own, from cell off on -/
def rowC (id g m idx : Nat) : Nat → List Ec → List Cv
  | _, [] => []
  | o, .int k n :: r => .int k n :: rowC id g m idx (o + 1) r
  | o, .bool b :: r => .bool b :: rowC id g m idx (o + 1) r
  | o, .str s :: r => .str s :: rowC id g m idx (o + 1) r
  | o, .sl _ _ _ :: r => .nest id g m idx o :: rowC id g m idx (o + 1) r
  | o, .rs e t xs :: r => .rxt e t xs :: rowC id g m idx (o + 1) r
  | o, .hole :: r => .junk :: rowC id g m idx (o + 1) r

def cutC (t : Ty) (cs : List Cv) : Option LV := if llen cs = t.sz then some (.v t.isAgg cs) else none

def loadC (look : Nat → Obj) (t : Ty) : Cv → Option LV
  | .ptr id gen idx off =>
    match look id with
    | .box _ cs => if gen = 0 then (if idx = 0 then cutC t (ctake t.sz (cdrop off cs)) else none) else none
    | .row _ t' g m _ none xs => if g = gen then cutC t (rowC id g m idx off (etake t.sz (edrop off (toE t' (xs.getD idx t'.dflt))))) else none
    | _ => none
  | .eptr t' x off => cutC t (ctake t.sz (cdrop off (exC t' x)))
  | .nptr id gen md idx off at_ fo =>
    match nestAt look id gen md idx off with
    | some (.sl _ t' ys) => match flatC (toE t' (ys.getD at_ t'.dflt)) with
      | some cs => cutC t (ctake t.sz (cdrop fo cs))
      | none => none
    | _ => none
  | _ => none

def allFlat : List Cv → Option (List Ec)
  | [] => some []
  | .int k n :: r => match allFlat r with
    | some es => some (.int k n :: es)
    | none => none
  | .bool b :: r => match allFlat r with
    | some es => some (.bool b :: es)
    | none => none
  | .str s :: r => match allFlat r with
    | some es => some (.str s :: es)
    | none => none
  | _ :: _ => none

/-- cells that are known -/
def solid : List Cv → Bool
  | [] => true
  | .junk :: _ => false
  | .undef :: _ => false
  | _ :: r => solid r

def storeK (look : Nat → Obj) (t : Ty) (addr : Cv) (val : LV) (K : List (Nat × Obj) → Option R) : Option R :=
  match addr, val with
  | .ptr id gen idx off, .v ag cs => if ag = t.isAgg then (if llen cs = t.sz then
    (match look id with
    | .box T bs => if gen = 0 then (if idx = 0 then (if off + llen cs ≤ llen bs then (if solid cs = true then K [(id, .box T (creplace bs off cs))] else none) else none) else none) else none
    | .row e t' g m x lent xs => if g = gen then (match allFlat cs with
      | some es => if off + llen cs ≤ t'.sz then (match ofE t' (ereplace (toE t' (xs.getD idx t'.dflt)) off es) with
        | some (y, []) => K [(id, .row e t' g m x lent (xs.set idx y))]
        | _ => none) else none
      | none => none) else none
    | _ => none) else none) else none
  | _, _ => none

def addrAdd (o : Nat) : Cv → Option Cv
  | .ptr id gen idx off => some (.ptr id gen idx (off + o))
  | .eptr t x off => some (.eptr t x (off + o))
  | .nptr id gen md idx off a fo => some (.nptr id gen md idx off a (fo + o))
  | _ => none

def idxK (n : Nat) (look : Nat → Obj) (x : Cv) (i : Int) (K : Cv → Option R) : Option R :=
  match x with
  | .own id gen => match look id with
    | .row _ t g _ _ _ xs => if t.sz = n then (if g = gen then (if 0 ≤ i then (if i < (xs.length : Int) then K (.ptr id gen i.toNat 0) else none) else none) else none) else none
    | _ => none
  | .part id gen off len => match look id with
    | .row _ t g _ _ _ _ => if t.sz = n then (if g = gen then (if 0 ≤ i then (if i < (len : Int) then K (.ptr id gen (off + i.toNat) 0) else none) else none) else none) else none
    | _ => none
  | .ext _ t xs => if t.sz = n then (if 0 ≤ i then (if i < (xs.length : Int) then K (.eptr t (xs.getD i.toNat t.dflt) 0) else none) else none) else none
  | .rxt _ t xs => if t.sz = n then (if 0 ≤ i then (if i < (xs.length : Int) then K (.eptr t (xs.getD i.toNat t.dflt) 0) else none) else none) else none
  | .nest id gen md idx off => match nestAt look id gen md idx off with
    | some (.sl _ t ys) => if t.sz = n then (if 0 ≤ i then (if i < (ys.length : Int) then K (.nptr id gen md idx off i.toNat 0) else none) else none) else none
    | _ => none
  | _ => none

def lenK (look : Nat → Obj) (x : Cv) (K : Cv → Option R) : Option R :=
  match x with
  | .nil => K (.int .i64 0)
  | .own id gen => match look id with
    | .row _ _ g _ _ _ xs => if g = gen then K (.int .i64 (xs.length : Int)) else none
    | _ => none
  | .part _ _ _ len => K (.int .i64 (len : Int))
  | .ext _ _ xs => K (.int .i64 (xs.length : Int))
  | .rxt _ _ xs => K (.int .i64 (xs.length : Int))
  | .nest id gen md idx off => match nestAt look id gen md idx off with
    | some (.sl _ _ ys) => K (.int .i64 (ys.length : Int))
    | _ => none
  | _ => none

def intOf? : Option LV → Option (Option Int)
  | none => some none
  | some (.v false [.int _ n]) => some (some n)
  | _ => none

/-- bounds lo ≤ hi ≤ n, as places -/
def bndK (n : Nat) (lo hi : Option Int) (K : Nat → Nat → Option R) : Option R :=
  match lo, hi with
  | none, none => K 0 n
  | some l, none => if 0 ≤ l then (if l ≤ (n : Int) then K l.toNat n else none) else none
  | none, some h => if 0 ≤ h then (if h ≤ (n : Int) then K 0 h.toNat else none) else none
  | some l, some h => if 0 ≤ h then (if h ≤ (n : Int) then (if 0 ≤ l then (if l ≤ h then K l.toNat h.toNat else none) else none) else none) else none

def sliceS (s : ByteArray) (lo hi : Option Int) (K : Cv → Option R) : Option R :=
  match lo, hi with
  | none, none => K (.str s)
  | some l, none => if 0 ≤ l then (if l ≤ (s.size : Int) then K (.str (s.extract l.toNat s.size)) else none) else none
  | lo, hi => bndK s.size lo hi fun l h => K (.str (s.extract l h))

def sliceK (n : Nat) (look : Nat → Obj) (x : Cv) (lo hi : Option Int) (K : Cv → Option R) : Option R :=
  match x with
  | .nil => bndK 0 lo hi fun _ _ => K .nil
  | .ext e t xs => if t.sz = n then (match lo, hi with
    | none, none => K (.ext e t xs)
    | some l, none => if 0 ≤ l then (if l ≤ (xs.length : Int) then K (.ext e t (xs.drop l.toNat)) else none) else none
    | none, some h => if 0 ≤ h then (if h ≤ (xs.length : Int) then K (.ext e t (xs.take h.toNat)) else none) else none
    | lo, hi => bndK xs.length lo hi fun l h => K (.ext e t ((xs.take h).drop l))) else none
  | .own id gen => match look id with
    | .row _ t g _ ex _ xs => if t.sz = n then (if g = gen then (match lo, hi with
      | none, none => K (.own id gen)
      | some l, none => if 0 ≤ l then (if l ≤ (xs.length : Int) then K (.part id gen l.toNat (xs.length - l.toNat)) else none) else none
      | lo, hi => match ex with
        | none => bndK xs.length lo hi fun l h => K (.part id gen l (h - l))
        | some m => bndK (xs.length + m) lo hi fun l h => K (.tail id gen l (h - l))) else none) else none
    | _ => none
  | .part id gen off len => match look id with
    | .row _ t g _ _ _ _ => if t.sz = n then (if g = gen then (match lo, hi with
      | none, none => K (.part id gen off len)
      | some l, none => if 0 ≤ l then (if l ≤ (len : Int) then K (.part id gen (off + l.toNat) (len - l.toNat)) else none) else none
      | lo, hi => bndK len lo hi fun l h => K (.part id gen (off + l) (h - l))) else none) else none
    | _ => none
  | _ => none

/-- the elements of a new row out of their cells, closed: one after the other -/
def elemsOf (look : Nat → Obj) (t : Ty) : Nat → List (Nat × LV) → Option (List t.D × List Nat)
  | _, [] => some ([], [])
  | n, (i, v) :: r => if i = n then (match v with
    | .v ag cs => if ag = t.isAgg then (match tkC look t cs with
      | some (x, [], is) => match elemsOf look t (n + 1) r with
        | some (xs, ids) => some (x :: xs, app is ids)
        | none => none
      | _ => none) else none
    | .tup _ => none) else none

/-- shapes whose zero value needs no object -/
def zok : Ty → Bool
  | .pair a b => zok a && zok b
  | .st t => zok t
  | .rs _ _ => false
  | .bx _ _ => false
  | _ => true

def LIM (tt : TT) (e : TypeId) : Nat := 140737488355328 / tt.bytes e

/-- what is appended: its content, and the rows that are handed over -/
def addS (look : Nat → Obj) (e : TypeId) (t : Ty) (y : Cv) : Option (List t.D × List Nat) :=
  match rdS look e t y with
  | some ys => if t.nsl = 0 then some (ys, []) else match y with
    | .own i _ => some (ys, [i])
    | .nil => some (ys, [])
    | _ => none
  | none => none

def appendK (tt : TT) (look : Nat → Obj) (base : Nat) (e : TypeId) (t : Ty) (x : Cv) (ys : List t.D) (ids : List Nat) (K : Cv → List (Nat × Obj) → Option R) : Option R :=
  match x with
  | .nil => if ys.length ≤ LIM tt e then K (.own base 0) ((base, .row e t 0 0 none none ys) :: deads ids) else none
  | .own id gen => match look id with
    | .row e' t' g m _ none xs => if h : e' = e ∧ t' = t then (if g = gen then (if nmem id ids = true then none else (if xs.length + ys.length ≤ LIM tt e then
        K (.own id (gen + 1)) ((id, .row e t (gen + 1) m none none (castL h.2 xs ++ ys)) :: deads ids) else none)) else none) else none
    | _ => none
  | .part id gen off len => match look id with
    | .row e' t' g m ex none xs => if h : e' = e ∧ t' = t then (if g = gen then (if nmem id ids = true then none else (if len + ys.length ≤ LIM tt e then
        K (.own id (gen + 1)) ((id, .row e t (gen + 1) m (some (xs.length + ex.getD 0 - off - (len + ys.length))) none (((castL h.2 xs).drop off).take len ++ ys)) :: deads ids) else none)) else none) else none
    | _ => none
  | _ => none

def fillC (cs : List Cv) : List (Nat × List Cv) → List Cv
  | [] => cs
  | (o, p) :: r => fillC (creplace cs o p) r
end

/-! ### 9. One operation -/
structure Env where
  tt : TT
  sg : FuncId → Sig
  call : (f : FuncId) → Ins (sg f).ps → Option (sg f).Out
  body : FuncId → Option Func
  inl : FuncId → FuncId → Bool
  keep : FuncId → Nat → Option (List Nat)

def lvs (lv : Operand → LV) : List Operand → List LV
  | [] => []
  | x :: r => lv x :: lvs lv r

def one : LV → Option Cv
  | .v false [c] => some c
  | _ => none

def tup0 : LV := .tup []

section
variable {R : Type}

def elemSz (tt : TT) (T : TypeId) : Option Nat :=
  match tt.elem T with
  | some e => match tt.shape e with
    | some t => some t.sz
    | none => none
  | none => none

def callK (E : Env) (look : Nat → Obj) (base : Nat) (f : FuncId) (as : List LV) (K : LV → List (Nat × Obj) → Option R) : Option R :=
  match takeArgs look (E.sg f).ps as with
  | some a =>
    if ndup a.own = true then (if disj a.rd a.own = true then (if nslP (E.sg f).rs + nslP (gives (E.sg f).ps) ≤ 32 then
      match E.call f a.x with
      | none => none
      | some r =>
        match opensG (rst look a.own) (gives (E.sg f).ps) a.back (outG (E.sg f).rs (gives (E.sg f).ps) r) (base + nslP (E.sg f).rs) with
        | some us => K (ofVs (opensR (E.sg f).rs (outR (E.sg f).rs (gives (E.sg f).ps) r) base).1) (app (deads a.own) (app (opensR (E.sg f).rs (outR (E.sg f).rs (gives (E.sg f).ps) r) base).2 us))
        | none => none
    else none) else none) else none
  | none => none

def builtinK (E : Env) (look : Nat → Obj) (base : Nat) (b : Builtin) (argTypes : List TypeId) (as : List LV) (K : LV → List (Nat × Obj) → Option R) : Option R :=
  match b, as with
  | .len, [.v false [x]] => match argTypes with
    | T :: _ => match x with
      | .str s => if E.tt.shape T = some .str then K (.c (.int .i64 (s.size : Int))) [] else none
      | x => if (E.tt.elem T).isSome = true then lenK look x fun c => K (.c c) [] else none
    | [] => none
  | .append, [.v false [x], .v false [y]] =>
    match argTypes with
    | [T, T2] => match E.tt.elem T with
      | some e => match E.tt.shape e with
        | some t => match y with
          | .str s => match t with
            | .int .u8 => if E.tt.shape T2 = some .str then appendK E.tt look base e (.int .u8) x (s.data.toList.map fun b => (b.toNat : Int)) [] fun c us => K (.c c) us else none
            | _ => none
          | y => if (E.tt.elem T2).isSome = true then (match addS look e t y with
            | some (ys, ids) => appendK E.tt look base e t x ys ids fun c us => K (.c c) us
            | none => none) else none
        | none => none
      | none => none
    | _ => none
  | .clear, [.v false [.tail id gen off _]] =>
    match argTypes with
    | [T] => match look id with
      | .row _ t g _ _ _ xs => if elemSz E.tt T = some t.sz then (if g = gen then (if xs.length ≤ off then K tup0 [] else none) else none) else none
      | _ => none
    | _ => none
  | .clear, [.v false [.part id gen off len]] =>
    match argTypes with
    | [T] => match look id with
      | .row e t g m ex none xs => if E.tt.elem T = some e then (if E.tt.shape e = some t then (if g = gen then (if zok t = true then
          K tup0 [(id, .row e t g (m + 1) ex none (xs.take off ++ (List.replicate len t.dflt ++ xs.drop (off + len))))] else none) else none) else none) else none
      | _ => none
    | _ => none
  | .max, [.v false [.int k a], .v false [.int k' b]] => if k' = k then K (.c (.int k (if b > a then b else a))) [] else none
  | .min, [.v false [.int k a], .v false [.int k' b]] => if k' = k then K (.c (.int k (if b < a then b else a))) [] else none
  | _, _ => none

def ptrs : List Nat → List LV
  | [] => []
  | i :: r => .c (.ptr i 0 0 0) :: ptrs r

def aopK (E : Env) (look : Nat → Obj) (base : Nat) (lv : Operand → LV) (o : Op) (K : LV → List (Nat × Obj) → Option R) : Option R :=
  match o with
  | .move x => K (lv x) []
  | .assign x => K (lv x) []
  | .pick c a b => pickK (lv c) (lv a) (lv b) fun v => K v []
  | .alloc T => match E.tt.shape T with
    | some t => K (.c (.ptr base 0 0 0)) [(base, .box T (zeroC t))]
    | none => none
  | .box T x => match lv x with
    | .v _ cs => if solid cs = true then K (.c (.ptr base 0 0 0)) [(base, .box T cs)] else none
    | _ => none
  | .build T parts => match E.tt.shape T with
    | some (.st t) => match placeP T (parts.toList) with
      | some ps => K (.v true (fillC (zeroC t) ps)) []
      | none => none
    | _ => none
  | .buildSlice T n parts => match E.tt.elem T with
    | some e => match E.tt.shape e with
      | some t => match elemsOf look t 0 (lvP parts.toList) with
        | some (xs, ids) => if ndup ids = true then (if llen parts.toList = n then (if n * (t.sz + 1) ≤ 16777216 then K (.c (.own base 0)) ((base, .row e t 0 0 none none xs) :: deads ids) else none) else none) else none
        | none => none
      | none => none
    | none => none
  | .load T a => match E.tt.shape T, one (lv a) with
    | some t, some c => match loadC look t c with
      | some v => K v []
      | none => none
    | _, _ => none
  | .store T a x => match E.tt.shape T, one (lv a) with
    | some t, some c => storeK look t c (lv x) fun us => K (.c .undef) us
    | _, _ => none
  | .nilCheck x => match lv x with
    | .v false [.ptr id gen idx off] => K (.c (.ptr id gen idx off)) []
    | .v false [.eptr t y off] => K (.c (.eptr t y off)) []
    | _ => none
  | .binOp op T x y _ => binK (bkOf E.tt T) op (lv x) (lv y) fun c => K (.c c) []
  | .unOp op _ x => unK op (lv x) fun c => K (.c c) []
  | .convert S T x => match E.tt.shape S, E.tt.shape T, lv x with
    | some (.int _), some (.int k), .v false [.int _ n] => K (.c (.int k (k.wrap n))) []
    | some .str, some .str, .v false [.str s] => K (.c (.str s)) []
    | some (.slice e (.int .u8)), some .str, .v false [c] => match rdS look e (.int .u8) c with
      | some xs => K (.c (.str (strOf xs))) []
      | none => none
    | _, _, _ => none
  | .makeFunc fn first caps => match fn, first.toList with
    | .func g, [] => match capIds (lvs lv caps.toList) with
      | some ids => K (.c (.fn g ids)) []
      | none => none
    | _, _ => none
  | .makeSlice T n m => match E.tt.elem T, lv n, lv m with
    | some e, .v false [.int _ a], .v false [.int _ b] => match E.tt.shape e with
      | some t => if zok t = true then (if a = b then (if 0 ≤ a then (if a.toNat ≤ LIM E.tt e then (if a.toNat ≤ 9223372036854775807 then K (.c (.own base 0)) [(base, .row e t 0 0 none none (List.replicate a.toNat t.dflt))] else none) else none) else none) else none) else none
      | none => none
    | _, _, _ => none
  | .slice T x lo hi mx => match one (lv x), intOf? (lo.map lv), intOf? (hi.map lv), mx with
    | some (.str s), some l, some h, none => if E.tt.shape T = some .str then sliceS s l h fun c => K (.c c) [] else none
    | some c, some l, some h, none => match elemSz E.tt T with
      | some n => sliceK n look c l h fun c => K (.c c) []
      | none => none
    | some c, some l, some h, some m => match elemSz E.tt T, intOf? (some (lv m)), h with
      | some n, some (some m), some h => sliceK n look c none (some m) fun _ => sliceK n look c none (some h) fun _ => sliceK n look c l (some h) fun _ => if h ≤ m then K (.c .junk) [] else none
      | _, _, _ => none
    | _, _, _, _ => none
  | .fieldAddr T x f => match E.tt.field T f, one (lv x) with
    | some (o, t), some c => if t.sz = 0 then none else match addrAdd o c with
      | some c' => K (.c c') []
      | none => none
    | _, _ => none
  | .field T x f => match E.tt.field T f, lv x with
    | some (o, t), .v true cs => match cutC t (ctake t.sz (cdrop o cs)) with
      | some v => K v []
      | none => none
    | _, _ => none
  | .indexAddr T x i => match elemSz E.tt T, one (lv x), lv i with
    | some z, some c, .v false [.int _ n] => idxK z look c n fun c => K (.c c) []
    | _, _, _ => none
  | .index T x i => match E.tt.shape T, lv x, lv i with
    | some .str, .v false [.str s], .v false [.int _ n] => if 0 ≤ n then (if n < (s.size : Int) then K (.c (.int .u8 (bt s n))) [] else none) else none
    | _, _, _ => none
  | .extract x i => match lv x with
    | .tup vs => match tnth vs i with
      | some (ag, cs) => K (.v ag cs) []
      | none => none
    | _ => none
  | .call c => match c.callee with
    | .builtin b => builtinK E look base b c.argTypes.toList (lvs lv c.args.toList) K
    | .value f => match lv f with
      | .v false [.fn g ids] => callK E look base g (app (lvs lv c.args.toList) (ptrs ids)) K
      | .v false [.efn g t x] => match t with
        | .unit => callK E look base g (lvs lv c.args.toList) K
        | t => callK E look base g (app (lvs lv c.args.toList) [.c (.eptr t x 0)]) K
      | _ => none
    | _ => none
  | _ => none
where
  placeP (T : TypeId) : List (Nat × Operand) → Option (List (Nat × List Cv))
    | [] => some []
    | (i, x) :: r => match E.tt.field T i, lv x, placeP T r with
      | some (o, t), .v ag cs, some ps => if ag = t.isAgg then (if llen cs = t.sz then (if solid cs = true then some ((o, cs) :: ps) else none) else none) else none
      | _, _, _ => none
  lvP : List (Nat × Operand) → List (Nat × LV)
    | [] => []
    | (i, x) :: r => (i, lv x) :: lvP r
  capIds : List LV → Option (List Nat)
    | [] => some []
    | .v false [c] :: r => match chPtr [c] with
      | some (id, _) => match capIds r with
        | some ids => some (id :: ids)
        | none => none
      | none => none
    | _ :: _ => none
  tnth : List (Bool × List Cv) → Nat → Option (Bool × List Cv)
    | [], _ => none
    | v :: r, n => match n with
      | 0 => some v
      | n + 1 => tnth r n
end
end Go.Proofs.Ytgnnljpdcafdkaa.Ev

/- The abstract evaluator, third part: regions, code, functions. Definitions only. -/
namespace Go.Proofs.Ytgnnljpdcafdkaa.Ev
open Go

/-! ### 10. Regions -/
section
variable {R : Type}

def stepK (E : Env) (o : Op) (st : St) (base : Nat) (K : LV → List (Nat × Obj) → Option R) : Option R :=
  aopK E (rst (hget st.H) (tids (opv st.F) (hget st.H) o)) base (opv st.F) o K

def dstOf : List Oper → Nat → Option Nat
  | [], _ => none
  | o :: r, n => match n with
    | 0 => o.dst
    | n + 1 => dstOf r n

def guardK (all : List Oper) (o : Oper) (st : St) (yes no : St → Option R) : Option R :=
  match o.guard with
  | none => yes st
  | some (j, want) => match dstOf all j with
    | some d => match fget st.F d with
      | .v false [.bool b] =>
        if b = true then (if want = true then yes ⟨fput st.F d (.c (.bool true)), st.H, st.pins⟩ else no ⟨fput st.F d (.c (.bool true)), st.H, st.pins⟩)
        else (if want = true then no ⟨fput st.F d (.c (.bool false)), st.H, st.pins⟩ else yes ⟨fput st.F d (.c (.bool false)), st.H, st.pins⟩)
      | .v false [.undef] => no st
      | _ => none
    | none => none

/-- the function that is called in place, if there is one -/
def inlOf (E : Env) (f : FuncId) (st : St) : Op → Option (FuncId × List LV)
  | .call c => match c.callee with
    | .value x => match opv st.F x with
      | .v false [.fn g []] => if E.inl f g = true then some (g, lvs (opv st.F) c.args.toList) else none
      | _ => none
    | _ => none
  | _ => none

def aops (E : Env) (f : FuncId) (ic : FuncId → List LV → List Obj → (LV → List Obj → Option R) → Option R) (all : List Oper) : List Oper → St → (St → Option R) → Option R
  | [], st, K => K st
  | o :: r, st, K => guardK all o st
      (fun st => match inlOf E f st o.op with
        | some (g, as) => ic g as st.H fun v H => aops E f ic all r ⟨putDst st.F o.dst v, H, st.pins⟩ K
        | none => stepK E o.op st (llen st.H) fun v us => aops E f ic all r ⟨putDst st.F o.dst v, hputs st.H us, st.pins⟩ K)
      (fun st => aops E f ic all r ⟨putDst st.F o.dst (.c .undef), st.H, st.pins⟩ K)

/-- what an operation did: its place, its ancestors, the slots that it looks at, the slot that it fills, the objects that it looked at, those that it turned -/
structure Eff where
  i : Nat
  anc : List Nat
  looks : List Nat
  dst : Option Nat
  rd : List Nat
  wr : List Nat

def tmpsOf : List Operand → List Nat
  | [] => []
  | .tmp t :: r => t :: tmpsOf r
  | _ :: r => tmpsOf r

def ancOf (j : Nat) (effs : List Eff) : List Edge → Option (List Nat)
  | [] => some []
  | e :: r => match ancOf j effs r with
    | some l => if Region.binds .any e = true then (match find e.on effs with
      | some a => some (e.on :: app a l)
      | none => none) else some l
    | none => none
where find (n : Nat) : List Eff → Option (List Nat)
  | [] => none
  | e :: r => if e.i = n then some e.anc else find n r

def upIds : List (Nat × Obj) → List Nat
  | [] => []
  | (i, _) :: r => i :: upIds r

def onot (d : Option Nat) (l : List Nat) : Bool :=
  match d with
  | none => true
  | some d => if nmem d l = true then false else true

def one? : Option Nat → List Nat
  | none => []
  | some d => [d]

/-- may they change places? -/
def apartE (a b : Eff) : Bool :=
  onot a.dst b.looks && (onot b.dst a.looks && (onot a.dst (one? b.dst) && (disj a.wr b.rd && (disj a.wr b.wr && disj b.wr a.rd))))

def apartAll (b : Eff) : List Eff → Bool
  | [] => true
  | a :: r => if nmem a.i b.anc = true then apartAll b r else (if apartE a b = true then apartAll b r else false)

/-- new objects lie in the operation's own range, others are old or its ancestors' -/
def okIds (base0 i : Nat) (anc : List Nat) : List Nat → Bool
  | [] => true
  | n :: r => if n < base0 then okIds base0 i anc r else (if (n - base0) / 32 = i then okIds base0 i anc r else (if nmem ((n - base0) / 32) anc = true then okIds base0 i anc r else false))

def adraw (E : Env) (all : List Oper) (base0 : Nat) : List Oper → Nat → List Eff → St → (St → Option R) → Option R
  | [], _, _, st, K => K st
  | o :: r, i, effs, st, K =>
    match ancOf i effs o.after.toList with
    | none => none
    | some anc => guardK all o st
      (fun st => stepK E o.op st (base0 + 32 * i) fun v us =>
        match (⟨i, anc, app (tmpsOf o.op.operands.toList) (gd all o), o.dst, tids (opv st.F) (hget st.H) o.op, upIds us⟩ : Eff) with
        | e => if okIds base0 i anc e.wr = true then (if apartAll e effs = true then adraw E all base0 r (i + 1) (e :: effs) ⟨putDst st.F o.dst v, hputs st.H us, st.pins⟩ K else none) else none)
      (fun st =>
        match (⟨i, anc, gd all o, o.dst, [], []⟩ : Eff) with
        | e => if apartAll e effs = true then adraw E all base0 r (i + 1) (e :: effs) ⟨putDst st.F o.dst (.c .undef), st.H, st.pins⟩ K else none)
where gd (all : List Oper) (o : Oper) : List Nat := match o.guard with
  | none => []
  | some (j, _) => one? (dstOf all j)

/-! ### 11. What is kept at the head of a loop -/
def allBox (look : Nat → Obj) : List Nat → Bool
  | [] => true
  | i :: r => match look i with
    | .box _ _ => allBox look r
    | _ => false
def subL : List Nat → List Nat → Bool
  | [], _ => true
  | n :: r, s => if nmem n s = true then subL r s else false
def cleanC (look : Nat → Obj) (c : Cv) : Cv :=
  match c with
  | .own id gen => match look id with
    | .row _ _ g _ _ _ _ => if g = gen then c else .junk
    | _ => .junk
  | .part id gen _ _ => match look id with
    | .row _ _ g _ _ _ _ => if g = gen then c else .junk
    | _ => .junk
  | .tail _ _ _ _ => .junk
  | .ptr id gen _ _ => match look id with
    | .row _ _ g _ _ _ _ => if g = gen then c else .junk
    | .box _ _ => if gen = 0 then c else .junk
    | _ => .junk
  | .nest id gen md _ _ => match look id with
    | .row _ _ g m _ _ _ => if g = gen then (if m = md then c else .junk) else .junk
    | _ => .junk
  | .nptr id gen md _ _ _ _ => match look id with
    | .row _ _ g m _ _ _ => if g = gen then (if m = md then c else .junk) else .junk
    | _ => .junk
  | .fn _ ids => if allBox look ids = true then c else .junk
  | c => c

def cleanCs (look : Nat → Obj) : List Cv → List Cv
  | [] => []
  | c :: r => cleanC look c :: cleanCs look r

def cleanVs (look : Nat → Obj) : List (Bool × List Cv) → List (Bool × List Cv)
  | [] => []
  | (a, cs) :: r => (a, cleanCs look cs) :: cleanVs look r

def cleanV (look : Nat → Obj) : LV → LV
  | .v a cs => .v a (cleanCs look cs)
  | .tup vs => .tup (cleanVs look vs)

def keepF (look : Nat → Obj) (ks : List Nat) : Nat → List LV → List LV
  | _, [] => []
  | i, v :: r => (if nmem i ks = true then cleanV look v else .c .junk) :: keepF look ks (i + 1) r

def frefs : List LV → List Nat
  | [] => []
  | v :: r => app v.refs (frefs r)

def addIds : List Nat → List Nat → List Nat
  | seen, [] => seen
  | seen, n :: r => if nmem n seen = true then addIds seen r else addIds (app seen [n]) r

def boxRefs (look : Nat → Obj) : List Nat → List Nat
  | [] => []
  | i :: r => match look i with
    | .box _ cs => app (crefs (cleanCs look cs)) (boxRefs look r)
    | _ => boxRefs look r

def reach (look : Nat → Obj) : Nat → List Nat → List Nat
  | 0, seen => seen
  | n + 1, seen => reach look n (addIds seen (boxRefs look seen))

def posOf : List Nat → Nat → Nat
  | [], _ => 0
  | m :: r, n => if m = n then 0 else posOf r n + 1

def usesC (id : Nat) : List Cv → List Cv
  | [] => []
  | c :: r => if nmem id c.refs = true then c :: usesC id r else usesC id r

def usesVs (id : Nat) : List (Bool × List Cv) → List Cv
  | [] => []
  | (_, cs) :: r => app (usesC id cs) (usesVs id r)

def usesF (id : Nat) : List LV → List Cv
  | [] => []
  | .v _ cs :: r => app (usesC id cs) (usesF id r)
  | .tup vs :: r => app (usesVs id vs) (usesF id r)

def usesB (look : Nat → Obj) (id : Nat) : List Nat → List Cv
  | [] => []
  | i :: r => match look i with
    | .box _ cs => app (usesC id (cleanCs look cs)) (usesB look id r)
    | _ => usesB look id r

/-- a row of which one part alone is in use -/
def trimOf : List Cv → Option (Nat × Nat)
  | [.part _ _ off len] => some (off, len)
  | _ => none

def renC (ord : List Nat) (trims : List Nat) : Cv → Cv
  | .own id _ => .own (posOf ord id) 0
  | .part id _ off len => if nmem id trims = true then .own (posOf ord id) 0 else .part (posOf ord id) 0 off len
  | .ptr id _ idx off => .ptr (posOf ord id) 0 idx off
  | .nest id _ _ idx off => .nest (posOf ord id) 0 0 idx off
  | .nptr id _ _ idx off a fo => .nptr (posOf ord id) 0 0 idx off a fo
  | .fn g ids => .fn g (posL ids)
  | c => c
where posL : List Nat → List Nat
  | [] => []
  | i :: r => posOf ord i :: posL r

def renCs (ord trims : List Nat) : List Cv → List Cv
  | [] => []
  | c :: r => renC ord trims c :: renCs ord trims r

def renVs (ord trims : List Nat) : List (Bool × List Cv) → List (Bool × List Cv)
  | [] => []
  | (a, cs) :: r => (a, renCs ord trims cs) :: renVs ord trims r

def renF (ord trims : List Nat) : List LV → List LV
  | [] => []
  | .v a cs :: r => .v a (renCs ord trims cs) :: renF ord trims r
  | .tup vs :: r => .tup (renVs ord trims vs) :: renF ord trims r

def renO (look : Nat → Obj) (ord trims : List Nat) (us : Nat → List Cv) (id : Nat) : Obj :=
  match look id with
  | .box T cs => .box T (renCs ord trims (cleanCs look cs))
  | .row e t _ _ _ lent xs => match trimOf (us id) with
    | some (off, len) => .row e t 0 0 none lent ((xs.drop off).take len)
    | none => .row e t 0 0 none lent xs
  | o => o

def trimIds (look : Nat → Obj) (us : Nat → List Cv) : List Nat → List Nat
  | [] => []
  | i :: r => match look i with
    | .row _ _ _ _ _ none _ => match trimOf (us i) with
      | some _ => i :: trimIds look us r
      | none => trimIds look us r
    | _ => trimIds look us r

def renH (look : Nat → Obj) (ord trims : List Nat) (us : Nat → List Cv) : List Nat → List Obj
  | [] => []
  | i :: r => renO look ord trims us i :: renH look ord trims us r

def gcF (ks : List Nat) (st : St) : List LV := keepF (hget st.H) ks 0 st.F
def gcP (st : St) : List Cv := cleanCs (hget st.H) st.pins
def gcO (ks : List Nat) (st : St) : List Nat := reach (hget st.H) (llen st.H) (addIds (addIds [] (crefs (gcP st))) (frefs (gcF ks st)))
def gcU (P1 : List Cv) (F1 : List LV) (look : Nat → Obj) (ord : List Nat) (id : Nat) : List Cv := app (usesC id P1) (app (usesF id F1) (usesB look id ord))
def gcW (look : Nat → Obj) (P1 : List Cv) (F1 : List LV) (ord trims : List Nat) (st : St) : St :=
  if subL (boxRefs look ord) ord = true then ⟨renF ord trims F1, renH look ord trims (gcU P1 F1 look ord) ord, renCs ord trims P1⟩ else st
def gc (ks : List Nat) (st : St) : St :=
  match gcF ks st with
  | F1 => match gcP st with
    | P1 => match reach (hget st.H) (llen st.H) (addIds (addIds [] (crefs P1)) (frefs F1)) with
      | ord => match trimIds (hget st.H) (gcU P1 F1 (hget st.H) ord) ord with
        | trims => gcW (hget st.H) P1 F1 ord trims st

/-! ### 12. Code -/
inductive Ex where
  | normal
  | exit (id : Nat)
  | ret

def ckey : Code → Option Nat
  | .region id _ _ => some id
  | .seq a b => match ckey a with
    | some n => some n
    | none => ckey b
  | .cond _ a b => match ckey a with
    | some n => some n
    | none => ckey b
  | .block _ c => ckey c
  | .loop c => ckey c
  | _ => none

def seqK (nx : St → (Ex → St → Option R) → Option R) (K : Ex → St → Option R) : Ex → St → Option R := fun e st => match e with
  | .normal => nx st K
  | e => K e st

def blockK (id : Nat) (K : Ex → St → Option R) : Ex → St → Option R := fun e st => match e with
  | .exit i => if i = id then K .normal st else K (.exit i) st
  | e => K e st

def aloop (body : St → (Ex → St → Option R) → Option R) (canon : St → St) : Nat → St → (Ex → St → Option R) → Option R
  | 0, _, _ => none
  | m + 1, st, K => body st (seqK (fun s L => aloop body canon m (canon s) L) K)

def canonOf (E : Env) (f : FuncId) (c : Code) (st : St) : St :=
  match ckey c with
  | some k => match E.keep f k with
    | some ks => gc ks st
    | none => st
  | none => st

def acode (E : Env) (f : FuncId) (ic : FuncId → List LV → List Obj → (LV → List Obj → Option R) → Option R) (lp : Bool) (n : Nat) : Code → St → (Ex → St → Option R) → Option R
  | .skip, st, K => K .normal st
  | .region _ ops draw, st, K =>
    if draw = true then adraw E ops.toList (llen st.H) ops.toList 0 [] st fun st => K .normal st
    else aops E f ic ops.toList ops.toList st fun st => K .normal st
  | .seq a b, st, K => acode E f ic lp n a st (seqK (acode E f ic lp n b) K)
  | .cond c a b, st, K => match opv st.F c with
    | .v false [.bool t] => if t = true then acode E f ic lp n a st K else acode E f ic lp n b st K
    | _ => none
  | .block id c, st, K => acode E f ic lp n c st (blockK id K)
  | .loop c, st, K => if lp = true then aloop (acode E f ic lp n c) (canonOf E f c) n (canonOf E f c st) K else none
  | .exit id, st, K => K (.exit id) st
  | .ret, st, K => K .ret st
  | _, _, _ => none

def kont (E : Env) (f : FuncId) (ic : FuncId → List LV → List Obj → (LV → List Obj → Option R) → Option R) (n : Nat) : Code → List Nat → List Nat → (Ex → St → Option R) → (Ex → St → Option R)
  | .seq a b, 0 :: p, ms, K => kont E f ic n a p ms (seqK (acode E f ic true n b) K)
  | .seq _ b, _ :: p, ms, K => kont E f ic n b p ms K
  | .cond _ a _, 0 :: p, ms, K => kont E f ic n a p ms K
  | .cond _ _ b, _ :: p, ms, K => kont E f ic n b p ms K
  | .block id c, _ :: p, ms, K => kont E f ic n c p ms (blockK id K)
  | .loop c, _ :: p, m :: ms, K => kont E f ic n c p ms (seqK (fun s L => aloop (acode E f ic true n c) (canonOf E f c) m (canonOf E f c s) L) K)
  | _, _, _, K => K

def subAt : Code → List Nat → Code
  | c, [] => c
  | .seq a _, 0 :: p => subAt a p
  | .seq _ b, _ :: p => subAt b p
  | .cond _ a _, 0 :: p => subAt a p
  | .cond _ _ b, _ :: p => subAt b p
  | .block _ c, _ :: p => subAt c p
  | .loop c, _ :: p => subAt c p
  | c, _ => c

/-! ### 13. Functions -/
def junks : Nat → List LV
  | 0 => []
  | n + 1 => .c .junk :: junks n

def resV (st : St) : ResultVar → Option (List Obj → TT → Option LV)
  | .tmp t => some fun _ _ => some (fget st.F t)
  | .cell a T => some fun H tt => match fget st.F a, tt.shape T with
    | .v false [c], some t => loadC (hget H) t c
    | _, _ => none

def resVs (tt : TT) (st : St) : List ResultVar → Option (List LV)
  | [] => some []
  | r :: rs => match resV st r, resVs tt st rs with
    | some g, some l => match g st.H tt with
      | some v => some (v :: l)
      | none => none
    | _, _ => none

def pairs : List LV → Option (List (Bool × List Cv))
  | [] => some []
  | .v a cs :: r => match pairs r with
    | some l => some ((a, cs) :: l)
    | none => none
  | _ => none

def unps : List (Bool × List Cv) → List LV
  | [] => []
  | (a, cs) :: r => .v a cs :: unps r
end

section
variable {R : Type}

def irun (E : Env) (f : FuncId) (ic : FuncId → List LV → List Obj → (LV → List Obj → Option R) → Option R) (as : List LV) (H : List Obj) (K : LV → List Obj → Option R) : Option R :=
  match E.body f with
  | some fn => match fn.body with
    | some c => acode E f ic false 0 c ⟨app as (junks (fn.ntmps - llen as)), H, []⟩ fun e st => match e with
      | .exit _ => none
      | _ => match resVs E.tt st fn.results.toList with
        | some vs => match pairs vs with
          | some ps => K (ofVs ps) st.H
          | none => none
        | none => none
    | none => none
  | none => none

def icall (E : Env) : Nat → FuncId → List LV → List Obj → (LV → List Obj → Option R) → Option R
  | 0, _, _, _, _ => none
  | d + 1, g, as, H, K => irun E g (icall E d) as H K
end

/-- what came in, opened: the arguments, the objects, the pins -/
def openP : (p : PK) → p.D → Nat → LV × List (Nat × Obj) × List Cv
  | .val t, x, _ => (.v t.isAgg (exC t x), [], [])
  | .own t, x, b => (.v t.isAgg (opC t x b).1, (opC t x b).2, [])
  | .inout t, x, b => (.v t.isAgg (opC t x b).1, (opC t x b).2, (opC t x b).1)
  | .rptr t, x, _ => (.c (.eptr t x 0), [], [])
  | .fn t, x, _ => (.c (.efn x.1 t x.2), [], [])

def openPs : (ps : List PK) → Ins ps → Nat → List LV × List (Nat × Obj) × List Cv
  | [], _, _ => ([], [], [])
  | [p], x, b => ([(openP p x b).1], (openP p x b).2.1, (openP p x b).2.2)
  | p :: q :: r, x, b => ((openP p x.1 b).1 :: (openPs (q :: r) x.2 (b + 1 + p.ty.nsl)).1, app (openP p x.1 b).2.1 (openPs (q :: r) x.2 (b + 1 + p.ty.nsl)).2.1,
      app (openP p x.1 b).2.2 (openPs (q :: r) x.2 (b + 1 + p.ty.nsl)).2.2)

/-- the results, handed over -/
def takeRs (look : Nat → Obj) : (ts : List Ty) → List LV → Option (Prods ts × List Nat)
  | [], [] => some ((), [])
  | [t], [.v ag cs] => if ag = t.isAgg then (match tkC look t cs with
    | some (x, [], ids) => some (x, ids)
    | _ => none) else none
  | t :: u :: r, .v ag cs :: ls => if ag = t.isAgg then (match tkC look t cs with
    | some (x, [], ids) => match takeRs look (u :: r) ls with
      | some (y, js) => some ((x, y), app ids js)
      | none => none
    | _ => none) else none
  | _, _ => none

/-- what is given back -/
def takeGs (look : Nat → Obj) : (ts : List Ty) → List Cv → Option (Prods ts × List Nat)
  | [], [] => some ((), [])
  | [t], cs => match ioC look t cs with
    | some (x, [], ids) => some (x, ids)
    | _ => none
  | t :: u :: r, cs => match ioC look t cs with
    | some (x, cs', ids) => match takeGs look (u :: r) cs' with
      | some (y, js) => some ((x, y), app ids js)
      | none => none
    | none => none
  | _, _ => none

structure Cfg where
  tt : TT
  sg : FuncId → Sig
  body : FuncId → Option Func
  inl : FuncId → FuncId → Bool
  keep : FuncId → Nat → Option (List Nat)
  prim : (f : FuncId) → Option (Ins (sg f).ps → Option (sg f).Out)

def finK (C : Cfg) (f : FuncId) (fn : Func) : Ex → St → Option (C.sg f).Out := fun e st => match e with
  | .exit _ => none
  | _ => match resVs C.tt st fn.results.toList with
    | some vs => match takeRs (hget st.H) (C.sg f).rs vs with
      | some (x, ids) => match takeGs (hget st.H) (gives (C.sg f).ps) st.pins with
        | some (y, js) => if ndup (app ids js) = true then some (mkOut (C.sg f).rs (gives (C.sg f).ps) x y) else none
        | none => none
      | none => none
    | none => none

def envOf (C : Cfg) (call : (f : FuncId) → Ins (C.sg f).ps → Option (C.sg f).Out) : Env := ⟨C.tt, C.sg, call, C.body, C.inl, C.keep⟩

def initSt (C : Cfg) (f : FuncId) (fn : Func) (x : Ins (C.sg f).ps) : St :=
  ⟨app (openPs (C.sg f).ps x 0).1 (junks (fn.ntmps - llen (openPs (C.sg f).ps x 0).1)), hputs [] (openPs (C.sg f).ps x 0).2.1, (openPs (C.sg f).ps x 0).2.2⟩

def evF (C : Cfg) : Nat → (f : FuncId) → Ins (C.sg f).ps → Option (C.sg f).Out
  | 0, _, _ => none
  | k + 1, f, x =>
    match C.prim f with
    | some g => g x
    | none => match C.body f with
      | some fn => match fn.body with
        | some c => acode (envOf C (evF C k)) f (icall (envOf C (evF C k)) 4) true k c (initSt C f fn x) (finK C f fn)
        | none => none
      | none => none

def loopBody : Code → Code
  | .loop c => c
  | c => c

/-- a loop, by its path, with how many rounds those around it have left -/
def loopAt (C : Cfg) (k : Nat) (f : FuncId) (path ms : List Nat) (m : Nat) (st : St) : Option (C.sg f).Out :=
  match C.body f with
  | some fn => match fn.body with
    | some c => aloop (acode (envOf C (evF C k)) f (icall (envOf C (evF C k)) 4) true k (loopBody (subAt c path))) (canonOf (envOf C (evF C k)) f (loopBody (subAt c path))) m st
        (kont (envOf C (evF C k)) f (icall (envOf C (evF C k)) 4) k c path ms (finK C f fn))
    | none => none
  | none => none
end Go.Proofs.Ytgnnljpdcafdkaa.Ev

/- Tables of types, functions, bodies. Definitions only. -/
namespace Go.Proofs.Ytgnnljpdcafdkaa.Ev
open Go

structure Tables where
  shapes : List (Nat × Ty)
  bytess : List (Nat × Nat)
  elems : List (Nat × Nat)
  fieldss : List (Nat × List (Nat × Ty))
  cmps : List (Nat × Unit)
  ptrTs : List (Nat × Unit)

def assoc {α : Type} : List (Nat × α) → Nat → Option α
  | [], _ => none
  | (m, x) :: r, n => if m = n then some x else assoc r n
def nth? {α : Type} : List α → Nat → Option α
  | [], _ => none
  | x :: r, n => match n with
    | 0 => some x
    | n + 1 => nth? r n
def Tables.tt (X : Tables) : TT := ⟨assoc X.shapes, fun T => (assoc X.bytess T).getD 0, assoc X.elems, fun T f => match assoc X.fieldss T with
  | some l => nth? l f
  | none => none, fun T => (assoc X.cmps T).isSome, fun T => (assoc X.ptrTs T).isSome⟩

def hasP : List (Nat × Nat) → Nat → Nat → Bool
  | [], _, _ => false
  | (a, b) :: r, m, n => if a = m then (if b = n then true else hasP r m n) else hasP r m n
def keepOf (l : List (Nat × List (Nat × List Nat))) (f k : Nat) : Option (List Nat) :=
  match assoc l f with
  | some l => assoc l k
  | none => none
end Go.Proofs.Ytgnnljpdcafdkaa.Ev

/- What an operation comes to does not hang on what goes on behind it. -/
namespace Go.Proofs.Ytgnnljpdcafdkaa.Ev
open Go
section
variable {R : Type}

theorem binInt_nat (op : BinOp) (k : IntKind) (a b : Int) (K : Cv → Option R) : binInt op k a b K = (binInt op k a b some).bind K := by
  cases op <;> simp only [binInt] <;> (try split) <;> simp
theorem binStr_nat (op : BinOp) (a b : ByteArray) (K : Cv → Option R) : binStr op a b K = (binStr op a b some).bind K := by
  cases op <;> simp only [binStr] <;> (try split) <;> simp
theorem binK_nat (bk : Bk) (op : BinOp) (x y : LV) (K : Cv → Option R) : binK bk op x y K = (binK bk op x y some).bind K := by
  unfold binK
  repeat' split
  all_goals first | rfl | exact binInt_nat .. | exact binStr_nat .. | simp_all
theorem pickK_nat (c a b : LV) (K : LV → Option R) : pickK c a b K = (pickK c a b some).bind K := by
  unfold pickK
  repeat' split
  all_goals first | rfl | simp_all
theorem unK_nat (op : UnOp) (x : LV) (K : Cv → Option R) : unK op x K = (unK op x some).bind K := by
  unfold unK
  repeat' split
  all_goals first | rfl | simp_all
theorem storeK_nat (look : Nat → Obj) (t : Ty) (c : Cv) (v : LV) (K : List (Nat × Obj) → Option R) : storeK look t c v K = (storeK look t c v some).bind K := by
  unfold storeK
  repeat' split
  all_goals first | rfl | simp_all
theorem idxK_nat (n : Nat) (look : Nat → Obj) (x : Cv) (i : Int) (K : Cv → Option R) : idxK n look x i K = (idxK n look x i some).bind K := by
  unfold idxK
  repeat' split
  all_goals first | rfl | simp_all
theorem lenK_nat (look : Nat → Obj) (x : Cv) (K : Cv → Option R) : lenK look x K = (lenK look x some).bind K := by
  unfold lenK
  repeat' split
  all_goals first | rfl | simp_all
theorem bndK_nat (n : Nat) (lo hi : Option Int) (K : Nat → Nat → Option R) : bndK n lo hi K = (bndK n lo hi fun l h => some (l, h)).bind fun p => K p.1 p.2 := by
  unfold bndK
  repeat' split
  all_goals first | rfl | simp_all
theorem sliceS_nat (s : ByteArray) (lo hi : Option Int) (K : Cv → Option R) : sliceS s lo hi K = (sliceS s lo hi some).bind K := by
  unfold sliceS
  repeat' split
  all_goals first | rfl | (rw [bndK_nat]; conv => rhs; rw [bndK_nat]
                           rw [Option.bind_assoc]; rfl) | simp_all
theorem sliceK_nat (n : Nat) (look : Nat → Obj) (x : Cv) (lo hi : Option Int) (K : Cv → Option R) : sliceK n look x lo hi K = (sliceK n look x lo hi some).bind K := by
  unfold sliceK
  repeat' split
  all_goals first | rfl | (rw [bndK_nat]; conv => rhs; rw [bndK_nat]
                           rw [Option.bind_assoc]; rfl) | simp_all
theorem appendK_nat (tt : TT) (look : Nat → Obj) (base : Nat) (e : TypeId) (t : Ty) (x : Cv) (ys : List t.D) (ids : List Nat) (K : Cv → List (Nat × Obj) → Option R) :
    appendK tt look base e t x ys ids K = (appendK tt look base e t x ys ids fun c us => some (c, us)).bind fun p => K p.1 p.2 := by
  unfold appendK
  repeat' split
  all_goals first | rfl | simp_all
theorem callK_nat (E : Env) (look : Nat → Obj) (base : Nat) (f : FuncId) (as : List LV) (K : LV → List (Nat × Obj) → Option R) :
    callK E look base f as K = (callK E look base f as fun c us => some (c, us)).bind fun p => K p.1 p.2 := by
  unfold callK
  repeat' split
  all_goals first | rfl | simp_all
theorem builtinK_nat (E : Env) (look : Nat → Obj) (base : Nat) (b : Builtin) (ts : List TypeId) (as : List LV) (K : LV → List (Nat × Obj) → Option R) :
    builtinK E look base b ts as K = (builtinK E look base b ts as fun c us => some (c, us)).bind fun p => K p.1 p.2 := by
  unfold builtinK
  repeat' split
  all_goals first
    | rfl
    | (rw [lenK_nat (K := fun c => K (.c c) []), lenK_nat (K := fun c => some (LV.c c, []))]; simp only [Option.bind_assoc, Option.bind_some]; done)
    | (rw [appendK_nat (K := fun c us => K (.c c) us), appendK_nat (K := fun c us => some (LV.c c, us))]; simp only [Option.bind_assoc, Option.bind_some]; done)
    | simp_all
theorem slice3_nat (n : Nat) (look : Nat → Obj) (c : Cv) (l : Option Int) (h m : Int) (X : Option R) :
    (sliceK n look c none (some m) fun _ => sliceK n look c none (some h) fun _ => sliceK n look c l (some h) fun _ => X) =
    (sliceK n look c none (some m) some).bind fun _ => (sliceK n look c none (some h) some).bind fun _ => (sliceK n look c l (some h) some).bind fun _ => X := by
  rw [sliceK_nat (K := fun _ => sliceK n look c none (some h) fun _ => sliceK n look c l (some h) fun _ => X)]
  rw [sliceK_nat (K := fun _ => sliceK n look c l (some h) fun _ => X)]
  rw [sliceK_nat (K := fun _ => X)]
theorem aopK_nat (E : Env) (look : Nat → Obj) (base : Nat) (lv : Operand → LV) (o : Op) (K : LV → List (Nat × Obj) → Option R) :
    aopK E look base lv o K = (aopK E look base lv o fun c us => some (c, us)).bind fun p => K p.1 p.2 := by
  cases o <;> simp only [aopK]
  all_goals repeat' split
  all_goals first
    | rfl
    | exact callK_nat ..
    | exact builtinK_nat ..
    | (rw [pickK_nat (K := fun v => K v []), pickK_nat (K := fun v => some (v, []))]; simp only [Option.bind_assoc, Option.bind_some]; done)
    | (rw [storeK_nat (K := fun us => K (.c .undef) us), storeK_nat (K := fun us => some (LV.c .undef, us))]; simp only [Option.bind_assoc, Option.bind_some]; done)
    | (rw [binK_nat (K := fun c => K (.c c) []), binK_nat (K := fun c => some (LV.c c, []))]; simp only [Option.bind_assoc, Option.bind_some]; done)
    | (rw [unK_nat (K := fun c => K (.c c) []), unK_nat (K := fun c => some (LV.c c, []))]; simp only [Option.bind_assoc, Option.bind_some]; done)
    | (rw [idxK_nat (K := fun c => K (.c c) []), idxK_nat (K := fun c => some (LV.c c, []))]; simp only [Option.bind_assoc, Option.bind_some]; done)
    | (rw [sliceS_nat (K := fun c => K (.c c) []), sliceS_nat (K := fun c => some (LV.c c, []))]; simp only [Option.bind_assoc, Option.bind_some]; done)
    | (rw [sliceK_nat (K := fun c => K (.c c) []), sliceK_nat (K := fun c => some (LV.c c, []))]; simp only [Option.bind_assoc, Option.bind_some]; done)
    | (rw [slice3_nat, slice3_nat]; simp only [Option.bind_assoc, Option.bind_some, Option.bind_none]; done)
    | (simp_all; done)
end
end Go.Proofs.Ytgnnljpdcafdkaa.Ev

/- How the evaluator's values stand in the machine's memory. Definitions, and what follows at once. -/
namespace Go.Proofs.Ytgnnljpdcafdkaa.Ev
open Go

/-- what of a world stays: all blocks that were there and are not in O -/
structure Keeps (O : Nat → Prop) (w w' : World) : Prop where
  os : w'.os = w.os
  tape : w'.tape = w.tape
  output : w'.output = w.output
  size : w.heap.size ≤ w'.heap.size
  block : ∀ b, b < w.heap.size → ¬ O b → w'.heap[b]? = w.heap[b]?
  rows : ∀ (b : Nat) (e : TypeId) (cur : Array Value), w.heap[b]? = some (.cells cur e (0, 0)) → ∃ cur' : Array Value, w'.heap[b]? = some (.cells cur' e (0, 0)) ∧ cur'.size = cur.size

theorem Keeps.refl (O : Nat → Prop) (w : World) : Keeps O w w := ⟨rfl, rfl, rfl, Nat.le_refl _, fun _ _ _ => rfl, fun _ _ cur h => ⟨cur, h, rfl⟩⟩

abbrev Frn := (e : TypeId) → (t : Ty) → List t.D → Value → Prop

/-- a slice that is read: each block that it touches is one of ok -/
def RdS1 {α : Type} (ok : Nat → Prop) (W : World) (P : α → List Value → Prop) (sz : Nat) (xs : List α) (u : Value) : Prop :=
  ∃ (A : Option Addr) (c : Nat), u = .slice A xs.length c ∧ xs.length ≤ c ∧ c ≤ 9223372036854775807 ∧
    (0 < xs.length → ∃ ad, A = some ad ∧ ok ad.block ∧ ∀ (j : Nat) (x : α), xs[j]? = some x →
      ∃ cs, cs.length = sz ∧ P x cs ∧ ∀ (i : Nat) v, cs[i]? = some v → W.cell? (ad.add (j * sz + i)) = some v)

def RdC (Fr : Frn) (ok : Nat → Prop) (W : World) : (t : Ty) → t.D → List Value → Prop
  | .int k, n, cs => cs = [.int k n]
  | .bool, b, cs => cs = [.bool b]
  | .str, s, cs => cs = [.string s]
  | .unit, _, cs => cs = []
  | .pair a b, x, cs => ∃ c1 c2, cs = c1 ++ c2 ∧ RdC Fr ok W a x.1 c1 ∧ RdC Fr ok W b x.2 c2
  | .st t, x, cs => RdC Fr ok W t x cs
  | .slice _ t, xs, cs => ∃ u, cs = [u] ∧ RdS1 ok W (RdC Fr ok W t) t.sz xs u
  | .rs e t, xs, cs => ∃ u, cs = [u] ∧ Fr e t xs u
  | .bx _ _, _, cs => ∃ u, cs = [u]

/-- the elements of a row, and the blocks that they lead to -/
def OwE {α : Type} (P : α → List Value → List Nat → Prop) (sz : Nat) : List α → List Value → List Nat → Prop
  | [], _, bs => bs = []
  | x :: r, cs, bs => ∃ b1 b2, bs = b1 ++ b2 ∧ P x (cs.take sz) b1 ∧ OwE P sz r (cs.drop sz) b2

/-- what is handed over: the cells, and all blocks behind them -/
def OwT (Fr : Frn) (w : World) : (t : Ty) → t.D → List Value → List Nat → Prop
  | .int k, n, cs, bs => cs = [.int k n] ∧ bs = []
  | .bool, b, cs, bs => cs = [.bool b] ∧ bs = []
  | .str, s, cs, bs => cs = [.string s] ∧ bs = []
  | .unit, _, cs, bs => cs = [] ∧ bs = []
  | .pair a b, x, cs, bs => ∃ c1 c2 b1 b2, cs = c1 ++ c2 ∧ bs = b1 ++ b2 ∧ OwT Fr w a x.1 c1 b1 ∧ OwT Fr w b x.2 c2 b2
  | .st t, x, cs, bs => OwT Fr w t x cs bs
  | .slice e t, xs, cs, bs =>
    (cs = [.slice none 0 0] ∧ xs = [] ∧ bs = []) ∨
    ∃ (b o c : Nat) (cur : Array Value) (b2 : List Nat), cs = [.slice (some ⟨b, o, none⟩) xs.length c] ∧ xs.length ≤ c ∧ c ≤ 9223372036854775807 ∧ w.heap[b]? = some (.cells cur e (0, 0)) ∧
      o + c * t.sz ≤ cur.size ∧ bs = b :: b2 ∧ OwE (OwT Fr w t) t.sz xs (cur.toList.drop o) b2
  | .rs e t, xs, cs, bs => ∃ u, cs = [u] ∧ Fr e t xs u ∧ bs = []
  | .bx T t, x, cs, bs => ∃ (b : Nat) (cur : Array Value) (b2 : List Nat), cs = [.pointer (some ⟨b, 0, none⟩)] ∧ w.heap[b]? = some (.cells cur T (0, 0)) ∧ bs = b :: b2 ∧ OwT Fr w t x cur.toList b2

/-- where an object lies -/
structure Place where
  blk : Option Nat
  base : Nat
  sz : Nat
  len : Nat
  lim : Nat
  room : Nat

structure Gh where
  φ : Nat → Nat → Option Place
  ν : Nat → Nat → Nat → Nat → Nat → Option (Value × Nat)

structure Le (G G' : Gh) : Prop where
  φ : ∀ id g p, G.φ id g = some p → G'.φ id g = some p
  ν : ∀ id g m i o x, G.ν id g m i o = some x → G'.ν id g m i o = some x

theorem Le.refl (G : Gh) : Le G G := ⟨fun _ _ _ h => h, fun _ _ _ _ _ _ h => h⟩
theorem Le.trans {a b c : Gh} (h : Le a b) (k : Le b c) : Le a c := ⟨fun id g p x => k.φ id g p (h.φ id g p x), fun id g m i o x y => k.ν id g m i o x (h.ν id g m i o x y)⟩

/-- what stands for the whole of a call -/
structure Sta where
  w0 : World
  O : Nat → Prop
  Fr : Frn

def Sta.ok (S : Sta) (b : Nat) : Prop := b < S.w0.heap.size ∧ ¬ S.O b

def Sta.FrOk (S : Sta) : Prop := ∀ e t xs u, S.Fr e t xs u → RdS1 S.ok S.w0 (RdC S.Fr S.ok S.w0 t) t.sz xs u

/-- a slice over a place: from element off on, len of them -/
def SlOf (p : Place) (off len : Nat) (u : Value) : Prop :=
  match p.blk with
  | none => u = .slice none 0 0 ∧ len = 0
  | some b => ∃ o c, u = .slice (some ⟨b, o, none⟩) len c ∧ len ≤ c ∧ c ≤ 9223372036854775807 ∧ o + c * p.sz ≤ p.lim ∧ (0 < c → o = p.base + off * p.sz)

/-- a part of a row, and how far it may grow -/
def PartOf (p : Place) (off len : Nat) (u : Value) : Prop := SlOf p off len u ∧ ∃ A l c, u = .slice A l c ∧ p.room ≤ off + c
/-- the whole of a row -/
def OwnOf (p : Place) (u : Value) : Prop := PartOf p 0 p.len u

def PtrOf (p : Option Place) (idx off : Nat) (u : Value) : Prop :=
  ∃ q b, p = some q ∧ q.blk = some b ∧ idx < q.len ∧ u = .pointer (some ⟨b, q.base + idx * q.sz + off, none⟩)

def EptrOf (S : Sta) (t : Ty) (x : t.D) (off : Nat) (u : Value) : Prop :=
  ∃ (ad : Addr) (cs : List Value), S.ok ad.block ∧ cs.length = t.sz ∧ RdC S.Fr S.ok S.w0 t x cs ∧ (∀ (i : Nat) v, cs[i]? = some v → S.w0.cell? (ad.add i) = some v) ∧ u = .pointer (some (ad.add off))

def CapsOk (G : Gh) : List Nat → List Value → Prop
  | [], [] => True
  | i :: r, v :: vs => PtrOf (G.φ i 0) 0 0 v ∧ CapsOk G r vs
  | _, _ => False

def VC (S : Sta) (G : Gh) : Cv → Value → Prop
  | .junk, _ => True
  | .undef, u => u = undef
  | .int k n, u => u = .int k n
  | .bool b, u => u = .bool b
  | .str s, u => u = .string s
  | .nil, u => u = .slice none 0 0
  | .nilp, u => u = .pointer none
  | .ext _ t xs, u => RdS1 S.ok S.w0 (RdC S.Fr S.ok S.w0 t) t.sz xs u
  | .rxt e t xs, u => S.Fr e t xs u
  | .own id gen, u => ∃ p, G.φ id gen = some p ∧ OwnOf p u
  | .part id gen off len, u => ∃ p, G.φ id gen = some p ∧ off + len ≤ p.len ∧ PartOf p off len u
  | .tail id gen off len, u => ∃ p, G.φ id gen = some p ∧ SlOf p off len u
  | .ptr id gen idx off, u => PtrOf (G.φ id gen) idx off u
  | .eptr t x off, u => EptrOf S t x off u
  | .fn g caps, u => ∃ vs : List Value, u = .func (.func g) #[] vs.toArray ∧ CapsOk G caps vs
  | .efn g t x, u => (t = .unit ∧ u = .func (.func g) #[] #[]) ∨ (t ≠ .unit ∧ ∃ pv, u = .func (.func g) #[] #[pv] ∧ EptrOf S t x 0 pv)
  | .nest id gen md idx off, u => ∃ n p, G.ν id gen md idx off = some (u, n) ∧ (∃ A l c, u = .slice A l c) ∧ G.φ id gen = some p ∧ idx < p.len
  | .nptr id gen md idx off a fo, u => ∃ ad len c n p, G.ν id gen md idx off = some (.slice (some ad) len c, n) ∧ a < len ∧ G.φ id gen = some p ∧ idx < p.len ∧ u = .pointer (some (ad.add (a * n + fo)))

def VL (S : Sta) (G : Gh) : List Cv → List Value → Prop
  | [], [] => True
  | c :: r, u :: us => VC S G c u ∧ VL S G r us
  | _, _ => False

def VA (S : Sta) (G : Gh) (ag : Bool) (cs : List Cv) (u : Value) : Prop :=
  match ag with
  | true => ∃ us : List Value, u = .agg us.toArray ∧ VL S G cs us
  | false => VL S G cs [u]

def VT (S : Sta) (G : Gh) : List (Bool × List Cv) → List Value → Prop
  | [], [] => True
  | c :: r, u :: us => VA S G c.1 c.2 u ∧ VT S G r us
  | _, _ => False

def VV (S : Sta) (G : Gh) : LV → Value → Prop
  | .v ag cs, u => VA S G ag cs u
  | .tup vs, u => ∃ us : List Value, u = .tuple us.toArray ∧ VT S G vs us

def VF (S : Sta) (G : Gh) : List LV → List Value → Prop
  | [], [] => True
  | v :: r, u :: us => VV S G v u ∧ VF S G r us
  | _, _ => False

/-- the headers of the nested rows of a row, as they stand -/
def NuOk (G : Gh) (id gen md : Nat) (t : Ty) (xs : List t.D) (cells : List Value) : Prop :=
  ∀ (j : Nat) (x : t.D) (o : Nat) (e' : TypeId) (t' : Ty) (ys : List t'.D), xs[j]? = some x → enth (toE t x) o = some (.sl e' t' ys) →
    ∃ v, cells[j * t.sz + o]? = some v ∧ G.ν id gen md j o = some (v, t'.sz)

def ObjS (S : Sta) (G : Gh) (own : Nat → Option Nat) (w : World) (id : Nat) : Obj → Prop
  | .free => (∀ g, G.φ id g = none) ∧ ∀ g m i o, G.ν id g m i o = none
  | .dead => True
  | .box T cs => ∃ p b cur, G.φ id 0 = some p ∧ p.blk = some b ∧ p.base = 0 ∧ p.len = 1 ∧ p.sz = cs.length ∧ w.heap[b]? = some (.cells cur T (0, 0)) ∧ VL S G cs cur.toList ∧ own b = some id
  | .row e t gen md ex lent xs => lent = none ∧ (∀ g, gen < g → G.φ id g = none) ∧ (∀ g m, gen < g ∨ (g = gen ∧ md < m) → ∀ i o, G.ν id g m i o = none) ∧
    ∃ p, G.φ id gen = some p ∧ p.sz = t.sz ∧ p.len = xs.length ∧ xs.length + ex.getD 0 ≤ p.room ∧
      match p.blk with
      | none => xs = [] ∧ ex.getD 0 = 0
      | some b => ∃ (cur : Array Value) (bs : List Nat), w.heap[b]? = some (.cells cur e (0, 0)) ∧ cur.size = p.lim ∧ p.base + (xs.length + ex.getD 0) * t.sz ≤ p.lim ∧
          OwE (OwT S.Fr w t) t.sz xs (cur.toList.drop p.base) bs ∧ (b :: bs).Nodup ∧ (∀ x ∈ b :: bs, own x = some id) ∧ NuOk G id gen md t xs (cur.toList.drop p.base)

structure Hs (S : Sta) (G : Gh) (own : Nat → Option Nat) (H : List Obj) (w : World) : Prop where
  obj : ∀ id, ObjS S G own w id (hget H id)
  own : ∀ b id, own b = some id → b < w.heap.size ∧ (S.O b ∨ S.w0.heap.size ≤ b)

structure Sim (S : Sta) (G : Gh) (st : St) (pv : List Value) (a : Act) (w : World) : Prop where
  fr : VF S G st.F a.tmps.toList
  df : a.defers = []
  pins : VL S G st.pins pv
  kp : Keeps S.O S.w0 w
  hp : ∃ own, Hs S G own st.H w

/-! ### Growth -/
theorem PtrOf.le {G G' : Gh} (h : Le G G') {id g idx off : Nat} {u : Value} (k : PtrOf (G.φ id g) idx off u) : PtrOf (G'.φ id g) idx off u := by
  obtain ⟨q, b, h1, h2, h3, h4⟩ := k
  exact ⟨q, b, h.φ _ _ _ h1, h2, h3, h4⟩
theorem CapsOk.le {G G' : Gh} (h : Le G G') : ∀ {is : List Nat} {vs : List Value}, CapsOk G is vs → CapsOk G' is vs
  | [], [], _ => trivial
  | _ :: _, _ :: _, ⟨a, b⟩ => ⟨a.le h, CapsOk.le h b⟩
  | [], _ :: _, x => x.elim
  | _ :: _, [], x => x.elim
theorem VC.le {S : Sta} {G G' : Gh} (h : Le G G') {c : Cv} {u : Value} (k : VC S G c u) : VC S G' c u := by
  cases c with
  | own id gen => obtain ⟨p, h1, h2⟩ := k; exact ⟨p, h.φ _ _ _ h1, h2⟩
  | part id gen off len => obtain ⟨p, h1, h2⟩ := k; exact ⟨p, h.φ _ _ _ h1, h2⟩
  | tail id gen off len => obtain ⟨p, h1, h2⟩ := k; exact ⟨p, h.φ _ _ _ h1, h2⟩
  | ptr id gen idx off => exact PtrOf.le h k
  | fn g caps => obtain ⟨vs, h1, h2⟩ := k; exact ⟨vs, h1, h2.le h⟩
  | nest id gen md idx off => obtain ⟨n, p, h1, h2, h3, h4⟩ := k; exact ⟨n, p, h.ν _ _ _ _ _ _ h1, h2, h.φ _ _ _ h3, h4⟩
  | nptr id gen md idx off a fo => obtain ⟨ad, len, c, n, p, h1, h2, h3, h4, h5⟩ := k; exact ⟨ad, len, c, n, p, h.ν _ _ _ _ _ _ h1, h2, h.φ _ _ _ h3, h4, h5⟩
  | _ => exact k
theorem VL.le {S : Sta} {G G' : Gh} (h : Le G G') : ∀ {cs : List Cv} {us : List Value}, VL S G cs us → VL S G' cs us
  | [], [], _ => trivial
  | _ :: _, _ :: _, ⟨a, b⟩ => ⟨a.le h, VL.le h b⟩
  | [], _ :: _, x => x.elim
  | _ :: _, [], x => x.elim
theorem VA.le {S : Sta} {G G' : Gh} (h : Le G G') {ag : Bool} {cs : List Cv} {u : Value} (k : VA S G ag cs u) : VA S G' ag cs u := by
  cases ag with
  | true => obtain ⟨us, h1, h2⟩ := k; exact ⟨us, h1, h2.le h⟩
  | false => exact VL.le h k
theorem VT.le {S : Sta} {G G' : Gh} (h : Le G G') : ∀ {cs : List (Bool × List Cv)} {us : List Value}, VT S G cs us → VT S G' cs us
  | [], [], _ => trivial
  | _ :: _, _ :: _, ⟨a, b⟩ => ⟨a.le h, VT.le h b⟩
  | [], _ :: _, x => x.elim
  | _ :: _, [], x => x.elim
theorem VV.le {S : Sta} {G G' : Gh} (h : Le G G') {v : LV} {u : Value} (k : VV S G v u) : VV S G' v u := by
  cases v with
  | v ag cs => exact VA.le h k
  | tup vs => obtain ⟨us, h1, h2⟩ := k; exact ⟨us, h1, h2.le h⟩
theorem VF.le {S : Sta} {G G' : Gh} (h : Le G G') : ∀ {cs : List LV} {us : List Value}, VF S G cs us → VF S G' cs us
  | [], [], _ => trivial
  | _ :: _, _ :: _, ⟨a, b⟩ => ⟨a.le h, VF.le h b⟩
  | [], _ :: _, x => x.elim
  | _ :: _, [], x => x.elim

/-! ### Frames -/
theorem VV_junk (S : Sta) (G : Gh) (u : Value) : VV S G (.c .junk) u := ⟨trivial, trivial⟩
theorem VF.get {S : Sta} {G : Gh} : ∀ {F : List LV} {us : List Value} (n : Nat), VF S G F us → VV S G (fget F n) (us.getD n undef)
  | [], [], _, _ => VV_junk ..
  | v :: _, u :: _, 0, ⟨a, _⟩ => a
  | _ :: r, _ :: us, n + 1, ⟨_, b⟩ => by
    have := VF.get (F := r) (us := us) n b
    simpa [fget] using this
  | [], _ :: _, _, x => x.elim
  | _ :: _, [], _, x => x.elim
theorem VF.put {S : Sta} {G : Gh} {v : LV} {u : Value} (h : VV S G v u) : ∀ {F : List LV} {us : List Value} (n : Nat), VF S G F us → VF S G (fput F n v) (us.set n u)
  | [], [], _, _ => trivial
  | _ :: _, _ :: _, 0, ⟨_, b⟩ => ⟨h, b⟩
  | _ :: r, _ :: us, n + 1, ⟨a, b⟩ => ⟨a, VF.put h (F := r) (us := us) n b⟩
  | [], _ :: _, _, x => x.elim
  | _ :: _, [], _, x => x.elim
theorem VF.dst {S : Sta} {G : Gh} {F : List LV} {a : Act} {v : LV} {u : Value} (d : Option Nat) (h : VF S G F a.tmps.toList) (hv : VV S G v u) : VF S G (putDst F d v) (a.put d u).tmps.toList := by
  cases d with
  | none => exact h
  | some d => simpa [Act.put, putDst] using VF.put hv d h
theorem VV_const (S : Sta) (G : Gh) (v : Value) : VV S G (constLV v) v := by
  have hc : ∀ v, VC S G (constC v) v := by
    intro v
    unfold constC
    split <;> first | rfl | trivial
  have hcs : ∀ l, VL S G (constCs l) l := by
    intro l
    induction l with
    | nil => trivial
    | cons x r ih => exact ⟨hc x, ih⟩
  unfold constLV
  split
  · rename_i cs
    exact ⟨cs.toList, by simp, hcs _⟩
  · rename_i vs
    split
    · rename_i h
      refine ⟨[], ?_, trivial⟩
      have : vs = #[] := by simpa using h
      rw [this]
    · exact VV_junk ..
  · exact ⟨hc _, trivial⟩
theorem VF.eval {S : Sta} {G : Gh} {F : List LV} {a : Act} (h : VF S G F a.tmps.toList) (x : Operand) : VV S G (opv F x) (a.eval x) := by
  cases x with
  | tmp t => simpa [opv, Act.eval, Array.getD_eq_getD_getElem?, List.getD_eq_getElem?_getD] using h.get t
  | const v => exact VV_const S G v
  | func f => exact ⟨⟨[], rfl, trivial⟩, trivial⟩
  | global g => exact VV_junk ..
end Go.Proofs.Ytgnnljpdcafdkaa.Ev

/- What stays, and how one object of the local heap is turned. -/
namespace Go.Proofs.Ytgnnljpdcafdkaa.Ev
open Go

theorem hget_hput0 (o : Obj) : ∀ (n j : Nat), hget (hput0 o n) j = if n = j then o else .free
  | 0, 0 => rfl
  | 0, j + 1 => by simp [hput0, hget]
  | n + 1, 0 => by simp [hput0, hget]
  | n + 1, j + 1 => by
    have := hget_hput0 o n j
    simp only [hput0, hget, this, Nat.add_right_cancel_iff]
theorem hget_hput (o : Obj) : ∀ (H : List Obj) (n j : Nat), hget (hput H n o) j = if n = j then o else hget H j
  | [], n, j => by rw [hput, hget_hput0]; rfl
  | x :: r, 0, 0 => rfl
  | x :: r, 0, j + 1 => by simp [hput, hget]
  | x :: r, n + 1, 0 => by simp [hput, hget]
  | x :: r, n + 1, j + 1 => by
    have := hget_hput o r n j
    simp only [hput, hget, this, Nat.add_right_cancel_iff]
theorem hget_big : ∀ (H : List Obj) (n : Nat), llen H ≤ n → hget H n = .free
  | [], _, _ => rfl
  | x :: r, 0, h => by simp [llen] at h
  | x :: r, n + 1, h => by simp only [hget]; exact hget_big r n (by simp [llen] at h; omega)
theorem llen_eq {α : Type} (l : List α) : llen l = l.length := by induction l <;> simp_all [llen]
theorem app_eq {α : Type} (a b : List α) : app a b = a ++ b := by induction a <;> simp_all [app]
theorem nmem_iff (n : Nat) (l : List Nat) : nmem n l = true ↔ n ∈ l := by
  induction l with
  | nil => simp [nmem]
  | cons x r ih => simp only [nmem]; split <;> simp_all
theorem ndup_iff (l : List Nat) : ndup l = true ↔ l.Nodup := by
  induction l with
  | nil => simp [ndup]
  | cons x r ih =>
    simp only [ndup]
    split
    · rename_i h; rw [nmem_iff] at h; simp [h]
    · rename_i h; rw [nmem_iff] at h; simp [h, ih]
theorem disj_iff (l s : List Nat) : disj l s = true ↔ ∀ x ∈ l, x ∉ s := by
  induction l with
  | nil => simp [disj]
  | cons x r ih =>
    simp only [disj]
    split
    · rename_i h; rw [nmem_iff] at h; simp [h]
    · rename_i h; rw [nmem_iff] at h; simp [h, ih]
theorem rst_in {look : Nat → Obj} {ids : List Nat} {i : Nat} (h : i ∈ ids) : rst look ids i = look i := by simp [rst, (nmem_iff i ids).2 h]
theorem ctake_eq (n : Nat) (l : List Cv) : ctake n l = l.take n := by
  induction n generalizing l with
  | zero => simp [ctake]
  | succ n ih => cases l <;> simp [ctake, ih]
theorem cdrop_eq (n : Nat) (l : List Cv) : cdrop n l = l.drop n := by
  induction n generalizing l with
  | zero => simp [cdrop]
  | succ n ih => cases l <;> simp [cdrop, ih]
theorem etake_eq (n : Nat) (l : List Ec) : etake n l = l.take n := by
  induction n generalizing l with
  | zero => simp [etake]
  | succ n ih => cases l <;> simp [etake, ih]
theorem edrop_eq (n : Nat) (l : List Ec) : edrop n l = l.drop n := by
  induction n generalizing l with
  | zero => simp [edrop]
  | succ n ih => cases l <;> simp [edrop, ih]

/-! ### Worlds -/
theorem Keeps.trans {O : Nat → Prop} {a b c : World} (h : Keeps O a b) (k : Keeps O b c) : Keeps O a c :=
  ⟨k.os.trans h.os, k.tape.trans h.tape, k.output.trans h.output, Nat.le_trans h.size k.size, fun i hi ho => (k.block i (Nat.lt_of_lt_of_le hi h.size) ho).trans (h.block i hi ho),
    fun i e cur hi => by obtain ⟨c1, h1, h2⟩ := h.rows i e cur hi; obtain ⟨c2, h3, h4⟩ := k.rows i e c1 h1; exact ⟨c2, h3, h4.trans h2⟩⟩
theorem Keeps.mono {O O' : Nat → Prop} {a b : World} (h : Keeps O a b) (k : ∀ i, O i → O' i) : Keeps O' a b := ⟨h.os, h.tape, h.output, h.size, fun i hi ho => h.block i hi fun x => ho (k i x), h.rows⟩
/-- a step that turns only blocks that may be turned -/
theorem Keeps.step {O B : Nat → Prop} {w0 w w' : World} (h : Keeps O w0 w) (k : Keeps B w w') (hb : ∀ b, B b → O b ∨ w0.heap.size ≤ b) : Keeps O w0 w' :=
  ⟨k.os.trans h.os, k.tape.trans h.tape, k.output.trans h.output, Nat.le_trans h.size k.size, fun i hi ho => by
    refine (k.block i (Nat.lt_of_lt_of_le hi h.size) fun x => ?_).trans (h.block i hi ho)
    rcases hb i x with y | y
    · exact ho y
    · omega, fun i e cur hi => by obtain ⟨c1, h1, h2⟩ := h.rows i e cur hi; obtain ⟨c2, h3, h4⟩ := k.rows i e c1 h1; exact ⟨c2, h3, h4.trans h2⟩⟩
theorem Keeps.drew {O : Nat → Prop} {a b : World} (h : Keeps O a b) : Keeps O a b.drew := ⟨h.os, h.tape, h.output, h.size, h.block, h.rows⟩
theorem heap_alloc_new (w : World) (o : Go.Obj) : (w.alloc o).heap[w.heap.size]? = some o := by
  show (w.heap.push o)[w.heap.size]? = some o
  simp
theorem heap_alloc_old (w : World) (o : Go.Obj) {b : Nat} (h : b < w.heap.size) : (w.alloc o).heap[b]? = w.heap[b]? := by
  show (w.heap.push o)[b]? = w.heap[b]?
  rw [Array.getElem?_push, if_neg (by omega)]
theorem size_alloc (w : World) (o : Go.Obj) : (w.alloc o).heap.size = w.heap.size + 1 := by
  show (w.heap.push o).size = _
  simp
theorem Keeps.alloc {O : Nat → Prop} {a b : World} (h : Keeps O a b) (o : Go.Obj) : Keeps O a (b.alloc o) :=
  ⟨h.os, h.tape, h.output, by rw [size_alloc]; have := h.size; omega, fun i hi ho => by rw [heap_alloc_old b o (Nat.lt_of_lt_of_le hi h.size)]; exact h.block i hi ho, fun i e cur hi => by obtain ⟨c1, h1, h2⟩ := h.rows i e cur hi; exact ⟨c1, by rw [heap_alloc_old b o (Array.getElem?_eq_some_iff.1 h1).1]; exact h1, h2⟩⟩
theorem heap_lt {w : World} {b : Nat} {o : Go.Obj} (h : w.heap[b]? = some o) : b < w.heap.size := (Array.getElem?_eq_some_iff.1 h).1

theorem cell_keep {S : Sta} {w : World} (h : Keeps S.O S.w0 w) {a : Addr} (hb : S.ok a.block) : w.cell? a = S.w0.cell? a := by
  simp [World.cell?, h.block a.block hb.1 hb.2]
theorem add_block (a : Addr) (n : Nat) : (a.add n).block = a.block := by unfold Addr.add; split <;> rfl
theorem add_add (a : Addr) (m n : Nat) : (a.add m).add n = a.add (m + n) := by
  unfold Addr.add
  by_cases hm : m = 0
  · simp [hm]
  · by_cases hn : n = 0
    · simp [hn]
    · simp [hm, hn, Nat.add_assoc]
theorem add_none (b o n : Nat) : (⟨b, o, none⟩ : Addr).add n = ⟨b, o + n, none⟩ := by unfold Addr.add; split <;> simp_all
theorem cell_of {w : World} {b o : Nat} {cur : Array Value} {e : TypeId} {fr : Nat × Nat} (h : w.heap[b]? = some (.cells cur e fr)) : w.cell? ⟨b, o, none⟩ = cur.toList[o]? := by simp [World.cell?, h]

/-! ### What is handed over -/
theorem OwE.mono {α : Type} {P Q : α → List Value → List Nat → Prop} {sz : Nat} : ∀ {xs : List α} {cs : List Value} {bs : List Nat}, (∀ x cs b, (∀ i ∈ b, i ∈ bs) → P x cs b → Q x cs b) → OwE P sz xs cs bs → OwE Q sz xs cs bs
  | [], _, _, _, h => h
  | _ :: _, _, _, hPQ, ⟨b1, b2, hb, h1, h2⟩ => ⟨b1, b2, hb, hPQ _ _ _ (fun i hi => by rw [hb]; simp [hi]) h1, OwE.mono (fun x cs b hx => hPQ x cs b fun i hi => by rw [hb]; simp [hx i hi]) h2⟩
theorem OwT.stay {Fr : Frn} {w w' : World} : ∀ {t : Ty} {x : t.D} {cs : List Value} {bs : List Nat}, (∀ b ∈ bs, w'.heap[b]? = w.heap[b]?) → OwT Fr w t x cs bs → OwT Fr w' t x cs bs
  | .int _, _, _, _, _, h => h
  | .bool, _, _, _, _, h => h
  | .str, _, _, _, _, h => h
  | .unit, _, _, _, _, h => h
  | .pair a b, _, _, _, hb, ⟨c1, c2, b1, b2, e1, e2, h1, h2⟩ => ⟨c1, c2, b1, b2, e1, e2, OwT.stay (fun i hi => hb i (by rw [e2]; simp [hi])) h1, OwT.stay (fun i hi => hb i (by rw [e2]; simp [hi])) h2⟩
  | .st t, x, _, _, hb, h => OwT.stay (t := t) hb h
  | .slice e t, _, _, _, _, .inl h => .inl h
  | .slice e t, _, _, _, hb, .inr ⟨b, o, c, cur, b2, e1, h1, h2, h3, h4, e2, h5⟩ =>
    .inr ⟨b, o, c, cur, b2, e1, h1, h2, (hb b (by rw [e2]; simp)).trans h3, h4, e2, OwE.mono (fun x cs bs' hx hp => OwT.stay (fun i hi => hb i (by rw [e2]; simp [hx i hi])) hp) h5⟩
  | .rs _ _, _, _, _, _, h => h
  | .bx T t, _, _, _, hb, ⟨b, cur, b2, e1, h1, e2, h2⟩ => ⟨b, cur, b2, e1, (hb b (by rw [e2]; simp)).trans h1, e2, OwT.stay (t := t) (fun i hi => hb i (by rw [e2]; simp [hi])) h2⟩
theorem OwT.len {Fr : Frn} {w : World} : ∀ {t : Ty} {x : t.D} {cs : List Value} {bs : List Nat}, OwT Fr w t x cs bs → cs.length = t.sz
  | .int _, _, _, _, h => by rw [h.1]; rfl
  | .bool, _, _, _, h => by rw [h.1]; rfl
  | .str, _, _, _, h => by rw [h.1]; rfl
  | .unit, _, _, _, h => by rw [h.1]; rfl
  | .pair a b, _, _, _, ⟨c1, c2, b1, b2, e1, e2, h1, h2⟩ => by rw [e1, List.length_append, OwT.len h1, OwT.len h2]; rfl
  | .st t, x, _, _, h => OwT.len (t := t) h
  | .slice e t, _, _, _, .inl h => by rw [h.1]; rfl
  | .slice e t, _, _, _, .inr ⟨b, o, c, cur, b2, e1, _⟩ => by rw [e1]; rfl
  | .rs _ _, _, _, _, ⟨u, e1, _⟩ => by rw [e1]; rfl
  | .bx T t, _, _, _, ⟨b, cur, b2, e1, _⟩ => by rw [e1]; rfl
theorem OwT.lt {Fr : Frn} {w : World} : ∀ {t : Ty} {x : t.D} {cs : List Value} {bs : List Nat}, OwT Fr w t x cs bs → ∀ b ∈ bs, b < w.heap.size
  | .int _, _, _, _, h => by rw [h.2]; simp
  | .bool, _, _, _, h => by rw [h.2]; simp
  | .str, _, _, _, h => by rw [h.2]; simp
  | .unit, _, _, _, h => by rw [h.2]; simp
  | .pair a b, _, _, _, ⟨c1, c2, b1, b2, e1, e2, h1, h2⟩ => by
    intro i hi
    rw [e2] at hi
    rcases List.mem_append.1 hi with hi | hi
    · exact OwT.lt h1 i hi
    · exact OwT.lt h2 i hi
  | .st t, x, _, _, h => OwT.lt (t := t) h
  | .slice e t, _, _, _, .inl h => by rw [h.2.2]; simp
  | .slice e t, xs, _, _, .inr ⟨b, o, c, cur, b2, e1, h1, h2, h3, h4, e2, h5⟩ => by
    intro i hi
    rw [e2] at hi
    rcases List.mem_cons.1 hi with hi | hi
    · rw [hi]; exact heap_lt h3
    · have key : ∀ {xs : List t.D} {cs : List Value} {bs : List Nat}, OwE (OwT Fr w t) t.sz xs cs bs → ∀ i ∈ bs, i < w.heap.size := by
        intro xs
        induction xs with
        | nil => intro cs bs h i hi; rw [show bs = [] from h] at hi; simp at hi
        | cons x r ih =>
          rintro cs bs ⟨b1, b2, hb, k1, k2⟩ i hi
          rw [hb] at hi
          rcases List.mem_append.1 hi with hi | hi
          · exact OwT.lt k1 i hi
          · exact ih k2 i hi
      exact key h5 i hi
  | .rs _ _, _, _, _, ⟨u, e1, _, h⟩ => by rw [h]; simp
  | .bx T t, _, _, _, ⟨b, cur, b2, e1, h1, e2, h2⟩ => by
    intro i hi
    rw [e2] at hi
    rcases List.mem_cons.1 hi with hi | hi
    · rw [hi]; exact heap_lt h1
    · exact OwT.lt (t := t) h2 i hi
theorem OwE.stay {Fr : Frn} {w w' : World} {t : Ty} {xs : List t.D} {cs : List Value} {bs : List Nat} (hb : ∀ b ∈ bs, w'.heap[b]? = w.heap[b]?) (h : OwE (OwT Fr w t) t.sz xs cs bs) : OwE (OwT Fr w' t) t.sz xs cs bs :=
  OwE.mono (fun _ _ _ hx hp => OwT.stay (fun i hi => hb i (hx i hi)) hp) h

/-! ### One object of the local heap -/
structure Same (G G' : Gh) (id : Nat) : Prop where
  φ : ∀ g, G'.φ id g = G.φ id g
  ν : ∀ g m i o, G'.ν id g m i o = G.ν id g m i o

theorem NuOk.same {G G' : Gh} {id gen md : Nat} {t : Ty} {xs : List t.D} {cells : List Value} (hs : Same G G' id) (h : NuOk G id gen md t xs cells) : NuOk G' id gen md t xs cells :=
  fun j x o e' t' ys hx he => by obtain ⟨v, h1, h2⟩ := h j x o e' t' ys hx he; exact ⟨v, h1, by rw [hs.ν]; exact h2⟩

theorem ObjS.stay {S : Sta} {G G' : Gh} {own own' : Nat → Option Nat} {w w' : World} {id : Nat} {o : Obj} (hle : Le G G') (hs : Same G G' id) (hb : ∀ b, own b = some id → w'.heap[b]? = w.heap[b]?)
    (ho : ∀ b, own b = some id → own' b = some id) (h : ObjS S G own w id o) : ObjS S G' own' w' id o := by
  cases o with
  | free => exact ⟨fun g => by rw [hs.φ]; exact h.1 g, fun g m i o => by rw [hs.ν]; exact h.2 g m i o⟩
  | dead => trivial
  | box T cs =>
    obtain ⟨p, b, cur, h1, h2, h3, h4, h5, h6, h7, h8⟩ := h
    exact ⟨p, b, cur, by rw [hs.φ]; exact h1, h2, h3, h4, h5, (hb b h8).trans h6, h7.le hle, ho b h8⟩
  | row e t gen md ex lent xs =>
    obtain ⟨h1, h2, h3, p, h4, h5, h6, hr, h7⟩ := h
    refine ⟨h1, fun g hg => by rw [hs.φ]; exact h2 g hg, fun g m hg i o => by rw [hs.ν]; exact h3 g m hg i o, p, by rw [hs.φ]; exact h4, h5, h6, hr, ?_⟩
    revert h7
    cases p.blk with
    | none => exact fun x => x
    | some b =>
      rintro ⟨cur, bs, k1, k2, k3, k4, k5, k6, k7⟩
      exact ⟨cur, bs, (hb b (k6 b (by simp))).trans k1, k2, k3, k4.stay fun x hx => hb x (k6 x (by simp [hx])), k5, fun x hx => ho x (k6 x hx), k7.same hs⟩

theorem Hs.upd {S : Sta} {G G' : Gh} {own own' : Nat → Option Nat} {H : List Obj} {w w' : World} (h : Hs S G own H w) (id : Nat) (o : Obj) (hle : Le G G') (hs : ∀ j, j ≠ id → Same G G' j)
    (hb : ∀ b j, own b = some j → j ≠ id → w'.heap[b]? = w.heap[b]?) (ho : ∀ b j, own b = some j → j ≠ id → own' b = some j) (hobj : ObjS S G' own' w' id o)
    (hown : ∀ b j, own' b = some j → b < w'.heap.size ∧ (S.O b ∨ S.w0.heap.size ≤ b)) : Hs S G' own' (hput H id o) w' :=
  ⟨fun j => by
    rw [hget_hput]
    by_cases e : id = j
    · rw [if_pos e, ← e]; exact hobj
    · rw [if_neg e]; exact (h.obj j).stay hle (hs j (Ne.symm e)) (fun b hb' => hb b j hb' (Ne.symm e)) (fun b hb' => ho b j hb' (Ne.symm e)), hown⟩

theorem Same.refl (G : Gh) (id : Nat) : Same G G id := ⟨fun _ => rfl, fun _ _ _ _ => rfl⟩

theorem Hs.dead {S : Sta} {G : Gh} {own : Nat → Option Nat} {H : List Obj} {w : World} (h : Hs S G own H w) (id : Nat) : Hs S G own (hput H id .dead) w :=
  h.upd id .dead (Le.refl G) (fun _ _ => Same.refl ..) (fun _ _ _ _ => rfl) (fun _ _ x _ => x) trivial h.own

theorem Hs.deads {S : Sta} {G : Gh} {own : Nat → Option Nat} {w : World} : ∀ (ids : List Nat) {H : List Obj}, Hs S G own H w → Hs S G own (hputs H (deads ids)) w
  | [], _, h => h
  | i :: r, _, h => Hs.deads r (h.dead i)

/-- nothing has turned but the world's other parts -/
theorem Hs.keep {S : Sta} {G : Gh} {own : Nat → Option Nat} {H : List Obj} {w w' : World} (h : Hs S G own H w) (hk : ∀ b, b < w.heap.size → w'.heap[b]? = w.heap[b]?) (hsz : w.heap.size ≤ w'.heap.size) : Hs S G own H w' :=
  ⟨fun id => (h.obj id).stay (Le.refl G) (Same.refl ..) (fun b hb => hk b (h.own b id hb).1) (fun _ x => x), fun b id hb => ⟨Nat.lt_of_lt_of_le (h.own b id hb).1 hsz, (h.own b id hb).2⟩⟩
end Go.Proofs.Ytgnnljpdcafdkaa.Ev

/- What the machine's own reads, stores and new variables come to. -/
namespace Go.Proofs.Ytgnnljpdcafdkaa.Ev
open Go

def zeroVs : Ty → List Value
  | .int k => [.int k 0]
  | .bool => [.bool false]
  | .str => [.string ⟨#[]⟩]
  | .unit => []
  | .pair a b => zeroVs a ++ zeroVs b
  | .st t => zeroVs t
  | .slice _ _ => [.slice none 0 0]
  | .rs _ _ => [.slice none 0 0]
  | .bx _ _ => [.pointer none]

def cellsV : (t : Ty) → t.D → List Value
  | .int k, n => [.int k n]
  | .bool, b => [.bool b]
  | .str, s => [.string s]
  | .unit, _ => []
  | .pair a b, x => cellsV a x.1 ++ cellsV b x.2
  | .st t, x => cellsV t x
  | _, _ => [undef]

/-- the table of types tells what the program's own says -/
structure TTok (P : Program) (tt : TT) : Prop where
  shape : ∀ T t, tt.shape T = some t → ∃ i z, P.info? T = some i ∧ i.size = t.sz ∧ i.bytes = tt.bytes T ∧ i.zero = some z ∧ z.cells = (zeroVs t).toArray
  agg : ∀ T t, tt.shape T = some t → ∃ d, P.underlying T = some d ∧ (match d with | .struct _ | .array _ _ => true | _ => false) = t.isAgg
  top : ∀ T t, tt.shape T = some t → t.isAgg = true ∨ t.sz = 1
  int : ∀ T k, tt.shape T = some (.int k) → P.underlying T = some (.int k)
  str : ∀ T, tt.shape T = some .str → P.underlying T = some .string
  bool : ∀ T, tt.shape T = some .bool → P.underlying T = some .bool
  slice : ∀ T e t, tt.shape T = some (.slice e t) → tt.elem T = some e ∧ tt.shape e = some t
  st : ∀ T t, tt.shape T = some (.st t) → ∃ fs, P.underlying T = some (.struct fs)
  elem : ∀ T e, tt.elem T = some e → P.underlying T = some (.slice e)
  field : ∀ T f o t, tt.field T f = some (o, t) → ∃ fs fd, P.underlying T = some (.struct fs) ∧ fs[f]? = some fd ∧ fd.offset = o ∧ tt.shape fd.type = some t
  infos : ∀ T t fs, tt.shape T = some t → P.underlying T = some (.struct fs) → ∀ f ∈ fs.toList, ∃ i, P.info? f.type = some i
  fits : ∀ T f o t t0, tt.field T f = some (o, t) → tt.shape T = some t0 → o + t.sz ≤ t0.sz
  ptr : ∀ T, tt.ptr T = true → ∃ e, P.underlying T = some (.pointer e)
  cmp : ∀ T t, tt.cmp T = true → tt.shape T = some t → t.nsl = 0 ∧ ∀ (x y : t.D) (w : World),
    (Op.equal T (.agg (cellsV t x).toArray) (.agg (cellsV t y).toArray)).run P w = .ok (eqT t x y) w ∧
    ∀ (op : BinOp) (a b : Operand), (eqGuard op T a b (.agg (cellsV t x).toArray) (.agg (cellsV t y).toArray)).run P w = .ok () w

def valOf (t : Ty) (us : List Value) : Value := if t.isAgg = true then .agg us.toArray else us.headD undef

section
variable {P : Program} {tt : TT} (ok : TTok P tt)
include ok

theorem run_agg {T : TypeId} {t : Ty} (h : tt.shape T = some t) (w : World) : (isAgg T).run P w = .ok t.isAgg w := by
  obtain ⟨d, h1, h2⟩ := ok.agg T t h
  unfold isAgg
  rw [Sem.run_bind, run_underlying h1 w]
  revert h2
  cases d <;> simp_all

theorem run_load {T : TypeId} {t : Ty} (h : tt.shape T = some t) (w : World) (ad : Addr) (us : List Value) (hl : us.length = t.sz) (hc : ∀ (i : Nat) v, us[i]? = some v → w.cell? (ad.add i) = some v) :
    (Instr.loadAt T (.pointer (some ad))).run P w = .ok (valOf t us) w := by
  obtain ⟨i, z, h1, h2, h3, h4, h5⟩ := ok.shape T t h
  have hL : (loadCells ad us.length).run P w = .ok us.toArray w := run_loadCells_list w ad us hc
  have ha := run_agg ok h w
  rw [hl] at hL
  by_cases hg : t.isAgg = true
  · rw [hg] at ha
    simp [Instr.loadAt, Instr.sureAddr, loadVar, Sem.run_bind, ha, sizeOf, typeInfo, h1, h2, hL, valOf, hg]
  · have hs : t.sz = 1 := (ok.top T t h).resolve_left hg
    have hg' : t.isAgg = false := by simpa using hg
    rw [hg'] at ha
    match us, hl with
    | [u], _ =>
      have h0 := hc 0 u rfl
      have e0 : ad.add 0 = ad := by simp [Addr.add]
      rw [e0] at h0
      simp [Instr.loadAt, Instr.sureAddr, loadVar, Sem.run_bind, ha, valOf, hg', load, Sem.run, h0]
    | [], hl => rw [hs] at hl; simp at hl
    | _ :: _ :: _, hl => rw [hs] at hl; simp at hl

theorem run_store {T : TypeId} {t : Ty} (h : tt.shape T = some t) (w : World) (b o : Nat) (e : TypeId) (cur : Array Value) (hg : w.heap[b]? = some (.cells cur e (0, 0))) (v : Value) (us : List Value) (hv : v.cells = us.toArray)
    (hl : us.length = t.sz) (hfit : o + us.length ≤ cur.size) (h1 : ∀ u ∈ us, u.oneCell' = true) :
    (Instr.storeAt T (.pointer (some ⟨b, o, none⟩)) v).run P w = .ok () (w.setRow b (cur.toList.take o ++ us ++ cur.toList.drop (o + us.length)).toArray) := by
  obtain ⟨i, z, k1, k2, k3, k4, k5⟩ := ok.shape T t h
  have hS := run_storeCells_at (P := P) b o e us 0 cur w hg (by simpa using hfit) h1
  simp only [Nat.add_zero] at hS
  simp [Instr.storeAt, Instr.sureAddr, storeVar, Sem.run_bind, sizeOf, typeInfo, k1, k2, hv, hl]
  rw [hl] at hS
  simpa using hS

theorem run_alloc {T : TypeId} {t : Ty} (h : tt.shape T = some t) (w : World) :
    (Instr.alloc T true (.tuple #[])).run P w = .ok (.pointer (some ⟨w.heap.size, 0, none⟩)) (w.alloc (.cells (zeroVs t).toArray T)) := by
  obtain ⟨i, z, k1, k2, k3, k4, k5⟩ := ok.shape T t h
  simp [Instr.alloc, zeroValue, typeInfo, k1, k4, Sem.run_bind, newVar, newRow, newObj, Sem.run, k5]
end

section
variable {P : Program}
theorem run_box (T : TypeId) (v : Value) (us : List Value) (hv : v.cells = us.toArray) (w : World) :
    (Instr.box T v).run P w = .ok (.pointer (some ⟨w.heap.size, 0, none⟩)) (w.alloc (.cells us.toArray T)) := by
  simp [Instr.box, newVar, newRow, newObj, Sem.run_bind, Sem.run, hv]
end

/-! ### Cells that are known are values of one cell -/
theorem VC.one {S : Sta} {G : Gh} (hF : S.FrOk) {c : Cv} {r : List Cv} {u : Value} (hs : solid (c :: r) = true) (h : VC S G c u) : u.oneCell' = true ∧ u.cells = #[u] := by
  have slice_of : ∀ {A n c}, u = .slice A n c → u.oneCell' = true ∧ u.cells = #[u] := by rintro _ _ _ rfl; exact ⟨rfl, rfl⟩
  have ptr_of : ∀ {A}, u = .pointer A → u.oneCell' = true ∧ u.cells = #[u] := by rintro _ rfl; exact ⟨rfl, rfl⟩
  have sl_of : ∀ {p off len}, SlOf p off len u → u.oneCell' = true ∧ u.cells = #[u] := by
    intro p off len h
    unfold SlOf at h
    split at h
    · exact slice_of h.1
    · obtain ⟨o, c, h, _⟩ := h; exact slice_of h
  cases c with
  | junk => simp [solid] at hs
  | undef => simp [solid] at hs
  | int k n => rw [show u = _ from h]; exact ⟨rfl, rfl⟩
  | bool b => rw [show u = _ from h]; exact ⟨rfl, rfl⟩
  | str s => rw [show u = _ from h]; exact ⟨rfl, rfl⟩
  | nil => exact slice_of h
  | nilp => exact ptr_of h
  | ext e t xs => obtain ⟨A, c, h, _⟩ := h; exact slice_of h
  | rxt e t xs => obtain ⟨A, c, h, _⟩ := hF _ _ _ _ h; exact slice_of h
  | own id gen => obtain ⟨p, _, h⟩ := h; exact sl_of h.1
  | part id gen off len => obtain ⟨p, _, _, h⟩ := h; exact sl_of h.1
  | tail id gen off len => obtain ⟨p, _, h⟩ := h; exact sl_of h
  | ptr id gen idx off => obtain ⟨q, b, _, _, _, h⟩ := h; exact ptr_of h
  | eptr t x off => obtain ⟨ad, cs, _, _, _, _, h⟩ := h; exact ptr_of h
  | fn g caps => obtain ⟨vs, h, _⟩ := h; rw [h]; exact ⟨rfl, rfl⟩
  | efn g t x =>
    rcases h with ⟨_, h⟩ | ⟨_, pv, h, _⟩
    · rw [h]; exact ⟨rfl, rfl⟩
    · rw [h]; exact ⟨rfl, rfl⟩
  | nest id gen md idx off => obtain ⟨n, p, _, ⟨A, l, c, h⟩, _⟩ := h; exact slice_of h
  | nptr id gen md idx off a fo => obtain ⟨ad, len, c, n, p, _, _, _, _, h⟩ := h; exact ptr_of h
end Go.Proofs.Ytgnnljpdcafdkaa.Ev

/- Operations that turn nothing: what the machine does is what the evaluator says. -/
namespace Go.Proofs.Ytgnnljpdcafdkaa.Ev
open Go

structure EnvTy (P : Program) (E : Env) : Prop where
  tt : TTok P E.tt

theorem wp_val {P : Program} {o : Oper} {a : Act} {w w' : World} {u : Value} {K : Act → World → Prop} {Q : Exit → Act → World → Prop} (h : (execOp a.eval o).run P w = .ok (.value u) w') (k : K (a.put o.dst u) w') : o.wp P a w K Q := by
  unfold Oper.wp
  rw [h]
  exact k

/-- a value that an operation comes to, the world being as it was -/
def Gives (P : Program) (S : Sta) (G : Gh) (s : Sem Value) (w : World) (v : LV) : Prop := ∃ u, s.run P w = .ok u w ∧ VV S G v u

section
variable {P : Program} {S : Sta} {G : Gh} {w : World}

theorem one_eq {v : LV} {c : Cv} (h : one v = some c) : v = .v false [c] := by
  unfold one at h
  split at h
  · injection h with h; rw [h]
  · cases h
theorem VV_c {c : Cv} {u : Value} (h : VC S G c u) : VV S G (.c c) u := ⟨h, trivial⟩
theorem VC_of {c : Cv} {u : Value} (h : VV S G (.v false [c]) u) : VC S G c u := h.1
theorem seq_eq (x y : ByteArray) : (x.toList == y.toList) = seq x y := rfl

/-! ### Plain operations -/
theorem binInt_gives {op : BinOp} {k yk : IntKind} {T : TypeId} {a b : Int} {c : Cv} (hk : yk = k ∨ isShift op = true) (h : binInt op k a b some = some c) : Gives P S G (binOp op T (.int k a) (.int yk b)) w (.c c) := by
  have key : ∀ {u : Value} {s : Sem Value}, s = pure u → VC S G c u → Gives P S G s w (.c c) := by
    rintro u s rfl h
    exact ⟨u, rfl, VV_c h⟩
  rcases hk with rfl | hk
  · cases op <;> simp only [binInt] at h
    case shl => split at h <;> simp at h; subst h; refine key ?_ rfl; simp [binOp, Op.shift, *]
    case shr => split at h <;> simp at h; subst h; refine key ?_ rfl; simp [binOp, Op.shift, *]
    case quo => split at h <;> simp at h; subst h; refine key ?_ rfl; simp [binOp, Op.intDiv, *]
    case rem => split at h <;> simp at h; subst h; refine key ?_ rfl; simp [binOp, Op.intDiv, *]
    all_goals (simp only [Option.some.injEq] at h; subst h; first | exact key (by simp [binOp, Op.intArith]; rfl) rfl | exact key (by simp [binOp, Op.intBits, bitOp]; rfl) rfl | exact key (by simp [binOp, Op.intCmp]; rfl) rfl)
  · cases op <;> simp only [isShift] at hk <;> (try simp at hk)
    all_goals simp only [binInt] at h; split at h <;> simp at h; subst h; refine key ?_ rfl; simp [binOp, Op.shift, *]
theorem gives_pure {u : Value} {v : LV} (h : VV S G v u) : Gives P S G (pure u) w v := ⟨u, rfl, h⟩
theorem binStr_gives {op : BinOp} {T : TypeId} {a b : ByteArray} {c : Cv} (h : binStr op a b some = some c) : Gives P S G (binOp op T (.string a) (.string b)) w (.c c) := by
  have key : ∀ {u : Value} {s : Sem Value}, s = pure u → VC S G c u → Gives P S G s w (.c c) := by
    rintro u s rfl h
    exact ⟨u, rfl, VV_c h⟩
  cases op <;> simp only [binStr] at h
  case add =>
    split at h <;> simp at h
    subst h
    rename_i hl
    refine key (u := .string (a ++ b)) ?_ rfl
    simp only [binOp, Op.stringOp]
    rw [if_neg (by unfold IntKind.max; simp [IntKind.signed, IntKind.bits]; omega)]
  all_goals first | (simp at h; done) | (simp only [Option.some.injEq] at h; subst h; exact key rfl rfl)


/-! ### Heads -/
theorem chInt_some {k : IntKind} {cs r : List Cv} {n : Int} (h : chInt k cs = some (n, r)) : cs = .int k n :: r := by
  unfold chInt at h
  split at h
  · split at h
    · rename_i e; simp at h; rw [e, h.1, h.2]
    · cases h
  · cases h
theorem chBool_some {cs r : List Cv} {b : Bool} (h : chBool cs = some (b, r)) : cs = .bool b :: r := by
  unfold chBool at h
  split at h
  · simp at h; rw [h.1, h.2]
  · cases h
theorem chStr_some {cs r : List Cv} {s : ByteArray} (h : chStr cs = some (s, r)) : cs = .str s :: r := by
  unfold chStr at h
  split at h
  · simp at h; rw [h.1, h.2]
  · cases h
theorem chRs_some {e : TypeId} {t : Ty} {cs r : List Cv} {xs : List t.D} (h : chRs e t cs = some (xs, r)) : cs = .rxt e t xs :: r := by
  unfold chRs at h
  split at h
  · split at h
    · rename_i e'
      obtain ⟨rfl, rfl⟩ := e'
      simp [castL] at h; rw [h.1, h.2]
    · cases h
  · cases h
theorem chPtr_some {cs r : List Cv} {id : Nat} (h : chPtr cs = some (id, r)) : cs = .ptr id 0 0 0 :: r := by
  unfold chPtr at h
  split at h
  · split at h
    · split at h
      · split at h
        · simp at h; simp_all
        · cases h
      · cases h
    · cases h
  · cases h
theorem noIds_some {α : Type} {o : Option (α × List Cv)} {x : α} {r : List Cv} {ids : List Nat} (h : noIds o = some (x, r, ids)) : o = some (x, r) ∧ ids = [] := by
  cases o with
  | none => cases h
  | some p => obtain ⟨a, b⟩ := p; simp only [noIds, Option.some.injEq, Prod.mk.injEq] at h; exact ⟨by rw [h.1, h.2.1], h.2.2.symm⟩
theorem rdC_pair {look : Nat → Obj} {a b : Ty} {cs : List Cv} {x : (Ty.pair a b).D} {r : List Cv} (h : rdC look (.pair a b) cs = some (x, r)) : ∃ r1, rdC look a cs = some (x.1, r1) ∧ rdC look b r1 = some (x.2, r) := by
  unfold rdC at h
  split at h
  · rename_i y r1 h1
    split at h
    · rename_i z r2 h2
      simp at h
      obtain ⟨rfl, rfl⟩ := h
      exact ⟨r1, h1, h2⟩
    · cases h
  · cases h
theorem tkC_pair {look : Nat → Obj} {a b : Ty} {cs : List Cv} {x : (Ty.pair a b).D} {r : List Cv} {ids : List Nat} (h : tkC look (.pair a b) cs = some (x, r, ids)) :
    ∃ r1 i j, tkC look a cs = some (x.1, r1, i) ∧ tkC look b r1 = some (x.2, r, j) ∧ ids = i ++ j := by
  unfold tkC at h
  split at h
  · rename_i y r1 i h1
    split at h
    · rename_i z r2 j h2
      simp at h
      obtain ⟨rfl, rfl, rfl⟩ := h
      exact ⟨r1, i, j, h1, h2, rfl⟩
    · cases h
  · cases h
theorem ioC_pair {look : Nat → Obj} {a b : Ty} {cs : List Cv} {x : (Ty.pair a b).D} {r : List Cv} {ids : List Nat} (h : ioC look (.pair a b) cs = some (x, r, ids)) :
    ∃ r1 i j, ioC look a cs = some (x.1, r1, i) ∧ ioC look b r1 = some (x.2, r, j) ∧ ids = i ++ j := by
  unfold ioC at h
  split at h
  · rename_i y r1 i h1
    split at h
    · rename_i z r2 j h2
      simp at h
      obtain ⟨rfl, rfl, rfl⟩ := h
      exact ⟨r1, i, j, h1, h2, rfl⟩
    · cases h
  · cases h
theorem VL_cons {c : Cv} {r : List Cv} {us : List Value} (h : VL S G (c :: r) us) : ∃ u us', us = u :: us' ∧ VC S G c u ∧ VL S G r us' := by
  cases us with
  | nil => exact h.elim
  | cons u us' => exact ⟨u, us', rfl, h.1, h.2⟩
theorem VL_nil {us : List Value} (h : VL S G [] us) : us = [] := by
  cases us with
  | nil => rfl
  | cons u us' => exact h.elim

theorem rdC_cells {look : Nat → Obj} : ∀ {t : Ty} {cs : List Cv} {x : t.D} {r : List Cv}, t.nsl = 0 → rdC look t cs = some (x, r) → ∀ {us : List Value}, VL S G cs us → ∃ u2, us = cellsV t x ++ u2 ∧ VL S G r u2
  | .int k, cs, x, r, _, h, us, hv => by
    rw [chInt_some h] at hv
    obtain ⟨u, us', rfl, h1, h2⟩ := VL_cons hv
    exact ⟨us', by rw [show u = _ from h1]; rfl, h2⟩
  | .bool, cs, x, r, _, h, us, hv => by
    rw [chBool_some h] at hv
    obtain ⟨u, us', rfl, h1, h2⟩ := VL_cons hv
    exact ⟨us', by rw [show u = _ from h1]; rfl, h2⟩
  | .str, cs, x, r, _, h, us, hv => by
    rw [chStr_some h] at hv
    obtain ⟨u, us', rfl, h1, h2⟩ := VL_cons hv
    exact ⟨us', by rw [show u = _ from h1]; rfl, h2⟩
  | .unit, cs, x, r, _, h, us, hv => by
    simp [rdC] at h
    exact ⟨us, rfl, by rw [← h]; exact hv⟩
  | .pair a b, cs, x, r, hn, h, us, hv => by
    obtain ⟨r1, h1, h2⟩ := rdC_pair h
    simp [Ty.nsl] at hn
    obtain ⟨u2, e1, v1⟩ := rdC_cells hn.1 h1 hv
    obtain ⟨u3, e2, v2⟩ := rdC_cells hn.2 h2 v1
    exact ⟨u3, by rw [e1, e2]; simp [cellsV], v2⟩
  | .st t, cs, x, r, hn, h, us, hv => rdC_cells (t := t) hn h hv
  | .slice e t, cs, x, r, hn, h, us, hv => by simp [Ty.nsl] at hn
  | .rs e t, cs, x, r, hn, h, us, hv => by simp [Ty.nsl] at hn
  | .bx e t, cs, x, r, hn, h, us, hv => by simp [Ty.nsl] at hn

theorem equal_bool {T : TypeId} (hT : P.underlying T = some .bool) (a b : Bool) (w : World) : (Op.equal T (.bool a) (.bool b)).run P w = .ok (a == b) w := by
  unfold Op.equal
  rw [show Op.maxDepth = 9999 + 1 from rfl, Op.equalIn]
  simp [Sem.run_bind, run_underlying hT]
theorem equal_ptr_nil {T e : TypeId} (hT : P.underlying T = some (.pointer e)) (a : Option Addr) (w : World) : (Op.equal T (.pointer a) (.pointer none)).run P w = .ok a.isNone w := by
  unfold Op.equal
  rw [show Op.maxDepth = 9999 + 1 from rfl, Op.equalIn]
  cases a <;> simp [Sem.run_bind, run_underlying hT]

theorem isEq_some {op : BinOp} {t : Bool} (h : isEq op = some t) : (t = true ∧ op = .eql) ∨ (t = false ∧ op = .neq) := by
  cases op <;> simp [isEq] at h <;> simp [← h]
end

theorem ptr_of_bk {P : Program} {tt : TT} (ok : TTok P tt) {T : TypeId} (h : bkOf tt T = .ptr) : ∃ e, P.underlying T = some (.pointer e) := by
  unfold bkOf at h
  split at h
  · cases h
  · split at h <;> cases h
  · cases h
  · split at h
    · exact ok.ptr T ‹_›
    · cases h
theorem st_of_bk {P : Program} {tt : TT} (ok : TTok P tt) {T : TypeId} {t : Ty} (h : bkOf tt T = .st t) : t.nsl = 0 ∧ ∀ (x y : t.D) (w : World),
    (Op.equal T (.agg (cellsV t x).toArray) (.agg (cellsV t y).toArray)).run P w = .ok (eqT t x y) w ∧
    ∀ (op : BinOp) (a b : Operand), (eqGuard op T a b (.agg (cellsV t x).toArray) (.agg (cellsV t y).toArray)).run P w = .ok () w := by
  unfold bkOf at h
  split at h
  · cases h
  · split at h
    · rename_i hs hc
      simp at h; subst h
      exact ok.cmp T _ hc hs
    · cases h
  · cases h
  · split at h <;> cases h
theorem binK_gives {P : Program} {S : Sta} {G : Gh} {w : World} {tt : TT} (ok : TTok P tt) {T : TypeId} {op : BinOp} {x y : LV} {c : Cv} {u v : Value} {ox oy : Operand} (hx : VV S G x u) (hy : VV S G y v) (h : binK (bkOf tt T) op x y some = some c) :
    Gives P S G (do eqGuard op T ox oy u v; binOp op T u v) w (.c c) := by
  unfold binK at h
  split at h
  · -- ints
    rename_i k a k' b
    rw [show u = _ from hx.1, show v = _ from hy.1]
    have hg : ∀ w, (eqGuard op T ox oy (.int k a) (.int k' b)).run P w = .ok () w := by intro w; cases op <;> simp [eqGuard]
    have hk : k' = k ∨ isShift op = true := by
      split at h
      · exact .inl ‹_›
      · split at h
        · exact .inr ‹_›
        · cases h
    have hb : binInt op k a b some = some c := by
      split at h
      · exact h
      · split at h
        · exact h
        · cases h
    obtain ⟨u', h1, h2⟩ := binInt_gives (P := P) (S := S) (G := G) (w := w) (T := T) hk hb
    exact ⟨u', by rw [Sem.run_bind, hg w]; exact h1, h2⟩
  · rename_i a b
    rw [show u = _ from hx.1, show v = _ from hy.1]
    have hg : ∀ w, (eqGuard op T ox oy (.string a) (.string b)).run P w = .ok () w := by intro w; cases op <;> simp [eqGuard]
    obtain ⟨u', h1, h2⟩ := binStr_gives (P := P) (S := S) (G := G) (w := w) (T := T) h
    exact ⟨u', by rw [Sem.run_bind, hg w]; exact h1, h2⟩
  · rename_i a b
    rw [show u = _ from hx.1, show v = _ from hy.1]
    have hg : ∀ w, (eqGuard op T ox oy (.bool a) (.bool b)).run P w = .ok () w := by intro w; cases op <;> simp [eqGuard]
    have hT : bkOf tt T = .bool → P.underlying T = some .bool := by
      intro e
      unfold bkOf at e
      split at e
      · exact ok.bool T ‹_›
      · split at e <;> cases e
      · cases e
      · split at e <;> cases e
    split at h
    · rename_i hb he
      have := isEq_some he
      simp at this; subst this
      simp at h; subst h
      exact ⟨.bool (a == b), by rw [Sem.run_bind, hg w]; simp [binOp, equal_bool (hT hb)], VV_c rfl⟩
    · rename_i hb he
      have := isEq_some he
      simp at this; subst this
      simp at h; subst h
      exact ⟨.bool (!(a == b)), by rw [Sem.run_bind, hg w]; simp [binOp, equal_bool (hT hb)], VV_c rfl⟩
    · cases h
  · rename_i i g ix o
    obtain ⟨q, b, _, _, _, hu⟩ := hx.1
    rw [hu, show v = _ from hy.1]
    have hg : ∀ w a, (eqGuard op T ox oy (.pointer a) (.pointer none)).run P w = .ok () w := by intro w a; cases op <;> simp [eqGuard]
    split at h
    · rename_i hb he
      obtain ⟨e, hT⟩ := ptr_of_bk ok hb
      have := isEq_some he
      simp at this; subst this
      simp at h; subst h
      exact ⟨.bool false, by rw [Sem.run_bind, hg w]; simp [binOp, equal_ptr_nil hT], VV_c rfl⟩
    · rename_i hb he
      obtain ⟨e, hT⟩ := ptr_of_bk ok hb
      have := isEq_some he
      simp at this; subst this
      simp at h; subst h
      exact ⟨.bool true, by rw [Sem.run_bind, hg w]; simp [binOp, equal_ptr_nil hT], VV_c rfl⟩
    · cases h
  · rw [show u = _ from hx.1, show v = _ from hy.1]
    have hg : ∀ w a, (eqGuard op T ox oy (.pointer a) (.pointer none)).run P w = .ok () w := by intro w a; cases op <;> simp [eqGuard]
    split at h
    · rename_i hb he
      obtain ⟨e, hT⟩ := ptr_of_bk ok hb
      have := isEq_some he
      simp at this; subst this
      simp at h; subst h
      exact ⟨.bool true, by rw [Sem.run_bind, hg w]; simp [binOp, equal_ptr_nil hT], VV_c rfl⟩
    · rename_i hb he
      obtain ⟨e, hT⟩ := ptr_of_bk ok hb
      have := isEq_some he
      simp at this; subst this
      simp at h; subst h
      exact ⟨.bool false, by rw [Sem.run_bind, hg w]; simp [binOp, equal_ptr_nil hT], VV_c rfl⟩
    · cases h
  · rename_i cs ds
    obtain ⟨us, rfl, hus⟩ := hx
    obtain ⟨vs, rfl, hvs⟩ := hy
    split at h
    · rename_i t hb he
      obtain ⟨hn, hq⟩ := st_of_bk ok hb
      have := isEq_some he
      simp at this; subst this
      split at h
      · rename_i x y hx hy
        simp at h; subst h
        obtain ⟨u2, e1, v1⟩ := rdC_cells hn hx hus
        obtain ⟨u3, e2, v2⟩ := rdC_cells hn hy hvs
        rw [VL_nil v1, List.append_nil] at e1
        rw [VL_nil v2, List.append_nil] at e2
        subst e1 e2
        obtain ⟨k1, k2⟩ := hq x y w
        exact ⟨.bool (eqT t x y), by rw [Sem.run_bind, k2]; simp [binOp, k1], VV_c rfl⟩
      · cases h
    · rename_i t hb he
      obtain ⟨hn, hq⟩ := st_of_bk ok hb
      have := isEq_some he
      simp at this; subst this
      split at h
      · rename_i x y hx hy
        simp at h; subst h
        obtain ⟨u2, e1, v1⟩ := rdC_cells hn hx hus
        obtain ⟨u3, e2, v2⟩ := rdC_cells hn hy hvs
        rw [VL_nil v1, List.append_nil] at e1
        rw [VL_nil v2, List.append_nil] at e2
        subst e1 e2
        obtain ⟨k1, k2⟩ := hq x y w
        exact ⟨.bool (!eqT t x y), by rw [Sem.run_bind, k2]; simp [binOp, k1], VV_c rfl⟩
      · cases h
    · cases h
  · cases h

section
variable {P : Program} {S : Sta} {G : Gh} {w : World}
theorem pickK_gives {c a b : LV} {uc ua ub : Value} {v : LV} (hc : VV S G c uc) (ha : VV S G a ua) (hb : VV S G b ub) (h : pickK c a b some = some v) :
    ∃ t, uc = .bool t ∧ VV S G v (if t = true then ua else ub) := by
  unfold pickK at h
  split at h
  · rename_i t
    refine ⟨t, hc.1, ?_⟩
    split at h
    · simp at h; subst h
      rw [show ua = _ from ha.1, show ub = _ from hb.1]
      cases t <;> exact VV_c rfl
    · split at h
      · rename_i hk
        simp at h; subst h
        rw [show ua = _ from ha.1, show ub = _ from hb.1, hk]
        cases t <;> exact VV_c rfl
      · cases h
    · simp at h; subst h
      rw [show ua = _ from ha.1, show ub = _ from hb.1]
      cases t <;> exact VV_c rfl
    · split at h
      · rename_i e; rw [if_pos e]; simp at h; subst h; exact ha
      · rename_i e; rw [if_neg e]; simp at h; subst h; exact hb
  · cases h

theorem unK_gives {op : UnOp} {x : LV} {u : Value} {c : Cv} (hx : VV S G x u) (h : unK op x some = some c) : Gives P S G (Op.unary op u) w (.c c) := by
  unfold unK at h
  split at h
  · simp at h; subst h
    rw [show u = _ from hx.1]
    exact gives_pure (VV_c rfl)
  · simp only [Option.some.injEq] at h; subst h
    rw [show u = _ from hx.1]
    exact ⟨_, rfl, VV_c rfl⟩
  · cases h

/-! ### Addresses -/
theorem addrAdd_gives {o : Nat} {c c' : Cv} {u : Value} (hc : VC S G c u) (h : addrAdd o c = some c') : ∃ ad, u = .pointer (some ad) ∧ VC S G c' (.pointer (some (ad.add o))) := by
  unfold addrAdd at h
  split at h
  · simp at h; subst h
    obtain ⟨q, b, h1, h2, h3, h4⟩ := hc
    exact ⟨_, h4, q, b, h1, h2, h3, by rw [add_none]; simp [Nat.add_assoc]⟩
  · simp at h; subst h
    obtain ⟨ad, cs, h1, h2, h3, h4, h5⟩ := hc
    exact ⟨_, h5, ad, cs, h1, h2, h3, h4, by rw [add_add]⟩
  · simp at h; subst h
    obtain ⟨ad, len, c, n, p, h1, h2, h3, h4, h5⟩ := hc
    exact ⟨_, h5, ad, len, c, n, p, h1, h2, h3, h4, by rw [add_add, Nat.add_assoc]⟩
  · cases h
end

theorem fieldAddr_gives {P : Program} {S : Sta} {G : Gh} {w : World} {tt : TT} (ok : TTok P tt) {T : TypeId} {f o : Nat} {t : Ty} {c c' : Cv} {u : Value} (hf : tt.field T f = some (o, t)) (hz : ¬ t.sz = 0) (hc : VC S G c u) (h : addrAdd o c = some c') :
    Gives P S G (Instr.fieldAt T u f) w (.c c') := by
  obtain ⟨fs, fd, h1, h2, h3, h4⟩ := ok.field T f o t hf
  obtain ⟨i, z, k1, k2, _⟩ := ok.shape _ _ h4
  obtain ⟨ad, rfl, hv⟩ := addrAdd_gives hc h
  exact ⟨_, by simp [Instr.fieldAt, run_underlying h1, Sem.run_bind, h2, Instr.sureAddr, fieldPlace, h3, sizeOf, typeInfo, k1, k2, hz], VV_c hv⟩

section
variable {P : Program} {S : Sta} {G : Gh} {w : World}

theorem VL_take : ∀ {cs : List Cv} {us : List Value} (n : Nat), VL S G cs us → VL S G (cs.take n) (us.take n)
  | [], [], n, _ => by simp; trivial
  | _ :: _, _ :: _, 0, _ => trivial
  | _ :: _, _ :: _, n + 1, ⟨a, b⟩ => ⟨a, VL_take n b⟩
  | [], _ :: _, _, x => x.elim
  | _ :: _, [], _, x => x.elim
theorem VL_drop : ∀ {cs : List Cv} {us : List Value} (n : Nat), VL S G cs us → VL S G (cs.drop n) (us.drop n)
  | [], [], n, _ => by simp; trivial
  | _ :: _, _ :: _, 0, h => h
  | _ :: _, _ :: _, n + 1, ⟨_, b⟩ => VL_drop n b
  | [], _ :: _, _, x => x.elim
  | _ :: _, [], _, x => x.elim
theorem VL_len : ∀ {cs : List Cv} {us : List Value}, VL S G cs us → us.length = cs.length
  | [], [], _ => rfl
  | _ :: _, _ :: _, ⟨_, b⟩ => by simp [VL_len b]
  | [], _ :: _, x => x.elim
  | _ :: _, [], x => x.elim
theorem VL_append : ∀ {cs ds : List Cv} {us vs : List Value}, VL S G cs us → VL S G ds vs → VL S G (cs ++ ds) (us ++ vs)
  | [], _, [], _, _, h => h
  | _ :: _, _, _ :: _, _, ⟨a, b⟩, h => ⟨a, VL_append b h⟩
  | [], _, _ :: _, _, x, _ => x.elim
  | _ :: _, _, [], _, x, _ => x.elim
/-- cells cut out, as a value -/
theorem cutC_gives {t : Ty} {cs : List Cv} {us : List Value} {v : LV} (top : t.isAgg = true ∨ t.sz = 1) (hv : VL S G cs us) (h : cutC t cs = some v) : VV S G v (valOf t us) ∧ us.length = t.sz := by
  unfold cutC at h
  split at h
  · rename_i hl
    rw [llen_eq] at hl
    have hu := VL_len hv
    simp at h; subst h
    refine ⟨?_, by omega⟩
    unfold valOf
    by_cases hg : t.isAgg = true
    · rw [if_pos hg, hg]; exact ⟨us, rfl, hv⟩
    · rw [if_neg hg]
      have hs := top.resolve_left hg
      have hg' : t.isAgg = false := by simpa using hg
      rw [hg']
      match us, hu with
      | [u], _ => exact hv
      | [], hu => simp at hu; omega
      | _ :: _ :: _, hu => simp at hu; omega
  · cases h
theorem valOf_cells {t : Ty} {ag : Bool} {cs : List Cv} {u : Value} (hF : S.FrOk) (hag : ag = t.isAgg) (hs : solid cs = true) (h : VA S G ag cs u) (top : t.isAgg = true ∨ t.sz = 1) (hl : llen cs = t.sz) :
    ∃ us, u = valOf t us ∧ u.cells = us.toArray ∧ VL S G cs us ∧ us.length = t.sz ∧ ∀ x ∈ us, x.oneCell' = true := by
  have all : ∀ {cs : List Cv} {us : List Value}, solid cs = true → VL S G cs us → ∀ x ∈ us, x.oneCell' = true := by
    intro cs
    induction cs with
    | nil => intro us _ h x hx; rw [VL_nil h] at hx; simp at hx
    | cons c r ih =>
      intro us hs h x hx
      obtain ⟨u, us', rfl, h1, h2⟩ := VL_cons h
      have h3 : solid r = true := by cases c <;> simp_all [solid]
      rcases List.mem_cons.1 hx with rfl | hx
      · exact (VC.one hF hs h1).1
      · exact ih h3 h2 x hx
  rw [llen_eq] at hl
  cases ag with
  | true =>
    obtain ⟨us, rfl, h1⟩ := h
    exact ⟨us, by unfold valOf; rw [if_pos hag.symm], rfl, h1, by rw [VL_len h1, hl], all hs h1⟩
  | false =>
    have h1 : t.sz = 1 := top.resolve_left (by rw [← hag]; simp)
    refine ⟨[u], by unfold valOf; rw [if_neg (by rw [← hag]; simp)]; rfl, ?_, h, by rw [h1]; rfl, all hs h⟩
    match cs, h with
    | [c], h => exact (VC.one hF hs h.1).2
    | [], h => exact h.elim
    | _ :: _ :: _, h => exact h.2.elim
end
end Go.Proofs.Ytgnnljpdcafdkaa.Ev

/- Operations that read the local heap. -/
namespace Go.Proofs.Ytgnnljpdcafdkaa.Ev
open Go

/-- what is looked at stands in the heap, or isn't looked at -/
def LookOk (look : Nat → Obj) (H : List Obj) : Prop := ∀ i, look i = .free ∨ look i = hget H i
theorem LookOk.rst (H : List Obj) (ids : List Nat) : LookOk (rst (hget H) ids) H := fun i => by unfold Ev.rst; split <;> simp
theorem LookOk.of {look : Nat → Obj} {H : List Obj} (h : LookOk look H) {i : Nat} {o : Obj} (e : look i = o) (ho : o ≠ .free) : hget H i = o := by
  rcases h i with x | x
  · exact absurd (e.symm.trans x) ho
  · rw [← x, e]

section
variable {P : Program} {S : Sta} {G : Gh} {w : World}

theorem OwE.get {α : Type} {P : α → List Value → List Nat → Prop} {sz : Nat} : ∀ {xs : List α} {cs : List Value} {bs : List Nat} (j : Nat) (x : α), xs[j]? = some x → OwE P sz xs cs bs → ∃ b, (∀ i ∈ b, i ∈ bs) ∧ P x ((cs.drop (j * sz)).take sz) b
  | [], _, _, j, x, h, _ => by simp at h
  | y :: r, cs, bs, 0, x, h, ⟨b1, b2, hb, h1, h2⟩ => by
    simp at h; subst h
    exact ⟨b1, fun i hi => by rw [hb]; simp [hi], by simpa using h1⟩
  | y :: r, cs, bs, j + 1, x, h, ⟨b1, b2, hb, h1, h2⟩ => by
    simp at h
    obtain ⟨b, k1, k2⟩ := OwE.get (xs := r) j x h h2
    refine ⟨b, fun i hi => by rw [hb]; simp [k1 i hi], ?_⟩
    have e : (cs.drop sz).drop (j * sz) = cs.drop ((j + 1) * sz) := by rw [List.drop_drop]; congr 1; rw [Nat.add_mul]; omega
    rw [e] at k2
    exact k2

/-- the cells of a closed value, one by one -/
def EL (Fr : Frn) : List Ec → List Value → Prop
  | [], [] => True
  | e :: r, u :: us => (match e with
    | .int k n => u = .int k n
    | .bool b => u = .bool b
    | .str s => u = .string s
    | .sl _ _ _ => ∃ A l c, u = .slice A l c
    | .rs e t xs => Fr e t xs u
    | .hole => True) ∧ EL Fr r us
  | _, _ => False
theorem EL.append {Fr : Frn} : ∀ {es fs : List Ec} {us vs : List Value}, EL Fr es us → EL Fr fs vs → EL Fr (es ++ fs) (us ++ vs)
  | [], _, [], _, _, h => h
  | _ :: _, _, _ :: _, _, ⟨a, b⟩, h => ⟨a, EL.append b h⟩
  | [], _, _ :: _, _, x, _ => x.elim
  | _ :: _, _, [], _, x, _ => x.elim
theorem EL.take {Fr : Frn} : ∀ {cs : List Ec} {us : List Value} (n : Nat), EL Fr cs us → EL Fr (cs.take n) (us.take n)
  | [], [], n, _ => by simp; trivial
  | _ :: _, _ :: _, 0, _ => trivial
  | _ :: _, _ :: _, n + 1, ⟨a, b⟩ => ⟨a, EL.take n b⟩
  | [], _ :: _, _, x => x.elim
  | _ :: _, [], _, x => x.elim
theorem EL.drop {Fr : Frn} : ∀ {cs : List Ec} {us : List Value} (n : Nat), EL Fr cs us → EL Fr (cs.drop n) (us.drop n)
  | [], [], n, _ => by simp; trivial
  | _ :: _, _ :: _, 0, h => h
  | _ :: _, _ :: _, n + 1, ⟨_, b⟩ => EL.drop n b
  | [], _ :: _, _, x => x.elim
  | _ :: _, [], _, x => x.elim
theorem OwT.el {Fr : Frn} {w : World} : ∀ {t : Ty} {x : t.D} {cs : List Value} {bs : List Nat}, OwT Fr w t x cs bs → EL Fr (toE t x) cs
  | .int _, _, _, _, h => by rw [h.1]; exact ⟨rfl, trivial⟩
  | .bool, _, _, _, h => by rw [h.1]; exact ⟨rfl, trivial⟩
  | .str, _, _, _, h => by rw [h.1]; exact ⟨rfl, trivial⟩
  | .unit, _, _, _, h => by rw [h.1]; trivial
  | .pair a b, _, _, _, ⟨c1, c2, b1, b2, e1, e2, h1, h2⟩ => by rw [e1]; exact EL.append (OwT.el h1) (OwT.el h2)
  | .st t, x, _, _, h => OwT.el (t := t) h
  | .slice e t, _, _, _, .inl h => by rw [h.1]; exact ⟨⟨_, _, _, rfl⟩, trivial⟩
  | .slice e t, _, _, _, .inr ⟨b, o, c, cur, b2, e1, _⟩ => by rw [e1]; exact ⟨⟨_, _, _, rfl⟩, trivial⟩
  | .rs _ _, _, _, _, ⟨u, e1, h, _⟩ => by rw [e1]; exact ⟨h, trivial⟩
  | .bx T t, _, _, _, ⟨b, cur, b2, e1, _⟩ => by rw [e1]; exact ⟨trivial, trivial⟩

theorem rowC_vl {id g m idx : Nat} (hp : ∃ p, G.φ id g = some p ∧ idx < p.len) : ∀ {es : List Ec} {us : List Value} (o : Nat), EL S.Fr es us →
    (∀ (j : Nat) e' t' (ys : List t'.D), enth es j = some (.sl e' t' ys) → ∃ v n, us[j]? = some v ∧ G.ν id g m idx (o + j) = some (v, n)) → VL S G (rowC id g m idx o es) us
  | [], [], _, _, _ => trivial
  | [], _ :: _, _, h, _ => h.elim
  | _ :: _, [], _, h, _ => h.elim
  | e :: r, u :: us, o, ⟨h1, h2⟩, hn => by
    have ih : VL S G (rowC id g m idx (o + 1) r) us := rowC_vl hp (o + 1) h2 fun j e' t' ys hj => by
      obtain ⟨v, n, k1, k2⟩ := hn (j + 1) e' t' ys hj
      exact ⟨v, n, by simpa using k1, by rw [← k2]; congr 1; omega⟩
    cases e with
    | sl e' t' ys =>
      obtain ⟨v, n, k1, k2⟩ := hn 0 e' t' ys rfl
      simp at k1; subst k1
      obtain ⟨p, p1, p2⟩ := hp
      exact ⟨⟨n, p, k2, h1, p1, p2⟩, ih⟩
    | hole => exact ⟨trivial, ih⟩
    | _ => exact ⟨h1, ih⟩

theorem exC_vl {w0 : World} (hw : w0 = S.w0) : ∀ {t : Ty} {x : t.D} {cs : List Value}, RdC S.Fr S.ok w0 t x cs → VL S G (exC t x) cs
  | .int _, _, _, h => by rw [show _ = _ from h]; exact ⟨rfl, trivial⟩
  | .bool, _, _, h => by rw [show _ = _ from h]; exact ⟨rfl, trivial⟩
  | .str, _, _, h => by rw [show _ = _ from h]; exact ⟨rfl, trivial⟩
  | .unit, _, _, h => by rw [show _ = _ from h]; trivial
  | .pair a b, _, _, ⟨c1, c2, e1, h1, h2⟩ => by rw [e1]; exact VL_append (exC_vl hw h1) (exC_vl hw h2)
  | .st t, x, _, h => exC_vl (t := t) hw h
  | .slice e t, _, _, ⟨u, e1, h⟩ => by rw [e1]; subst hw; exact ⟨h, trivial⟩
  | .rs _ _, _, _, ⟨u, e1, h⟩ => by rw [e1]; exact ⟨h, trivial⟩
  | .bx T t, _, _, ⟨u, e1⟩ => by rw [e1]; exact ⟨trivial, trivial⟩

theorem getD_some {α : Type} {xs : List α} {j : Nat} {d : α} (h : j < xs.length) : xs[j]? = some (xs.getD j d) := by
  rw [List.getD_eq_getElem?_getD, List.getElem?_eq_getElem h]; rfl

theorem enth_drop : ∀ (es : List Ec) (k j : Nat), enth (es.drop k) j = enth es (k + j)
  | [], k, j => by cases k <;> simp [enth]
  | e :: r, 0, j => by simp
  | e :: r, k + 1, j => by
    have := enth_drop r k j
    simp only [List.drop_succ_cons, this]
    rw [show k + 1 + j = (k + j) + 1 by omega]; rfl
theorem enth_take : ∀ (es : List Ec) (n j : Nat) {c : Ec}, enth (es.take n) j = some c → enth es j = some c ∧ j < n
  | [], n, j, c, h => by simp [enth] at h
  | e :: r, 0, j, c, h => by simp [enth] at h
  | e :: r, n + 1, 0, c, h => by simp [enth] at h; simp [enth, h]
  | e :: r, n + 1, j + 1, c, h => by
    have := enth_take r n j (c := c) (by simpa [enth] using h)
    exact ⟨by simpa [enth] using this.1, by omega⟩
theorem enth_lt : ∀ (es : List Ec) (j : Nat) {c : Ec}, enth es j = some c → j < es.length
  | [], j, c, h => by simp [enth] at h
  | e :: r, 0, c, h => by simp
  | e :: r, j + 1, c, h => by have := enth_lt r j (c := c) (by simpa [enth] using h); simp; omega
theorem EL.len {Fr : Frn} : ∀ {es : List Ec} {us : List Value}, EL Fr es us → us.length = es.length
  | [], [], _ => rfl
  | _ :: _, _ :: _, ⟨_, b⟩ => by simp [EL.len b]
  | [], _ :: _, x => x.elim
  | _ :: _, [], x => x.elim

theorem enth_append : ∀ (es fs : List Ec) (o : Nat), enth (es ++ fs) o = if o < es.length then enth es o else enth fs (o - es.length)
  | [], fs, o => by simp
  | e :: r, fs, 0 => by simp [enth]
  | e :: r, fs, o + 1 => by
    have := enth_append r fs o
    simp only [List.cons_append, enth, this, List.length_cons, Nat.add_lt_add_iff_right, Nat.add_sub_add_right]

/-- a nested row of a closed value -/
theorem OwT.nth {Fr : Frn} {w : World} : ∀ {t : Ty} {x : t.D} {cs : List Value} {bs : List Nat} {o : Nat} {e' : TypeId} {t' : Ty} {ys : List t'.D}, OwT Fr w t x cs bs → enth (toE t x) o = some (.sl e' t' ys) →
    ∃ v b, cs[o]? = some v ∧ OwT Fr w (.slice e' t') ys [v] b ∧ ∀ i ∈ b, i ∈ bs
  | .int _, _, _, _, o, _, _, _, h, he => by cases o <;> simp [toE, enth] at he
  | .bool, _, _, _, o, _, _, _, h, he => by cases o <;> simp [toE, enth] at he
  | .str, _, _, _, o, _, _, _, h, he => by cases o <;> simp [toE, enth] at he
  | .unit, _, _, _, o, _, _, _, h, he => by simp [toE, enth] at he
  | .pair a b, x, _, _, o, e', t', ys, ⟨c1, c2, b1, b2, e1, e2, h1, h2⟩, he => by
    have hl : (toE a x.1).length = c1.length := (EL.len h1.el).symm
    rw [show toE (.pair a b) x = toE a x.1 ++ toE b x.2 from rfl, enth_append] at he
    split at he
    · obtain ⟨v, bb, k1, k2, k3⟩ := OwT.nth h1 he
      exact ⟨v, bb, by rw [e1, List.getElem?_append_left (by omega)]; exact k1, k2, fun i hi => by rw [e2]; simp [k3 i hi]⟩
    · obtain ⟨v, bb, k1, k2, k3⟩ := OwT.nth h2 he
      exact ⟨v, bb, by rw [e1, List.getElem?_append_right (by omega), ← hl]; exact k1, k2, fun i hi => by rw [e2]; simp [k3 i hi]⟩
  | .st t, x, _, _, o, _, _, _, h, he => OwT.nth (t := t) h he
  | .slice e t, xs, cs, bs, o, e', t', ys, h, he => by
    match o, he with
    | 0, he =>
      simp [toE, enth] at he
      obtain ⟨rfl, rfl, hy⟩ := he
      obtain rfl := eq_of_heq hy
      have hl := h.len
      match cs, hl with
      | [v], _ => exact ⟨v, bs, rfl, h, fun i hi => hi⟩
      | [], hl => simp [Ty.sz] at hl
      | _ :: _ :: _, hl => simp [Ty.sz] at hl
    | o + 1, he => simp [toE, enth] at he
  | .rs _ _, _, _, _, o, _, _, _, h, he => by cases o <;> simp [toE, enth] at he
  | .bx T t, _, _, _, o, _, _, _, h, he => by cases o <;> simp [toE, enth] at he

theorem flatC_vl {Fr : Frn} : ∀ {es : List Ec} {us : List Value} {cs : List Cv}, EL Fr es us → flatC es = some cs → VL S G cs us
  | [], [], cs, _, h => by simp [flatC] at h; subst h; trivial
  | [], _ :: _, _, h, _ => h.elim
  | _ :: _, [], _, h, _ => h.elim
  | e :: r, u :: us, cs, ⟨h1, h2⟩, h => by
    cases e with
    | int k n =>
      simp only [flatC] at h
      split at h
      · simp at h; subst h; exact ⟨h1, flatC_vl h2 ‹_›⟩
      · cases h
    | bool b =>
      simp only [flatC] at h
      split at h
      · simp at h; subst h; exact ⟨h1, flatC_vl h2 ‹_›⟩
      · cases h
    | str s =>
      simp only [flatC] at h
      split at h
      · simp at h; subst h; exact ⟨h1, flatC_vl h2 ‹_›⟩
      · cases h
    | _ => simp [flatC] at h

/-- what stands at an element of a row of our own -/
theorem row_elem {own : Nat → Option Nat} {id gen md : Nat} {e : TypeId} {t : Ty} {ex : Option Nat} {lent : Option (Nat × Nat)} {xs : List t.D} (ho : ObjS S G own w id (.row e t gen md ex lent xs)) {idx off : Nat} {u : Value} (hp : PtrOf (G.φ id gen) idx off u) :
    ∃ (b k : Nat) (cur : Array Value) (us : List Value) (bs : List Nat), u = .pointer (some ⟨b, k + off, none⟩) ∧ idx < xs.length ∧ w.heap[b]? = some (.cells cur e (0, 0)) ∧ us = (cur.toList.drop k).take t.sz ∧ us.length = t.sz ∧
      OwT S.Fr w t (xs.getD idx t.dflt) us bs ∧ own b = some id ∧ k + t.sz ≤ cur.size ∧
      (∀ (o : Nat) e' t' (ys : List t'.D), enth (toE t (xs.getD idx t.dflt)) o = some (.sl e' t' ys) → ∃ v, us[o]? = some v ∧ G.ν id gen md idx o = some (v, t'.sz)) := by
  obtain ⟨h1, h2, h3, p, h4, h5, h6, hr, h7⟩ := ho
  obtain ⟨q, b, k1, k2, k3, k4⟩ := hp
  rw [h4] at k1
  obtain rfl : p = q := by simpa using k1
  rw [k2] at h7
  obtain ⟨cur, bs, l1, l2, l3, l4, l5, l6, l7⟩ := h7
  have hi : idx < xs.length := by omega
  have hx := getD_some (d := t.dflt) hi
  obtain ⟨bi, m1, m2⟩ := l4.get idx _ hx
  rw [List.drop_drop] at m2
  have hlen := m2.len
  have hfit : p.base + idx * t.sz + t.sz ≤ cur.size := by
    rw [l2]
    have : (idx + 1) * t.sz ≤ (xs.length + ex.getD 0) * t.sz := Nat.mul_le_mul_right _ (by omega)
    rw [Nat.add_mul] at this
    omega
  refine ⟨b, p.base + idx * t.sz, cur, _, bi, ?_, hi, l1, rfl, hlen, m2, l6 b (by simp), hfit, fun o e' t' ys he => ?_⟩
  · rw [k4, h5]
  · obtain ⟨v, n1, n2⟩ := l7 idx _ o e' t' ys hx he
    have ho' : o < t.sz := by
      have a1 := enth_lt _ _ he
      have a2 := m2.el.len
      omega
    refine ⟨v, ?_, n2⟩
    rw [List.getElem?_take, if_pos ho', List.getElem?_drop]
    rw [List.getElem?_drop] at n1
    rw [← n1]; congr 1; omega

/-- a nested row, as the evaluator names it -/
theorem nest_elem {own : Nat → Option Nat} {H : List Obj} (hh : Hs S G own H w) {look : Nat → Obj} (hl : LookOk look H) {id gen md idx off : Nat} {p : Place} (hp : G.φ id gen = some p) (hi : idx < p.len) {e' : TypeId} {t' : Ty} {ys : List t'.D}
    (h : nestAt look id gen md idx off = some (.sl e' t' ys)) : ∃ v b, G.ν id gen md idx off = some (v, t'.sz) ∧ OwT S.Fr w (.slice e' t') ys [v] b ∧ (∀ i ∈ b, own i = some id) ∧ True := by
  unfold nestAt at h
  split at h
  · rename_i e t g m ex xs hlk
    split at h
    · split at h
      · rename_i hg hm
        subst hg hm
        have ho := hh.obj id
        rw [hl.of hlk (by simp)] at ho
        obtain ⟨h1, h2, h3, q, h4, h5, h6, hr, h7⟩ := ho
        rw [hp] at h4
        obtain rfl : p = q := by simpa using h4
        cases hb : p.blk with
        | none => rw [hb] at h7; obtain ⟨rfl, _⟩ := h7; simp at h6; omega
        | some b =>
          rw [hb] at h7
          obtain ⟨cur, bs, l1, l2, l3, l4, l5, l6, l7⟩ := h7
          have hi' : idx < xs.length := by omega
          have hx := getD_some (d := t.dflt) hi'
          obtain ⟨bi, m1, m2⟩ := l4.get idx _ hx
          obtain ⟨v, bb, n1, n2, n3⟩ := m2.nth h
          obtain ⟨v', r1, r2⟩ := l7 idx _ off e' t' ys hx h
          have ho' : off < t.sz := by
            have a1 := enth_lt _ _ h
            have a2 := m2.el.len
            have a3 := m2.len
            omega
          have : v = v' := by
            rw [List.getElem?_take, if_pos ho', List.getElem?_drop] at n1
            rw [n1] at r1
            simpa using r1
          subst this
          exact ⟨v, bb, r2, n2, fun i hi => l6 i (by simp [m1 i (n3 i hi)]), trivial⟩
      · cases h
    · cases h
  · cases h

theorem load_gives {tt : TT} (ok : TTok P tt) (hF : S.FrOk) {own : Nat → Option Nat} {H : List Obj} (hh : Hs S G own H w) (hk : Keeps S.O S.w0 w) {look : Nat → Obj} (hl : LookOk look H) {T : TypeId} {t : Ty} (hT : tt.shape T = some t)
    {c : Cv} {u : Value} {v : LV} (hc : VC S G c u) (h : loadC look t c = some v) : Gives P S G (Instr.loadAt T u) w v := by
  have top := ok.top T t hT
  unfold loadC at h
  split at h
  · rename_i id gen idx off
    split at h
    · rename_i T' cs hlk
      split at h
      · rename_i hg
        split at h
        · rename_i hi
          subst hg hi
          have hb := hh.obj id
          rw [hl.of hlk (by simp)] at hb
          obtain ⟨p, b, cur, h1, h2, h3, h4, h5, h6, h7, h8⟩ := hb
          obtain ⟨q, b', k1, k2, k3, k4⟩ := hc
          rw [h1] at k1
          obtain rfl : p = q := by simpa using k1
          rw [h2] at k2
          obtain rfl : b = b' := by simpa using k2
          rw [ctake_eq, cdrop_eq] at h
          obtain ⟨v1, v2⟩ := cutC_gives top (VL_take t.sz (VL_drop off h7)) h
          rw [k4, h3]
          refine ⟨_, run_load ok hT w _ _ v2 fun i x hx => ?_, v1⟩
          rw [add_none, cell_of h6]
          rw [List.getElem?_take] at hx
          split at hx
          · rw [List.getElem?_drop] at hx; rw [← hx]; congr 1; omega
          · cases hx
        · cases h
      · cases h
    · rename_i e t' g m ex xs hlk
      split at h
      · rename_i hg
        subst hg
        have hb := hh.obj id
        rw [hl.of hlk (by simp)] at hb
        obtain ⟨b, k, cur, us, bs, e1, e2, e3, e4, e5, e6, e7, e8, e9⟩ := row_elem hb hc
        have hel := e6.el
        rw [etake_eq, edrop_eq] at h
        have hvl : VL S G (rowC id g m idx off (((toE t' (xs.getD idx t'.dflt)).drop off).take t.sz)) ((us.drop off).take t.sz) := by
          refine rowC_vl (by obtain ⟨q, _, q1, _, q2, _⟩ := hc; exact ⟨q, q1, q2⟩) off (EL.take t.sz (EL.drop off hel)) fun j e' ty ys hj => ?_
          obtain ⟨hj1, hj2⟩ := enth_take _ _ _ hj
          rw [enth_drop] at hj1
          obtain ⟨x, n1, n2⟩ := e9 _ e' ty ys hj1
          refine ⟨x, ty.sz, ?_, n2⟩
          rw [List.getElem?_take, if_pos hj2, List.getElem?_drop]
          exact n1
        obtain ⟨v1, v2⟩ := cutC_gives top hvl h
        rw [e1]
        refine ⟨_, run_load ok hT w _ _ v2 fun i x hx => ?_, v1⟩
        rw [add_none, cell_of e3]
        rw [List.getElem?_take] at hx
        split at hx
        · rw [List.getElem?_drop, e4, List.getElem?_take] at hx
          split at hx
          · rw [List.getElem?_drop] at hx; rw [← hx]; congr 1; omega
          · cases hx
        · cases hx
      · cases h
    · cases h
  · rename_i t' x off
    obtain ⟨ad, cs, h1, h2, h3, h4, h5⟩ := hc
    rw [ctake_eq, cdrop_eq] at h
    obtain ⟨v1, v2⟩ := cutC_gives top (VL_take t.sz (VL_drop off (exC_vl rfl h3))) h
    rw [h5]
    refine ⟨_, run_load ok hT w _ _ v2 fun i x hx => ?_, v1⟩
    rw [add_add, cell_keep hk (by rw [add_block]; exact h1)]
    rw [List.getElem?_take] at hx
    split at hx
    · rw [List.getElem?_drop] at hx
      exact h4 _ _ hx
    · cases hx
  · rename_i id gen md idx off a fo
    split at h
    · rename_i e' t' ys hn
      split at h
      · rename_i cs hcs
        obtain ⟨ad, len, c, n, p, h1, h2, h3, h4, h5⟩ := hc
        obtain ⟨v, b2, k1, k2, k3, k4⟩ := nest_elem hh hl h3 h4 hn
        rw [h1] at k1
        simp at k1
        obtain ⟨k1, rfl⟩ := k1
        rcases k2 with ⟨q1, q2, _⟩ | ⟨b, o, c', cur, b3, q1, q2, q3, q4, q5, q6, q7⟩
        · simp at q1; rw [← k1] at q1; simp at q1
        · simp at q1
          rw [← k1] at q1
          simp at q1
          obtain ⟨rfl, rfl, rfl⟩ := q1
          obtain ⟨bi, m1, m2⟩ := q7.get a _ (getD_some (d := t'.dflt) h2)
          rw [List.drop_drop] at m2
          rw [ctake_eq, cdrop_eq] at h
          obtain ⟨v1, v2⟩ := cutC_gives top (VL_take t.sz (VL_drop fo (flatC_vl m2.el hcs))) h
          rw [h5]
          refine ⟨_, run_load ok hT w _ _ v2 fun i x hx => ?_, v1⟩
          rw [add_add, add_none, cell_of q4]
          rw [List.getElem?_take] at hx
          split at hx
          · rw [List.getElem?_drop, List.getElem?_take] at hx
            split at hx
            · rw [List.getElem?_drop] at hx; rw [← hx]; congr 1; omega
            · cases hx
          · cases hx
      · cases h
    · cases h
  · cases h
end
end Go.Proofs.Ytgnnljpdcafdkaa.Ev
