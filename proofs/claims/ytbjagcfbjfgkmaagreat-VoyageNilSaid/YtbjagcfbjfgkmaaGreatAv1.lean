/- An abstract evaluator of the model's code, with its own values and its own memory; how its values, its memory and its operations stand to the model's. Conditions: the tables of types and functions are those of the program (Env.Ok). -/
import Derived.AtR
import Derived.RangeFuncIn
import Derived.Recover
import Derived.Laws.Cells
import Derived.Laws.Entries
import Derived.Laws.Rows
import Derived.Laws.Append
import Derived.Laws.StructEq
import Derived.Laws.Tables
import Derived.Laws.Slices
/- The abstract evaluator of the model's code: own values, own heap, no tape. Definitions alone. -/
namespace Go.Av

/-! ### A small map by numbers -/
inductive T (α : Type) where
  | leaf
  | node (l : T α) (v : Option α) (r : T α)

namespace T
variable {α : Type}
def get : T α → Nat → Option α
  | leaf, _ => none
  | node l v r, i => bif Nat.beq i 0 then v else bif Nat.beq (i % 2) 1 then l.get (i / 2) else r.get (i / 2 - 1)
def single : Nat → Nat → α → T α
  | 0, _, v => node leaf (some v) leaf
  | n + 1, i, v => bif Nat.beq i 0 then node leaf (some v) leaf
      else bif Nat.beq (i % 2) 1 then node (single n (i / 2) v) none leaf else node leaf none (single n (i / 2 - 1) v)
def set : T α → Nat → α → T α
  | leaf, i, v => single i i v
  | node l w r, i, v => bif Nat.beq i 0 then node l (some v) r
      else bif Nat.beq (i % 2) 1 then node (l.set (i / 2) v) w r else node l w (r.set (i / 2 - 1) v)
def del : T α → Nat → T α
  | leaf, _ => leaf
  | node l w r, i => bif Nat.beq i 0 then node l none r
      else bif Nat.beq (i % 2) 1 then node (l.del (i / 2)) w r else node l w (r.del (i / 2 - 1))
def dels (t : T α) (l : List Nat) : T α := l.foldl (fun t i => t.del i) t
def ofL : List α → Nat → T α → T α
  | [], _, t => t
  | x :: xs, i, t => ofL xs (i + 1) (t.set i x)
end T

/-! ### Values -/
/-- How far one may go behind a slice's end: so far; or nobody knows, for elements of so many cells. -/
inductive Cap where
  | known (c : Nat)
  | room (e : Nat)
inductive AV where
  | undef
  | bool (b : Bool)
  | int (k : IntKind) (n : Int)
  | str (s : List Nat)
  | ptr (a : Option (Nat × Nat))
  | slice (a : Option (Nat × Nat)) (len : Nat) (cap : Cap)
  | map (r : Option Nat)
  | func (f : FuncId) (first captured : List AV)
  | yield (l : Nat)
  | nilFunc
  | iface (t : TypeId) (v : AV)
  | nilIface
  | agg (cells : List AV)
  | tuple (vs : List AV)
  deriving Inhabited

def AV.cells : AV → List AV
  | .agg cs => cs
  | v => [v]
/-- May it lie in a cell? -/
def AV.one : AV → Bool
  | .agg _ | .tuple _ | .undef => false
  | _ => true

def ofV : Nat → Value → Option AV
  | 0, _ => none
  | d + 1, v =>
    match v with
    | .bool b => some (.bool b)
    | .int k n => some (.int k n)
    | .string s => some (.str (s.data.toList.map UInt8.toNat))
    | .pointer none => some (.ptr none)
    | .slice none 0 0 => some (.slice none 0 (.known 0))
    | .map none => some (.map none)
    | .nilFunc => some .nilFunc
    | .nilIface => some .nilIface
    | .iface t v => (ofV d v).map (.iface t)
    | .agg cs => (cs.toList.mapM (ofV d)).map .agg
    | _ => none

/-! ### Types, functions, the heap -/
structure ATy where
  d : TypeDesc
  size : Nat
  bytes : Nat
  zero : Option AV
  agg : Bool
  comparable : Bool
  /-- whether its parts' equality asks more than its cells -/
  shy : Bool
  /-- the fields that have names -/
  eqf : List (TypeId × Nat)

structure Env where
  ty : T ATy
  fn : T Func
  /-- functions without a body that are known: 1: the place of a byte in a text -/
  ext : T Nat
  rt : RuntimeTypes

inductive Blk where
  | cells (c : T AV) (n : Nat) (elem : TypeId) (ro : Bool)
  | map (es : List (AV × AV × Nat)) (clock : Nat)
  | siter (rest : List Nat) (pos : Nat)
  | loop (state : LoopState) (pend : Option Code) (fn : FuncId) (nt : Nat) (tm : T AV) (ps : List Tmp) (assign body : Code) (df : Nat)
  | deferred
  | dead

structure Heap where
  b : T Blk
  next : Nat

inductive AD where
  | call (f : FuncId) (args captured : List AV)
  | mark (b : Nat)

abbrev Chain := List (AV × Bool)
inductive Md where
  | returning
  | panicking (c : Chain)

structure St where
  tm : T AV
  df : List AD
  up : Option Md
  hp : Heap

inductive Ex where
  | normal
  | exit (id : Nat)
  | goto (l : Nat)
  | ret
  | panic (c : Chain)

/-- What one operation comes to. -/
inductive OR where
  | val (v : AV) (s : St)
  | pan (c : Chain) (s : St)

/-- In which function, in which round. -/
structure Cx where
  fn : FuncId
  nt : Nat
  round : Option Nat

inductive Rs where
  | ret (v : AV) (up : Option Md) (h : Heap)
  | pan (c : Chain) (up : Option Md) (h : Heap)

structure Rec where
  code : Cx → Code → St → Option (Ex × St)
  call : FuncId → List AV → Option Md → Heap → Option Rs
  leave : Func → St → Md → Option Rs
  /-- what is run of a scope's body, and the body -/
  scope : Cx → Code → Code → St → Option (Ex × St)

/-! ### Memory -/
def Env.t (E : Env) (t : TypeId) : Option ATy := E.ty.get t
def getN (c : T AV) (o : Nat) : Nat → Option (List AV)
  | 0 => some []
  | n + 1 => do
    let v ← c.get o
    let vs ← getN c (o + 1) n
    some (v :: vs)
def setN (c : T AV) (o : Nat) : List AV → T AV
  | [] => c
  | v :: vs => setN (c.set o v) (o + 1) vs
def loadVar (E : Env) (h : Heap) (t : TypeId) (b o : Nat) : Option AV := do
  let ty ← E.t t
  let .cells c _ _ _ ← h.b.get b | none
  if ty.agg then (getN c o ty.size).map .agg else c.get o
def storeCells (h : Heap) (b o : Nat) (vs : List AV) : Option Heap := do
  let .cells c n e false ← h.b.get b | none
  if o + vs.length ≤ n ∧ vs.all AV.one = true then some ⟨h.b.set b (.cells (setN c o vs) n e false), h.next⟩ else none
def storeVar (E : Env) (h : Heap) (t : TypeId) (b o : Nat) (v : AV) : Option Heap := do
  let ty ← E.t t
  if v.cells.length = ty.size then storeCells h b o v.cells else none
def newBlk (h : Heap) (x : Blk) : Heap := ⟨h.b.set h.next x, h.next + 1⟩
/-- A new row of cells: at the heap's next number. -/
def newRow (h : Heap) (e : TypeId) (cs : List AV) : Option Heap :=
  if cs.all AV.one = true then some (newBlk h (.cells (T.ofL cs 0 .leaf) cs.length e false)) else none

/-! ### Operands -/
def ev (tm : T AV) : Operand → Option AV
  | .tmp t => tm.get t
  | .const v => ofV 9 v
  | .global _ => none
  | .func f => some (.func f [] [])
def evs (tm : T AV) : List Operand → Option (List AV)
  | [] => some []
  | x :: xs => do
    let v ← ev tm x
    let vs ← evs tm xs
    some (v :: vs)
def evParts (tm : T AV) : List (Nat × Operand) → Option (List (Nat × AV))
  | [] => some []
  | (i, x) :: xs => do
    let v ← ev tm x
    let vs ← evParts tm xs
    some ((i, v) :: vs)
def evO (tm : T AV) : Option Operand → Option (Option AV)
  | none => some none
  | some x => (ev tm x).map some

/-- The part of a type at a place among cells. -/
def partL (ty : ATy) (cs : List AV) (o : Nat) : Option AV :=
  if ty.agg then (if o + ty.size ≤ cs.length then some (.agg ((cs.drop o).take ty.size)) else none) else cs[o]?

/-! ### The operations that only reckon -/
def wrapI (k : IntKind) (n : Int) : AV := .int k (k.wrap n)
def bitsI (op : BinOp) (k : IntKind) (x y : Int) : Option AV :=
  let a := BitVec.ofInt k.bits x
  let b := BitVec.ofInt k.bits y
  match op with
  | .and => some (wrapI k (a &&& b).toNat)
  | .or => some (wrapI k (a ||| b).toNat)
  | .xor => some (wrapI k (a ^^^ b).toNat)
  | .andNot => some (wrapI k (a &&& ~~~b).toNat)
  | _ => none
def leL : List Nat → List Nat → Bool   -- less
  | _, [] => false
  | [], _ :: _ => true
  | a :: x, b :: y => decide (a < b) || (a == b && leL x y)
def intB (op : BinOp) (k : IntKind) (a b : Int) : Option AV :=
  match op with
  | .add => some (wrapI k (a + b))
  | .sub => some (wrapI k (a - b))
  | .mul => some (wrapI k (a * b))
  | .quo => if b = 0 then none else some (wrapI k (a.tdiv b))
  | .rem => if b = 0 then none else some (.int k (a.tmod b))
  | .and => bitsI .and k a b
  | .or => bitsI .or k a b
  | .xor => bitsI .xor k a b
  | .andNot => bitsI .andNot k a b
  | .eql => some (.bool (a == b))
  | .neq => some (.bool (a != b))
  | .lss => some (.bool (a < b))
  | .leq => some (.bool (a ≤ b))
  | .gtr => some (.bool (a > b))
  | .geq => some (.bool (a ≥ b))
  | _ => none
def strB (op : BinOp) (x y : List Nat) : Option AV :=
  match op with
  | .add => if x.length + y.length ≤ 9223372036854775807 then some (.str (x ++ y)) else none
  | .eql => some (.bool (x == y))
  | .neq => some (.bool (!(x == y)))
  | .lss => some (.bool (leL x y))
  | .leq => some (.bool (leL x y || x == y))
  | .gtr => some (.bool (!(leL x y || x == y)))
  | .geq => some (.bool (!leL x y))
  | _ => none
/-- Two lists of fields, by an equality of parts. -/
def eqFs (E : Env) (q : TypeId → AV → AV → Option Bool) : List (TypeId × Nat) → List AV → List AV → Option Bool
  | [], _, _ => some true
  | (t, o) :: fs, xs, ys => do
    let tf ← E.t t
    let x ← partL tf xs o
    let y ← partL tf ys o
    if ← q t x y then eqFs E q fs xs ys else some false
/-- Equality by a type: of what has no place in memory, of places in one block, of what is nil. -/
def eqV (E : Env) : Nat → TypeId → AV → AV → Option Bool
  | 0, _, _, _ => none
  | d + 1, t, x, y =>
    match E.t t with
    | none => none
    | some ty =>
      match ty.d, x, y with
      | .bool, .bool a, .bool b => some (a == b)
      | .int _, .int k a, .int k' b => if k = k' then some (a == b) else none
      | .string, .str a, .str b => some (a == b)
      | .pointer _, .ptr none, .ptr b => some b.isNone
      | .pointer _, .ptr (some _), .ptr none => some false
      | .pointer e, .ptr (some (b, o)), .ptr (some (b', o')) =>
        match E.t e with
        | some te => if te.size ≠ 0 ∧ b = b' then some (decide (o = o')) else none
        | none => none
      | .interface _, .nilIface, .nilIface => some true
      | .interface _, .nilIface, .iface _ _ => some false
      | .interface _, .iface _ _, .nilIface => some false
      | .interface _, .iface tx vx, .iface tw vy =>
        if tx = tw then (match E.t tx with
          | some ti => if ti.comparable then eqV E d tx vx vy else none
          | none => none) else some false
      | .slice _, .slice none _ _, .slice b _ _ => some b.isNone
      | .slice _, .slice (some _) _ _, .slice none _ _ => some false
      | .map _ _, .map none, .map b => some b.isNone
      | .map _ _, .map (some _), .map none => some false
      | .func _ _ _, .nilFunc, .nilFunc => some true
      | .func _ _ _, .nilFunc, .func .. => some false
      | .func _ _ _, .func .., .nilFunc => some false
      | .struct _, .agg xs, .agg ys => if ty.shy then none else eqFs E (eqV E d) ty.eqf xs ys
      | _, _, _ => none
def isC : Operand → Bool
  | .const _ => true
  | _ => false
/-- What '==' asks ahead: two values nil of an interface's type with methods. -/
def eqAsk (E : Env) (t : TypeId) (x y : Operand) (a b : AV) : Bool :=
  match a, b with
  | .nilIface, .nilIface => isC x || isC y
  | .agg _, .agg _ => match E.t t with | some ty => !ty.shy | none => false
  | _, _ => true
def binV (E : Env) (op : BinOp) (t : TypeId) (x y : Operand) (a b : AV) : Option AV :=
  match op, a, b with
  | .shl, .int k a, .int _ b => if b < 0 then none else some (wrapI k (a * 2 ^ (min b.toNat k.bits)))
  | .shr, .int k a, .int _ b => if b < 0 then none else some (.int k (a.fdiv (2 ^ (min b.toNat k.bits))))
  | op, .int k a, .int k' b => if k = k' then intB op k a b else none
  | op, .str a, .str b => strB op a b
  | .eql, a, b => if eqAsk E t x y a b then (eqV E 9 t a b).map .bool else none
  | .neq, a, b => if eqAsk E t x y a b then (eqV E 9 t a b).map fun r => .bool !r else none
  | _, _, _ => none
def unV (op : UnOp) (x : AV) : Option AV :=
  match op, x with
  | .neg, .int k n => some (wrapI k (0 - n))
  | .xor, .int k n => bitsI .xor k (if k.signed then -1 else k.max) n
  | .not, .bool b => some (.bool !b)
  | _, _ => none
/-- A part laid into cells. -/
def lay (cs : List AV) (o : Nat) (vs : List AV) : Option (List AV) :=
  if o + vs.length ≤ cs.length then some (cs.take o ++ vs ++ cs.drop (o + vs.length)) else none
def fillP (place : Nat → Option (Nat × Nat)) : List (Nat × AV) → List AV → Option (List AV)
  | [], cs => some cs
  | (i, v) :: r, cs => do
    let (o, size) ← place i
    if v.cells.length = size then (do fillP place r (← lay cs o v.cells)) else none
def zeros (z : List AV) : Nat → List AV
  | 0 => []
  | n + 1 => z ++ zeros z n
def fieldsOf (E : Env) : List Field → Option (List (Nat × Nat))
  | [] => some []
  | f :: fs => do
    let tf ← E.t f.type
    let r ← fieldsOf E fs
    some ((f.offset, tf.size) :: r)
def buildV (E : Env) (t : TypeId) (ps : List (Nat × AV)) : Option AV := do
  let ty ← E.t t
  let z ← ty.zero
  match ty.d with
  | .struct fields => do
    let pl ← fieldsOf E fields.toList
    (fillP (fun i => pl[i]?) ps z.cells).map .agg
  | .array _ e => do
    let te ← E.t e
    (fillP (fun i => some (i * te.size, te.size)) ps z.cells).map .agg
  | _ => none
def bound (x : AV) (y : Nat) : Option Nat :=
  match x with
  | .int _ (.ofNat i) => if i ≤ y then some i else none
  | _ => none
/-- The bounds of a slice expression. 'm' is how far one may reach. -/
def bounds3 (len m : Nat) (lo hi : Option AV) : Option (Nat × Nat) := do
  let h ← (match hi with | some v => bound v m | none => some len)
  let l ← (match lo with | some v => bound v h | none => some 0)
  some (l, h)
def moved (a : Option (Nat × Nat)) (n : Nat) : Option (Nat × Nat) := a.map fun p => (p.1, p.2 + n)
def sliceV (E : Env) (t : TypeId) (x : AV) (lo hi mx : Option AV) : Option AV := do
  let ty ← E.t t
  match ty.d, x with
  | .string, .str s => match mx with
    | some _ => none
    | none => do
      let (l, h) ← bounds3 s.length s.length lo hi
      some (.str ((s.drop l).take (h - l)))
  | .slice e, .slice a len cap => do
    let te ← E.t e
    match mx, cap with
    | none, .known c => do
      let (l, h) ← bounds3 len c lo hi
      some (.slice (if c = l then a else moved a (l * te.size)) (h - l) (.known (c - l)))
    | none, .room z => do
      if te.size = z then (do
        let (l, h) ← bounds3 len len lo hi
        some (.slice (moved a (l * te.size)) (h - l) (.room z))) else none
    | some m, .known c => match hi with
      | none => none
      | some _ => do
        let m ← bound m c
        let (l, h) ← bounds3 len m lo hi
        some (.slice (if m = l then a else moved a (l * te.size)) (h - l) (.known (m - l)))
    | some m, .room _ => match hi, a with
      | some _, some _ => do
        let m ← bound m len
        let (l, h) ← bounds3 len m lo hi
        some (.slice (if m = l then a else moved a (l * te.size)) (h - l) (.known (m - l)))
      | _, _ => none
  | .array n e, .ptr (some (b, o)) => match mx with
    | some _ => none
    | none => do
      let te ← E.t e
      let (l, h) ← bounds3 n n lo hi
      some (.slice (some (b, if n = l then o else o + l * te.size)) (h - l) (.known (n - l)))
  | _, _ => none
def convV (src dst : TypeDesc) (x : AV) : Option AV :=
  match src, dst, x with
  | _, .int k, .int _ n => some (wrapI k n)
  | _, .string, .str s => some (.str s)
  | _, _, _ => none
def indexV (E : Env) (t : TypeId) (x i : AV) : Option AV :=
  match i with
  | .int _ (.ofNat n) => do
    let ty ← E.t t
    match ty.d, x with
    | .array len e, .agg cs => do
      let te ← E.t e
      if n < len then partL te cs (n * te.size) else none
    | .string, .str s => s[n]?.map fun c => .int .u8 (.ofNat c)
    | _, _ => none
  | _ => none
def indexA (E : Env) (t : TypeId) (x i : AV) : Option AV :=
  match i with
  | .int _ (.ofNat n) => do
    let ty ← E.t t
    match ty.d, x with
    | .array len e, .ptr (some (b, o)) => do
      let te ← E.t e
      if n < len then some (.ptr (some (b, o + n * te.size))) else none
    | .slice e, .slice (some (b, o)) len _ => do
      let te ← E.t e
      if n < len then some (.ptr (some (b, o + n * te.size))) else none
    | _, _ => none
  | _ => none
def fieldOf (E : Env) (s : TypeId) (f : Nat) : Option (ATy × Nat) := do
  let ty ← E.t s
  match ty.d with
  | .struct fs => do
    let f ← fs[f]?
    let tf ← E.t f.type
    some (tf, f.offset)
  | _ => none
def fieldA (E : Env) (s : TypeId) (x : AV) (f : Nat) : Option AV :=
  match x with
  | .ptr (some (b, o)) => do
    let (tf, off) ← fieldOf E s f
    if tf.size = 0 then none else some (.ptr (some (b, o + off)))
  | _ => none
def fieldV (E : Env) (s : TypeId) (x : AV) (f : Nat) : Option AV :=
  match x with
  | .agg cs => do
    let (tf, off) ← fieldOf E s f
    partL tf cs off
  | _ => none
/-- Fields, each by one question. -/
def keyFs (E : Env) (q : TypeId → AV → Bool) : List (TypeId × Nat) → List AV → Bool
  | [], _ => true
  | (t, o) :: fs, cs => match E.t t with
    | some tf => match partL tf cs o with
      | some x => q t x && keyFs E q fs cs
      | none => false
    | none => false
/-- May it be a key? Of no type with an interface in it. -/
def keyV (E : Env) : Nat → TypeId → AV → Bool
  | 0, _, _ => false
  | d + 1, t, k => match E.t t with
    | some ty => match ty.d with
      | .int _ => true
      | .string => true
      | .bool => true
      | .struct _ => match k with
        | .agg cs => keyFs E (keyV E d) ty.eqf cs
        | _ => false
      | _ => false
    | none => false
def findK (E : Env) (t : TypeId) (k : AV) : List (AV × AV × Nat) → Nat → Option (Option (Nat × AV))
  | [], _ => some none
  | (x, v, _) :: es, i => do
    if ← eqV E 9 t k x then some (some (i, v)) else findK E t k es (i + 1)
/-- Equal, to the last part (functions and code aside: of these false). -/
def eqAV : Nat → AV → AV → Bool
  | 0, _, _ => false
  | d + 1, x, y =>
    match x, y with
    | .undef, .undef => true
    | .bool a, .bool b => a == b
    | .int j a, .int k b => decide (j = k) && a == b
    | .str a, .str b => a == b
    | .ptr none, .ptr none => true
    | .ptr (some (a, o)), .ptr (some (b, p)) => a == b && o == p
    | .slice a l c, .slice b m d => eqA a b && l == m && eqO c d
    | .map none, .map none => true
    | .map (some a), .map (some b) => a == b
    | .nilFunc, .nilFunc => true
    | .func f a b, .func g c d' => f == g && eqs (eqAV d) a c && eqs (eqAV d) b d'
    | .yield a, .yield b => a == b
    | .iface t v, .iface u w => t == u && eqAV d v w
    | .nilIface, .nilIface => true
    | .agg a, .agg b => eqs (eqAV d) a b
    | .tuple a, .tuple b => eqs (eqAV d) a b
    | _, _ => false
where
  eqs (q : AV → AV → Bool) : List AV → List AV → Bool
    | [], [] => true
    | x :: xs, y :: ys => q x y && eqs q xs ys
    | _, _ => false
  eqA : Option (Nat × Nat) → Option (Nat × Nat) → Bool
    | none, none => true
    | some (a, o), some (b, p) => a == b && o == p
    | _, _ => false
  eqO : Cap → Cap → Bool
    | .known a, .known b => a == b
    | .room a, .room b => a == b
    | _, _ => false

def decL (r : List Nat) : Nat × Nat :=
  let at' (k : Nat) : Nat := r.getD k 0
  let cont (k : Nat) : Bool := k < r.length && at' k / 64 == 2
  let b0 := at' 0
  if b0 < 0x80 then (b0, 1)
  else if b0 / 32 == 6 && cont 1 then
    let c := (b0 % 32) * 64 + at' 1 % 64
    if c ≥ 0x80 then (c, 2) else (Utf8.runeError, 1)
  else if b0 / 16 == 14 && cont 1 && cont 2 then
    let c := (b0 % 16) * 4096 + (at' 1 % 64) * 64 + at' 2 % 64
    if c ≥ 0x800 && Utf8.valid c then (c, 3) else (Utf8.runeError, 1)
  else if b0 / 8 == 30 && cont 1 && cont 2 && cont 3 then
    let c := (b0 % 8) * 262144 + (at' 1 % 64) * 4096 + (at' 2 % 64) * 64 + at' 3 % 64
    if c ≥ 0x10000 && Utf8.valid c then (c, 4) else (Utf8.runeError, 1)
  else (Utf8.runeError, 1)
/-! ### The built-in functions -/
def lenV (E : Env) (h : Heap) (t : TypeId) (x : AV) : Option Nat := do
  let ty ← E.t t
  match ty.d, x with
  | .string, .str s => some s.length
  | .array n _, _ => some n
  | .pointer a, _ => do
    let ta ← E.t a
    match ta.d with
    | .array n _ => some n
    | _ => none
  | .slice _, .slice _ n _ => some n
  | .map _ _, .map none => some 0
  | .map _ _, .map (some r) => do
    let .map es _ ← h.b.get r | none
    some es.length
  | _, _ => none
/-- The first cells of a slice, or a string's bytes. -/
def firstV (h : Heap) (size n : Nat) : AV → Option (List AV)
  | .slice (some (b, o)) _ _ => do
    let .cells c _ _ _ ← h.b.get b | none
    getN c o (n * size)
  | .slice none _ _ => some []
  | .str s => some ((s.take n).map fun c => .int .u8 (.ofNat c))
  | _ => none
def lenOfV : AV → Option Nat
  | .slice _ n _ => some n
  | .str s => some s.length
  | _ => none
def St.at (s : St) (h : Heap) : St := { s with hp := h }
def fits (te : ATy) (n : Nat) : Bool := decide (n * te.bytes ≤ 140737488355328) && decide (n ≤ 9223372036854775807) && decide (0 < te.bytes) &&
  (match te.zero with | some z => decide (z.cells.length = te.size) | none => false)
def isSeqD : TypeDesc → Bool
  | .slice _ => true
  | .string => true
  | _ => false
def appendV (E : Env) (ts tx : TypeId) (s x : AV) (st : St) : Option OR := do
  let ty ← E.t ts
  let tyx ← E.t tx
  let n ← lenOfV x
  match ty.d, s with
  | .slice e, .slice base sl cap => do
    if isSeqD tyx.d = false then none else
    let te ← E.t e
    let new ← firstV st.hp te.size n x
    if new.length ≠ n * te.size then none else
    match cap, base with
    | .known c, _ =>
      if sl + n ≤ c then (match base with
        | some (b, o) => do
          let h ← storeCells st.hp b (o + sl * te.size) new
          some (.val (.slice base (sl + n) cap) (st.at h))
        | none => if n = 0 then some (.val s st) else none)
      else if fits te (sl + n) then do
        let old ← firstV st.hp te.size sl s
        let h ← newRow st.hp e (old ++ new)
        some (.val (.slice (some (st.hp.next, 0)) (sl + n) (.room te.size)) (st.at h))
      else none
    | .room z, some (b, _) =>
      if n = 0 then some (.val s st)
      else if fits te (sl + n) then do
        let old ← firstV st.hp te.size sl s
        let .cells _ _ e' false ← st.hp.b.get b | none
        if e = e' ∧ te.size = z then (do
          let h ← newRow ⟨st.hp.b.set b .dead, st.hp.next⟩ e (old ++ new)
          some (.val (.slice (some (st.hp.next, 0)) (sl + n) (.room te.size)) (st.at h))) else none
      else none
    | .room _, none => none
  | _, _ => none
def copyV (E : Env) (td : TypeId) (d x : AV) (st : St) : Option OR := do
  let ty ← E.t td
  let n ← lenOfV x
  match ty.d, d with
  | .slice e, .slice base dl _ => do
    let te ← E.t e
    let cs ← firstV st.hp te.size (min n dl) x
    match base with
    | some (b, o) => do
      let h ← storeCells st.hp b o cs
      some (.val (.int .i64 (.ofNat (min n dl))) (st.at h))
    | none => some (.val (.int .i64 (.ofNat (min n dl))) st)
  | _, _ => none
def clearV (E : Env) (t : TypeId) (x : AV) (st : St) : Option OR := do
  let ty ← E.t t
  match ty.d, x with
  | .slice e, .slice (some (b, o)) n _ =>
    if n = 0 then some (.val (.tuple []) st) else do
    let te ← E.t e
    let z ← te.zero
    if z.cells.length = te.size then (do
      let h ← storeCells st.hp b o (zeros z.cells n)
      some (.val (.tuple []) (st.at h))) else none
  | .slice _, .slice none _ _ => some (.val (.tuple []) st)
  | _, _ => none
def setMap (h : Heap) (r : Nat) (es : List (AV × AV × Nat)) (clock : Nat) : Heap := ⟨h.b.set r (.map es clock), h.next⟩
def deleteV (E : Env) (t : TypeId) (m k : AV) (st : St) : Option OR := do
  let ty ← E.t t
  match ty.d, m with
  | .map kt _, .map (some r) => do
    let .map es clock ← st.hp.b.get r | none
    if keyV E 9 kt k then (do
      match ← findK E kt k es 0 with
      | some (i, _) => some (.val (.tuple []) (st.at (setMap st.hp r (es.eraseIdx i) clock)))
      | none => some (.val (.tuple []) st)) else none
  | _, _ => none
def foldI (f : Int → Int → Int) (k : IntKind) : Int → List AV → Option Int
  | a, [] => some a
  | a, .int k' b :: r => if k = k' then foldI f k (f a b) r else none
  | _, _ => none
def recoverV (cx : Cx) (st : St) : Option OR :=
  match cx.round, st.up with
  | none, some (.panicking ((v, false) :: older)) => some (.val v { st with up := some (.panicking ((v, true) :: older)) })
  | none, _ => some (.val .nilIface st)
  | some _, _ => none
def builtinV (E : Env) (cx : Cx) (b : Builtin) (ts : List TypeId) (vs : List AV) (st : St) : Option OR :=
  match b, ts, vs with
  | .append, [ts, tx], [s, x] => appendV E ts tx s x st
  | .len, [t], [x] => (lenV E st.hp t x).map fun n => .val (.int .i64 (.ofNat n)) st
  | .cap, [t], [.slice _ _ (.known c)] => do
    let ty ← E.t t
    match ty.d with
    | .slice _ => some (.val (.int .i64 (.ofNat c)) st)
    | _ => none
  | .copy, td :: _, [d, x] => copyV E td d x st
  | .clear, [t], [x] => clearV E t x st
  | .delete, t :: _, [m, k] => deleteV E t m k st
  | .max, _, .int k a :: r => (foldI (fun x y => if y > x then y else x) k a r).map fun n => .val (.int k n) st
  | .min, _, .int k a :: r => (foldI (fun x y => if y < x then y else x) k a r).map fun n => .val (.int k n) st
  | .recover, _, _ => recoverV cx st
  | _, _, _ => none

/-! ### Calls -/
def settle : Md → Md
  | .panicking ((_, true) :: _) => .returning
  | m => m
def raised (u : Md) (c : Chain) : Md :=
  match u with
  | .panicking old => .panicking (c ++ old)
  | .returning => .panicking c
def jumpOf : Ex → Option Code
  | .ret => some .ret
  | .exit id => some (.exit id)
  | .goto l => some (.goto l)
  | _ => none
def exOf : Code → Option Ex
  | .ret => some .ret
  | .exit id => some (.exit id)
  | .goto l => some (.goto l)
  | _ => none
def setPs (tm : T AV) (nt : Nat) : List Tmp → List AV → Option (T AV)
  | [], [] => some tm
  | p :: ps, v :: vs => if p < nt then setPs (tm.set p v) nt ps vs else none
  | _, _ => none
def roundV (E : Env) (R : Rec) (l : Nat) (args : List AV) (h : Heap) : Option Rs := do
  let .loop _ _ fn nt tm ps assign body _ ← h.b.get l | none
  let tm ← setPs tm nt ps args
  let (.normal, ⟨tm, [], _, h⟩) ← R.code ⟨fn, nt, some l⟩ assign ⟨tm, [], none, h⟩ | none
  let .loop .ready pend fn' nt' tm' ps' as' bd' df ← h.b.get l | none
  let (ex, ⟨_, [], _, h⟩) ← R.code ⟨fn, nt, some l⟩ body ⟨tm, [], none, ⟨h.b.set l (.loop .busy pend fn' nt' tm' ps' as' bd' df), h.next⟩⟩ | none
  match ex with
  | .panic c => (E.fn.get fn).map fun _ => .pan c none h
  | ex => do
    let .loop _ _ fn' nt' tm' ps' as' bd' df ← h.b.get l | none
    match jumpOf ex with
    | none => some (.ret (.bool true) none ⟨h.b.set l (.loop .ready none fn' nt' tm' ps' as' bd' df), h.next⟩)
    | some j => some (.ret (.bool false) none ⟨h.b.set l (.loop .done (some j) fn' nt' tm' ps' as' bd' df), h.next⟩)
def placeOf (c : Nat) : List Nat → Nat → Int
  | [], _ => -1
  | x :: xs, i => if x = c then (i : Int) else placeOf c xs (i + 1)
def extV (n : Nat) (args : List AV) : Option AV :=
  match n, args with
  | 1, [.str s, .int .u8 (.ofNat c)] => if c < 256 then some (.int .i64 (placeOf c s 0)) else none
  | _, _ => none
def callV (E : Env) (R : Rec) (f : AV) (args : List AV) (h : Heap) : Option Rs :=
  match f with
  | .func g first captured => match E.ext.get g with
    | some n => (extV n (first ++ args ++ captured)).map fun v => .ret v none h
    | none => R.call g (first ++ args ++ captured) none h
  | .yield l => roundV E R l args h
  | _ => none
def callee (tm : T AV) (c : Call) : Option (AV × List AV) :=
  match c.callee with
  | .value f => do
    let f ← ev tm f
    let vs ← evs tm c.args.toList
    some (f, vs)
  | _ => none

/-! ### One operation -/
def valR (st : St) (x : Option AV) : Option OR := x.map fun v => .val v st
def laid (st : St) (h : Option Heap) (v : AV) : Option OR := h.map fun h => .val v (st.at h)
def oPick (st : St) (c a b : Operand) : Option OR := do
  let .bool c ← ev st.tm c | none
  valR st (if c then ev st.tm a else ev st.tm b)
def oAlloc (E : Env) (st : St) (t : TypeId) : Option OR := do
  let ty ← E.t t
  let z ← ty.zero
  laid st (newRow st.hp t z.cells) (.ptr (some (st.hp.next, 0)))
def oBox (E : Env) (st : St) (t : TypeId) (x : Operand) : Option OR := do
  let _ ← E.t t
  let v ← ev st.tm x
  laid st (newRow st.hp t v.cells) (.ptr (some (st.hp.next, 0)))
def oBuild (E : Env) (st : St) (t : TypeId) (ps : Array (Nat × Operand)) : Option OR := do
  let ps ← evParts st.tm ps.toList
  valR st (buildV E t ps)
def oBuildSlice (E : Env) (st : St) (t : TypeId) (len : Nat) (ps : Array (Nat × Operand)) : Option OR := do
  let ty ← E.t t
  let ps ← evParts st.tm ps.toList
  match ty.d with
  | .slice e => do
    let te ← E.t e
    if len * te.size ≤ 16777216 then (do
      let zs ← (if len * te.size = 0 then some [] else do
        let z ← te.zero
        if z.cells.length = te.size then some (zeros z.cells len) else none)
      let cs ← fillP (fun i => some (i * te.size, te.size)) ps zs
      laid st (newRow st.hp e cs) (.slice (some (st.hp.next, 0)) len (.known len))) else none
  | _ => none
def oLoad (E : Env) (st : St) (t : TypeId) (x : Operand) : Option OR := do
  let .ptr (some (b, o)) ← ev st.tm x | none
  valR st (loadVar E st.hp t b o)
def oStore (E : Env) (st : St) (t : TypeId) (x y : Operand) : Option OR := do
  let .ptr (some (b, o)) ← ev st.tm x | none
  let v ← ev st.tm y
  laid st (storeVar E st.hp t b o v) .undef
def oNilCheck (st : St) (x : Operand) : Option OR := do
  match ← ev st.tm x with
  | .ptr (some a) => some (.val (.ptr (some a)) st)
  | .func f a b => some (.val (.func f a b) st)
  | _ => none
def oBinOp (E : Env) (st : St) (op : BinOp) (t : TypeId) (x y : Operand) : Option OR := do
  let a ← ev st.tm x
  let b ← ev st.tm y
  valR st (binV E op t x y a b)
def oUnOp (st : St) (op : UnOp) (x : Operand) : Option OR := do
  let v ← ev st.tm x
  valR st (unV op v)
def byteOfV : AV → Option Nat
  | .int .u8 (.ofNat n) => if n < 256 then some n else none
  | _ => none
def bytesOfV : List AV → Option (List Nat)
  | [] => some []
  | v :: vs => do
    let n ← byteOfV v
    let r ← bytesOfV vs
    some (n :: r)
def oConvert (E : Env) (st : St) (src dst : TypeId) (x : Operand) : Option OR := do
  let s ← E.t src
  let d ← E.t dst
  let v ← ev st.tm x
  match s.d, d.d, v with
  | .slice e, .string, .slice base n cap => do
    let te ← E.t e
    match te.d with
    | .int .u8 => do
      let cs ← firstV st.hp 1 n (.slice base n cap)
      valR st ((bytesOfV cs).map .str)
    | _ => none
  | .string, .slice e, .str s => do
    let te ← E.t e
    match te.d with
    | .int .u8 => if s.length ≤ 140737488355328 ∧ te.size = 1 then laid st (newRow st.hp e (s.map fun c => .int .u8 (.ofNat c))) (.slice (some (st.hp.next, 0)) s.length (.room 1)) else none
    | _ => none
  | s, d, v => valR st (convV s d v)
def oMakeInterface (E : Env) (st : St) (t : TypeId) (x : Operand) : Option OR := do
  let ty ← E.t t
  let v ← ev st.tm x
  match ty.d with
  | .interface _ => none
  | _ => some (.val (.iface t v) st)
def oMakeFunc (st : St) (fn : Fn) (first captured : Array Operand) : Option OR := do
  let a ← evs st.tm first.toList
  let b ← evs st.tm captured.toList
  match fn with
  | .func f => some (.val (.func f a b) st)
  | _ => none
def oMakeMap (E : Env) (st : St) (t : TypeId) (r : Option Operand) : Option OR := do
  let ty ← E.t t
  match ty.d, ← evO st.tm r with
  | .map _ _, none => some (.val (.map (some st.hp.next)) (st.at (newBlk st.hp (.map [] 0))))
  | .map _ _, some (.int _ _) => some (.val (.map (some st.hp.next)) (st.at (newBlk st.hp (.map [] 0))))
  | _, _ => none
def oMakeSlice (E : Env) (st : St) (t : TypeId) (l c : Operand) : Option OR := do
  let ty ← E.t t
  let .int .i64 (.ofNat l) ← ev st.tm l | none
  let .int .i64 (.ofNat c) ← ev st.tm c | none
  match ty.d with
  | .slice e => do
    let te ← E.t e
    let z ← te.zero
    if l ≤ c ∧ fits te c = true then
      laid st (newRow st.hp e (zeros z.cells c)) (.slice (some (st.hp.next, 0)) l (.known c))
    else none
  | _ => none
def oSlice (E : Env) (st : St) (t : TypeId) (x : Operand) (lo hi mx : Option Operand) : Option OR := do
  let v ← ev st.tm x
  let lo ← evO st.tm lo
  let hi ← evO st.tm hi
  let mx ← evO st.tm mx
  valR st (sliceV E t v lo hi mx)
def oFieldAddr (E : Env) (st : St) (s : TypeId) (x : Operand) (f : Nat) : Option OR := do
  let v ← ev st.tm x
  valR st (fieldA E s v f)
def oField (E : Env) (st : St) (t : TypeId) (x : Operand) (f : Nat) : Option OR := do
  let v ← ev st.tm x
  valR st (fieldV E t v f)
def oIndexAddr (E : Env) (st : St) (t : TypeId) (x i : Operand) : Option OR := do
  let v ← ev st.tm x
  let i ← ev st.tm i
  valR st (indexA E t v i)
def oIndex (E : Env) (st : St) (t : TypeId) (x i : Operand) : Option OR := do
  let v ← ev st.tm x
  let i ← ev st.tm i
  valR st (indexV E t v i)
def mapAt (h : Heap) : Option Nat → Option (List (AV × AV × Nat))
  | none => some []
  | some r => do
    let .map es _ ← h.b.get r | none
    some es
def oLookup (E : Env) (st : St) (t : TypeId) (m k : Operand) (ok : Bool) : Option OR := do
  let ty ← E.t t
  let .map r ← ev st.tm m | none
  let kv ← ev st.tm k
  match ty.d with
  | .map kt et =>
    if keyV E 9 kt kv then (do
      let es ← mapAt st.hp r
      let te ← E.t et
      match ← findK E kt kv es 0 with
      | some (_, v) => some (.val (if ok then .tuple [v, .bool true] else v) st)
      | none => do
        let z ← te.zero
        some (.val (if ok then .tuple [z, .bool false] else z) st)) else none
  | _ => none
def oMapUpdate (E : Env) (st : St) (t : TypeId) (m k x : Operand) : Option OR := do
  let ty ← E.t t
  let .map (some r) ← ev st.tm m | none
  let kv ← ev st.tm k
  let v ← ev st.tm x
  let .map es clock ← st.hp.b.get r | none
  match ty.d with
  | .map kt _ =>
    if keyV E 9 kt kv then (do
      match ← findK E kt kv es 0 with
      | some (i, _) => do
        let e ← es[i]?
        if eqAV 9 e.1 kv then some (.val .undef (st.at (setMap st.hp r (es.modify i fun e => (kv, v, e.2.2)) clock))) else none
      | none => some (.val .undef (st.at (setMap st.hp r (es ++ [(kv, v, clock)]) (clock + 1))))) else none
  | _ => none
def oMapEntry (E : Env) (st : St) (t : TypeId) (m k : Operand) : Option OR := do
  let ty ← E.t t
  let .map (some r) ← ev st.tm m | none
  let kv ← ev st.tm k
  let .map es clock ← st.hp.b.get r | none
  match ty.d with
  | .map kt et =>
    if keyV E 9 kt kv then (do
      match ← findK E kt kv es 0 with
      | some (i, v) => do
        let e ← es[i]?
        if eqAV 9 e.1 kv then some (.val (.tuple [v, .int .i64 (.ofNat e.2.2)]) (st.at (setMap st.hp r (es.modify i fun e => (kv, e.2)) clock))) else none
      | none => do
        let te ← E.t et
        let z ← te.zero
        some (.val (.tuple [z, .int .i64 (.ofNat clock)]) (st.at (setMap st.hp r (es ++ [(kv, z, clock)]) (clock + 1))))) else none
  | _ => none
def oEntryStore (st : St) (m s x : Operand) : Option OR := do
  let .map (some r) ← ev st.tm m | none
  let .int _ (.ofNat born) ← ev st.tm s | none
  let v ← ev st.tm x
  let .map es clock ← st.hp.b.get r | none
  let i ← es.findIdx? (fun e => e.2.2 == born)
  some (.val .undef (st.at (setMap st.hp r (es.modify i fun e => (e.1, v, e.2.2)) clock)))
def oRange (E : Env) (st : St) (t : TypeId) (x : Operand) : Option OR := do
  let ty ← E.t t
  let .str s ← ev st.tm x | none
  match ty.d with
  | .string => some (.val (.ptr (some (st.hp.next, 0))) (st.at (newBlk st.hp (.siter s 0))))
  | _ => none
def oNext (st : St) (it : Operand) (isS : Bool) : Option OR := do
  if isS then (do
    let .ptr (some (r, 0)) ← ev st.tm it | none
    let .siter rest pos ← st.hp.b.get r | none
    match rest with
    | [] => some (.val (.tuple [.bool false]) st)
    | x :: xs => some (.val (.tuple [.bool true, .int .i64 (.ofNat pos), .int .i32 (.ofNat (decL (x :: xs)).1)])
        (st.at ⟨st.hp.b.set r (.siter ((x :: xs).drop (decL (x :: xs)).2) (pos + (decL (x :: xs)).2)), st.hp.next⟩))) else none
def oTypeAssert (E : Env) (st : St) (x : Operand) (asserted : TypeId) (ok : Bool) : Option OR := do
  let ta ← E.t asserted
  let v ← ev st.tm x
  match ta.d, v with
  | .interface _, _ => none
  | _, .iface t v =>
    if t = asserted then some (.val (if ok then .tuple [v, .bool true] else v) st)
    else if ok then (do
      let z ← ta.zero
      some (.val (.tuple [z, .bool false]) st))
    else do
      let te ← E.t E.rt.typeAssertionError
      match te.d with
      | .pointer _ => some (.pan [(.iface E.rt.typeAssertionError (.ptr (some (st.hp.next, 0))), false)] (st.at (newBlk st.hp .dead)))
      | _ => none
  | _, .nilIface => if ok then (do
      let z ← ta.zero
      some (.val (.tuple [z, .bool false]) st)) else none
  | _, _ => none
def oExtract (st : St) (x : Operand) (i : Nat) : Option OR := do
  let .tuple vs ← ev st.tm x | none
  valR st vs[i]?
def oCall (E : Env) (R : Rec) (cx : Cx) (st : St) (c : Call) : Option OR :=
  match c.callee with
  | .builtin b => do
    let vs ← evs st.tm c.args.toList
    builtinV E cx b c.argTypes.toList vs st
  | _ => do
    let (f, vs) ← callee st.tm c
    match ← callV E R f vs st.hp with
    | .ret v _ h => some (.val v (st.at h))
    | .pan c _ h => some (.pan c (st.at h))
def oDefer (cx : Cx) (st : St) (c : Call) : Option OR :=
  match cx.round with
  | none => do
    let (.func f first captured, vs) ← callee st.tm c | none
    some (.val .undef { st with df := .call f (first ++ vs) captured :: st.df })
  | some _ => none
def oPanic (st : St) (x : Operand) : Option OR := do
  let .iface t v ← ev st.tm x | none
  some (.pan [(.iface t v, false)] st)
/-- One operation. -/
def opGo (E : Env) (R : Rec) (cx : Cx) (op : Op) (st : St) : Option OR :=
  match op with
  | .move x => valR st (ev st.tm x)
  | .assign x => valR st (ev st.tm x)
  | .pick c a b => oPick st c a b
  | .alloc t => oAlloc E st t
  | .box t x => oBox E st t x
  | .build t ps => oBuild E st t ps
  | .buildSlice t len ps => oBuildSlice E st t len ps
  | .load t x => oLoad E st t x
  | .store t x y => oStore E st t x y
  | .nilCheck x => oNilCheck st x
  | .binOp op t x y _ => oBinOp E st op t x y
  | .unOp op _ x => oUnOp st op x
  | .convert src dst x => oConvert E st src dst x
  | .makeInterface t x => oMakeInterface E st t x
  | .makeFunc fn first captured => oMakeFunc st fn first captured
  | .makeMap t r => oMakeMap E st t r
  | .makeSlice t l c => oMakeSlice E st t l c
  | .slice t x lo hi mx => oSlice E st t x lo hi mx
  | .fieldAddr s x f => oFieldAddr E st s x f
  | .field t x f => oField E st t x f
  | .indexAddr t x i => oIndexAddr E st t x i
  | .index t x i => oIndex E st t x i
  | .lookup t m k ok => oLookup E st t m k ok
  | .mapUpdate t m k x => oMapUpdate E st t m k x
  | .mapEntry t m k => oMapEntry E st t m k
  | .entryStore _ m s x => oEntryStore st m s x
  | .range t x => oRange E st t x
  | .next it isS => oNext st it isS
  | .typeAssert x _ asserted ok => oTypeAssert E st x asserted ok
  | .extract x i => oExtract st x i
  | .call c => oCall E R cx st c
  | .defer c => oDefer cx st c
  | .panic x => oPanic st x
  | _ => none
def opStep (E : Env) (R : Rec) (cx : Cx) (o : Oper) (st : St) : Option OR := opGo E R cx o.op st

/-! ### Regions -/
def put (cx : Cx) (dst : Option Tmp) (v : AV) (s : St) : Option St :=
  match dst with
  | none => some s
  | some d => if d < cx.nt then some { s with tm := s.tm.set d v } else none
def wantedV (all : List Oper) (o : Oper) (tm : T AV) : Option Bool :=
  match o.guard with
  | none => some true
  | some (j, want) => do
    let g ← all[j]?
    let d ← g.dst
    match ← tm.get d with
    | .bool b => some (b == want)
    | _ => some false
/-- One operation of a region: done, or passed over. -/
def oneOp (E : Env) (R : Rec) (cx : Cx) (all : List Oper) (o : Oper) (s : St) : Option OR := do
  if ← wantedV all o s.tm then
    match ← opStep E R cx o s with
    | .val v s => (put cx o.dst v s).map fun s => .val v s
    | .pan c s => some (.pan c s)
  else (put cx o.dst .undef s).map fun s => .val .undef s
def opsRun (E : Env) (R : Rec) (cx : Cx) (all : List Oper) : List Oper → St → Option (Ex × St)
  | [], s => some (.normal, s)
  | o :: os, s => do
    match ← oneOp E R cx all o s with
    | .val _ s => opsRun E R cx all os s
    | .pan c s => some (.panic c, s)

/-- What an operation does to memory: nothing, it reads, it lays one new block, it does more. -/
inductive Kd where
  | reck | look | lay | act
  deriving DecidableEq
def kindOf (E : Env) : Op → Kd
  | .move _ => .reck
  | .assign _ => .reck
  | .pick .. => .reck
  | .build .. => .reck
  | .nilCheck _ => .reck
  | .binOp .. => .reck
  | .unOp .. => .reck
  | .makeInterface .. => .reck
  | .makeFunc .. => .reck
  | .slice .. => .reck
  | .fieldAddr .. => .reck
  | .field .. => .reck
  | .indexAddr .. => .reck
  | .index .. => .reck
  | .extract .. => .reck
  | .typeAssert .. => .reck
  | .load .. => .look
  | .lookup .. => .look
  | .call c => match c.callee with
    | .builtin .len => .look
    | _ => .act
  | .alloc _ => .lay
  | .box .. => .lay
  | .buildSlice .. => .lay
  | .makeMap .. => .lay
  | .makeSlice .. => .lay
  | .range .. => .lay
  | .convert src dst _ => match E.t src, E.t dst with
    | some s, some d => match s.d, d.d with
      | .slice _, .string => .look
      | .string, .slice _ => .lay
      | _, _ => .reck
    | _, _ => .act
  | _ => .act
/-- The operations that surely come ahead, as bits. -/
def aheadOf (bs : List Nat) (o : Oper) : Nat :=
  o.after.toList.foldl (fun s e => if Region.binds .any e then s ||| 2 ^ e.on ||| bs.getD e.on 0 else s) 0
def aheads : List Oper → List Nat → List Nat
  | [], bs => bs
  | o :: os, bs => aheads os (bs ++ [aheadOf bs o])
/-- Does i surely come ahead of j? -/
def ahead (bs : List Nat) (i j : Nat) : Bool := (bs.getD j 0).testBit i
/-- The slots that an operation names. -/
def namesOf (all : List Oper) (o : Oper) : List Nat :=
  o.dst.toList ++ (o.op.operands.toList.filterMap fun x => match x with | .tmp t => some t | _ => none) ++
    (match o.guard with
     | some (j, _) => match all[j]? with | some g => g.dst.toList | none => []
     | none => [])
/-- No two operations meet at a slot that one of them writes, unless the earlier one surely comes ahead; those that act come in one row; each edge leads back. -/
def fine (E : Env) (all : List Oper) : Bool :=
  let bs := aheads all []
  (all.zipIdx.all fun (y, j) => (y.after.toList.all fun e => !Region.binds .any e || decide (e.on < j)) &&
    (all.zipIdx.all fun (x, i) => !decide (i < j) || ahead bs i j ||
      ((match x.dst with | some d => !(namesOf all y).contains d | none => true) && (match y.dst with | some d => !(namesOf all x).contains d | none => true) &&
       !(decide (kindOf E x.op = .act) && decide (kindOf E y.op = .act)))))
/-- Does a value name blocks below a number alone? -/
def below : Nat → Nat → AV → Bool
  | 0, _, _ => false
  | d + 1, k, v =>
    match v with
    | .ptr (some p) => p.1 < k
    | .slice (some p) _ _ => p.1 < k
    | .map (some r) => r < k
    | .func _ a c => a.all (below d k) && c.all (below d k)
    | .yield l => l < k
    | .iface _ x => below d k x
    | .agg cs => cs.all (below d k)
    | .tuple cs => cs.all (below d k)
    | _ => true
structure Tr where
  o : Oper
  s : St
  v : AV
/-- The slots that a region's operations write. -/
def dsts (all : List Oper) : List Nat := all.filterMap (·.dst)
def drawRun (E : Env) (R : Rec) (cx : Cx) (all : List Oper) : List Oper → St → Option (List Tr × Ex × St)
  | [], s => some ([], .normal, s)
  | o :: os, s => do
    match ← oneOp E R cx all o s with
    | .val v s' =>
      if below 9 s'.hp.next v = true ∧ s.hp.next ≤ s'.hp.next then (do
        let (l, ex, s'') ← drawRun E R cx all os s'
        some (⟨o, s, v⟩ :: l, ex, s'')) else none
    | .pan c s' => if kindOf E o.op = .act then some ([⟨o, s, .undef⟩], .panic c, { s' with tm := s'.tm.dels (dsts all) }) else none

/-- Is what the i-th operation looked at the same in a heap? -/
def stableAt (E : Env) (R : Rec) (cx : Cx) (x : Tr) (h : Heap) : Bool :=
  match opStep E R cx x.o { x.s with hp := h } with
  | some (.val v _) => eqAV 9 v x.v
  | _ => false
/-- In each heap ahead of what acts, and in the last one, in which it may be asked. -/
def stables (E : Env) (R : Rec) (cx : Cx) (all : List Oper) (bs : List Nat) (tr : List Tr) (last : Heap) (i : Nat) (x : Tr) : Bool :=
  (List.range (tr.length + 1)).all fun p =>
    (decide (p < tr.length) && !(match all[p]? with | some o => decide (kindOf E o.op = .act) | none => false)) ||
    (List.range all.length).any (fun e => (match all[e]? with | some o => decide (kindOf E o.op = .act) | none => false) &&
      ((ahead bs e i && decide (p ≤ e)) || (ahead bs i e && decide (e < p)))) ||
    stableAt E R cx x (match tr[p]? with | some y => y.s.hp | none => last)
def drawV (E : Env) (R : Rec) (cx : Cx) (all : List Oper) (s : St) : Option (Ex × St) := do
  let (tr, ex, s') ← drawRun E R cx all all s
  let bs := aheads all []
  if fine E all = true ∧ (tr.zipIdx.all fun (x, i) => decide (kindOf E x.o.op ≠ .look) || decide (wantedV all x.o x.s.tm ≠ some true) || stables E R cx all bs tr s'.hp i x) = true ∧
      (tr.length = all.length ∨ (List.range all.length).all (fun i => decide (i < tr.length) || ahead bs (tr.length - 1) i) = true)
  then some (ex, s') else none

/-! ### Code -/
def resultsV (E : Env) (s : St) : List ResultVar → Option (List AV)
  | [] => some []
  | r :: rs => do
    let v ← (match r with
      | .tmp t => s.tm.get t
      | .cell a t => do
        let .ptr (some (b, o)) ← s.tm.get a | none
        loadVar E s.hp t b o)
    let vs ← resultsV E s rs
    some (v :: vs)
def resV : List AV → AV
  | [v] => v
  | vs => .tuple vs
def leaveStep (E : Env) (R : Rec) (fn : Func) (s : St) (m : Md) : Option Rs :=
  match s.df with
  | [] => match m with
    | .returning => do
      let vs ← resultsV E s fn.results.toList
      some (.ret (resV vs) s.up s.hp)
    | .panicking c => some (.pan c s.up s.hp)
  | .mark b :: ds => do
    let .deferred ← s.hp.b.get b | none
    R.leave fn { s with df := ds, hp := ⟨s.hp.b.set b .dead, s.hp.next⟩ } m
  | .call f args cap :: ds => do
    match ← R.call f (args ++ cap) (some m) s.hp with
    | .ret _ (some u) h => R.leave fn { s with df := ds, hp := h } (settle u)
    | .pan c (some u) h => R.leave fn { s with df := ds, hp := h } (raised u c)
    | _ => none
def callStep (E : Env) (R : Rec) (f : FuncId) (args : List AV) (up : Option Md) (h : Heap) : Option Rs := do
  let fn ← E.fn.get f
  let c ← fn.body
  if args.length ≤ fn.ntmps then (do
    match ← R.code ⟨f, fn.ntmps, none⟩ c ⟨T.ofL args 0 .leaf, [], up, h⟩ with
    | (.normal, s) => R.leave fn s .returning
    | (.ret, s) => R.leave fn s .returning
    | (.panic c, s) => R.leave fn s (.panicking c)
    | _ => none) else none
def endRange (s : St) (l : Nat) (h : Heap) : Option (Ex × St) := do
  let .loop state pend fn nt tm ps as' bd df ← h.b.get l | none
  if state = .busy then none else
  match pend with
  | none => some (.normal, s.at ⟨h.b.set l (.loop .exhausted pend fn nt tm ps as' bd df), h.next⟩)
  | some j => (exOf j).map fun e => (e, s.at ⟨h.b.set l (.loop .exhausted pend fn nt tm ps as' bd df), h.next⟩)
def rangeGo (R : Rec) (cx : Cx) (g : FuncId) (first captured : List AV) (ps : List Tmp) (assign body : Code) (df : Nat) (s : St) : Option (Ex × St) := do
  match ← R.call g (first ++ [.yield s.hp.next] ++ captured) none (newBlk s.hp (.loop .ready none cx.fn cx.nt s.tm ps assign body df)) with
  | .ret _ _ h => endRange s s.hp.next h
  | .pan c _ h => some (.panic c, s.at h)
def rangeV (R : Rec) (cx : Cx) (f : Operand) (ps : List Tmp) (assign body : Code) (s : St) : Option (Ex × St) := do
  let .func g first captured ← ev s.tm f | none
  match cx.round with
  | none => rangeGo R cx g first captured ps assign body s.hp.next { s with df := .mark s.hp.next :: s.df, hp := newBlk s.hp .deferred }
  | some l => do
    let .loop _ _ _ _ _ _ _ _ df ← s.hp.b.get l | none
    rangeGo R cx g first captured ps assign body df s
def codeStep (E : Env) (R : Rec) (cx : Cx) (c : Code) (s : St) : Option (Ex × St) :=
  match c with
  | .skip => some (.normal, s)
  | .label _ => some (.normal, s)
  | .region _ ops draw => if draw then drawV E R cx ops.toList s else opsRun E R cx ops.toList ops.toList s
  | .seq a b => do
    match ← R.code cx a s with
    | (.normal, s) => R.code cx b s
    | r => some r
  | .cond c a b => do
    let .bool t ← ev s.tm c | none
    if t then R.code cx a s else R.code cx b s
  | .block id b => do
    match ← R.code cx b s with
    | (.exit j, s) => if j = id then some (.normal, s) else some (.exit j, s)
    | r => some r
  | .loop b => do
    match ← R.code cx b s with
    | (.normal, s) => R.code cx (.loop b) s
    | r => some r
  | .rangeFunc f ps assign body => rangeV R cx f ps.toList assign body s
  | .exit id => some (.exit id, s)
  | .goto l => some (.goto l, s)
  | .ret => some (.ret, s)
  | .scope b => R.scope cx b b s
  | .refuse _ => none
def scopeStep (R : Rec) (cx : Cx) (b c : Code) (s : St) : Option (Ex × St) := do
  match ← R.code cx c s with
  | (.goto l, s) => match findLabel b l with
    | some r => R.scope cx b r s
    | none => some (.goto l, s)
  | r => some r
def stepR (E : Env) (R : Rec) : Rec where
  code := codeStep E R
  call := callStep E R
  leave := leaveStep E R
  scope := scopeStep R
def rec0 : Rec := ⟨fun _ _ _ => none, fun _ _ _ _ => none, fun _ _ _ => none, fun _ _ _ _ => none⟩
def aev (E : Env) : Nat → Rec
  | 0 => rec0
  | n + 1 => stepR E (aev E n)
/-! ### The tables of a program -/
def tyOf (P : Program) (t : TypeId) : Option ATy :=
  match P.info? t, P.underlying t with
  | some i, some d => some {
      d, size := i.size, bytes := i.bytes, comparable := i.comparable
      zero := match i.zero with | some z => ofV 9 z | none => none
      agg := match d with | .struct _ => true | .array .. => true | _ => false
      shy := P.eqGuardType P.depth t || P.stoodInHeld t
      eqf := match d with | .struct fs => (fs.toList.filter fun f => f.name ≠ "_").map fun f => (f.type, f.offset) | _ => [] }
  | _, _ => none
end Go.Av

/- The small map: what is set is got. -/
namespace Go.Av
namespace T
variable {α : Type}
theorem get_leaf (j : Nat) : (leaf : T α).get j = none := by cases j <;> rfl
theorem get_node (l : T α) (v : Option α) (r : T α) (i : Nat) :
    (node l v r).get i = if i = 0 then v else if i % 2 = 1 then l.get (i / 2) else r.get (i / 2 - 1) := by
  simp only [get, cond_eq_ite, Nat.beq_eq]
theorem get_single (n i : Nat) (v : α) (h : i ≤ n) (j : Nat) : (single n i v).get j = if j = i then some v else none := by
  induction n generalizing i j with
  | zero =>
    obtain rfl : i = 0 := by omega
    simp only [single, get_node, get_leaf]
    split <;> simp
  | succ n ih =>
    simp only [single, cond_eq_ite, Nat.beq_eq]
    by_cases h0 : i = 0
    · simp only [h0, if_true, get_node, get_leaf]
      split <;> simp
    · simp only [h0, if_false]
      by_cases h1 : i % 2 = 1
      · simp only [h1, if_true, get_node, get_leaf]
        rw [ih (i / 2) (by omega)]
        by_cases j0 : j = 0
        · simp only [j0, if_true]; rw [if_neg (by omega)]
        · simp only [j0, if_false]
          by_cases j1 : j % 2 = 1
          · simp only [j1, if_true]
            by_cases e : j / 2 = i / 2
            · rw [if_pos e, if_pos (by omega)]
            · rw [if_neg e, if_neg (fun e' => e (by rw [e']))]
          · simp only [j1, if_false]; rw [if_neg (fun e => j1 (by rw [e]; exact h1))]
      · simp only [h1, if_false, get_node, get_leaf]
        rw [ih (i / 2 - 1) (by omega)]
        by_cases j0 : j = 0
        · simp only [j0, if_true]; rw [if_neg (by omega)]
        · simp only [j0, if_false]
          by_cases j1 : j % 2 = 1
          · simp only [j1, if_true]; rw [if_neg (fun e => h1 (by rw [← e]; exact j1))]
          · simp only [j1, if_false]
            by_cases e : j / 2 - 1 = i / 2 - 1
            · rw [if_pos e, if_pos (by omega)]
            · rw [if_neg e, if_neg (fun e' => e (by rw [e']))]
theorem get_set (t : T α) (i : Nat) (v : α) (j : Nat) : (t.set i v).get j = if j = i then some v else t.get j := by
  induction t generalizing i j with
  | leaf => simp only [set, get_leaf]; exact get_single i i v (Nat.le_refl _) j
  | node l w r ihl ihr =>
    simp only [set, cond_eq_ite, Nat.beq_eq]
    by_cases h0 : i = 0
    · simp only [h0, if_true, get_node]
      split <;> simp [*]
    · simp only [h0, if_false]
      by_cases h1 : i % 2 = 1
      · simp only [h1, if_true, get_node]
        rw [ihl]
        by_cases j0 : j = 0
        · simp only [j0, if_true]; rw [if_neg (by omega)]
        · simp only [j0, if_false]
          by_cases j1 : j % 2 = 1
          · simp only [j1, if_true]
            by_cases e : j / 2 = i / 2
            · rw [if_pos e, if_pos (by omega)]
            · rw [if_neg e, if_neg (fun e' => e (by rw [e']))]
          · simp only [j1, if_false]; rw [if_neg (fun e => j1 (by rw [e]; exact h1))]
      · simp only [h1, if_false, get_node]
        rw [ihr]
        by_cases j0 : j = 0
        · simp only [j0, if_true]; rw [if_neg (by omega)]
        · simp only [j0, if_false]
          by_cases j1 : j % 2 = 1
          · simp only [j1, if_true]; rw [if_neg (fun e => h1 (by rw [← e]; exact j1))]
          · simp only [j1, if_false]
            by_cases e : j / 2 - 1 = i / 2 - 1
            · rw [if_pos e, if_pos (by omega)]
            · rw [if_neg e, if_neg (fun e' => e (by rw [e']))]
theorem get_del (t : T α) (i j : Nat) : (t.del i).get j = if j = i then none else t.get j := by
  induction t generalizing i j with
  | leaf => simp only [del, get_leaf]; split <;> rfl
  | node l w r ihl ihr =>
    simp only [del, cond_eq_ite, Nat.beq_eq]
    by_cases h0 : i = 0
    · simp only [h0, if_true, get_node]
      by_cases hj : j = 0
      · simp [hj]
      · simp [hj]
    · simp only [h0, if_false]
      by_cases h1 : i % 2 = 1
      · simp only [h1, if_true, get_node, ihl]
        by_cases hj : j = 0
        · simp only [hj, if_true]; rw [if_neg (by omega)]
        · simp only [hj, if_false]
          by_cases hj1 : j % 2 = 1
          · simp only [hj1, if_true]
            by_cases e : j / 2 = i / 2
            · rw [if_pos e, if_pos (by omega)]
            · rw [if_neg e, if_neg (fun e' => e (by rw [e']))]
          · simp only [hj1, if_false]; rw [if_neg (fun e => hj1 (by rw [e]; exact h1))]
      · simp only [h1, if_false, get_node, ihr]
        by_cases hj : j = 0
        · simp only [hj, if_true]; rw [if_neg (by omega)]
        · simp only [hj, if_false]
          by_cases hj1 : j % 2 = 1
          · simp only [hj1, if_true]; rw [if_neg (fun e => h1 (by rw [← e]; exact hj1))]
          · simp only [hj1, if_false]
            by_cases e : j / 2 - 1 = i / 2 - 1
            · rw [if_pos e, if_pos (by omega)]
            · rw [if_neg e, if_neg (fun e' => e (by rw [e']))]
theorem get_dels (l : List Nat) (t : T α) (j : Nat) (v : α) (h : (t.dels l).get j = some v) : j ∉ l ∧ t.get j = some v := by
  induction l generalizing t with
  | nil => exact ⟨by simp, h⟩
  | cons i l ih =>
    obtain ⟨h1, h2⟩ := ih (t.del i) h
    rw [get_del] at h2
    split at h2
    · cases h2
    · rename_i hne; exact ⟨by simp [hne, h1], h2⟩
theorem get_set_same (t : T α) (i : Nat) (v : α) : (t.set i v).get i = some v := by rw [get_set, if_pos rfl]
theorem get_set_ne (t : T α) {i j : Nat} (v : α) (h : j ≠ i) : (t.set i v).get j = t.get j := by rw [get_set, if_neg h]
theorem get_ofL (l : List α) (i : Nat) (t : T α) (j : Nat) : (ofL l i t).get j = if i ≤ j ∧ j < i + l.length then l[j - i]? else t.get j := by
  induction l generalizing i t with
  | nil => simp only [ofL, List.length_nil]; rw [if_neg (by omega)]
  | cons x xs ih =>
    simp only [ofL, ih, List.length_cons, get_set]
    by_cases e : j = i
    · subst e
      rw [if_neg (by omega), if_pos rfl, if_pos (by omega)]
      simp
    · by_cases h : i + 1 ≤ j ∧ j < i + 1 + xs.length
      · rw [if_pos h, if_pos (by omega)]
        obtain ⟨d, rfl⟩ : ∃ d, j = i + 1 + d := ⟨j - (i + 1), by omega⟩
        rw [show i + 1 + d - (i + 1) = d from by omega, show i + 1 + d - i = d + 1 from by omega]
        simp
      · rw [if_neg h, if_neg e, if_neg (by omega)]
end T

theorem getN_some {c : T AV} {o n : Nat} {vs : List AV} (h : getN c o n = some vs) : vs.length = n ∧ ∀ i, i < n → c.get (o + i) = vs[i]? := by
  induction n generalizing o vs with
  | zero => simp only [getN] at h; cases h; exact ⟨rfl, fun i hi => by omega⟩
  | succ n ih =>
    simp only [getN, Option.bind_eq_bind, Option.bind_eq_some_iff] at h
    obtain ⟨v, hv, ws, hw, h⟩ := h
    cases h
    obtain ⟨h1, h2⟩ := ih hw
    refine ⟨by simp [h1], fun i hi => ?_⟩
    cases i with
    | zero => simpa using hv
    | succ i => rw [show o + (i + 1) = o + 1 + i from by omega, h2 i (by omega)]; simp
theorem getN_of {c : T AV} {o n : Nat} {vs : List AV} (hl : vs.length = n) (h : ∀ i, i < n → c.get (o + i) = vs[i]?) : getN c o n = some vs := by
  induction n generalizing o vs with
  | zero => cases vs with | nil => rfl | cons => simp at hl
  | succ n ih =>
    cases vs with
    | nil => simp at hl
    | cons v vs =>
      have h0 := h 0 (by omega)
      simp only [Nat.add_zero, List.getElem?_cons_zero] at h0
      simp only [getN, h0, Option.bind_eq_bind, Option.bind_some]
      rw [ih (o := o + 1) (vs := vs) (by simpa using hl) (fun i hi => by have := h (i + 1) (by omega); rw [show o + (i + 1) = o + 1 + i from by omega] at this; simpa using this)]
      rfl
theorem get_setN (vs : List AV) (c : T AV) (o j : Nat) : (setN c o vs).get j = if o ≤ j ∧ j < o + vs.length then vs[j - o]? else c.get j := by
  induction vs generalizing c o with
  | nil => simp only [setN, List.length_nil]; rw [if_neg (by omega)]
  | cons x xs ih =>
    simp only [setN, ih, List.length_cons, T.get_set]
    by_cases e : j = o
    · subst e
      rw [if_neg (by omega), if_pos rfl, if_pos (by omega)]
      simp
    · by_cases h : o + 1 ≤ j ∧ j < o + 1 + xs.length
      · rw [if_pos h, if_pos (by omega)]
        obtain ⟨d, rfl⟩ : ∃ d, j = o + 1 + d := ⟨j - (o + 1), by omega⟩
        rw [show o + 1 + d - (o + 1) = d from by omega, show o + 1 + d - o = d + 1 from by omega]
        simp
      · rw [if_neg h, if_neg e, if_neg (by omega)]
end Go.Av

/- How the evaluator's values, slots and heap stand to the model's. -/
namespace Go.Av

/-- Where a block of the evaluator's lies: in which block of the world's, from which cell on; how many cells that one has. -/
structure Loc where
  b : Nat
  s : Nat
  n : Nat
abbrev Phi := Nat → Option Loc

def SlRel (φ : Phi) (a : Option (Nat × Nat)) (l : Nat) (c : Cap) (v : Value) : Prop :=
  match a, c with
  | none, .known c => v = .slice none l c ∧ l = 0 ∧ c = 0
  | none, .room _ => False
  | some p, .known c => ∃ (L : Loc) (o' : Nat), φ p.1 = some L ∧ v = .slice (some ⟨L.b, o', none⟩) l c ∧ l ≤ c ∧ (c = 0 ∨ o' = L.s + p.2)
  | some p, .room e => ∃ (L : Loc) (o' c' : Nat), φ p.1 = some L ∧ v = .slice (some ⟨L.b, o', none⟩) l c' ∧ l ≤ c' ∧ o' + c' * e ≤ L.n ∧ (l = 0 ∨ o' = L.s + p.2)

mutual
def VRel (φ : Phi) : AV → Value → Prop
  | .undef, v => v = Go.undef
  | .bool b, v => v = .bool b
  | .int k n, v => v = .int k n
  | .str s, v => ∃ b : ByteArray, v = .string b ∧ b.data.toList.map UInt8.toNat = s
  | .ptr none, v => v = .pointer none
  | .ptr (some p), v => ∃ L, φ p.1 = some L ∧ v = .pointer (some ⟨L.b, L.s + p.2, none⟩)
  | .slice a l c, v => SlRel φ a l c v
  | .map none, v => v = .map none
  | .map (some r), v => ∃ L, φ r = some L ∧ v = .map (some L.b)
  | .func f a c, v => ∃ a' c' : Array Value, v = .func (.func f) a' c' ∧ VRels φ a a'.toList ∧ VRels φ c c'.toList
  | .yield l, v => ∃ L, φ l = some L ∧ v = .func (.yield L.b) #[] #[]
  | .nilFunc, v => v = .nilFunc
  | .iface t x, v => ∃ y, v = .iface t y ∧ VRel φ x y
  | .nilIface, v => v = .nilIface
  | .agg cs, v => ∃ cs' : Array Value, v = .agg cs' ∧ VRels φ cs cs'.toList
  | .tuple cs, v => ∃ cs' : Array Value, v = .tuple cs' ∧ VRels φ cs cs'.toList
def VRels (φ : Phi) : List AV → List Value → Prop
  | [], l => l = []
  | x :: xs, l => ∃ y ys, l = y :: ys ∧ VRel φ x y ∧ VRels φ xs ys
end

def Phi.le (φ ψ : Phi) : Prop := ∀ B L, φ B = some L → ψ B = some L
theorem Phi.le_refl (φ : Phi) : φ.le φ := fun _ _ h => h
theorem Phi.le_trans {a b c : Phi} (h : a.le b) (k : b.le c) : a.le c := fun B L e => k B L (h B L e)

theorem SlRel.mono {φ ψ : Phi} (h : φ.le ψ) {a : Option (Nat × Nat)} {l : Nat} {c : Cap} {v : Value} (hr : SlRel φ a l c v) : SlRel ψ a l c v := by
  unfold SlRel at *
  split at hr
  · exact hr
  · exact hr
  · obtain ⟨L, o, h1, h2⟩ := hr; exact ⟨L, o, h _ _ h1, h2⟩
  · obtain ⟨L, o, c, h1, h2⟩ := hr; exact ⟨L, o, c, h _ _ h1, h2⟩
mutual
theorem VRel.mono {φ ψ : Phi} (h : φ.le ψ) : ∀ {x : AV} {v : Value}, VRel φ x v → VRel ψ x v
  | .undef, _, hr => by simpa only [VRel] using hr
  | .bool _, _, hr => by simpa only [VRel] using hr
  | .int _ _, _, hr => by simpa only [VRel] using hr
  | .str _, _, hr => by simpa only [VRel] using hr
  | .ptr none, _, hr => by simpa only [VRel] using hr
  | .ptr (some _), _, hr => by simp only [VRel] at *; obtain ⟨L, h1, h2⟩ := hr; exact ⟨L, h _ _ h1, h2⟩
  | .slice _ _ _, _, hr => by simp only [VRel] at *; exact hr.mono h
  | .map none, _, hr => by simpa only [VRel] using hr
  | .map (some _), _, hr => by simp only [VRel] at *; obtain ⟨L, h1, h2⟩ := hr; exact ⟨L, h _ _ h1, h2⟩
  | .func _ _ _, _, hr => by simp only [VRel] at *; obtain ⟨a, c, h1, h2, h3⟩ := hr; exact ⟨a, c, h1, VRels.mono h h2, VRels.mono h h3⟩
  | .yield _, _, hr => by simp only [VRel] at *; obtain ⟨L, h1, h2⟩ := hr; exact ⟨L, h _ _ h1, h2⟩
  | .nilFunc, _, hr => by simpa only [VRel] using hr
  | .iface _ _, _, hr => by simp only [VRel] at *; obtain ⟨y, h1, h2⟩ := hr; exact ⟨y, h1, VRel.mono h h2⟩
  | .nilIface, _, hr => by simpa only [VRel] using hr
  | .agg _, _, hr => by simp only [VRel] at *; obtain ⟨y, h1, h2⟩ := hr; exact ⟨y, h1, VRels.mono h h2⟩
  | .tuple _, _, hr => by simp only [VRel] at *; obtain ⟨y, h1, h2⟩ := hr; exact ⟨y, h1, VRels.mono h h2⟩
theorem VRels.mono {φ ψ : Phi} (h : φ.le ψ) : ∀ {xs : List AV} {vs : List Value}, VRels φ xs vs → VRels ψ xs vs
  | [], _, hr => by simpa only [VRels] using hr
  | _ :: _, _, hr => by simp only [VRels] at *; obtain ⟨y, ys, h1, h2, h3⟩ := hr; exact ⟨y, ys, h1, VRel.mono h h2, VRels.mono h h3⟩
end

section lists
variable {φ : Phi}
theorem VRels.nil : VRels φ [] [] := by simp only [VRels]
theorem VRels.cons {x : AV} {v : Value} {xs : List AV} {vs : List Value} (h : VRel φ x v) (k : VRels φ xs vs) : VRels φ (x :: xs) (v :: vs) := by
  simp only [VRels]; exact ⟨v, vs, rfl, h, k⟩
theorem VRels.length {xs : List AV} {vs : List Value} (h : VRels φ xs vs) : xs.length = vs.length := by
  induction xs generalizing vs with
  | nil => simp only [VRels] at h; subst h; rfl
  | cons x xs ih => simp only [VRels] at h; obtain ⟨y, ys, rfl, _, h3⟩ := h; simp [ih h3]
theorem VRels.get {xs : List AV} {vs : List Value} (h : VRels φ xs vs) {i : Nat} {x : AV} (hx : xs[i]? = some x) : ∃ v, vs[i]? = some v ∧ VRel φ x v := by
  induction xs generalizing vs i with
  | nil => simp at hx
  | cons a xs ih =>
    simp only [VRels] at h
    obtain ⟨y, ys, rfl, h2, h3⟩ := h
    cases i with
    | zero => simp at hx; subst hx; exact ⟨y, by simp, h2⟩
    | succ i => simp only [List.getElem?_cons_succ] at hx ⊢; exact ih h3 hx
theorem VRels.of_get {xs : List AV} {vs : List Value} (hl : xs.length = vs.length) (h : ∀ (i : Nat) (x : AV) (v : Value), xs[i]? = some x → vs[i]? = some v → VRel φ x v) : VRels φ xs vs := by
  induction xs generalizing vs with
  | nil => cases vs with | nil => exact .nil | cons => simp at hl
  | cons x xs ih =>
    cases vs with
    | nil => simp at hl
    | cons v vs =>
      exact .cons (h 0 x v (by simp) (by simp)) (ih (by simpa using hl) fun i a b ha hb => h (i + 1) a b (by simpa using ha) (by simpa using hb))
theorem VRels.append {xs ys : List AV} {vs ws : List Value} (h : VRels φ xs vs) (k : VRels φ ys ws) : VRels φ (xs ++ ys) (vs ++ ws) := by
  induction xs generalizing vs with
  | nil => simp only [VRels] at h; subst h; exact k
  | cons x xs ih => simp only [VRels] at h; obtain ⟨y, zs, rfl, h2, h3⟩ := h; exact .cons h2 (ih h3)
theorem VRels.take {xs : List AV} {vs : List Value} (h : VRels φ xs vs) (n : Nat) : VRels φ (xs.take n) (vs.take n) := by
  induction xs generalizing vs n with
  | nil => simp only [VRels] at h; subst h; simp; exact .nil
  | cons x xs ih =>
    simp only [VRels] at h; obtain ⟨y, zs, rfl, h2, h3⟩ := h
    cases n with
    | zero => simp; exact .nil
    | succ n => simp only [List.take_succ_cons]; exact .cons h2 (ih h3 n)
theorem VRels.drop {xs : List AV} {vs : List Value} (h : VRels φ xs vs) (n : Nat) : VRels φ (xs.drop n) (vs.drop n) := by
  induction xs generalizing vs n with
  | nil => simp only [VRels] at h; subst h; simp; exact .nil
  | cons x xs ih =>
    have h' := h
    simp only [VRels] at h; obtain ⟨y, zs, rfl, h2, h3⟩ := h
    cases n with
    | zero => simpa using h'
    | succ n => simp only [List.drop_succ_cons]; exact ih h3 n
end lists

/-- What may lie in a cell does so on the other side. -/
theorem VRel.one {φ : Phi} {x : AV} {v : Value} (h : VRel φ x v) (h1 : x.one = true) : v.oneCell' = true := by
  cases x with
  | undef => simp [AV.one] at h1
  | agg _ => simp [AV.one] at h1
  | tuple _ => simp [AV.one] at h1
  | ptr a => cases a <;> simp only [VRel] at h <;> (try obtain ⟨_, _, rfl⟩ := h) <;> (try subst h) <;> rfl
  | map a => cases a <;> simp only [VRel] at h <;> (try obtain ⟨_, _, rfl⟩ := h) <;> (try subst h) <;> rfl
  | slice a l c =>
    simp only [VRel, SlRel] at h
    split at h
    · obtain ⟨rfl, _⟩ := h; rfl
    · exact h.elim
    · obtain ⟨L, o, _, rfl, _⟩ := h; rfl
    · obtain ⟨L, o, c, _, rfl, _⟩ := h; rfl
  | str s => simp only [VRel] at h; obtain ⟨b, rfl, _⟩ := h; rfl
  | func f a c => simp only [VRel] at h; obtain ⟨a, c, rfl, _⟩ := h; rfl
  | yield l => simp only [VRel] at h; obtain ⟨L, _, rfl⟩ := h; rfl
  | iface t x => simp only [VRel] at h; obtain ⟨y, rfl, _⟩ := h; rfl
  | bool => simp only [VRel] at h; subst h; rfl
  | int => simp only [VRel] at h; subst h; rfl
  | nilFunc => simp only [VRel] at h; subst h; rfl
  | nilIface => simp only [VRel] at h; subst h; rfl
theorem VRel.cells {φ : Phi} {x : AV} {v : Value} (h : VRel φ x v) (hx : x.cells.all AV.one = true) : VRels φ x.cells v.cells.toList := by
  cases x with
  | agg cs => simp only [VRel] at h; obtain ⟨cs', rfl, h⟩ := h; exact h
  | _ =>
    simp only [AV.cells, List.all_cons, List.all_nil, Bool.and_true] at hx ⊢
    have := h.one hx
    have hc : v.cells = #[v] := by cases v <;> first | rfl | simp [Value.oneCell'] at this
    rw [hc]
    exact .cons h .nil

/-- A constant is what it is, wherever blocks lie. -/
theorem ofV_rel {φ : Phi} : ∀ (d : Nat) (v : Value) (x : AV), ofV d v = some x → VRel φ x v
  | 0, _, _, h => by simp [ofV] at h
  | d + 1, v, x, h => by
    have hl : ∀ (vs : List Value) (xs : List AV), vs.mapM (ofV d) = some xs → VRels φ xs vs := by
      intro vs
      induction vs with
      | nil => intro xs h; simp at h; subst h; exact .nil
      | cons v vs ih =>
        intro xs h
        simp only [List.mapM_cons, Option.bind_eq_bind, Option.bind_eq_some_iff, Option.pure_def] at h
        obtain ⟨y, hy, ys, hys, h⟩ := h
        cases h
        exact .cons (ofV_rel d v y hy) (ih ys hys)
    unfold ofV at h
    split at h
    · cases h; simp only [VRel]
    · cases h; simp only [VRel]
    · cases h; simp only [VRel]; exact ⟨_, rfl, rfl⟩
    · cases h; simp only [VRel]
    · cases h; simp [VRel, SlRel]
    · cases h; simp only [VRel]
    · cases h; simp only [VRel]
    · cases h; simp only [VRel]
    · simp only [Option.map_eq_some_iff] at h; obtain ⟨y, hy, rfl⟩ := h; simp only [VRel]; exact ⟨_, rfl, ofV_rel d _ y hy⟩
    · simp only [Option.map_eq_some_iff] at h; obtain ⟨ys, hy, rfl⟩ := h; simp only [VRel]; exact ⟨_, rfl, hl _ _ hy⟩
    · cases h

/-! ### Slots -/
structure TRel (φ : Phi) (tm : T AV) (nt : Nat) (tmps : Array Value) : Prop where
  size : tmps.size = nt
  get : ∀ t v, tm.get t = some v → t < nt ∧ VRel φ v (tmps.getD t Go.undef)
theorem TRel.mono {φ ψ : Phi} (h : φ.le ψ) {tm : T AV} {nt : Nat} {tmps : Array Value} (r : TRel φ tm nt tmps) : TRel ψ tm nt tmps :=
  ⟨r.size, fun t v hv => ⟨(r.get t v hv).1, (r.get t v hv).2.mono h⟩⟩
theorem TRel.set {φ : Phi} {tm : T AV} {nt : Nat} {tmps : Array Value} (r : TRel φ tm nt tmps) {d : Nat} (hd : d < nt) {v : AV} {x : Value} (hv : VRel φ v x) :
    TRel φ (tm.set d v) nt (tmps.setIfInBounds d x) := by
  refine ⟨by simp [r.size], fun t u hu => ?_⟩
  rw [T.get_set] at hu
  by_cases e : t = d
  · subst e
    rw [if_pos rfl] at hu
    cases hu
    refine ⟨hd, ?_⟩
    have : t < tmps.size := by rw [r.size]; exact hd
    simp [Array.getD, this, hv]
  · rw [if_neg e] at hu
    obtain ⟨h1, h2⟩ := r.get t u hu
    refine ⟨h1, ?_⟩
    have : t < tmps.size := by rw [r.size]; exact h1
    have hh : (tmps.setIfInBounds d x).getD t Go.undef = tmps.getD t Go.undef := by
      simp only [Array.getD_eq_getD_getElem?]
      rw [Array.getElem?_setIfInBounds_ne (fun e' => e e'.symm)]
    rw [hh]; exact h2

/-- A value asked for is the same on both sides. -/
theorem ev_rel {φ : Phi} {tm : T AV} {nt : Nat} {a : Act} (r : TRel φ tm nt a.tmps) {x : Operand} {v : AV} (h : ev tm x = some v) : VRel φ v (a.eval x) := by
  cases x with
  | tmp t => exact (r.get t v h).2
  | const c => exact ofV_rel 9 c v h
  | global g => simp [ev] at h
  | func f => simp only [ev, Option.some.injEq] at h; subst h; simp only [VRel]; exact ⟨#[], #[], rfl, .nil, .nil⟩
theorem evs_rel {φ : Phi} {tm : T AV} {nt : Nat} {a : Act} (r : TRel φ tm nt a.tmps) : ∀ {xs : List Operand} {vs : List AV}, evs tm xs = some vs → VRels φ vs (xs.map a.eval)
  | [], vs, h => by simp only [evs, Option.some.injEq] at h; subst h; exact .nil
  | x :: xs, vs, h => by
    simp only [evs, Option.bind_eq_bind, Option.bind_eq_some_iff] at h
    obtain ⟨v, hv, ws, hw, h⟩ := h
    cases h
    exact .cons (ev_rel r hv) (evs_rel r hw)
end Go.Av

/- The two heaps: what is read, written, laid on one side is so on the other. -/
namespace Go.Av

/-! ### The tables -/
structure Env.Ok (P : Program) (E : Env) : Prop where
  ty : ∀ t a, E.t t = some a → P.underlying t = some a.d ∧ ∃ i, P.info? t = some i ∧ i.size = a.size ∧ i.bytes = a.bytes ∧ i.comparable = a.comparable ∧
    (∀ z, a.zero = some z → ∃ v, i.zero = some v ∧ ofV 9 v = some z) ∧ a.agg = (match a.d with | .struct _ => true | .array .. => true | _ => false) ∧
    (a.shy = false → P.eqGuardType P.depth t = false ∧ P.stoodInHeld t = false) ∧
    (∀ fs, a.d = .struct fs → a.eqf = (fs.toList.filter fun f : Field => decide (f.name ≠ "_")).map fun f : Field => (f.type, f.offset))
  fn : ∀ f g, E.fn.get f = some g → P.funcs[f]? = some g
  ext : ∀ f n, E.ext.get f = some n → ∀ (args : List AV) (v : AV) (φ : Phi) (vs : Array Value) (w : World), extV n args = some v → VRels φ args vs.toList →
    ∃ x, (callFunc f vs).run P w = .ok (.value x) w ∧ VRel φ v x
  name : ∀ f g, E.fn.get f = some g → g.body.isSome = true → g.name ≠ "runtime.NumGoroutine"
  rt : E.rt = P.rt
  mixed : P.follows .mixedOrders = true

section
variable {P : Program} {E : Env} (hE : E.Ok P)
include hE
theorem run_under {t : TypeId} {a : ATy} (h : E.t t = some a) (w : World) : (underlying t).run P w = .ok a.d w := run_underlying (hE.ty t a h).1 w
theorem run_info {t : TypeId} {a : ATy} (h : E.t t = some a) (w : World) : ∃ i, (typeInfo t).run P w = .ok i w ∧ P.info? t = some i ∧ i.size = a.size ∧ i.bytes = a.bytes ∧ i.comparable = a.comparable := by
  obtain ⟨_, i, hi, h1, h2, h3, _⟩ := hE.ty t a h
  exact ⟨i, by simp [typeInfo, hi], hi, h1, h2, h3⟩
theorem run_size {t : TypeId} {a : ATy} (h : E.t t = some a) (w : World) : (sizeOf t).run P w = .ok a.size w := by
  obtain ⟨i, hi, _, hs, _⟩ := run_info hE h w
  simp [sizeOf, hi, hs]
theorem run_zero {t : TypeId} {a : ATy} (h : E.t t = some a) {z : AV} (hz : a.zero = some z) (w : World) : ∃ v, (zeroValue t).run P w = .ok v w ∧ ofV 9 v = some z := by
  obtain ⟨_, i, hi, _, _, _, h4, _⟩ := hE.ty t a h
  obtain ⟨v, hv, ho⟩ := h4 z hz
  exact ⟨v, by simp [zeroValue, typeInfo, hi, hv], ho⟩
theorem run_agg {t : TypeId} {a : ATy} (h : E.t t = some a) (w : World) : (isAgg t).run P w = .ok a.agg w := by
  obtain ⟨h0, i, _, _, _, _, _, h5, _⟩ := hE.ty t a h
  simp only [isAgg, Sem.run_bind, run_underlying h0, Result.andThen_ok, h5]
  cases a.d <;> rfl
end

/-! ### Blocks -/
def ERel (φ : Phi) : List (AV × AV × Nat) → List MapEntry → Prop
  | [], l => l = []
  | e :: es, l => ∃ y ys, l = y :: ys ∧ VRel φ e.1 y.key ∧ VRel φ e.2.1 y.val ∧ e.2.2 = y.born ∧ ERel φ es ys
theorem ERel.mono {φ ψ : Phi} (h : φ.le ψ) : ∀ {es : List (AV × AV × Nat)} {l : List MapEntry}, ERel φ es l → ERel ψ es l
  | [], _, hr => hr
  | _ :: _, _, hr => by obtain ⟨y, ys, h1, h2, h3, h4, h5⟩ := hr; exact ⟨y, ys, h1, h2.mono h, h3.mono h, h4, h5.mono h⟩

structure CRow (E : Env) (φ : Phi) (L : Loc) (c : T AV) (n : Nat) (e : TypeId) (cs : Array Value) (fr : Nat × Nat) : Prop where
  size : cs.size = L.n
  fits : L.s + n ≤ L.n
  elem : ∃ ty, E.t e = some ty
  get : ∀ i v, c.get i = some v → i < n ∧ v.one = true ∧ ∃ x, cs[L.s + i]? = some x ∧ VRel φ v x
  all : ∀ i, i < n → ∃ v, c.get i = some v
  open_ : ∀ i, i < L.n → ¬ (fr.1 ≤ i ∧ i < fr.2)

def BRel (E : Env) (φ : Phi) (L : Loc) : Option Blk → Option Obj → Prop
  | some (.cells c n e _), x => ∃ cs fr, x = some (.cells cs e fr) ∧ CRow E φ L c n e cs fr
  | some (.map es clock), x => ∃ es' : Array MapEntry, x = some (.map es' clock) ∧ ERel φ es es'.toList
  | some (.siter rest pos), x => ∃ s : ByteArray, x = some (.stringIter s pos) ∧ (s.data.toList.drop pos).map UInt8.toNat = rest ∧ L.s = 0
  | some (.loop st pd fn nt tm ps as bd df), x => ∃ lp : Loop, x = some (.loop lp) ∧ lp.state = st ∧ lp.pending = pd ∧ lp.fn = fn ∧ TRel φ tm nt lp.tmps ∧ lp.params.toList = ps ∧ lp.assign = as ∧ lp.body = bd ∧
      ∃ D, φ df = some D ∧ lp.defers = D.b
  | some .deferred, x => x = some (.deferred (some []))
  | some .dead, _ => True
  | none, _ => True

theorem CRow.mono {E : Env} {φ ψ : Phi} (h : φ.le ψ) {L : Loc} {c : T AV} {n : Nat} {e : TypeId} {cs : Array Value} {fr : Nat × Nat} (r : CRow E φ L c n e cs fr) : CRow E ψ L c n e cs fr :=
  ⟨r.size, r.fits, r.elem, fun i v hv => by obtain ⟨h1, h2, x, h3, h4⟩ := r.get i v hv; exact ⟨h1, h2, x, h3, h4.mono h⟩, r.all, r.open_⟩
theorem BRel.mono {E : Env} {φ ψ : Phi} (h : φ.le ψ) {L : Loc} {b : Option Blk} {x : Option Obj} (r : BRel E φ L b x) : BRel E ψ L b x := by
  unfold BRel at *
  split at r
  · obtain ⟨cs, fr, h1, h2⟩ := r; exact ⟨cs, fr, h1, h2.mono h⟩
  · obtain ⟨es, h1, h2⟩ := r; exact ⟨es, h1, h2.mono h⟩
  · exact r
  · obtain ⟨lp, h1, h2, h3, h4, h5, h6, h7, h8, D, h9, h10⟩ := r; exact ⟨lp, h1, h2, h3, h4, h5.mono h, h6, h7, h8, D, h _ _ h9, h10⟩
  · exact r
  · trivial
  · trivial

/-- May the block be turned? -/
def Mod (h : Heap) (B : Nat) : Prop :=
  match h.b.get B with
  | some (.cells _ _ _ ro) => ro = false
  | some .dead => False
  | none => False
  | _ => True

structure HRel (E : Env) (φ : Phi) (h : Heap) (w : World) : Prop where
  dom : ∀ B L, φ B = some L → B < h.next ∧ L.b < w.heap.size
  inj : ∀ B B' L L', φ B = some L → φ B' = some L' → L.b = L'.b → h.b.get B ≠ some .dead → h.b.get B' ≠ some .dead → B = B'
  blk : ∀ B L, φ B = some L → BRel E φ L (h.b.get B) w.heap[L.b]?
  fresh : ∀ B, h.next ≤ B → h.b.get B = none

/-- What a step may have done: the map of blocks has grown; what is not mapped on one side, or may not be turned, is as it was. -/
structure Ext (φ : Phi) (h : Heap) (w : World) (φ' : Phi) (h' : Heap) (w' : World) : Prop where
  le : φ.le φ'
  new : ∀ B L, φ' B = some L → φ B = some L ∨ (φ B = none ∧ h.next ≤ B ∧ B < h'.next ∧ (w.heap.size ≤ L.b ∨ ∃ B0 L0, φ B0 = some L0 ∧ L0.b = L.b ∧ Mod h B0))
  next : h.next ≤ h'.next
  size : w.heap.size ≤ w'.heap.size
  idle : ∀ B, B < h.next → φ B = none → h'.b.get B = h.b.get B
  ro : ∀ B, B < h.next → ¬ Mod h B → h'.b.get B = h.b.get B
  old : ∀ b, b < w.heap.size → (∀ B L, φ B = some L → L.b = b → ¬ Mod h B) → w'.heap[b]? = w.heap[b]?
  os : w'.os = w.os
  tape : w'.tape = w.tape
  output : w'.output = w.output

theorem Ext.refl (φ : Phi) (h : Heap) (w : World) : Ext φ h w φ h w :=
  ⟨Phi.le_refl φ, fun _ _ e => .inl e, Nat.le_refl _, Nat.le_refl _, fun _ _ _ => rfl, fun _ _ _ => rfl, fun _ _ _ => rfl, rfl, rfl, rfl⟩
theorem Mod.congr {h h' : Heap} {B : Nat} (e : h'.b.get B = h.b.get B) : Mod h' B ↔ Mod h B := by unfold Mod; rw [e]
theorem Ext.keep {φ φ' : Phi} {h h' : Heap} {w w' : World} (x : Ext φ h w φ' h' w') {B : Nat} (hB : B < h.next) (hm : Mod h' B) : Mod h B :=
  Classical.byContradiction fun hn => hn ((Mod.congr (x.ro B hB hn)).1 hm)
theorem Ext.trans {E : Env} {φ φ₁ φ₂ : Phi} {h h₁ h₂ : Heap} {w w₁ w₂ : World} (H : HRel E φ h w) (x : Ext φ h w φ₁ h₁ w₁) (y : Ext φ₁ h₁ w₁ φ₂ h₂ w₂) : Ext φ h w φ₂ h₂ w₂ where
  le := Phi.le_trans x.le y.le
  new := fun B L e => by
    rcases y.new B L e with e1 | ⟨hn, h1, h2, h3⟩
    · rcases x.new B L e1 with e0 | ⟨hn, h1, h2, h3⟩
      · exact .inl e0
      · exact .inr ⟨hn, h1, Nat.lt_of_lt_of_le h2 y.next, h3⟩
    · refine .inr ⟨?_, Nat.le_trans x.next h1, h2, ?_⟩
      · cases hp : φ B with
        | none => rfl
        | some L' => rw [x.le B L' hp] at hn; cases hn
      · rcases h3 with h3 | ⟨B0, L0, e0, hb, hm⟩
        · exact .inl (Nat.le_trans x.size h3)
        · rcases x.new B0 L0 e0 with e1 | ⟨_, _, _, h5⟩
          · exact .inr ⟨B0, L0, e1, hb, x.keep (H.dom B0 L0 e1).1 hm⟩
          · rcases h5 with h5 | ⟨B1, L1, e1, hb1, hm1⟩
            · exact .inl (by omega)
            · exact .inr ⟨B1, L1, e1, by omega, hm1⟩
  next := Nat.le_trans x.next y.next
  size := Nat.le_trans x.size y.size
  idle := fun B hB hn => by
    have hn1 : φ₁ B = none := by
      cases hp : φ₁ B with
      | none => rfl
      | some L =>
        rcases x.new B L hp with e | ⟨_, h1, _⟩
        · rw [hn] at e; cases e
        · omega
    rw [y.idle B (Nat.lt_of_lt_of_le hB x.next) hn1, x.idle B hB hn]
  ro := fun B hB hm => by
    have e := x.ro B hB hm
    rw [y.ro B (Nat.lt_of_lt_of_le hB x.next) (fun hm' => hm ((Mod.congr e).1 hm')), e]
  old := fun b hb hm => by
    have e := x.old b hb hm
    rw [y.old b (Nat.lt_of_lt_of_le hb x.size) (fun B L hp hL hM => ?_), e]
    rcases x.new B L hp with e0 | ⟨_, _, _, h3⟩
    · exact hm B L e0 hL (x.keep (H.dom B L e0).1 hM)
    · rcases h3 with h3 | ⟨B0, L0, e0, hb0, hm0⟩
      · omega
      · exact hm B0 L0 e0 (by omega) hm0
  os := y.os.trans x.os
  tape := y.tape.trans x.tape
  output := y.output.trans x.output

/-! ### A draw turns nothing -/
theorem HRel.drew {E : Env} {φ : Phi} {h : Heap} {w : World} (H : HRel E φ h w) (n : Nat) : HRel E φ h { w with drawn := n } := ⟨H.dom, H.inj, H.blk, H.fresh⟩
theorem Ext.drew {φ : Phi} {h : Heap} {w : World} (n : Nat) : Ext φ h w φ h { w with drawn := n } :=
  ⟨Phi.le_refl φ, fun _ _ e => .inl e, Nat.le_refl _, Nat.le_refl _, fun _ _ _ => rfl, fun _ _ _ => rfl, fun _ _ _ => rfl, rfl, rfl, rfl⟩

/-! ### A new block -/
def Phi.with (φ : Phi) (B : Nat) (L : Loc) : Phi := fun B' => if B' = B then some L else φ B'
theorem Phi.le_with {φ : Phi} {B : Nat} {L : Loc} (h : φ B = none) : φ.le (φ.with B L) := by
  intro B' L' e
  unfold Phi.with
  split
  · subst B'; rw [h] at e; cases e
  · exact e
theorem HRel.none {E : Env} {φ : Phi} {h : Heap} {w : World} (H : HRel E φ h w) {B : Nat} (hB : h.next ≤ B) : φ B = none := by
  cases e : φ B with
  | none => rfl
  | some L => have := (H.dom B L e).1; omega
/-- A new block on both sides. -/
theorem HRel.push {E : Env} {φ : Phi} {h : Heap} {w : World} (H : HRel E φ h w) (x : Blk) (o : Obj) (L : Loc) (hL : L.b = w.heap.size)
    (hx : BRel E (φ.with h.next L) L (some x) (some o)) : HRel E (φ.with h.next L) (newBlk h x) (w.alloc o) ∧ Ext φ h w (φ.with h.next L) (newBlk h x) (w.alloc o) := by
  have hn := H.none (Nat.le_refl h.next)
  have hle := Phi.le_with (L := L) hn
  have hne : ∀ B, B < h.next → (newBlk h x).b.get B = h.b.get B := fun B hB => T.get_set_ne _ _ (by omega)
  have hold : ∀ b, b < w.heap.size → (w.alloc o).heap[b]? = w.heap[b]? := fun b hb => heap_alloc_old w o b hb
  refine ⟨⟨?_, ?_, ?_, ?_⟩, ⟨hle, ?_, by simp [newBlk], by simp, ?_, ?_, fun b hb _ => hold b hb, rfl, rfl, rfl⟩⟩
  · intro B L' e
    simp only [Phi.with] at e
    split at e
    · cases e; subst B; simp [newBlk, hL]
    · have := H.dom B L' e; simp [newBlk]; omega
  · intro B B' L1 L2 e1 e2 hb d1 d2
    simp only [Phi.with] at e1 e2
    split at e1 <;> split at e2
    · omega
    · cases e1; have := (H.dom B' L2 e2).2; omega
    · cases e2; have := (H.dom B L1 e1).2; omega
    · rw [hne B (H.dom B L1 e1).1] at d1
      rw [hne B' (H.dom B' L2 e2).1] at d2
      exact H.inj B B' L1 L2 e1 e2 hb d1 d2
  · intro B L' e
    simp only [Phi.with] at e
    split at e
    · cases e
      subst B
      rw [show (newBlk h x).b.get h.next = some x from T.get_set_same _ _ _, show (w.alloc o).heap[L.b]? = some o from by rw [hL]; exact heap_alloc_new w o]
      exact hx
    · have hd := H.dom B L' e
      rw [hne B hd.1, hold _ hd.2]
      exact (H.blk B L' e).mono hle
  · intro B hB
    rw [show (newBlk h x).b.get B = h.b.get B from T.get_set_ne _ _ (by simp [newBlk] at hB; omega)]
    exact H.fresh B (by simp [newBlk] at hB; omega)
  · intro B L' e
    simp only [Phi.with] at e
    split at e
    · cases e; subst B; exact .inr ⟨hn, Nat.le_refl _, by simp [newBlk], .inl (by omega)⟩
    · exact .inl e
  · intro B hB _; exact hne B hB
  · intro B hB _; exact hne B hB

/-! ### A block turned -/
def setW (w : World) (b : Nat) (o : Obj) : World := { w with heap := w.heap.setIfInBounds b o }
/-- A block that may be turned, turned on both sides. -/
theorem HRel.turn {E : Env} {φ : Phi} {h : Heap} {w : World} (H : HRel E φ h w) {B : Nat} {L : Loc} (hp : φ B = some L) (hm : Mod h B) (x : Blk) (o : Obj)
    (hx : BRel E φ L (some x) (some o)) : HRel E φ ⟨h.b.set B x, h.next⟩ (setW w L.b o) ∧ Ext φ h w φ ⟨h.b.set B x, h.next⟩ (setW w L.b o) := by
  have hdm := H.dom B L hp
  have hnd : h.b.get B ≠ some .dead := fun e => by unfold Mod at hm; rw [e] at hm; exact hm
  have hget : ∀ B', (T.set h.b B x).get B' = if B' = B then some x else h.b.get B' := fun B' => T.get_set _ _ _ _
  have hw : ∀ b, b ≠ L.b → (setW w L.b o).heap[b]? = w.heap[b]? := fun b hb => by simp only [setW]; exact Array.getElem?_setIfInBounds_ne (fun e => hb e.symm)
  refine ⟨⟨fun B' L' e => by simpa [setW] using H.dom B' L' e, ?_, ?_, ?_⟩, ⟨Phi.le_refl φ, fun _ _ e => .inl e, Nat.le_refl _, by simp [setW], ?_, ?_, ?_, rfl, rfl, rfl⟩⟩
  · intro B1 B2 L1 L2 e1 e2 hb d1 d2
    simp only [hget] at d1 d2
    refine H.inj B1 B2 L1 L2 e1 e2 hb ?_ ?_
    · split at d1
      · rename_i e; rw [e]; exact hnd
      · exact d1
    · split at d2
      · rename_i e; rw [e]; exact hnd
      · exact d2
  · intro B' L' e
    rw [hget]
    by_cases hB : B' = B
    · subst hB
      rw [hp] at e
      cases e
      rw [if_pos rfl, show (setW w L.b o).heap[L.b]? = some o from by simp [setW, hdm.2]]
      exact hx
    · rw [if_neg hB]
      by_cases hdead : h.b.get B' = some .dead
      · rw [hdead]; trivial
      · have hb : L'.b ≠ L.b := fun hb => hB (H.inj B' B L' L e hp hb hdead hnd)
        rw [hw _ hb]
        exact H.blk B' L' e
  · intro B' hB
    have hn : h.next ≤ B' := hB
    have hne : B' ≠ B := by omega
    rw [hget, if_neg hne]
    exact H.fresh B' hn
  · intro B' _ hn
    rw [hget]
    split
    · rename_i e; subst e; rw [hp] at hn; cases hn
    · rfl
  · intro B' _ hn
    rw [hget]
    split
    · rename_i e; subst e; exact absurd hm hn
    · rfl
  · intro b _ hn
    exact hw b (fun e => hn B L hp e.symm hm)
/-- A block that is dead from now on. -/
theorem HRel.kill {E : Env} {φ : Phi} {h : Heap} {w : World} (H : HRel E φ h w) {B : Nat} (hB : B < h.next) :
    HRel E φ ⟨h.b.set B .dead, h.next⟩ w := by
  have hget : ∀ B', (T.set h.b B .dead).get B' = if B' = B then some .dead else h.b.get B' := fun B' => T.get_set _ _ _ _
  refine ⟨H.dom, ?_, ?_, ?_⟩
  · intro B1 B2 L1 L2 e1 e2 hb d1 d2
    simp only [hget] at d1 d2
    refine H.inj B1 B2 L1 L2 e1 e2 hb ?_ ?_
    · split at d1
      · exact absurd rfl d1
      · exact d1
    · split at d2
      · exact absurd rfl d2
      · exact d2
  · intro B' L' e
    rw [hget]
    split
    · trivial
    · exact H.blk B' L' e
  · intro B' hB'
    have hn : h.next ≤ B' := hB'
    have hne : B' ≠ B := by omega
    rw [hget, if_neg hne]
    exact H.fresh B' hn
theorem Ext.kill {φ : Phi} {h : Heap} {w : World} {B : Nat} {L : Loc} (hp : φ B = some L) (hm : Mod h B) : Ext φ h w φ ⟨h.b.set B .dead, h.next⟩ w := by
  have hget : ∀ B', (T.set h.b B .dead).get B' = if B' = B then some .dead else h.b.get B' := fun B' => T.get_set _ _ _ _
  refine ⟨Phi.le_refl φ, fun _ _ e => .inl e, Nat.le_refl _, Nat.le_refl _, ?_, ?_, fun _ _ _ => rfl, rfl, rfl, rfl⟩
  · intro B' _ hn
    rw [hget]
    split
    · rename_i e; subst e; rw [hp] at hn; cases hn
    · rfl
  · intro B' _ hn
    rw [hget]
    split
    · rename_i e; subst e; exact absurd hm hn
    · rfl

/-! ### Cells -/
section cells
variable {P : Program} {E : Env} {φ : Phi} {h : Heap} {w : World}
theorem cell_row {b o : Nat} {cs : Array Value} {e : TypeId} {fr : Nat × Nat} (hg : w.heap[b]? = some (.cells cs e fr)) : w.cell? ⟨b, o, none⟩ = cs[o]? := by simp [World.cell?, hg]
theorem frozen_row {b o : Nat} {cs : Array Value} {e : TypeId} {fr : Nat × Nat} (hg : w.heap[b]? = some (.cells cs e fr)) (h : ¬ (fr.1 ≤ o ∧ o < fr.2)) : w.frozen? ⟨b, o, none⟩ = false := by
  simp only [World.frozen?, hg]
  obtain ⟨a, b⟩ := fr
  simp only at h
  simp only [Bool.and_eq_false_iff, decide_eq_false_iff_not]
  omega
theorem HRel.row (H : HRel E φ h w) {B : Nat} {L : Loc} (hp : φ B = some L) {c : T AV} {n : Nat} {e : TypeId} {ro : Bool} (hb : h.b.get B = some (.cells c n e ro)) :
    ∃ cs fr, w.heap[L.b]? = some (.cells cs e fr) ∧ CRow E φ L c n e cs fr := by
  have := H.blk B L hp
  rw [hb] at this
  exact this
/-- Some cells are read. -/
theorem CRow.getN {L : Loc} {c : T AV} {n : Nat} {e : TypeId} {cs : Array Value} {fr : Nat × Nat} (r : CRow E φ L c n e cs fr) {o m : Nat} {vs : List AV} (hg : Av.getN c o m = some vs) :
    ∃ xs : List Value, xs.length = m ∧ VRels φ vs xs ∧ ∀ (j : Nat) x, xs[j]? = some x → cs[L.s + o + j]? = some x := by
  induction m generalizing o vs with
  | zero => simp only [Av.getN] at hg; cases hg; exact ⟨[], rfl, .nil, fun j x hx => by simp at hx⟩
  | succ m ih =>
    simp only [Av.getN, Option.bind_eq_bind, Option.bind_eq_some_iff] at hg
    obtain ⟨v, hv, ws, hw, hg⟩ := hg
    cases hg
    obtain ⟨_, _, x, hx, hr⟩ := r.get o v hv
    obtain ⟨xs, h1, h2, h3⟩ := ih hw
    refine ⟨x :: xs, by simp [h1], .cons hr h2, fun j y hy => ?_⟩
    cases j with
    | zero => simp at hy; subst hy; exact hx
    | succ j => simp only [List.getElem?_cons_succ] at hy; rw [show L.s + o + (j + 1) = L.s + (o + 1) + j from by omega]; exact h3 j y hy
theorem loadCells_rel (H : HRel E φ h w) {B : Nat} {L : Loc} (hp : φ B = some L) {c : T AV} {n : Nat} {e : TypeId} {ro : Bool} (hb : h.b.get B = some (.cells c n e ro))
    {o m : Nat} {vs : List AV} (hg : Av.getN c o m = some vs) : ∃ xs : List Value, xs.length = m ∧ VRels φ vs xs ∧
      ∀ w' : World, w'.heap = w.heap → (loadCells ⟨L.b, L.s + o, none⟩ m).run P w' = .ok xs.toArray w' := by
  obtain ⟨cs, fr, hw, r⟩ := H.row hp hb
  obtain ⟨xs, h1, h2, h3⟩ := r.getN hg
  refine ⟨xs, h1, h2, fun w' hw' => ?_⟩
  have h4 : ∀ (j : Nat) x, xs[j]? = some x → w'.cell? ((⟨L.b, L.s + o, none⟩ : Addr).add j) = some x := fun j x hx => by rw [Addr.add_lit, cell_row (hw' ▸ hw)]; exact h3 j x hx
  rw [← h1]
  exact run_loadCells_list w' _ xs h4
theorem loadVar_rel (hE : E.Ok P) (H : HRel E φ h w) {t : TypeId} {B o : Nat} {v : AV} {L : Loc} (hp : φ B = some L) (hl : Av.loadVar E h t B o = some v) :
    ∃ x, (Go.loadVar t ⟨L.b, L.s + o, none⟩).run P w = .ok x w ∧ VRel φ v x := by
  simp only [Av.loadVar, Option.bind_eq_bind, Option.bind_eq_some_iff] at hl
  obtain ⟨ty, ht, bl, hb, hl⟩ := hl
  split at hl
  · rename_i c n e ro
    split at hl
    · rename_i ha
      simp only [Option.map_eq_some_iff] at hl
      obtain ⟨vs, hg, rfl⟩ := hl
      obtain ⟨xs, h1, h2, h4⟩ := loadCells_rel (P := P) H hp hb hg
      refine ⟨.agg xs.toArray, ?_, by simp only [VRel]; exact ⟨_, rfl, by simpa using h2⟩⟩
      simp [Go.loadVar, run_agg hE ht, ha, run_size hE ht, h4 w rfl]
    · rename_i ha
      obtain ⟨cs, fr, hw, r⟩ := H.row hp hb
      obtain ⟨_, _, x, hx, hr⟩ := r.get o v hl
      refine ⟨x, ?_, hr⟩
      simp [Go.loadVar, run_agg hE ht, ha, cell_row hw, hx]
  · cases hl

/-- Cells of an array, one behind the other, set. -/
def putA (cs : Array Value) (k : Nat) : List Value → Array Value
  | [] => cs
  | v :: vs => putA (cs.setIfInBounds k v) (k + 1) vs
theorem size_putA (vs : List Value) : ∀ (cs : Array Value) (k : Nat), (putA cs k vs).size = cs.size := by
  induction vs with
  | nil => intro cs k; rfl
  | cons v vs ih => intro cs k; simp [putA, ih]
theorem get_putA (vs : List Value) : ∀ (cs : Array Value) (k j : Nat), k + vs.length ≤ cs.size → (putA cs k vs)[j]? = if k ≤ j ∧ j < k + vs.length then vs[j - k]? else cs[j]? := by
  induction vs with
  | nil => intro cs k j _; simp only [putA, List.length_nil]; rw [if_neg (by omega)]
  | cons v vs ih =>
    intro cs k j hf
    simp only [putA, List.length_cons] at *
    rw [ih _ _ _ (by simp; omega)]
    by_cases e : j = k
    · subst e
      have hj : j < cs.size := by omega
      rw [if_neg (by omega), if_pos (by omega)]
      simp [hj]
    · by_cases hh : k + 1 ≤ j ∧ j < k + 1 + vs.length
      · rw [if_pos hh, if_pos (by omega)]
        obtain ⟨d, rfl⟩ : ∃ d, j = k + 1 + d := ⟨j - (k + 1), by omega⟩
        rw [show k + 1 + d - (k + 1) = d from by omega, show k + 1 + d - k = d + 1 from by omega]
        simp
      · rw [if_neg hh, if_neg (by omega), Array.getElem?_setIfInBounds_ne (fun e' => e e'.symm)]
theorem setW_setW (w : World) (b : Nat) (x y : Obj) : setW (setW w b x) b y = setW w b y := by simp [setW]
theorem setW_self {w : World} {b : Nat} {x : Obj} (hg : w.heap[b]? = some x) : setW w b x = w := by
  have hb : b < w.heap.size := (Array.getElem?_eq_some_iff.1 hg).1
  have : w.heap.setIfInBounds b x = w.heap := by
    apply Array.ext_getElem?
    intro j
    by_cases hj : b = j
    · subst hj; rw [hg, Array.getElem?_setIfInBounds_self_of_lt hb]
    · rw [Array.getElem?_setIfInBounds_ne hj]
  unfold setW
  rw [this]
theorem setCell_row {b o : Nat} {cs : Array Value} {e : TypeId} {fr : Nat × Nat} (hg : w.heap[b]? = some (.cells cs e fr)) (v : Value) :
    w.setCell ⟨b, o, none⟩ v = setW w b (.cells (cs.setIfInBounds o v) e fr) := by
  unfold World.setCell setW
  congr 1
  apply Array.ext_getElem?
  intro j
  rw [Array.getElem?_modify]
  have hb : b < w.heap.size := (Array.getElem?_eq_some_iff.1 hg).1
  by_cases hj : b = j
  · subst hj
    rw [if_pos rfl, hg, Array.getElem?_setIfInBounds_self_of_lt hb]
    rfl
  · rw [if_neg hj, Array.getElem?_setIfInBounds_ne hj]
theorem run_storeCells_row (b o : Nat) (e : TypeId) (fr : Nat × Nat) : ∀ (vs : List Value) (i : Nat) (cs : Array Value) (w : World), w.heap[b]? = some (.cells cs e fr) → o + i + vs.length ≤ cs.size →
    (∀ v ∈ vs, v.oneCell' = true) → (∀ j, j < cs.size → ¬ (fr.1 ≤ j ∧ j < fr.2)) →
    (Go.storeCells ⟨b, o, none⟩ vs i).run P w = .ok () (setW w b (.cells (putA cs (o + i) vs) e fr))
  | [], i, cs, w, hg, _, _, _ => by
    simp only [Go.storeCells, Sem.run_pure, putA, setW_self hg]
  | v :: vs, i, cs, w, hg, hf, h1, hfr => by
    have hb : b < w.heap.size := (Array.getElem?_eq_some_iff.1 hg).1
    simp only [List.length_cons] at hf
    have hi : o + i < cs.size := by omega
    have hst : (store ((⟨b, o, none⟩ : Addr).add i) v).run P w = .ok () (setW w b (.cells (cs.setIfInBounds (o + i) v) e fr)) := by
      rw [Addr.add_lit, run_store P w _ v _ (h1 v (by simp)), cell_row hg]
      simp only [hi, getElem?_pos]
      rw [frozen_row hg (hfr _ hi), setCell_row hg]
      rfl
    simp only [Go.storeCells, Sem.run_bind, hst, Result.andThen_ok]
    rw [run_storeCells_row b o e fr vs (i + 1) (cs.setIfInBounds (o + i) v) _ (by simp [setW, hb]) (by simp; omega) (fun x hx => h1 x (by simp [hx])) (fun j hj => hfr j (by simpa using hj)), setW_setW]
    rfl
end cells
end Go.Av

/- What is written and laid: cells, rows; the first cells of a slice. -/
namespace Go.Av
section
variable {P : Program} {E : Env} {φ : Phi} {h : Heap} {w : World}

theorem storeCells_rel (H : HRel E φ h w) {B o : Nat} {L : Loc} (hp : φ B = some L) {vs : List AV} {xs : List Value} (hv : VRels φ vs xs) {h' : Heap} (hs : Av.storeCells h B o vs = some h') :
    ∃ w', (Go.storeCells ⟨L.b, L.s + o, none⟩ xs).run P w = .ok () w' ∧ HRel E φ h' w' ∧ Ext φ h w φ h' w' := by
  simp only [Av.storeCells, Option.bind_eq_bind, Option.bind_eq_some_iff] at hs
  obtain ⟨bl, hb, hs⟩ := hs
  split at hs
  · rename_i c n e
    split at hs
    · rename_i hc
      cases hs
      obtain ⟨hfit, hone⟩ := hc
      obtain ⟨cs, fr, hw, r⟩ := H.row hp hb
      have hlen := hv.length
      have hone' : ∀ x ∈ xs, x.oneCell' = true := by
        intro x hx
        obtain ⟨i, hi, hxi⟩ := List.getElem_of_mem hx
        have hi' : i < vs.length := by rw [hlen]; exact hi
        obtain ⟨y, hy, hr⟩ := hv.get (List.getElem?_eq_getElem hi')
        rw [List.getElem?_eq_getElem hi] at hy
        cases hy
        rw [← hxi]
        exact hr.one (List.all_eq_true.1 hone _ (List.getElem_mem hi'))
      have hsz : L.s + o + xs.length ≤ cs.size := by rw [r.size]; have := r.fits; omega
      have hrun := run_storeCells_row (P := P) L.b (L.s + o) e fr xs 0 cs w hw (by omega) hone' (by rw [r.size]; exact r.open_)
      simp only [Nat.add_zero] at hrun
      have hm : Mod h B := by unfold Mod; rw [hb]
      have ht := H.turn hp hm (.cells (setN c o vs) n e false) (.cells (putA cs (L.s + o) xs) e fr) ?_
      · exact ⟨_, hrun, ht.1, ht.2⟩
      · refine ⟨_, _, rfl, ⟨by rw [size_putA]; exact r.size, r.fits, r.elem, ?_, ?_, r.open_⟩⟩
        · intro i v hi
          rw [get_setN] at hi
          split at hi
          · rename_i hio
            obtain ⟨x, hx, hr⟩ := hv.get hi
            refine ⟨by omega, List.all_eq_true.1 hone _ (List.mem_of_getElem? hi), x, ?_, hr⟩
            rw [get_putA _ _ _ _ hsz, if_pos (by omega), show L.s + i - (L.s + o) = i - o from by omega]
            exact hx
          · rename_i hio
            obtain ⟨h1, h2, x, h3, h4⟩ := r.get i v hi
            refine ⟨h1, h2, x, ?_, h4⟩
            rw [get_putA _ _ _ _ hsz, if_neg (by omega)]
            exact h3
        · intro i hi
          rw [get_setN]
          split
          · exact ⟨_, List.getElem?_eq_getElem (by omega)⟩
          · exact r.all i hi
    · cases hs
  · cases hs
theorem storeVar_rel (hE : E.Ok P) (H : HRel E φ h w) {t : TypeId} {B o : Nat} {L : Loc} (hp : φ B = some L) {v : AV} {x : Value} (hv : VRel φ v x) {h' : Heap} (hs : Av.storeVar E h t B o v = some h') :
    ∃ w', (Go.storeVar t ⟨L.b, L.s + o, none⟩ x).run P w = .ok () w' ∧ HRel E φ h' w' ∧ Ext φ h w φ h' w' := by
  simp only [Av.storeVar, Option.bind_eq_bind, Option.bind_eq_some_iff] at hs
  obtain ⟨ty, ht, hs⟩ := hs
  split at hs
  · rename_i hl
    have hall : v.cells.all AV.one = true := by
      simp only [Av.storeCells, Option.bind_eq_bind, Option.bind_eq_some_iff] at hs
      obtain ⟨bl, hb, hs⟩ := hs
      split at hs
      · split at hs
        · rename_i hc; exact hc.2
        · cases hs
      · cases hs
    have hc := hv.cells hall
    obtain ⟨w', h1, h2, h3⟩ := storeCells_rel (P := P) H hp hc hs
    refine ⟨w', ?_, h2, h3⟩
    have hsz : x.cells.size = ty.size := by rw [← hl, hc.length]; simp
    simp [Go.storeVar, run_size hE ht, hsz, h1]
  · cases hs

/-- A new row of cells, and more room behind it. -/
theorem newRow_rel (H : HRel E φ h w) {e : TypeId} {te : ATy} (ht : E.t e = some te) {vs : List AV} {xs : List Value} (hv : VRels φ vs xs) (more : List Value) (fr : Nat × Nat)
    (hfr : ∀ j, j < xs.length + more.length → ¬ (fr.1 ≤ j ∧ j < fr.2)) {h' : Heap} (hs : Av.newRow h e vs = some h') :
    HRel E (φ.with h.next ⟨w.heap.size, 0, xs.length + more.length⟩) h' (w.alloc (.cells (xs ++ more).toArray e fr)) ∧
    Ext φ h w (φ.with h.next ⟨w.heap.size, 0, xs.length + more.length⟩) h' (w.alloc (.cells (xs ++ more).toArray e fr)) := by
  simp only [Av.newRow] at hs
  split at hs
  · rename_i hone
    cases hs
    refine H.push _ _ _ rfl ⟨_, _, rfl, ⟨by simp, by simp [hv.length], ⟨te, ht⟩, ?_, ?_, hfr⟩⟩
    · intro i v hi
      rw [T.get_ofL] at hi
      split at hi
      · rename_i hr
        simp only [Nat.sub_zero] at hi
        obtain ⟨x, hx, hxr⟩ := hv.get hi
        refine ⟨by omega, List.all_eq_true.1 hone _ (List.mem_of_getElem? hi), x, ?_, hxr.mono (Phi.le_with (H.none (Nat.le_refl _)))⟩
        have hlt : i < xs.length := (List.getElem?_eq_some_iff.1 hx).1
        simp only [Nat.zero_add, List.getElem?_toArray]
        rw [List.getElem?_append_left hlt]
        exact hx
      · rw [T.get_leaf] at hi; cases hi
    · intro i hi
      rw [T.get_ofL, if_pos (by omega)]
      exact ⟨_, List.getElem?_eq_getElem (by omega)⟩
  · cases hs

/-- How long it is. -/
theorem lenOf_rel {v : AV} {x : Value} (hv : VRel φ v x) {n : Nat} (hl : lenOfV v = some n) : (Builtin.lenOf x).run P w = .ok n w := by
  cases v with
  | slice a l c =>
    simp only [lenOfV, Option.some.injEq] at hl
    subst hl
    simp only [VRel, SlRel] at hv
    split at hv
    · obtain ⟨rfl, _⟩ := hv; rfl
    · exact hv.elim
    · obtain ⟨L, o, _, rfl, _⟩ := hv; rfl
    · obtain ⟨L, o, c, _, rfl, _⟩ := hv; rfl
  | str s =>
    simp only [lenOfV, Option.some.injEq] at hl
    subst hl
    simp only [VRel] at hv
    obtain ⟨b, rfl, rfl⟩ := hv
    simp only [Builtin.lenOf, Sem.run_pure, List.length_map, Array.length_toList]
    rfl
  | _ => simp [lenOfV] at hl
theorem byte_rel (c : UInt8) : VRel φ (.int .u8 (.ofNat c.toNat)) (.int .u8 c.toNat) := by simp only [VRel]; rfl
/-- The first cells of a slice, or of a text. -/
theorem firstV_rel (H : HRel E φ h w) {size n : Nat} {v : AV} {x : Value} (hv : VRel φ v x) {vs : List AV} (hf : firstV h size n v = some vs) {m : Nat} (hm : lenOfV v = some m) (hn : n ≤ m) :
    ∃ xs : List Value, VRels φ vs xs ∧ ∀ w' : World, w'.heap = w.heap → (Builtin.firstCells size n x).run P w' = .ok xs.toArray w' := by
  cases v with
  | slice a l c =>
    simp only [lenOfV, Option.some.injEq] at hm
    subst hm
    cases a with
    | none =>
      simp only [firstV, Option.some.injEq] at hf
      subst hf
      cases c with
      | known c => simp only [VRel, SlRel] at hv; obtain ⟨rfl, _⟩ := hv; exact ⟨[], .nil, fun _ _ => by simp [Builtin.firstCells]⟩
      | room z => simp only [VRel, SlRel] at hv
    | some p =>
      obtain ⟨B, o⟩ := p
      simp only [firstV, Option.bind_eq_bind, Option.bind_eq_some_iff] at hf
      obtain ⟨bl, hb, hf⟩ := hf
      split at hf
      · rename_i c0 n' e ro
        have key : ∀ (L : Loc) (o' : Nat), φ B = some L → (n * size = 0 ∨ o' = L.s + o) → ∃ xs : List Value, VRels φ vs xs ∧ ∀ w' : World, w'.heap = w.heap → (loadCells ⟨L.b, o', none⟩ (n * size)).run P w' = .ok xs.toArray w' := by
          intro L o' hp ho
          rcases Nat.eq_zero_or_pos (n * size) with h0 | h0
          · rw [h0] at hf ⊢
            simp only [getN, Option.some.injEq] at hf
            subst hf
            exact ⟨[], .nil, fun _ _ => by simp [loadCells, loadCellsFrom]⟩
          · obtain ho | rfl := ho
            · omega
            · obtain ⟨xs, _, h2, h4⟩ := loadCells_rel (P := P) H hp hb hf
              exact ⟨xs, h2, h4⟩
        cases c' : c with
        | known cc =>
          subst c'
          simp only [VRel, SlRel] at hv
          obtain ⟨L, o', hp, rfl, hlc, ho⟩ := hv
          obtain ⟨xs, h2, h4⟩ := key L o' hp (ho.imp (fun h0 => by
            have : n = 0 := by omega
            rw [this]; simp) id)
          exact ⟨xs, h2, fun w' hw' => by simpa [Builtin.firstCells] using h4 w' hw'⟩
        | room z =>
          subst c'
          simp only [VRel, SlRel] at hv
          obtain ⟨L, o', c', hp, rfl, _, _, ho⟩ := hv
          obtain ⟨xs, h2, h4⟩ := key L o' hp (ho.imp (fun h0 => by
            have : n = 0 := by omega
            rw [this]; simp) id)
          exact ⟨xs, h2, fun w' hw' => by simpa [Builtin.firstCells] using h4 w' hw'⟩
      · cases hf
  | str s =>
    simp only [firstV, Option.some.injEq] at hf
    subst hf
    simp only [VRel] at hv
    obtain ⟨b, rfl, rfl⟩ := hv
    simp only [lenOfV, Option.some.injEq, List.length_map, Array.length_toList] at hm
    refine ⟨(b.extract 0 n).data.toList.map fun c => .int .u8 c.toNat, ?_, fun _ _ => by
      simp only [Builtin.firstCells, Sem.run_pure]
      congr 1
      exact Array.ext' (by simp)⟩
    have he : (b.extract 0 n).data.toList = b.data.toList.take n := by
      rw [ByteArray.data_extract]; simp
    rw [he]
    refine .of_get (by simp) fun i a v ha hv => ?_
    simp only [List.getElem?_map, List.getElem?_take, Option.map_eq_some_iff] at ha hv
    obtain ⟨k, hk, rfl⟩ := ha
    obtain ⟨d, hd, rfl⟩ := hv
    split at hk
    · rename_i hin
      rw [if_pos hin] at hd
      simp only [hd, Option.map_some, Option.some.injEq] at hk
      subst hk
      exact byte_rel d
    · cases hk
  | _ => simp [firstV] at hf
end
end Go.Av

/- append, copy, clear on both sides. -/
namespace Go.Av
/-- What an operation of the model's comes to: the value that the evaluator has, in the heap that it leaves. -/
def Gives (P : Program) (E : Env) (φ : Phi) (h : Heap) (w : World) (sem : Sem Value) (v : AV) (h' : Heap) : Prop :=
  ∃ φ' x w', sem.run P w = .ok x w' ∧ VRel φ' v x ∧ HRel E φ' h' w' ∧ Ext φ h w φ' h' w'
theorem Gives.same {P : Program} {E : Env} {φ : Phi} {h : Heap} {w : World} {sem : Sem Value} {v : AV} {x : Value} (H : HRel E φ h w) (hr : sem.run P w = .ok x w) (hv : VRel φ v x) : Gives P E φ h w sem v h :=
  ⟨φ, x, w, hr, hv, H, .refl φ h w⟩

section
variable {P : Program} {w : World}
theorem run_append_room {sT xT e ty : TypeId} {dx : TypeDesc} (hs : P.underlying sT = some (.slice e)) (hx : P.underlying xT = some dx) (hdx : isSeqD dx = true) {size : Nat} (hsz : ∀ w, (sizeOf e).run P w = .ok size w)
    (a : Option Addr) (sl sc n : Nat) (x : Value) (hl : ∀ w', (Builtin.lenOf x).run P w' = .ok n w') (hroom : sl + n ≤ sc) (news : Array Value) (hf : (Builtin.firstCells size n x).run P w = .ok news w) (w' : World)
    (hst : (match a with | some a => (Go.storeCells (a.add (sl * size)) news.toList).run P w | none => .ok () w) = .ok () w') :
    (Builtin.append_ #[sT, xT] ty #[.slice a sl sc, x]).run P w = .ok (.slice a (sl + n) sc) w' := by
  have hu := run_underlying hx
  cases a with
  | none =>
    simp only at hst
    cases hst
    cases dx <;> first
      | (simp [isSeqD] at hdx; done)
      | simp [Builtin.append_, run_underlying hs, hu, hsz, hl, hroom, hf]
  | some a =>
    cases dx <;> first
      | (simp [isSeqD] at hdx; done)
      | simp [Builtin.append_, run_underlying hs, hu, hsz, hl, hroom, hf, hst]
theorem run_append_out {sT xT e ty : TypeId} {dx : TypeDesc} (hs : P.underlying sT = some (.slice e)) (hx : P.underlying xT = some dx) (hdx : isSeqD dx = true) {size : Nat} (hsz : ∀ w, (sizeOf e).run P w = .ok size w)
    (i : TypeInfo) (hi : ∀ w, (typeInfo e).run P w = .ok i w) (z : Value) (hz : ∀ w, (zeroValue e).run P w = .ok z w)
    (a : Option Addr) (sl sc n : Nat) (x : Value) (hl : ∀ w', (Builtin.lenOf x).run P w' = .ok n w') (hroom : sc < sl + n) (news olds : Array Value)
    (hf : (Builtin.firstCells size n x).run P w.drew = .ok news w.drew) (ho : (Builtin.firstCells size sl (.slice a sl sc)).run P w.drew = .ok olds w.drew)
    (hb : (sl + n) * i.bytes ≤ 140737488355328) (h63 : sl + n ≤ 9223372036854775807) :
    ∃ cap, sl + n ≤ cap ∧ (Builtin.append_ #[sT, xT] ty #[.slice a sl sc, x]).run P w =
      .ok (.slice (some ⟨w.heap.size, 0, none⟩) (sl + n) cap) (w.drew.alloc (.cells (olds.toList ++ news.toList ++ (Builtin.zeroCells z.cells (cap - (sl + n))).toList).toArray e)) := by
  have hu := run_underlying hx
  have hn : ¬ (sl + n ≤ sc) := by omega
  have h63' : ¬ (9223372036854775807 < ((sl : Int) + (n : Int))) := by omega
  have h48' : ¬ (281474976710656 < Builtin.nextslicecap (sl + n) sc * i.bytes) := by have := growslice_fits hroom hb; omega
  refine ⟨(Question.appendCap (sl + n) sc e).cut (w.tape w.drawn (.appendCap (sl + n) sc e)), by simp [Question.cut], ?_⟩
  cases dx <;> first
    | (simp [isSeqD] at hdx; done)
    | (simp [Builtin.append_, run_underlying hs, hu, hsz, hi, hz, hl, hn, h63', h48', Question.forced, hf, ho, Go.newRow]; congr 2; exact Array.ext' (by simp))
end
theorem fits_spec {te : ATy} {n : Nat} (h : fits te n = true) : n * te.bytes ≤ 140737488355328 ∧ n ≤ 9223372036854775807 ∧ 0 < te.bytes ∧ ∃ z, te.zero = some z ∧ z.cells.length = te.size := by
  simp only [fits, Bool.and_eq_true, decide_eq_true_eq] at h
  obtain ⟨⟨⟨h1, h2⟩, h3⟩, h4⟩ := h
  refine ⟨h1, h2, h3, ?_⟩
  split at h4
  · rename_i z hz; exact ⟨z, hz, by simpa using h4⟩
  · cases h4
theorem firstV_length {h : Heap} {size n : Nat} {v : AV} {vs : List AV} (hf : firstV h size n v = some vs) (hs : ∀ s, v ≠ .str s) (h0 : ∀ l c, v = .slice none l c → n * size = 0) : vs.length = n * size := by
  cases v with
  | slice a l c =>
    cases a with
    | none => simp only [firstV, Option.some.injEq] at hf; subst hf; simp [h0 l c rfl]
    | some p =>
      obtain ⟨B, o⟩ := p
      simp only [firstV, Option.bind_eq_bind, Option.bind_eq_some_iff] at hf
      obtain ⟨bl, hb, hf⟩ := hf
      split at hf
      · exact (getN_some hf).1
      · cases hf
  | str s => exact absurd rfl (hs s)
  | _ => simp [firstV] at hf
section
variable {P : Program} {E : Env} {φ : Phi} {w : World}
theorem zero_cells (hE : E.Ok P) {t : TypeId} {te : ATy} (ht : E.t t = some te) {z : AV} (hz : te.zero = some z) (hl : z.cells.length = te.size) (w : World) :
    ∃ v, (zeroValue t).run P w = .ok v w ∧ v.cells.size = te.size ∧ (∀ φ, VRel φ z v) := by
  obtain ⟨v, h1, h2⟩ := run_zero hE ht hz w
  refine ⟨v, h1, ?_, fun φ => ofV_rel 9 v z h2⟩
  have hr := ofV_rel (φ := fun _ => none) 9 v z h2
  cases z with
  | agg cs => simp only [VRel] at hr; obtain ⟨cs', rfl, hr⟩ := hr; have := hr.length; simp only [Value.cells, AV.cells] at *; rw [← hl, this]; simp
  | tuple cs => simp only [VRel] at hr; obtain ⟨cs', rfl, hr⟩ := hr; simp only [Value.cells, AV.cells] at *; rw [← hl]; rfl
  | undef => simp only [VRel] at hr; subst hr; simp only [Value.cells, AV.cells, Go.undef] at *; rw [← hl]; rfl
  | _ =>
    have h1 := hr.one rfl
    have hc : v.cells = #[v] := by cases v <;> first | rfl | simp [Value.oneCell'] at h1
    rw [hc, ← hl]
    rfl
/-- A row that goes on in the place where it lies: the old number is dead, a new one has all. -/
theorem regrow {h : Heap} (H : HRel E φ h w) {B : Nat} {L : Loc} (hp : φ B = some L) {c : T AV} {n : Nat} {e : TypeId} (hb : h.b.get B = some (.cells c n e false)) (L' : Loc) (hL : L'.b = L.b) (all : List AV) (o : Obj)
    (hx : BRel E (φ.with h.next L') L' (some (.cells (T.ofL all 0 .leaf) all.length e false)) (some o)) :
    HRel E (φ.with h.next L') (newBlk ⟨h.b.set B .dead, h.next⟩ (.cells (T.ofL all 0 .leaf) all.length e false)) (setW w L.b o) ∧
    Ext φ h w (φ.with h.next L') (newBlk ⟨h.b.set B .dead, h.next⟩ (.cells (T.ofL all 0 .leaf) all.length e false)) (setW w L.b o) := by
  have hn := H.none (Nat.le_refl h.next)
  have hle := Phi.le_with (L := L') hn
  have hdm := H.dom B L hp
  have hm : Mod h B := by unfold Mod; rw [hb]
  have hnd : h.b.get B ≠ some .dead := by rw [hb]; simp
  generalize hX : (Blk.cells (T.ofL all 0 .leaf) all.length e false) = X at *
  have hXd : X ≠ .dead := by rw [← hX]; simp
  have hget : ∀ B', (newBlk ⟨h.b.set B .dead, h.next⟩ X).b.get B' = if B' = h.next then some X else if B' = B then some .dead else h.b.get B' := fun B' => by
    show (T.set (T.set h.b B .dead) h.next X).get B' = _
    rw [T.get_set, T.get_set]
  have hw : ∀ b, b ≠ L.b → (setW w L.b o).heap[b]? = w.heap[b]? := fun b hb => by simp only [setW]; exact Array.getElem?_setIfInBounds_ne (fun e => hb e.symm)
  refine ⟨⟨?_, ?_, ?_, ?_⟩, ⟨hle, ?_, by simp [newBlk], by simp [setW], ?_, ?_, ?_, rfl, rfl, rfl⟩⟩
  · intro B1 L1 e1
    simp only [Phi.with] at e1
    split at e1
    · cases e1; subst B1; refine ⟨by simp [newBlk], ?_⟩; simp only [setW, Array.size_setIfInBounds]; omega
    · have := H.dom B1 L1 e1; simp only [newBlk, setW, Array.size_setIfInBounds]; omega
  · intro B1 B2 L1 L2 e1 e2 hb12 d1 d2
    rw [hget] at d1 d2
    simp only [Phi.with] at e1 e2
    split at e1 <;> split at e2
    · omega
    · rename_i h1 h2
      cases e1
      rw [if_neg h2] at d2
      split at d2
      · exact absurd rfl d2
      · rename_i h3; exact absurd (H.inj B2 B L2 L e2 hp (by omega) d2 hnd) h3
    · rename_i h1 h2
      cases e2
      rw [if_neg h1] at d1
      split at d1
      · exact absurd rfl d1
      · rename_i h3; exact absurd (H.inj B1 B L1 L e1 hp (by omega) d1 hnd) h3
    · rename_i h1 h2
      rw [if_neg h1] at d1
      rw [if_neg h2] at d2
      split at d1
      · exact absurd rfl d1
      · split at d2
        · exact absurd rfl d2
        · exact H.inj B1 B2 L1 L2 e1 e2 hb12 d1 d2
  · intro B1 L1 e1
    rw [hget]
    simp only [Phi.with] at e1
    split at e1
    · rename_i h1
      cases e1
      rw [if_pos h1, hL, show (setW w L.b o).heap[L.b]? = some o from by simp [setW, hdm.2]]
      exact hx
    · rename_i h1
      rw [if_neg h1]
      split
      · trivial
      · rename_i h2
        by_cases hdead : h.b.get B1 = some .dead
        · rw [hdead]; trivial
        · have hb1 : L1.b ≠ L.b := fun hb1 => h2 (H.inj B1 B L1 L e1 hp hb1 hdead hnd)
          rw [hw _ hb1]
          exact (H.blk B1 L1 e1).mono hle
  · intro B1 hB1
    have h1 : h.next + 1 ≤ B1 := hB1
    rw [hget, if_neg (by omega), if_neg (by omega)]
    exact H.fresh B1 (by omega)
  · intro B1 L1 e1
    simp only [Phi.with] at e1
    split at e1
    · cases e1; subst B1; exact .inr ⟨hn, Nat.le_refl _, by simp [newBlk], .inr ⟨B, L, hp, hL.symm, hm⟩⟩
    · exact .inl e1
  · intro B1 hB1 hn1
    rw [hget, if_neg (by omega)]
    split
    · rename_i e1; subst e1; rw [hp] at hn1; cases hn1
    · rfl
  · intro B1 hB1 hn1
    rw [hget, if_neg (by omega)]
    split
    · rename_i e1; subst e1; exact absurd hm hn1
    · rfl
  · intro b _ hn1
    exact hw b (fun e1 => hn1 B L hp e1.symm hm)
/-- What is known at an append: what is appended, on both sides. -/
structure App (P : Program) (E : Env) (φ : Phi) (w : World) (h : Heap) (ts tx e : TypeId) (te : ATy) (xv : Value) (n : Nat) (new : List AV) (xs : List Value) : Prop where
  ok : E.Ok P
  H : HRel E φ h w
  us : P.underlying ts = some (.slice e)
  dx : ∃ d, P.underlying tx = some d ∧ isSeqD d = true
  tee : E.t e = some te
  len : new.length = n * te.size
  rel : VRels φ new xs
  fx : ∀ w' : World, w'.heap = w.heap → (Builtin.firstCells te.size n xv).run P w' = .ok xs.toArray w'
  ln : ∀ w' : World, (Builtin.lenOf xv).run P w' = .ok n w'
section app
variable {h : Heap} {ts tx e ty : TypeId} {te : ATy} {xv : Value} {n : Nat} {new : List AV} {xs : List Value}
theorem App.out (A : App P E φ w h ts tx e te xv n new xs) {sl : Nat} (a' : Option Addr) (sc : Nat) (old : List AV) (os : List Value) (hos : VRels φ old os) (hol : old.length = sl * te.size)
    (hfo : ∀ w' : World, w'.heap = w.heap → (Builtin.firstCells te.size sl (.slice a' sl sc)).run P w' = .ok os.toArray w') (hroom : sc < sl + n) (hfit : fits te (sl + n) = true)
    (h0 h' : Heap) (H0 : HRel E φ h0 w) (hnr : Av.newRow h0 e (old ++ new) = some h') :
    ∃ φ' cap w', (Builtin.append_ #[ts, tx] ty #[.slice a' sl sc, xv]).run P w = .ok (.slice (some ⟨w.heap.size, 0, none⟩) (sl + n) cap) w' ∧
      VRel φ' (.slice (some (h0.next, 0)) (sl + n) (.room te.size)) (.slice (some ⟨w.heap.size, 0, none⟩) (sl + n) cap) ∧ HRel E φ' h' w' ∧ Ext φ h0 w φ' h' w' := by
  obtain ⟨hE, H, hus, ⟨d, hux, hseq⟩, hte, hlen, hxs, hfx, hl⟩ := A
  have hsz := fun w => run_size hE hte (P := P) w
  obtain ⟨hb, h63, _, z, hz, hzl⟩ := fits_spec hfit
  obtain ⟨i, _, hi, _, hib, _⟩ := run_info hE hte w (P := P)
  have hzz : ∃ zv : Value, (∀ w, (zeroValue e).run P w = .ok zv w) ∧ zv.cells.size = te.size := by
    obtain ⟨v, h1, h2, _⟩ := zero_cells hE hte hz hzl w (P := P)
    have : ∃ i : TypeInfo, P.info? e = some i ∧ i.zero = some v := by
      refine ⟨i, hi, ?_⟩
      simp only [zeroValue, typeInfo, Sem.run_bind, run_program, Result.andThen_ok, hi, Sem.run_pure] at h1
      cases hiz : i.zero with
      | none => rw [hiz] at h1; simp at h1
      | some v' => rw [hiz] at h1; simp at h1; rw [h1]
    obtain ⟨j, hj, hjz⟩ := this
    exact ⟨v, fun w => by simp [zeroValue, typeInfo, hj, hjz], h2⟩
  obtain ⟨zv, hzv, hzs⟩ := hzz
  obtain ⟨cap, hcap, hrun⟩ := run_append_out (P := P) (w := w) (ty := ty) hus hux hseq hsz i (fun w => by simp [typeInfo, hi]) zv hzv a' sl sc n xv hl hroom xs.toArray os.toArray
    (hfx w.drew rfl) (hfo w.drew rfl) (by rw [hib]; exact hb) h63
  have hH := H0.drew (w.drawn + 1)
  have hnew := newRow_rel (w := w.drew) hH hte (hos.append hxs) (Builtin.zeroCells zv.cells (cap - (sl + n))).toList (0, 0) (by intro j _ hh; omega) hnr
  refine ⟨_, cap, _, by simpa using hrun, ?_, hnew.1, (Ext.drew (w.drawn + 1)).trans H0 hnew.2⟩
  simp only [VRel, SlRel]
  refine ⟨_, 0, cap, by simp only [Phi.with, if_true]; rfl, by rfl, hcap, ?_, .inr rfl⟩
  have e1 : (os ++ xs).length = (sl + n) * te.size := by rw [List.length_append, ← hos.length, ← hxs.length, hol, hlen, Nat.add_mul]
  have e2 : (Builtin.zeroCells zv.cells (cap - (sl + n))).toList.length = (cap - (sl + n)) * te.size := by simp [Builtin.zeroCells, hzs]
  simp only [e1, e2, ← Nat.add_mul, Nat.zero_add]
  exact Nat.mul_le_mul_right _ (by omega)
theorem App.room (A : App P E φ w h ts tx e te xv n new xs) (a : Option Addr) (sl sc : Nat) (hroom : sl + n ≤ sc) (w' : World)
    (hst : (match a with | some a => (Go.storeCells (a.add (sl * te.size)) xs).run P w | none => .ok () w) = .ok () w') :
    (Builtin.append_ #[ts, tx] ty #[.slice a sl sc, xv]).run P w = .ok (.slice a (sl + n) sc) w' := by
  obtain ⟨hE, H, hus, ⟨d, hux, hseq⟩, hte, hlen, hxs, hfx, hl⟩ := A
  exact run_append_room (P := P) (w := w) (ty := ty) hus hux hseq (fun w => run_size hE hte (P := P) w) a sl sc n xv hl hroom xs.toArray (hfx w rfl) w' (by simpa using hst)
theorem App.none0 (A : App P E φ w h ts tx e te xv n new xs) (hn : n = 0) : xs = [] := by
  have := A.rel.length
  rw [A.len, hn] at this
  exact List.eq_nil_of_length_eq_zero (by omega)
theorem App.inplace (A : App P E φ w h ts tx e te xv n new xs) {b o sl : Nat} {L : Loc} {o' c' : Nat} (hp : φ b = some L) (hcn : o' + c' * te.size ≤ L.n) (hoo : sl = 0 ∨ o' = L.s + o) (hroom : sl + n ≤ c')
    {cc : T AV} {nn : Nat} (hbl : h.b.get b = some (.cells cc nn e false)) {old : List AV} {cap : Cap} (hold : firstV h te.size sl (.slice (some (b, o)) sl cap) = some old) (hol : old.length = sl * te.size) {h' : Heap}
    (hnr : Av.newRow ⟨h.b.set b .dead, h.next⟩ e (old ++ new) = some h') :
    ∃ φ' w', (Builtin.append_ #[ts, tx] ty #[.slice (some ⟨L.b, o', none⟩) sl c', xv]).run P w = .ok (.slice (some ⟨L.b, o', none⟩) (sl + n) c') w' ∧
      VRel φ' (.slice (some (h.next, 0)) (sl + n) (.room te.size)) (.slice (some ⟨L.b, o', none⟩) (sl + n) c') ∧ HRel E φ' h' w' ∧ Ext φ h w φ' h' w' := by
  have H := A.H
  obtain ⟨cs, fr, hwb, r⟩ := H.row hp hbl
  have hbig : (sl + n) * te.size ≤ c' * te.size := Nat.mul_le_mul_right _ hroom
  have hxl := A.rel.length
  have hxlen : xs.length = n * te.size := by rw [← hxl]; exact A.len
  have hsplit : (sl + n) * te.size = sl * te.size + n * te.size := Nat.add_mul _ _ _
  simp only [Av.newRow] at hnr
  split at hnr
  · rename_i hall
    cases hnr
    have hone : ∀ x ∈ xs, x.oneCell' = true := by
      intro x hx
      obtain ⟨i, hi, hxi⟩ := List.getElem_of_mem hx
      have hi' : i < new.length := by rw [hxl]; exact hi
      obtain ⟨y, hy, hr⟩ := A.rel.get (List.getElem?_eq_getElem hi')
      rw [List.getElem?_eq_getElem hi] at hy
      cases hy
      rw [← hxi]
      exact hr.one (List.all_eq_true.1 hall _ (List.mem_append_right _ (List.getElem_mem hi')))
    have hst := run_storeCells_row (P := P) L.b (o' + sl * te.size) e fr xs 0 cs w hwb (by rw [r.size]; omega) hone (by rw [r.size]; exact r.open_)
    simp only [Nat.add_zero] at hst
    have hr := A.room (ty := ty) (some ⟨L.b, o', none⟩) sl c' hroom _ (by simp only [Addr.add_lit]; exact hst)
    have hsz' : (old ++ new).length = (sl + n) * te.size := by rw [List.length_append, hol, A.len, hsplit]
    have hg := regrow H hp hbl ⟨L.b, o', L.n⟩ rfl (old ++ new) (.cells (putA cs (o' + sl * te.size) xs) e fr) ?_
    · refine ⟨_, _, hr, ?_, hg.1, hg.2⟩
      simp only [VRel, SlRel]
      exact ⟨⟨L.b, o', L.n⟩, o', c', by simp only [Phi.with, if_true], rfl, hroom, hcn, .inr rfl⟩
    · refine ⟨_, _, rfl, ⟨by rw [size_putA]; exact r.size, by simp only; omega, ⟨te, A.tee⟩, ?_, ?_, r.open_⟩⟩
      · intro i v hi
        rw [T.get_ofL] at hi
        split at hi
        · rename_i hin
          simp only [Nat.sub_zero] at hi
          refine ⟨by omega, List.all_eq_true.1 hall _ (List.mem_of_getElem? hi), ?_⟩
          by_cases hio : i < sl * te.size
          · rw [List.getElem?_append_left (by omega)] at hi
            have hsl : sl ≠ 0 := fun h0 => by rw [h0] at hio; omega
            have ho' : o' = L.s + o := hoo.resolve_left hsl
            simp only [firstV, Option.bind_eq_bind, Option.bind_eq_some_iff] at hold
            obtain ⟨bl', hbl', hold⟩ := hold
            rw [hbl] at hbl'
            cases hbl'
            obtain ⟨zs, hz1, hz2, hz3⟩ := r.getN hold
            obtain ⟨y, hy, hyr⟩ := hz2.get hi
            refine ⟨y, ?_, hyr.mono (Phi.le_with (H.none (Nat.le_refl _)))⟩
            rw [get_putA _ _ _ _ (by rw [r.size]; omega), if_neg (by simp only; omega)]
            have := hz3 i y hy
            rw [ho']
            exact this
          · rw [List.getElem?_append_right (by omega), hol] at hi
            obtain ⟨y, hy, hyr⟩ := A.rel.get hi
            refine ⟨y, ?_, hyr.mono (Phi.le_with (H.none (Nat.le_refl _)))⟩
            rw [get_putA _ _ _ _ (by rw [r.size]; omega), if_pos (by simp only; omega)]
            rw [show ({ b := L.b, s := o', n := L.n } : Loc).s + i - (o' + sl * te.size) = i - sl * te.size from by simp only; omega]
            exact hy
        · rw [T.get_leaf] at hi; cases hi
      · intro i hi
        rw [T.get_ofL, if_pos (by omega)]
        exact ⟨_, List.getElem?_eq_getElem (by omega)⟩
  · cases hnr
end app
theorem append_rel (hE : E.Ok P) {st : St} (H : HRel E φ st.hp w) {ts tx ty : TypeId} {s x : AV} {sv xv : Value} (hs : VRel φ s sv) (hx : VRel φ x xv) {r : OR} (ha : appendV E ts tx s x st = some r) :
    ∃ v h', r = .val v (st.at h') ∧ Gives P E φ st.hp w (Builtin.append_ #[ts, tx] ty #[sv, xv]) v h' := by
  simp only [appendV, Option.bind_eq_bind, Option.bind_eq_some_iff] at ha
  obtain ⟨ay, hty, ax, htx, n, hn, ha⟩ := ha
  split at ha
  · rename_i e base sl cap hd
    have hus := (hE.ty ts ay hty).1
    rw [hd] at hus
    have hux := (hE.ty tx ax htx).1
    split at ha
    · cases ha
    · rename_i hseq
      have hseq' : isSeqD ax.d = true := by simpa using hseq
      simp only [Option.bind_eq_some_iff] at ha
      obtain ⟨te, hte, new, hnew, ha⟩ := ha
      split at ha
      · cases ha
      · rename_i hlen
        simp only [ne_eq, Decidable.not_not] at hlen
        obtain ⟨xs, hxs, hfx⟩ := firstV_rel (P := P) H hx hnew hn (Nat.le_refl _)
        have A : App P E φ w st.hp ts tx e te xv n new xs := ⟨hE, H, hus, ⟨_, hux, hseq'⟩, hte, hlen, hxs, hfx, fun w => lenOf_rel hx hn⟩
        have hfd := fun {old : List AV} (ho : firstV st.hp te.size sl (.slice base sl cap) = some old) => firstV_rel (P := P) H hs ho (m := sl) rfl (Nat.le_refl _)
        clear hn hnew hlen hxs hfx hseq hseq' hux hus hty htx hx
        cases cap with
        | known c =>
          simp only at ha
          split at ha
          · rename_i hroom
            cases base with
            | none =>
              simp only at ha
              split at ha
              · rename_i hn0
                cases ha
                have hs' := hs
                simp only [VRel, SlRel] at hs
                obtain ⟨rfl, rfl, rfl⟩ := hs
                have hr := A.room (ty := ty) none 0 0 (by omega) w rfl
                subst hn0
                exact ⟨_, st.hp, rfl, Gives.same H hr hs'⟩
              · cases ha
            | some p =>
              obtain ⟨b, o⟩ := p
              simp only [VRel, SlRel] at hs
              obtain ⟨L, o', hp, rfl, hlc, ho⟩ := hs
              simp only [Option.bind_eq_some_iff, Option.some.injEq] at ha
              obtain ⟨h', hst, rfl⟩ := ha
              obtain ⟨w', hr', hH', hX'⟩ := storeCells_rel (P := P) H hp A.rel hst
              have hr := A.room (ty := ty) (some ⟨L.b, o', none⟩) sl c hroom w' (by
                rcases ho with h0 | ho
                · have hx0 := A.none0 (by omega)
                  rw [hx0] at hr' ⊢
                  simp only [Go.storeCells, Sem.run_pure] at hr' ⊢
                  exact hr'
                · simp only [Addr.add_lit]
                  rw [ho, Nat.add_assoc]
                  exact hr')
              exact ⟨_, h', rfl, φ, _, w', hr, by simp only [VRel, SlRel]; exact ⟨L, o', hp, rfl, hroom, ho⟩, hH', hX'⟩
          · rename_i hroom
            split at ha
            · rename_i hfit
              simp only [Option.bind_eq_some_iff, Option.some.injEq] at ha
              obtain ⟨old, hold, h', hnr, rfl⟩ := ha
              obtain ⟨os, hos, hfo⟩ := hfd hold
              have hol := firstV_length hold (by simp) (fun l c' e1 => by
                cases e1
                simp only [VRel, SlRel] at hs
                obtain ⟨_, rfl, _⟩ := hs
                simp)
              have hsv : ∃ a', sv = .slice a' sl c := by
                cases base with
                | none => simp only [VRel, SlRel] at hs; exact ⟨none, hs.1⟩
                | some p => simp only [VRel, SlRel] at hs; obtain ⟨L, o', _, h2, _⟩ := hs; exact ⟨_, h2⟩
              obtain ⟨a', rfl⟩ := hsv
              obtain ⟨φ', cp, w', h1, h2, h3, h4⟩ := A.out (ty := ty) a' c old os hos hol hfo (by omega) hfit st.hp h' H hnr
              exact ⟨_, h', rfl, φ', _, w', h1, h2, h3, h4⟩
            · cases ha
        | room z =>
          cases base with
          | none => simp only at ha; cases ha
          | some p =>
            obtain ⟨b, o⟩ := p
            simp only at ha
            have hs' := hs
            simp only [VRel, SlRel] at hs
            obtain ⟨L, o', c', hp, rfl, hlc, hcn, hoo⟩ := hs
            split at ha
            · rename_i hn0
              cases ha
              have hx0 := A.none0 hn0
              have hr := A.room (ty := ty) (some ⟨L.b, o', none⟩) sl c' (by omega) w (by rw [hx0]; simp [Go.storeCells])
              subst hn0
              exact ⟨_, st.hp, rfl, Gives.same H hr hs'⟩
            · rename_i hn0
              split at ha
              · rename_i hfit
                simp only [Option.bind_eq_some_iff] at ha
                obtain ⟨old, hold, bl, hbl, ha⟩ := ha
                split at ha
                · rename_i cc nn e'
                  split at ha
                  · rename_i hee
                    obtain ⟨hee, hzz⟩ := hee
                    subst hee
                    subst hzz
                    simp only [Option.bind_eq_some_iff, Option.some.injEq] at ha
                    obtain ⟨h', hnr, rfl⟩ := ha
                    obtain ⟨os, hos, hfo⟩ := hfd hold
                    have hol := firstV_length hold (by simp) (fun l c' e1 => by cases e1)
                    have hm : Mod st.hp b := by unfold Mod; rw [hbl]
                    have hdm := H.dom b L hp
                    by_cases hroom : sl + n ≤ c'
                    · obtain ⟨φ', w', h1, h2, h3, h4⟩ := A.inplace (ty := ty) hp hcn hoo hroom hbl hold hol hnr
                      exact ⟨_, h', rfl, φ', _, w', h1, h2, h3, h4⟩
                    · obtain ⟨φ', cp, w', h1, h2, h3, h4⟩ := A.out (ty := ty) (some ⟨L.b, o', none⟩) c' old os hos hol hfo (by omega) hfit ⟨st.hp.b.set b .dead, st.hp.next⟩ h' (H.kill hdm.1) hnr
                      exact ⟨_, h', rfl, φ', _, w', h1, h2, h3, (Ext.kill hp hm).trans H h4⟩
                  · cases ha
                · cases ha
              · cases ha
  · cases ha
end
end Go.Av

/- The operations that only reckon, on both sides. -/
namespace Go.Av
section
variable {P : Program} {E : Env} {φ : Phi} {w : World}

theorem part_rel (hE : E.Ok P) {t : TypeId} {ty : ATy} (ht : E.t t = some ty) {cs : List AV} {xs : Array Value} (hc : VRels φ cs xs.toList) {o : Nat} {v : AV} (hp : partL ty cs o = some v) :
    ∃ x, (∀ w, (part t xs o).run P w = .ok x w) ∧ VRel φ v x := by
  unfold partL at hp
  split at hp
  · rename_i ha
    split at hp
    · cases hp
      refine ⟨.agg (xs.extract o (o + ty.size)), fun w => by simp [part, run_agg hE ht, ha, run_size hE ht], ?_⟩
      simp only [VRel]
      refine ⟨_, rfl, ?_⟩
      have := (hc.drop o).take ty.size
      simpa [List.take_drop] using this
    · cases hp
  · rename_i ha
    obtain ⟨x, hx, hr⟩ := hc.get hp
    have hx' : xs[o]? = some x := by simpa using hx
    exact ⟨x, fun w => by simp [part, run_agg hE ht, ha, hx'], hr⟩
theorem bytes_eq {a b : ByteArray} : (a.data.toList.map UInt8.toNat == b.data.toList.map UInt8.toNat) = (a.toList == b.toList) := by
  rw [ByteArray.toList_eq, ByteArray.toList_eq]
  generalize a.data.toList = x
  generalize b.data.toList = y
  rw [Bool.eq_iff_iff, beq_iff_eq, beq_iff_eq]
  constructor
  · intro h
    exact (List.map_inj_right fun a b h => UInt8.toNat_inj.1 h).1 h
  · intro h; rw [h]
theorem eqFs_rel (hE : E.Ok P) {q : TypeId → AV → AV → Option Bool} {d : Nat}
    (hq : ∀ t x y r xv yv, q t x y = some r → VRel φ x xv → VRel φ y yv → ∀ w, (Op.equalIn d t xv yv).run P w = .ok r w) {xs ys : Array Value} {as bs : List AV} (ha : VRels φ as xs.toList) (hb : VRels φ bs ys.toList) :
    ∀ (fs : List Field) (r : Bool), eqFs E q ((fs.filter fun f : Field => decide (f.name ≠ "_")).map fun f : Field => (f.type, f.offset)) as bs = some r → ∀ w, (Op.eqFields d xs ys fs).run P w = .ok r w := by
  intro fs
  induction fs with
  | nil => intro r h w; simp only [List.filter_nil, List.map_nil, eqFs, Option.some.injEq] at h; subst h; rfl
  | cons f fs ih =>
    intro r h w
    by_cases hn : f.name ≠ "_"
    · rw [List.filter_cons_of_pos (by simpa using hn)] at h
      simp only [List.map_cons, eqFs, Option.bind_eq_bind, Option.bind_eq_some_iff] at h
      obtain ⟨tf, htf, x, hx, y, hy, c, hc, h⟩ := h
      obtain ⟨xv, hxr, hxv⟩ := part_rel hE htf ha hx
      obtain ⟨yv, hyr, hyv⟩ := part_rel hE htf hb hy
      have hcr := hq _ _ _ _ _ _ hc hxv hyv w
      simp only [Op.eqFields, if_pos hn, Sem.run_bind, hxr, hyr, hcr, Result.andThen_ok, Sem.run_ite]
      cases c
      · simp only [Bool.false_eq_true, if_false, Option.some.injEq] at h
        subst h
        simp
      · simp only [if_true] at h
        simpa using ih r h w
    · rw [List.filter_cons_of_neg (by simpa using hn)] at h
      simp only [Op.eqFields, if_neg hn]
      exact ih r h w
set_option maxHeartbeats 2000000 in
theorem eqV_rel (hE : E.Ok P) : ∀ (d : Nat) (t : TypeId) (x y : AV) (r : Bool) (xv yv : Value), eqV E d t x y = some r → VRel φ x xv → VRel φ y yv → ∀ (D : Nat) (w : World), d ≤ D → (Op.equalIn D t xv yv).run P w = .ok r w := by
  intro d
  induction d with
  | zero => intro t x y r xv yv h; simp [eqV] at h
  | succ d ih =>
    intro t x y r xv yv h hx hy D w hD
    obtain ⟨D, rfl⟩ : ∃ k, D = k + 1 := ⟨D - 1, by omega⟩
    simp only [eqV] at h
    split at h
    · cases h
    · rename_i ty hty
      have hu := (hE.ty t ty hty).1
      have hr := run_underlying hu
      split at h
      · rename_i a b hd
        rw [hd] at hr
        cases h
        simp only [VRel] at hx hy; subst hx; subst hy
        simp [Op.equalIn, hr]
      · rename_i a b hd
        rw [hd] at hr
        simp only [VRel] at hx hy; subst hx; subst hy
        split at h
        · rename_i e; cases h; simp [Op.equalIn, hr, e]
        · cases h
      · rename_i a b hd
        rw [hd] at hr
        cases h
        simp only [VRel] at hx hy; obtain ⟨a', rfl, rfl⟩ := hx; obtain ⟨b', rfl, rfl⟩ := hy
        simp only [Op.equalIn, Sem.run_bind, hr, Result.andThen_ok, Sem.run_pure]
        rw [beq_toListBytes, bytes_eq]
      · rename_i b hd
        rw [hd] at hr
        cases h
        simp only [VRel] at hx
        subst hx
        cases b with
        | none => simp only [VRel] at hy; subst hy; simp [Op.equalIn, hr]
        | some p => simp only [VRel] at hy; obtain ⟨L, _, rfl⟩ := hy; simp [Op.equalIn, hr]
      · rename_i p hd
        rw [hd] at hr
        cases h
        simp only [VRel] at hx hy; obtain ⟨L, _, rfl⟩ := hx; subst hy
        simp [Op.equalIn, hr]
      · rename_i e b o b' o' hd
        rw [hd] at hr
        split at h
        · rename_i te hte
          split at h
          · rename_i hc
            obtain ⟨hz, rfl⟩ := hc
            cases h
            simp only [VRel] at hx hy; obtain ⟨L, h1, rfl⟩ := hx; obtain ⟨L', h2, rfl⟩ := hy
            rw [h1] at h2
            cases h2
            simp only [Op.equalIn, Sem.run_bind, hr, Result.andThen_ok, run_size hE hte, Sem.run_ite]
            rw [if_pos hz]
            simp only [sameAddr, beq_self_eq_true, if_true, Sem.run_pure]
            congr 1
            by_cases e : o = o' <;> simp [e]
          · cases h
        · cases h
      · rename_i hd
        rw [hd] at hr
        cases h
        simp only [VRel] at hx hy; subst hx; subst hy
        simp [Op.equalIn, hr]
      · rename_i hd
        rw [hd] at hr
        cases h
        simp only [VRel] at hx hy; subst hx; obtain ⟨_, rfl, _⟩ := hy
        simp [Op.equalIn, hr]
      · rename_i hd
        rw [hd] at hr
        cases h
        simp only [VRel] at hx hy; subst hy; obtain ⟨_, rfl, _⟩ := hx
        simp [Op.equalIn, hr]
      · rename_i tx vx tw vy hd
        rw [hd] at hr
        simp only [VRel] at hx hy; obtain ⟨x', rfl, hx⟩ := hx; obtain ⟨y', rfl, hy⟩ := hy
        split at h
        · rename_i e
          subst e
          split at h
          · rename_i ti hti
            split at h
            · rename_i hcm
              obtain ⟨i, hi, _, _, _, hic⟩ := run_info hE hti w (P := P)
              have := ih tx vx vy r x' y' h hx hy D w (by omega)
              simp [Op.equalIn, hr, hi, hic, hcm, this]
            · cases h
          · cases h
        · rename_i e
          cases h
          simp [Op.equalIn, hr, e]
      · rename_i b _ _ hd
        rw [hd] at hr
        cases h
        simp only [VRel] at hx hy
        have hxv : ∃ l c, xv = .slice none l c := by
          unfold SlRel at hx; split at hx <;> simp_all
        obtain ⟨l, c, rfl⟩ := hxv
        have hyv : ∃ a l c, yv = .slice a l c ∧ a.isNone = b.isNone := by
          unfold SlRel at hy
          split at hy
          · obtain ⟨rfl, _⟩ := hy; exact ⟨_, _, _, rfl, rfl⟩
          · exact hy.elim
          · obtain ⟨L, _, _, rfl, _⟩ := hy; exact ⟨_, _, _, rfl, rfl⟩
          · obtain ⟨L, _, _, _, rfl, _⟩ := hy; exact ⟨_, _, _, rfl, rfl⟩
        obtain ⟨a, l', c', rfl, hab⟩ := hyv
        simp [Op.equalIn, hr, hab]
      · rename_i p _ _ _ _ hd
        rw [hd] at hr
        cases h
        simp only [VRel] at hx hy
        have hxv : ∃ a l c, xv = .slice (some a) l c := by
          unfold SlRel at hx; split at hx
          · simp_all
          · exact hx.elim
          · obtain ⟨L, _, _, rfl, _⟩ := hx; exact ⟨_, _, _, rfl⟩
          · obtain ⟨L, _, _, _, rfl, _⟩ := hx; exact ⟨_, _, _, rfl⟩
        obtain ⟨a, l, c, rfl⟩ := hxv
        have hyv : ∃ l c, yv = .slice none l c := by
          unfold SlRel at hy; split at hy <;> simp_all
        obtain ⟨l', c', rfl⟩ := hyv
        simp [Op.equalIn, hr]
      · rename_i b hd
        rw [hd] at hr
        cases h
        cases b <;> simp only [VRel] at hx hy <;> subst hx <;> (try subst hy) <;> (try obtain ⟨_, _, rfl⟩ := hy) <;> simp [Op.equalIn, hr]
      · rename_i b hd
        rw [hd] at hr
        cases h
        simp only [VRel] at hx hy
        obtain ⟨_, _, rfl⟩ := hx
        subst hy
        simp [Op.equalIn, hr]
      · rename_i hd
        rw [hd] at hr
        cases h
        simp only [VRel] at hx hy; subst hx; subst hy
        simp [Op.equalIn, hr]
      · rename_i hd
        rw [hd] at hr
        cases h
        simp only [VRel] at hx hy; subst hx; obtain ⟨_, _, rfl, _⟩ := hy
        simp [Op.equalIn, hr]
      · rename_i hd
        rw [hd] at hr
        cases h
        simp only [VRel] at hx hy; subst hy; obtain ⟨_, _, rfl, _⟩ := hx
        simp [Op.equalIn, hr]
      · rename_i fs xs ys hd
        split at h
        · cases h
        · rename_i hshy
          obtain ⟨_, _, _, _, _, _, _, _, hs, hq⟩ := hE.ty t ty hty
          have hs' := hs (by simpa using hshy)
          rw [hq fs hd] at h
          simp only [VRel] at hx hy
          obtain ⟨xs', rfl, hx⟩ := hx
          obtain ⟨ys', rfl, hy⟩ := hy
          have hf : P.fieldsOf t = fs := by unfold Program.fieldsOf; rw [hu, hd]
          rw [run_equalIn_struct w D t xs' ys' (by rw [hf, hu, hd]) hs'.2, hf]
          exact eqFs_rel hE (fun t x y r xv yv h1 h2 h3 w => ih t x y r xv yv h1 h2 h3 D w (by omega)) hx hy fs.toList r h w
      · cases h
end
end Go.Av

/- The operations that only reckon, on both sides: the second part. -/
namespace Go.Av
section
variable {P : Program} {E : Env} {φ : Phi} {w : World}

theorem bitsI_rel {op : BinOp} {k : IntKind} {a b : Int} {v : AV} (h : bitsI op k a b = some v) : ∃ x, (Op.intBits op k a b).run P w = .ok x w ∧ VRel φ v x := by
  unfold bitsI at h
  cases op <;> simp only [Option.some.injEq] at h <;> first
    | (subst h; exact ⟨_, rfl, by simp only [VRel, wrapI]⟩)
    | cases h
theorem intB_rel {op : BinOp} {k : IntKind} {a b : Int} {v : AV} (h : intB op k a b = some v) (t : TypeId) (hs : op ≠ .shl ∧ op ≠ .shr) : ∃ x, (binOp op t (.int k a) (.int k b)).run P w = .ok x w ∧ VRel φ v x := by
  unfold intB at h
  cases op with
  | shl => exact absurd rfl hs.1
  | shr => exact absurd rfl hs.2
  | and => simp only [binOp, ne_eq, not_true_eq_false, if_false]; exact bitsI_rel h
  | or => simp only [binOp, ne_eq, not_true_eq_false, if_false]; exact bitsI_rel h
  | xor => simp only [binOp, ne_eq, not_true_eq_false, if_false]; exact bitsI_rel h
  | andNot => simp only [binOp, ne_eq, not_true_eq_false, if_false]; exact bitsI_rel h
  | quo =>
    simp only at h
    split at h
    · cases h
    · rename_i hb
      cases h
      exact ⟨_, by simp only [binOp, ne_eq, not_true_eq_false, if_false, Op.intDiv, hb]; rfl, by simp only [VRel, wrapI]⟩
  | rem =>
    simp only at h
    split at h
    · cases h
    · rename_i hb
      cases h
      exact ⟨_, by simp only [binOp, ne_eq, not_true_eq_false, if_false, Op.intDiv, hb]; rfl, by simp only [VRel]⟩
  | _ =>
    simp only [Option.some.injEq] at h
    subst h
    exact ⟨_, by simp only [binOp, ne_eq, not_true_eq_false, if_false]; rfl, by first | (simp only [VRel, wrapI]; done) | (simp only [VRel]; rfl)⟩
theorem leL_rel (x y : List UInt8) : leL (x.map UInt8.toNat) (y.map UInt8.toNat) = Op.bytesLess x y := by
  induction x generalizing y with
  | nil => cases y <;> simp [leL, Op.bytesLess]
  | cons a x ih =>
    cases y with
    | nil => simp [leL, Op.bytesLess]
    | cons b y =>
      simp only [List.map_cons, leL, Op.bytesLess, ih]
      congr 1
      congr 1
      rw [Bool.eq_iff_iff, beq_iff_eq, beq_iff_eq]
      exact ⟨fun h => UInt8.toNat_inj.1 h, fun h => by rw [h]⟩
theorem strB_rel {op : BinOp} {a b : List Nat} {v : AV} {x y : Value} (hx : VRel φ (.str a) x) (hy : VRel φ (.str b) y) (h : strB op a b = some v) (t : TypeId) : ∃ z, (binOp op t x y).run P w = .ok z w ∧ VRel φ v z := by
  simp only [VRel] at hx hy
  obtain ⟨s, rfl, rfl⟩ := hx
  obtain ⟨u, rfl, rfl⟩ := hy
  have he : (s.data.toList.map UInt8.toNat == u.data.toList.map UInt8.toNat) = (s.toList == u.toList) := bytes_eq
  have hl : leL (s.data.toList.map UInt8.toNat) (u.data.toList.map UInt8.toNat) = Op.bytesLess s.toList u.toList := by
    rw [leL_rel, ByteArray.toList_eq, ByteArray.toList_eq]
  cases op <;> simp only [strB, he, hl] at h <;> first
    | (cases h; done)
    | (simp only [Option.some.injEq] at h; subst h; exact ⟨_, by simp only [binOp, Op.stringOp]; rfl, by simp only [VRel]⟩)
    | skip
  split at h
  · rename_i hs
    cases h
    have hns : ¬ (((s.size + u.size : Nat) : Int) > IntKind.i64.max) := by
      simp only [List.length_map, Array.length_toList] at hs
      have h1 : IntKind.i64.max = 9223372036854775807 := by decide
      rw [h1]
      have : s.size = s.data.size := rfl
      have : u.size = u.data.size := rfl
      omega
    refine ⟨.string (s ++ u), by simp only [binOp, Op.stringOp]; rw [if_neg hns]; rfl, ?_⟩
    simp only [VRel]
    exact ⟨_, rfl, by simp [ByteArray.data_append]⟩
  · cases h
theorem isC_true {x : Operand} (h : isC x = true) : ∃ v, x = .const v := by cases x <;> simp [isC] at h; exact ⟨_, rfl⟩
theorem eqAsk_rel (hE : E.Ok P) {t : TypeId} {x y : Operand} {a b : AV} {av bv : Value} (ha : VRel φ a av) (hb : VRel φ b bv) (h : eqAsk E t x y a b = true) (op : BinOp) : (eqGuard op t x y av bv).run P w = .ok () w := by
  have hplain : (∀ cs, av ≠ .agg cs) ∨ (∀ cs, bv ≠ .agg cs) → ¬ (av = .nilIface ∧ bv = .nilIface) → (eqGuard op t x y av bv).run P w = .ok () w := by
    intro h1 h2
    cases op <;> first
      | rfl
      | (simp only [eqGuard, Bool.not_true, Bool.false_eq_true, if_false]
         split
         · exact absurd ⟨rfl, rfl⟩ h2
         · rcases h1 with h1 | h1 <;> exact absurd rfl (h1 _)
         · rfl)
  have shape : ∀ {c : AV} {v : Value}, VRel φ c v → (∀ cs, v = .agg cs → ∃ as, c = .agg as) ∧ (v = .nilIface → c = .nilIface) := by
    intro c v hv
    cases c with
    | slice a l c =>
      simp only [VRel] at hv
      unfold SlRel at hv
      split at hv
      · obtain ⟨rfl, _⟩ := hv; simp
      · exact hv.elim
      · obtain ⟨L, _, _, rfl, _⟩ := hv; simp
      · obtain ⟨L, _, _, _, rfl, _⟩ := hv; simp
    | ptr a => cases a <;> simp only [VRel] at hv <;> (try obtain ⟨_, _, rfl⟩ := hv) <;> (try subst hv) <;> simp
    | map a => cases a <;> simp only [VRel] at hv <;> (try obtain ⟨_, _, rfl⟩ := hv) <;> (try subst hv) <;> simp
    | str s => simp only [VRel] at hv; obtain ⟨b, rfl, _⟩ := hv; simp
    | func f a c => simp only [VRel] at hv; obtain ⟨a, c, rfl, _⟩ := hv; simp
    | yield l => simp only [VRel] at hv; obtain ⟨L, _, rfl⟩ := hv; simp
    | iface t x => simp only [VRel] at hv; obtain ⟨y, rfl, _⟩ := hv; simp
    | agg cs => simp only [VRel] at hv; obtain ⟨y, rfl, _⟩ := hv; simp
    | tuple cs => simp only [VRel] at hv; obtain ⟨y, rfl, _⟩ := hv; simp
    | undef => simp only [VRel] at hv; subst hv; simp [Go.undef]
    | _ => simp only [VRel] at hv; subst hv; simp
  unfold eqAsk at h
  split at h
  · simp only [VRel] at ha hb
    subst ha; subst hb
    simp only [Bool.or_eq_true] at h
    rcases h with h | h
    · obtain ⟨v, rfl⟩ := isC_true h; cases op <;> simp [eqGuard]
    · obtain ⟨v, rfl⟩ := isC_true h; cases op <;> simp [eqGuard]
  · split at h
    · rename_i ty hty
      simp only [Bool.not_eq_true'] at h
      obtain ⟨_, _, _, _, _, _, _, _, hs, _⟩ := hE.ty t ty hty
      simp only [VRel] at ha hb
      obtain ⟨xs, rfl, _⟩ := ha
      obtain ⟨ys, rfl, _⟩ := hb
      exact run_eqGuard_agg w op t x y xs ys (hs h).1
    · cases h
  · rename_i h1 h2
    refine hplain ?_ ?_
    · by_cases hag : ∃ cs, av = .agg cs
      · obtain ⟨cs, hcs⟩ := hag
        obtain ⟨as, has⟩ := (shape ha).1 cs hcs
        right
        intro ds hds
        obtain ⟨bs, hbs⟩ := (shape hb).1 ds hds
        exact h2 as bs has hbs
      · left; exact fun cs hcs => hag ⟨cs, hcs⟩
    · rintro ⟨e1, e2⟩
      exact h1 ((shape ha).2 e1) ((shape hb).2 e2)
end
end Go.Av

/- The operations that only reckon, on both sides: the third part. -/
namespace Go.Av
section
variable {P : Program} {E : Env} {φ : Phi} {w : World}

theorem VRel.shape {c : AV} {v : Value} (hv : VRel φ c v) : (∀ k n, v = .int k n → c = .int k n) ∧ (∀ s, v = .string s → ∃ l, c = .str l) ∧ (∀ k b, v ≠ .float k b) ∧ (∀ k a b, v ≠ .complex k a b) ∧ (∀ r, v ≠ .chan r) := by
  cases c with
  | slice a l c =>
    simp only [VRel] at hv
    unfold SlRel at hv
    split at hv
    · obtain ⟨rfl, _⟩ := hv; simp
    · exact hv.elim
    · obtain ⟨L, _, _, rfl, _⟩ := hv; simp
    · obtain ⟨L, _, _, _, rfl, _⟩ := hv; simp
  | ptr a => cases a <;> simp only [VRel] at hv <;> (try obtain ⟨_, _, rfl⟩ := hv) <;> (try subst hv) <;> simp
  | map a => cases a <;> simp only [VRel] at hv <;> (try obtain ⟨_, _, rfl⟩ := hv) <;> (try subst hv) <;> simp
  | str s => simp only [VRel] at hv; obtain ⟨b, rfl, _⟩ := hv; simp
  | func f a c => simp only [VRel] at hv; obtain ⟨a, c, rfl, _⟩ := hv; simp
  | yield l => simp only [VRel] at hv; obtain ⟨L, _, rfl⟩ := hv; simp
  | iface t x => simp only [VRel] at hv; obtain ⟨y, rfl, _⟩ := hv; simp
  | agg cs => simp only [VRel] at hv; obtain ⟨y, rfl, _⟩ := hv; simp
  | tuple cs => simp only [VRel] at hv; obtain ⟨y, rfl, _⟩ := hv; simp
  | undef => simp only [VRel] at hv; subst hv; simp [Go.undef]
  | int k n => simp only [VRel] at hv; subst hv; simp
  | _ => simp only [VRel] at hv; subst hv; simp
theorem run_eqop {a b : AV} {av bv : Value} (ha : VRel φ a av) (hb : VRel φ b bv) (h1 : ∀ k n k' m, a = .int k n → b = .int k' m → False) (h2 : ∀ s u, a = .str s → b = .str u → False) (t : TypeId) :
    binOp .eql t av bv = (do pure (.bool (← Op.equal t av bv))) ∧ binOp .neq t av bv = (do pure (.bool (!(← Op.equal t av bv)))) := by
  obtain ⟨a1, a2, a3, a4, _⟩ := ha.shape
  obtain ⟨b1, b2, b3, b4, _⟩ := hb.shape
  refine ⟨?_, ?_⟩ <;>
  · unfold binOp
    split <;> first
      | rfl
      | (exfalso; first
          | exact h1 _ _ _ _ (a1 _ _ rfl) (b1 _ _ rfl)
          | exact a3 _ _ rfl
          | exact a4 _ _ _ rfl
          | (obtain ⟨_, e1⟩ := a2 _ rfl; obtain ⟨_, e2⟩ := b2 _ rfl; exact h2 _ _ e1 e2))
      | simp_all
theorem binV_rel (hE : E.Ok P) {op : BinOp} {t : TypeId} {x y : Operand} {a b v : AV} {av bv : Value} (ha : VRel φ a av) (hb : VRel φ b bv) (h : binV E op t x y a b = some v) :
    ∃ z, (do eqGuard op t x y av bv; binOp op t av bv : Sem Value).run P w = .ok z w ∧ VRel φ v z := by
  have guard : ∀ {av bv : Value}, (∀ cs, av ≠ .agg cs) → av ≠ .nilIface → (eqGuard op t x y av bv).run P w = .ok () w := by
    intro av bv h1 h2
    cases op <;> first
      | rfl
      | (simp only [eqGuard, Bool.not_true, Bool.false_eq_true, if_false]
         split
         · exact absurd rfl h2
         · exact absurd rfl (h1 _)
         · rfl)
  unfold binV at h
  split at h
  · split at h
    · cases h
    · rename_i hb0
      cases h
      simp only [VRel] at ha hb; subst ha; subst hb
      refine ⟨_, by simp only [Sem.run_bind, guard (av := .int _ _) (by simp) (by simp), Result.andThen_ok, binOp, Op.shift, if_neg hb0]; rfl, by simp only [VRel, wrapI]⟩
  · split at h
    · cases h
    · rename_i hb0
      cases h
      simp only [VRel] at ha hb; subst ha; subst hb
      refine ⟨_, by simp only [Sem.run_bind, guard (av := .int _ _) (by simp) (by simp), Result.andThen_ok, binOp, Op.shift, if_neg hb0]; rfl, by simp only [VRel]⟩
  · rename_i op k a k' b h1 h2
    split at h
    · rename_i hk
      subst hk
      simp only [VRel] at ha hb; subst ha; subst hb
      obtain ⟨z, hz, hr⟩ := intB_rel (P := P) (w := w) (φ := φ) h t ⟨fun e => h1 e, fun e => h2 e⟩
      exact ⟨z, by simp only [Sem.run_bind, guard (av := .int k a) (bv := .int k b) (by simp) (by simp), Result.andThen_ok]; exact hz, hr⟩
    · cases h
  · rename_i op a b h1
    obtain ⟨z, hz, hr⟩ := strB_rel (P := P) (w := w) ha hb h t
    have ha' := ha
    simp only [VRel] at ha'
    obtain ⟨s, rfl, _⟩ := ha'
    exact ⟨z, by simp only [Sem.run_bind, guard (av := .string s) (bv := bv) (by simp) (by simp), Result.andThen_ok]; exact hz, hr⟩
  · rename_i h1 h2
    split at h
    · rename_i hq
      simp only [Option.map_eq_some_iff] at h
      obtain ⟨r, hr, rfl⟩ := h
      have he := eqV_rel hE 9 t a b r av bv hr ha hb 10000 w (by decide)
      refine ⟨.bool r, ?_, by simp only [VRel]⟩
      have hop := (run_eqop ha hb (fun k n k' m e1 e2 => h1 _ _ _ _ e1 e2) (fun s u e1 e2 => h2 _ _ e1 e2) t).1
      simp only [Sem.run_bind, eqAsk_rel hE ha hb hq, Result.andThen_ok, hop, Op.equal, Op.maxDepth, he, Sem.run_pure]
    · cases h
  · rename_i h1 h2
    split at h
    · rename_i hq
      simp only [Option.map_eq_some_iff] at h
      obtain ⟨r, hr, rfl⟩ := h
      have he := eqV_rel hE 9 t a b r av bv hr ha hb 10000 w (by decide)
      refine ⟨.bool !r, ?_, by simp only [VRel]⟩
      have hop := (run_eqop ha hb (fun k n k' m e1 e2 => h1 _ _ _ _ e1 e2) (fun s u e1 e2 => h2 _ _ e1 e2) t).2
      simp only [Sem.run_bind, eqAsk_rel hE ha hb hq, Result.andThen_ok, hop, Op.equal, Op.maxDepth, he, Sem.run_pure]
    · cases h
  · cases h
end
end Go.Av

/- The operations that only reckon, on both sides: build, slices, parts. -/
namespace Go.Av
section
variable {P : Program} {E : Env} {φ : Phi} {w : World}

theorem VRel.cells' {x : AV} {v : Value} (h : VRel φ x v) : VRels φ x.cells v.cells.toList := by
  cases x with
  | agg cs => simp only [VRel] at h; obtain ⟨cs', rfl, h⟩ := h; exact h
  | _ =>
    have h' := h
    have hc : v.cells = #[v] := by
      have hs := h.shape
      cases v <;> first
        | rfl
        | (exfalso
           rename_i cs
           first
             | (simp only [VRel] at h; cases h; done)
             | (simp only [VRel] at h; obtain ⟨_, h, _⟩ := h; cases h; done)
             | (simp only [VRel] at h; obtain ⟨_, _, h⟩ := h; cases h; done)
             | (simp only [VRel] at h; obtain ⟨_, _, h, _⟩ := h; cases h; done)
             | (rename_i a; cases a <;> simp only [VRel] at h <;> first | (cases h; done) | (obtain ⟨_, _, h⟩ := h; cases h; done))
             | (simp only [VRel] at h; unfold SlRel at h; split at h <;> simp_all))
    rw [hc]
    exact .cons h' .nil
theorem unV_rel {op : UnOp} {x v : AV} {xv : Value} (hx : VRel φ x xv) (h : unV op x = some v) : ∃ z, (Op.unary op xv).run P w = .ok z w ∧ VRel φ v z := by
  unfold unV at h
  split at h
  · cases h; simp only [VRel] at hx; subst hx; exact ⟨_, rfl, by simp only [VRel, wrapI]⟩
  · simp only [VRel] at hx; subst hx; exact bitsI_rel h
  · cases h; simp only [VRel] at hx; subst hx; exact ⟨_, rfl, by simp only [VRel]⟩
  · cases h
theorem convV_rel {src dst : TypeId} {s d : ATy} (hE : E.Ok P) (hs : E.t src = some s) (hd : E.t dst = some d) {x v : AV} {xv : Value} (hx : VRel φ x xv) (h : convV s.d d.d x = some v) :
    ∃ z, (convert src dst xv).run P w = .ok z w ∧ VRel φ v z := by
  have h1 := run_under hE hs (P := P)
  have h2 := run_under hE hd (P := P)
  unfold convV at h
  split at h
  · rename_i k q n e
    rw [e] at h2
    cases h
    simp only [VRel] at hx; subst hx
    refine ⟨.int k (k.wrap n), ?_, by simp only [VRel, wrapI]⟩
    simp only [convert, Sem.run_bind, h1, h2, Result.andThen_ok]
    rfl
  · rename_i s' e
    rw [e] at h2
    cases h
    have hx' := hx
    simp only [VRel] at hx; obtain ⟨b, rfl, _⟩ := hx
    refine ⟨.string b, ?_, hx'⟩
    simp only [convert, Sem.run_bind, h1, h2, Result.andThen_ok]
    rfl
  · cases h
theorem indexV_rel (hE : E.Ok P) {t : TypeId} {x i v : AV} {xv iv : Value} (hx : VRel φ x xv) (hi : VRel φ i iv) (h : indexV E t x i = some v) : ∃ z, (Instr.index t xv iv).run P w = .ok z w ∧ VRel φ v z := by
  unfold indexV at h
  split at h
  · rename_i k n
    simp only [VRel] at hi
    subst hi
    simp only [Option.bind_eq_bind, Option.bind_eq_some_iff] at h
    obtain ⟨ty, hty, h⟩ := h
    have hu := run_under hE hty (P := P)
    split at h
    · rename_i len e cs hd
      rw [hd] at hu
      simp only [VRel] at hx
      obtain ⟨xs, rfl, hx⟩ := hx
      simp only [Option.bind_eq_some_iff] at h
      obtain ⟨te, hte, h⟩ := h
      split at h
      · rename_i hn
        obtain ⟨z, hz, hr⟩ := part_rel hE hte hx h
        refine ⟨z, ?_, hr⟩
        have : (0 : Int) ≤ Int.ofNat n ∧ Int.ofNat n < (len : Int) := ⟨Int.natCast_nonneg n, by simpa using hn⟩
        simp only [Instr.index, asIntOf, Sem.run_bind, Sem.run_pure, Result.andThen_ok, hu, Sem.run_ite, if_pos this, run_size hE hte]
        exact hz w
      · cases h
    · rename_i s hd
      rw [hd] at hu
      simp only [VRel] at hx
      obtain ⟨b, rfl, rfl⟩ := hx
      simp only [Option.map_eq_some_iff, List.getElem?_map] at h
      obtain ⟨c, ⟨d, hd', rfl⟩, rfl⟩ := h
      refine ⟨.int .u8 d.toNat, ?_, byte_rel d⟩
      have hb : b[n]? = some d := by
        have : b.data[n]? = some d := by simpa using hd'
        rw [← this]; rfl
      simp only [Instr.index, asIntOf, Sem.run_bind, Sem.run_pure, Result.andThen_ok, hu]
      simp [hb]
    · cases h
  · cases h
theorem ptr_add {L : Loc} {o n : Nat} : Value.pointer (some ((⟨L.b, L.s + o, none⟩ : Addr).add n)) = .pointer (some ⟨L.b, L.s + (o + n), none⟩) := by rw [Addr.add_lit, Nat.add_assoc]
theorem indexA_rel (hE : E.Ok P) {t : TypeId} {x i v : AV} {xv iv : Value} (hx : VRel φ x xv) (hi : VRel φ i iv) (h : indexA E t x i = some v) : ∃ z, (Instr.indexAt t xv iv).run P w = .ok z w ∧ VRel φ v z := by
  unfold indexA at h
  split at h
  · rename_i k n
    simp only [VRel] at hi
    subst hi
    simp only [Option.bind_eq_bind, Option.bind_eq_some_iff] at h
    obtain ⟨ty, hty, h⟩ := h
    have hu := run_under hE hty (P := P)
    split at h
    · rename_i len e b o hd
      rw [hd] at hu
      simp only [VRel] at hx
      obtain ⟨L, hp, rfl⟩ := hx
      simp only [Option.bind_eq_some_iff] at h
      obtain ⟨te, hte, h⟩ := h
      split at h
      · rename_i hn
        cases h
        refine ⟨_, ?_, by simp only [VRel]; exact ⟨L, hp, rfl⟩⟩
        have : (0 : Int) ≤ Int.ofNat n ∧ Int.ofNat n < (len : Int) := ⟨Int.natCast_nonneg n, by simpa using hn⟩
        simp only [Instr.indexAt, Instr.sureAddr, asIntOf, Sem.run_bind, Sem.run_pure, Result.andThen_ok, hu, Sem.run_ite, if_pos this, run_size hE hte]
        rw [← ptr_add]
        rfl
      · cases h
    · rename_i e b o len cap hd
      rw [hd] at hu
      simp only [VRel] at hx
      simp only [Option.bind_eq_some_iff] at h
      obtain ⟨te, hte, h⟩ := h
      split at h
      · rename_i hn
        cases h
        have this : (0 : Int) ≤ Int.ofNat n ∧ Int.ofNat n < (len : Int) := ⟨Int.natCast_nonneg n, by simpa using hn⟩
        have key : ∀ (L : Loc) (c' : Nat), φ b = some L → ∃ z, (Instr.indexAt t (.slice (some ⟨L.b, L.s + o, none⟩) len c') (.int k (Int.ofNat n))).run P w = .ok z w ∧ VRel φ (.ptr (some (b, o + n * te.size))) z := by
          intro L c' hp
          refine ⟨_, ?_, by simp only [VRel]; exact ⟨L, hp, rfl⟩⟩
          simp only [Instr.indexAt, asIntOf, Sem.run_bind, Sem.run_pure, Result.andThen_ok, hu, Sem.run_ite, if_pos this, run_size hE hte]
          rw [← ptr_add]
          rfl
        cases cap with
        | known c => simp only [SlRel] at hx; obtain ⟨L, o', hp, rfl, hlc, ho⟩ := hx; obtain rfl := ho.resolve_left (by omega); exact key L c hp
        | room e => simp only [SlRel] at hx; obtain ⟨L, o', c', hp, rfl, hlc, _, ho⟩ := hx; obtain rfl := ho.resolve_left (by omega); exact key L c' hp
      · cases h
    · cases h
  · cases h
theorem fieldOf_rel (hE : E.Ok P) {s : TypeId} {f : Nat} {tf : ATy} {off : Nat} (h : fieldOf E s f = some (tf, off)) :
    ∃ (fs : Array Field) (fd : Field), (∀ w, (underlying s).run P w = .ok (.struct fs) w) ∧ fs[f]? = some fd ∧ E.t fd.type = some tf ∧ fd.offset = off := by
  simp only [fieldOf, Option.bind_eq_bind, Option.bind_eq_some_iff] at h
  obtain ⟨ty, hty, h⟩ := h
  have hu := run_under hE hty (P := P)
  split at h
  · rename_i fs hd
    rw [hd] at hu
    simp only [Option.bind_eq_some_iff, Option.some.injEq, Prod.mk.injEq] at h
    obtain ⟨fd, hf, tf', htf, rfl, rfl⟩ := h
    exact ⟨fs, fd, hu, hf, htf, rfl⟩
  · cases h
theorem fieldA_rel (hE : E.Ok P) {s : TypeId} {x v : AV} {f : Nat} {xv : Value} (hx : VRel φ x xv) (h : fieldA E s x f = some v) : ∃ z, (Instr.fieldAt s xv f).run P w = .ok z w ∧ VRel φ v z := by
  unfold fieldA at h
  split at h
  · rename_i b o
    simp only [VRel] at hx
    obtain ⟨L, hp, rfl⟩ := hx
    simp only [Option.bind_eq_bind, Option.bind_eq_some_iff] at h
    obtain ⟨⟨tf, off⟩, hf, h⟩ := h
    simp only at h
    split at h
    · cases h
    · rename_i hz
      cases h
      obtain ⟨fs, fd, hu, hfd, htf, rfl⟩ := fieldOf_rel hE hf
      refine ⟨_, ?_, by simp only [VRel]; exact ⟨L, hp, rfl⟩⟩
      simp only [Instr.fieldAt, Instr.sureAddr, Sem.run_bind, hu, Result.andThen_ok, hfd, Sem.run_pure, fieldPlace, run_size hE htf, Sem.run_ite, if_neg hz]
      rw [← ptr_add]
  · cases h
theorem fieldV_rel (hE : E.Ok P) {s : TypeId} {x v : AV} {f : Nat} {xv : Value} (hx : VRel φ x xv) (h : fieldV E s x f = some v) : ∃ z, (Instr.field s xv f).run P w = .ok z w ∧ VRel φ v z := by
  unfold fieldV at h
  split at h
  · rename_i cs
    simp only [VRel] at hx
    obtain ⟨xs, rfl, hx⟩ := hx
    simp only [Option.bind_eq_bind, Option.bind_eq_some_iff] at h
    obtain ⟨⟨tf, off⟩, hf, h⟩ := h
    simp only at h
    obtain ⟨fs, fd, hu, hfd, htf, rfl⟩ := fieldOf_rel hE hf
    obtain ⟨z, hz, hr⟩ := part_rel hE htf hx h
    refine ⟨z, ?_, hr⟩
    simp only [Instr.field, Sem.run_bind, hu, Result.andThen_ok, hfd, asAgg, Sem.run_pure, hz]
  · cases h
end
end Go.Av

/- The operations that only reckon, on both sides: parts laid into cells, slices of slices. -/
namespace Go.Av
section
variable {P : Program} {E : Env} {φ : Phi} {w : World}

theorem zip_putA (off : Nat) : ∀ (l : List Value) (k : Nat) (cs : Array Value), (l.zipIdx k).foldl (fun cs p => cs.setIfInBounds (off + p.2) p.1) cs = putA cs (off + k) l
  | [], _, _ => rfl
  | v :: l, k, cs => by
    simp only [List.zipIdx_cons, List.foldl_cons, putA]
    exact zip_putA off l (k + 1) _
theorem lay_rel {cs vs rs : List AV} {o : Nat} {xs ys : Array Value} (hc : VRels φ cs xs.toList) (hv : VRels φ vs ys.toList) (h : lay cs o vs = some rs) :
    ¬ (o + ys.size > xs.size) ∧ VRels φ rs (ys.zipIdx.foldl (fun cs p => cs.setIfInBounds (o + p.2) p.1) xs).toList := by
  unfold lay at h
  split at h
  · rename_i hf
    cases h
    have h1 := hc.length
    have h2 := hv.length
    simp only [Array.length_toList] at h1 h2
    refine ⟨by omega, ?_⟩
    have e : (ys.zipIdx.foldl (fun cs p => cs.setIfInBounds (o + p.2) p.1) xs) = putA xs o ys.toList := by
      rw [← Array.foldl_toList, Array.toList_zipIdx, zip_putA]
      rfl
    rw [e]
    have hsz : (putA xs o ys.toList).size = xs.size := size_putA _ _ _
    refine .of_get (by simp [hsz]; omega) fun i a v ha hb => ?_
    have hb' : (putA xs o ys.toList)[i]? = some v := by simpa using hb
    rw [get_putA _ _ _ _ (by simp; omega)] at hb'
    simp only [Array.length_toList] at hb'
    by_cases h3 : i < o
    · rw [if_neg (by omega)] at hb'
      rw [List.append_assoc, List.getElem?_append_left (by simp; omega), List.getElem?_take, if_pos h3] at ha
      obtain ⟨v', hv', hr⟩ := hc.get ha
      have : xs[i]? = some v' := by simpa using hv'
      rw [this] at hb'
      cases hb'
      exact hr
    · by_cases h4 : i < o + ys.size
      · rw [if_pos (by omega)] at hb'
        rw [List.append_assoc, List.getElem?_append_right (by simp; omega), List.getElem?_append_left (by simp; omega)] at ha
        simp only [List.length_take] at ha
        rw [show i - min o cs.length = i - o from by omega] at ha
        obtain ⟨v', hv', hr⟩ := hv.get ha
        rw [hv'] at hb'
        cases hb'
        exact hr
      · rw [if_neg (by omega)] at hb'
        rw [List.getElem?_append_right (by simp; omega)] at ha
        simp only [List.length_append, List.length_take, List.getElem?_drop] at ha
        rw [show o + vs.length + (i - (min o cs.length + vs.length)) = i from by omega] at ha
        obtain ⟨v', hv', hr⟩ := hc.get ha
        have : xs[i]? = some v' := by simpa using hv'
        rw [this] at hb'
        cases hb'
        exact hr
  · cases h
/-- Parts with their numbers, on both sides. -/
def PRel (φ : Phi) : List (Nat × AV) → List (Nat × Value) → Prop
  | [], l => l = []
  | p :: ps, l => ∃ y ys, l = y :: ys ∧ p.1 = y.1 ∧ VRel φ p.2 y.2 ∧ PRel φ ps ys
theorem fillP_rel {pa : Nat → Option (Nat × Nat)} : ∀ {ps : List (Nat × AV)} {qs : List (Nat × Value)} {cs rs : List AV} {xs : Array Value}, PRel φ ps qs → VRels φ cs xs.toList → fillP pa ps cs = some rs →
    ∃ ys, Instr.fill pa xs qs = some ys ∧ VRels φ rs ys.toList
  | [], qs, cs, rs, xs, hp, hc, h => by
    simp only [PRel] at hp
    subst hp
    simp only [fillP, Option.some.injEq] at h
    subst h
    exact ⟨xs, rfl, hc⟩
  | (i, v) :: ps, qs, cs, rs, xs, hp, hc, h => by
    obtain ⟨⟨j, x⟩, qs, rfl, hi, hv, hp⟩ := hp
    simp only at hi hv
    subst hi
    simp only [fillP, Option.bind_eq_bind, Option.bind_eq_some_iff] at h
    obtain ⟨⟨o, size⟩, hpl, h⟩ := h
    simp only at h
    split at h
    · rename_i hs
      simp only [Option.bind_eq_some_iff] at h
      obtain ⟨cs', hl, h⟩ := h
      have hv' := hv.cells'
      obtain ⟨h1, h2⟩ := lay_rel hc hv' hl
      obtain ⟨ys, h3, h4⟩ := fillP_rel hp h2 h
      refine ⟨ys, ?_, h4⟩
      have hsz : x.cells.size = size := by rw [← hs, hv'.length]; simp
      simp only [Instr.fill, hpl]
      rw [if_neg (by simp [hsz]; omega)]
      exact h3
    · cases h
theorem fieldsOf_rel (hE : E.Ok P) : ∀ {fs : List Field} {pl : List (Nat × Nat)}, fieldsOf E fs = some pl → fs.mapM (fun f => (P.info? f.type).map fun i => (f.offset, i.size)) = some pl
  | [], pl, h => by simp only [fieldsOf, Option.some.injEq] at h; subst h; rfl
  | f :: fs, pl, h => by
    simp only [fieldsOf, Option.bind_eq_bind, Option.bind_eq_some_iff, Option.some.injEq] at h
    obtain ⟨tf, htf, r, hr, rfl⟩ := h
    obtain ⟨_, i, hi, hs, _⟩ := hE.ty _ _ htf
    simp [List.mapM_cons, hi, hs, fieldsOf_rel hE hr]
theorem buildV_rel (hE : E.Ok P) {t : TypeId} {ps : List (Nat × AV)} {qs : Array (Nat × Value)} {v : AV} (hp : PRel φ ps qs.toList) (h : buildV E t ps = some v) : ∃ z, (Instr.build t qs).run P w = .ok z w ∧ VRel φ v z := by
  simp only [buildV, Option.bind_eq_bind, Option.bind_eq_some_iff] at h
  obtain ⟨ty, hty, z, hz, h⟩ := h
  obtain ⟨hu, i, hi, _, _, _, hzi, _⟩ := hE.ty t ty hty
  obtain ⟨zv, hzv, hzo⟩ := hzi z hz
  have hzr : VRel φ z zv := ofV_rel 9 zv z hzo
  split at h
  · rename_i fields hd
    simp only [Option.bind_eq_some_iff, Option.map_eq_some_iff] at h
    obtain ⟨pl, hpl, rs, hf, rfl⟩ := h
    obtain ⟨ys, h1, h2⟩ := fillP_rel hp hzr.cells' hf
    refine ⟨.agg ys, run_build w t qs ys ?_, by simp only [VRel]; exact ⟨ys, rfl, h2⟩⟩
    unfold Program.built
    rw [hi, hu, hd]
    simp only [hzv, fieldsOf_rel hE hpl]
    have hfun : (fun i : Nat => pl[i]?) = (fun x : Nat => pl.toArray[x]?) := by funext x; simp
    rw [hfun] at h1
    exact h1
  · rename_i n e hd
    simp only [Option.bind_eq_some_iff, Option.map_eq_some_iff] at h
    obtain ⟨te, hte, rs, hf, rfl⟩ := h
    obtain ⟨_, ie, hie, hse, _⟩ := hE.ty e te hte
    obtain ⟨ys, h1, h2⟩ := fillP_rel hp hzr.cells' hf
    refine ⟨.agg ys, run_build w t qs ys ?_, by simp only [VRel]; exact ⟨ys, rfl, h2⟩⟩
    unfold Program.built
    rw [hi, hu, hd]
    simp only [hzv, hie, hse]
    exact h1
  · cases h

/-! ### Slices of slices -/
def ORel (φ : Phi) : Option AV → Option Value → Prop
  | none, none => True
  | some v, some x => VRel φ v x
  | _, _ => False
theorem bound_rel {v : AV} {x : Value} (hv : VRel φ v x) {y i : Nat} (h : bound v y = some i) : i ≤ y ∧ ∀ (m : Nat) (c : BoundsCode), y ≤ m → (Instr.sliceBound x m c).run P w = .ok i w := by
  unfold bound at h
  split at h
  · split at h
    · rename_i hy
      cases h
      simp only [VRel] at hv
      subst hv
      refine ⟨hy, fun m c hm => ?_⟩
      exact run_sliceBound (P := P) (w := w) _ _ m c (Int.natCast_nonneg _) (by simpa using Nat.le_trans hy hm)
    · cases h
  · cases h
theorem bound_le {v : AV} {y i : Nat} (h : bound v y = some i) : i ≤ y := by
  unfold bound at h
  split at h
  · split at h
    · cases h; assumption
    · cases h
  · cases h
theorem bounds3_rel {len m l h : Nat} {lo hi : Option AV} {lo' hi' : Option Value} (hlo : ORel φ lo lo') (hhi : ORel φ hi hi') (hb : bounds3 len m lo hi = some (l, h)) :
    l ≤ h ∧ (h ≤ m ∨ h = len) ∧ (∀ (b : Bool) (c : Nat), m ≤ c → (Instr.sliceBounds b len c lo' hi' none).run P w = .ok (l, h, c) w) ∧
    (∀ (b : Bool) (c : Nat) (mx : Value), hi.isSome = true → (∀ code, (Instr.sliceBound mx c code).run P w = .ok m w) → (Instr.sliceBounds b len c lo' hi' (some mx)).run P w = .ok (l, h, m) w) := by
  simp only [bounds3, Option.bind_eq_bind, Option.bind_eq_some_iff, Option.some.injEq, Prod.mk.injEq] at hb
  obtain ⟨h', hh, l', hl, rfl, rfl⟩ := hb
  have hl' : l' ≤ h' ∧ ∀ (code : BoundsCode), (match lo' with | some v => Instr.sliceBound v h' code | none => pure 0 : Sem Nat).run P w = .ok l' w := by
    cases lo <;> cases lo' <;> simp only [ORel] at hlo
    · simp only [Option.some.injEq] at hl; subst hl; exact ⟨Nat.zero_le _, fun _ => rfl⟩
    · obtain ⟨h1, h2⟩ := bound_rel (P := P) (w := w) hlo hl; exact ⟨h1, fun code => h2 h' code (Nat.le_refl _)⟩
  cases hi with
  | none =>
    cases hi' with
    | some _ => simp only [ORel] at hhi
    | none =>
      simp only [Option.some.injEq] at hh
      subst hh
      refine ⟨hl'.1, .inr rfl, fun b c hc => ?_, fun b c mx hs => by simp at hs⟩
      have := hl'.2 .sliceB
      cases lo' <;> simp_all [Instr.sliceBounds]
  | some v =>
    cases hi' with
    | none => simp only [ORel] at hhi
    | some x =>
      simp only [ORel] at hhi
      obtain ⟨h1, h2⟩ := bound_rel (P := P) (w := w) hhi hh
      refine ⟨hl'.1, .inl h1, fun b c hc => ?_, fun b c mx _ hmx => ?_⟩
      · have e1 := hl'.2 .sliceB
        have e2 := fun code => h2 c code hc
        cases lo' <;> simp_all [Instr.sliceBounds]
      · have e1 := hl'.2 .slice3C
        have e2 := fun code => h2 m code (Nat.le_refl _)
        cases lo' <;> simp_all [Instr.sliceBounds]
theorem str_slice (b : ByteArray) (l h : Nat) : ((b.extract l h).data.toList).map UInt8.toNat = ((b.data.toList.map UInt8.toNat).drop l).take (h - l) := by
  rw [ByteArray.data_extract]
  simp [List.take_drop, List.map_take, List.map_drop]
theorem run_sl {t e : TypeId} (hu : ∀ w, (underlying t).run P w = .ok (.slice e) w) {size : Nat} (hs : ∀ w, (sizeOf e).run P w = .ok size w) {len c l r m : Nat} {lo hi mx : Option Value} (hb : (Instr.sliceBounds true len c lo hi mx).run P w = .ok (l, r, m) w) (a : Option Addr) :
    (Instr.sliceAt t (.slice a len c) lo hi mx).run P w = .ok (.slice (if m = l then a else a.map (·.add (l * size))) (r - l) (m - l)) w := by
  simp [Instr.sliceAt, Instr.slice, hu, hb, hs]
theorem run_sl_eq {t e : TypeId} (hu : ∀ w, (underlying t).run P w = .ok (.slice e) w) {size : Nat} (hs : ∀ w, (sizeOf e).run P w = .ok size w) {len c l r m : Nat} {lo hi mx : Option Value} (hb : (Instr.sliceBounds true len c lo hi mx).run P w = .ok (l, r, m) w) (a : Option Addr) (hml : m = l) :
    (Instr.sliceAt t (.slice a len c) lo hi mx).run P w = .ok (.slice a (r - l) (m - l)) w := by rw [run_sl hu hs hb, if_pos hml]
theorem run_sl_ne {t e : TypeId} (hu : ∀ w, (underlying t).run P w = .ok (.slice e) w) {size : Nat} (hs : ∀ w, (sizeOf e).run P w = .ok size w) {len c l r m : Nat} {lo hi mx : Option Value} (hb : (Instr.sliceBounds true len c lo hi mx).run P w = .ok (l, r, m) w) (b o : Nat) (hml : m ≠ l) :
    (Instr.sliceAt t (.slice (some ⟨b, o, none⟩) len c) lo hi mx).run P w = .ok (.slice (some ⟨b, o + l * size, none⟩) (r - l) (m - l)) w := by rw [run_sl hu hs hb, if_neg hml]; simp only [Option.map_some, Addr.add_lit]
theorem sliceV_rel (hE : E.Ok P) {t : TypeId} {x v : AV} {xv : Value} {lo hi mx : Option AV} {lo' hi' mx' : Option Value} (hx : VRel φ x xv) (hlo : ORel φ lo lo') (hhi : ORel φ hi hi') (hmx : ORel φ mx mx')
    (h : sliceV E t x lo hi mx = some v) : ∃ z, (Instr.sliceAt t xv lo' hi' mx').run P w = .ok z w ∧ VRel φ v z := by
  simp only [sliceV, Option.bind_eq_bind, Option.bind_eq_some_iff] at h
  obtain ⟨ty, hty, h⟩ := h
  have hu := run_under hE hty (P := P)
  split at h
  · -- a text
    rename_i s hd
    rw [hd] at hu
    cases mx with
    | some _ => simp at h
    | none =>
      cases mx' with
      | some _ => simp only [ORel] at hmx
      | none =>
        simp only [Option.bind_eq_some_iff, Option.some.injEq] at h
        obtain ⟨⟨l, r⟩, hb, rfl⟩ := h
        simp only [VRel] at hx
        obtain ⟨b, rfl, rfl⟩ := hx
        obtain ⟨_, _, h1, _⟩ := bounds3_rel (P := P) (w := w) hlo hhi hb
        simp only [List.length_map, Array.length_toList] at h1
        have h2 := h1 false b.size (Nat.le_refl _)
        have e : b.data.size = b.size := rfl
        rw [e] at h2
        refine ⟨.string (b.extract l r), ?_, by simp only [VRel]; exact ⟨_, rfl, str_slice b l r⟩⟩
        simp [Instr.sliceAt, Instr.slice, hu, h2]
  · -- a slice
    rename_i e a len cap hd
    rw [hd] at hu
    simp only [Option.bind_eq_some_iff] at h
    obtain ⟨te, hte, h⟩ := h
    have hsz := fun w => run_size hE hte (P := P) w
    simp only [VRel] at hx
    cases mx with
    | none =>
      cases mx' with
      | some _ => simp only [ORel] at hmx
      | none =>
        cases cap with
        | known c =>
          simp only [Option.bind_eq_some_iff, Option.some.injEq] at h
          obtain ⟨⟨l, r⟩, hb, rfl⟩ := h
          obtain ⟨hlr, hr, h1, _⟩ := bounds3_rel (P := P) (w := w) hlo hhi hb
          have h2 := h1 true c (Nat.le_refl _)
          cases a with
          | none =>
            simp only [SlRel] at hx
            obtain ⟨rfl, rfl, rfl⟩ := hx
            refine ⟨.slice none (r - l) (0 - l), by rw [run_sl hu hsz h2]; congr 2; split <;> rfl, ?_⟩
            have : (if 0 = l then (none : Option (Nat × Nat)) else moved none (l * te.size)) = none := by split <;> rfl
            simp only [VRel, this, SlRel]
            exact ⟨trivial, by omega, by omega⟩
          | some p =>
            simp only [SlRel] at hx
            obtain ⟨L, o', hp, rfl, hlc, ho⟩ := hx
            by_cases hcl : c = l
            · refine ⟨.slice (some ⟨L.b, o', none⟩) (r - l) (c - l), run_sl_eq hu hsz h2 _ hcl, ?_⟩
              simp only [VRel, if_pos hcl, SlRel]
              exact ⟨L, o', hp, rfl, by omega, .inl (by omega)⟩
            · refine ⟨.slice (some ⟨L.b, o' + l * te.size, none⟩) (r - l) (c - l), run_sl_ne hu hsz h2 _ _ hcl, ?_⟩
              simp only [VRel, if_neg hcl, moved, Option.map_some, SlRel]
              exact ⟨L, o' + l * te.size, hp, rfl, by omega, ho.imp (fun h0 => by omega) (fun h0 => by omega)⟩
        | room z =>
          simp only at h
          split at h
          · rename_i hz
            simp only [Option.bind_eq_some_iff, Option.some.injEq] at h
            obtain ⟨⟨l, r⟩, hb, rfl⟩ := h
            obtain ⟨hlr, hr, h1, _⟩ := bounds3_rel (P := P) (w := w) hlo hhi hb
            cases a with
            | none => simp only [SlRel] at hx
            | some p =>
              simp only [SlRel] at hx
              obtain ⟨L, o', c', hp, rfl, hlc, hcn, ho⟩ := hx
              have h2 := h1 true c' hlc
              subst hz
              by_cases hcl : c' = l
              · refine ⟨.slice (some ⟨L.b, o', none⟩) (r - l) (c' - l), run_sl_eq hu hsz h2 _ hcl, ?_⟩
                simp only [VRel, moved, Option.map_some, SlRel]
                refine ⟨L, o', c' - l, hp, rfl, by omega, ?_, .inl (by omega)⟩
                rw [show c' - l = 0 from by omega]
                omega
              · refine ⟨.slice (some ⟨L.b, o' + l * te.size, none⟩) (r - l) (c' - l), run_sl_ne hu hsz h2 _ _ hcl, ?_⟩
                simp only [VRel, moved, Option.map_some, SlRel]
                refine ⟨L, o' + l * te.size, c' - l, hp, rfl, by omega, ?_, ?_⟩
                · have : l * te.size + (c' - l) * te.size = c' * te.size := by rw [← Nat.add_mul, show l + (c' - l) = c' from by omega]
                  omega
                · rcases ho with h0 | h0
                  · left; omega
                  · right; omega
          · cases h
    | some m =>
      cases mx' with
      | none => simp only [ORel] at hmx
      | some mv =>
        simp only [ORel] at hmx
        cases cap with
        | known c =>
          cases hi with
          | none => simp at h
          | some hv =>
            simp only [Option.bind_eq_some_iff, Option.some.injEq] at h
            obtain ⟨m', hm, ⟨l, r⟩, hb, rfl⟩ := h
            obtain ⟨hmc, hm2⟩ := bound_rel (P := P) (w := w) hmx hm
            obtain ⟨hlr, hr, _, h1⟩ := bounds3_rel (P := P) (w := w) hlo hhi hb
            have hrm : r ≤ m' := by
              rcases hr with hr | hr
              · exact hr
              · simp only [bounds3, Option.bind_eq_bind, Option.bind_eq_some_iff, Option.some.injEq, Prod.mk.injEq] at hb
                obtain ⟨h', hh, l', _, rfl, rfl⟩ := hb
                exact bound_le hh
            have h2 := h1 true c mv rfl (fun code => hm2 c code (Nat.le_refl _))
            cases a with
            | none =>
              simp only [SlRel] at hx
              obtain ⟨rfl, rfl, rfl⟩ := hx
              refine ⟨.slice none (r - l) (m' - l), by rw [run_sl hu hsz h2]; congr 2; split <;> rfl, ?_⟩
              have : (if m' = l then (none : Option (Nat × Nat)) else moved none (l * te.size)) = none := by split <;> rfl
              simp only [VRel, this, SlRel]
              exact ⟨trivial, by omega, by omega⟩
            | some p =>
              simp only [SlRel] at hx
              obtain ⟨L, o', hp, rfl, hlc, ho⟩ := hx
              by_cases hcl : m' = l
              · refine ⟨.slice (some ⟨L.b, o', none⟩) (r - l) (m' - l), run_sl_eq hu hsz h2 _ hcl, ?_⟩
                simp only [VRel, if_pos hcl, SlRel]
                exact ⟨L, o', hp, rfl, by omega, .inl (by omega)⟩
              · refine ⟨.slice (some ⟨L.b, o' + l * te.size, none⟩) (r - l) (m' - l), run_sl_ne hu hsz h2 _ _ hcl, ?_⟩
                simp only [VRel, if_neg hcl, moved, Option.map_some, SlRel]
                exact ⟨L, o' + l * te.size, hp, rfl, by omega, ho.imp (fun h0 => by omega) (fun h0 => by omega)⟩
        | room z =>
          cases hi with
          | none => simp at h
          | some hv =>
            cases a with
            | none => simp at h
            | some p =>
              simp only [Option.bind_eq_some_iff, Option.some.injEq] at h
              obtain ⟨m', hm, ⟨l, r⟩, hb, rfl⟩ := h
              obtain ⟨hmc, hm2⟩ := bound_rel (P := P) (w := w) hmx hm
              obtain ⟨hlr, hr, _, h1⟩ := bounds3_rel (P := P) (w := w) hlo hhi hb
              have hrm : r ≤ m' := by
                rcases hr with hr | hr
                · exact hr
                · simp only [bounds3, Option.bind_eq_bind, Option.bind_eq_some_iff, Option.some.injEq, Prod.mk.injEq] at hb
                  obtain ⟨h', hh, l', _, rfl, rfl⟩ := hb
                  exact bound_le hh
              simp only [SlRel] at hx
              obtain ⟨L, o', c', hp, rfl, hlc, hcn, ho⟩ := hx
              have h2 := h1 true c' mv rfl (fun code => hm2 c' code hlc)
              by_cases hcl : m' = l
              · refine ⟨.slice (some ⟨L.b, o', none⟩) (r - l) (m' - l), run_sl_eq hu hsz h2 _ hcl, ?_⟩
                simp only [VRel, if_pos hcl, SlRel]
                exact ⟨L, o', hp, rfl, by omega, .inl (by omega)⟩
              · refine ⟨.slice (some ⟨L.b, o' + l * te.size, none⟩) (r - l) (m' - l), run_sl_ne hu hsz h2 _ _ hcl, ?_⟩
                simp only [VRel, if_neg hcl, moved, Option.map_some, SlRel]
                exact ⟨L, o' + l * te.size, hp, rfl, by omega, .inr (by rcases ho with h0 | h0 <;> omega)⟩
  · -- an array in memory
    rename_i n e b o hd
    rw [hd] at hu
    cases mx with
    | some _ => simp at h
    | none =>
      cases mx' with
      | some _ => simp only [ORel] at hmx
      | none =>
        simp only [Option.bind_eq_some_iff, Option.some.injEq] at h
        obtain ⟨te, hte, ⟨l, r⟩, hb, rfl⟩ := h
        simp only [VRel] at hx
        obtain ⟨L, hp, rfl⟩ := hx
        obtain ⟨hlr, hr, h1, _⟩ := bounds3_rel (P := P) (w := w) hlo hhi hb
        have h2 := h1 false n (Nat.le_refl _)
        have hrn : r ≤ n := by rcases hr with hr | hr <;> omega
        by_cases hcl : n = l
        · refine ⟨.slice (some ⟨L.b, L.s + o, none⟩) (r - l) (n - l), by simp only [Instr.sliceAt, Instr.sureAddr, Sem.run_bind, Sem.run_pure, hu, Result.andThen_ok, h2, run_size hE hte, if_pos hcl], ?_⟩
          simp only [VRel, if_pos hcl, SlRel]
          exact ⟨L, _, hp, rfl, by omega, .inr rfl⟩
        · refine ⟨.slice (some ⟨L.b, L.s + o + l * te.size, none⟩) (r - l) (n - l), by simp only [Instr.sliceAt, Instr.sureAddr, Sem.run_bind, Sem.run_pure, hu, Result.andThen_ok, h2, run_size hE hte, if_neg hcl, Addr.add_lit], ?_⟩
          simp only [VRel, if_neg hcl, SlRel]
          exact ⟨L, _, hp, rfl, by omega, .inr (by omega)⟩
  · cases h
end
end Go.Av

/- What 'eqAV' says. -/
namespace Go.Av
theorem eqs_eq {q : AV → AV → Bool} (hq : ∀ x y, q x y = true → x = y) : ∀ {xs ys : List AV}, eqAV.eqs q xs ys = true → xs = ys
  | [], [], _ => rfl
  | [], _ :: _, h => by simp [eqAV.eqs] at h
  | _ :: _, [], h => by simp [eqAV.eqs] at h
  | x :: xs, y :: ys, h => by
    simp only [eqAV.eqs, Bool.and_eq_true] at h
    rw [hq _ _ h.1, eqs_eq hq h.2]
theorem eqAV_eq : ∀ (d : Nat) (x y : AV), eqAV d x y = true → x = y
  | 0, _, _, h => by simp [eqAV] at h
  | d + 1, x, y, h => by
    unfold eqAV at h
    split at h
    · rfl
    · simp at h; rw [h]
    · simp at h; rw [h.1, h.2]
    · simp at h; rw [h]
    · rfl
    · simp at h; rw [h.1, h.2]
    · rename_i a l c b m e
      simp only [Bool.and_eq_true, beq_iff_eq] at h
      obtain ⟨⟨h1, h2⟩, h3⟩ := h
      subst h2
      have e1 : a = b := by
        unfold eqAV.eqA at h1
        split at h1
        · rfl
        · simp at h1; rw [h1.1, h1.2]
        · cases h1
      have e2 : c = e := by
        unfold eqAV.eqO at h3
        split at h3
        · simp at h3; rw [h3]
        · simp at h3; rw [h3]
        · cases h3
      rw [e1, e2]
    · rfl
    · simp at h; rw [h]
    · rfl
    · simp only [Bool.and_eq_true, beq_iff_eq] at h
      rw [h.1.1, eqs_eq (eqAV_eq d) h.1.2, eqs_eq (eqAV_eq d) h.2]
    · simp at h; rw [h]
    · simp only [Bool.and_eq_true, beq_iff_eq] at h
      rw [h.1, eqAV_eq d _ _ h.2]
    · rfl
    · rw [eqs_eq (eqAV_eq d) h]
    · rw [eqs_eq (eqAV_eq d) h]
    · cases h
end Go.Av

/- Maps on both sides. -/
namespace Go.Av
section
variable {P : Program} {E : Env} {φ : Phi} {w : World}

theorem ERel.length {es : List (AV × AV × Nat)} {l : List MapEntry} (h : ERel φ es l) : es.length = l.length := by
  induction es generalizing l with
  | nil => simp only [ERel] at h; subst h; rfl
  | cons e es ih => obtain ⟨y, ys, rfl, _, _, _, h⟩ := h; simp [ih h]
theorem ERel.get {es : List (AV × AV × Nat)} {l : List MapEntry} (h : ERel φ es l) {i : Nat} {e : AV × AV × Nat} (he : es[i]? = some e) : ∃ y, l[i]? = some y ∧ VRel φ e.1 y.key ∧ VRel φ e.2.1 y.val ∧ e.2.2 = y.born := by
  induction es generalizing l i with
  | nil => simp at he
  | cons a es ih =>
    obtain ⟨y, ys, rfl, h1, h2, h3, h⟩ := h
    cases i with
    | zero => simp at he; subst he; exact ⟨y, by simp, h1, h2, h3⟩
    | succ i => simp only [List.getElem?_cons_succ] at he ⊢; exact ih h he
theorem ERel.append {es : List (AV × AV × Nat)} {l : List MapEntry} (h : ERel φ es l) {e : AV × AV × Nat} {y : MapEntry} (h1 : VRel φ e.1 y.key) (h2 : VRel φ e.2.1 y.val) (h3 : e.2.2 = y.born) : ERel φ (es ++ [e]) (l ++ [y]) := by
  induction es generalizing l with
  | nil => simp only [ERel] at h; subst h; exact ⟨y, [], rfl, h1, h2, h3, rfl⟩
  | cons a es ih => obtain ⟨z, zs, rfl, k1, k2, k3, h⟩ := h; exact ⟨z, zs ++ [y], rfl, k1, k2, k3, ih h⟩
theorem ERel.erase {es : List (AV × AV × Nat)} {l : List MapEntry} (h : ERel φ es l) (i : Nat) : ERel φ (es.eraseIdx i) (l.eraseIdx i) := by
  induction es generalizing l i with
  | nil => simp only [ERel] at h; subst h; simp [ERel]
  | cons a es ih =>
    obtain ⟨z, zs, rfl, k1, k2, k3, h⟩ := h
    cases i with
    | zero => exact h
    | succ i => exact ⟨z, zs.eraseIdx i, rfl, k1, k2, k3, ih h i⟩
theorem ERel.modify {es : List (AV × AV × Nat)} {l : List MapEntry} (h : ERel φ es l) (i : Nat) {f : AV × AV × Nat → AV × AV × Nat} {g : MapEntry → MapEntry}
    (hfg : ∀ e y, es[i]? = some e → l[i]? = some y → VRel φ e.1 y.key → VRel φ e.2.1 y.val → e.2.2 = y.born → VRel φ (f e).1 (g y).key ∧ VRel φ (f e).2.1 (g y).val ∧ (f e).2.2 = (g y).born) : ERel φ (es.modify i f) (l.modify i g) := by
  induction es generalizing l i with
  | nil => simp only [ERel] at h; subst h; cases i <;> simp [ERel]
  | cons a es ih =>
    obtain ⟨z, zs, rfl, k1, k2, k3, h⟩ := h
    cases i with
    | zero =>
      obtain ⟨h1, h2, h3⟩ := hfg a z (by simp) (by simp) k1 k2 k3
      exact ⟨g z, zs, by simp [List.modify], h1, h2, h3, h⟩
    | succ i => exact ⟨z, zs.modify i g, by simp, k1, k2, k3, ih h i (fun e y he hy => hfg e y (by simpa using he) (by simpa using hy))⟩

def FRel (φ : Phi) : Option (Nat × AV) → Option (Nat × Value) → Prop
  | none, none => True
  | some p, some q => p.1 = q.1 ∧ VRel φ p.2 q.2
  | _, _ => False
theorem findAsking_rel (hE : E.Ok P) {t : TypeId} {k : AV} {kv : Value} (hk : VRel φ k kv) : ∀ {es : List (AV × AV × Nat)} {l : List MapEntry} {i : Nat} {r : Option (Nat × AV)}, ERel φ es l → findK E t k es i = some r →
    ∃ r', FRel φ r r' ∧ (∀ w, (Instr.findAsking t kv l i).run P w = .ok r' w) ∧ (∀ d, P.underlying t = some d → Instr.findNow d kv l i = some r' ∨ Instr.findNow d kv l i = none) ∧ (∀ p, r = some p → ∃ e, es[p.1 - i]? = some e ∧ i ≤ p.1 ∧ e.2.1 = p.2) := by
  intro es
  induction es with
  | nil =>
    intro l i r he h
    simp only [ERel] at he
    subst he
    simp only [findK, Option.some.injEq] at h
    subst h
    exact ⟨none, trivial, fun w => rfl, fun d _ => .inl rfl, fun p hp => by cases hp⟩
  | cons e es ih =>
    intro l i r he h
    obtain ⟨x, v, b⟩ := e
    obtain ⟨y, ys, rfl, h1, h2, h3, he⟩ := he
    simp only at h1 h2 h3
    simp only [findK, Option.bind_eq_bind, Option.bind_eq_some_iff] at h
    obtain ⟨c, hc, h⟩ := h
    have hq := fun w => eqV_rel hE 9 t k x c kv y.key hc hk h1 10000 w (by decide)
    have hnow : ∀ d, P.underlying t = some d → Instr.sameNow d kv y.key = some c ∨ Instr.sameNow d kv y.key = none := by
      intro d hd
      obtain ⟨D, hD⟩ : ∃ D, 8 ≤ D := ⟨8, Nat.le_refl _⟩
      have hq' := eqV_rel hE 9 t k x c kv y.key hc hk h1 (D + 1) default (by omega)
      simp only [Op.equalIn, Sem.run_bind, run_underlying hd, Result.andThen_ok] at hq'
      unfold Instr.sameNow
      split
      · rename_i _ kd j a k' b' hy
        rw [hy] at hq'
        by_cases e : j = k'
        · rw [if_pos e]
          left
          simp only [if_pos e, Sem.run_pure, Result.ok.injEq, and_true] at hq'
          rw [hq']
        · rw [if_neg e]; right; rfl
      · rename_i hy
        rw [hy] at hq'
        simp only [Sem.run_pure, Result.ok.injEq, and_true] at hq'
        left; rw [hq']
      · rename_i hy
        rw [hy] at hq'
        simp only [Sem.run_pure, Result.ok.injEq, and_true] at hq'
        left; rw [hq']
      · right; rfl
    cases c with
    | true =>
      simp only [if_true, Option.some.injEq] at h
      subst h
      refine ⟨some (i, y.val), ⟨rfl, h2⟩, fun w => ?_, fun d hd => ?_, fun p hp => ?_⟩
      · simp [Instr.findAsking, Op.equal, Op.maxDepth, hq]
      · rcases hnow d hd with e | e <;> simp [Instr.findNow, e]
      · cases hp; exact ⟨(x, v, b), by simp, Nat.le_refl _, rfl⟩
    | false =>
      simp only [Bool.false_eq_true, if_false] at h
      obtain ⟨r', k1, k2, k3, k4⟩ := ih he h
      refine ⟨r', k1, fun w => ?_, fun d hd => ?_, fun p hp => ?_⟩
      · simp [Instr.findAsking, Op.equal, Op.maxDepth, hq, k2]
      · rcases hnow d hd with e | e
        · rcases k3 d hd with e' | e' <;> simp [Instr.findNow, e, e']
        · right; simp [Instr.findNow, e]
      · obtain ⟨e, h5, h6, h7⟩ := k4 p hp
        refine ⟨e, ?_, by omega, h7⟩
        rw [show p.1 - i = (p.1 - (i + 1)) + 1 from by omega]
        simpa using h5
theorem findK_rel (hE : E.Ok P) {t : TypeId} {ty : ATy} (ht : E.t t = some ty) {k : AV} {kv : Value} (hk : VRel φ k kv) {es : List (AV × AV × Nat)} {l : List MapEntry} {r : Option (Nat × AV)} (he : ERel φ es l) (h : findK E t k es 0 = some r) :
    ∃ r', FRel φ r r' ∧ (∀ w, (Instr.findKey t kv l).run P w = .ok r' w) ∧ (∀ p, r = some p → ∃ e, es[p.1]? = some e ∧ e.2.1 = p.2) := by
  obtain ⟨r', h1, h2, h3, h4⟩ := findAsking_rel hE hk he h
  refine ⟨r', h1, fun w => ?_, fun p hp => by obtain ⟨e, h5, _, h7⟩ := h4 p hp; exact ⟨e, by simpa using h5, h7⟩⟩
  have hu := (hE.ty t ty ht).1
  simp only [Instr.findKey, Sem.run_bind, run_underlying hu, Result.andThen_ok]
  rcases h3 _ hu with e | e
  · simp [e]
  · simp only [e]
    exact h2 w
end
end Go.Av
