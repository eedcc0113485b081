/- A plain evaluator of the translated code, over values without addresses of what is never written: the definitions alone. -/
import Derived.Deep.LoopGhost
import Derived.Deep.Draws
import Derived.WalkKit
namespace Go.Pv
open Go

/-- A value without concrete addresses. `p l o`: a pointer into the variable number l; `ip cs`: a pointer to cells that nobody writes; `sl es k`: a slice whose elements nobody writes, k its token. -/
inductive AV where
  | b (x : Bool)
  | i (k : IntKind) (n : Int)
  | s (l : List UInt8)
  | np
  | p (l o : Nat)
  | ip (cs : List AV)
  | sl (es : List AV) (k : Nat)
  | ne
  | e (t : TypeId) (v : AV)
  | a (cs : List AV)
  | t (vs : List AV)
  | f (fn : FuncId) (cs : List AV)
  | nf
  deriving Inhabited

abbrev AV.u : AV := .t []

/-- A tree of numbered places. -/
inductive Tr (α : Type) where
  | nil
  | node (v : Option α) (l r : Tr α)

def Tr.get {α : Type} : Tr α → Nat → Option α
  | .nil, _ => none
  | .node v l r, n =>
    match n with
    | 0 => v
    | m + 1 => match Nat.beq (m % 2) 0 with
      | true => l.get (m / 2)
      | false => r.get (m / 2)

def Tr.setF {α : Type} : Nat → Tr α → Nat → α → Tr α
  | 0, t, _, _ => t
  | f + 1, t, n, x =>
    match t with
    | .nil => match n with
      | 0 => .node (some x) .nil .nil
      | m + 1 => match Nat.beq (m % 2) 0 with
        | true => .node none (Tr.setF f .nil (m / 2) x) .nil
        | false => .node none .nil (Tr.setF f .nil (m / 2) x)
    | .node v l r => match n with
      | 0 => .node (some x) l r
      | m + 1 => match Nat.beq (m % 2) 0 with
        | true => .node v (Tr.setF f l (m / 2) x) r
        | false => .node v l (Tr.setF f r (m / 2) x)

def Tr.set {α : Type} (t : Tr α) (n : Nat) (x : α) : Tr α := Tr.setF (n + 1) t n x

abbrev Fr := Tr AV
def Fr.rd (fr : Fr) (n : Nat) : AV := (Tr.get fr n).getD .u
def Fr.ofList : Nat → List AV → Fr → Fr
  | _, [], fr => fr
  | n, v :: vs, fr => Fr.ofList (n + 1) vs (Tr.set fr n v)

structure St where
  h : Tr (List AV)
  tk : Tr Nat
  nb : Nat

/-- So many names are used up. -/
def St.bump (σ : St) (n : Nat) : St := { σ with nb := σ.nb + n }

def St.start : St := { h := .nil, tk := .nil, nb := 0 }

/- What a value stands for hangs on what is never written alone. -/
mutual
def good : AV → Bool
  | .b _ => true
  | .i _ _ => true
  | .s _ => true
  | .np => true
  | .p _ _ => false
  | .ip cs => goods cs
  | .sl es k => Nat.ble k 1 && goods es
  | .ne => true
  | .e _ v => good v
  | .a cs => goods cs
  | .t vs => goods vs
  | .f _ cs => goods cs
  | .nf => true
def goods : List AV → Bool
  | [] => true
  | x :: xs => good x && goods xs
end

def leaf : Value → Option AV
  | .bool b => some (.b b)
  | .int k n => some (.i k n)
  | .string s => some (.s s.data.toList)
  | .pointer none => some .np
  | .slice none 0 0 => some (.sl [] 1)
  | .nilIface => some .ne
  | .nilFunc => some .nf
  | .tuple ⟨[]⟩ => some .u
  | _ => none

def leafs : List Value → Option (List AV)
  | [] => some []
  | v :: vs => match leaf v with
    | some x => match leafs vs with
      | some xs => some (x :: xs)
      | none => none
    | none => none

def ofConst : Value → Option AV
  | .agg cs => match leafs cs.toList with
    | some l => some (.a l)
    | none => none
  | v => leaf v

def AV.cells : AV → List AV
  | .a cs => cs
  | v => [v]
def AV.strip0 : AV → AV
  | .sl es _ => .sl es 0
  | v => v
def AV.strip : AV → AV
  | .a cs => .a (cs.map AV.strip0)
  | .sl es _ => .sl es 0
  | v => v

/-- Without the tokens. -/
def untok : AV → AV
  | .t vs => .t (vs.map AV.strip)
  | v => v.strip

structure TI where
  size : Nat
  bytes : Nat
  zero : List AV

/-- What is used of a type. -/
inductive TD where
  | bool
  | int (k : IntKind)
  | string
  | slice (e : TypeId)
  | array (n : Nat) (e : TypeId)
  | struct (fs : List (Nat × TypeId))
  | pointer (e : TypeId)
  | interface
  | other

def TD.of : TypeDesc → TD
  | .bool => .bool
  | .int k => .int k
  | .string => .string
  | .slice e => .slice e
  | .array n e => .array n e
  | .struct fs => .struct (fs.toList.map fun f => (f.offset, f.type))
  | .pointer e => .pointer e
  | .interface _ => .interface
  | _ => .other

def TI.of (i : TypeInfo) : Option TI :=
  match i.zero with
  | some v => match leafs v.cells.toList with
    | some l => some ⟨i.size, i.bytes, l⟩
    | none => none
  | none => none

structure Tab where
  fn : Nat → Option Func
  und : Nat → Option TD
  inf : Nat → Option TI
  prim : Nat → Option (List AV → Option AV)
  pure : Nat → Bool
  rprim : Nat → Option (List AV → Option (List AV × Nat))
  row : Nat → Bool

def opd (ρ : Nat → AV) : Operand → Option AV
  | .tmp t => some (ρ t)
  | .const v => ofConst v
  | .global _ => none
  | .func f => some (.f f [])

def opds (ρ : Nat → AV) : List Operand → Option (List AV)
  | [] => some []
  | x :: xs => match opd ρ x with
    | some v => match opds ρ xs with
      | some vs => some (v :: vs)
      | none => none
    | none => none

/-- The wrap of a kind, fast where nothing is to be wrapped. -/
def fw (k : IntKind) (n : Int) : Int :=
  match k with
  | .i64 => if -9223372036854775808 ≤ n ∧ n ≤ 9223372036854775807 then n else k.wrap n
  | .u8 => if 0 ≤ n ∧ n ≤ 255 then n else k.wrap n
  | .u32 => if 0 ≤ n ∧ n ≤ 4294967295 then n else k.wrap n
  | .u64 => if 0 ≤ n ∧ n ≤ 18446744073709551615 then n else k.wrap n
  | .i32 => if -2147483648 ≤ n ∧ n ≤ 2147483647 then n else k.wrap n
  | k => k.wrap n

def intV (op : BinOp) (k : IntKind) (x y : Int) : Option AV :=
  match op with
  | .add => some (.i k (fw k (x + y)))
  | .sub => some (.i k (fw k (x - y)))
  | .mul => some (.i k (fw k (x * y)))
  | .quo => if y = 0 then none else some (.i k (fw k (x.tdiv y)))
  | .rem => if y = 0 then none else some (.i k (x.tmod y))
  | .and => some (.i k (k.wrap (BitVec.ofInt k.bits x &&& BitVec.ofInt k.bits y).toNat))
  | .or => some (.i k (k.wrap (BitVec.ofInt k.bits x ||| BitVec.ofInt k.bits y).toNat))
  | .xor => some (.i k (k.wrap (BitVec.ofInt k.bits x ^^^ BitVec.ofInt k.bits y).toNat))
  | .andNot => some (.i k (k.wrap (BitVec.ofInt k.bits x &&& ~~~(BitVec.ofInt k.bits y)).toNat))
  | .eql => some (.b (x == y))
  | .neq => some (.b (x != y))
  | .lss => some (.b (decide (x < y)))
  | .leq => some (.b (decide (x ≤ y)))
  | .gtr => some (.b (decide (x > y)))
  | .geq => some (.b (decide (x ≥ y)))
  | _ => none

def shiftV (op : BinOp) (k : IntKind) (x y : Int) : Option AV :=
  if y < 0 then none else
  match op with
  | .shl => some (.i k (fw k (x * ((2 ^ (min y.toNat k.bits) : Nat) : Int))))
  | .shr => some (.i k (x.fdiv ((2 ^ (min y.toNat k.bits) : Nat) : Int)))
  | _ => none

def eqV (op : BinOp) (r : Bool) : Option AV :=
  match op with
  | .eql => some (.b r)
  | .neq => some (.b (!r))
  | _ => none

def isConst : Operand → Bool
  | .const _ => true
  | _ => false

def Tab.isIface (T : Tab) (t : TypeId) : Bool := match T.und t with | some .interface => true | _ => false
def Tab.isBool (T : Tab) (t : TypeId) : Bool := match T.und t with | some .bool => true | _ => false
def Tab.isSlice (T : Tab) (t : TypeId) : Bool := match T.und t with | some (.slice _) => true | _ => false
def Tab.isPtr (T : Tab) (t : TypeId) : Bool := match T.und t with | some (.pointer _) => true | _ => false
def Tab.isAgg (T : Tab) (t : TypeId) : Option Bool := match T.und t with | some (.struct _) | some (.array _ _) => some true | some _ => some false | none => none

def binV (T : Tab) (op : BinOp) (xt : TypeId) (c : Bool) (x y : AV) : Option AV :=
  match x, y with
  | .i k a, .i k' b => match op with
    | .shl | .shr => shiftV op k a b
    | _ => if k = k' then intV op k a b else none
  | .s a, .s b => match op with
    | .add => if (a.length + b.length : Nat) ≤ 9223372036854775807 then some (.s (a ++ b)) else none
    | .eql => some (.b (a == b))
    | .neq => some (.b (!(a == b)))
    | .lss => some (.b (Op.bytesLess a b))
    | .leq => some (.b (Op.bytesLess a b || a == b))
    | .gtr => some (.b (!(Op.bytesLess a b || a == b)))
    | .geq => some (.b (!(Op.bytesLess a b)))
    | _ => none
  | .b a, .b b => if T.isBool xt then eqV op (a == b) else none
  | .ne, .ne => if T.isIface xt && c then eqV op true else none
  | .ne, .e _ _ => if T.isIface xt then eqV op false else none
  | .e _ _, .ne => if T.isIface xt then eqV op false else none
  | .sl (_ :: _) _, .sl [] 1 => if T.isSlice xt then eqV op false else none
  | .sl [] 1, .sl [] 1 => if T.isSlice xt then eqV op true else none
  | .sl [] (_ + 2), .sl [] 1 => if T.isSlice xt then eqV op false else none
  | _, _ => none

def unV (op : UnOp) (x : AV) : Option AV :=
  match op, x with
  | .neg, .i k n => some (.i k (fw k (0 - n)))
  | .xor, .i k n => intV .xor k (if k.signed then -1 else k.max) n
  | .not, .b x => some (.b (!x))
  | _, _ => none

def bytesOf : List AV → Option (List UInt8)
  | [] => some []
  | .i .u8 n :: r => match bytesOf r with
    | some l => some (UInt8.ofNat n.toNat :: l)
    | none => none
  | _ :: _ => none

def convV (T : Tab) (src dst : TypeId) (x : AV) : Option AV :=
  match T.und src, T.und dst, x with
  | some _, some (.int k), .i _ n => some (.i k (fw k n))
  | some .string, some .string, .s l => some (.s l)
  | some (.slice e), some .string, .sl es _ => match T.und e with
    | some (.int .u8) => match bytesOf es with
      | some l => some (.s l)
      | none => none
    | _ => none
  | _, _, _ => none

def take? (cs : List AV) (o n : Nat) : Option (List AV) :=
  if o + n ≤ cs.length then some ((cs.drop o).take n) else none

/-- The cells behind an address: n from o on. -/
def loadV (T : Tab) (t : TypeId) (x : AV) (σ : St) : Option AV :=
  match T.isAgg t, T.inf t with
  | some ag, some ti =>
    match x with
    | .p l o => match Tr.get σ.h l with
      | some cs => if ag then (match take? cs o ti.size with | some r => some (.a r) | none => none) else cs[o]?
      | none => none
    | .ip cs => if ag then (match take? cs 0 ti.size with | some r => some (.a r) | none => none) else cs[0]?
    | _ => none
  | _, _ => none

def put (cs : List AV) (o : Nat) : List AV → List AV
  | [] => cs
  | v :: vs => put (cs.set o v) (o + 1) vs

def flat : List AV → Bool
  | [] => true
  | .a _ :: _ => false
  | .t _ :: _ => false
  | _ :: r => flat r

def storeV (T : Tab) (t : TypeId) (x v : AV) (σ : St) : Option St :=
  match T.inf t, x with
  | some ti, .p l o => match Tr.get σ.h l with
    | some cs =>
      let vs := v.cells
      if vs.length = ti.size ∧ o + vs.length ≤ cs.length ∧ flat vs = true then some { σ with h := Tr.set σ.h l (put cs o vs) } else none
    | none => none
  | _, _ => none

/-- Is the name free? (j: the operation's place in its region) -/
def boxFree (j : Nat) (σ : St) : Bool := match Tr.get σ.h (σ.nb + j) with | none => true | some _ => false
def tokFree (j : Nat) (σ : St) : Bool := match Tr.get σ.tk (σ.nb + j + 2) with | none => true | some _ => false
def newBox (j : Nat) (cs : List AV) (σ : St) : AV × St := (.p (σ.nb + j) 0, { σ with h := Tr.set σ.h (σ.nb + j) cs })
def newTok (j sz : Nat) (σ : St) : Nat × St := (σ.nb + j + 2, { σ with tk := Tr.set σ.tk (σ.nb + j + 2) sz })

/-- Parts laid into cells. -/
def fillV (place : Nat → Option (Nat × Nat)) (cells : List AV) : List (Nat × AV) → Option (List AV)
  | [] => some cells
  | (i, v) :: rest =>
    match place i with
    | none => none
    | some (off, size) =>
      let vs := v.cells
      if vs.length = size ∧ off + size ≤ cells.length ∧ flat vs = true then fillV place (put cells off vs) rest else none

def parts (ρ : Nat → AV) : List (Nat × Operand) → Option (List (Nat × AV))
  | [] => some []
  | (i, x) :: r => match opd ρ x with
    | some v => match parts ρ r with
      | some vs => some ((i, v) :: vs)
      | none => none
    | none => none

def places (T : Tab) : List (Nat × TypeId) → Option (List (Nat × Nat))
  | [] => some []
  | f :: fs => match T.inf f.2 with
    | some ti => match places T fs with
      | some r => some ((f.1, ti.size) :: r)
      | none => none
    | none => none

def repeatCells (z : List AV) : Nat → List AV
  | 0 => []
  | n + 1 => z ++ repeatCells z n

/-- Cells, cut into elements of a size. -/
def chunk (ag : Bool) (sz : Nat) : Nat → List AV → List AV
  | 0, _ => []
  | n + 1, cs => (if ag then (.a (cs.take sz)) else cs.headD .u) :: chunk ag sz n (cs.drop sz)

def allSize (sz : Nat) : List AV → Bool
  | [] => true
  | e :: es => Nat.beq e.cells.length sz && flat e.cells && allSize sz es

/-- Is the first one of this size? -/
def headSize (sz : Nat) : List AV → Bool
  | [] => true
  | e :: _ => Nat.beq e.cells.length sz

def maxV : AV → List AV → Option AV
  | x, [] => some x
  | .i k x, .i _ y :: r => maxV (.i k (if y > x then y else x)) r
  | _, _ => none
def minV : AV → List AV → Option AV
  | x, [] => some x
  | .i k x, .i _ y :: r => minV (.i k (if y < x then y else x)) r
  | _, _ => none

def elemsV : AV → Option (List AV)
  | .sl xs _ => some xs
  | .s l => some (l.map fun c => .i .u8 (c.toNat : Int))
  | _ => none

/-- append: the elements to be appended. -/
def appV (T : Tab) (j : Nat) (t : TypeId) (s x : AV) (σ : St) : Option (AV × St) :=
  match T.und t with
  | some (.slice e) => match T.inf e, T.isAgg e with
    | some ti, some _ => match s with
      | .sl es k =>
        match elemsV x with
        | some [] => some (s, σ)
        | some (y :: ys) =>
          if ti.size ≠ 0 ∧ ti.bytes ≠ 0 ∧ allSize ti.size (y :: ys) = true ∧ headSize ti.size es = true ∧ (2 * (es.length + (y :: ys).length) + 192) * ti.bytes ≤ 140737488355328 ∧ tokFree j σ = true then
            match k with
            | 0 => none
            | 1 => some (.sl (es ++ (y :: ys).map AV.strip) (newTok j ti.size σ).1, (newTok j ti.size σ).2)
            | k + 2 => match Tr.get σ.tk (k + 2) with
              | some sz => if sz = ti.size then some (.sl (es ++ (y :: ys).map AV.strip) (newTok j ti.size { σ with tk := Tr.set σ.tk (k + 2) 0 }).1, (newTok j ti.size { σ with tk := Tr.set σ.tk (k + 2) 0 }).2) else none
              | none => none
          else none
        | none => none
      | _ => none
    | _, _ => none
  | _ => none

def pureV (o : Option AV) (σ : St) : Option (AV × St) :=
  match o with
  | some v => some (v, σ)
  | none => none

def lenV (T : Tab) (t : TypeId) (x : AV) : Option AV :=
  match T.und t, x with
  | some (.slice _), .sl es _ => some (.i .i64 es.length)
  | some .string, .s l => some (.i .i64 l.length)
  | some (.array n _), _ => some (.i .i64 n)
  | _, _ => none

def bltV (T : Tab) (j : Nat) (b : Builtin) (ts : List TypeId) (vs : List AV) (σ : St) : Option (AV × St) :=
  match b, ts, vs with
  | .len, t :: _, v :: _ => pureV (lenV T t v) σ
  | .append, t :: u :: _, s :: x :: _ => match T.und u with
    | some (.int _) => none
    | some _ => appV T j t s x σ
    | none => none
  | .max, _, x :: r => match x, maxV x r with
    | .i _ _, some v => some (v, σ)
    | _, _ => none
  | .min, _, x :: r => match x, minV x r with
    | .i _ _, some v => some (v, σ)
    | _, _ => none
  | _, _, _ => none

def boundV (x : AV) (y : Nat) : Option Nat :=
  match x with
  | .i _ n => if 0 ≤ n ∧ n ≤ y then some n.toNat else none
  | _ => none

def optOpd (ρ : Nat → AV) : Option Operand → Option (Option AV)
  | none => some none
  | some x => match opd ρ x with
    | some v => some (some v)
    | none => none

def hiB (hi : Option AV) (n : Nat) : Option Nat := match hi with | some h => boundV h n | none => some n
def loB (lo : Option AV) (h : Nat) : Option Nat := match lo with | some v => boundV v h | none => some 0

def sliceV (T : Tab) (t : TypeId) (x : AV) (lo hi : Option AV) : Option AV :=
  match T.und t, x with
  | some .string, .s l =>
    match hiB hi l.length with
    | some h => match loB lo h with
      | some o => some (.s ((l.drop o).take (h - o)))
      | none => none
    | none => none
  | some (.slice e), .sl es _ =>
    match hiB hi es.length with
    | some h => match loB lo h with
      | some o => match T.inf e with
        | some ti => if headSize ti.size es = true then some (.sl ((es.drop o).take (h - o)) 0) else none
        | none => none
      | none => none
    | none => none
  | _, _ => none

def idxAddrV (T : Tab) (t : TypeId) (x ix : AV) : Option AV :=
  match ix with
  | .i _ n =>
    if 0 ≤ n then
      match T.und t, x with
      | some (.slice e), .sl es _ => match T.inf e, es[n.toNat]? with
        | some ti, some v => if v.cells.length = ti.size then some (.ip v.cells) else none
        | _, _ => none
      | some (.array len e), .p l o => match T.inf e with
        | some ti => if n < len then some (.p l (o + n.toNat * ti.size)) else none
        | none => none
      | _, _ => none
    else none
  | _ => none

def partV (T : Tab) (t : TypeId) (cs : List AV) (o : Nat) : Option AV :=
  match T.isAgg t, T.inf t with
  | some true, some ti => match take? cs o ti.size with
    | some r => some (.a r)
    | none => none
  | some false, some _ => cs[o]?
  | _, _ => none

def idxV (T : Tab) (t : TypeId) (x ix : AV) : Option AV :=
  match ix with
  | .i _ n =>
    if 0 ≤ n then
      match T.und t, x with
      | some (.array len e), .a cs => match T.inf e with
        | some ti => if n < len then partV T e cs (n.toNat * ti.size) else none
        | none => none
      | some .string, .s l => match l[n.toNat]? with
        | some c => some (.i .u8 (c.toNat : Int))
        | none => none
      | _, _ => none
    else none
  | _ => none

def fieldAddrV (T : Tab) (t : TypeId) (x : AV) (j : Nat) : Option AV :=
  match T.und t with
  | some (.struct fs) => match fs[j]? with
    | some f => match T.inf f.2 with
      | some ti => if ti.size = 0 then none else match x with
        | .p l o => some (.p l (o + f.1))
        | .ip cs => some (.ip (cs.drop f.1))
        | _ => none
      | none => none
    | none => none
  | _ => none

def fieldV (T : Tab) (t : TypeId) (x : AV) (j : Nat) : Option AV :=
  match T.und t, x with
  | some (.struct fs), .a cs => match fs[j]? with
    | some f => partV T f.2 cs f.1
    | none => none
  | _, _ => none

abbrev CallK := FuncId → List AV → St → Option (AV × St)

def buildV (T : Tab) (t : TypeId) (ps : List (Nat × AV)) : Option AV :=
  match T.und t, T.inf t with
  | some (.struct fs), some ti => match places T fs with
    | some pl => match fillV (fun i => pl[i]?) ti.zero ps with
      | some cs => some (.a cs)
      | none => none
    | none => none
  | some (.array _ e), some ti => match T.inf e with
    | some te => match fillV (fun i => some (i * te.size, te.size)) ti.zero ps with
      | some cs => some (.a cs)
      | none => none
    | none => none
  | _, _ => none

def buildSliceV (T : Tab) (j : Nat) (t : TypeId) (len : Nat) (ps : List (Nat × AV)) (σ : St) : Option (AV × St) :=
  match T.und t with
  | some (.slice e) => match T.inf e, T.isAgg e with
    | some te, some ag =>
      if te.size ≠ 0 ∧ len * te.size ≤ 16777216 ∧ (ag = true ∨ te.size = 1) then
        match fillV (fun i => some (i * te.size, te.size)) (repeatCells te.zero len) ps with
        | some cs =>
          if flat cs = true ∧ tokFree j σ = true then
            some (.sl ((chunk ag te.size len cs).map AV.strip) (newTok j te.size σ).1, (newTok j te.size σ).2)
          else none
        | none => none
      else none
    | _, _ => none
  | _ => none

def makeSliceV (T : Tab) (j : Nat) (t : TypeId) (n c : AV) (σ : St) : Option (AV × St) :=
  match T.und t, n, c with
  | some (.slice e), .i _ n, .i _ c => match T.inf e, T.isAgg e with
    | some te, some ag =>
      if te.size ≠ 0 ∧ 0 ≤ n ∧ n ≤ c ∧ te.bytes * c ≤ 140737488355328 ∧ c ≤ 140737488355328 ∧ (ag = true ∨ te.size = 1) ∧ flat te.zero = true ∧ tokFree j σ = true then
        some (.sl (List.replicate n.toNat (if ag then (.a (te.zero.map AV.strip0)) else (te.zero.headD .u).strip0)) (newTok j te.size σ).1, (newTok j te.size σ).2)
      else none
    | _, _ => none
  | _, _, _ => none

/-- A call of a function that is given nothing that can be written: it is evaluated by itself. -/
def pureK (K : CallK) (f : FuncId) (vs : List AV) : Option AV :=
  match goods (vs.map untok) with
  | true => match K f (vs.map untok) St.start with
    | some (r, _) => match good (untok r) with
      | true => some (untok r)
      | false => none
    | none => none
  | false => none

def primK (T : Tab) (K : CallK) (f : FuncId) : Option (List AV → Option AV) :=
  match T.prim f with
  | some p => match T.pure f with
    | true => some fun vs => match p vs with
      | some r => some r
      | none => pureK K f vs
    | false => some p
  | none => match T.pure f with
    | true => some (pureK K f)
    | false => none

/-- A call that makes a row, and leaves its spare room to the caller. -/
def rowOf (K : CallK) (f : FuncId) (vs : List AV) : Option (List AV × Nat) :=
  match goods (vs.map untok) with
  | true => match K f (vs.map untok) St.start with
    | some (.sl es k, σ1) => match Nat.ble 2 k && goods es with
      | true => match Tr.get σ1.tk k with
        | some (sz + 1) => some (es, sz + 1)
        | _ => none
      | false => match k, es with
        | 1, [] => some ([], 0)
        | _, _ => none
    | _ => none
  | false => none

def rowK (T : Tab) (K : CallK) (f : FuncId) : Option (List AV → Option (List AV × Nat)) :=
  match T.rprim f with
  | some p => some p
  | none => match T.row f with
    | true => some (rowOf K f)
    | false => none

/-- The row, with its token; without cells: no row (0). -/
def rowR (es : List AV) (k : Nat) : Nat → AV
  | 0 => .sl [] 1
  | _ + 1 => .sl es k
def rowV (j : Nat) (o : Option (List AV × Nat)) (σ : St) : Option (AV × St) :=
  match o with
  | some (es, sz) => if tokFree j σ = true then some (rowR es (newTok j sz σ).1 sz, (newTok j sz σ).2) else none
  | none => none

/-- One operation: the j-th of a region of n. -/
def evalOp (T : Tab) (K : CallK) (n j : Nat) (o : Oper) (ρ : Nat → AV) (σ : St) : Option (AV × St) :=
  match o.op with
  | .move x | .assign x => pureV (opd ρ x) σ
  | .pick c x y => match opd ρ c with
    | some (.b true) => pureV (opd ρ x) σ
    | some (.b false) => pureV (opd ρ y) σ
    | _ => none
  | .alloc t => match T.inf t with
    | some ti => if boxFree j σ = true then some (newBox j ti.zero σ) else none
    | none => none
  | .box _ x => match opd ρ x with
    | some v => if flat v.cells = true ∧ boxFree j σ = true then some (newBox j v.cells σ) else none
    | none => none
  | .build t ps => match parts ρ ps.toList with
    | some l => pureV (buildV T t l) σ
    | none => none
  | .buildSlice t m ps => match parts ρ ps.toList with
    | some l => buildSliceV T j t m l σ
    | none => none
  | .load t x => match opd ρ x with
    | some v => pureV (loadV T t v σ) σ
    | none => none
  | .store t x y => match opd ρ x, opd ρ y with
    | some v, some u => match storeV T t v u σ with
      | some σ' => some (.u, σ')
      | none => none
    | _, _ => none
  | .nilCheck x => match opd ρ x with
    | some (.p l o) => some (.p l o, σ)
    | some (.ip cs) => some (.ip cs, σ)
    | some (.f fn cs) => some (.f fn cs, σ)
    | _ => none
  | .binOp op xt x y _ => match opd ρ x, opd ρ y with
    | some v, some u => pureV (binV T op xt (isConst x || isConst y) v u) σ
    | _, _ => none
  | .unOp op _ x => match opd ρ x with
    | some v => pureV (unV op v) σ
    | none => none
  | .convert s d x => match opd ρ x with
    | some v => pureV (convV T s d v) σ
    | none => none
  | .makeInterface t x => match opd ρ x, T.und t with
    | some v, some .interface => (fun _ => none) v
    | some v, some _ => some (.e t v, σ)
    | _, _ => none
  | .makeFunc (.func f) ⟨[]⟩ cs => match opds ρ cs.toList with
    | some vs => some (.f f vs, σ)
    | none => none
  | .makeSlice t m c => match opd ρ m, opd ρ c with
    | some v, some u => makeSliceV T j t v u σ
    | _, _ => none
  | .slice t x lo hi none => match opd ρ x, optOpd ρ lo, optOpd ρ hi with
    | some v, some l, some h => pureV (sliceV T t v l h) σ
    | _, _, _ => none
  | .fieldAddr t x j => match opd ρ x with
    | some v => pureV (fieldAddrV T t v j) σ
    | none => none
  | .field t x j => match opd ρ x with
    | some v => pureV (fieldV T t v j) σ
    | none => none
  | .indexAddr t x ix => match opd ρ x, opd ρ ix with
    | some v, some u => pureV (idxAddrV T t v u) σ
    | _, _ => none
  | .index t x ix => match opd ρ x, opd ρ ix with
    | some v, some u => pureV (idxV T t v u) σ
    | _, _ => none
  | .extract x j => match opd ρ x with
    | some (.t vs) => pureV vs[j]? σ
    | _ => none
  | .call c => match opds ρ c.args.toList with
    | some vs => match c.callee with
      | .builtin b => bltV T j b c.argTypes.toList vs σ
      | .value f => match opd ρ f with
        | some (.f fn cs) => match rowK T K fn with
          | some p => rowV j (p (vs ++ cs)) σ
          | none => match primK T K fn with
            | some p => pureV (p (vs ++ cs)) σ
            | none => K fn (vs ++ cs) (σ.bump n)
        | _ => none
      | .invoke _ _ => none
    | none => none
  | _ => none

/-- 0: leaves the state alone and does not look at it; 1: looks at the variables; 3: makes a row; 4: append; 5: makes a variable; 2: all else. -/
def cls (T : Tab) : Op → Nat
  | .move _ | .assign _ | .pick .. | .build .. | .nilCheck _ | .binOp .. | .unOp .. | .convert .. | .makeInterface .. | .makeFunc .. | .slice .. | .fieldAddr .. | .field .. | .indexAddr .. | .index .. | .extract .. => 0
  | .load .. => 1
  | .buildSlice .. | .makeSlice .. => 3
  | .alloc _ | .box .. => 5
  | .call c => match c.callee with
    | .builtin .len | .builtin .max | .builtin .min => 0
    | .builtin .append => 4
    | .value (.func f) => match (T.rprim f).isSome || T.row f with
      | true => 3
      | false => match T.prim f with
        | some _ => 0
        | none => match T.pure f with
          | true => 0
          | false => 2
    | _ => 2
  | _ => 2

def okCls : Nat → Nat → Bool
  | 0, _ => true
  | _, 0 => true
  | 1, 1 => true
  | 1, 3 => true
  | 3, 1 => true
  | 1, 4 => true
  | 4, 1 => true
  | 4, 3 => true
  | 1, 5 => true
  | 3, 3 => true
  | 5, 5 => true
  | _, _ => false

def okPair (T : Tab) (ops : Array Oper) (x i : Oper) : Bool := x.apart ops i && okCls (cls T x.op) (cls T i.op)

def maskStep (acc : List Nat) (s : Nat) (e : Edge) : Nat := match Region.binds .any e with | true => s ||| (2 ^ e.on ||| acc.getD e.on 0) | false => s
def maskOf (acc : List Nat) (o : Oper) : Nat := o.after.toList.foldl (maskStep acc) 0
def masks : List Oper → List Nat → List Nat
  | [], acc => acc
  | o :: os, acc => masks os (acc ++ [maskOf acc o])

def okEdges (o : Oper) (i : Nat) : Bool := o.after.toList.all fun e => !Region.binds .any e || Nat.blt e.on i

/-- Each pair is ordered, or may stand in either order. -/
def okPairs (T : Tab) (ops : Array Oper) (m : List Nat) : Nat → List Oper → Bool
  | _, [] => true
  | i, o :: os => okEdges o i && (ops.toList.take i).zipIdx.all (fun x => (m.getD i 0).testBit x.2 || okPair T ops x.1 o) && okPairs T ops m (i + 1) os

/-- The temporary that an address is read of, where an operation loads or stores. -/
def addrT : Op → Option Nat
  | .load _ (.tmp a) => some a
  | .store _ (.tmp a) _ => some a
  | _ => none

def farV : AV → AV → Bool
  | .p l _, .p l' _ => !Nat.beq l l'
  | .ip _, .p _ _ => true
  | .p _ _, .ip _ => true
  | _, _ => false

/-- Two operations that load or store, at variables that are not the same. -/
def okDyn (ops : Array Oper) (ρ : Nat → AV) (x i : Oper) : Bool := x.apart ops i && match addrT x.op, addrT i.op with
  | some a, some b => farV (ρ a) (ρ b)
  | _, _ => false

/-- Nothing writes a temporary but what comes ahead of an operation. -/
def stab (ops : Array Oper) (m : List Nat) (j : Nat) (o : Oper) : Bool := match addrT o.op with
  | some a => ops.toList.zipIdx.all fun q => match q.1.dst with
    | some d => !Nat.beq d a || (Nat.blt q.2 j && (m.getD j 0).testBit q.2)
    | none => true
  | none => false

def okPairsD (T : Tab) (ops : Array Oper) (m : List Nat) (ρ : Nat → AV) : Nat → List Oper → Bool
  | _, [] => true
  | i, o :: os => okEdges o i && (ops.toList.take i).zipIdx.all (fun x => (m.getD i 0).testBit x.2 || okPair T ops x.1 o || (okDyn ops ρ x.1 o && stab ops m x.2 x.1 && stab ops m i o)) && okPairsD T ops m ρ (i + 1) os

def okDrawD (T : Tab) (ops : Array Oper) (ρ : Nat → AV) : Bool := okPairsD T ops (masks ops.toList []) ρ 0 ops.toList

def isStore : Op → Bool
  | .store .. => true
  | _ => false
def hasStore (ops : Array Oper) : Bool := ops.toList.any fun o => isStore o.op

def okDraw (T : Tab) (ops : Array Oper) : Bool := okPairs T ops (masks ops.toList []) 0 ops.toList

/-- Is an operation carried out? -/
def wantV (ops : Array Oper) (o : Oper) (ρ : Nat → AV) : Bool :=
  match o.guard with
  | none => true
  | some (j, want) => match (ops[j]?).bind (·.dst) with
    | some d => match ρ d with
      | .b x => x == want
      | _ => false
    | none => false

def evalOps (T : Tab) (K : CallK) (ops : Array Oper) (n : Nat) : Nat → List Oper → Fr → St → Option (Fr × St)
  | _, [], fr, σ => some (fr, σ.bump n)
  | j, o :: rest, fr, σ =>
    match wantV ops o fr.rd with
    | true => match evalOp T K n j o fr.rd σ with
      | some (v, σ') => match o.dst with
        | some d => evalOps T K ops n (j + 1) rest (Tr.set fr d v) σ'
        | none => evalOps T K ops n (j + 1) rest fr σ'
      | none => none
    | false => match o.dst with
      | some d => evalOps T K ops n (j + 1) rest (Tr.set fr d .u) σ
      | none => evalOps T K ops n (j + 1) rest fr σ

inductive Ex where
  | normal
  | exit (id : Nat)
  | ret

def resV (T : Tab) (fr : Fr) (σ : St) : List ResultVar → Option (List AV)
  | [] => some []
  | .tmp t :: r => match resV T fr σ r with
    | some l => some (fr.rd t :: l)
    | none => none
  | .cell x t :: r => match fr.rd x with
    | .p l o => match loadV T t (.p l o) σ, resV T fr σ r with
      | some v, some l => some (v :: l)
      | _, _ => none
    | _ => none

def callWith (T : Tab) (ev : Code → Fr → St → Option (Ex × Fr × St)) : CallK := fun f vs σ =>
  match T.fn f with
  | some fn => match fn.body with
    | some c =>
      if vs.length ≤ fn.ntmps then
        match ev c (Fr.ofList 0 vs .nil) σ with
        | some (.exit _, _, _) => none
        | some (_, fr, σ') => match resV T fr σ' fn.results.toList with
          | some [v] => some (v, σ')
          | some l => some (.t l, σ')
          | none => none
        | none => none
      else none
    | none => none
  | none => none

def evalCode (T : Tab) : Nat → Code → Fr → St → Option (Ex × Fr × St)
  | 0, _, _, _ => none
  | n + 1, c, fr, σ =>
    match c with
    | .skip => some (.normal, fr, σ)
    | .region _ ops draw => match evalOps T (callWith T (evalCode T n)) ops ops.size 0 ops.toList fr σ with
      | some (fr', σ') => match draw && hasStore ops with
        | true => match okDrawD T ops fr'.rd with
          | true => some (.normal, fr', σ')
          | false => none
        | false => some (.normal, fr', σ')
      | none => none
    | .seq x y => match evalCode T n x fr σ with
      | some (.normal, fr', σ') => evalCode T n y fr' σ'
      | r => r
    | .cond x y z => match opd fr.rd x with
      | some (.b true) => evalCode T n y fr σ
      | some (.b false) => evalCode T n z fr σ
      | _ => none
    | .block id x => match evalCode T n x fr σ with
      | some (.exit id', fr', σ') => if id' = id then some (.normal, fr', σ') else some (.exit id', fr', σ')
      | r => r
    | .loop x => match evalCode T n x fr σ with
      | some (.normal, fr', σ') => evalCode T n (.loop x) fr' σ'
      | r => r
    | .exit id => some (.exit id, fr, σ)
    | .ret => some (.ret, fr, σ)
    | _ => none

def evalCall (T : Tab) (n : Nat) : CallK := callWith T (evalCode T n)

def Tr.ofList {α : Type} : List (Nat × α) → Tr α
  | [] => .nil
  | (k, v) :: r => (Tr.ofList r).set k v

def Tab.of (fns : List (Nat × Func)) (tys : List (Nat × TD)) (infs : List (Nat × TI)) (prim : Nat → Option (List AV → Option AV)) (pure : Nat → Bool) (rprim : Nat → Option (List AV → Option (List AV × Nat))) (row : Nat → Bool) : Tab :=
  { fn := (Tr.ofList fns).get, und := (Tr.ofList tys).get, inf := (Tr.ofList infs).get, prim, pure, rprim, row }

end Go.Pv
