/- The evaluator: a deterministic big-step interpreter of the IR, without tape, capacity or order. -/
import GoSem.Dispatch
import GoSem.Machine.Start
namespace Go.Ev

/-- Values. 'ptr b g off': cell 'off' of the local block b at its generation g. 'pp cells off': a pointer into plain data. 'sl': a slice over a local block. 'list n cells': a slice of plain data (n elements). -/
inductive V where
  | undef
  | bool (b : Bool)
  | int (k : IntKind) (n : Int)
  | str (s : ByteArray)
  | nilp
  | ptr (b g off : Nat)
  | pp (cells : List V) (off : Nat)
  | nils
  | sl (b g off len : Nat)
  | list (n : Nat) (cells : List V)
  | agg (cs : List V)
  | tup (cs : List V)
  | fn (f : Fn) (first cap : List V)
  | nilf
  | nili
  | ifc (t : TypeId) (v : V)
  | nilm
  | map (b : Nat)
  | itr (b : Nat)
  | yld (b : Nat)
  deriving Inhabited

/-- A frame's deferred calls: the mark of a range-over-function loop, or a call. -/
inductive Df where
  | coll (b : Nat)
  | call (f : V) (args : List V)
  deriving Inhabited

inductive Blk where
  /-- ro: may no longer be written; g: its generation (how often it was appended to); es: cells an element. -/
  | cells (ro : Bool) (g es : Nat) (cs : List V)
  /-- a nil slice that may be appended to -/
  | nilb
  | map (es : List (V × V))
  | sit (s : ByteArray) (pos : Nat)
  | loop (st : LoopState) (pend : Option Code) (fn : FuncId) (tm : List V) (ps : Array Tmp) (asg body : Code) (db : Nat)
  | defs
  | gone
  deriving Inhabited

abbrev Heap := List Blk

/-- What a basic type is beneath. -/
inductive UK where
  | bool | int (k : IntKind) | str | slice (e : TypeId) | other
  deriving DecidableEq, Repr, Inhabited

/-- What the evaluator is told of the program: partial tables. -/
structure Env where
  fn : FuncId → Option Func
  size : TypeId → Option Nat
  bytes : TypeId → Option Nat
  agg : TypeId → Option Bool
  zero : TypeId → Option (List V)
  fld : TypeId → Nat → Option (Nat × TypeId)
  bld : TypeId → Option (List (Nat × Nat))
  arr : TypeId → Option (Nat × TypeId)
  slc : TypeId → Option TypeId
  kind : TypeId → Option UK
  mapk : TypeId → Option (TypeId × TypeId)
  eqt : TypeId → Option (List UK)
  iface : TypeId → Option Bool
  spec : FuncId → List V → Option V

/-- Called functions end so. -/
inductive CR where
  | ret (v : V)
  | pan (v : V)
  deriving Inhabited

/-- What a frame knows of its caller's panic. -/
inductive Pn where
  | normal
  | dret
  | dpan (v : V) (rec : Bool)
  deriving Inhabited

structure St where
  tm : List V
  df : List Df
  H : Heap
  pn : Pn
  deriving Inhabited

inductive X where
  | nrm | ret | exit (id : Nat) | pan (v : V)
  deriving Inhabited

def ofV : Value → Option V
  | .bool b => some (.bool b)
  | .int k n => some (.int k n)
  | .string s => some (.str s)
  | .pointer none => some .nilp
  | .slice none 0 0 => some .nils
  | .nilIface => some .nili
  | .nilFunc => some .nilf
  | .map none => some .nilm
  | _ => none

def evo (tm : List V) : Operand → Option V
  | .tmp t => some (tm.getD t .undef)
  | .const v => ofV v
  | .func f => some (.fn (.func f) [] [])
  | .global _ => none

def evos (tm : List V) : List Operand → Option (List V)
  | [] => some []
  | x :: xs => match evo tm x, evos tm xs with
    | some v, some vs => some (v :: vs)
    | _, _ => none

def optV (tm : List V) : Option Operand → Option (Option V)
  | none => some none
  | some y => (evo tm y).map some

/-- A value's cells. -/
def V.cells : V → List V
  | .agg cs => cs
  | v => [v]

/-- nil slices in cells become blocks that can be appended to. -/
def lift : List V → Heap → List V × Heap
  | [], H => ([], H)
  | .nils :: r, H => let p := lift r (H ++ [.nilb]); (.sl H.length 0 0 0 :: p.1, p.2)
  | v :: r, H => let p := lift r H; (v :: p.1, p.2)

def takeAt (cs : List V) (off n : Nat) : Option (List V) := if off + n ≤ cs.length then some ((cs.drop off).take n) else none

/-- n cells from a pointer on. -/
def readAt (H : Heap) (p : V) (n : Nat) : Option (List V) :=
  match p with
  | .ptr b g off => match H[b]? with
    | some (.cells _ g' _ cs) => if g = g' then takeAt cs off n else none
    | _ => none
  | .pp cs off => takeAt cs off n
  | _ => none

def putAt (cs : List V) (off : Nat) (vs : List V) : List V := cs.take off ++ (vs ++ cs.drop (off + vs.length))

def writeAt (H : Heap) (p : V) (vs : List V) : Option Heap :=
  match p with
  | .ptr b g off => match H[b]? with
    | some (.cells false g' es cs) => if g = g' ∧ off + vs.length ≤ cs.length then some (H.set b (.cells false g' es (putAt cs off vs))) else none
    | _ => none
  | _ => none

/-- The cells of a slice with elements of es cells; how many elements. -/
def sliceCells (H : Heap) (es : Nat) : V → Option (Nat × List V)
  | .nils => some (0, [])
  | .list n cs => if cs.length = n * es then some (n, cs) else none
  | .sl b g off len => if len = 0 then some (0, []) else match H[b]? with
    | some (.cells _ g' _ cs) => if g = g' then (takeAt cs off (len * es)).map fun c => (len, c) else none
    | _ => none
  | _ => none

/-! ### frozen values: plain data -/
/-- A value of one cell. -/
def V.one : V → Bool
  | .undef | .agg _ | .tup _ => false
  | _ => true

/-- May be stored: one cell, or a struct's cells. -/
def V.may : V → Bool
  | .undef | .tup _ => false
  | _ => true

mutual
/-- The local blocks that a value names. -/
def V.refs : V → List Nat
  | .ptr b _ _ | .map b | .itr b | .yld b | .sl b _ _ _ => [b]
  | .agg cs => refsL cs
  | .tup cs => refsL cs
  | .fn _ a c => refsL a ++ refsL c
  | .ifc _ v => v.refs
  | _ => []
def refsL : List V → List Nat
  | [] => []
  | v :: r => v.refs ++ refsL r
end

/-- References from block h0 on are resolved; those below stay ('keep') or are lost. -/
def frz (H : Heap) (h0 : Nat) (keep : Bool) : Nat → V → V
  | 0, _ => .undef
  | k + 1, v => match v with
    | .ptr b _ _ | .map b | .itr b | .yld b => if b < h0 && keep then v else .undef
    | .sl b g off len =>
      if b < h0 then (if keep then v else .undef) else
      match H[b]? with
      | some .nilb => .nils
      | some (.cells _ g' es cs) => if len = 0 then .list 0 [] else
        let l := ((cs.drop off).take (len * es)).map (frz H h0 false k)
        if g = g' ∧ off + len * es ≤ cs.length ∧ l.all V.one = true ∧ refsL l = [] then .list len l else .undef
      | _ => .undef
    | .agg cs => let l := cs.map (frz H h0 keep k); if l.all V.one then .agg l else .undef
    | .tup cs => .tup (cs.map (frz H h0 keep k))
    | .fn f a c => .fn f (a.map (frz H h0 keep k)) (c.map (frz H h0 keep k))
    | .ifc t v => .ifc t (frz H h0 keep k v)
    | v => v

def depth : Nat := 12

/-- All references lie below h0. -/
def vlt (h0 : Nat) (v : V) : Bool := v.refs.all (· < h0)

def Blk.refs : Blk → List Nat
  | .cells _ _ _ cs => refsL cs
  | .map es => es.flatMap fun e => e.1.refs ++ e.2.refs
  | .loop _ _ _ tm _ _ _ db => db :: refsL tm
  | _ => []

def Blk.lt (h0 : Nat) (b : Blk) : Bool := b.refs.all (· < h0)

def Pn.lt (h0 : Nat) : Pn → Bool
  | .dpan v _ => vlt h0 v
  | _ => true

/-- The blocks from h0 on go, if nothing older refers to them; a frame's references to them are frozen. -/
def trunc (h0 : Nat) (s : St) : St :=
  if s.H.length ≤ h0 then s else
  if (s.H.take h0).all (Blk.lt h0) && s.df.isEmpty && s.pn.lt h0 then { s with tm := s.tm.map (frz s.H h0 true depth), H := s.H.take h0 } else s

/-- At a function's return: the blocks of its own go, if neither the result nothing older refers to them. -/
def leave (h0 : Nat) (v : V) (pn : Pn) (H : Heap) : Heap :=
  if H.length ≤ h0 then H else
  if (vlt h0 v && pn.lt h0) && (H.take h0).all (Blk.lt h0) then H.take h0 else H

def blkRefs (H : Heap) (b : Nat) : List Nat := match H[b]? with | some k => k.refs | none => []

/-- What blocks lead to. -/
def close (H : Heap) : Nat → List Nat → List Nat
  | 0, l => l
  | n + 1, l =>
    let new := ((l.flatMap (blkRefs H)).filter fun b => !l.contains b).eraseDups
    if new.isEmpty then l else close H n (l ++ new)

def closedIn (H : Heap) (l : List Nat) : Bool := l.all fun b => (blkRefs H b).all fun c => l.contains c

/-- All blocks that some lead to; none: too deep. -/
def reach (H : Heap) (l : List Nat) : Option (List Nat) :=
  let c := close H depth l
  if closedIn H c && l.all c.contains then some c else none

def Blk.shut : Blk → Blk
  | .cells _ g es cs => .cells true g es cs
  | b => b

def shutAll (H : Heap) (bs : List Nat) : Heap := bs.foldl (fun H b => match H[b]? with | some k => H.set b k.shut | none => H) H

/-- No slice, pointer or function within. -/
def V.flat : Nat → V → Bool
  | 0, _ => false
  | k + 1, v => match v with
    | .bool _ | .int _ _ | .str _ | .nilp | .nils | .nilf | .nili | .nilm => true
    | .agg cs | .tup cs => cs.all (V.flat k)
    | .ifc _ v => V.flat k v
    | _ => false

/-! ### operations -/
inductive OR where
  | val (v : V) (H : Heap)
  | skip (H : Heap)
  | pan (v : V) (H : Heap)
  | dfr (d : Df) (H : Heap)
  | rcv (v : V) (pn : Pn) (H : Heap)
  deriving Inhabited

def newBlk (H : Heap) (b : Blk) (v : V) : Option OR := some (.val v (H ++ [b]))

def intOp (op : BinOp) (k : IntKind) (a b : Int) : Option V :=
  match op with
  | .add => some (.int k (k.wrap (a + b)))
  | .sub => some (.int k (k.wrap (a - b)))
  | .mul => some (.int k (k.wrap (a * b)))
  | .quo => if b = 0 then none else some (.int k (k.wrap (a.tdiv b)))
  | .rem => if b = 0 then none else some (.int k (a.tmod b))
  | .and => some (.int k (k.wrap (BitVec.ofInt k.bits a &&& BitVec.ofInt k.bits b).toNat))
  | .or => some (.int k (k.wrap (BitVec.ofInt k.bits a ||| BitVec.ofInt k.bits b).toNat))
  | .xor => some (.int k (k.wrap (BitVec.ofInt k.bits a ^^^ BitVec.ofInt k.bits b).toNat))
  | .andNot => some (.int k (k.wrap (BitVec.ofInt k.bits a &&& ~~~ BitVec.ofInt k.bits b).toNat))
  | .eql => some (.bool (a == b))
  | .neq => some (.bool (a != b))
  | .lss => some (.bool (a < b))
  | .leq => some (.bool (a ≤ b))
  | .gtr => some (.bool (a > b))
  | .geq => some (.bool (a ≥ b))
  | _ => none

def shiftOp (op : BinOp) (k : IntKind) (a b : Int) : Option V :=
  if b < 0 then none else
  match op with
  | .shl => some (.int k (k.wrap (a * 2 ^ min b.toNat k.bits)))
  | .shr => some (.int k (a.fdiv (2 ^ min b.toNat k.bits)))
  | _ => none

def strOp (op : BinOp) (x y : ByteArray) : Option V :=
  match op with
  | .add => if x.size + y.size ≤ 2 ^ 40 then some (.str (x ++ y)) else none
  | .eql => some (.bool (x.toList == y.toList))
  | .neq => some (.bool (!(x.toList == y.toList)))
  | .lss => some (.bool (Op.bytesLess x.toList y.toList))
  | .leq => some (.bool (Op.bytesLess x.toList y.toList || x.toList == y.toList))
  | .gtr => some (.bool (!(Op.bytesLess x.toList y.toList || x.toList == y.toList)))
  | .geq => some (.bool (!(Op.bytesLess x.toList y.toList)))
  | _ => none

/-- '==' of cells that are bools, whole numbers and texts. -/
def eqCells : List V → List V → Option Bool
  | [], [] => some true
  | x :: xs, y :: ys =>
    match (match x, y with
      | .bool a, .bool b => some (a == b)
      | .int k a, .int k' b => if k = k' then some (a == b) else none
      | .str a, .str b => some (a.toList == b.toList)
      | _, _ => none), eqCells xs ys with
    | some p, some q => some (p && q)
    | _, _ => none
  | _, _ => none

/-- Cells of given kinds. -/
def fitsK : List UK → List V → Bool
  | [], [] => true
  | .bool :: ks, .bool _ :: vs => fitsK ks vs
  | .int k :: ks, .int k' _ :: vs => k == k' && fitsK ks vs
  | .str :: ks, .str _ :: vs => fitsK ks vs
  | _, _ => false

def binop (E : Env) (op : BinOp) (t : TypeId) (x y : V) : Option V :=
  match x, y with
  | .int k a, .int k' b =>
    (match op with
      | .shl | .shr => shiftOp op k a b
      | _ => if k = k' then intOp op k a b else none)
  | .str a, .str b => strOp op a b
  | .bool a, .bool b => if E.kind t = some .bool then (match op with | .eql => some (.bool (a == b)) | .neq => some (.bool (!(a == b))) | _ => none) else none
  | .agg xs, .agg ys => (match E.eqt t with
    | some ks => if (fitsK ks xs && fitsK ks ys) = true then
      (match op with
        | .eql => (eqCells xs ys).map .bool
        | .neq => (eqCells xs ys).map fun b => .bool (!b)
        | _ => none) else none
    | none => none)
  | .nili, .ifc _ _ | .ifc _ _, .nili => if E.iface t = some true then (match op with | .eql => some (.bool false) | .neq => some (.bool true) | _ => none) else none
  | _, _ => none

def unop (op : UnOp) (x : V) : Option V :=
  match op, x with
  | .neg, .int k n => some (.int k (k.wrap (0 - n)))
  | .not, .bool b => some (.bool (!b))
  | _, _ => none

def conv (E : Env) (s d : TypeId) (x : V) : Option V :=
  match E.kind s, E.kind d, x with
  | some _, some (.int k), .int _ n => some (.int k (k.wrap n))
  | some _, some .str, .str a => some (.str a)
  | some _, some .str, .int _ n => some (.str (Utf8.encode n))
  | _, _, _ => none

/-- A part of a value's cells. -/
def part (E : Env) (t : TypeId) (cs : List V) (off : Nat) : Option V :=
  match E.agg t, E.size t with
  | some true, some n => (takeAt cs off n).map .agg
  | some false, _ => cs[off]?
  | _, _ => none

def fillCells (place : Nat → Option (Nat × Nat)) (cells : List V) : List (Nat × V) → Option (List V)
  | [] => some cells
  | (i, v) :: r => match place i with
    | none => none
    | some (off, n) => if v.may = true ∧ v.cells.length = n ∧ off + n ≤ cells.length then fillCells place (putAt cells off v.cells) r else none

def buildV (E : Env) (t : TypeId) (parts : List (Nat × V)) : Option V :=
  match E.zero t, E.bld t with
  | some z, some ps => if z.all V.one then (fillCells (fun i => ps[i]?) z parts).map .agg else none
  | _, _ => none

def zeros (n : Nat) (z : List V) : List V := (List.replicate n z).flatten

def loadV (E : Env) (H : Heap) (t : TypeId) (p : V) : Option V :=
  match E.agg t, E.size t with
  | some true, some n => (readAt H p n).map .agg
  | some false, _ => match readAt H p 1 with
    | some [v] => some v
    | _ => none
  | _, _ => none

def addOff (p : V) (n : Nat) : Option V :=
  match p with
  | .ptr b g off => some (.ptr b g (off + n))
  | .pp cs off => some (.pp cs (off + n))
  | _ => none

/-- The element at an index of a slice (elements of n cells), or of an array behind a pointer. -/
def indexP (n : Nat) (arr : Option Nat) (x : V) (i : Int) : Option V :=
  if i < 0 then none else
  match arr, x with
  | some m, p => if i.toNat < m then addOff p (i.toNat * n) else none
  | none, .sl b g off len => if i.toNat < len then some (.ptr b g (off + i.toNat * n)) else none
  | none, .list len cs => if i.toNat < len ∧ 0 < n ∧ cs.length = len * n then some (.pp cs (i.toNat * n)) else none
  | _, _ => none

def keyEq : V → V → Option Bool
  | .bool a, .bool b => some (a == b)
  | .int k a, .int k' b => if k = k' then some (a == b) else none
  | .str a, .str b => some (a == b)
  | _, _ => none

def findK (k : V) : List (V × V) → Option (Option V)
  | [] => some none
  | (q, v) :: r => match keyEq k q with
    | some true => some (some v)
    | some false => findK k r
    | none => none

def putK (k v : V) : List (V × V) → Option (List (V × V))
  | [] => some [(k, v)]
  | (q, u) :: r => match keyEq k q with
    | some true => some ((k, v) :: r)
    | some false => (putK k v r).map fun r' => (q, u) :: r'
    | none => none

def isKey : V → Bool
  | .bool _ | .int _ _ | .str _ => true
  | _ => false

def lowB : Option V → Option Nat
  | none => some 0
  | some (.int _ l) => if 0 ≤ l then some l.toNat else none
  | _ => none
def highB (len : Nat) : Option V → Option Nat
  | none => some len
  | some (.int _ h) => if 0 ≤ h then some h.toNat else none
  | _ => none

/-- s[lo:hi] of a text. -/
def sliceS (s : ByteArray) (lo hi mx : Option V) : Option V :=
  match mx, lowB lo, highB s.size hi with
  | none, some l, some h => if l ≤ h ∧ h ≤ s.size then some (.str (s.extract l h)) else none
  | _, _, _ => none

def lenS : V → Option Nat
  | .sl _ _ _ len => some len
  | .list len _ => some len
  | .nils => some 0
  | _ => none

def subS (n l h : Nat) : V → Option V
  | .sl b g off _ => some (.sl b g (off + l * n) (h - l))
  | .list len cs => if cs.length = len * n then some (.list (h - l) ((cs.drop (l * n)).take ((h - l) * n))) else none
  | .nils => some .nils
  | _ => none

/-- x[lo:hi] of a slice. -/
def sliceV (n : Nat) (x : V) (lo hi mx : Option V) : Option V :=
  match lenS x with
  | none => none
  | some len =>
    match mx with
    | some (.int _ m) => if m = 0 ∧ lowB lo = some 0 ∧ highB len hi = some 0 ∧ hi.isSome = true then some .nils else none
    | some _ => none
    | none =>
      match lowB lo, highB len hi with
      | some l, some h => if l ≤ h ∧ h ≤ len then subS n l h x else none
      | _, _ => none

/-- append(s, x...), elements of n cells and by bytes. -/
def appendV (H : Heap) (n bytes : Nat) (s x : V) : Option OR :=
  match sliceCells H n x with
  | none => none
  | some (m, new) =>
    match s with
    | .nils => if m = 0 then some (.val .nils H) else
        if m * bytes ≤ 2 ^ 40 ∧ m ≤ 2 ^ 40 then newBlk H (.cells false 1 n new) (.sl H.length 1 0 m) else none
    | .sl b g 0 len =>
      (match H[b]? with
        | some .nilb => if g = 0 ∧ len = 0 then (if m = 0 then some (.val s H) else
            if m * bytes ≤ 2 ^ 40 ∧ m ≤ 2 ^ 40 then some (.val (.sl b 1 0 m) (H.set b (.cells false 1 n new))) else none) else none
        | some (.cells false g' es cs) => if g = g' ∧ es = n ∧ len * n = cs.length then (if m = 0 then some (.val s H) else
            if (len + m) * bytes ≤ 2 ^ 40 ∧ len + m ≤ 2 ^ 40 then some (.val (.sl b (g + 1) 0 (len + m)) (H.set b (.cells false (g + 1) n (cs ++ new)))) else none) else none
        | _ => none)
    | _ => none

def lenV (E : Env) (H : Heap) (t : TypeId) (x : V) : Option Nat :=
  match E.arr t with
  | some (n, _) => some n
  | none => match E.slc t with
    | some _ => (match x with
      | .nils => some 0
      | .sl _ _ _ len => some len
      | .list len _ => some len
      | _ => none)
    | none => match E.mapk t with
      | some _ => (match x with
        | .nilm => some 0
        | .map b => (match H[b]? with
          | some (.map es) => some es.length
          | _ => none)
        | _ => none)
      | none => if E.kind t = some .str then (match x with | .str s => some s.size | _ => none) else none

/-- A key of a type. -/
def keyFits (E : Env) (kt : TypeId) (k : V) : Bool :=
  match E.kind kt, k with
  | some (.int q), .int q' _ => q = q'
  | some .str, .str _ => true
  | some .bool, .bool _ => true
  | _, _ => false

abbrev CallH := Pn → V → List V → Heap → Option (CR × Heap × Pn)

/-- min, max: from the left. -/
def foldInt (f : Int → Int → Bool) (k : IntKind) : Int → List V → Option V
  | a, [] => some (.int k a)
  | a, .int k' b :: r => if k = k' then foldInt f k (if f b a then b else a) r else none
  | _, _ => none
def minV : List V → Option V
  | .int k a :: r => foldInt (fun b a => b < a) k a r
  | _ => none
def maxV : List V → Option V
  | .int k a :: r => foldInt (fun b a => b > a) k a r
  | _ => none

/-- A built-in function. -/
def evBuiltin (E : Env) (s : St) (b : Builtin) (ts : List TypeId) (args : List V) : Option OR :=
  match b, args with
  | .len, [x] => (match ts with
    | [t] => (lenV E s.H t x).map fun n => .val (.int .i64 n) s.H
    | _ => none)
  | .append, [x, y] =>
    (match ts with
      | t :: _ => (match E.slc t with
        | some e => (match E.size e, E.bytes e, E.zero e with
          | some n, some by_, some z => if 0 < n ∧ z.length = n ∧ ts = [t, t] then appendV s.H n by_ x y else none
          | _, _, _ => none)
        | none => none)
      | [] => none)
  | .recover, [] => (match s.pn with
    | .dpan v false => some (.rcv v (.dpan v true) s.H)
    | .dpan v true => some (.rcv .nili (.dpan v true) s.H)
    | .dret => some (.rcv .nili .dret s.H)
    | .normal => none)
  | _, _ => none

/-- One operation. -/
def evOp (E : Env) (call : CallH) (s : St) (o : Oper) : Option OR :=
  let e := evo s.tm
  match o.op with
  | .move x => (e x).map (.val · s.H)
  | .assign x => (match e x with
    | some .nils => some (.val (.sl s.H.length 0 0 0) (s.H ++ [.nilb]))
    | some v => some (.val v s.H)
    | none => none)
  | .pick c a b => (match e c, e a, e b with
    | some (.bool c), some a, some b => some (.val (if c then a else b) s.H)
    | _, _, _ => none)
  | .alloc t => (match E.zero t with
    | some z => if z.all V.one then let p := lift z s.H; newBlk p.2 (.cells false 0 0 p.1) (.ptr p.2.length 0 0) else none
    | none => none)
  | .box _ x => (match e x with
    | some v => if v.may then let p := lift v.cells s.H; newBlk p.2 (.cells false 0 0 p.1) (.ptr p.2.length 0 0) else none
    | none => none)
  | .build t ps => (match evos s.tm (ps.toList.map (·.2)) with
    | some vs => (buildV E t ((ps.toList.map (·.1)).zip vs)).map (.val · s.H)
    | none => none)
  | .buildSlice t len ps => (match evos s.tm (ps.toList.map (·.2)), E.slc t with
    | some vs, some el => (match E.size el, E.zero el with
      | some n, some z => if z.length = n ∧ len * n ≤ 2 ^ 24 ∧ z.all V.one = true then (match fillCells (fun i => some (i * n, n)) (zeros len z) ((ps.toList.map (·.1)).zip vs) with
        | some cs => newBlk s.H (.cells false 0 n cs) (.sl s.H.length 0 0 len)
        | none => none) else none
      | _, _ => none)
    | _, _ => none)
  | .load t a => (match e a with
    | some p => (loadV E s.H t p).map (.val · s.H)
    | none => none)
  | .store t a x => (match e a, e x, E.size t with
    | some p, some v, some n => let q := lift v.cells s.H
      if v.may = true ∧ v.cells.length = n then (writeAt q.2 p q.1).map .skip else none
    | _, _, _ => none)
  | .nilCheck x => (match e x with
    | some (.ptr b g off) => some (.val (.ptr b g off) s.H)
    | some (.pp cs off) => some (.val (.pp cs off) s.H)
    | some (.fn (.func f) a c) => some (.val (.fn (.func f) a c) s.H)
    | _ => none)
  | .binOp op t x y _ => (match e x, e y with
    | some .nili, some .nili => if E.iface t = some true ∧ (Region.isConst x = true ∨ Region.isConst y = true) then (match op with
        | .eql => some (.val (.bool true) s.H)
        | .neq => some (.val (.bool false) s.H)
        | _ => none) else none
    | some a, some b => (binop E op t a b).map (.val · s.H)
    | _, _ => none)
  | .unOp op _ x => (match e x with
    | some a => (unop op a).map (.val · s.H)
    | none => none)
  | .convert a b x => (match e x with
    | some v => (conv E a b v).map (.val · s.H)
    | none => none)
  | .makeInterface t x => (match e x, E.iface t with
    | some .undef, _ => none
    | some v, some false => some (.val (.ifc t v) s.H)
    | _, _ => none)
  | .makeFunc f a c => (match evos s.tm a.toList, evos s.tm c.toList with
    | some a, some c => (match f with | .func f => some (.val (.fn (.func f) a c) s.H) | _ => none)
    | _, _ => none)
  | .makeMap _ none => newBlk s.H (.map []) (.map s.H.length)
  | .makeSlice t l c => (match e l, e c, E.slc t with
    | some (.int .i64 l), some (.int .i64 c), some el => (match E.size el, E.zero el, E.bytes el with
      | some n, some z, some by_ => if 0 ≤ l ∧ l ≤ c ∧ c ≤ 2 ^ 40 ∧ (by_ : Int) * c ≤ 2 ^ 40 ∧ z.length = n ∧ 0 < n ∧ z.all V.one = true then newBlk s.H (.cells false 0 n (zeros l.toNat z)) (.sl s.H.length 0 0 l.toNat) else none
      | _, _, _ => none)
    | _, _, _ => none)
  | .slice t x lo hi mx =>
    (match e x, optV s.tm lo, optV s.tm hi, optV s.tm mx with
    | some (.str a), some l, some h, some m => if E.kind t = some .str then (sliceS a l h m).map (.val · s.H) else none
    | some v, some l, some h, some m => (match E.slc t with
      | some el => (match E.size el with
        | some n => (sliceV n v l h m).map (.val · s.H)
        | none => none)
      | none => none)
    | _, _, _, _ => none)
  | .fieldAddr t x f => (match e x, E.fld t f with
    | some p, some (off, ft) => (match E.size ft with
      | some n => if 0 < n then (addOff p off).map (.val · s.H) else none
      | none => none)
    | _, _ => none)
  | .field t x f => (match e x, E.fld t f with
    | some (.agg cs), some (off, ft) => (part E ft cs off).map (.val · s.H)
    | _, _ => none)
  | .indexAddr t x i => (match e x, e i with
    | some v, some (.int _ i) => (match E.arr t, E.slc t with
      | some (m, el), none => (match E.size el with
        | some n => (indexP n (some m) v i).map (.val · s.H)
        | none => none)
      | none, some el => (match E.size el with
        | some n => (indexP n none v i).map (.val · s.H)
        | none => none)
      | _, _ => none)
    | _, _ => none)
  | .index t x i => (match e x, e i with
    | some (.agg cs), some (.int _ i) => (match E.arr t with
      | some (m, el) => (match E.size el with
        | some n => if 0 ≤ i ∧ i < m then (part E el cs (i.toNat * n)).map (.val · s.H) else none
        | none => none)
      | none => none)
    | some (.str a), some (.int _ i) => if E.kind t = some .str ∧ 0 ≤ i then (match a[i.toNat]? with
        | some b => some (.val (.int .u8 b.toNat) s.H)
        | none => none) else none
    | _, _ => none)
  | .lookup t x k ok => (match e x, e k, E.mapk t with
    | some m, some k, some (kt, el) => if keyFits E kt k then
      (match (match m with | .nilm => some [] | .map b => (match s.H[b]? with | some (.map es) => some es | _ => none) | _ => none) with
      | some es => (match findK k es with
        | some (some v) => some (.val (if ok then .tup [v, .bool true] else v) s.H)
        | some none => (match E.zero el, E.agg el with
          | some z, some a => (match (if a then some (V.agg z) else z[0]?) with
            | some v => some (.val (if ok then .tup [v, .bool false] else v) s.H)
            | none => none)
          | _, _ => none)
        | none => none)
      | none => none) else none
    | _, _, _ => none)
  | .mapUpdate t m k x | .insert t m k x => (match e m, e k, e x, E.mapk t with
    | some (.map b), some k, some v, some (kt, _) => (match keyFits E kt k, s.H[b]? with
      | true, some (.map es) => (putK k v es).map fun es => .skip (s.H.set b (.map es))
      | _, _ => none)
    | _, _, _, _ => none)
  | .range t x => (match e x with
    | some (.str a) => if E.kind t = some .str then newBlk s.H (.sit a 0) (.itr s.H.length) else none
    | _ => none)
  | .next it true => (match e it with
    | some (.itr b) => (match s.H[b]? with
      | some (.sit a pos) => if pos < a.size then
          some (.val (.tup [.bool true, .int .i64 pos, .int .i32 (Utf8.decode a pos).1]) (s.H.set b (.sit a (pos + (Utf8.decode a pos).2))))
        else some (.val (.tup [.bool false]) s.H)
      | _ => none)
    | _ => none)
  | .typeAssert x _ t ok => (match e x, E.iface t with
    | some (.ifc u v), some false => if u = t then some (.val (if ok then .tup [v, .bool true] else v) s.H) else
      if ok then (match E.zero t, E.agg t with
        | some z, some a => (match (if a then some (V.agg z) else z[0]?) with
          | some v => some (.val (.tup [v, .bool false]) s.H)
          | none => none)
        | _, _ => none) else none
    | some .nili, some false => if ok then (match E.zero t, E.agg t with
        | some z, some a => (match (if a then some (V.agg z) else z[0]?) with
          | some v => some (.val (.tup [v, .bool false]) s.H)
          | none => none)
        | _, _ => none) else none
    | _, _ => none)
  | .extract t i => (match e t with
    | some (.tup vs) => (vs[i]?).map (.val · s.H)
    | _ => none)
  | .call c => (match evos s.tm c.args.toList with
    | none => none
    | some args => (match c.callee with
      | .builtin .min => (minV args).map (.val · s.H)
      | .builtin .max => (maxV args).map (.val · s.H)
      | .builtin b => evBuiltin E s b c.argTypes.toList args
      | .value f => (match e f with
        | some fv => (match call .normal fv args s.H with
          | some (.ret v, H, _) => some (.val v H)
          | some (.pan v, H, _) => some (.pan v H)
          | none => none)
        | none => none)
      | .invoke _ _ => none))
  | .defer c => (match evos s.tm c.args.toList, c.callee with
    | some args, .value f => (match e f with
      | some (.fn (.func f) a c) => some (.dfr (.call (.fn (.func f) a c) args) s.H)
      | _ => none)
    | _, _ => none)
  | .panic x => (match e x with
    | some (.ifc t v) => some (.pan (.ifc t v) s.H)
    | _ => none)
  | _ => none

/-- Blocks that an operation reads, and writes. -/
def accOf (s : St) (o : Oper) : Option (List Nat × List Nat) :=
  let h : Operand → List Nat := fun x => match evo s.tm x with
    | some (.ptr b _ _) | some (.sl b _ _ _) | some (.map b) | some (.itr b) => [b]
    | _ => []
  match o.op with
  | .load _ a => some (h a, [])
  | .lookup _ m _ _ => some (h m, [])
  | .store _ a _ => some ([], h a)
  | .mapUpdate _ m _ _ | .insert _ m _ _ => some ([], h m)
  | .next i _ => some ([], h i)
  | .call c => (match c.callee with
    | .builtin .append => some ((c.args.toList.drop 1).flatMap h, (c.args.toList.take 1).flatMap h)
    | .builtin .len => some (c.args.toList.flatMap h, [])
    | .builtin _ => some ([], [])
    | .value f => (match evo s.tm f, evos s.tm c.args.toList with
      | some fv, some args => (reach s.H (fv.refs ++ refsL args)).map fun l => ([], l)
      | _, _ => none)
    | .invoke _ _ => none)
  | _ => some ([], [])

structure Rec where
  at_ : Nat
  bad : Bool
  rd : List Nat
  wr : List Nat
  deriving Inhabited

def recOf (s : St) (o : Oper) (i : Nat) : Rec := match accOf s o with
  | some p => ⟨i, false, p.1, p.2⟩
  | none => ⟨i, true, [], []⟩

def disj (a b : List Nat) : Bool := a.all fun x => !b.contains x

def recOk (ops : Array Oper) (a b : Rec) : Bool :=
  (disj a.wr b.wr && disj a.wr b.rd && disj a.rd b.wr) || ((Region.before ops).getD (max a.at_ b.at_) 0).testBit (min a.at_ b.at_)

def recsOk (ops : Array Oper) : List Rec → Bool
  | [] => true
  | a :: r => !a.bad && r.all (recOk ops a) && recsOk ops r

def want (ops : Array Oper) (tm : List V) (o : Oper) : Option Bool :=
  match o.guard with
  | none => some true
  | some (j, b) => match (ops[j]?).bind (·.dst) with
    | none => none
    | some d => match tm.getD d .undef with
      | .bool c => some (c == b)
      | .tup [] => some false
      | _ => none

def put (tm : List V) (dst : Option Tmp) (v : V) : List V :=
  match dst with
  | some d => tm.set d v
  | none => tm

def evOps (E : Env) (call : CallH) (ops : Array Oper) (dr nd : Bool) : List Oper → Nat → St → List Rec → Option (X × St × List Rec)
  | [], _, s, rs => some (.nrm, s, rs)
  | o :: r, i, s, rs =>
    match want ops s.tm o with
    | none => none
    | some false => evOps E call ops dr nd r (i + 1) { s with tm := put s.tm o.dst (.tup []) } rs
    | some true =>
      match evOp E call s o with
      | none => none
      | some (.val v H) => evOps E call ops dr nd r (i + 1) { s with tm := put s.tm o.dst v, H } (if dr then recOf s o i :: rs else rs)
      | some (.skip H) => evOps E call ops dr nd r (i + 1) { s with tm := put s.tm o.dst (.tup []), H } (if dr then recOf s o i :: rs else rs)
      | some (.dfr d H) => if dr || !nd then none else evOps E call ops dr nd r (i + 1) { s with tm := put s.tm o.dst (.tup []), H, df := d :: s.df } rs
      | some (.rcv v pn H) => if dr then none else evOps E call ops dr nd r (i + 1) { s with tm := put s.tm o.dst v, H, pn } rs
      | some (.pan v H) => if dr then none else some (.pan v, { s with H }, rs)

/-! ### what regions must be like whose order is drawn -/
def tmpsOf (xs : List Operand) : List Tmp := xs.filterMap fun | .tmp t => some t | _ => none
/-- What an operation looks at, or writes. -/
def namesOf (ops : Array Oper) (o : Oper) : List Tmp := o.dst.toList ++ (tmpsOf o.op.operands.toList ++ (match o.guard with | some (j, _) => ((ops[j]?).bind (·.dst)).toList | none => []))
def regOk (ops : Array Oper) : Bool :=
  let bf := Region.before ops
  ops.toList.zipIdx.all fun p =>
    p.1.after.toList.all (fun e => !Region.binds .any e || e.on < p.2) &&
    ops.toList.zipIdx.all fun q => p.2 == q.2 || !(p.1.dst.any fun d => (namesOf ops q.1).contains d) || (bf.getD (max p.2 q.2) 0).testBit (min p.2 q.2)
def codeRegs : Code → Bool
  | .region _ ops d => !d || regOk ops
  | .seq a b => codeRegs a && codeRegs b
  | .cond _ a b => codeRegs a && codeRegs b
  | .block _ b | .loop b | .scope b => codeRegs b
  | .rangeFunc _ _ a b => codeRegs a && codeRegs b
  | _ => true

def evRegion (E : Env) (call : CallH) (ops : Array Oper) (dr nd : Bool) (s : St) : Option (X × St) :=
  match evOps E call ops dr nd ops.toList 0 s [] with
  | some (x, s', rs) => if !dr || recsOk ops rs then some (x, s') else none
  | none => none

def evLoop (f : St → Option (X × St)) (h0 : Nat) : Nat → St → Option (X × St)
  | 0, _ => none
  | n + 1, s => match f s with
    | some (.nrm, s') => evLoop f h0 n (trunc h0 s')
    | r => r

/-- Behind a range-over-function's call. -/
def endLoopX (l : Nat) (s : St) (H : Heap) : Option (X × St) :=
  match H[l]? with
  | some (.loop st pend fn tm ps a b db) =>
    if st = .busy then none else
    let s' := { s with H := H.set l (.loop .exhausted pend fn tm ps a b db) }
    (match pend with
      | none => some (.nrm, s')
      | some .ret => some (.ret, s')
      | some (.exit id) => some (.exit id, s')
      | _ => none)
  | _ => none

def evCode (E : Env) (call : CallH) (N : Nat) (fid : FuncId) (rd : Option Nat) : Code → St → Option (X × St)
  | .skip, s => some (.nrm, s)
  | .label _, s => some (.nrm, s)
  | .region _ ops d, s => evRegion E call ops d rd.isNone s
  | .seq a b, s => match evCode E call N fid rd a s with
    | some (.nrm, s') => evCode E call N fid rd b s'
    | r => r
  | .cond c a b, s => match evo s.tm c with
    | some (.bool true) => evCode E call N fid rd a s
    | some (.bool false) => evCode E call N fid rd b s
    | _ => none
  | .block id b, s => match evCode E call N fid rd b s with
    | some (.exit i, s') => some (if i = id then .nrm else .exit i, s')
    | r => r
  | .loop b, s => evLoop (evCode E call N fid rd b) s.H.length N s
  | .exit id, s => some (.exit id, s)
  | .ret, s => some (.ret, s)
  | .rangeFunc f ps asg body, s =>
    match evo s.tm f, rd with
    | some fv, none =>
      (match call .normal fv [.yld (s.H.length + 1)] (s.H ++ [.defs, .loop .ready none fid s.tm ps asg body s.H.length]) with
      | some (.ret _, H, _) => endLoopX (s.H.length + 1) { s with df := .coll s.H.length :: s.df } H
      | _ => none)
    | some fv, some l0 =>
      (match s.H[l0]? with
      | some (.loop _ _ _ _ _ _ _ db) =>
        (match call .normal fv [.yld s.H.length] (s.H ++ [.loop .ready none fid s.tm ps asg body db]) with
        | some (.ret _, H, _) => endLoopX s.H.length s H
        | _ => none)
      | _ => none)
    | none, _ => none
  | .scope b, s => evCode E call N fid rd b s
  | .goto _, _ => none
  | .refuse _, _ => none

/-- How a frame is being left. -/
inductive Md where
  | ret
  | pan (v : V)
  deriving Inhabited

def mdPn : Md → Pn
  | .ret => .dret
  | .pan v => .dpan v false

/-- The deferred calls. -/
def unw (call : CallH) : List Df → Md → Heap → Option (Md × Heap)
  | [], m, H => some (m, H)
  | .coll b :: r, m, H => match H[b]? with
    | some .defs => unw call r m (H.set b .gone)
    | _ => none
  | .call f args :: r, m, H => match call (mdPn m) f args H with
    | some (.ret _, H', pn) =>
      (match pn, m with
        | .dpan _ true, .pan _ => unw call r .ret H'
        | .dpan u false, .pan _ => unw call r (.pan u) H'
        | .dret, .ret => unw call r .ret H'
        | _, _ => none)
    | _ => none

def resVs (E : Env) (H : Heap) (tm : List V) : List ResultVar → Option (List V)
  | [] => some []
  | .tmp t :: r => (resVs E H tm r).map fun vs => tm.getD t .undef :: vs
  | .cell a t :: r => match loadV E H t (tm.getD a .undef), resVs E H tm r with
    | some v, some vs => some (v :: vs)
    | _, _ => none

def oneOf : List V → V
  | [v] => v
  | vs => .tup vs

/-- A function's body, run, with its deferred calls. -/
def evFn (E : Env) (call : CallH) (N : Nat) (pn : Pn) (f : FuncId) (args : List V) (H : Heap) : Option (CR × Heap × Pn) :=
  match E.fn f with
  | none => none
  | some fn => match fn.body with
    | none => none
    | some c =>
      match evCode E call N f none c { tm := args ++ List.replicate (fn.ntmps - args.length) (.tup []), df := [], H, pn } with
      | none => none
      | some (x, s) =>
        match (match x with | .nrm | .ret => some Md.ret | .pan v => some (Md.pan v) | .exit _ => none) with
        | none => none
        | some m =>
          match unw call s.df m s.H with
          | some (.ret, H') => (match resVs E H' s.tm fn.results.toList with
            | some vs => some (.ret (oneOf vs), leave H.length (oneOf vs) s.pn H', s.pn)
            | none => none)
          | some (.pan v, H') => some (.pan v, H', s.pn)
          | none => none

/-- One round of a range-over-function loop. -/
def evRound (E : Env) (call : CallH) (N : Nat) (l : Nat) (args : List V) (H : Heap) : Option (CR × Heap × Pn) :=
  match H[l]? with
  | some (.loop .ready pend fid tm ps asg body db) =>
    if args.length = ps.size then
      match evCode E call N fid (some l) asg { tm := (ps.toList.zip args).foldl (fun t p => t.set p.1 p.2) tm, df := [], H, pn := .normal } with
      | some (.nrm, s1) =>
        (match s1.H[l]?, s1.df with
        | some (.loop .ready pend' fid' tm' ps' asg' body' db'), [] =>
          (match evCode E call N fid (some l) body { s1 with H := s1.H.set l (.loop .busy pend' fid' tm' ps' asg' body' db') } with
          | some (x, s2) =>
            (match s2.H[l]?, s2.df with
            | some (.loop _ _ f2 t2 p2 a2 b2 d2), [] =>
              (match x with
              | .nrm => let H2 := s2.H.set l (.loop .ready none f2 t2 p2 a2 b2 d2); some (.ret (.bool true), leave H.length (.bool true) .normal H2, .normal)
              | .ret => some (.ret (.bool false), s2.H.set l (.loop .done (some .ret) f2 t2 p2 a2 b2 d2), .normal)
              | .exit id => some (.ret (.bool false), s2.H.set l (.loop .done (some (.exit id)) f2 t2 p2 a2 b2 d2), .normal)
              | .pan _ => none)
            | _, _ => none)
          | none => none)
        | _, _ => none)
      | _ => none
    else none
  | _ => none

def evCall (E : Env) (N : Nat) : Nat → CallH
  | 0 => fun _ _ _ _ => none
  | n + 1 => fun pn fv args H =>
    match fv with
    | .fn (.func f) first cap =>
      let full := first ++ args ++ cap
      (match (match pn with | .normal => E.spec f (full.map (frz H 0 false depth)) | _ => none) with
      | some r => if r.flat depth then some (.ret r, H, .normal) else (reach H (refsL full)).map fun l => (.ret r, shutAll H l, .normal)
      | none => evFn E (evCall E N n) N pn f full H)
    | .yld l => (match pn with | .normal => evRound E (evCall E N n) N l args H | _ => none)
    | _ => none
end Go.Ev
