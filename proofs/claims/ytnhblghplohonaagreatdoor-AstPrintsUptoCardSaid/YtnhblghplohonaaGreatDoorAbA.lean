/- The abstract machine: its values, its heap, its operations. (An interpreter for the model's own Code, without tape and worlds. Nothing is proved here.) -/
import Derived.Calls
import Derived.LoopN
set_option linter.unusedSimpArgs false
set_option linter.unusedVariables false
namespace Go.Proofs.YtnhblghplohonaaGreatDoor.Ab
open Go

/-- An answer, or none. -/
inductive Out (α : Type) where
  | ok (a : α)
  | no
  deriving Inhabited
def Out.bind {α β : Type} : Out α → (α → Out β) → Out β
  | .ok a, f => f a
  | .no, _ => .no

/-- Values. 'isl': a list whose cells nobody writes (its elements); 'iptr': an address of cells that nobody writes (these, and those behind them); 'ref', 'sl', 'mp': an address, a list, a map in the abstract heap. -/
inductive AV where
  | int (k : IntKind) (n : Int)
  | bool (b : Bool)
  | str (l : List UInt8)
  | v (x : Value)
  | ref (b off : Nat)
  | sl (b off len sz : Nat)
  | isl (sz : Nat) (xs : List AV)
  | iptr (cs : List AV)
  | agg (cs : List AV)
  | tup (xs : List AV)
  | fn (f : Fn) (first cap : List AV)
  | ifc (t : TypeId) (x : AV)
  | mp (b : Nat)
  deriving Inhabited

def AV.cells : AV → List AV
  | .agg cs => cs
  | x => [x]

/-- No list of results. -/
def AV.one : AV → Bool
  | .tup _ => false
  | _ => true

def nilSlice : AV := .v (.slice none 0 0)
def undefA : AV := .tup []

/-- Values that are no addresses but nil, and no functions. -/
def plainV : Value → Bool
  | .float .. | .complex .. | .pointer none | .slice none 0 0 | .map none | .nilFunc | .nilIface => true
  | _ => false

/-- One value of the model's as one of ours: no part of it an address. -/
def ofV1 : Value → Option AV
  | .int k n => some (.int k n)
  | .bool b => some (.bool b)
  | .string s => some (.str s.data.toList)
  | x => if plainV x then some (.v x) else none
def ofVs : List Value → Option (List AV)
  | [] => some []
  | x :: xs => match ofV1 x, ofVs xs with
    | some a, some l => some (a :: l)
    | _, _ => none
def ofV : Value → Option AV
  | .agg cs => (ofVs cs.toList).map .agg
  | .tuple cs => (ofVs cs.toList).map .tup
  | .func (.func f) a b => if a.size = 0 ∧ b.size = 0 then some (.fn (.func f) [] []) else none
  | x => ofV1 x

def toV1 : AV → Option Value
  | .int k n => some (.int k n)
  | .bool b => some (.bool b)
  | .str l => some (.string ⟨⟨l⟩⟩)
  | .v x => some x
  | _ => none
def toVs : List AV → Option (List Value)
  | [] => some []
  | x :: xs => match toV1 x, toVs xs with
    | some a, some l => some (a :: l)
    | _, _ => none
def toV : AV → Option Value
  | .agg cs => (toVs cs).map fun l => .agg ⟨l⟩
  | x => toV1 x

/-- A run of the model's that looks at the program alone. -/
def peel {α : Type} (P : Program) : Sem α → Option α
  | .pure a => some a
  | .program k => peel P (k P)
  | _ => none

/- ### What is told of types -/

/-- Of a struct's field: its place, how many cells, is it of several cells. -/
abbrev FI := Nat × Nat × Bool
inductive TK where
  | int (k : IntKind)
  | string
  | slice (e : Nat)
  | array (n e : Nat)
  | struct (fs : List FI)
  | pointer (e : Nat)
  | map (key e : Nat)
  | iface
  | other
/-- A type: what it is, is it of several cells, how many cells, how many bytes, its zero value. -/
structure TI where
  k : TK
  agg : Bool
  sz : Nat
  bytes : Nat
  zero : Option AV
def TK.sliceE : TK → Option Nat
  | .slice e => some e
  | _ => none
def TK.arrayE : TK → Option (Nat × Nat)
  | .array n e => some (n, e)
  | _ => none
def TK.structE : TK → Option (List FI)
  | .struct fs => some fs
  | _ => none
def TK.mapE : TK → Option (Nat × Nat)
  | .map k e => some (k, e)
  | _ => none
def TK.isStr : TK → Bool
  | .string => true
  | _ => false
def TK.isIface : TK → Bool
  | .iface => true
  | _ => false
def TK.isByte : TK → Bool
  | .int .u8 => true
  | _ => false
def isAggD : TypeDesc → Bool
  | .struct _ | .array _ _ => true
  | _ => false
def fiOf (P : Program) (f : Field) : Option FI := match P.underlying f.type, P.info? f.type with
  | some d, some i => some (f.offset, i.size, isAggD d)
  | _, _ => none
def fisOf (P : Program) : List Field → Option (List FI)
  | [] => some []
  | f :: r => match fiOf P f, fisOf P r with
    | some a, some l => some (a :: l)
    | _, _ => none
def tkOf (P : Program) : TypeDesc → Option TK
  | .int k => some (.int k)
  | .string => some .string
  | .slice e => some (.slice e)
  | .array n e => some (.array n e)
  | .struct fs => (fisOf P fs.toList).map .struct
  | .pointer e => some (.pointer e)
  | .map k e => some (.map k e)
  | .interface _ => some .iface
  | _ => some .other
/-- What the program's tables tell of a type. -/
def tiOf (P : Program) (t : TypeId) : Option TI := match P.underlying t, P.info? t with
  | some d, some i => match tkOf P d with
    | some k => some ⟨k, isAggD d, i.size, i.bytes, i.zero.bind ofV⟩
    | none => none
  | _, _ => none

/- ### The heap -/

/-- A row of cells of an element type; or a map. -/
inductive Blk where
  | cells (elem : TypeId) (cs : List AV)
  | map (kvs : List (AV × AV))
  deriving Inhabited

/-- A tree by the binary digits of a number. -/
inductive PT (α : Type) where
  | nil
  | node (l : PT α) (v : Option α) (r : PT α)
  deriving Inhabited
def PT.get {α : Type} : PT α → Nat → Option α
  | .nil, _ => none
  | .node l v r, n => if n = 0 then v else if n % 2 = 1 then l.get (n / 2) else r.get (n / 2 - 1)
def PT.one {α : Type} : Nat → Nat → Option α → PT α
  | 0, _, v => .node .nil v .nil
  | f + 1, n, v => if n = 0 then .node .nil v .nil else if n % 2 = 1 then .node (PT.one f (n / 2) v) none .nil else .node .nil none (PT.one f (n / 2 - 1) v)
def PT.set {α : Type} : PT α → Nat → Option α → PT α
  | .nil, n, v => PT.one n n v
  | .node l u r, n, v => if n = 0 then .node l v r else if n % 2 = 1 then .node (l.set (n / 2) v) u r else .node l u (r.set (n / 2 - 1) v)

/-- The heap: 'n': the next block; 'low': no block below it was written (or lost) since it was last set. -/
structure Heap where
  n : Nat
  low : Nat
  t : PT Blk
  deriving Inhabited
def Heap.empty : Heap := ⟨0, 0, .nil⟩
def Heap.get (H : Heap) (b : Nat) : Option Blk := H.t.get b
def Heap.set (H : Heap) (b : Nat) (x : Blk) : Heap := { H with low := min H.low b, t := H.t.set b (some x) }
def Heap.kill (H : Heap) (b : Nat) : Heap := { H with low := min H.low b, t := H.t.set b none }
def Heap.alloc (H : Heap) (x : Blk) : Heap := { H with n := H.n + 1, t := H.t.set H.n (some x) }
def Heap.cells (H : Heap) (b : Nat) : Option (List AV) := match H.get b with | some (.cells _ cs) => some cs | _ => none

/- ### Frames -/

/-- What a slot holds: a value, or the address of a local block of cells. -/
inductive EV where
  | val (a : AV)
  | loc (i off : Nat)
  | dead
  deriving Inhabited
abbrev Env := List (Nat × EV)
def Env.find : Env → Nat → Option EV
  | [], _ => none
  | (i, x) :: r, j => if i == j then some x else Env.find r j
def Env.val (E : Env) (j : Nat) : Option AV := match E.find j with | some (.val a) => some a | _ => none
def Env.put (E : Env) : Option Nat → EV → Env
  | none, _ => E
  | some d, x => (d, x) :: E
/-- The local blocks: a number, its element type, its cells. -/
abbrev Locs := List (Nat × List AV)
def Locs.find : Locs → Nat → Option (List AV)
  | [], _ => none
  | (i, x) :: r, j => if i == j then some x else Locs.find r j
def Locs.put : Locs → Nat → List AV → Locs
  | [], j, y => [(j, y)]
  | (i, x) :: r, j, y => if i == j then (j, y) :: r else (i, x) :: Locs.put r j y

/-- What the machine is told beside the program: which 'box' and 'alloc' make a local block; which list literals nobody writes; what is live at a loop's head, where ways meet; whose results nobody writes any more; what the package's variables hold; functions that are answered otherwise. -/
structure Ctx where
  P : Program
  T : Nat → Option TI
  F : Nat → Option Func
  loc : Nat → Nat → Bool
  frz : Nat → Nat → Bool
  live : Nat → Nat → List Nat
  join : Nat → Nat → Option (List Nat)
  fz : Nat → Bool
  glob : Nat → Option (List AV)
  prim : Nat → Option (List AV → Heap → Out (AV × Heap))

def Env.eval (X : Ctx) (E : Env) : Operand → Option AV
  | .tmp t => E.val t
  | .const v => ofV v
  | .global g => (X.glob g).map .iptr
  | .func f => some (.fn (.func f) [] [])
def Env.evals (X : Ctx) (E : Env) : List Operand → Option (List AV)
  | [] => some []
  | o :: r => match E.eval X o, Env.evals X E r with
    | some a, some l => some (a :: l)
    | _, _ => none

/- ### Operations on values: what they take of types is resolved already -/
namespace M
def ofOpt {α : Type} : Option α → Out α
  | some a => .ok a
  | none => .no
def isB : AV → Out Bool
  | .bool b => .ok b
  | _ => .no
def pick (c a b : AV) : Out AV := match c with
  | .bool true => .ok a
  | .bool false => .ok b
  | _ => .no

/-- The cells of a new variable. -/
def cellsT (x : AV) : Out (List AV) := if x.one then .ok x.cells else .no
/-- Cells of a list from 'off' on as a variable's value. -/
def ldc (agg : Bool) (sz : Nat) (cs : List AV) (off : Nat) : Out AV :=
  if agg then (if off + sz ≤ cs.length then .ok (.agg ((cs.drop off).take sz)) else .no)
  else match cs[off]? with
    | some c => .ok c
    | none => .no
/-- 'new' laid over 'cs' from 'off' on. -/
def over (cs : List AV) (off : Nat) (new : List AV) : List AV := cs.take off ++ new ++ cs.drop (off + new.length)
def stc (sz : Nat) (cs : List AV) (off : Nat) (x : AV) : Out (List AV) :=
  if x.one = true ∧ x.cells.length = sz ∧ off + sz ≤ cs.length then .ok (over cs off x.cells) else .no

def load (agg : Bool) (sz : Nat) (p : AV) (H : Heap) : Out AV := match p with
  | .ref b off => match H.cells b with
    | some cs => ldc agg sz cs off
    | none => .no
  | .iptr cs => ldc agg sz cs 0
  | _ => .no
def store (sz : Nat) (p x : AV) (H : Heap) : Out Heap := match p with
  | .ref b off => match H.get b with
    | some (.cells e cs) => (stc sz cs off x).bind fun cs' => .ok (H.set b (.cells e cs'))
    | _ => .no
  | _ => .no
def nilCheck : AV → Out AV
  | .ref b off => .ok (.ref b off)
  | .iptr cs => .ok (.iptr cs)
  | .fn f first cap => match f with
    | .func g => .ok (.fn (.func g) first cap)
    | _ => .no
  | _ => .no
def fieldAddr (off : Nat) : AV → Out AV
  | .ref b o => .ok (.ref b (o + off))
  | .iptr cs => .ok (.iptr (cs.drop off))
  | _ => .no
/-- An index into a list of elements of so many cells. -/
def indexSl (sz : Nat) (x i : AV) : Out AV := match i with
  | .int _ n => match x with
    | .sl b off len sz' => if sz' = sz ∧ 0 ≤ n ∧ n < len then .ok (.ref b (off + n.toNat * sz)) else .no
    | .isl sz' xs => if sz' = sz ∧ 0 ≤ n then (match xs[n.toNat]? with | some x => .ok (.iptr x.cells) | none => .no) else .no
    | _ => .no
  | _ => .no
/-- The place of an array's element within a local block. -/
def indexLoc (len sz off : Nat) (i : AV) : Out Nat := match i with
  | .int _ n => if 0 ≤ n ∧ n < len then .ok (off + n.toNat * sz) else .no
  | _ => .no
/-- An index into an array behind an address. -/
def indexArr (len sz : Nat) (x i : AV) : Out AV := match i with
  | .int _ n => if 0 ≤ n ∧ n < len then (match x with
    | .ref b off => .ok (.ref b (off + n.toNat * sz))
    | .iptr cs => .ok (.iptr (cs.drop (n.toNat * sz)))
    | _ => .no) else .no
  | _ => .no
/-- An index into an array's value. -/
def indexAgg (agg : Bool) (len sz : Nat) (x i : AV) : Out AV := match x, i with
  | .agg cs, .int _ n => if 0 ≤ n ∧ n < len then ldc agg sz cs (n.toNat * sz) else .no
  | _, _ => .no
def indexStr (x i : AV) : Out AV := match x, i with
  | .str l, .int _ n => if 0 ≤ n then (match l[n.toNat]? with | some b => .ok (.int .u8 b.toNat) | none => .no) else .no
  | _, _ => .no
def field (agg : Bool) (sz off : Nat) (x : AV) : Out AV := match x with
  | .agg cs => ldc agg sz cs off
  | _ => .no
def extract (i : Nat) (x : AV) : Out AV := match x with
  | .tup xs => ofOpt xs[i]?
  | _ => .no
def fill (places : Nat → Option (Nat × Nat)) : List AV → List (Nat × AV) → Out (List AV)
  | cs, [] => .ok cs
  | cs, (i, x) :: r => match places i with
    | none => .no
    | some (off, sz) => (stc sz cs off x).bind fun cs' => fill places cs' r

/-- The less or the greater of whole numbers. -/
def minmax (mx : Bool) (x y : AV) : Out AV := match x, y with
  | .int k a, .int k' b => if k = k' then .ok (.int k (if mx then (if b > a then b else a) else (if b < a then b else a))) else .no
  | _, _ => .no

/- Maps whose keys are whole numbers, texts or bools. -/
def keyEq (x y : AV) : Option Bool := match x, y with
  | .int k a, .int k' b => if k = k' then some (a == b) else none
  | .str a, .str b => some (a == b)
  | .bool a, .bool b => some (a == b)
  | _, _ => none
def mapGet (x : AV) : List (AV × AV) → Out (Option AV)
  | [] => .ok none
  | (k, v) :: r => match keyEq x k with
    | some true => .ok (some v)
    | some false => mapGet x r
    | none => .no
def mapPut (x v : AV) : List (AV × AV) → Out (List (AV × AV))
  | [] => .ok [(x, v)]
  | (k, u) :: r => match keyEq x k with
    | some true => .ok ((x, v) :: r)
    | some false => (mapPut x v r).bind fun r' => .ok ((k, u) :: r')
    | none => .no
def isKey (P : Program) (kt : TypeId) (x : AV) : Bool := match P.underlying kt, x with
  | some (.int _), .int .. => true
  | some .string, .str _ => true
  | some .bool, .bool _ => true
  | _, _ => false
def lookup (P : Program) (kt : TypeId) (zero : AV) (commaOk : Bool) (m key : AV) (H : Heap) : Out AV :=
  if isKey P kt key = false then .no else
  ((match m with
    | .mp b => match H.get b with
      | some (.map kvs) => mapGet key kvs
      | _ => .no
    | .v (.map none) => .ok none
    | _ => .no : Out (Option AV))).bind fun r => match r with
      | some v => .ok (if commaOk then .tup [v, .bool true] else v)
      | none => .ok (if commaOk then .tup [zero, .bool false] else zero)
def mapUpdate (P : Program) (kt : TypeId) (m key v : AV) (H : Heap) : Out Heap := match m with
  | .mp b => match H.get b with
    | some (.map kvs) => if isKey P kt key = true then (mapPut key v kvs).bind fun kvs' => .ok (H.set b (.map kvs')) else .no
    | _ => .no
  | _ => .no

/-- A bound of a slice expression. -/
def bound (o : Option AV) (d : Nat) : Out Int := match o with
  | none => .ok d
  | some (.int _ n) => .ok n
  | some _ => .no
/-- 'x[lo:hi]' of a list ('hi' not above its length). -/
def sliceSl (sz : Nat) (x : AV) (lo hi : Option AV) : Out AV := match x with
  | .sl b off len sz' => (bound lo 0).bind fun l => (bound hi len).bind fun h =>
    if sz' = sz ∧ 0 ≤ l ∧ l ≤ h ∧ h ≤ len then .ok (.sl b (off + l.toNat * sz) (h - l).toNat sz) else .no
  | .isl sz' xs => (bound lo 0).bind fun l => (bound hi xs.length).bind fun h =>
    if sz' = sz ∧ 0 ≤ l ∧ l ≤ h ∧ h ≤ xs.length then .ok (.isl sz ((xs.take h.toNat).drop l.toNat)) else .no
  | .v (.slice none 0 0) => (bound lo 0).bind fun l => (bound hi 0).bind fun h =>
    if l = 0 ∧ h = 0 then .ok nilSlice else .no
  | _ => .no
/-- 'a[lo:hi]' of an array behind an address. -/
def sliceArr (n sz : Nat) (x : AV) (lo hi : Option AV) (H : Heap) : Out AV := match x with
  | .ref b off => match H.cells b with
    | some cs => (bound lo 0).bind fun l => (bound hi n).bind fun h =>
      if 0 ≤ l ∧ l ≤ h ∧ h ≤ n ∧ off + n * sz ≤ cs.length then .ok (.sl b (off + l.toNat * sz) (h - l).toNat sz) else .no
    | none => .no
  | _ => .no
def sliceStr (x : AV) (lo hi : Option AV) : Out AV := match x with
  | .str s => (bound lo 0).bind fun l => (bound hi s.length).bind fun h =>
    if 0 ≤ l ∧ l ≤ h ∧ h ≤ s.length then .ok (.str ((s.take h.toNat).drop l.toNat)) else .no
  | _ => .no
def len (str : Bool) (x : AV) : Out AV := match x with
  | .str l => if str then .ok (.int .i64 l.length) else .no
  | .sl _ _ n _ => if str then .no else .ok (.int .i64 n)
  | .isl _ xs => if str then .no else .ok (.int .i64 xs.length)
  | .v (.slice none 0 0) => if str then .no else .ok (.int .i64 0)
  | _ => .no

/-- The cells of a list. -/
def cellsOf (sz : Nat) (x : AV) (H : Heap) : Out (Nat × List AV) := match x with
  | .sl b off n sz' => match H.cells b with
    | some cs => if sz' = sz ∧ off + n * sz ≤ cs.length then .ok (n, (cs.drop off).take (n * sz)) else .no
    | none => .no
  | .isl sz' xs => let cs := xs.flatMap AV.cells
    if sz' = sz ∧ cs.length = xs.length * sz ∧ xs.all (fun x => x.cells.length == sz) = true then .ok (xs.length, cs) else .no
  | .v (.slice none 0 0) => .ok (0, [])
  | .str l => if sz = 1 then .ok (l.length, l.map fun b => .int .u8 b.toNat) else .no
  | _ => .no
/-- How great a list may grow, in bytes. -/
def most : Nat := 2 ^ 46
/-- append: the old block is lost, a new one comes. -/
def append (elem sz bytes : Nat) (s x : AV) (H : Heap) : Out (AV × Heap) :=
  (cellsOf sz x H).bind fun p => (cellsOf sz s H).bind fun q =>
    if (q.1 + p.1) * bytes ≤ most ∧ q.1 + p.1 ≤ most then (match s with
      | .sl b _ _ _ => .ok (.sl H.n 0 (q.1 + p.1) sz, (H.kill b).alloc (.cells elem (q.2 ++ p.2)))
      | .v (.slice none 0 0) => if p.1 = 0 then .ok (nilSlice, H) else .ok (.sl H.n 0 (q.1 + p.1) sz, H.alloc (.cells elem (q.2 ++ p.2)))
      | _ => .no) else .no
/-- copy: how many, and the heap. -/
def copy (sz : Nat) (d s : AV) (H : Heap) : Out (AV × Heap) := match d with
  | .sl b off n sz' => (cellsOf sz s H).bind fun p => match H.get b with
    | some (.cells e cs) =>
      if sz' = sz ∧ off + n * sz ≤ cs.length then .ok (.int .i64 (min p.1 n : Nat), H.set b (.cells e (over cs off (p.2.take (min p.1 n * sz))))) else .no
    | _ => .no
  | .v (.slice none 0 0) => (cellsOf sz s H).bind fun _ => .ok (.int .i64 0, H)
  | _ => .no

/-- Two values that are not equal. -/
def unlike (op : BinOp) : Out AV := match op with
  | .eql => .ok (.bool false)
  | .neq => .ok (.bool true)
  | _ => .no
/-- Operators on values that are no addresses, by the model's own. -/
def bin (P : Program) (op : BinOp) (t : TypeId) (xo yo : Operand) (x y : AV) : Out AV := match x, y with
  | .int k a, .int k' b => match binOp op 0 (.int k a) (.int k' b) with
    | .pure (.int k r) => .ok (.int k r)
    | .pure (.bool r) => .ok (.bool r)
    | _ => .no
  | .str a, .str b => match op with
    | .add => if a.length + b.length ≤ most then .ok (.str (a ++ b)) else .no
    | .eql => .ok (.bool (a == b))
    | .neq => .ok (.bool !(a == b))
    | .lss => .ok (.bool (Op.bytesLess a b))
    | .leq => .ok (.bool (Op.bytesLess a b || a == b))
    | .gtr => .ok (.bool !(Op.bytesLess a b || a == b))
    | .geq => .ok (.bool !(Op.bytesLess a b))
    | _ => .no
  | .sl .., .v (.slice none 0 0) | .v (.slice none 0 0), .sl .. => match P.underlying t with
    | some (.slice _) => unlike op
    | _ => .no
  | .ref .., .v (.pointer none) | .v (.pointer none), .ref .. | .iptr _, .v (.pointer none) | .v (.pointer none), .iptr _ => match P.underlying t with
    | some (.pointer _) => unlike op
    | _ => .no
  | .fn .., .v .nilFunc | .v .nilFunc, .fn .. => match P.underlying t with
    | some (.func ..) => unlike op
    | _ => .no
  | _, _ => match toV x, toV y with
    | some a, some b => match peel P (do eqGuard op t xo yo a b; binOp op t a b : Sem Value) with
      | some r => ofOpt (ofV r)
      | none => .no
    | _, _ => .no
def un (op : UnOp) (x : AV) : Out AV := match toV1 x with
  | some a => match Op.unary op a with
    | .pure r => ofOpt (ofV r)
    | _ => .no
  | none => .no
/-- Conversions between numbers (of texts nothing). -/
def conv (P : Program) (src dst : TypeId) (ks kd : TK) (x : AV) : Out AV := match x, ks, kd with
  | .int _ n, .int _, .int k => .ok (.int k (k.wrap n))
  | .str l, .string, .string => .ok (.str l)
  | _, _, _ => match toV1 x with
    | some a => match peel P (convert src dst a) with
      | some r => ofOpt (ofV r)
      | none => .no
    | none => .no
def byteOf : AV → Option UInt8
  | .int .u8 n => some (UInt8.ofNat n.toNat)
  | _ => none
def bytesOf : List AV → Option (List UInt8)
  | [] => some []
  | x :: r => match byteOf x, bytesOf r with
    | some a, some l => some (a :: l)
    | _, _ => none
/-- string(b) -/
def isStrA : AV → Bool
  | .str _ => true
  | _ => false
def toStr (x : AV) (H : Heap) : Out AV := if isStrA x then .no else (cellsOf 1 x H).bind fun p => match bytesOf p.2 with
  | some l => .ok (.str l)
  | none => .no
/-- []byte(s) -/
def toBytes (_elem : Nat) (_x : AV) (_H : Heap) : Out (AV × Heap) := .no
def makeSlice (elem sz bytes : Nat) (zero : List AV) (l c : AV) (H : Heap) : Out (AV × Heap) := match l, c with
  | .int _ n, .int _ m => if 0 ≤ n ∧ n ≤ m ∧ m * bytes ≤ most ∧ m ≤ most ∧ sz ≠ 0 ∧ zero.length = sz then
      .ok (.sl H.n 0 n.toNat sz, H.alloc (.cells elem (List.replicate m.toNat zero).flatten)) else .no
  | _, _ => .no
end M

end Go.Proofs.YtnhblghplohonaaGreatDoor.Ab
