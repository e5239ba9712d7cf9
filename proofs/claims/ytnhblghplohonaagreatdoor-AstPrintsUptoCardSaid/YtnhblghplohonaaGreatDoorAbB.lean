/- The abstract machine: frames, operations, code, calls. (Definitions alone.) -/
import Derived.Test.YtnhblghplohonaaGreatDoorAbA
set_option linter.unusedSimpArgs false
set_option linter.unusedVariables false
namespace Go.Proofs.YtnhblghplohonaaGreatDoor.Ab
open Go

abbrev Ans := AV × Heap
abbrev CallsT := Nat → List AV → Heap → Out Ans

inductive Ex where
  | normal
  | exit (id : Nat)
  | ret

/-- The addresses of a local block that comes anew are gone. -/
def EV.drop (d : Nat) : EV → EV
  | .loc j o => if j == d then .dead else .loc j o
  | e => e
def Env.dropLoc (d : Nat) : Env → Env
  | [] => []
  | (i, e) :: r => (i, e.drop d) :: Env.dropLoc d r

def chunks (agg : Bool) (sz : Nat) : Nat → List AV → List AV
  | 0, _ => []
  | n + 1, cs => (if agg then .agg (cs.take sz) else (cs[0]?).getD undefA) :: chunks agg sz n (cs.drop sz)

def onO {α β : Type} (o : Option α) (k : α → Out β) : Out β := match o with
  | some a => k a
  | none => .no
def onE {β : Type} (o : Option EV) (loc : Nat → Nat → Out β) (val : AV → Out β) : Out β := match o with
  | some (.loc j off) => loc j off
  | some (.val p) => val p
  | _ => .no
/-- A slot that an operand names. -/
def tmpOf : Operand → Option Nat
  | .tmp t => some t
  | _ => none
def Callee.valueO : Callee → Option Operand
  | .value f => some f
  | _ => none
def Callee.builtinO : Callee → Option Builtin
  | .builtin b => some b
  | _ => none
def funcOf : Fn → Option Nat
  | .func g => some g
  | _ => none

section
variable (X : Ctx) (f : Nat) (Γ : CallsT)

/-- The operands of a list of parts. -/
def partsOf (E : Env) : List (Nat × Operand) → Option (List (Nat × AV))
  | [] => some []
  | (i, o) :: r => match E.eval X o, partsOf E r with
    | some a, some l => some ((i, a) :: l)
    | _, _ => none

/-- An operand that may stand there or not. -/
def optOf (E : Env) : Option Operand → Option (Option AV)
  | none => some none
  | some o => (E.eval X o).map some

/-- A call of a function value. -/
def fnOf : AV → Option (Nat × List AV × List AV)
  | .fn (.func g) first cap => some (g, first, cap)
  | _ => none
def callV {β : Type} (fv : AV) (args : List AV) (H : Heap) (k : AV → Heap → Out β) : Out β :=
  onO (fnOf fv) fun q => (Γ q.1 (q.2.1 ++ args ++ q.2.2) H).bind fun r => k r.1 r.2

/-- How many entries a map has. -/
def mapLen (x : AV) (H : Heap) : Out AV := match x with
  | .mp b => match H.get b with
    | some (.map kvs) => .ok (.int .i64 kvs.length)
    | _ => .no
  | .v (.map none) => .ok (.int .i64 0)
  | _ => .no
def oneA : List AV → Option AV
  | [x] => some x
  | _ => none
def twoA : List AV → Option (AV × AV)
  | [x, y] => some (x, y)
  | _ => none
def builtinEv {β : Type} (b : Builtin) (ts : List TypeId) (args : List AV) (H : Heap) (k : AV → Heap → Out β) : Out β :=
  match b with
  | .len => onO ts[0]? fun t => onO (X.T t) fun ti => onO (oneA args) fun x =>
      if ti.k.isStr || ti.k.sliceE.isSome then (M.len ti.k.isStr x).bind fun v => k v H
      else if ti.k.mapE.isSome then (mapLen x H).bind fun v => k v H
      else onO ti.k.arrayE fun q => k (.int .i64 q.1) H
  | .append => onO ts[0]? fun t => onO (X.T t) fun ti => onO ts[1]? fun u => onO (X.T u) fun tj => onO (twoA args) fun p => onO ti.k.sliceE fun e =>
      if tj.k.isStr || tj.k.sliceE.isSome then onO (X.T e) fun te => onO te.zero fun z =>
        if te.sz ≠ 0 ∧ z.cells.length = te.sz then (M.append e te.sz te.bytes p.1 p.2 H).bind fun r => k r.1 r.2 else .no
      else .no
  | .copy => onO ts[0]? fun t => onO (X.T t) fun ti => onO (twoA args) fun p => onO ti.k.sliceE fun e => onO (X.T e) fun te =>
      if te.sz ≠ 0 then (M.copy te.sz p.1 p.2 H).bind fun r => k r.1 r.2 else .no
  | .max => onO (twoA args) fun p => (M.minmax true p.1 p.2).bind fun v => k v H
  | .min => onO (twoA args) fun p => (M.minmax false p.1 p.2).bind fun v => k v H
  | _ => .no

/-- A new variable: a local block, or one of the heap. -/
def newEv {β : Type} (t : TypeId) (z : AV) (dst : Option Nat) (E : Env) (L : Locs) (H : Heap) (k : EV → Env → Locs → Heap → Out β) : Out β :=
  (M.cellsT z).bind fun cs => onO dst fun d =>
    if X.loc f d then k (.loc d 0) (E.dropLoc d) (L.put d cs) H else k (.val (.ref H.n 0)) E L (H.alloc (.cells t cs))

/-- One operation. -/
def opEv {β : Type} (o : Oper) (E : Env) (L : Locs) (H : Heap) (k : EV → Env → Locs → Heap → Out β) : Out β :=
  let kv : AV → Out β := fun v => k (.val v) E L H
  match o.op with
  | .move x | .assign x => match x with
    | .tmp t => onO (E.find t) fun e => k e E L H
    | x => onO (E.eval X x) kv
  | .pick c a b => onO (E.eval X c) fun c => onO (E.eval X a) fun a => onO (E.eval X b) fun b => (M.pick c a b).bind kv
  | .alloc t => onO (X.T t) fun ti => onO ti.zero fun z => newEv X f t z o.dst E L H k
  | .box t x => onO (E.eval X x) fun z => newEv X f t z o.dst E L H k
  | .build t parts => onO (X.T t) fun ti => onO (partsOf X E parts.toList) fun ps => onO ti.zero fun z => (M.cellsT z).bind fun zc =>
      match ti.k with
      | .struct fs => (M.fill (fun i => (fs[i]?).map fun x => (x.1, x.2.1)) zc ps).bind fun cs => kv (.agg cs)
      | .array _ e => onO (X.T e) fun te => (M.fill (fun i => some (i * te.sz, te.sz)) zc ps).bind fun cs => kv (.agg cs)
      | _ => .no
  | .buildSlice t n parts => onO (X.T t) fun ti => onO (partsOf X E parts.toList) fun ps => onO ti.k.sliceE fun e => onO (X.T e) fun te => onO te.zero fun z =>
      if n * te.sz ≤ 2 ^ 24 ∧ z.one = true ∧ z.cells.length = te.sz ∧ te.sz ≠ 0 ∧ (te.agg = true ∨ te.sz = 1) then
        (M.fill (fun i => some (i * te.sz, te.sz)) (List.replicate n z.cells).flatten ps).bind fun cs => onO o.dst fun d =>
          if X.frz f d then kv (.isl te.sz (chunks te.agg te.sz n cs)) else k (.val (.sl H.n 0 n te.sz)) E L (H.alloc (.cells e cs))
      else .no
  | .load t a => onO (X.T t) fun ti => match tmpOf a with
    | some i => onE (E.find i) (fun j off => onO (L.find j) fun cs => (M.ldc ti.agg ti.sz cs off).bind kv) (fun p => (M.load ti.agg ti.sz p H).bind kv)
    | none => onO (E.eval X a) fun p => (M.load ti.agg ti.sz p H).bind kv
  | .store t a x => onO (X.T t) fun ti => onO (E.eval X x) fun x => match tmpOf a with
    | some i => onE (E.find i) (fun j off => onO (L.find j) fun cs => (M.stc ti.sz cs off x).bind fun cs' => k (.val undefA) E (L.put j cs') H)
        (fun p => (M.store ti.sz p x H).bind fun H' => k (.val undefA) E L H')
    | none => onO (E.eval X a) fun p => (M.store ti.sz p x H).bind fun H' => k (.val undefA) E L H'
  | .nilCheck x => match tmpOf x with
    | some i => onE (E.find i) (fun j off => k (.loc j off) E L H) (fun p => (M.nilCheck p).bind kv)
    | none => onO (E.eval X x) fun p => (M.nilCheck p).bind kv
  | .binOp op t x y _ => onO (E.eval X x) fun a => onO (E.eval X y) fun b => (M.bin X.P op t x y a b).bind kv
  | .unOp op _ x => onO (E.eval X x) fun a => (M.un op a).bind kv
  | .convert src dst x => onO (E.eval X x) fun a => onO (X.T src) fun ts => onO (X.T dst) fun td =>
      if ts.k.isStr && td.k.sliceE.isSome then onO td.k.sliceE fun e => onO (X.T e) fun te => if te.k.isByte then (M.toBytes e a H).bind fun r => k (.val r.1) E L r.2 else .no
      else if td.k.isStr && ts.k.sliceE.isSome then onO ts.k.sliceE fun e => onO (X.T e) fun te => if te.k.isByte then (M.toStr a H).bind kv else .no
      else (M.conv X.P src dst ts.k td.k a).bind kv
  | .makeInterface t x => onO (E.eval X x) fun a => onO (X.T t) fun ti => if ti.k.isIface then .no else kv (.ifc t a)
  | .makeFunc fn first cap => onO (funcOf fn) fun g => onO (E.evals X first.toList) fun fs => onO (E.evals X cap.toList) fun cs => kv (.fn (.func g) fs cs)
  | .makeSlice t l c => onO (E.eval X l) fun l => onO (E.eval X c) fun c => onO (X.T t) fun ti => onO ti.k.sliceE fun e => onO (X.T e) fun te => onO te.zero fun z =>
      (M.cellsT z).bind fun zc => (M.makeSlice e te.sz te.bytes zc l c H).bind fun r => k (.val r.1) E L r.2
  | .makeMap t res => match res with
    | some _ => .no
    | none => onO (X.T t) fun ti => onO ti.k.mapE fun _ => k (.val (.mp H.n)) E L (H.alloc (.map []))
  | .lookup t m key cok => onO (E.eval X m) fun m => onO (E.eval X key) fun key => onO (X.T t) fun ti => onO ti.k.mapE fun q => onO (X.T q.2) fun te => onO te.zero fun z =>
      (M.lookup X.P q.1 z cok m key H).bind kv
  | .mapUpdate t m key x => onO (E.eval X m) fun m => onO (E.eval X key) fun key => onO (E.eval X x) fun x => onO (X.T t) fun ti => onO ti.k.mapE fun q =>
      (M.mapUpdate X.P q.1 m key x H).bind fun H' => k (.val undefA) E L H'
  | .slice t x lo hi mx => match mx with
    | some _ => .no
    | none => onO (optOf X E lo) fun lo => onO (optOf X E hi) fun hi => onO (X.T t) fun ti => onO (E.eval X x) fun a =>
        if ti.k.isStr then (M.sliceStr a lo hi).bind kv
        else if ti.k.arrayE.isSome then onO ti.k.arrayE fun q => onO (X.T q.2) fun te => (M.sliceArr q.1 te.sz a lo hi H).bind kv
        else onO ti.k.sliceE fun e => onO (X.T e) fun te => (M.sliceSl te.sz a lo hi).bind kv
  | .fieldAddr s x fd => onO (X.T s) fun ti => onO ti.k.structE fun fs => onO fs[fd]? fun fl => if fl.2.1 = 0 then .no else match tmpOf x with
    | some j => onE (E.find j) (fun l off => k (.loc l (off + fl.1)) E L H) (fun p => (M.fieldAddr fl.1 p).bind kv)
    | none => onO (E.eval X x) fun p => (M.fieldAddr fl.1 p).bind kv
  | .field s x fd => onO (E.eval X x) fun a => onO (X.T s) fun ti => onO ti.k.structE fun fs => onO fs[fd]? fun fl => (M.field fl.2.2 fl.2.1 fl.1 a).bind kv
  | .indexAddr t x ix => onO (E.eval X ix) fun i => onO (X.T t) fun ti => match ti.k with
    | .slice e => onO (X.T e) fun te => onO (E.eval X x) fun a => (M.indexSl te.sz a i).bind kv
    | .array len e => onO (X.T e) fun te => match tmpOf x with
      | some j => onE (E.find j) (fun l off => (M.indexLoc len te.sz off i).bind fun off' => k (.loc l off') E L H) (fun p => (M.indexArr len te.sz p i).bind kv)
      | none => onO (E.eval X x) fun p => (M.indexArr len te.sz p i).bind kv
    | _ => .no
  | .index t x ix => onO (E.eval X x) fun a => onO (E.eval X ix) fun i => onO (X.T t) fun ti =>
      if ti.k.isStr then (M.indexStr a i).bind kv
      else onO ti.k.arrayE fun q => onO (X.T q.2) fun te => (M.indexAgg te.agg q.1 te.sz a i).bind kv
  | .extract t ix => onO (E.eval X t) fun a => (M.extract ix a).bind kv
  | .call c => onO (E.evals X c.args.toList) fun as => match Callee.builtinO c.callee with
    | some b => builtinEv X b c.argTypes.toList as H fun v H' => k (.val v) E L H'
    | none => onO (Callee.valueO c.callee) fun fo => onO (E.eval X fo) fun fv => callV Γ fv as H fun v H' => k (.val v) E L H'
  | _ => .no

/-- A guard: whether the operation that it names answered 'want'. -/
def guardEv {β : Type} (g : Option EV) (want : Bool) (yes other : Out β) : Out β := match g with
  | some (.val (.bool b)) => if b == want then yes else other
  | some (.val (.tup [])) => other
  | _ => .no

/-- An operation that leaves the frame's slots and local blocks as they are, but for its own. -/
def noLoc (E : Env) (x : Operand) : Bool := match tmpOf x with
  | some i => match E.find i with
    | some (.loc _ _) => false
    | _ => true
  | none => true
def quietOp (E : Env) (o : Oper) : Bool := match o.op with
  | .alloc _ | .box _ _ => match o.dst with
    | some d => !(X.loc f d)
    | none => true
  | .store _ a _ => noLoc E a
  | .move x | .assign x | .nilCheck x | .fieldAddr _ x _ | .indexAddr _ x _ => noLoc E x
  | _ => true
def valK (e : EV) (H : Heap) : Out Ans := match e with
  | .val v => .ok (v, H)
  | _ => .no

/-- Addresses of local blocks that were reckoned under a guard: the slot; the guard's slot and what was wanted; the slot from which it was reckoned, with its offset; the offset. -/
structure GE where
  i : Nat
  s : Nat
  w : Bool
  b : Nat
  o : Nat
  off : Nat
def dropG (d : Option Nat) (G : List GE) : List GE := match d with
  | none => G
  | some d => G.filter fun q => !(q.i == d || q.s == d || q.b == d)
def findG : List GE → Nat → Option GE
  | [], _ => none
  | q :: G, i => if q.i == i then some q else findG G i
def addrOp : Op → Option Nat
  | .load _ a => tmpOf a
  | .nilCheck x | .fieldAddr _ x _ | .indexAddr _ x _ => tmpOf x
  | _ => none
def locOf (E : Env) (i : Nat) : Option (Nat × Nat) := match E.find i with
  | some (.loc j o) => some (j, o)
  | _ => none
def isDead (E : Env) (i : Nat) : Bool := match E.find i with
  | some .dead => true
  | _ => false
/-- The slots, with the address that the operation looks at (its guard being as it was). -/
def resolveG (G : List GE) (E : Env) (s : Nat) (w : Bool) (o : Op) : Env := match addrOp o with
  | none => E
  | some t => match findG G t with
    | none => E
    | some q => if q.s = s ∧ q.w = w ∧ isDead E t = true then (match locOf E q.b with
      | some (j, o) => if o = q.o then (t, .loc j q.off) :: E else E
      | none => E) else E
/-- The slot from which an address is reckoned. -/
def baseOf (E : Env) (o : Op) : Option (Nat × Nat × Nat) := match addrOp o with
  | none => none
  | some t => (locOf E t).map fun q => (t, q.1, q.2)
def onLoc {β : Type} (e : EV) (k : Nat → Nat → Out β) : Out β := match e with
  | .loc j off => k j off
  | _ => .no

/-- Operations in a row. -/
def evOps {β : Type} (all : List Oper) : List Oper → List GE → Env → Locs → Heap → (Env → Locs → Heap → Out β) → Out β
  | [], _, E, L, H, k => k E L H
  | o :: r, G, E, L, H, k =>
    match o.guard with
    | none => opEv X f Γ o E L H fun v E L H => evOps all r (dropG o.dst G) (E.put o.dst v) L H k
    | some (j, want) => match all[j]?.bind (·.dst) with
      | none => .no
      | some s =>
        if quietOp X f (resolveG G E s want o.op) o then
          (guardEv (E.find s) want (opEv X f Γ o (resolveG G E s want o.op) L H fun e _ _ H' => valK e H') (.ok (undefA, H))).bind fun q => evOps all r (dropG o.dst G) (E.put o.dst (.val q.1)) L q.2 k
        else match baseOf E o.op, o.dst with
          | some (b, j, ob), some d => if d = s ∨ d = b then .no else opEv X f Γ o E L H fun e _ _ _ => onLoc e fun j' off => if j' = j then evOps all r (⟨d, s, want, b, ob, off⟩ :: dropG o.dst G) (E.put o.dst .dead) L H k else .no
          | _, _ => guardEv (E.find s) want (opEv X f Γ o E L H fun v E L H => evOps all r (dropG o.dst G) (E.put o.dst v) L H k) (evOps all r (dropG o.dst G) (E.put o.dst (.val undefA)) L H k)

/- Operations whose order is open -/

def arrT (t : TypeId) : Bool := match X.T t with
  | some ti => ti.k.arrayE.isSome
  | none => false
def TK.isInt : TK → Bool
  | .int _ => true
  | _ => false
def intT (t : TypeId) : Bool := match X.T t with
  | some ti => ti.k.isInt
  | none => false
/-- 0: looks at the frame's slots alone; 1: looks at memory; 2: may write. -/
def cls (o : Oper) : Nat := match o.op with
  | .move _ | .assign _ | .pick .. | .binOp .. | .unOp .. | .field .. | .index .. | .extract .. | .fieldAddr .. | .indexAddr .. | .nilCheck _ | .makeInterface .. | .makeFunc .. | .build .. => 0
  | .slice t .. => if arrT X t then 1 else 0
  | .convert s t _ => if intT X s && intT X t then 0 else 2
  | .buildSlice .. => match o.dst with
    | some d => if X.frz f d then 0 else 2
    | none => 2
  | .load .. | .lookup .. => 1
  | .call c => match Callee.builtinO c.callee with
    | some .len | some .max | some .min => 1
    | _ => 2
  | _ => 2
def newLoc (o : Oper) : Bool := match o.op with
  | .alloc _ | .box _ _ => match o.dst with
    | some d => X.loc f d
    | none => false
  | _ => false
/-- Which operations stand ahead of each, by edges. -/
def predsT : List Oper → List (List Nat) → List (List Nat)
  | [], acc => acc
  | o :: r, acc => predsT r (acc ++ [((o.after.toList.filter (Region.binds .any)).flatMap fun e => e.on :: acc.getD e.on []).eraseDups])
def ahead (T : List (List Nat)) (i j : Nat) : Bool := (T.getD j []).contains i
def ordered (T : List (List Nat)) (i j : Nat) : Bool := ahead T i j || ahead T j i
def isCall (o : Oper) : Bool := match o.op with
  | .call c => match Callee.builtinO c.callee with
    | some _ => false
    | none => true
  | _ => false
def clsAt (ops : List Oper) (i : Nat) : Nat := match ops[i]? with
  | some o => cls X f o
  | none => 0
/-- A call that must leave memory as it is: its order to another look at memory is open. -/
def mustRest (ops : List Oper) (T : List (List Nat)) (i : Nat) : Bool := match ops[i]? with
  | some o => isCall o && (List.range ops.length).any fun j => j != i && !ordered T i j && clsAt X f ops j != 0
  | none => false
def cls2 (ops : List Oper) (T : List (List Nat)) (i : Nat) : Nat := if mustRest X f ops T i then 1 else clsAt X f ops i
def slotsOf (o : Oper) : List Nat := o.op.operands.toList.filterMap tmpOf
def looksOf (ops : List Oper) (o : Oper) : List Nat := slotsOf o ++ (match o.guard with
  | some (j, _) => (ops[j]?.bind (·.dst)).toList
  | none => [])
/-- May such operations stand in any order that their edges allow? -/
def drawOk (ops : List Oper) (T : List (List Nat)) : Bool :=
  (List.range ops.length).all fun i => (T.getD i []).all (· < i) && (match ops[i]?.bind (·.guard) with | some (j, _) => ahead T j i | none => true) && (List.range ops.length).all fun j => i == j ||
    (match ops[i]?, ops[j]? with
      | some oi, some oj => (match oj.dst with
        | some d => oi.dst != some d && (!(looksOf ops oi).contains d || ordered T i j)
        | none => true)
      | _, _ => true) && (ordered T i j || !((cls2 X f ops T i == 2 && cls2 X f ops T j != 0) || (cls2 X f ops T j == 2 && cls2 X f ops T i != 0)))

def restRun {β : Type} (q : Bool) (o : Oper) (E : Env) (L : Locs) (H : Heap) (k : EV → Locs → Heap → Out β) : Out β :=
  if q then opEv X f Γ o E L { H with low := H.n } fun e _ _ H' => if H'.n = H.n ∧ H'.low = H.n then k e L H else .no
  else opEv X f Γ o E L H fun e _ L' H' => k e L' H'
def stepD {β : Type} (all : List Oper) (q : Bool) (o : Oper) (G : List GE) (E : Env) (L : Locs) (H : Heap) (K : List GE → EV → Locs → Heap → Out β) : Out β :=
  if newLoc X f o then .no else
  match o.guard with
  | none => restRun X f Γ q o E L H fun e L' H' => K G e L' H'
  | some (j, want) => match all[j]?.bind (·.dst) with
    | none => .no
    | some s =>
      if quietOp X f (resolveG G E s want o.op) o then
        (guardEv (E.find s) want (restRun X f Γ q o (resolveG G E s want o.op) L H fun e _ H' => valK e H') (.ok (undefA, H))).bind fun r => K G (.val r.1) L r.2
      else match baseOf E o.op, o.dst with
        | some (b, j, ob), some d => if d = s ∨ d = b ∨ all.any (fun p => p.dst == some b) then .no else opEv X f Γ o E L H fun e _ _ _ => onLoc e fun j' off => if j' = j then K (⟨d, s, want, b, ob, off⟩ :: G) .dead L H else .no
        | _, _ => .no
/-- Operations in a row, in the text's order: each other order does the same. -/
def evDr {β : Type} (all : List Oper) (T : List (List Nat)) : Nat → List Oper → List GE → Env → Locs → Heap → (Env → Locs → Heap → Out β) → Out β
  | _, [], _, E, L, H, k => k E L H
  | i, o :: r, G, E, L, H, k => stepD X f Γ all (mustRest X f all T i) o G E L H fun G e L H => evDr all T (i + 1) r G (E.put o.dst e) L H k

def condEv {β : Type} (c : AV) (a b : Out β) : Out β := match c with
  | .bool true => a
  | .bool false => b
  | _ => .no

/-- What is live at a loop's head. -/
def pack (E : Env) : List Nat → Option (List AV)
  | [] => some []
  | i :: r => match E.val i, pack E r with
    | some a, some l => some (a :: l)
    | _, _ => none
def unpackFrom (vs : List AV) : Nat → List Nat → Env
  | _, [] => []
  | n, i :: r => (i, .val (vs.getD n undefA)) :: unpackFrom vs (n + 1) r
def locEntries : Env → Env
  | [] => []
  | (i, .loc j o) :: r => (i, .loc j o) :: locEntries r
  | _ :: r => locEntries r
/-- Those addresses of local blocks that stand as they stood. -/
def sameLocs (E : Env) : Env → Bool
  | [] => true
  | (i, .loc j o) :: r => (match E.find i with | some (.loc j' o') => j == j' && o == o' | _ => false) && sameLocs E r
  | _ :: _ => false

abbrev LS := List AV × Locs × Heap
abbrev LoopT (β : Type) := (LS → (LS → Out β) → Out β) → LS → Out β

/-- Ways that meet: what follows, and what comes before. -/
def jn {β : Type} (B : LS → Out β) (F : (LS → Out β) → Out β) : Out β := F B

/-- A number of a loop: its first region's. -/
def loopKey : Code → Nat
  | .region id _ _ => id
  | .seq a _ => loopKey a
  | .block _ c => loopKey c
  | .cond _ a _ => loopKey a
  | .loop c => loopKey c
  | _ => 0

variable {β : Type} (lp : LoopT β)
def ev : Code → Env → Locs → Heap → (Ex → Env → Locs → Heap → Out β) → Out β
  | .skip, E, L, H, k => k .normal E L H
  | .region _ ops draw, E, L, H, k => if draw then (let T := predsT ops.toList []; if drawOk X f ops.toList T then evDr X f Γ ops.toList T 0 ops.toList [] E L H fun E L H => k .normal E L H else .no) else evOps X f Γ ops.toList ops.toList [] E L H fun E L H => k .normal E L H
  | .seq a b, E, L, H, k => match X.join f (loopKey b) with
    | none => ev a E L H fun e E L H => match e with
      | .normal => ev b E L H k
      | e => k e E L H
    | some ls => jn (fun s => ev b (unpackFrom s.1 0 ls ++ locEntries E) s.2.1 s.2.2 k) fun j => ev a E L H fun e E' L' H' => match e with
      | .normal => if sameLocs E' (locEntries E) then (match pack E' ls with | some vs => j (vs, L', H') | none => .no) else .no
      | e => k e E' L' H'
  | .cond c a b, E, L, H, k => onO (E.eval X c) fun c => condEv c (ev a E L H k) (ev b E L H k)
  | .block id c, E, L, H, k => ev c E L H fun e E L H => match e with
    | .exit id' => if id' = id then k .normal E L H else k (.exit id') E L H
    | e => k e E L H
  | .exit id, E, L, H, k => k (.exit id) E L H
  | .ret, E, L, H, k => k .ret E L H
  | .loop c, E, L, H, k =>
    let ls := X.live f (loopKey c)
    match sameLocs E (locEntries E), pack E ls with
    | true, some vs => lp (fun s again => ev c (unpackFrom s.1 0 ls ++ locEntries E) s.2.1 s.2.2 fun e E' L' H' => match e with
        | .normal => if sameLocs E' (locEntries E) then (match pack E' ls with | some vs' => again (vs', L', H') | none => .no) else .no
        | e => k e E' L' H') (vs, L, H)
    | _, _ => .no
  | _, _, _, _, _ => .no

/-- The results. -/
def resOf (E : Env) (L : Locs) (H : Heap) : List ResultVar → Out (List AV)
  | [] => .ok []
  | .tmp t :: r => onO (E.val t) fun v => (resOf E L H r).bind fun l => .ok (v :: l)
  | .cell a t :: r => onO (X.T t) fun ti => (onE (E.find a) (fun j off => onO (L.find j) fun cs => M.ldc ti.agg ti.sz cs off) (fun p => M.load ti.agg ti.sz p H)).bind fun v => (resOf E L H r).bind fun l => .ok (v :: l)
def oneOf : List AV → AV
  | [x] => x
  | l => .tup l

mutual
/-- No address of a block from 'n' on is in a value. -/
def clean (n : Nat) : AV → Bool
  | .int .. | .bool _ | .str _ | .v _ => true
  | .ref b _ | .sl b _ _ _ | .mp b => b < n
  | .isl _ xs | .iptr xs | .agg xs | .tup xs => cleanL n xs
  | .fn _ first cap => cleanL n first && cleanL n cap
  | .ifc _ x => clean n x
def cleanL (n : Nat) : List AV → Bool
  | [] => true
  | x :: r => clean n x && cleanL n r
end
/-- What remains of a call's heap. -/
def gc (v : AV) (H H' : Heap) : Ans := if H.n ≤ H'.low ∧ clean H.n v = true then (v, H) else (v, { H' with low := min H.low H'.low })

def optAll (f : AV → Option AV) : List AV → Option (List AV)
  | [] => some []
  | x :: r => match f x, optAll f r with
    | some a, some l => some (a :: l)
    | _, _ => none
/-- A value whose blocks from 'n' on nobody writes any more: their cells stand for them. -/
def fz (get : Nat → Option (List AV)) (n : Nat) : Nat → AV → Option AV
  | 0, _ => none
  | k + 1, x => if clean n x = true then some x else match x with
    | .ref b off => match get b with
      | some cs => if n ≤ b then (optAll (fz get n k) (cs.drop off)).map .iptr else none
      | none => none
    | .sl b off len sz => match get b with
      | some cs => if n ≤ b ∧ off + len * sz ≤ cs.length then (optAll (fz get n k) ((cs.drop off).take (len * sz))).map fun l => .isl sz (chunks (sz != 1) sz len l) else none
      | none => none
    | .agg cs => (optAll (fz get n k) cs).map .agg
    | .tup cs => (optAll (fz get n k) cs).map .tup
    | .fn f a b => match optAll (fz get n k) a, optAll (fz get n k) b with
      | some a, some b => some (.fn f a b)
      | _, _ => none
    | .ifc t x => (fz get n k x).map (.ifc t)
    | _ => none
def gcz (v : AV) (H H' : Heap) : Ans := match (if H.n ≤ H'.low then fz H'.cells H.n 32 v else none) with
  | some v => (v, H)
  | none => gc v H H'
def gcf (z : Bool) (v : AV) (H H' : Heap) : Ans := if z then gcz v H H' else gc v H H'

def envOf : Nat → List AV → Env
  | _, [] => []
  | n, a :: r => (n, .val a) :: envOf (n + 1) r
end

/-- A call's heap. -/
def Heap.start (H : Heap) : Heap := { H with low := H.n }

/-- A function's body, or what is told of it. -/
def runF (X : Ctx) (lp : LoopT Ans) (Γ : CallsT) (g : Nat) (args : List AV) (H : Heap) : Out Ans := match X.prim g with
  | some p => p args H
  | none => match X.F g with
    | some fn => match fn.body with
      | some c => if fn.name == "runtime.NumGoroutine" then .no else
        ev X g Γ lp c (envOf 0 args) [] { H with low := H.n } fun e E L H' => match e with
          | .exit _ => .no
          | _ => (resOf X E L H' fn.results.toList).bind fun vs => .ok (gcf (X.fz g) (oneOf vs) H H')
      | none => .no
    | none => .no

/-- So many rounds. -/
def loopN {β : Type} : Nat → LoopT β
  | 0, _, _ => .no
  | n + 1, B, s => B s (loopN n B)
/-- So many calls deep. -/
def callN (X : Ctx) : Nat → CallsT
  | 0 => fun _ _ _ => .no
  | n + 1 => runF X (loopN n) (callN X n)

end Go.Proofs.YtnhblghplohonaaGreatDoor.Ab
