/- One operation; a region; code; calls: the abstract evaluator. -/
import Derived.Test.YtdakmcoggmlglaaGreatAbEq
set_option linter.all false
namespace Go.Ab
open Go.RowKit
noncomputable section

/-- a deferred call: of a Go function; or the mark of a range over a function -/
inductive ADef where
  | call (f : FuncId) (args captured : List AV)
  | coll (b : Nat)

/-- temporaries: how many, which; the deferred calls; the round of a range over a function that this is -/
structure ASt where
  size : Nat
  t : TT AV
  defers : List ADef
  round : Option Nat

inductive AExit where
  | normal
  | exit (id : Nat)
  | goto (l : Nat)
  | ret

/-- what an operation comes to -/
inductive AN where
  | val (v : Option AV)
  | skip
  | enter (f : FuncId) (args : List AV)
  | yld (b : Nat) (args : List AV)
  | dfr (d : ADef)

def aval (t : TT AV) (x : Operand) : Option AV :=
  match x with
  | .tmp i => t.at i
  | .const v => ofV v
  | .func f => some (.fn f [] [])
  | .global _ => none

def avals (t : TT AV) (l : List Operand) : Option (List AV) :=
  List.rec (some []) (fun x _ ih => obind (aval t x) fun v => obind ih fun vs => some (v :: vs)) l

def aparts (t : TT AV) (l : List (Nat × Operand)) : Option (List (Nat × AV)) :=
  List.rec (some []) (fun x _ ih => obind (aval t x.2) fun v => obind ih fun vs => some ((x.1, v) :: vs)) l

def oaval (t : TT AV) (x : Option Operand) : Option (Option AV) :=
  match x with
  | none => some none
  | some x => obind (aval t x) fun v => some (some v)

def nilCheckA (v : AV) : Option AV :=
  match v with
  | .ptr b o => some (.ptr b o)
  | .iface t v => some (.iface t v)
  | .fn f a c => some (.fn f a c)
  | _ => none

def extractA (v : AV) (i : Nat) : Option AV :=
  match v with
  | .tup vs => vs[i]?
  | _ => none

def notIface : TypeDesc → Bool
  | .interface _ => false
  | _ => true

def mkIfaceA (P : Program) (t : TypeId) (v : AV) : Option AV :=
  obind (P.underlying t) fun d => bif' (notIface d) (some (.iface t v)) none

def fnA (f : Fn) (first captured : List AV) : Option AV :=
  match f with
  | .func f => some (.fn f first captured)
  | .method name => some (.meth name first captured)
  | _ => none

def isPtrD : TypeDesc → Bool
  | .pointer _ => true
  | _ => false

/-- the method of a pointer type that has a pointer receiver, and no promotion -/
def methA (P : Program) (t : TypeId) (name : String) : Option FuncId :=
  obind (P.info? t) fun i => obind (i.methods.find? (·.name == name)) fun m => bif' m.path.toList.isEmpty
    (obind m.func fun p => bif' p.2 (obind (P.underlying t) fun d => bif' (isPtrD d) (some p.1) none) none) none

/-- has the function a Go body? -/
def bodied (P : Program) (f : FuncId) : Bool :=
  match P.funcs[f]? with
  | some fn => bif' (fn.name == "runtime.NumGoroutine") false fn.body.isSome
  | none => false

def enterA (P : Program) (f : FuncId) (args : List AV) : Option AN := bif' (bodied P f) (some (.enter f args)) none

def callA (P : Program) (f : AV) (args : List AV) : Option AN :=
  match f with
  | .fn f first cap => enterA P f ((first ++ args) ++ cap)
  | .meth name first _ => match first ++ args with
    | .iface t v :: rest => obind (methA P t name) fun f => enterA P f (v :: rest)
    | _ => none
  | .yld b => some (.yld b args)
  | _ => none

def builtinA (P : Program) (b : Builtin) (ts : List TypeId) (args : List AV) (h : AHeap) : Option (AN × AHeap) :=
  match b with
  | .append => match ts, args with
    | [s, x], [sv, xv] => obind (appendA P s x sv xv h) fun p => some (.val (some p.1), p.2)
    | _, _ => none
  | .copy => match ts, args with
    | [s, _], [sv, xv] => obind (copyA P s sv xv h) fun p => some (.val (some p.1), p.2)
    | _, _ => none
  | .len => match ts, args with
    | [t], [x] => obind (builtinLenA P t x h) fun v => some (.val (some v), h)
    | _, _ => none
  | .delete => match ts, args with
    | [t, _], [m, k] => obind (deleteA P t m k h) fun h' => some (.val (some (.tup [])), h')
    | _, _ => none
  | .clear => match ts, args with
    | [t], [x] => obind (clearA P t x h) fun h' => some (.val (some (.tup [])), h')
    | _, _ => none
  | .min => obind (minmaxA false args) fun v => some (.val (some v), h)
  | .max => obind (minmaxA true args) fun v => some (.val (some v), h)
  | _ => none

def callOpA (P : Program) (t : TT AV) (c : Call) (h : AHeap) : Option (AN × AHeap) :=
  match c.callee with
  | .value f => obind (aval t f) fun fv => obind (avals t c.args.toList) fun args => obind (callA P fv args) fun n => some (n, h)
  | .invoke r name => obind (aval t r) fun rv => obind (avals t c.args.toList) fun args => match rv with
    | .iface ty v => obind (methA P ty name) fun f => obind (enterA P f (v :: args)) fun n => some (n, h)
    | _ => none
  | .builtin b => obind (avals t c.args.toList) fun args => builtinA P b c.argTypes.toList args h

def typeAssertA (P : Program) (v : AV) (asserted : TypeId) (ok : Bool) : Option AV :=
  obind (P.underlying asserted) fun d => bif' (notIface d) (match v with
    | .iface t x => bif' (Nat.beq t asserted) (some (bif' ok (.tup [x, .bool true]) x))
        (bif' ok (obind (zeroOf P asserted) fun z => some (.tup [z, .bool false])) none)
    | .nili => bif' ok (obind (zeroOf P asserted) fun z => some (.tup [z, .bool false])) none
    | _ => none) none

/-- a value, the heap as it was -/
def stay (h : AHeap) (x : Option AV) : Option (AN × AHeap) := obind x fun v => some (.val (some v), h)
/-- a value that may be unknown -/
def stayo (h : AHeap) (x : Option AV) : Option (AN × AHeap) := some (.val x, h)
def gone (x : Option AHeap) : Option (AN × AHeap) := obind x fun h => some (.skip, h)
def both (x : Option (AV × AHeap)) : Option (AN × AHeap) := obind x fun p => some (.val (some p.1), p.2)

abbrev XF := ASt → AHeap → Option (AN × AHeap)

def tmpsOf (s : ASt) : TT AV := ASt.rec (fun _ t _ _ => t) s
def roundOf (s : ASt) : Option Nat := ASt.rec (fun _ _ _ r => r) s

def xMove (x : Operand) : XF := fun s h => stayo h (aval (tmpsOf s) x)
def xPick (c a b : Operand) : XF := fun s h => obind (aval (tmpsOf s) c) fun cv => match cv with
  | .bool cb => stayo h (bif' cb (aval (tmpsOf s) a) (aval (tmpsOf s) b))
  | _ => none
def xAlloc (P : Program) (e : TypeId) : XF := fun _ h => both (allocA P e h)
def xBox (_ : TypeId) (x : Operand) : XF := fun s h => obind (aval (tmpsOf s) x) fun v => both (boxA v h)
def xBuild (P : Program) (t : TypeId) (ps : Array (Nat × Operand)) : XF := fun s h => obind (aparts (tmpsOf s) ps.toList) fun l => stay h (buildA P t l)
def xBuildSlice (P : Program) (t : TypeId) (n : Nat) (ps : Array (Nat × Operand)) : XF := fun s h => obind (aparts (tmpsOf s) ps.toList) fun l => both (buildSliceA P t n l h)
def xUpdate (P : Program) (t : TypeId) (m k x : Operand) : XF := fun s h => obind (aval (tmpsOf s) m) fun mv => obind (aval (tmpsOf s) k) fun kv => obind (aval (tmpsOf s) x) fun v => gone (updateA P t mv kv v h)
def xLoad (P : Program) (t : TypeId) (a : Operand) : XF := fun s h => obind (aval (tmpsOf s) a) fun v => stay h (loadA P t v h)
def xStore (P : Program) (t : TypeId) (a x : Operand) : XF := fun s h => obind (aval (tmpsOf s) a) fun v => obind (aval (tmpsOf s) x) fun u => gone (storeA P t v u h)
def xNilCheck (x : Operand) : XF := fun s h => obind (aval (tmpsOf s) x) fun v => stay h (nilCheckA v)
def xBin (P : Program) (op : BinOp) (t : TypeId) (x y : Operand) (_ : TypeId) : XF := fun s h => obind (aval (tmpsOf s) x) fun v => obind (aval (tmpsOf s) y) fun u =>
  bif' (eqGuardA P t (bif' (isConstO x) true (isConstO y)) v u) (stay h (binA P op t v u h)) none
def xUn (op : UnOp) (_ : TypeId) (x : Operand) : XF := fun s h => obind (aval (tmpsOf s) x) fun v => stay h (unA op v)
def xConv (P : Program) (a b : TypeId) (x : Operand) : XF := fun s h => obind (aval (tmpsOf s) x) fun v => both (convA P a b v h)
def xArrayAt (P : Program) (t : TypeId) (x : Operand) : XF := fun s h => obind (aval (tmpsOf s) x) fun v => stay h (arrayAtA P t v)
def xMkIface (P : Program) (t : TypeId) (x : Operand) : XF := fun s h => obind (aval (tmpsOf s) x) fun v => stay h (mkIfaceA P t v)
def xMkFunc (f : Fn) (a c : Array Operand) : XF := fun s h => obind (avals (tmpsOf s) a.toList) fun l => obind (avals (tmpsOf s) c.toList) fun m => stay h (fnA f l m)
def xMkMap (_ : TypeId) (r : Option Operand) : XF := fun _ h => match r with
  | none => both (makeMapA h)
  | some _ => none
def xMkSlice (P : Program) (t : TypeId) (l c : Operand) : XF := fun s h => obind (aval (tmpsOf s) l) fun v => obind (aval (tmpsOf s) c) fun u => both (makeSliceA P t v u h)
def xSlice (P : Program) (t : TypeId) (x : Operand) (lo hi mx : Option Operand) : XF := fun s h => obind (aval (tmpsOf s) x) fun v => obind (oaval (tmpsOf s) lo) fun l => obind (oaval (tmpsOf s) hi) fun hh => obind (oaval (tmpsOf s) mx) fun m => stay h (sliceA P t v l hh m)
def xFieldAddr (P : Program) (t : TypeId) (x : Operand) (f : Nat) : XF := fun s h => obind (aval (tmpsOf s) x) fun v => stay h (fieldAtA P t v f)
def xField (P : Program) (t : TypeId) (x : Operand) (f : Nat) : XF := fun s h => obind (aval (tmpsOf s) x) fun v => stay h (fieldA P t v f)
def xIndexAddr (P : Program) (t : TypeId) (x i : Operand) : XF := fun s h => obind (aval (tmpsOf s) x) fun v => obind (aval (tmpsOf s) i) fun u => stay h (indexAtA P t v u)
def xIndex (P : Program) (t : TypeId) (x i : Operand) : XF := fun s h => obind (aval (tmpsOf s) x) fun v => obind (aval (tmpsOf s) i) fun u => stay h (indexA P t v u)
def xLookup (P : Program) (t : TypeId) (x k : Operand) (ok : Bool) : XF := fun s h => obind (aval (tmpsOf s) x) fun v => obind (aval (tmpsOf s) k) fun u => stay h (lookupA P t v u ok h)
def xAssert (P : Program) (x : Operand) (_ a : TypeId) (ok : Bool) : XF := fun s h => obind (aval (tmpsOf s) x) fun v => stay h (typeAssertA P v a ok)
def xExtract (x : Operand) (i : Nat) : XF := fun s h => obind (aval (tmpsOf s) x) fun v => stay h (extractA v i)
def xCall (P : Program) (c : Call) : XF := fun s h => callOpA P (tmpsOf s) c h
def xDefer (P : Program) (c : Call) : XF := fun s h => match roundOf s with
  | none => match c.callee with
    | .value f => obind (aval (tmpsOf s) f) fun fv => obind (avals (tmpsOf s) c.args.toList) fun args => match fv with
      | .fn g first cap => bif' (bodied P g) (some (.dfr (.call g (first ++ args) cap), h)) none
      | _ => none
    | _ => none
  | some _ => none

/-- one operation, by its kind -/
def execT (P : Program) (o : Op) : XF :=
  Op.rec xMove xMove xPick (xAlloc P) xBox (xBuild P) (xBuildSlice P) (xUpdate P) (xLoad P) (xStore P) (fun _ _ _ => none) (fun _ _ _ => none) xNilCheck (xBin P) xUn (xConv P) (xArrayAt P) (xMkIface P) xMkFunc
    xMkMap (fun _ _ _ _ => none) (xMkSlice P) (xSlice P) (xFieldAddr P) (xField P) (xIndexAddr P) (xIndex P) (xLookup P) (xUpdate P) (fun _ _ _ _ _ => none) (fun _ _ _ _ _ _ => none) (fun _ _ _ _ => none)
    (fun _ _ _ _ => none) (fun _ _ _ => none) (xAssert P) xExtract (xCall P) (fun _ _ _ => none) (xDefer P) (fun _ _ _ => none) (fun _ _ _ _ => none) (fun _ _ _ _ _ => none) (fun _ _ _ _ => none) o

/-- a temporary is set -/
def putS (s : ASt) (d : Option Tmp) (v : Option AV) : Option ASt :=
  Option.rec (some s) (fun d => ASt.rec (fun size t df rd => bif' (Nat.blt d size) (some ⟨size, t.put d v, df, rd⟩) none) s) d

def pushD (s : ASt) (d : ADef) : ASt := ASt.rec (fun size t df rd => ⟨size, t, d :: df, rd⟩) s

def putArgs (l : List AV) : Nat → TT AV → TT AV :=
  List.rec (fun _ t => t) (fun v _ ih i t => ih (Nat.succ i) (t.put i (some v))) l

/-- the results of a function -/
def resultA (P : Program) (t : TT AV) (h : AHeap) (r : ResultVar) : Option AV :=
  match r with
  | .tmp i => t.at i
  | .cell a ty => obind (t.at a) fun v => loadA P ty v h

def resultsA (P : Program) (t : TT AV) (h : AHeap) (l : List ResultVar) : Option (List AV) :=
  List.rec (some []) (fun r _ ih => obind (resultA P t h r) fun v => obind ih fun vs => some (v :: vs)) l

def oneOf (l : List AV) : AV :=
  match l with
  | [v] => v
  | l => .tup l

/-- what is carried out: a function, or a round of a range over a function -/
inductive Job where
  | fn (f : FuncId)
  | dfn (f : FuncId)
  | rnd (b : Nat)

abbrev JobF := Job → List AV → AHeap → Option (AV × AHeap)
abbrev Out := Option (AExit × ASt × AHeap)
abbrev Run := ASt → AHeap → Out

def keepS (s : ASt) (d : Option Tmp) (v : Option AV) (h : AHeap) : Option (ASt × AHeap) := obind (putS s d v) fun s' => some (s', h)

/-- behind an operation: calls are carried out -/
def finish (J : JobF) (s : ASt) (d : Option Tmp) (x : AN) (h : AHeap) : Option (ASt × AHeap) :=
  AN.rec (fun v => keepS s d v h) (keepS s d (some (.tup [])) h) (fun f args => obind (J (.fn f) args h) fun p => keepS s d (some p.1) p.2)
    (fun b args => obind (J (.rnd b) args h) fun p => keepS s d (some p.1) p.2) (fun df => keepS (pushD s df) d (some (.tup [])) h) x

def opGo (P : Program) (J : JobF) (o : Oper) (s : ASt) (h : AHeap) : Option (ASt × AHeap) := obind (execT P o.op s h) fun x => finish J s o.dst x.1 x.2

/-- is the operation wanted? -/
def wantA (s : ASt) (ops : List Oper) (j : Nat) (want : Bool) : Option Bool :=
  obind ops[j]? fun g => obind g.dst fun d => obind ((tmpsOf s).at d) fun v => match v with
    | .bool b => some (beqB b want)
    | .tup _ => some false
    | _ => none

def opA (P : Program) (J : JobF) (ops : List Oper) (o : Oper) (s : ASt) (h : AHeap) : Option (ASt × AHeap) :=
  Option.rec (opGo P J o s h) (fun g => obind (wantA s ops g.1 g.2) fun w => bif' w (opGo P J o s h) (keepS s o.dst (some (.tup [])) h)) o.guard

def opsA (P : Program) (J : JobF) (ops : List Oper) (todo : List Oper) : ASt → AHeap → Option (ASt × AHeap) :=
  List.rec (fun s h => some (s, h)) (fun o _ ih s h => obind (opA P J ops o s h) fun p => ih p.1 p.2) todo

end
end Go.Ab
