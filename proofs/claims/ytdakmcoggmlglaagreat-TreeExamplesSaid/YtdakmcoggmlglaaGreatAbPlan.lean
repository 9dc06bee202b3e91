/- A region that draws its order: in which order the evaluator takes its operations, and what it looks at again. -/
import Derived.Test.YtdakmcoggmlglaaGreatAbExec
set_option linter.all false
namespace Go.Ab
open Go.RowKit
noncomputable section

/-- 0: asks nothing of memory; 1: reads; 2: makes a block and nothing more; 3: acts -/
def kindOp (P : Program) (o : Op) : Nat :=
  match o with
  | .move _ => 0
  | .pick _ _ _ => 0
  | .build _ _ => 0
  | .nilCheck _ => 0
  | .binOp op _ _ _ _ => match op with
    | .eql => 1
    | .neq => 1
    | _ => 0
  | .unOp _ _ _ => 0
  | .sliceToArrayPointer _ _ => 0
  | .makeInterface _ _ => 0
  | .makeFunc _ _ _ => 0
  | .slice _ _ _ _ _ => 0
  | .fieldAddr _ _ _ => 0
  | .field _ _ _ => 0
  | .indexAddr _ _ _ => 0
  | .index _ _ _ => 0
  | .typeAssert _ _ _ _ => 0
  | .extract _ _ => 0
  | .load _ _ => 1
  | .lookup _ _ _ _ => 1
  | .convert a b _ => match P.underlying b with
    | some (.int _) => 0
    | some .string => 1
    | some (.slice _) => match P.underlying a with
      | some .string => 2
      | _ => 3
    | _ => 3
  | .alloc _ => 2
  | .buildSlice _ _ _ => 2
  | .makeMap _ none => 2
  | .call c => match c.callee with
    | .builtin .len => 1
    | _ => 3
  | _ => 3

def kindOf (P : Program) (o : Oper) : Nat :=
  match o.guard with
  | none => kindOp P o.op
  | some _ => bif' (Nat.beq (kindOp P o.op) 2) 3 (kindOp P o.op)

def bindsAny (e : Edge) : Bool :=
  match e.ground with
  | .textOnly _ => false
  | .gcOnly _ => false
  | _ => true

def has (m i : Nat) : Bool := Nat.beq (Nat.mod (Nat.div m (Nat.pow 2 i)) 2) 1
def withBit (m i : Nat) : Nat := Nat.lor m (Nat.pow 2 i)
def within (a b : Nat) : Bool := Nat.beq (Nat.land a b) a

def edgeMask (p : Edge → Bool) (es : List Edge) : Nat := List.rec 0 (fun e _ ih => bif' (p e) (withBit ih e.on) ih) es

/-- an operation of the region: its number, itself, its kind, what it waits for (at once; at all), the temporaries that it looks at -/
structure PRow where
  ix : Nat
  op : Oper
  kind : Nat
  dep : Nat
  bef : Nat
  look : Nat

/-- a step of the evaluator: what it does; what it looks at again behind it; way 0: quiet; 1: a block ahead of its time; 2: nothing else could come now -/
structure PItem where
  row : PRow
  re : List Oper
  way : Nat

def befOf (rows : List PRow) (dep : Nat) : Nat := List.rec 0 (fun r _ ih => bif' (has dep r.ix) (Nat.lor ih r.bef) ih) rows

def tmpMask (xs : List Operand) : Nat := List.rec 0 (fun x _ ih => match x with
  | .tmp i => withBit ih i
  | _ => ih) xs

def guardMask (ops : List Oper) (g : Option (Nat × Bool)) (m : Nat) : Nat :=
  match g with
  | none => m
  | some g => match ops[g.1]? with
    | none => m
    | some o => match o.dst with
      | none => m
      | some d => withBit m d

def lookOf (ops : List Oper) (o : Oper) : Nat := guardMask ops o.guard (tmpMask o.op.operands.toList)

def mkRow (P : Program) (ops : List Oper) (i : Nat) (o : Oper) (acc : List PRow) (dep : Nat) : PRow := ⟨i, o, kindOf P o, dep, Nat.lor dep (befOf acc dep), lookOf ops o⟩

def mkRows (P : Program) (ops : List Oper) (todo : List Oper) : Nat → List PRow → List PRow :=
  List.rec (fun _ acc => acc) (fun o _ ih i acc => ih (Nat.succ i) (mkRow P ops i o acc (edgeMask bindsAny o.after.toList) :: acc)) todo

def readyR (D : Nat) (r : PRow) : Bool := bif' (has D r.ix) false (within r.dep D)

def rereads (rows : List PRow) (D but : Nat) : List Oper :=
  List.rec [] (fun r _ ih => bif' (Nat.beq r.kind 1) (bif' (has D r.ix) (bif' (has but r.ix) ih (r.op :: ih)) ih) ih) rows

def pickR (p : PRow → Bool) (rows : List PRow) : Option PRow := List.rec none (fun r _ ih => bif' (p r) (some r) ih) rows
def keepR (p : PRow → Bool) (rows : List PRow) : List PRow := List.rec [] (fun r _ ih => bif' (p r) (r :: ih) ih) rows

/-- the next one -/
def nextItem (rows : List PRow) (D : Nat) : Option PItem :=
  match pickR (fun r => bif' (readyR D r) (Nat.ble r.kind 1) false) rows with
  | some r => some ⟨r, [], 0⟩
  | none => match keepR (readyR D) rows with
    | [] => none
    | [r] => some ⟨r, rereads rows D r.bef, 2⟩
    | rs => match pickR (fun r => Nat.beq r.kind 2) rs with
      | some r => some ⟨r, rereads rows D 0, 1⟩
      | none => none

def allIn (rows : List PRow) (D : Nat) : Bool := List.rec true (fun r _ ih => bif' (has D r.ix) ih false) rows

def planGo (rows : List PRow) (n : Nat) : Nat → Option (List PItem) :=
  Nat.rec (fun D => bif' (allIn rows D) (some []) none) (fun _ ih D => obind (nextItem rows D) fun it => obind (ih (withBit D it.row.ix)) fun l => some (it :: l)) n

def dstIn (d : Option Tmp) (m : Nat) : Bool := Option.rec false (fun d => has m d) d
def sameDst (d e : Option Tmp) : Bool := Option.rec false (fun d => Option.rec false (fun e => Nat.beq d e) e) d

/-- the quiet step I stands ahead of K -/
def pairOk (I K : PItem) : Bool :=
  bif' (Nat.beq I.way 2) true
    (bif' (bif' (has K.row.bef I.row.ix) true (bnot (dstIn I.row.op.dst K.row.look)))
      (bif' (bif' (Nat.beq K.way 2) (has K.row.bef I.row.ix) false) true
        (bif' (dstIn K.row.op.dst I.row.look) false (bnot (sameDst K.row.op.dst I.row.op.dst)))) false)

def selfOk (I : PItem) : Bool := bif' (Nat.beq I.way 2) true (bnot (dstIn I.row.op.dst I.row.look))

def pairsOk (l : List PItem) : Bool :=
  List.rec true (fun I rest ih => bif' (selfOk I) (bif' (List.rec true (fun K _ k => bif' (pairOk I K) k false) rest) ih false) false) l

/-- the order of the plan is a way through the region, whichever edges bind -/
def reachOnce (p : Edge → Bool) (rows : List PRow) (D : Nat) : Nat :=
  List.rec (fun D => D) (fun r _ ih D => ih (bif' (within (edgeMask p r.op.after.toList) D) (withBit D r.ix) D)) rows D

def reachN (p : Edge → Bool) (rows : List PRow) (n : Nat) : Nat := Nat.rec 0 (fun _ ih => reachOnce p rows ih) n

def bindsText (e : Edge) : Bool :=
  match e.ground with
  | .gcOnly _ => false
  | _ => true

def bindsGc (e : Edge) : Bool :=
  match e.ground with
  | .textOnly _ => false
  | _ => true

def wayOut (rows : List PRow) : Bool := bif' (allIn rows (reachN bindsAny rows 4)) (bif' (allIn rows (reachN bindsText rows 4)) (allIn rows (reachN bindsGc rows 4)) false) false

def rowsOf (P : Program) (ops : List Oper) : List PRow := List.reverse (mkRows P ops ops 0 [])

def planOf (P : Program) (ops : List Oper) : Option (List PItem) :=
  bif' (wayOut (rowsOf P ops)) (obind (planGo (rowsOf P ops) ops.length 0) fun pl => bif' (pairsOk pl) (some pl) none) none

/-! the plan is carried out -/

def quietV (x : Option (AN × AHeap)) : Option (Option AV) := obind x fun p => match p.1 with
  | .val v => some v
  | _ => none

/-- what a quiet operation yields -/
def evalQ (P : Program) (ops : List Oper) (o : Oper) (s : ASt) (h : AHeap) : Option (Option AV) :=
  match o.guard with
  | none => quietV (execT P o.op s h)
  | some g => obind (wantA s ops g.1 g.2) fun w => bif' w (quietV (execT P o.op s h)) (some (some (.tup [])))

/-- the same, to the letter -/
def sameRow (same : AV → AV → Bool) (r : Row) : Row → Bool :=
  List.rec (fun q => match q with
    | [] => true
    | _ => false) (fun a _ ih q => match q with
    | [] => false
    | b :: q => match a, b with
      | .bytes n N, .bytes m M => bif' (Nat.beq n m) (bif' (Nat.beq N M) (ih q) false) false
      | .one v, .one u => bif' (same v u) (ih q) false
      | _, _ => false) r

def sameV (n : Nat) : AV → AV → Bool :=
  Nat.rec (fun _ _ => false) (fun _ ih x y => match x, y with
    | .int k a, .int k' b => bif' (Nat.beq (kidx k) (kidx k')) (ieq a b) false
    | .bool a, .bool b => beqB a b
    | .str n N, .str m M => bif' (Nat.beq n m) (Nat.beq N M) false
    | .nilp, .nilp => true
    | .ptr b o, .ptr c p => bif' (Nat.beq b c) (Nat.beq o p) false
    | .nils, .nils => true
    | .slice b o l k, .slice b' o' l' k' => bif' (Nat.beq b b') (bif' (Nat.beq o o') (bif' (Nat.beq l l') (Nat.beq k k') false) false) false
    | .sliceu b o l k, .sliceu b' o' l' k' => bif' (Nat.beq b b') (bif' (Nat.beq o o') (bif' (Nat.beq l l') (Nat.beq k k') false) false) false
    | .nilm, .nilm => true
    | .map b, .map c => Nat.beq b c
    | .nilf, .nilf => true
    | .nili, .nili => true
    | .iface t v, .iface t' u => bif' (Nat.beq t t') (ih v u) false
    | .agg r, .agg q => sameRow ih r q
    | _, _ => false) n

/-- is it still so? -/
def again (P : Program) (ops : List Oper) (s : ASt) (h : AHeap) (o : Oper) : Bool :=
  match evalQ P ops o s h with
  | none => false
  | some v => match o.dst with
    | none => true
    | some d => match s.t.at d with
      | none => true
      | some u => match v with
        | none => false
        | some v => sameV 20 v u

def againAll (P : Program) (ops : List Oper) (s : ASt) (h : AHeap) (l : List Oper) : Bool := List.rec true (fun o _ ih => bif' (again P ops s h o) ih false) l

def runItem (P : Program) (J : JobF) (ops : List Oper) (it : PItem) (s : ASt) (h : AHeap) : Option (ASt × AHeap) :=
  bif' (Nat.beq it.way 0) (obind (evalQ P ops it.row.op s h) fun v => keepS s it.row.op.dst v h)
    (obind (opA P J ops it.row.op s h) fun p => bif' (againAll P ops p.1 p.2 it.re) (some p) none)

def runPlan (P : Program) (J : JobF) (ops : List Oper) (l : List PItem) : ASt → AHeap → Option (ASt × AHeap) :=
  List.rec (fun s h => some (s, h)) (fun it _ ih s h => obind (runItem P J ops it s h) fun p => ih p.1 p.2) l

end
end Go.Ab
