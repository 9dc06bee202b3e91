/- Code; calls: the abstract evaluator. -/
import Derived.Test.YtdakmcoggmlglaaGreatAbPlan
set_option linter.all false
namespace Go.Ab
open Go.RowKit
noncomputable section

def exitCode : AExit → Option Code
  | .normal => none
  | .exit id => some (.exit id)
  | .goto l => some (.goto l)
  | .ret => some .ret

/-- a range over a function: the iterator is called -/
def rangeA (P : Program) (J : JobF) (f : Operand) (params : List Tmp) (assign body : Code) (s : ASt) (h : AHeap) : Out :=
  match s.round with
  | none => obind (aval s.t f) fun fv =>
      forceN h.next fun d => forceN (Nat.succ h.next) fun l =>
      match fv with
      | .fn g first cap => bif' (bodied P g) (obind (J (.fn g) ((first ++ [.yld l]) ++ cap) ((h.new (.dfr false)).new (.loop .ready none s.size s.t params assign body d))) fun p => obind (p.2.at l) fun o => match o with
        | .loop .ready none size' t' params' assign' body' d' =>
          some (.normal, ⟨s.size, s.t, .coll d :: s.defers, none⟩, p.2.put l (some (.loop .exhausted none size' t' params' assign' body' d')))
        | .loop .done (some (.exit id)) size' t' params' assign' body' d' =>
          some (.exit id, ⟨s.size, s.t, .coll d :: s.defers, none⟩, p.2.put l (some (.loop .exhausted (some (.exit id)) size' t' params' assign' body' d')))
        | .loop .done (some (.goto i)) size' t' params' assign' body' d' =>
          some (.goto i, ⟨s.size, s.t, .coll d :: s.defers, none⟩, p.2.put l (some (.loop .exhausted (some (.goto i)) size' t' params' assign' body' d')))
        | .loop .done (some .ret) size' t' params' assign' body' d' =>
          some (.ret, ⟨s.size, s.t, .coll d :: s.defers, none⟩, p.2.put l (some (.loop .exhausted (some .ret) size' t' params' assign' body' d')))
        | _ => none) none
      | _ => none
  | some _ => none

def cSkip : Run := fun s h => some (.normal, s, h)
def cDrawn (P : Program) (J : JobF) (ops : List Oper) (pl : Option (List PItem)) (s : ASt) (h : AHeap) : Out := obind pl fun pl => obind (runPlan P J ops pl s h) fun p => some (.normal, p)
def cPlain (P : Program) (J : JobF) (ops : List Oper) (s : ASt) (h : AHeap) : Out := obind (opsA P J ops ops s h) fun p => some (.normal, p)
def cRegion (P : Program) (J : JobF) (_ : Nat) (ops : Array Oper) (draw : Bool) : Run := bif' draw (cDrawn P J ops.toList (planOf P ops.toList)) (cPlain P J ops.toList)
def cSeq (_ _ : Code) (a b : Run) : Run := fun s h => obind (a s h) fun p => AExit.rec (b p.2.1 p.2.2) (fun _ => some p) (fun _ => some p) (some p) p.1
def cCond (x : Operand) (_ _ : Code) (a b : Run) : Run := fun s h => obind (aval (tmpsOf s) x) fun v => match v with
  | .bool t => bif' t (a s h) (b s h)
  | _ => none
def cBlock (id : Nat) (_ : Code) (b : Run) : Run := fun s h => obind (b s h) fun p => AExit.rec (some p) (fun i => bif' (Nat.beq i id) (some (.normal, p.2)) (some p)) (fun _ => some p) (some p) p.1
def loopN (b : Run) (n : Nat) : Run := Nat.rec (fun _ _ => none) (fun _ ih s h => obind (b s h) fun p => AExit.rec (ih p.2.1 p.2.2) (fun _ => some p) (fun _ => some p) (some p) p.1) n
def cLoop (L : Nat) (_ : Code) (b : Run) : Run := loopN b L
def cScope (_ : Code) (b : Run) : Run := fun s h => obind (b s h) fun p => AExit.rec (some p) (fun _ => some p) (fun _ => none) (some p) p.1

/-- code; L: how many rounds of a loop -/
def evC (P : Program) (J : JobF) (L : Nat) (c : Code) : Run :=
  Code.rec cSkip (cRegion P J) cSeq cCond cBlock (cLoop L) (fun f ps a b _ _ => rangeA P J f ps.toList a b) (fun id s h => some (.exit id, s, h)) cScope (fun _ => cSkip) (fun l s h => some (.goto l, s, h))
    (fun s h => some (.ret, s, h)) (fun _ _ _ => none) c

/-- deferred calls, the last one first -/
def dfrs (J : JobF) (l : List ADef) : AHeap → Option AHeap :=
  List.rec (fun h => some h) (fun d _ ih h => ADef.rec (fun f args cap => obind (J (.dfn f) (args ++ cap) h) fun p => ih p.2)
    (fun b => obind (h.at b) fun o => match o with
      | .dfr false => ih (h.put b (some (.dfr true)))
      | _ => none) d) l

def leaveA (P : Program) (J : JobF) (rs : List ResultVar) (s : ASt) (h : AHeap) : Option (AV × AHeap) :=
  ASt.rec (fun _ t df _ => obind (dfrs J df h) fun h' => obind (resultsA P t h' rs) fun l => some (oneOf l, h')) s

def leaveD (P : Program) (rs : List ResultVar) (s : ASt) (h : AHeap) : Option (AV × AHeap) :=
  match s.defers with
  | [] => obind (resultsA P s.t h rs) fun l => some (oneOf l, h)
  | _ => none

def callFn (P : Program) (J : JobF) (L : Nat) (f : FuncId) (args : List AV) (h : AHeap) : Option (AV × AHeap) :=
  obind P.funcs[f]? fun fn => obind fn.body fun body => bif' (Nat.ble args.length fn.ntmps)
    (obind (evC P J L body ⟨fn.ntmps, putArgs args 0 .empty, [], none⟩ h) fun p =>
      AExit.rec (leaveA P J fn.results.toList p.2.1 p.2.2) (fun _ => none) (fun _ => none) (leaveA P J fn.results.toList p.2.1 p.2.2) p.1) none

/-- a function that was deferred: it defers nothing itself -/
def callD (P : Program) (J : JobF) (L : Nat) (f : FuncId) (args : List AV) (h : AHeap) : Option (AV × AHeap) :=
  obind P.funcs[f]? fun fn => obind fn.body fun body => bif' (Nat.ble args.length fn.ntmps)
    (obind (evC P J L body ⟨fn.ntmps, putArgs args 0 .empty, [], none⟩ h) fun p =>
      AExit.rec (leaveD P fn.results.toList p.2.1 p.2.2) (fun _ => none) (fun _ => none) (leaveD P fn.results.toList p.2.1 p.2.2) p.1) none

def putPairs (l : List (Tmp × AV)) : TT AV → TT AV := List.rec (fun t => t) (fun p _ ih t => ih (t.put p.1 (some p.2))) l

/-- behind a round -/
def roundEnd (b : Nat) (e : AExit) (s : ASt) (h : AHeap) : Option (AV × AHeap) :=
  match s.defers with
  | [] => obind (h.at b) fun o => match o with
    | .loop .busy _ size t params assign body d =>
      match exitCode e with
      | none => some (.bool true, h.put b (some (.loop .ready none size t params assign body d)))
      | some c => some (.bool false, h.put b (some (.loop .done (some c) size t params assign body d)))
    | _ => none
  | _ => none

/-- a round of a range over a function -/
def roundA (P : Program) (J : JobF) (L : Nat) (b : Nat) (args : List AV) (h : AHeap) : Option (AV × AHeap) :=
  obind (h.at b) fun o => match o with
  | .loop .ready _ size t params assign body _ => bif' (Nat.beq args.length params.length) (bif' (params.all fun p => Nat.blt p size)
        (obind (evC P J L assign ⟨size, putPairs (params.zip args) t, [], some b⟩ h) fun p => match p.1 with
          | .normal => match p.2.1.defers with
            | [] => obind (p.2.2.at b) fun o => match o with
              | .loop .ready pend' size' t0 params' assign' body' d' =>
                obind (evC P J L body p.2.1 (p.2.2.put b (some (.loop .busy pend' size' t0 params' assign' body' d')))) fun q => roundEnd b q.1 q.2.1 q.2.2
              | _ => none
            | _ => none
          | _ => none) none) none
  | _ => none

/-- n: how deep calls may go -/
def job (P : Program) (L : Nat) (n : Nat) : JobF :=
  Nat.rec (fun _ _ _ => none) (fun _ ih j => Job.rec (callFn P ih L) (callD P ih L) (roundA P ih L) j) n

end
end Go.Ab
