/- The evaluator in boxes: what hangs on the text alone is reckoned once; operands, cases of a value. -/
import Derived.Test.YtdakmcoggmlglaaGreatAbEval
set_option linter.all false
set_option linter.unusedVariables false
namespace Go.Ab
open Go.RowKit
noncomputable section

variable {α β : Type}

structure Ctx where
  J : JobF
  df : List ADef
  rd : Option Nat

abbrev KN := Ctx → TT AV → AHeap → Out
abbrev KV := Option AV → KN

structure NB where
  run : KN
structure VB where
  run : KV
structure OB where
  run : TT AV → Option AV
structure CB (α : Type) where
  run : AV → α

def cInt (s : AV → α) (f : IntKind → Int → α) : CB α := ⟨fun v => AV.rec (motive_1 := fun _ => α) (motive_2 := fun _ => Unit) (motive_3 := fun _ => Unit) (motive_4 := fun _ => Unit)
    (fun b => s (.bool b)) (fun k n => f k n) (fun n N => s (.str n N)) (s .nilp) (fun b o => s (.ptr b o)) (s .nils) (fun b o l m => s (.slice b o l m)) (fun b o l m => s (.sliceu b o l m)) (s .nilm) (fun b => s (.map b)) (fun g a q _ _ => s (.fn g a q)) (fun g a q _ _ => s (.meth g a q)) (fun b => s (.yld b)) (s .nilf) (fun ty v _ => s (.iface ty v)) (s .nili) (fun r _ => s (.agg r)) (fun vs _ => s (.tup vs)) (fun i => s (.opq i)) (fun _ _ => ()) (fun _ _ => ()) () (fun _ _ _ _ => ()) () (fun _ _ _ _ => ()) v⟩
def cBool (s : AV → α) (f : Bool → α) : CB α := ⟨fun v => AV.rec (motive_1 := fun _ => α) (motive_2 := fun _ => Unit) (motive_3 := fun _ => Unit) (motive_4 := fun _ => Unit)
    (fun b => f b) (fun k n => s (.int k n)) (fun n N => s (.str n N)) (s .nilp) (fun b o => s (.ptr b o)) (s .nils) (fun b o l m => s (.slice b o l m)) (fun b o l m => s (.sliceu b o l m)) (s .nilm) (fun b => s (.map b)) (fun g a q _ _ => s (.fn g a q)) (fun g a q _ _ => s (.meth g a q)) (fun b => s (.yld b)) (s .nilf) (fun ty v _ => s (.iface ty v)) (s .nili) (fun r _ => s (.agg r)) (fun vs _ => s (.tup vs)) (fun i => s (.opq i)) (fun _ _ => ()) (fun _ _ => ()) () (fun _ _ _ _ => ()) () (fun _ _ _ _ => ()) v⟩
def cPtr (s : AV → α) (f : Nat → Nat → α) : CB α := ⟨fun v => AV.rec (motive_1 := fun _ => α) (motive_2 := fun _ => Unit) (motive_3 := fun _ => Unit) (motive_4 := fun _ => Unit)
    (fun b => s (.bool b)) (fun k n => s (.int k n)) (fun n N => s (.str n N)) (s .nilp) (fun b o => f b o) (s .nils) (fun b o l m => s (.slice b o l m)) (fun b o l m => s (.sliceu b o l m)) (s .nilm) (fun b => s (.map b)) (fun g a q _ _ => s (.fn g a q)) (fun g a q _ _ => s (.meth g a q)) (fun b => s (.yld b)) (s .nilf) (fun ty v _ => s (.iface ty v)) (s .nili) (fun r _ => s (.agg r)) (fun vs _ => s (.tup vs)) (fun i => s (.opq i)) (fun _ _ => ()) (fun _ _ => ()) () (fun _ _ _ _ => ()) () (fun _ _ _ _ => ()) v⟩
def cSlice (s : AV → α) (f g : Nat → Nat → Nat → Nat → α) : CB α := ⟨fun v => AV.rec (motive_1 := fun _ => α) (motive_2 := fun _ => Unit) (motive_3 := fun _ => Unit) (motive_4 := fun _ => Unit)
    (fun b => s (.bool b)) (fun k n => s (.int k n)) (fun n N => s (.str n N)) (s .nilp) (fun b o => s (.ptr b o)) (s .nils) (fun b o l m => f b o l m) (fun b o l m => g b o l m) (s .nilm) (fun b => s (.map b)) (fun g a q _ _ => s (.fn g a q)) (fun g a q _ _ => s (.meth g a q)) (fun b => s (.yld b)) (s .nilf) (fun ty v _ => s (.iface ty v)) (s .nili) (fun r _ => s (.agg r)) (fun vs _ => s (.tup vs)) (fun i => s (.opq i)) (fun _ _ => ()) (fun _ _ => ()) () (fun _ _ _ _ => ()) () (fun _ _ _ _ => ()) v⟩
def cAgg (s : AV → α) (f : Row → α) : CB α := ⟨fun v => AV.rec (motive_1 := fun _ => α) (motive_2 := fun _ => Unit) (motive_3 := fun _ => Unit) (motive_4 := fun _ => Unit)
    (fun b => s (.bool b)) (fun k n => s (.int k n)) (fun n N => s (.str n N)) (s .nilp) (fun b o => s (.ptr b o)) (s .nils) (fun b o l m => s (.slice b o l m)) (fun b o l m => s (.sliceu b o l m)) (s .nilm) (fun b => s (.map b)) (fun g a q _ _ => s (.fn g a q)) (fun g a q _ _ => s (.meth g a q)) (fun b => s (.yld b)) (s .nilf) (fun ty v _ => s (.iface ty v)) (s .nili) (fun r _ => f r) (fun vs _ => s (.tup vs)) (fun i => s (.opq i)) (fun _ _ => ()) (fun _ _ => ()) () (fun _ _ _ _ => ()) () (fun _ _ _ _ => ()) v⟩
def cTup (s : AV → α) (f : List AV → α) : CB α := ⟨fun v => AV.rec (motive_1 := fun _ => α) (motive_2 := fun _ => Unit) (motive_3 := fun _ => Unit) (motive_4 := fun _ => Unit)
    (fun b => s (.bool b)) (fun k n => s (.int k n)) (fun n N => s (.str n N)) (s .nilp) (fun b o => s (.ptr b o)) (s .nils) (fun b o l m => s (.slice b o l m)) (fun b o l m => s (.sliceu b o l m)) (s .nilm) (fun b => s (.map b)) (fun g a q _ _ => s (.fn g a q)) (fun g a q _ _ => s (.meth g a q)) (fun b => s (.yld b)) (s .nilf) (fun ty v _ => s (.iface ty v)) (s .nili) (fun r _ => s (.agg r)) (fun vs _ => f vs) (fun i => s (.opq i)) (fun _ _ => ()) (fun _ _ => ()) () (fun _ _ _ _ => ()) () (fun _ _ _ _ => ()) v⟩
def cBoolTup (s : AV → α) (f : Bool → α) (g : List AV → α) : CB α := ⟨fun v => AV.rec (motive_1 := fun _ => α) (motive_2 := fun _ => Unit) (motive_3 := fun _ => Unit) (motive_4 := fun _ => Unit)
    (fun b => f b) (fun k n => s (.int k n)) (fun n N => s (.str n N)) (s .nilp) (fun b o => s (.ptr b o)) (s .nils) (fun b o l m => s (.slice b o l m)) (fun b o l m => s (.sliceu b o l m)) (s .nilm) (fun b => s (.map b)) (fun g a q _ _ => s (.fn g a q)) (fun g a q _ _ => s (.meth g a q)) (fun b => s (.yld b)) (s .nilf) (fun ty v _ => s (.iface ty v)) (s .nili) (fun r _ => s (.agg r)) (fun vs _ => g vs) (fun i => s (.opq i)) (fun _ _ => ()) (fun _ _ => ()) () (fun _ _ _ _ => ()) () (fun _ _ _ _ => ()) v⟩

/-- an operand -/
def opnd (x : Operand) : OB :=
  Operand.rec (fun i => TGet.rec (fun g => ⟨fun t => g t⟩) (getB i)) (fun v => Option.rec ⟨fun _ => none⟩ (fun a => ⟨fun _ => some a⟩) (ofV v)) (fun _ => ⟨fun _ => none⟩) (fun f => ⟨fun _ => some (.fn f [] [])⟩) x

theorem opnd_eq (x : Operand) (t : TT AV) : (opnd x).run t = aval t x := by
  cases x with
  | tmp i => show OB.run (TGet.rec _ (getB i)) t = TGet.go (getB i) t; cases getB i; rfl
  | const v => show OB.run (Option.rec _ _ (ofV v)) t = ofV v; cases ofV v <;> rfl
  | global g => rfl
  | func f => rfl

end
end Go.Ab
